/-
  The functions of the program keep their contracts: what they make is what the functions of plain data say.
-/
import Derived.Test.YtneejoienmffmaaD
import Derived.Test.YtneejoienmffmaaM5
import Derived.Test.YtneejoienmffmaaC7
import Derived.KernelRfl
set_option linter.unusedVariables false
set_option maxRecDepth 100000
namespace Go.Proofs.T
open Go Go.Proofs Go.Proofs.SX
theorem K_lockgatelaw18_KindsHolds : Keeps Try.prog 4 (F5 cAR cVl (cI .i64) (cI .u64) (cI .i64) cB (fun _ _ _ _ _ => []) lockgatelaw18_KindsHolds) := by
  refine keeps5 _ _ _ _ _ _ (enters_of Try.func4 (by kernel_rfl)) fun a b c d e hp_ => ?_
  unfold lockgatelaw18_KindsHolds
  refine gite (fun h0 => ?_) (fun h0 => ?_)
  · refine gite (fun h1 => ?_) (fun h1 => ?_)
    · exact gv mix (orc_cons K_lockgatelaw18_Right (orc_cons K_lockgatelaw18_works (orc_cons K_kinds_Holds (orc_cons K_lockgateref18_Holds orc_nil)))) 400 [(0, false), (0, false), (0, false), (0, true), (0, true), (0, true)] (And.intro (congrArg (! ·) h0) (And.intro (congrArg (! ·) h0) (And.intro (congrArg (! ·) h0) (And.intro (decide_eq_true h1) (And.intro (decide_eq_true h1) (And.intro (decide_eq_true h1) trivial)))))) (by kernel_rfl) rfl rfl
    · refine gite (fun h2 => ?_) (fun h2 => ?_)
      · exact gv mix (orc_cons K_lockgatelaw18_Right (orc_cons K_lockgatelaw18_works (orc_cons K_kinds_Holds (orc_cons K_lockgateref18_Holds orc_nil)))) 400 [(0, false), (0, false), (0, false), (0, false), (0, false), (0, false), (0, true)] (And.intro (congrArg (! ·) h0) (And.intro (congrArg (! ·) h0) (And.intro (congrArg (! ·) h0) (And.intro (decide_eq_false h1) (And.intro (decide_eq_false h1) (And.intro (decide_eq_false h1) (And.intro (decide_eq_true h2) trivial))))))) (by kernel_rfl) rfl rfl
      · refine gite (fun h3 => ?_) (fun h3 => ?_)
        · exact gv mix (orc_cons K_lockgatelaw18_Right (orc_cons K_lockgatelaw18_works (orc_cons K_kinds_Holds (orc_cons K_lockgateref18_Holds orc_nil)))) 400 [(0, false), (0, false), (0, false), (0, false), (0, false), (0, false), (0, false), (0, true), (0, true)] (And.intro (congrArg (! ·) h0) (And.intro (congrArg (! ·) h0) (And.intro (congrArg (! ·) h0) (And.intro (decide_eq_false h1) (And.intro (decide_eq_false h1) (And.intro (decide_eq_false h1) (And.intro (decide_eq_false h2) (And.intro h3 (And.intro h3 trivial))))))))) (by kernel_rfl) rfl rfl
        · exact gv mix (orc_cons K_lockgatelaw18_Right (orc_cons K_lockgatelaw18_works (orc_cons K_kinds_Holds (orc_cons K_lockgateref18_Holds orc_nil)))) 400 [(0, false), (0, false), (0, false), (0, false), (0, false), (0, false), (0, false), (0, false), (0, false)] (And.intro (congrArg (! ·) h0) (And.intro (congrArg (! ·) h0) (And.intro (congrArg (! ·) h0) (And.intro (decide_eq_false h1) (And.intro (decide_eq_false h1) (And.intro (decide_eq_false h1) (And.intro (decide_eq_false h2) (And.intro (Bool.eq_false_iff.2 h3) (And.intro (Bool.eq_false_iff.2 h3) trivial))))))))) (by kernel_rfl) rfl rfl
  · exact gv mix (orc_cons K_lockgatelaw18_Right (orc_cons K_lockgatelaw18_works (orc_cons K_kinds_Holds (orc_cons K_lockgateref18_Holds orc_nil)))) 400 [(0, true), (0, true), (0, true)] (And.intro (congrArg (! ·) (Bool.eq_false_iff.2 h0)) (And.intro (congrArg (! ·) (Bool.eq_false_iff.2 h0)) (And.intro (congrArg (! ·) (Bool.eq_false_iff.2 h0)) trivial))) (by kernel_rfl) rfl rfl
end Go.Proofs.T
