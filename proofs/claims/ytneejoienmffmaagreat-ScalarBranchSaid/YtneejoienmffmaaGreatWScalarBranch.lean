/-
  The functions of the program keep their contracts: what they make is what the functions of plain data say.
-/
import Derived.Test.YtneejoienmffmaaGreatDL
import Derived.Test.YtneejoienmffmaaGreatN6
import Derived.Test.YtneejoienmffmaaGreatC8
import Derived.KernelRfl
set_option linter.unusedVariables false
set_option maxRecDepth 100000
namespace Go.Proofs.T
open Go Go.Proofs Go.Proofs.SX
theorem K_lockgatelaw05_ScalarBranch : Keeps Tryz.prog 4 (F5 (cI .i64) cB cB cSc cSc cB (fun _ _ _ d e => [(okSc d, true), (okSc e, true)]) lockgatelaw05_ScalarBranch) := by
  refine keeps5 _ _ _ _ _ _ (enters_of Tryz.func4 (by kernel_rfl)) fun a b c d e hp_ => ?_
  have p0 := hp_.1
  have p1 := hp_.2.1
  unfold lockgatelaw05_ScalarBranch
  have O_ := (orc_cons K_lockgatelaw05_May (orc_cons K_scalar_Branch (orc_cons K_lockgateref05_Branch (orc_cons K_lockgatelaw05_known on_))))
  refine gite (fun h0 => ?_) (fun h0 => ?_)
  · refine gite (fun h1 => ?_) (fun h1 => ?_)
    · refine gite (fun h2 => ?_) (fun h2 => ?_)
      · exact gv mix O_ 400 [t0, t0, t0, t0, t0, t0, t0, t0, t0, t0] (a4 h0 (a4 h1 (a2 h2 trivial))) (by kernel_rfl) rfl rfl
      · exact gv mix O_ 400 [t0, t0, t0, t0, t0, t0, t0, t0, f0, f0] (a4 h0 (a4 h1 (a2 (bf h2) trivial))) (by kernel_rfl) rfl rfl
    · exact gv mix O_ 400 [t0, t0, t0, t0, f0, f0, f0, f0] (a4 h0 (a4 (bf h1) trivial)) (by kernel_rfl) rfl rfl
  · exact gv mix O_ 400 [f0, f0, f0, f0] (a4 (bf h0) trivial) (by kernel_rfl) rfl rfl
end Go.Proofs.T
