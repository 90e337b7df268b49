/-
  The functions of the program keep their contracts: what they make is what the functions of plain data say.
-/
import Derived.Test.YtneejoienmffmaaGreatDL
import Derived.Test.YtneejoienmffmaaGreatN6
import Derived.Test.YtneejoienmffmaaGreatC6
import Derived.KernelRfl
set_option linter.unusedVariables false
set_option maxRecDepth 100000
namespace Go.Proofs.T
open Go Go.Proofs Go.Proofs.SX
theorem K_lockgatelaw05_ScalarSwap : Keeps Tryz.prog 6 (F3 (cI .i64) cB cSc cB (fun _ _ c => [(okSc c, true)]) lockgatelaw05_ScalarSwap) := by
  refine keeps3 _ _ _ _ (enters_of Tryz.func6 (by kernel_rfl)) fun a b c hp_ => ?_
  have p0 := hp_.1
  unfold lockgatelaw05_ScalarSwap
  have O_ := (orc_cons K_lockgatelaw05_May (orc_cons K_scalar_Swap (orc_cons K_lockgateref05_Swap (orc_cons K_lockgatelaw05_known on_))))
  refine gite (fun h0 => ?_) (fun h0 => ?_)
  · exact gv mix O_ 400 [t0, t0] (a2 h0 trivial) (by kernel_rfl) rfl rfl
  · exact gv mix O_ 400 [f0, f0] (a2 (bf h0) trivial) (by kernel_rfl) rfl rfl
end Go.Proofs.T
