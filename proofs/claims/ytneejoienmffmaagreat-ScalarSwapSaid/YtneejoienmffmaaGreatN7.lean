/-
  ScalarSwap: the plain law.
-/
import Derived.Test.YtneejoienmffmaaGreatN6
import Derived.Test.YtneejoienmffmaaGreatDL
set_option linter.unusedVariables false
set_option maxRecDepth 100000
namespace Go.Proofs.T
open Go Go.Proofs Go.Proofs.SX
theorem ScalarSwap_ok {a : Int} {b : Bool} {c : Sc} (hc : VSc c) : lockgatelaw05_ScalarSwap a b c = true := by
  have h := rSwap (a := a) b (May_props hc).1
  unfold lockgatelaw05_ScalarSwap
  rw [h, known_ok]
  simp
end Go.Proofs.T
