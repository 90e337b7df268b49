/-
  Plain laws: Norm of what is learnt.
-/
import Derived.Test.YtneejoienmffmaaGreatN8
set_option linter.unusedVariables false
set_option linter.unusedSimpArgs false
set_option maxRecDepth 100000
namespace Go.Proofs.T
open Go Go.Proofs Go.Proofs.SX
def TM (t : Tn) : Prop := Go.bits .and .u64 t.v t.m = 0
theorem TM_tb {v m : BitVec 64} : TM (tb v m) ↔ v &&& m = 0#64 := mayT_tb
theorem ronce' {x : Sc} (h : VSc x) (m1 : TM x.t) (m3 : x.s.lo ≤ x.s.hi) : lockgateref05_once x = once x := by
  have eF := rFromT h.1 m1
  have eU := rToU m3
  have V2 : VUs (nU2 x).1 := nU2_V h
  unfold lockgateref05_once once
  rw [eF, eU]
  simp only [rUMeet, rSMeet]
  change (if (nU1 x).2 = true then (if (nU2 x).2 = true then (if (span_SMeet x.s (lockgateref04_ToS (nU2 x).1)).2 = true then (if (span_SMeet (span_SMeet x.s (lockgateref04_ToS (nU2 x).1)).1 (span_FromT x.t).2).2 = true then (if (lockgateref03_Meet x.t (lockgateref04_ToT (nU2 x).1)).2 = true then (⟨(lockgateref03_Meet x.t (lockgateref04_ToT (nU2 x).1)).1, (nU2 x).1, (span_SMeet (span_SMeet x.s (lockgateref04_ToS (nU2 x).1)).1 (span_FromT x.t).2).1⟩, true) else (sz, false)) else (sz, false)) else (sz, false)) else (sz, false)) else (sz, false)) = _
  rw [rToS V2, rToT V2, rMeet h.1 (ToT_V V2) m1 (ToT_may V2)]
  rfl
theorem rNorm' {x : Sc} (h : VSc x) (m1 : TM x.t) (m3 : x.s.lo ≤ x.s.hi) : lockgateref05_Norm x = scalar_Norm x := by
  rw [Norm_eq]
  unfold lockgateref05_Norm
  rw [ronce' h m1 m3]
  by_cases h2 : (once x).2 = true
  · rw [if_pos h2, if_pos h2, ronce (once_V h) (once_may h h2)]
  · rw [if_neg h2, if_neg h2]; rfl
end Go.Proofs.T
