/-
  Plain laws: what May makes of a scalar.
-/
import Derived.Test.YtneejoienmffmaaGreatN5
import Derived.Test.YtneejoienmffmaaGreatM9
set_option linter.unusedVariables false
set_option linter.unusedSimpArgs false
set_option maxRecDepth 100000
namespace Go.Proofs.T
open Go Go.Proofs Go.Proofs.SX
theorem Is_W {c : Sc} (hc : VSc c) : W64 (scalar_Is c).1 := by
  have hu := hc.2.1
  have ht := hc.1
  unfold scalar_Is
  split
  · exact hu.1
  · split
    · exact ht.1
    · split
      · exact (show W64 (IntKind.u64.wrap c.s.lo) from ⟨wrapu_nonneg, wrapu_lt⟩)
      · exact ⟨by decide, by decide⟩
/-! ### May -/
theorem andNot_may {v m : Int} (hv : W64 v) (hm : W64 m) : Go.bits .and .u64 (Go.bits .andNot .u64 v m) m = 0 := by
  obtain ⟨v, rfl⟩ := exists_bv hv.1 hv.2
  obtain ⟨m, rfl⟩ := exists_bv hm.1 hm.2
  rw [andNot_u64, and_u64, zero_bv, toNat_inj_int, BitVec.and_assoc]
  have : ~~~m &&& m = 0#64 := by rw [BitVec.and_comm]; simp
  rw [this, BitVec.and_zero]
theorem May_props {c : Sc} (hc : VSc c) : VSc (lockgatelaw05_May c) ∧ MayP (lockgatelaw05_May c) := by
  have U := hc.2.1
  have S := hc.2.2
  unfold VUs at U
  unfold VSs at S
  refine ⟨⟨⟨bW .andNot _ _, hc.1.2⟩, ⟨?_, ?_⟩, ?_, ?_⟩, andNot_may hc.1.1 hc.1.2, ?_, ?_⟩
  all_goals
    unfold lockgatelaw05_May
    dsimp only
    split <;> (try split) <;> omega
theorem known_ok : lockgatelaw05_known = true := by decide +kernel
theorem ok_May {c : Sc} (h : okSc c = true) : okSc (lockgatelaw05_May c) = true := decide_eq_true (May_props (of_decide_eq_true h)).1
theorem hi_May {c : Sc} (h : okSc c = true) : decide ((lockgatelaw05_May c).u.hi < 18446744073709551616) = true := decide_eq_true (May_props (of_decide_eq_true h)).1.2.1.2.2
end Go.Proofs.T
