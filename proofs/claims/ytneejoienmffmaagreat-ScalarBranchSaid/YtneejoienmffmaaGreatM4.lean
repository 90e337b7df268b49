/-
  Plain laws: signs and spans.
-/
import Derived.Test.YtneejoienmffmaaGreatM3
set_option linter.unusedVariables false
set_option maxRecDepth 100000
namespace Go.Proofs.T
open Go Go.Proofs Go.Proofs.SX
/-! ### Signs -/
theorem wrap_toInt (x : BitVec 64) : IntKind.i64.wrap (x.toNat : Int) = x.toInt := by
  have := x.isLt
  rw [wrap_i64, BitVec.toInt_eq_toNat_cond]
  split <;> split <;> omega
theorem toInt_lo {x : BitVec 64} (h : x.toNat < 9223372036854775808) : x.toInt = (x.toNat : Int) := by
  rw [BitVec.toInt_eq_toNat_cond, if_pos (by omega)]
theorem toInt_hi {x : BitVec 64} (h : 9223372036854775808 ≤ x.toNat) : x.toInt = (x.toNat : Int) - 18446744073709551616 := by
  rw [BitVec.toInt_eq_toNat_cond, if_neg (by omega)]; rfl
theorem le_of_and {x y : BitVec 64} (h : x &&& y = x) : x.toNat ≤ y.toNat := by
  have := congrArg BitVec.toNat h
  rw [BitVec.toNat_and] at this
  rw [← this]; exact Nat.and_le_right
def top : BitVec 64 := 9223372036854775808#64
theorem top_bit {i : Nat} (hi : i < 64) : top.getLsbD i = decide (i = 63) := by
  have : ∀ i : Fin 64, top.getLsbD i.val = decide (i.val = 63) := by decide
  exact this ⟨i, hi⟩
theorem bit63 (x : BitVec 64) : x.getLsbD 63 = decide (9223372036854775808 ≤ x.toNat) := by
  have h := BitVec.msb_eq_decide x
  rw [BitVec.msb_eq_getLsbD_last] at h
  exact h
theorem b63t {x : BitVec 64} : x.getLsbD 63 = true ↔ 9223372036854775808 ≤ x.toNat := by
  rw [bit63]; exact decide_eq_true_iff
theorem b63f {x : BitVec 64} : x.getLsbD 63 = false ↔ x.toNat < 9223372036854775808 := by
  rw [bit63, decide_eq_false_iff_not]; omega
theorem and_top (x : BitVec 64) : x &&& top = 0#64 ↔ x.toNat < 9223372036854775808 := by
  constructor
  · intro h
    have h2 : (x &&& top).getLsbD 63 = false := by rw [h]; rfl
    rw [BitVec.getLsbD_and, top_bit (show 63 < 64 by decide)] at h2
    apply b63f.1
    cases hx : x.getLsbD 63
    · rfl
    · rw [hx] at h2; simp at h2
  · intro h
    apply BitVec.eq_of_getLsbD_eq
    intro i hi
    rw [BitVec.getLsbD_and, top_bit hi]
    by_cases h3 : i = 63
    · subst h3; rw [b63f.2 h]; rfl
    · simp [h3]
/-! ### The ends of a tnum -/
theorem tn_lo {t m v : BitVec 64} (h : v &&& ~~~m = t) : t.toNat ≤ v.toNat := by
  apply le_of_and
  subst h
  apply BitVec.eq_of_getLsbD_eq
  intro i hi
  simp only [BitVec.getLsbD_and, BitVec.getLsbD_not]
  cases v.getLsbD i <;> cases m.getLsbD i <;> simp [hi]
theorem tn_hi {t m v : BitVec 64} (h : v &&& ~~~m = t) : v.toNat ≤ (t ||| m).toNat := by
  apply le_of_and
  subst h
  apply BitVec.eq_of_getLsbD_eq
  intro i hi
  simp only [BitVec.getLsbD_and, BitVec.getLsbD_not, BitVec.getLsbD_or]
  cases v.getLsbD i <;> cases m.getLsbD i <;> simp [hi]
theorem tn_bit63 {t m v : BitVec 64} (h : v &&& ~~~m = t) : t.getLsbD 63 = (v.getLsbD 63 && !m.getLsbD 63) := by
  subst h
  rw [BitVec.getLsbD_and, BitVec.getLsbD_not]; rfl
theorem tn_lo' {t m v : BitVec 64} (h : v &&& ~~~m = t) (hv : 9223372036854775808 ≤ v.toNat) : (t ||| top).toNat ≤ v.toNat := by
  apply le_of_and
  have h63 : v.getLsbD 63 = true := b63t.2 hv
  subst h
  apply BitVec.eq_of_getLsbD_eq
  intro i hi
  simp only [BitVec.getLsbD_and, BitVec.getLsbD_not, BitVec.getLsbD_or, top_bit hi]
  by_cases h3 : i = 63
  · subst h3; rw [h63]; simp
  · cases v.getLsbD i <;> cases m.getLsbD i <;> simp [hi, h3]
theorem tn_hi' {t m v : BitVec 64} (h : v &&& ~~~m = t) (hv : v.toNat < 9223372036854775808) : v.toNat ≤ (t ||| (m &&& ~~~top)).toNat := by
  apply le_of_and
  have h63 : v.getLsbD 63 = false := b63f.2 hv
  subst h
  apply BitVec.eq_of_getLsbD_eq
  intro i hi
  simp only [BitVec.getLsbD_and, BitVec.getLsbD_not, BitVec.getLsbD_or, top_bit hi]
  by_cases h3 : i = 63
  · subst h3; rw [h63]; rfl
  · cases v.getLsbD i <;> cases m.getLsbD i <;> simp [hi, h3]
theorem top_int : (9223372036854775808 : Int) = ((top).toNat : Int) := by decide
theorem FromT_tb (t m : BitVec 64) : span_FromT (tb t m) = if m &&& top = 0#64 then (⟨(t.toNat : Int), ((t ||| m).toNat : Int)⟩, ⟨t.toInt, (t ||| m).toInt⟩) else (⟨(t.toNat : Int), ((t ||| m).toNat : Int)⟩, ⟨(t ||| top).toInt, (t ||| (m &&& ~~~top)).toInt⟩) := by
  unfold span_FromT
  refine ifc ?_ ?_ ?_
  · show Go.bits .and .u64 (m.toNat : Int) 9223372036854775808 = 0 ↔ _
    rw [top_int, and_u64, zero_bv, toNat_inj_int]
  · show ((⟨(t.toNat : Int), Go.bits .or .u64 (t.toNat : Int) (m.toNat : Int)⟩ : Us), (⟨IntKind.i64.wrap (t.toNat : Int), IntKind.i64.wrap (Go.bits .or .u64 (t.toNat : Int) (m.toNat : Int))⟩ : Ss)) = _
    rw [or_u64, wrap_toInt, wrap_toInt]
  · show ((⟨(t.toNat : Int), Go.bits .or .u64 (t.toNat : Int) (m.toNat : Int)⟩ : Us), (⟨IntKind.i64.wrap (Go.bits .or .u64 (t.toNat : Int) 9223372036854775808), IntKind.i64.wrap (Go.bits .or .u64 (t.toNat : Int) (Go.bits .andNot .u64 (m.toNat : Int) 9223372036854775808))⟩ : Ss)) = _
    rw [or_u64, top_int, or_u64, andNot_u64, or_u64, wrap_toInt, wrap_toInt]
def inU (u : Us) (v : Int) : Prop := u.lo ≤ v ∧ v ≤ u.hi
def inS (s : Ss) (v : Int) : Prop := s.lo ≤ IntKind.i64.wrap v ∧ IntKind.i64.wrap v ≤ s.hi
theorem FromT_sound {t m v : BitVec 64} (h : v &&& ~~~m = t) : inU (span_FromT (tb t m)).1 (v.toNat : Int) ∧ inS (span_FromT (tb t m)).2 (v.toNat : Int) := by
  have h1 := tn_lo h
  have h2 := tn_hi h
  rw [FromT_tb]
  unfold inU inS
  rw [wrap_toInt]
  by_cases hm : m &&& top = 0#64
  · rw [if_pos hm]
    have hm2 := (and_top m).1 hm
    have b1 := tn_bit63 h
    have bm : m.getLsbD 63 = false := b63f.2 hm2
    have b2 : (t ||| m).getLsbD 63 = v.getLsbD 63 := by rw [BitVec.getLsbD_or, b1, bm]; simp
    rw [bm, Bool.not_false, Bool.and_true] at b1
    refine ⟨⟨by simp only; omega, by simp only; omega⟩, ?_⟩
    simp only
    by_cases hv : v.toNat < 9223372036854775808
    · rw [b63f.2 hv] at b1 b2
      rw [toInt_lo hv, toInt_lo (b63f.1 b1), toInt_lo (b63f.1 b2)]; omega
    · rw [b63t.2 (show 9223372036854775808 ≤ v.toNat by omega)] at b1 b2
      rw [toInt_hi (x := v) (by omega), toInt_hi (b63t.1 b1), toInt_hi (b63t.1 b2)]; omega
  · rw [if_neg hm]
    have hm2 : ¬ m.toNat < 9223372036854775808 := fun h => hm ((and_top m).2 h)
    have bm : m.getLsbD 63 = true := b63t.2 (by omega)
    have b1 := tn_bit63 h
    rw [bm] at b1
    have b2 : (t ||| top).getLsbD 63 = true := by rw [BitVec.getLsbD_or, top_bit (by decide)]; simp
    have b3 : (t ||| (m &&& ~~~top)).getLsbD 63 = false := by rw [BitVec.getLsbD_or, b1, BitVec.getLsbD_and, BitVec.getLsbD_not, top_bit (by decide)]; simp
    have b2 := b63t.1 b2
    have b3 := b63f.1 b3
    refine ⟨⟨by simp only; omega, by simp only; omega⟩, ?_⟩
    simp only
    by_cases hv : v.toNat < 9223372036854775808
    · have h3 := tn_hi' h hv
      rw [toInt_lo hv, toInt_hi b2, toInt_lo b3]
      have := (t ||| top).isLt
      omega
    · have h3 := tn_lo' h (by omega)
      rw [toInt_hi (x := v) (by omega), toInt_hi b2, toInt_lo b3]
      have := v.isLt
      omega
/-! ### Spans -/
theorem UMeet_eq (a b : Us) : span_UMeet a b = if (if b.lo > a.lo then b.lo else a.lo) ≤ (if b.hi < a.hi then b.hi else a.hi) then (⟨if b.lo > a.lo then b.lo else a.lo, if b.hi < a.hi then b.hi else a.hi⟩, true) else (⟨0, 0⟩, false) := by
  unfold span_UMeet span_meet_uint64
  simp only [decide_eq_true_eq]
theorem SMeet_eq (a b : Ss) : span_SMeet a b = if (if b.lo > a.lo then b.lo else a.lo) ≤ (if b.hi < a.hi then b.hi else a.hi) then (⟨if b.lo > a.lo then b.lo else a.lo, if b.hi < a.hi then b.hi else a.hi⟩, true) else (⟨0, 0⟩, false) := by
  unfold span_SMeet span_meet_int64
  simp only [decide_eq_true_eq]
theorem UMeet_sound {a b : Us} {v : Int} (ha : inU a v) (hb : inU b v) : (span_UMeet a b).2 = true ∧ inU (span_UMeet a b).1 v := by
  rw [UMeet_eq]
  unfold inU at *
  rw [if_pos (by split <;> split <;> omega)]
  refine ⟨rfl, ?_⟩
  simp only
  split <;> split <;> omega
theorem SMeet_sound {a b : Ss} {v : Int} (ha : inS a v) (hb : inS b v) : (span_SMeet a b).2 = true ∧ inS (span_SMeet a b).1 v := by
  rw [SMeet_eq]
  unfold inS at *
  rw [if_pos (by split <;> split <;> omega)]
  refine ⟨rfl, ?_⟩
  simp only
  split <;> split <;> omega
theorem UMeet_sub {a b : Us} (h : (span_UMeet a b).2 = true) : (span_UMeet a b).1.lo ≤ (span_UMeet a b).1.hi ∧ a.lo ≤ (span_UMeet a b).1.lo ∧ (span_UMeet a b).1.hi ≤ a.hi ∧ ((span_UMeet a b).1.lo = a.lo ∨ (span_UMeet a b).1.lo = b.lo) ∧ ((span_UMeet a b).1.hi = a.hi ∨ (span_UMeet a b).1.hi = b.hi) := by
  rw [UMeet_eq] at h ⊢
  by_cases hc : (if b.lo > a.lo then b.lo else a.lo) ≤ (if b.hi < a.hi then b.hi else a.hi)
  · rw [if_pos hc] at h ⊢
    refine ⟨hc, ?_⟩
    simp only
    split <;> split <;> omega
  · rw [if_neg hc] at h; cases h
theorem SMeet_sub {a b : Ss} (h : (span_SMeet a b).2 = true) : (span_SMeet a b).1.lo ≤ (span_SMeet a b).1.hi ∧ a.lo ≤ (span_SMeet a b).1.lo ∧ (span_SMeet a b).1.hi ≤ a.hi ∧ ((span_SMeet a b).1.lo = a.lo ∨ (span_SMeet a b).1.lo = b.lo) ∧ ((span_SMeet a b).1.hi = a.hi ∨ (span_SMeet a b).1.hi = b.hi) := by
  rw [SMeet_eq] at h ⊢
  by_cases hc : (if b.lo > a.lo then b.lo else a.lo) ≤ (if b.hi < a.hi then b.hi else a.hi)
  · rw [if_pos hc] at h ⊢
    refine ⟨hc, ?_⟩
    simp only
    split <;> split <;> omega
  · rw [if_neg hc] at h; cases h
def VUs (u : Us) : Prop := (0 ≤ u.lo ∧ u.lo < 18446744073709551616) ∧ (0 ≤ u.hi ∧ u.hi < 18446744073709551616)
def VSs (s : Ss) : Prop := (-9223372036854775808 ≤ s.lo ∧ s.lo < 9223372036854775808) ∧ (-9223372036854775808 ≤ s.hi ∧ s.hi < 9223372036854775808)
instance (x : Us) : Decidable (VUs x) := by unfold VUs; infer_instance
instance (x : Ss) : Decidable (VSs x) := by unfold VSs; infer_instance
theorem UMeet_no {a b : Us} (h : ¬ (span_UMeet a b).2 = true) : (span_UMeet a b).1 = ⟨0, 0⟩ := by
  rw [UMeet_eq] at h ⊢
  by_cases hc : (if b.lo > a.lo then b.lo else a.lo) ≤ (if b.hi < a.hi then b.hi else a.hi)
  · rw [if_pos hc] at h; exact absurd rfl h
  · rw [if_neg hc]
theorem SMeet_no {a b : Ss} (h : ¬ (span_SMeet a b).2 = true) : (span_SMeet a b).1 = ⟨0, 0⟩ := by
  rw [SMeet_eq] at h ⊢
  by_cases hc : (if b.lo > a.lo then b.lo else a.lo) ≤ (if b.hi < a.hi then b.hi else a.hi)
  · rw [if_pos hc] at h; exact absurd rfl h
  · rw [if_neg hc]
theorem UMeet_V {a b : Us} (ha : VUs a) (hb : VUs b) : VUs (span_UMeet a b).1 := by
  by_cases h : (span_UMeet a b).2 = true
  · have := UMeet_sub h
    unfold VUs at *
    omega
  · rw [UMeet_no h]; decide
theorem SMeet_V {a b : Ss} (ha : VSs a) (hb : VSs b) : VSs (span_SMeet a b).1 := by
  by_cases h : (span_SMeet a b).2 = true
  · have := SMeet_sub h
    unfold VSs at *
    omega
  · rw [SMeet_no h]; decide
theorem ToU_V (s : Ss) : VUs (span_ToU s) := by
  unfold span_ToU VUs
  split
  · simp only; exact ⟨⟨wrapu_nn, wrapu_lt⟩, wrapu_nn, wrapu_lt⟩
  · decide
theorem ToS_V (u : Us) : VSs (span_ToS u) := by
  unfold span_ToS VSs
  split
  · simp only; exact ⟨wraps_in, wraps_in⟩
  · decide
theorem ToU_sound {s : Ss} {v : Int} (hs : VSs s) (h0 : 0 ≤ v) (h1 : v < 18446744073709551616) (h : inS s v) : inU (span_ToU s) v := by
  unfold inS VSs at *
  unfold inU span_ToU
  split
  · rename_i hc
    rw [beq_iff_eq] at hc
    simp only [wrap_u64, wrap_i64] at h ⊢
    have hc' : (s.lo < 0) ↔ (s.hi < 0) := by
      constructor
      · intro h'; rw [decide_eq_true h'] at hc; exact of_decide_eq_true hc.symm
      · intro h'; rw [decide_eq_true h'] at hc; exact of_decide_eq_true hc
    split at h <;> omega
  · show (0 : Int) ≤ v ∧ v ≤ 18446744073709551615
    omega
theorem shr63 {x : Int} (h0 : 0 ≤ x) (h1 : x < 18446744073709551616) : shr .u64 x 63 = if x < 9223372036854775808 then 0 else 1 := by
  unfold shr
  have : (2 : Int) ^ min (Int.toNat 63) (IntKind.bits .u64) = 9223372036854775808 := by decide
  rw [this]
  split <;> omega
theorem ToS_sound {u : Us} {v : Int} (hu : VUs u) (h : inU u v) : inS (span_ToS u) v := by
  unfold VUs inU at *
  unfold inS span_ToS
  rw [shr63 (by omega) (by omega), shr63 (by omega) (by omega)]
  have hw := wraps_in (x := v)
  by_cases h1 : u.lo < 9223372036854775808
  · by_cases h2 : u.hi < 9223372036854775808
    · rw [if_pos h1, if_pos h2, if_pos rfl]
      simp only [wrap_i64]
      (repeat' split) <;> omega
    · rw [if_pos h1, if_neg h2, if_neg (by decide)]
      show (-9223372036854775808 : Int) ≤ _ ∧ _ ≤ (9223372036854775807 : Int)
      omega
  · have h2 : ¬ u.hi < 9223372036854775808 := by omega
    rw [if_neg h1, if_neg h2, if_pos rfl]
    simp only [wrap_i64]
    (repeat' split) <;> omega
end Go.Proofs.T
