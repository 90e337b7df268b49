/-
  Plain laws: numbers as bits, tnums.
-/
import Derived.Test.YtneejoienmffmaaGreatM
set_option linter.unusedVariables false
set_option maxRecDepth 100000
namespace Go.Proofs.T
open Go Go.Proofs Go.Proofs.SX
/-! ### Numbers as bits -/
theorem ofInt_toNat (a : BitVec 64) : BitVec.ofInt 64 (a.toNat : Int) = a := by
  rw [BitVec.ofInt_natCast]; simp
theorem toNat_emod (a : BitVec 64) : (a.toNat : Int) % 18446744073709551616 = a.toNat := by
  have := a.isLt; omega
theorem and_u64 (a b : BitVec 64) : Go.bits .and .u64 (a.toNat : Int) (b.toNat : Int) = ((a &&& b).toNat : Int) := by
  unfold Go.bits
  rw [wrap_u64]
  show (((BitVec.ofInt 64 (a.toNat : Int)) &&& (BitVec.ofInt 64 (b.toNat : Int))).toNat : Int) % _ = _
  rw [ofInt_toNat, ofInt_toNat, toNat_emod]
theorem or_u64 (a b : BitVec 64) : Go.bits .or .u64 (a.toNat : Int) (b.toNat : Int) = ((a ||| b).toNat : Int) := by
  unfold Go.bits
  rw [wrap_u64]
  show (((BitVec.ofInt 64 (a.toNat : Int)) ||| (BitVec.ofInt 64 (b.toNat : Int))).toNat : Int) % _ = _
  rw [ofInt_toNat, ofInt_toNat, toNat_emod]
theorem xor_u64 (a b : BitVec 64) : Go.bits .xor .u64 (a.toNat : Int) (b.toNat : Int) = ((a ^^^ b).toNat : Int) := by
  unfold Go.bits
  rw [wrap_u64]
  show (((BitVec.ofInt 64 (a.toNat : Int)) ^^^ (BitVec.ofInt 64 (b.toNat : Int))).toNat : Int) % _ = _
  rw [ofInt_toNat, ofInt_toNat, toNat_emod]
theorem andNot_u64 (a b : BitVec 64) : Go.bits .andNot .u64 (a.toNat : Int) (b.toNat : Int) = ((a &&& ~~~b).toNat : Int) := by
  unfold Go.bits
  rw [wrap_u64]
  show (((BitVec.ofInt 64 (a.toNat : Int)) &&& ~~~(BitVec.ofInt 64 (b.toNat : Int))).toNat : Int) % _ = _
  rw [ofInt_toNat, ofInt_toNat, toNat_emod]
theorem add_u64 (a b : BitVec 64) : IntKind.u64.wrap ((a.toNat : Int) + b.toNat) = ((a + b).toNat : Int) := by
  rw [wrap_u64, BitVec.toNat_add]; omega
theorem sub_u64 (a b : BitVec 64) : IntKind.u64.wrap ((a.toNat : Int) - b.toNat) = ((a - b).toNat : Int) := by
  rw [wrap_u64, BitVec.toNat_sub]; have := a.isLt; have := b.isLt; omega
theorem mul_u64 (a b : BitVec 64) : IntKind.u64.wrap ((a.toNat : Int) * b.toNat) = ((a * b).toNat : Int) := by
  rw [wrap_u64, BitVec.toNat_mul, Int.natCast_emod, Int.natCast_mul]; rfl
theorem shr_u64 (a : BitVec 64) (k : Int) : shr .u64 (a.toNat : Int) k = ((a >>> k.toNat).toNat : Int) := by
  unfold shr
  rw [BitVec.toNat_ushiftRight, Nat.shiftRight_eq_div_pow]
  have hb : IntKind.bits .u64 = 64 := rfl
  rw [hb]
  rcases Nat.le_total k.toNat 64 with h | h
  · rw [Nat.min_eq_left h]; exact_mod_cast rfl
  · rw [Nat.min_eq_right h]
    have h1 : a.toNat / 2 ^ k.toNat = 0 := by
      apply Nat.div_eq_of_lt
      exact Nat.lt_of_lt_of_le a.isLt (Nat.pow_le_pow_right (by decide) h)
    have h2 : (a.toNat : Int) / 2 ^ 64 = 0 := by
      have := a.isLt
      have e : ((2 : Int) ^ 64) = 18446744073709551616 := by decide
      rw [e]; omega
    rw [h1, h2]; rfl
theorem shl_u64 (a : BitVec 64) (k : Int) : shl .u64 (a.toNat : Int) k = ((a <<< k.toNat).toNat : Int) := by
  unfold shl
  rw [wrap_u64, BitVec.toNat_shiftLeft, Nat.shiftLeft_eq]
  have hb : IntKind.bits .u64 = 64 := rfl
  rw [hb]
  rcases Nat.le_total k.toNat 64 with h | h
  · rw [Nat.min_eq_left h, Int.natCast_emod, Int.natCast_mul, Int.natCast_pow]
    rfl
  · rw [Nat.min_eq_right h]
    have e : ((2 : Int) ^ 64) = 18446744073709551616 := by decide
    have h1 : a.toNat * 2 ^ k.toNat % 2 ^ 64 = 0 := by
      obtain ⟨j, hj⟩ := Nat.exists_eq_add_of_le h
      rw [hj, Nat.pow_add, ← Nat.mul_assoc, Nat.mul_comm (a.toNat) (2 ^ 64), Nat.mul_assoc]
      exact Nat.mul_mod_right _ _
    rw [h1, e]; omega
theorem exists_bv {x : Int} (h0 : 0 ≤ x) (h1 : x < 18446744073709551616) : ∃ a : BitVec 64, x = (a.toNat : Int) :=
  ⟨BitVec.ofInt 64 x, by rw [BitVec.toNat_ofInt]; omega⟩
theorem toNat_inj_int {a b : BitVec 64} : ((a.toNat : Int) = (b.toNat : Int)) ↔ a = b := by
  constructor
  · intro h; exact BitVec.eq_of_toNat_eq (by omega)
  · intro h; rw [h]
theorem lit_bv (n : Nat) (h : n < 2 ^ 64) : ((n : Nat) : Int) = ((BitVec.ofNat 64 n).toNat : Int) := by
  rw [BitVec.toNat_ofNat, Nat.mod_eq_of_lt h]
theorem ifc {c d : Prop} [Decidable c] [Decidable d] {α : Type} {x y x' y' : α} (h : c ↔ d) (hx : x = x') (hy : y = y') : (if c then x else y) = (if d then x' else y') := by
  subst hx; subst hy
  by_cases hc : c
  · rw [if_pos hc, if_pos (h.1 hc)]
  · rw [if_neg hc, if_neg (fun hd => hc (h.2 hd))]
/-! ### Tnums -/
def tb (v m : BitVec 64) : Tn := ⟨(v.toNat : Int), (m.toNat : Int)⟩
def VTn (t : Tn) : Prop := (0 ≤ t.v ∧ t.v < 18446744073709551616) ∧ (0 ≤ t.m ∧ t.m < 18446744073709551616)
instance (x : Tn) : Decidable (VTn x) := by unfold VTn; infer_instance
theorem tb_of {t : Tn} (h : VTn t) : ∃ v m, t = tb v m := by
  obtain ⟨⟨h1, h2⟩, h3, h4⟩ := h
  obtain ⟨v, hv⟩ := exists_bv h1 h2
  obtain ⟨m, hm⟩ := exists_bv h3 h4
  exact ⟨v, m, by cases t; simp only at hv hm; subst hv; subst hm; rfl⟩
theorem tb_V (v m : BitVec 64) : VTn (tb v m) := by
  have := v.isLt; have := m.isLt
  unfold VTn tb; simp only; omega
theorem tb_inj {v m v' m' : BitVec 64} : tb v m = tb v' m' ↔ v = v' ∧ m = m' := by
  unfold tb
  constructor
  · intro h
    injection h with h1 h2
    exact ⟨toNat_inj_int.1 h1, toNat_inj_int.1 h2⟩
  · rintro ⟨rfl, rfl⟩; rfl
theorem bdec {p : Prop} [Decidable p] {b : Bool} (h : b = true ↔ p) : b = decide p := by
  by_cases hp : p
  · rw [h.2 hp, decide_eq_true hp]
  · rw [decide_eq_false hp]
    cases b
    · rfl
    · exact absurd (h.1 rfl) hp
theorem In_tb (v m x : BitVec 64) : tnum_In (tb v m) (x.toNat : Int) = decide (x &&& ~~~m = v) := by
  unfold tnum_In tb
  simp only [andNot_u64]
  apply bdec
  rw [beq_iff_eq, toNat_inj_int]
theorem clear_tb (v m : BitVec 64) : tnum_clear (v.toNat : Int) (m.toNat : Int) = tb (v &&& ~~~m) m := by
  unfold tnum_clear tb
  rw [andNot_u64]
theorem zero_bv : (0 : Int) = ((0#64).toNat : Int) := rfl
theorem Meet_tb (v m v' m' : BitVec 64) : tnum_Meet (tb v m) (tb v' m') = if (v ^^^ v') &&& ~~~(m ||| m') = 0#64 then (tb ((v ||| v') &&& ~~~(m &&& m')) (m &&& m'), true) else (tb 0 0, false) := by
  unfold tnum_Meet
  refine ifc ?_ ?_ rfl
  · show Go.bits .andNot .u64 (Go.bits .xor .u64 (v.toNat : Int) (v'.toNat : Int)) (Go.bits .or .u64 (m.toNat : Int) (m'.toNat : Int)) = 0 ↔ _
    rw [xor_u64, or_u64, andNot_u64, zero_bv, toNat_inj_int]
  · show (tnum_clear (Go.bits .or .u64 (v.toNat : Int) (v'.toNat : Int)) (Go.bits .and .u64 (m.toNat : Int) (m'.toNat : Int)), true) = _
    rw [or_u64, and_u64, clear_tb]
theorem Within_tb (v m v' m' : BitVec 64) : tnum_Within (tb v m) (tb v' m') = decide (m &&& ~~~m' = 0#64 ∧ v &&& ~~~m' = v') := by
  unfold tnum_Within
  have e : (tb v m).v = (v.toNat : Int) := rfl
  rw [e, In_tb]
  have hc : Go.bits .andNot .u64 (tb v m).m (tb v' m').m = 0 ↔ m &&& ~~~m' = 0#64 := by
    show Go.bits .andNot .u64 (m.toNat : Int) (m'.toNat : Int) = 0 ↔ _
    rw [andNot_u64, zero_bv, toNat_inj_int]
  apply bdec
  by_cases h : m &&& ~~~m' = 0#64
  · rw [if_pos (hc.2 h)]
    simp [h]
  · rw [if_neg (fun h' => h (hc.1 h'))]
    simp [h]
/-! ### Len64 -/
theorem tab_spec : ∀ x : Fin 256, (x.val < 2 ^ (strAt tab0 x).toNat) ∧ (0 < x.val → 1 ≤ (strAt tab0 x).toNat ∧ 2 ^ ((strAt tab0 x).toNat - 1) ≤ x.val) ∧ (x.val = 0 → strAt tab0 x = 0) := by decide
theorem len_piece {n c : Nat} (hc : n / 2 ^ c < 256) (hpos : 0 < n / 2 ^ c ∨ c = 0) : n < 2 ^ (c + (strAt tab0 (n / 2 ^ c : Nat)).toNat) ∧ (0 < n → 1 ≤ c + (strAt tab0 (n / 2 ^ c : Nat)).toNat ∧ 2 ^ (c + (strAt tab0 (n / 2 ^ c : Nat)).toNat - 1) ≤ n) := by
  have h := tab_spec ⟨n / 2 ^ c, hc⟩
  simp only at h
  generalize hk : (strAt tab0 (n / 2 ^ c : Nat)).toNat = k at h ⊢
  obtain ⟨h1, h2, h3⟩ := h
  have hp : 0 < 2 ^ c := Nat.pow_pos (by decide)
  refine ⟨?_, fun hn => ?_⟩
  · have h4 : n < (n / 2 ^ c + 1) * 2 ^ c := by
      have := Nat.lt_div_mul_add (a := n) hp
      rw [Nat.add_mul]; omega
    have : (n / 2 ^ c + 1) * 2 ^ c ≤ 2 ^ k * 2 ^ c := Nat.mul_le_mul_right _ h1
    rw [Nat.pow_add, Nat.mul_comm]
    omega
  · have hx : 0 < n / 2 ^ c := by
      rcases hpos with h | h
      · exact h
      · subst h; simpa using hn
    obtain ⟨h5, h6⟩ := h2 hx
    refine ⟨by omega, ?_⟩
    rw [show c + k - 1 = c + (k - 1) by omega, Nat.pow_add]
    calc 2 ^ c * 2 ^ (k - 1) ≤ 2 ^ c * (n / 2 ^ c) := Nat.mul_le_mul_left _ h6
      _ ≤ n := Nat.mul_div_le _ _
theorem shr_div (n c : Nat) (hc : c ≤ 64) : shr .u64 (n : Int) (c : Int) = ((n / 2 ^ c : Nat) : Int) := by
  unfold shr
  have hb : IntKind.bits .u64 = 64 := rfl
  rw [hb, Int.toNat_natCast, Nat.min_eq_left hc]
  exact_mod_cast rfl
end Go.Proofs.T
