/-
  Plain laws: the bits below.
-/
import Derived.Test.YtneejoienmffmaaGreatM2
set_option linter.unusedVariables false
set_option maxRecDepth 100000
namespace Go.Proofs.T
open Go Go.Proofs Go.Proofs.SX
/-! ### Lengths and the bits below -/
theorem len_leafN {n c : Nat} (hc : c ≤ 56) (h : n / 2 ^ c < 256) : (IntKind.i64.wrap ((c : Int) + IntKind.i64.wrap (strAt tab0 (IntKind.u8.wrap ((n / 2 ^ c : Nat) : Int))))).toNat = c + (strAt tab0 (n / 2 ^ c : Nat)).toNat := by
  generalize n / 2 ^ c = q at *
  rw [len_leaf (by omega) (by omega)]
  have e : IntKind.u8.wrap (q : Int) = (q : Int) := by rw [wrap_u8]; omega
  rw [e]
  have := strAt_nonneg (s := tab0) (n := (q : Int))
  omega
def klen (n : Nat) : Nat := (bits_Len64 n).toNat
theorem klen_le (n : Nat) : klen n ≤ 64 := by
  have := len64_in (v := n); unfold klen; omega
theorem klen_spec {n : Nat} (hn : n < 2 ^ 64) : n < 2 ^ klen n ∧ (0 < n → 1 ≤ klen n ∧ 2 ^ (klen n - 1) ≤ n) := by
  have s32 : shr .u64 (n : Int) 32 = ((n / 2 ^ 32 : Nat) : Int) := shr_div n 32 (by decide)
  have s16 : ∀ n : Nat, shr .u64 (n : Int) 16 = ((n / 2 ^ 16 : Nat) : Int) := fun n => shr_div n 16 (by decide)
  have s8 : ∀ n : Nat, shr .u64 (n : Int) 8 = ((n / 2 ^ 8 : Nat) : Int) := fun n => shr_div n 8 (by decide)
  have d48 : n / 2 ^ 32 / 2 ^ 16 = n / 2 ^ 48 := by rw [Nat.div_div_eq_div_mul]
  have d56 : n / 2 ^ 48 / 2 ^ 8 = n / 2 ^ 56 := by rw [Nat.div_div_eq_div_mul]
  have d40 : n / 2 ^ 32 / 2 ^ 8 = n / 2 ^ 40 := by rw [Nat.div_div_eq_div_mul]
  have d24 : n / 2 ^ 16 / 2 ^ 8 = n / 2 ^ 24 := by rw [Nat.div_div_eq_div_mul]
  have key : ∃ c, c ≤ 56 ∧ n / 2 ^ c < 256 ∧ (0 < n / 2 ^ c ∨ c = 0) ∧ klen n = c + (strAt tab0 (n / 2 ^ c : Nat)).toNat := by
    unfold klen bits_Len64
    simp only [s32, s16, s8, d48, d56, d40, d24]
    have e32 : (2 : Nat) ^ 32 = 4294967296 := by decide
    have e16 : (2 : Nat) ^ 16 = 65536 := by decide
    have e8 : (2 : Nat) ^ 8 = 256 := by decide
    have e48 : (2 : Nat) ^ 48 = 281474976710656 := by decide
    have e56 : (2 : Nat) ^ 56 = 72057594037927936 := by decide
    have e40 : (2 : Nat) ^ 40 = 1099511627776 := by decide
    have e24 : (2 : Nat) ^ 24 = 16777216 := by decide
    have e64 : (2 : Nat) ^ 64 = 18446744073709551616 := by decide
    by_cases h1 : (4294967296 : Int) ≤ n
    · rw [if_pos h1]
      by_cases h2 : (65536 : Int) ≤ ((n / 2 ^ 32 : Nat) : Int)
      · rw [if_pos h2]
        by_cases h3 : (256 : Int) ≤ ((n / 2 ^ 48 : Nat) : Int)
        · rw [if_pos h3]
          exact ⟨(56 : Nat), by decide, by rw [e56] at *; omega, .inl (by rw [e56] at *; omega), len_leafN (c := 56) (by decide) (by rw [e56] at *; omega)⟩
        · rw [if_neg h3]
          exact ⟨(48 : Nat), by decide, by rw [e48] at *; omega, .inl (by rw [e48] at *; omega), len_leafN (c := 48) (by decide) (by rw [e48] at *; omega)⟩
      · rw [if_neg h2]
        by_cases h3 : (256 : Int) ≤ ((n / 2 ^ 32 : Nat) : Int)
        · rw [if_pos h3]
          exact ⟨(40 : Nat), by decide, by rw [e40] at *; omega, .inl (by rw [e40] at *; omega), len_leafN (c := 40) (by decide) (by rw [e40] at *; omega)⟩
        · rw [if_neg h3]
          exact ⟨(32 : Nat), by decide, by rw [e32] at *; omega, .inl (by rw [e32] at *; omega), len_leafN (c := 32) (by decide) (by rw [e32] at *; omega)⟩
    · rw [if_neg h1]
      by_cases h2 : (65536 : Int) ≤ (n : Int)
      · rw [if_pos h2]
        by_cases h3 : (256 : Int) ≤ ((n / 2 ^ 16 : Nat) : Int)
        · rw [if_pos h3]
          exact ⟨(24 : Nat), by decide, by rw [e24] at *; omega, .inl (by rw [e24] at *; omega), len_leafN (c := 24) (by decide) (by rw [e24] at *; omega)⟩
        · rw [if_neg h3]
          exact ⟨(16 : Nat), by decide, by rw [e16] at *; omega, .inl (by rw [e16] at *; omega), len_leafN (c := 16) (by decide) (by rw [e16] at *; omega)⟩
      · rw [if_neg h2]
        by_cases h3 : (256 : Int) ≤ (n : Int)
        · rw [if_pos h3]
          exact ⟨(8 : Nat), by decide, by rw [e8] at *; omega, .inl (by rw [e8] at *; omega), len_leafN (c := 8) (by decide) (by rw [e8] at *; omega)⟩
        · rw [if_neg h3]
          have := len_leafN (n := n) (c := 0) (by omega) (by rw [Nat.pow_zero, Nat.div_one]; omega)
          rw [Nat.pow_zero, Nat.div_one] at this
          exact ⟨0, by omega, by rw [Nat.pow_zero, Nat.div_one]; omega, .inr rfl, by rw [Nat.pow_zero, Nat.div_one]; exact this⟩
  obtain ⟨c, hc, h1, h2, h3⟩ := key
  rw [h3]
  exact len_piece h1 h2
def ones (k : Nat) : BitVec 64 := BitVec.ofNat 64 (2 ^ k - 1)
theorem ones_toNat {k : Nat} (h : k ≤ 64) : (ones k).toNat = 2 ^ k - 1 := by
  unfold ones
  rw [BitVec.toNat_ofNat, Nat.mod_eq_of_lt]
  have := Nat.pow_le_pow_right (n := 2) (by decide) h
  have : 0 < 2 ^ k := Nat.pow_pos (by decide)
  omega
theorem ones_bit {k i : Nat} (hi : i < 64) : (ones k).getLsbD i = decide (i < k) := by
  unfold ones
  rw [BitVec.getLsbD_ofNat, Nat.testBit_two_pow_sub_one]
  simp [hi]
theorem andnot_ones (x : BitVec 64) (k : Nat) : x &&& ~~~ones k = (x >>> k) <<< k := by
  apply BitVec.eq_of_getLsbD_eq
  intro i hi
  rw [BitVec.getLsbD_and, BitVec.getLsbD_not, ones_bit hi, BitVec.getLsbD_shiftLeft, BitVec.getLsbD_ushiftRight]
  by_cases h : i < k
  · simp [h, hi]
  · simp [h, hi, show k + (i - k) = i by omega]
theorem below_eq (x : BitVec 64) : span_below (x.toNat : Int) = ((ones (klen x.toNat)).toNat : Int) := by
  unfold span_below
  have hk := klen_le x.toNat
  rw [ones_toNat hk]
  have h0 := len64_in (v := (x.toNat : Int))
  unfold klen at *
  generalize bits_Len64 (x.toNat : Int) = k at *
  unfold shl
  have hb : IntKind.bits .u64 = 64 := rfl
  rw [hb, Nat.min_eq_left (by omega), Int.one_mul]
  have hp : 1 ≤ 2 ^ k.toNat := Nat.pow_pos (by decide)
  have hcast : (2 : Int) ^ k.toNat = ((2 ^ k.toNat : Nat) : Int) := by rw [Int.natCast_pow]; rfl
  rw [hcast]
  rcases Nat.lt_or_ge k.toNat 64 with h | h
  · have := Nat.pow_le_pow_right (n := 2) (by decide) (show k.toNat ≤ 63 by omega)
    have e63 : (2 : Nat) ^ 63 = 9223372036854775808 := by decide
    rw [wrap_u64_id (x := ((2 ^ k.toNat : Nat) : Int)) (by omega) (by omega), wrap_u64_id (by omega) (by omega)]
    omega
  · have : k.toNat = 64 := by omega
    rw [this]
    decide
theorem ToT_tb (lo hi : BitVec 64) : span_ToT ⟨(lo.toNat : Int), (hi.toNat : Int)⟩ = tb (lo &&& ~~~ones (klen (lo ^^^ hi).toNat)) (ones (klen (lo ^^^ hi).toNat)) := by
  unfold span_ToT tb
  simp only
  rw [xor_u64, below_eq, andNot_u64]
theorem ToT_hi (lo hi : BitVec 64) : lo >>> klen (lo ^^^ hi).toNat = hi >>> klen (lo ^^^ hi).toNat := by
  have h := (klen_spec (lo ^^^ hi).isLt).1
  generalize klen (lo ^^^ hi).toNat = k at *
  have h2 : (lo ^^^ hi) >>> k = 0#64 := by
    apply BitVec.eq_of_toNat_eq
    rw [BitVec.toNat_ushiftRight, Nat.shiftRight_eq_div_pow, Nat.div_eq_of_lt h]; rfl
  rw [BitVec.ushiftRight_xor_distrib] at h2
  exact BitVec.xor_eq_zero_iff.1 h2
theorem ToT_sound {lo hi v : BitVec 64} (h1 : lo.toNat ≤ v.toNat) (h2 : v.toNat ≤ hi.toNat) : tnum_In (span_ToT ⟨(lo.toNat : Int), (hi.toNat : Int)⟩) (v.toNat : Int) = true := by
  rw [ToT_tb, In_tb]
  apply decide_eq_true
  have h := ToT_hi lo hi
  generalize klen (lo ^^^ hi).toNat = k at *
  rw [andnot_ones, andnot_ones]
  congr 1
  apply BitVec.eq_of_toNat_eq
  have h3 := congrArg BitVec.toNat h
  simp only [BitVec.toNat_ushiftRight, Nat.shiftRight_eq_div_pow] at h3 ⊢
  have h4 := Nat.div_le_div_right (c := 2 ^ k) h1
  have h5 := Nat.div_le_div_right (c := 2 ^ k) h2
  omega
end Go.Proofs.T
