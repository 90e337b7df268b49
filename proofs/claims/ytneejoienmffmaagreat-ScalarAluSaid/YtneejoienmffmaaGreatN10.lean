/-
  Plain laws: the loops of the document's operations.
-/
import Derived.Test.YtneejoienmffmaaGreatN9
set_option linter.unusedVariables false
set_option linter.unusedSimpArgs false
set_option maxRecDepth 100000
namespace Go.Proofs.T
open Go Go.Proofs Go.Proofs.SX
/-! ### ULsh -/
theorem ULsh_loop (a : Us) (ha : VUs a) (b : Int) (K : Nat) (hb : lockgateref04_round b = (K : Int)) (hK : K ≤ 63) : ∀ (n k : Nat), k ≤ K → K + 1 ≤ n + k → a.hi * 2 ^ k < 18446744073709551616 →
    lockgateref04_ULsh_L a b n k ((a.lo * 2 ^ k) % 18446744073709551616) (a.hi * 2 ^ k) = if a.hi * 2 ^ K < 18446744073709551616 then some (.brk ((K : Int), (a.lo * 2 ^ K) % 18446744073709551616, a.hi * 2 ^ K)) else some (.ret span_UAll)
  | 0, k, h1, h2, h3 => by omega
  | n + 1, k, h1, h2, h3 => by
    rw [lockgateref04_ULsh_L, hb, rtop, rUAll]
    have A2 := ha.2
    have hp := pw k
    have hh : 0 ≤ a.hi * 2 ^ k := Int.mul_nonneg A2.1 (by omega)
    by_cases hk : k = K
    · subst hk; rw [if_neg (by omega), if_pos h3]
    · rw [if_pos (by omega)]
      have e2 : a.hi * 2 ^ (k + 1) = 2 * (a.hi * 2 ^ k) := by rw [Int.pow_succ, ← Int.mul_assoc]; omega
      have e1 : a.lo * 2 ^ (k + 1) = 2 * (a.lo * 2 ^ k) := by rw [Int.pow_succ, ← Int.mul_assoc]; omega
      by_cases ht : 9223372036854775808 ≤ a.hi * 2 ^ k
      · rw [if_pos ht, if_neg]
        intro h
        have : (2 : Int) ^ (k + 1) ≤ 2 ^ K := pw_le (by omega)
        have : a.hi * 2 ^ (k + 1) ≤ a.hi * 2 ^ K := Int.mul_le_mul_of_nonneg_left this A2.1
        omega
      · rw [if_neg ht, i64_succ (by omega)]
        have w1 : IntKind.u64.wrap (2 * (a.lo * 2 ^ k % 18446744073709551616)) = a.lo * 2 ^ (k + 1) % 18446744073709551616 := by
          rw [e1, wrap_u64]; omega
        have w2 : IntKind.u64.wrap (2 * (a.hi * 2 ^ k)) = a.hi * 2 ^ (k + 1) := by
          rw [e2, wrap_u64_id (by omega) (by omega)]
        rw [w1, w2]
        exact ULsh_loop a ha b K hb hK n (k + 1) (by omega) (by omega) (by omega)
theorem rULsh {a : Us} (ha : VUs a) {n : Int} (h0 : 0 ≤ n) (h1 : n ≤ 63) : lockgateref04_ULsh a n = span_ULsh a n := by
  obtain ⟨K, rfl⟩ := Int.eq_ofNat_of_zero_le h0
  have A1 := ha.1
  have A2 := ha.2
  have hl := ULsh_loop a ha (K : Int) K (rround h0 h1) (by omega) 65 0 (by omega) (by omega) (by rw [Int.pow_zero]; omega)
  have e : ((0 : Nat) : Int) = 0 := rfl
  have e1 : a.lo * 1 % 18446744073709551616 = a.lo := by omega
  rw [Int.pow_zero, e1, Int.mul_one, e] at hl
  unfold lockgateref04_ULsh span_ULsh
  rw [hl, and63_id h0 h1, shl_int h0 h1, shl_int h0 h1, shr_int h0 h1, Int.toNat_natCast]
  have hp := pw K
  have hh : 0 ≤ a.hi * 2 ^ K := Int.mul_nonneg A2.1 (by omega)
  by_cases h : a.hi * 2 ^ K < 18446744073709551616
  · have e2 : a.hi * 2 ^ K % 18446744073709551616 = a.hi * 2 ^ K := by omega
    rw [if_pos h, e2, Int.mul_ediv_cancel _ (by omega), if_pos rfl]
  · rw [if_neg h, if_neg]
    intro h'
    have hlt : a.hi * 2 ^ K % 18446744073709551616 < a.hi * 2 ^ K := by omega
    have hm : 0 ≤ a.hi * 2 ^ K % 18446744073709551616 := by omega
    have := Int.ediv_lt_of_lt_mul (a := a.hi * 2 ^ K % 18446744073709551616) (b := a.hi) (c := 2 ^ K) hp hlt
    omega
/-! ### UOr -/
theorem full_loop (a : Int) (K : Nat) (hK : K ≤ 64) (h1 : a < 2 ^ K) (h2 : 0 < K → 2 ^ (K - 1) ≤ a) : ∀ (n k : Nat), k ≤ K → K + 1 ≤ n + k → lockgateref04_full_L a n (2 ^ k - 1) = some (.brk (2 ^ K - 1))
  | 0, k, _, _ => by omega
  | n + 1, k, c1, c2 => by
    rw [lockgateref04_full_L]
    have hp := pw k
    by_cases hk : k = K
    · subst hk; rw [if_neg (by omega)]
    · have hle : (2 : Int) ^ k ≤ 2 ^ (K - 1) := pw_le (by omega)
      have hle2 := pw_le (show k ≤ 63 by omega)
      rw [e63] at hle2
      have := h2 (by omega)
      rw [if_pos (by omega)]
      have e2 : (2 : Int) ^ (k + 1) = 2 ^ k * 2 := Int.pow_succ _ _
      have en : IntKind.u64.wrap (IntKind.u64.wrap (2 * (2 ^ k - 1)) + 1) = (2 : Int) ^ (k + 1) - 1 := by
        rw [wrap_u64_id (x := 2 * (2 ^ k - 1)) (by omega) (by omega), wrap_u64_id (by omega) (by omega)]; omega
      rw [en]
      exact full_loop a K hK h1 h2 n (k + 1) (by omega) (by omega)
theorem klen_int {n : Nat} (h : n < 2 ^ 64) : (n : Int) < 2 ^ klen n ∧ (0 < klen n → (2 : Int) ^ (klen n - 1) ≤ n) := by
  have s := klen_spec h
  refine ⟨by rw [← pw_cast]; omega, fun hk => ?_⟩
  by_cases hz : 0 < n
  · have := (s.2 hz).2
    rw [← pw_cast]; omega
  · have : n = 0 := by omega
    subst this
    exact absurd hk (by decide)
theorem full_eq (n : BitVec 64) : lockgateref04_full (n.toNat : Int) = 2 ^ klen n.toNat - 1 := by
  have s := klen_int n.isLt
  have hl := full_loop (n.toNat : Int) (klen n.toNat) (klen_le _) s.1 s.2 66 0 (by omega) (by have := klen_le n.toNat; omega)
  have e0 : (2 : Int) ^ 0 - 1 = 0 := by decide
  rw [e0] at hl
  unfold lockgateref04_full
  rw [hl]
theorem klen_uniq {n K : Nat} (hn : n < 2 ^ 64) (h1 : n < 2 ^ K) (h2 : 0 < K → 2 ^ (K - 1) ≤ n) : klen n = K := by
  have s := klen_spec hn
  by_cases hz : 0 < n
  · have t := s.2 hz
    have hK : 0 < K := by
      rcases Nat.eq_zero_or_pos K with h | h
      · subst h; simp at h1; omega
      · exact h
    have u := h2 hK
    by_cases hlt : klen n ≤ K - 1
    · have : 2 ^ klen n ≤ 2 ^ (K - 1) := Nat.pow_le_pow_right (by decide) hlt
      omega
    · by_cases hgt : K ≤ klen n - 1
      · have : 2 ^ K ≤ 2 ^ (klen n - 1) := Nat.pow_le_pow_right (by decide) hgt
        omega
      · omega
  · have : n = 0 := by omega
    subst this
    rcases Nat.eq_zero_or_pos K with h | h
    · subst h; decide
    · have := h2 h
      have := Nat.two_pow_pos (K - 1)
      omega
theorem klen_or (a b : BitVec 64) : klen (a ||| b).toNat = if klen a.toNat ≤ klen b.toNat then klen b.toNat else klen a.toNat := by
  have sa := klen_spec a.isLt
  have sb := klen_spec b.isLt
  have la : a.toNat ≤ (a ||| b).toNat := by rw [BitVec.toNat_or]; exact Nat.left_le_or
  have lb : b.toNat ≤ (a ||| b).toNat := by rw [BitVec.toNat_or]; exact Nat.right_le_or
  have k0 : klen 0 = 0 := by decide
  apply klen_uniq (a ||| b).isLt
  · rw [BitVec.toNat_or]
    split
    · rename_i h
      exact Nat.or_lt_two_pow (Nat.lt_of_lt_of_le sa.1 (Nat.pow_le_pow_right (by decide) h)) sb.1
    · rename_i h
      exact Nat.or_lt_two_pow sa.1 (Nat.lt_of_lt_of_le sb.1 (Nat.pow_le_pow_right (by decide) (by omega)))
  · intro h
    split at h
    · rename_i hh
      rw [if_pos hh]
      by_cases hz : 0 < b.toNat
      · have := (sb.2 hz).2; omega
      · have : b.toNat = 0 := by omega
        rw [this, k0] at h; omega
    · rename_i hh
      rw [if_neg hh]
      by_cases hz : 0 < a.toNat
      · have := (sa.2 hz).2; omega
      · have : a.toNat = 0 := by omega
        rw [this, k0] at h; omega
theorem full_or (a b : BitVec 64) : span_below ((a ||| b).toNat : Int) = if lockgateref04_full (a.toNat : Int) < lockgateref04_full (b.toNat : Int) then lockgateref04_full (b.toNat : Int) else lockgateref04_full (a.toNat : Int) := by
  rw [below_eq, ones_int (klen_le _), klen_or, full_eq, full_eq]
  by_cases h : klen a.toNat ≤ klen b.toNat
  · rw [if_pos h]
    have : (2 : Int) ^ klen a.toNat ≤ 2 ^ klen b.toNat := pw_le h
    split <;> omega
  · rw [if_neg h]
    have : (2 : Int) ^ klen b.toNat ≤ 2 ^ klen a.toNat := pw_le (by omega)
    split <;> omega
theorem rUOr {a b : Us} (ha : VUs a) (hb : VUs b) : lockgateref04_UOr a b = span_UOr a b := by
  obtain ⟨al, ah⟩ := a
  obtain ⟨bl, bh⟩ := b
  obtain ⟨ah, rfl⟩ := exists_bv ha.2.1 ha.2.2
  obtain ⟨bh, rfl⟩ := exists_bv hb.2.1 hb.2.2
  unfold lockgateref04_UOr span_UOr
  dsimp only
  rw [or_u64, full_or]
  by_cases hf : lockgateref04_full (ah.toNat : Int) < lockgateref04_full (bh.toNat : Int)
  · by_cases hl : al < bl
    · have hl2 : bl > al := hl
      simp only [hf, hl, hl2, if_true]; rfl
    · have hl2 : ¬ bl > al := hl
      simp only [hf, hl, hl2, if_true, if_false]; rfl
  · by_cases hl : al < bl
    · have hl2 : bl > al := hl
      simp only [hf, hl, hl2, if_true, if_false]; rfl
    · have hl2 : ¬ bl > al := hl
      simp only [hf, hl, hl2, if_false]; rfl
end Go.Proofs.T
