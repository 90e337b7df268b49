/-
  Plain laws: the document's words are the program's.
-/
import Derived.Test.YtneejoienmffmaaGreatMT2
import Derived.Test.YtneejoienmffmaaGreatM9
set_option linter.unusedVariables false
set_option maxRecDepth 100000
namespace Go.Proofs.T
open Go Go.Proofs Go.Proofs.SX
theorem pw (k : Nat) : (0 : Int) < 2 ^ k := Int.pow_pos (by decide)
theorem pw_cast (k : Nat) : ((2 ^ k : Nat) : Int) = 2 ^ k := by rw [Int.natCast_pow]; rfl
theorem pw_le {k m : Nat} (h : k ≤ m) : (2 : Int) ^ k ≤ 2 ^ m := by
  have h2 : ((2 ^ k : Nat) : Int) ≤ ((2 ^ m : Nat) : Int) := Int.ofNat_le.2 (Nat.pow_le_pow_right (n := 2) (by decide) h)
  rw [pw_cast, pw_cast] at h2; exact h2
theorem e63 : (2 : Int) ^ 63 = 9223372036854775808 := by decide
theorem e64 : (2 : Int) ^ 64 = 18446744073709551616 := by decide
theorem e32 : (2 : Int) ^ 32 = 4294967296 := by decide
theorem mod2 {a : Int} {k : Nat} (h : 0 ≤ a) : a % 2 ^ (k + 1) = a % 2 ^ k + (a / 2 ^ k % 2) * 2 ^ k := by
  obtain ⟨n, rfl⟩ := Int.eq_ofNat_of_zero_le h
  have := Nat.mod_mul (x := n) (a := 2 ^ k) (b := 2)
  have e : 2 ^ k * 2 = 2 ^ (k + 1) := by rw [Nat.pow_succ]
  rw [e] at this
  have h2 := congrArg (fun x : Nat => (x : Int)) this
  simp only [Int.natCast_add, Int.natCast_mul, Int.natCast_emod, Int.natCast_ediv, pw_cast] at h2
  rw [h2, Int.mul_comm ((2 : Int) ^ k)]; rfl
theorem bit_k {a : Int} {k : Nat} (hk : k ≤ 63) (h : W64 a) : lockgateref01_bit a k = a / 2 ^ k % 2 := by
  unfold lockgateref01_bit
  rw [wrap_u64_id (by omega) (by omega), shr_int (by omega) (by omega), Int.toNat_natCast]
  exact tmod_nn' (Int.ediv_nonneg h.1 (Int.le_of_lt (pw k)))
theorem bit01 {a : Int} {k : Nat} (hk : k ≤ 63) (h : W64 a) : lockgateref01_bit a k = 0 ∨ lockgateref01_bit a k = 1 := by
  rw [bit_k hk h]; omega
theorem or_step {v t : Int} {k : Nat} (hk : k ≤ 63) (h0 : 0 ≤ v) (h1 : v < 2 ^ k) (ht : t = 0 ∨ t = 1) : Go.bits .or .u64 v (shl .u64 t (IntKind.u64.wrap (k : Int))) = v + t * 2 ^ k := by
  have hp := pw_le hk
  rw [e63] at hp
  have hpp := pw k
  rw [wrap_u64_id (by omega) (by omega), shl_int (by omega) (by omega), Int.toNat_natCast]
  rcases ht with rfl | rfl
  · obtain ⟨x, rfl⟩ := exists_bv h0 (by omega)
    rw [Int.zero_mul, Int.zero_emod, zero_bv, or_u64]
    simp
  · rw [Int.one_mul, Int.emod_eq_of_lt (by omega) (by omega)]
    obtain ⟨x, rfl⟩ := exists_bv h0 (by omega)
    obtain ⟨y, hy⟩ := exists_bv (x := 2 ^ k) (by omega) (by omega)
    rw [hy, or_u64, BitVec.toNat_or]
    have h2 : y.toNat = 2 ^ k := by
      rw [← pw_cast] at hy; omega
    have hx : x.toNat < 2 ^ k := by rw [← pw_cast] at h1; omega
    have := Nat.two_pow_add_eq_or_of_lt hx 1
    rw [Nat.mul_one] at this
    rw [h2, Nat.or_comm, ← this]
    omega
theorem or_stepT {T v t : Int} {k : Nat} (hk : k ≤ 63) (hT : 0 ≤ T) (hv : v = T % 2 ^ k) (ht : t = T / 2 ^ k % 2) : Go.bits .or .u64 v (shl .u64 t (IntKind.u64.wrap (k : Int))) = T % 2 ^ (k + 1) := by
  subst hv
  have h0 := Int.emod_nonneg T (show (2 : Int) ^ k ≠ 0 by have := pw k; omega)
  have h1 := Int.emod_lt_of_pos T (pw k)
  rw [or_step hk h0 h1 (by omega), mod2 hT, ht]
theorem i64_succ {k : Nat} (hk : k ≤ 64) : IntKind.i64.wrap ((k : Int) + 1) = ((k + 1 : Nat) : Int) := by
  rw [wrap_i64_id (by omega) (by omega)]; rfl
theorem u64_succ {k : Nat} (hk : k ≤ 64) : IntKind.u64.wrap ((k : Int) + 1) = ((k + 1 : Nat) : Int) := by
  rw [wrap_u64_id (by omega) (by omega)]; rfl
/-! ### add -/
theorem add_loop (a b c : Int) (ha : W64 a) (hb : W64 b) (hc : c = 0 ∨ c = 1) : ∀ (n k : Nat) (v0 v1 : Int), k ≤ 64 → n + k = 65 → (v0 = 0 ∨ v0 = 1) → 0 ≤ v1 → v1 < 2 ^ k → a % 2 ^ k + b % 2 ^ k + c = v0 * 2 ^ k + v1 →
    ∃ x, lockgateref01_add_L a b c n v0 v1 k = some (.brk (x, (a + b + c) % 18446744073709551616, 64))
  | 0, k, v0, v1, h1, h2, _, _, _, _ => by omega
  | n + 1, k, v0, v1, h1, h2, h3, h4, h5, h6 => by
    rw [lockgateref01_add_L]
    by_cases h : (k : Int) < 64
    · rw [if_pos h]
      have hk : k ≤ 63 := by omega
      have x := bit01 hk ha
      have y := bit01 hk hb
      have ea := mod2 (k := k) ha.1
      have eb := mod2 (k := k) hb.1
      rw [← bit_k hk ha] at ea
      rw [← bit_k hk hb] at eb
      generalize lockgateref01_bit a k = s at *
      generalize lockgateref01_bit b k = t at *
      have hp := pw k
      have e2 : (2 : Int) ^ (k + 1) = 2 * 2 ^ k := by rw [Int.pow_succ]; omega
      rw [wrap_u64_id (x := s + t) (by omega) (by omega), wrap_u64_id (x := s + t + v0) (by omega) (by omega)]
      have ht : Int.tmod (s + t + v0) 2 = (s + t + v0) % 2 := tmod_nn' (by omega)
      have hd : IntKind.u64.wrap (Int.tdiv (s + t + v0) 2) = (s + t + v0) / 2 := by
        rw [tdiv_nn (by omega), wrap_u64_id (by omega) (by omega)]
      rw [ht, hd, or_step hk h4 h5 (by omega), i64_succ h1]
      refine add_loop a b c ha hb hc n (k + 1) _ _ (by omega) (by omega) (by omega) ?_ ?_ ?_
      · rcases x with rfl | rfl <;> rcases y with rfl | rfl <;> rcases h3 with rfl | rfl <;> omega
      · rw [e2]; rcases x with rfl | rfl <;> rcases y with rfl | rfl <;> rcases h3 with rfl | rfl <;> omega
      · rw [ea, eb, e2]; rcases x with rfl | rfl <;> rcases y with rfl | rfl <;> rcases h3 with rfl | rfl <;> omega
    · have : k = 64 := by omega
      subst this
      rw [if_neg h]
      refine ⟨v0, ?_⟩
      rw [e64] at h5 h6
      have : v1 = (a + b + c) % 18446744073709551616 := by unfold W64 at *; rcases h3 with rfl | rfl <;> omega
      rw [this]; rfl
theorem add_eq {a b c : Int} (ha : W64 a) (hb : W64 b) (hc : c = 0 ∨ c = 1) : lockgateref01_add a b c = (a + b + c) % 18446744073709551616 := by
  obtain ⟨x, h⟩ := add_loop a b c ha hb hc 65 0 c 0 (by omega) (by omega) hc (by omega) (by decide) (by rw [Int.pow_zero, Int.emod_one, Int.emod_one]; omega)
  unfold lockgateref01_add
  have h' : lockgateref01_add_L a b c 65 c 0 0 = some (.brk (x, (a + b + c) % 18446744073709551616, 64)) := h
  rw [h']
/-! ### not -/
theorem not_loop (a : Int) (ha : W64 a) : ∀ (n k : Nat), k ≤ 64 → n + k = 65 → lockgateref01_not_L a n ((18446744073709551615 - a) % 2 ^ k) k = some (.brk (18446744073709551615 - a, 64))
  | 0, k, h1, h2 => by omega
  | n + 1, k, h1, h2 => by
    rw [lockgateref01_not_L]
    by_cases h : (k : Int) < 64
    · rw [if_pos h]
      have hk : k ≤ 63 := by omega
      have hT : W64 (18446744073709551615 - a) := by unfold W64 at *; omega
      have x := bit01 hk ha
      have hb : (18446744073709551615 - a) / 2 ^ k % 2 = 1 - lockgateref01_bit a k := by
        obtain ⟨a, rfl⟩ := exists_bv ha.1 ha.2
        have e1 : (18446744073709551615 : Int) - a.toNat = ((~~~a).toNat : Int) := by
          rw [BitVec.toNat_not]; have := a.isLt; omega
        rw [e1, bit_k hk ha]
        have tb : ∀ y : BitVec 64, (y.toNat : Int) / 2 ^ k % 2 = if y.getLsbD k then 1 else 0 := fun y => by
          rw [← pw_cast]
          have e2 : (y.toNat : Int) / ((2 ^ k : Nat) : Int) % 2 = ((y.toNat / 2 ^ k % 2 : Nat) : Int) := by
            rw [Int.natCast_emod, Int.natCast_ediv]; rfl
          rw [e2, BitVec.getLsbD, Nat.testBit_eq_decide_div_mod_eq]
          rcases Nat.mod_two_eq_zero_or_one (y.toNat / 2 ^ k) with h | h <;> rw [h] <;> rfl
        rw [tb, tb, BitVec.getLsbD_not]
        cases a.getLsbD k <;> simp <;> omega
      rw [wrap_u64_id (x := 1 - _) (by omega) (by omega), ← hb, or_stepT hk hT.1 rfl rfl, i64_succ h1]
      exact not_loop a ha n (k + 1) (by omega) (by omega)
    · have : k = 64 := by omega
      subst this
      rw [if_neg h, e64, Int.emod_eq_of_lt (by unfold W64 at *; omega) (by unfold W64 at *; omega)]; rfl
theorem not_eq {a : Int} (ha : W64 a) : lockgateref01_not a = 18446744073709551615 - a := by
  have h := not_loop a ha 65 0 (by omega) (by omega)
  rw [Int.pow_zero, Int.emod_one] at h
  have h' : lockgateref01_not_L a 65 0 0 = _ := h
  unfold lockgateref01_not
  rw [h']
/-! ### times -/
theorem times_loop (a b : Int) (ha : W64 a) (hb : W64 b) : ∀ (n k : Nat), k ≤ 64 → n + k = 65 → lockgateref01_times_L a b n ((b * (a % 2 ^ k)) % 18446744073709551616) k = some (.brk ((b * a) % 18446744073709551616, 64))
  | 0, k, h1, h2 => by omega
  | n + 1, k, h1, h2 => by
    rw [lockgateref01_times_L]
    by_cases h : (k : Int) < 64
    · rw [if_pos h]
      have hk : k ≤ 63 := by omega
      have ih := times_loop a b ha hb n (k + 1) (by omega) (by omega)
      rw [mod2 ha.1, ← bit_k hk ha] at ih
      have hw : W64 (b * (a % 2 ^ k) % 18446744073709551616) := by unfold W64; omega
      by_cases hx : lockgateref01_bit a k = 1
      · rw [if_pos hx, i64_succ h1, add_eq hw shl_u64_in (.inl rfl), wrap_u64_id (x := (k : Int)) (by omega) (by omega), shl_int (by omega) (by omega), Int.toNat_natCast]
        rw [hx, Int.one_mul, Int.mul_add] at ih
        have e : (b * (a % 2 ^ k) % 18446744073709551616 + b * 2 ^ k % 18446744073709551616 + 0) % 18446744073709551616 = (b * (a % 2 ^ k) + b * 2 ^ k) % 18446744073709551616 := by
          generalize b * (a % 2 ^ k) = p
          generalize b * 2 ^ k = q
          omega
        rw [e]; exact ih
      · have hx0 : lockgateref01_bit a k = 0 := by have := bit01 hk ha; omega
        rw [if_neg hx, i64_succ h1]
        rw [hx0, Int.zero_mul, Int.add_zero] at ih
        exact ih
    · have : k = 64 := by omega
      subst this
      rw [if_neg h, e64, Int.emod_eq_of_lt ha.1 ha.2]; rfl
theorem times_eq {a b : Int} (ha : W64 a) (hb : W64 b) : lockgateref01_times a b = (a * b) % 18446744073709551616 := by
  have h := times_loop a b ha hb 65 0 (by omega) (by omega)
  rw [Int.pow_zero, Int.emod_one, Int.mul_zero, Int.zero_emod] at h
  have h' : lockgateref01_times_L a b 65 0 0 = _ := h
  unfold lockgateref01_times
  rw [h', Int.mul_comm a b]
/-! ### divide -/
theorem divide_loop (a b : Int) (ha : W64 a) (hb : W64 b) (hz : 0 < b) : ∀ (k : Nat) (q r : Int), k ≤ 64 → 0 ≤ r → r < b → q % 2 ^ k = 0 → 0 ≤ q → q < 18446744073709551616 → a / 2 ^ k = q / 2 ^ k * b + r →
    lockgateref01_divide_L a b (k + 1) q r ((k : Int) - 1) = some (.brk (a / b, a % b, -1))
  | 0, q, r, h1, h2, h3, h4, h5, h6, h7 => by
    rw [lockgateref01_divide_L, if_neg (by omega)]
    rw [Int.pow_zero, Int.ediv_one, Int.ediv_one] at h7
    have e1 : a / b = q := by
      rw [h7, Int.add_comm, Int.add_mul_ediv_right _ _ (by omega), Int.ediv_eq_zero_of_lt h2 h3]; omega
    have e2 : a % b = r := by
      rw [h7, Int.add_comm, Int.add_mul_emod_self_right, Int.emod_eq_of_lt h2 h3]
    rw [e1, e2]; rfl
  | k + 1, q, r, h1, h2, h3, h4, h5, h6, h7 => by
    rw [lockgateref01_divide_L, if_pos (by omega)]
    have hk : k ≤ 63 := by omega
    have ek : ((k + 1 : Nat) : Int) - 1 = (k : Int) := by omega
    rw [ek]
    have hr : W64 r := by unfold W64 at *; omega
    have x := bit01 hk ha
    have hxv := bit_k hk ha
    have hp := pw k
    have hple := pw_le hk
    rw [e63] at hple
    have e2 : (2 : Int) ^ (k + 1) = 2 ^ k * 2 := Int.pow_succ _ _
    have d1 : a / 2 ^ (k + 1) = a / 2 ^ k / 2 := by rw [e2, Int.ediv_ediv_of_nonneg (by omega)]
    have d2 : q / 2 ^ (k + 1) = q / 2 ^ k / 2 := by rw [e2, Int.ediv_ediv_of_nonneg (by omega)]
    have q0 : q % 2 ^ k = 0 ∧ q / 2 ^ k % 2 = 0 := by
      have := mod2 (k := k) h5
      rw [h4] at this
      have n1 := Int.emod_nonneg q (show (2 : Int) ^ k ≠ 0 by omega)
      have n2 : 0 ≤ q / 2 ^ k % 2 * 2 ^ k := Int.mul_nonneg (by omega) (by omega)
      refine ⟨by omega, ?_⟩
      rcases (show q / 2 ^ k % 2 = 0 ∨ q / 2 ^ k % 2 = 1 by omega) with h | h
      · exact h
      · rw [h] at this; omega
    have hR : a / 2 ^ k = (q / 2 ^ k) * b + (2 * r + lockgateref01_bit a k) := by
      rw [d1, d2] at h7
      rw [hxv]
      have e3 : q / 2 ^ k = 2 * (q / 2 ^ k / 2) := by omega
      have e4 : a / 2 ^ k = 2 * (a / 2 ^ k / 2) + a / 2 ^ k % 2 := by omega
      rw [e4, h7]
      conv => rhs; rw [e3]
      rw [Int.mul_assoc]
      generalize q / 2 ^ k / 2 * b = m
      omega
    have hq1 : q / 2 ^ k * 2 ^ k = q := Int.ediv_mul_cancel (Int.dvd_of_emod_eq_zero q0.1)
    have hov : (lockgateref01_bit r 63 = 1) ↔ 9223372036854775808 ≤ r := by
      have := bit_k (k := 63) (by decide) hr
      have h63 : ((63 : Nat) : Int) = 63 := rfl
      rw [h63, e63] at this
      rw [this]; unfold W64 at hr; omega
    have hqp : q + 2 ^ k < 18446744073709551616 := by
      have e5 : (2 : Int) ^ 64 = 2 ^ (63 - k) * 2 ^ (k + 1) := by rw [← Int.pow_add]; congr 1; omega
      rw [e64] at e5
      have hd : q / 2 ^ (k + 1) * 2 ^ (k + 1) = q := Int.ediv_mul_cancel (Int.dvd_of_emod_eq_zero h4)
      have hlt : q / 2 ^ (k + 1) < 2 ^ (63 - k) := Int.ediv_lt_of_lt_mul (pw _) (by rw [← e5]; exact h6)
      have hle : (q / 2 ^ (k + 1) + 1) * 2 ^ (k + 1) ≤ 2 ^ (63 - k) * 2 ^ (k + 1) := Int.mul_le_mul_of_nonneg_right (by omega) (by have := pw (k + 1); omega)
      rw [← e5, Int.add_mul, hd, Int.one_mul, e2] at hle
      omega
    have hor : Go.bits .or .u64 q (shl .u64 1 (IntKind.u64.wrap (k : Int))) = q + 2 ^ k := by
      rw [wrap_u64_id (by omega) (by omega), shl_int (by omega) (by omega), Int.toNat_natCast, Int.one_mul, Int.emod_eq_of_lt (by omega) (by omega)]
      obtain ⟨y, hy⟩ := exists_bv h5 h6
      obtain ⟨z, hzz⟩ := exists_bv (x := 2 ^ k) (by omega) (by omega)
      rw [hy, hzz, or_u64]
      have : y &&& z = 0#64 := by
        apply BitVec.eq_of_getLsbD_eq
        intro i hi
        have hzn : z.toNat = 2 ^ k := by rw [← pw_cast] at hzz; omega
        rw [BitVec.getLsbD_and, BitVec.getLsbD_zero]
        have hz1 : z.getLsbD i = decide (k = i) := by
          rw [BitVec.getLsbD, hzn, Nat.testBit_two_pow]
        rw [hz1]
        by_cases hik : k = i
        · subst hik
          have : y.getLsbD k = false := by
            rw [BitVec.getLsbD, Nat.testBit_eq_decide_div_mod_eq]
            have h8 := q0.2
            rw [hy, ← pw_cast] at h8
            have : y.toNat / 2 ^ k % 2 = 0 := by
              have e9 : (y.toNat : Int) / ((2 ^ k : Nat) : Int) % 2 = ((y.toNat / 2 ^ k % 2 : Nat) : Int) := by
                rw [Int.natCast_emod, Int.natCast_ediv]; rfl
              rw [e9] at h8; omega
            rw [this]; rfl
          rw [this]; rfl
        · simp [hik]
      have hadd := BitVec.add_eq_or_of_and_eq_zero y z this
      rw [← hadd, BitVec.toNat_add]
      omega
    have sub : ∀ R, b ≤ R → R < 2 * b → lockgateref01_add (R % 18446744073709551616) (lockgateref01_not b) 1 = R - b := fun R r1 r2 => by
      rw [not_eq hb, add_eq (by unfold W64; omega) (by unfold W64 at *; omega) (.inr rfl)]
      unfold W64 at hb; omega
    have hwR : IntKind.u64.wrap (IntKind.u64.wrap (r * 2) + lockgateref01_bit a k) = (2 * r + lockgateref01_bit a k) % 18446744073709551616 := by
      simp only [wrap_u64]; omega
    have ekm : IntKind.i64.wrap ((k : Int) - 1) = (k : Int) - 1 := wrap_i64_id (by omega) (by omega)
    rw [hor, hwR, ekm]
    have yes : 2 * r + lockgateref01_bit a k ≥ b → lockgateref01_divide_L a b (k + 1) (q + 2 ^ k) (lockgateref01_add ((2 * r + lockgateref01_bit a k) % 18446744073709551616) (lockgateref01_not b) 1) ((k : Int) - 1) = some (.brk (a / b, a % b, -1)) := fun hge => by
      rw [sub _ hge (by omega)]
      refine divide_loop a b ha hb hz k (q + 2 ^ k) _ (by omega) (by omega) (by omega) ?_ (by omega) hqp ?_
      · rw [Int.add_emod_right, q0.1]
      · rw [hR]
        have : (q + 2 ^ k) / 2 ^ k = q / 2 ^ k + 1 := Int.add_ediv_of_dvd_right (Int.dvd_refl _) |>.trans (by rw [Int.ediv_self (by omega)])
        rw [this, Int.add_mul]; omega
    by_cases o : lockgateref01_bit r 63 = 1
    · rw [if_pos o]
      exact yes (by have := hov.1 o; unfold W64 at hb; omega)
    · rw [if_neg o]
      have hno : ¬ 9223372036854775808 ≤ r := fun h => o (hov.2 h)
      by_cases g : b ≤ (2 * r + lockgateref01_bit a k) % 18446744073709551616
      · rw [if_pos g]; exact yes (by omega)
      · rw [if_neg g]
        rw [Int.emod_eq_of_lt (by omega) (by omega)] at g ⊢
        exact divide_loop a b ha hb hz k q _ (by omega) (by omega) (by omega) q0.1 h5 h6 hR
theorem divide_eq {a b : Int} (ha : W64 a) (hb : W64 b) (hz : 0 < b) : lockgateref01_divide a b = (a / b, a % b) := by
  have h := divide_loop a b ha hb hz 64 0 0 (by omega) (by omega) hz (by rw [Int.zero_emod]) (by omega) (by omega) (by
    rw [e64, Int.zero_ediv, Int.zero_mul, Int.ediv_eq_zero_of_lt ha.1 ha.2]; rfl)
  unfold lockgateref01_divide
  have h' : lockgateref01_divide_L a b 65 0 0 63 = _ := h
  rw [h']
end Go.Proofs.T
