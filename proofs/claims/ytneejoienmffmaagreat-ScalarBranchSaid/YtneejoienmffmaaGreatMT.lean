/-
  Plain laws: the loops of the document's functions end.
-/
import Derived.Test.YtneejoienmffmaaGreatM5
set_option linter.unusedVariables false
set_option maxRecDepth 100000
namespace Go.Proofs.T
open Go Go.Proofs Go.Proofs.SX
theorem none_ne {α : Type} {x : α} : (some x : Option α) ≠ none := fun h => by cases h
theorem T_lockgateref01_add_aux (a b c : Int) : ∀ (n : Nat) (x0 x1 x2 : Int), 0 ≤ x2 → x2 ≤ 64 → 65 ≤ x2 + n → lockgateref01_add_L a b c n x0 x1 x2 ≠ none
  | 0, x0, x1, x2, h0, h1, h2 => by omega
  | n + 1, x0, x1, x2, h0, h1, h2 => by
    rw [lockgateref01_add_L]
    by_cases h : x2 < 64
    · have hb : x2 < 64 := by omega
      have ih := fun (x0_ x1_ : Int) => T_lockgateref01_add_aux a b c n x0_ x1_ (IntKind.i64.wrap (x2 + 1)) (by rw [wrap_i64_id (by omega) (by omega)]; omega) (by rw [wrap_i64_id (by omega) (by omega)]; omega) (by rw [wrap_i64_id (by omega) (by omega)]; omega)
      rw [if_pos h]
      (repeat' split) <;> first | exact ih _ _ | exact none_ne
    · rw [if_neg h]; exact none_ne
theorem T_lockgateref01_add (a : Int) (b : Int) (c : Int) : lockgateref01_add_L a b c 65 c 0 0 ≠ none := T_lockgateref01_add_aux a b c 65 c 0 0 (by omega) (by omega) (by omega)
theorem T_lockgateref01_not_aux (a : Int) : ∀ (n : Nat) (x0 x1 : Int), 0 ≤ x1 → x1 ≤ 64 → 65 ≤ x1 + n → lockgateref01_not_L a n x0 x1 ≠ none
  | 0, x0, x1, h0, h1, h2 => by omega
  | n + 1, x0, x1, h0, h1, h2 => by
    rw [lockgateref01_not_L]
    by_cases h : x1 < 64
    · have hb : x1 < 64 := by omega
      have ih := fun (x0_ : Int) => T_lockgateref01_not_aux a n x0_ (IntKind.i64.wrap (x1 + 1)) (by rw [wrap_i64_id (by omega) (by omega)]; omega) (by rw [wrap_i64_id (by omega) (by omega)]; omega) (by rw [wrap_i64_id (by omega) (by omega)]; omega)
      rw [if_pos h]
      (repeat' split) <;> first | exact ih _ | exact none_ne
    · rw [if_neg h]; exact none_ne
theorem T_lockgateref01_not (a : Int) : lockgateref01_not_L a 65 0 0 ≠ none := T_lockgateref01_not_aux a 65 0 0 (by omega) (by omega) (by omega)
theorem T_lockgateref01_times_aux (a b : Int) : ∀ (n : Nat) (x0 x1 : Int), 0 ≤ x1 → x1 ≤ 64 → 65 ≤ x1 + n → lockgateref01_times_L a b n x0 x1 ≠ none
  | 0, x0, x1, h0, h1, h2 => by omega
  | n + 1, x0, x1, h0, h1, h2 => by
    rw [lockgateref01_times_L]
    by_cases h : x1 < 64
    · have hb : x1 < 64 := by omega
      have ih := fun (x0_ : Int) => T_lockgateref01_times_aux a b n x0_ (IntKind.i64.wrap (x1 + 1)) (by rw [wrap_i64_id (by omega) (by omega)]; omega) (by rw [wrap_i64_id (by omega) (by omega)]; omega) (by rw [wrap_i64_id (by omega) (by omega)]; omega)
      rw [if_pos h]
      (repeat' split) <;> first | exact ih _ | exact none_ne
    · rw [if_neg h]; exact none_ne
theorem T_lockgateref01_times (a : Int) (b : Int) : lockgateref01_times_L a b 65 0 0 ≠ none := T_lockgateref01_times_aux a b 65 0 0 (by omega) (by omega) (by omega)
theorem T_lockgateref01_bits_aux (a b c : Int) : ∀ (n : Nat) (x0 x1 : Int), 0 ≤ x1 → x1 ≤ 64 → 65 ≤ x1 + n → lockgateref01_bits_L a b c n x0 x1 ≠ none
  | 0, x0, x1, h0, h1, h2 => by omega
  | n + 1, x0, x1, h0, h1, h2 => by
    rw [lockgateref01_bits_L]
    by_cases h : x1 < 64
    · have hb : x1 < 64 := by omega
      have ih := fun (x0_ : Int) => T_lockgateref01_bits_aux a b c n x0_ (IntKind.i64.wrap (x1 + 1)) (by rw [wrap_i64_id (by omega) (by omega)]; omega) (by rw [wrap_i64_id (by omega) (by omega)]; omega) (by rw [wrap_i64_id (by omega) (by omega)]; omega)
      rw [if_pos h]
      (repeat' split) <;> first | exact ih _ | exact none_ne
    · rw [if_neg h]; exact none_ne
theorem T_lockgateref01_bits (a : Int) (b : Int) (c : Int) : lockgateref01_bits_L a b c 65 0 0 ≠ none := T_lockgateref01_bits_aux a b c 65 0 0 (by omega) (by omega) (by omega)
theorem T_lockgateref01_down_aux (a b c d : Int) (hw : c ≤ 64) : ∀ (n : Nat) (x0 x1 : Int), 0 ≤ x1 → x1 ≤ 64 → 65 ≤ x1 + n → lockgateref01_down_L a b c d n x0 x1 ≠ none
  | 0, x0, x1, h0, h1, h2 => by omega
  | n + 1, x0, x1, h0, h1, h2 => by
    rw [lockgateref01_down_L]
    by_cases h : x1 < c
    · have hb : x1 < 64 := by omega
      have ih := fun (x0_ : Int) => T_lockgateref01_down_aux a b c d hw n x0_ (IntKind.i64.wrap (x1 + 1)) (by rw [wrap_i64_id (by omega) (by omega)]; omega) (by rw [wrap_i64_id (by omega) (by omega)]; omega) (by rw [wrap_i64_id (by omega) (by omega)]; omega)
      rw [if_pos h]
      (repeat' split) <;> first | exact ih _ | exact none_ne
    · rw [if_neg h]; exact none_ne
theorem T_lockgateref01_down (a : Int) (b : Int) (c : Int) (d : Int) (p0 : c ≤ 64) : lockgateref01_down_L a b c d 65 0 0 ≠ none := T_lockgateref01_down_aux a b c d p0 65 0 0 (by omega) (by omega) (by omega)
theorem T_lockgateref03_down_aux (a b c : Int) (hw : c ≤ 64) : ∀ (n : Nat) (x0 x1 : Int), 0 ≤ x1 → x1 ≤ 64 → 65 ≤ x1 + n → lockgateref03_down_L a b c n x0 x1 ≠ none
  | 0, x0, x1, h0, h1, h2 => by omega
  | n + 1, x0, x1, h0, h1, h2 => by
    rw [lockgateref03_down_L]
    by_cases h : x1 < c
    · have hb : x1 < 64 := by omega
      have ih := fun (x0_ : Int) => T_lockgateref03_down_aux a b c hw n x0_ (IntKind.u64.wrap (x1 + 1)) (by rw [wrap_u64_id (by omega) (by omega)]; omega) (by rw [wrap_u64_id (by omega) (by omega)]; omega) (by rw [wrap_u64_id (by omega) (by omega)]; omega)
      rw [if_pos h]
      (repeat' split) <;> first | exact ih _ | exact none_ne
    · rw [if_neg h]; exact none_ne
theorem T_lockgateref03_down (a : Int) (b : Int) (c : Int) (p0 : c ≤ 64) : lockgateref03_down_L a b c 65 0 0 ≠ none := T_lockgateref03_down_aux a b c p0 65 0 0 (by omega) (by omega) (by omega)
theorem T_lockgateref03_Within_aux (a b : Tn) : ∀ (n : Nat) (x0 : Int), 0 ≤ x0 → x0 ≤ 64 → 65 ≤ x0 + n → lockgateref03_Within_L a b n x0 ≠ none
  | 0, x0, h0, h1, h2 => by omega
  | n + 1, x0, h0, h1, h2 => by
    rw [lockgateref03_Within_L]
    by_cases h : x0 < 64
    · have hb : x0 < 64 := by omega
      have ih := T_lockgateref03_Within_aux a b n (IntKind.u64.wrap (x0 + 1)) (by rw [wrap_u64_id (by omega) (by omega)]; omega) (by rw [wrap_u64_id (by omega) (by omega)]; omega) (by rw [wrap_u64_id (by omega) (by omega)]; omega)
      rw [if_pos h]
      (repeat' split) <;> first | exact ih | exact none_ne
    · rw [if_neg h]; exact none_ne
theorem T_lockgateref03_Within (a : Tn) (b : Tn) : lockgateref03_Within_L a b 65 0 ≠ none := T_lockgateref03_Within_aux a b 65 0 (by omega) (by omega) (by omega)
theorem T_lockgateref03_Join_aux (a b : Tn) : ∀ (n : Nat) (x0 x1 x2 : Int), 0 ≤ x0 → x0 ≤ 64 → 65 ≤ x0 + n → lockgateref03_Join_L a b n x0 x1 x2 ≠ none
  | 0, x0, x1, x2, h0, h1, h2 => by omega
  | n + 1, x0, x1, x2, h0, h1, h2 => by
    rw [lockgateref03_Join_L]
    by_cases h : x0 < 64
    · have hb : x0 < 64 := by omega
      have ih := fun (x1_ x2_ : Int) => T_lockgateref03_Join_aux a b n (IntKind.u64.wrap (x0 + 1)) x1_ x2_ (by rw [wrap_u64_id (by omega) (by omega)]; omega) (by rw [wrap_u64_id (by omega) (by omega)]; omega) (by rw [wrap_u64_id (by omega) (by omega)]; omega)
      rw [if_pos h]
      (repeat' split) <;> first | exact ih _ _ | exact none_ne
    · rw [if_neg h]; exact none_ne
theorem T_lockgateref03_Join (a : Tn) (b : Tn) : lockgateref03_Join_L a b 65 0 0 0 ≠ none := T_lockgateref03_Join_aux a b 65 0 0 0 (by omega) (by omega) (by omega)
theorem T_lockgateref03_Mul_aux (a b : Tn) : ∀ (n : Nat) (x0 x1 x2 : Int), 0 ≤ x0 → x0 ≤ 64 → 65 ≤ x0 + n → lockgateref03_Mul_L a b n x0 x1 x2 ≠ none
  | 0, x0, x1, x2, h0, h1, h2 => by omega
  | n + 1, x0, x1, x2, h0, h1, h2 => by
    rw [lockgateref03_Mul_L]
    by_cases h : x0 < 64
    · have hb : x0 < 64 := by omega
      have ih := fun (x1_ x2_ : Int) => T_lockgateref03_Mul_aux a b n (IntKind.u64.wrap (x0 + 1)) x1_ x2_ (by rw [wrap_u64_id (by omega) (by omega)]; omega) (by rw [wrap_u64_id (by omega) (by omega)]; omega) (by rw [wrap_u64_id (by omega) (by omega)]; omega)
      rw [if_pos h]
      (repeat' split) <;> first | exact ih _ _ | exact none_ne
    · rw [if_neg h]; exact none_ne
theorem T_lockgateref03_Mul (a : Tn) (b : Tn) : lockgateref03_Mul_L a b 65 0 ((lockgateref03_Of 0).v) ((lockgateref03_Of 0).m) ≠ none := T_lockgateref03_Mul_aux a b 65 0 _ _ (by omega) (by omega) (by omega)
theorem round_in (b : Int) : 0 ≤ lockgateref04_round b ∧ lockgateref04_round b < 64 := by
  unfold lockgateref04_round
  have h1 : -64 < Int.tmod b 64 := Int.lt_tmod_of_pos b (by decide)
  have h2 : Int.tmod b 64 < 64 := Int.tmod_lt_of_pos b (by decide)
  split
  · rw [wrap_i64_id (by omega) (by omega)]; omega
  · omega
theorem T_lockgateref04_ULsh_aux (a : Us) (b : Int) (hw : lockgateref04_round b ≤ 64) : ∀ (n : Nat) (x0 x1 x2 : Int), 0 ≤ x0 → x0 ≤ 64 → 65 ≤ x0 + n → lockgateref04_ULsh_L a b n x0 x1 x2 ≠ none
  | 0, x0, x1, x2, h0, h1, h2 => by omega
  | n + 1, x0, x1, x2, h0, h1, h2 => by
    rw [lockgateref04_ULsh_L]
    by_cases h : x0 < (lockgateref04_round b)
    · have hb : x0 < 64 := by omega
      have ih := fun (x1_ x2_ : Int) => T_lockgateref04_ULsh_aux a b hw n (IntKind.i64.wrap (x0 + 1)) x1_ x2_ (by rw [wrap_i64_id (by omega) (by omega)]; omega) (by rw [wrap_i64_id (by omega) (by omega)]; omega) (by rw [wrap_i64_id (by omega) (by omega)]; omega)
      rw [if_pos h]
      (repeat' split) <;> first | exact ih _ _ | exact none_ne
    · rw [if_neg h]; exact none_ne
theorem T_lockgateref04_ULsh (a : Us) (b : Int) : lockgateref04_ULsh_L a b 65 0 a.lo a.hi ≠ none := T_lockgateref04_ULsh_aux a b (by have := round_in b; omega) 65 0 _ _ (by omega) (by omega) (by omega)
theorem T_lockgateref04_URsh_aux (a : Us) (b : Int) (hw : lockgateref04_round b ≤ 64) : ∀ (n : Nat) (x0 x1 x2 : Int), 0 ≤ x0 → x0 ≤ 64 → 65 ≤ x0 + n → lockgateref04_URsh_L a b n x0 x1 x2 ≠ none
  | 0, x0, x1, x2, h0, h1, h2 => by omega
  | n + 1, x0, x1, x2, h0, h1, h2 => by
    rw [lockgateref04_URsh_L]
    by_cases h : x0 < (lockgateref04_round b)
    · have hb : x0 < 64 := by omega
      have ih := fun (x1_ x2_ : Int) => T_lockgateref04_URsh_aux a b hw n (IntKind.i64.wrap (x0 + 1)) x1_ x2_ (by rw [wrap_i64_id (by omega) (by omega)]; omega) (by rw [wrap_i64_id (by omega) (by omega)]; omega) (by rw [wrap_i64_id (by omega) (by omega)]; omega)
      rw [if_pos h]
      (repeat' split) <;> first | exact ih _ _ | exact none_ne
    · rw [if_neg h]; exact none_ne
theorem T_lockgateref04_URsh (a : Us) (b : Int) : lockgateref04_URsh_L a b 65 0 a.lo a.hi ≠ none := T_lockgateref04_URsh_aux a b (by have := round_in b; omega) 65 0 _ _ (by omega) (by omega) (by omega)
theorem T_lockgateref04_SArsh_aux (a : Ss) (b : Int) (hw : lockgateref04_round b ≤ 64) : ∀ (n : Nat) (x0 x1 x2 : Int), 0 ≤ x0 → x0 ≤ 64 → 65 ≤ x0 + n → lockgateref04_SArsh_L a b n x0 x1 x2 ≠ none
  | 0, x0, x1, x2, h0, h1, h2 => by omega
  | n + 1, x0, x1, x2, h0, h1, h2 => by
    rw [lockgateref04_SArsh_L]
    by_cases h : x0 < (lockgateref04_round b)
    · have hb : x0 < 64 := by omega
      have ih := fun (x1_ x2_ : Int) => T_lockgateref04_SArsh_aux a b hw n (IntKind.i64.wrap (x0 + 1)) x1_ x2_ (by rw [wrap_i64_id (by omega) (by omega)]; omega) (by rw [wrap_i64_id (by omega) (by omega)]; omega) (by rw [wrap_i64_id (by omega) (by omega)]; omega)
      rw [if_pos h]
      (repeat' split) <;> first | exact ih _ _ | exact none_ne
    · rw [if_neg h]; exact none_ne
theorem T_lockgateref04_SArsh (a : Ss) (b : Int) : lockgateref04_SArsh_L a b 65 0 a.lo a.hi ≠ none := T_lockgateref04_SArsh_aux a b (by have := round_in b; omega) 65 0 _ _ (by omega) (by omega) (by omega)
theorem T_lockgateref01_order_aux (a b c : Int) (d : Bool) : ∀ (n : Nat) (i : Int), -1 ≤ i → i ≤ 63 → i + 2 ≤ n → lockgateref01_order_L a b c d n i ≠ none
  | 0, i, h0, h1, h2 => by omega
  | n + 1, i, h0, h1, h2 => by
    rw [lockgateref01_order_L]
    by_cases h : 0 ≤ i
    · have ih := T_lockgateref01_order_aux a b c d n (IntKind.i64.wrap (i - 1)) (by rw [wrap_i64_id (by omega) (by omega)]; omega) (by rw [wrap_i64_id (by omega) (by omega)]; omega) (by rw [wrap_i64_id (by omega) (by omega)]; omega)
      rw [if_pos h]
      (repeat' split) <;> first | exact ih | exact none_ne
    · rw [if_neg h]; exact none_ne
theorem T_lockgateref01_order (a : Int) (b : Int) (c : Int) (d : Bool) (p0 : 0 ≤ c ∧ c ≤ 64) : lockgateref01_order_L a b c d 65 (IntKind.i64.wrap (c - 1)) ≠ none :=
  T_lockgateref01_order_aux a b c d 65 _ (by rw [wrap_i64_id (by omega) (by omega)]; omega) (by rw [wrap_i64_id (by omega) (by omega)]; omega) (by rw [wrap_i64_id (by omega) (by omega)]; omega)
theorem T_lockgateref01_divide_aux (a b : Int) : ∀ (n : Nat) (x y i : Int), -1 ≤ i → i ≤ 63 → i + 2 ≤ n → lockgateref01_divide_L a b n x y i ≠ none
  | 0, x, y, i, h0, h1, h2 => by omega
  | n + 1, x, y, i, h0, h1, h2 => by
    rw [lockgateref01_divide_L]
    by_cases h : 0 ≤ i
    · have ih := fun (x_ y_ : Int) => T_lockgateref01_divide_aux a b n x_ y_ (IntKind.i64.wrap (i - 1)) (by rw [wrap_i64_id (by omega) (by omega)]; omega) (by rw [wrap_i64_id (by omega) (by omega)]; omega) (by rw [wrap_i64_id (by omega) (by omega)]; omega)
      rw [if_pos h]
      (repeat' split) <;> first | exact ih _ _ | exact none_ne
    · rw [if_neg h]; exact none_ne
theorem T_lockgateref01_divide (a : Int) (b : Int) : lockgateref01_divide_L a b 65 0 0 63 ≠ none := T_lockgateref01_divide_aux a b 65 0 0 63 (by omega) (by omega) (by omega)
theorem T_full_aux (a : Int) (ha : a < 18446744073709551616) : ∀ (n k : Nat), k ≤ 64 → n + k = 66 → lockgateref04_full_L a n ((2 : Int) ^ k - 1) ≠ none
  | 0, k, h1, h2 => by omega
  | n + 1, k, h1, h2 => by
    rw [lockgateref04_full_L]
    by_cases h : ((2 : Int) ^ k - 1) < a
    · rw [if_pos h]
      have hk : k < 64 := by
        rcases Nat.lt_or_ge k 64 with h' | h'
        · exact h'
        · have : k = 64 := by omega
          subst this
          have e64 : ((2 : Int) ^ 64) = 18446744073709551616 := by decide
          rw [e64] at h; omega
      have ih := T_full_aux a ha n (k + 1) (by omega) (by omega)
      have hle : (2 : Int) ^ k ≤ 2 ^ 63 := by
        have := Nat.pow_le_pow_right (n := 2) (by decide) (show k ≤ 63 by omega)
        exact_mod_cast this
      have hpos : (0 : Int) < 2 ^ k := Int.pow_pos (by decide)
      have e : (2 : Int) ^ (k + 1) = 2 * 2 ^ k := by rw [Int.pow_succ]; omega
      have e63 : ((2 : Int) ^ 63) = 9223372036854775808 := by decide
      rw [e63] at hle
      rw [wrap_u64_id (x := 2 * (2 ^ k - 1)) (by omega) (by omega), wrap_u64_id (by omega) (by omega)]
      rw [show 2 * ((2 : Int) ^ k - 1) + 1 = 2 ^ (k + 1) - 1 by omega]
      exact ih
    · rw [if_neg h]; exact none_ne
theorem T_lockgateref04_full (a : Int) (p0 : a < 18446744073709551616) : lockgateref04_full_L a 66 0 ≠ none := T_full_aux a p0 66 0 (by omega) (by omega)
theorem count_nn {a b : Int} : ¬ lockgateref03_count a b < 0 := by
  unfold lockgateref03_count
  split <;> exact Int.not_lt.2 wrapu_nonneg
theorem shl1_nz {b : Int} (h0 : 0 ≤ b) (h1 : ¬ 64 ≤ b) : ¬ shl .u64 1 (IntKind.u64.wrap b) = 0 := by
  rw [wrap_u64_id h0 (by omega)]
  unfold shl
  have hb : IntKind.bits .u64 = 64 := rfl
  rw [hb, Nat.min_eq_left (by omega), Int.one_mul]
  have hp : (0 : Int) < 2 ^ b.toNat := Int.pow_pos (by decide)
  have h2 : ((2 ^ b.toNat : Nat) : Int) ≤ ((2 ^ 63 : Nat) : Int) := Int.ofNat_le.2 (Nat.pow_le_pow_right (n := 2) (by decide) (by omega))
  have e : ((2 ^ 63 : Nat) : Int) = 9223372036854775808 := by decide
  rw [e, Int.natCast_pow] at h2
  have h2 : (2 : Int) ^ b.toNat ≤ 9223372036854775808 := h2
  rw [wrap_u64_id (by omega) (by omega)]; omega
theorem w32_le {c : Int} (h : c = 32) : decide (IntKind.u64.wrap c ≤ 64) = true := by subst h; decide
theorem w64_le {c : Int} (h : c = 64) : decide (IntKind.u64.wrap c ≤ 64) = true := by subst h; decide
theorem ne32 {c : Int} (h : c = 32) : decide (¬ c = 0) = true := by subst h; decide
theorem ne64 {c : Int} (h : c = 64) : decide (¬ c = 0) = true := by subst h; decide
end Go.Proofs.T
