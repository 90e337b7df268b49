/-
  Plain laws: numbers of a kind, loops that end, lengths.
-/
import Derived.Test.YtneejoienmffmaaGreatD
import Derived.KernelRfl
set_option linter.unusedVariables false
set_option maxRecDepth 100000
namespace Go.Proofs.T
open Go Go.Proofs Go.Proofs.SX
/-! ### Numbers of a kind -/
theorem wrap_u64 (n : Int) : IntKind.u64.wrap n = n % 18446744073709551616 := by
  simp [IntKind.wrap, IntKind.signed, IntKind.bits]
theorem wrap_i64 (n : Int) : IntKind.i64.wrap n = if n % 18446744073709551616 ≥ 9223372036854775808 then n % 18446744073709551616 - 18446744073709551616 else n % 18446744073709551616 := by
  have e1 : ((2 : Int) ^ (64 : Nat)) = 18446744073709551616 := by decide
  have e2 : ((2 : Int) ^ (63 : Nat)) = 9223372036854775808 := by decide
  simp only [IntKind.wrap, IntKind.bits, IntKind.signed, Bool.true_and, e1, e2]
  simp only [decide_eq_true_eq]
theorem wrapu_nonneg {k : IntKind} {x : Int} (h : k.signed = false := by rfl) : 0 ≤ k.wrap x := by
  simp only [IntKind.wrap, h, Bool.false_and]
  exact Int.emod_nonneg _ (by have : (0 : Int) < 2 ^ k.bits := Int.pow_pos (by decide); omega)
theorem wrap_i64_id {x : Int} (h1 : -9223372036854775808 ≤ x) (h2 : x ≤ 9223372036854775807) : IntKind.i64.wrap x = x := by
  rw [wrap_i64]; split <;> omega
theorem wrapu_lt {x : Int} : IntKind.u64.wrap x < 18446744073709551616 := by rw [wrap_u64]; omega
theorem wrapu_nn {x : Int} : 0 ≤ IntKind.u64.wrap x := wrapu_nonneg
theorem wraps_in {x : Int} : -9223372036854775808 ≤ IntKind.i64.wrap x ∧ IntKind.i64.wrap x < 9223372036854775808 := by
  rw [wrap_i64]; split <;> omega
theorem wrap_u64_id {x : Int} (h1 : 0 ≤ x) (h2 : x < 18446744073709551616) : IntKind.u64.wrap x = x := by
  rw [wrap_u64]; omega
theorem wrap_u8 (x : Int) : IntKind.u8.wrap x = x % 256 := by
  have e1 : ((2 : Int) ^ (8 : Nat)) = 256 := by decide
  simp only [IntKind.wrap, IntKind.bits, IntKind.signed, Bool.false_and, e1]
  simp only [Bool.false_eq_true, if_false]
theorem wrap_u32 (x : Int) : IntKind.u32.wrap x = x % 4294967296 := by
  have e1 : ((2 : Int) ^ (32 : Nat)) = 4294967296 := by decide
  simp only [IntKind.wrap, IntKind.bits, IntKind.signed, Bool.false_and, e1]
  simp only [Bool.false_eq_true, if_false]
theorem u8_in {x : Int} : 0 ≤ IntKind.u8.wrap x ∧ IntKind.u8.wrap x < 256 := by rw [wrap_u8]; omega
theorem bits_nonneg {x c : Int} (h0 : 0 ≤ c := by decide) (h1 : c ≤ 9223372036854775807 := by decide) : 0 ≤ Go.bits .and .i64 x c := by
  unfold Go.bits
  show 0 ≤ IntKind.i64.wrap (((BitVec.ofInt 64 x) &&& (BitVec.ofInt 64 c)).toNat : Int)
  have hc : (BitVec.ofInt 64 c).toNat = c.toNat := by rw [BitVec.toNat_ofInt]; omega
  have h : ((BitVec.ofInt 64 x) &&& (BitVec.ofInt 64 c)).toNat ≤ c.toNat := by
    rw [BitVec.toNat_and, ← hc]; exact Nat.and_le_right
  rw [wrap_i64_id (by omega) (by omega)]
  omega
theorem bits_u64_in (op : BinOp) (a b : Int) : 0 ≤ Go.bits op .u64 a b ∧ Go.bits op .u64 a b < 18446744073709551616 := by
  unfold Go.bits
  exact ⟨wrapu_nn, wrapu_lt⟩
theorem shl_u64_in {a b : Int} : 0 ≤ shl .u64 a b ∧ shl .u64 a b < 18446744073709551616 := by
  unfold shl
  exact ⟨wrapu_nn, wrapu_lt⟩
theorem shr_u64_in {a b : Int} (h : 0 ≤ a) (h1 : a < 18446744073709551616) : 0 ≤ shr .u64 a b ∧ shr .u64 a b < 18446744073709551616 := by
  unfold shr
  have hp : (0 : Int) < 2 ^ min b.toNat (IntKind.bits .u64) := Int.pow_pos (by decide)
  refine ⟨Int.ediv_nonneg h (Int.le_of_lt hp), Int.lt_of_le_of_lt (Int.ediv_le_self _ h) h1⟩
/-! ### Loops end -/
theorem T_In_aux (a : Tn) (b : Int) : ∀ (n : Nat) (i : Int), 0 ≤ i → i ≤ 64 → 65 ≤ i + n → lockgateref03_In_L a b n i ≠ none
  | 0, i, h0, h1, h2 => by omega
  | n + 1, i, h0, h1, h2 => by
    rw [lockgateref03_In_L]
    by_cases h : i < 64
    · have ih := T_In_aux a b n (IntKind.u64.wrap (i + 1)) wrapu_nn (by rw [wrap_u64_id (by omega) (by omega)]; omega) (by rw [wrap_u64_id (by omega) (by omega)]; omega)
      rw [if_pos h]
      split
      · split
        · exact ih
        · simp
      · exact ih
    · rw [if_neg h]; simp
theorem T_lockgateref03_In (a : Tn) (b : Int) : lockgateref03_In_L a b 65 0 ≠ none := T_In_aux a b 65 0 (by omega) (by omega) (by omega)
theorem T_Meet_aux (a b : Tn) : ∀ (n : Nat) (i x y : Int), 0 ≤ i → i ≤ 64 → 65 ≤ i + n → lockgateref03_Meet_L a b n i x y ≠ none
  | 0, i, x, y, h0, h1, h2 => by omega
  | n + 1, i, x, y, h0, h1, h2 => by
    rw [lockgateref03_Meet_L]
    by_cases h : i < 64
    · have ih := fun x y => T_Meet_aux a b n (IntKind.u64.wrap (i + 1)) x y wrapu_nn (by rw [wrap_u64_id (by omega) (by omega)]; omega) (by rw [wrap_u64_id (by omega) (by omega)]; omega)
      rw [if_pos h]
      split
      · split
        · split
          · exact ih _ _
          · simp
        · exact ih _ _
      · split
        · exact ih _ _
        · exact ih _ _
    · rw [if_neg h]; simp
theorem T_lockgateref03_Meet (a : Tn) (b : Tn) : lockgateref03_Meet_L a b 65 0 0 0 ≠ none := T_Meet_aux a b 65 0 0 0 (by omega) (by omega) (by omega)
theorem top_eq : lockgateref04_UAll.hi = 18446744073709551615 := by decide
theorem nz1 {x : Int} (h1 : 0 ≤ x) (h2 : x < lockgateref04_UAll.hi) : ¬ IntKind.u64.wrap (x + 1) = 0 := by
  rw [top_eq] at h2
  rw [wrap_u64_id (by omega) (by omega)]; omega
theorem nz2 {x : Int} (h1 : 0 ≤ x) (h3 : x < 18446744073709551616) (h2 : ¬ x = lockgateref04_UAll.hi) : ¬ IntKind.u64.wrap (x + 1) = 0 := by
  rw [top_eq] at h2
  rw [wrap_u64_id (by omega) (by omega)]; omega
theorem T_ToT_aux (a : Us) : ∀ (n k : Nat), k ≤ 64 → n + k = 65 → lockgateref04_ToT_L a n ((2 : Int) ^ k - 1) ≠ none
  | 0, k, h1, h2 => by omega
  | n + 1, k, h1, h2 => by
    rw [lockgateref04_ToT_L]
    by_cases h : ((2 : Int) ^ k - 1) < lockgateref04_UAll.hi
    · rw [if_pos h]
      split
      · simp
      · have hk : k < 64 := by
          rcases Nat.lt_or_ge k 64 with h' | h'
          · exact h'
          · have : k = 64 := by omega
            subst this
            exact absurd h (by decide)
        have ih := T_ToT_aux a n (k + 1) (by omega) (by omega)
        have hle : (2 : Int) ^ k ≤ 2 ^ 63 := by
          have := Nat.pow_le_pow_right (n := 2) (by decide) (show k ≤ 63 by omega)
          exact_mod_cast this
        have hpos : (0 : Int) < 2 ^ k := Int.pow_pos (by decide)
        have e : (2 : Int) ^ (k + 1) = 2 * 2 ^ k := by rw [Int.pow_succ]; omega
        have e63 : ((2 : Int) ^ 63) = 9223372036854775808 := by decide
        rw [e63] at hle
        rw [wrap_u64_id (x := 2 * (2 ^ k - 1)) (by omega) (by omega), wrap_u64_id (by omega) (by omega)]
        rw [show 2 * ((2 : Int) ^ k - 1) + 1 = 2 ^ (k + 1) - 1 by omega]
        exact ih
    · rw [if_neg h]; simp
theorem T_lockgateref04_ToT (a : Us) : lockgateref04_ToT_L a 65 0 ≠ none := T_ToT_aux a 65 0 (by omega) (by omega)
/-! ### Lengths -/
theorem tab_size : (tab0.size : Int) = 256 := by decide
theorem tab_le : ∀ n : Fin 256, strAt tab0 n ≤ 8 := by decide
theorem strAt_nonneg {s : ByteArray} {n : Int} : 0 ≤ strAt s n := by
  unfold strAt; split
  · exact Int.natCast_nonneg _
  · exact Int.le_refl _
theorem strAt_le {n : Int} : strAt tab0 (IntKind.u8.wrap n) ≤ 8 := by
  have h := u8_in (x := n)
  have := tab_le ⟨(IntKind.u8.wrap n).toNat, by omega⟩
  simp only at this
  rwa [show ((IntKind.u8.wrap n).toNat : Int) = IntKind.u8.wrap n by omega] at this
theorem wrap_i64_small {x : Int} (h1 : 0 ≤ x) (h2 : x ≤ 100) : IntKind.i64.wrap x = x := wrap_i64_id (by omega) (by omega)
theorem len_leaf {c n : Int} (h0 : 0 ≤ c) (h1 : c ≤ 56) : IntKind.i64.wrap (c + IntKind.i64.wrap (strAt tab0 (IntKind.u8.wrap n))) = c + strAt tab0 (IntKind.u8.wrap n) := by
  have ha := strAt_nonneg (s := tab0) (n := IntKind.u8.wrap n)
  have hb := strAt_le (n := n)
  rw [wrap_i64_small ha (by omega), wrap_i64_small (by omega) (by omega)]
theorem len64_in {v : Int} : 0 ≤ bits_Len64 v ∧ bits_Len64 v ≤ 64 := by
  have ha := fun n => strAt_nonneg (s := tab0) (n := IntKind.u8.wrap n)
  have hb := fun n => strAt_le (n := n)
  unfold bits_Len64
  repeat' split
  all_goals
    rw [len_leaf (by decide) (by decide)]
    refine ⟨Int.add_nonneg (by decide) (ha _), ?_⟩
    exact Int.le_trans (Int.add_le_add_left (hb _) _) (by decide)
theorem len64_nn {v : Int} : ¬ bits_Len64 v < 0 := Int.not_lt.2 len64_in.1
end Go.Proofs.T
