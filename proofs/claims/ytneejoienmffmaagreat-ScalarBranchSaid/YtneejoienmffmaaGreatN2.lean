/-
  Plain laws: the document's bits, orders and byte orders are the program's.
-/
import Derived.Test.YtneejoienmffmaaGreatN1
set_option linter.unusedVariables false
set_option maxRecDepth 100000
namespace Go.Proofs.T
open Go Go.Proofs Go.Proofs.SX
theorem tbit (y : BitVec 64) (k : Nat) : (y.toNat : Int) / 2 ^ k % 2 = if y.getLsbD k then 1 else 0 := by
  rw [← pw_cast]
  have e2 : (y.toNat : Int) / ((2 ^ k : Nat) : Int) % 2 = ((y.toNat / 2 ^ k % 2 : Nat) : Int) := by
    rw [Int.natCast_emod, Int.natCast_ediv]; rfl
  rw [e2, BitVec.getLsbD, Nat.testBit_eq_decide_div_mod_eq]
  rcases Nat.mod_two_eq_zero_or_one (y.toNat / 2 ^ k) with h | h <;> rw [h] <;> rfl
theorem rbit (y : BitVec 64) {k : Nat} (hk : k ≤ 63) : lockgateref01_bit (y.toNat : Int) (k : Int) = if y.getLsbD k then 1 else 0 := by
  have hy : W64 (y.toNat : Int) := by have := y.isLt; unfold W64; omega
  rw [bit_k hk hy, tbit]
theorem sum_wrap {x y : Int} (hx : x = 0 ∨ x = 1) (hy : y = 0 ∨ y = 1) : IntKind.u64.wrap (x + y) = x + y := wrap_u64_id (by omega) (by omega)
/-! ### bits -/
theorem bits_loop (op : Int) (b c y : BitVec 64) (hop : (op = 4 ∧ y = b ||| c) ∨ (op = 5 ∧ y = b &&& c) ∨ (op = 10 ∧ y = b ^^^ c)) : ∀ (n k : Nat), k ≤ 64 → n + k = 65 →
    lockgateref01_bits_L op b.toNat c.toNat n ((y.toNat : Int) % 2 ^ k) k = some (.brk ((y.toNat : Int), 64))
  | 0, k, h1, h2 => by omega
  | n + 1, k, h1, h2 => by
    rw [lockgateref01_bits_L]
    have hy : 0 ≤ (y.toNat : Int) := Int.natCast_nonneg _
    by_cases h : (k : Int) < 64
    · have hk : k ≤ 63 := by omega
      rw [if_pos h]
      have ih := bits_loop op b c y hop n (k + 1) (by omega) (by omega)
      have t := tbit y k
      have set : y.getLsbD k = true → Go.bits .or .u64 ((y.toNat : Int) % 2 ^ k) (shl .u64 1 (IntKind.u64.wrap (k : Int))) = (y.toNat : Int) % 2 ^ (k + 1) := fun hb => by
        rw [hb] at t; exact or_stepT hk hy rfl t.symm
      have keep : y.getLsbD k = false → (y.toNat : Int) % 2 ^ k = (y.toNat : Int) % 2 ^ (k + 1) := fun hb => by
        rw [hb] at t
        rw [mod2 hy, t]; simp
      rw [rbit b hk, rbit c hk, i64_succ h1]
      rcases hop with ⟨rfl, rfl⟩ | ⟨rfl, rfl⟩ | ⟨rfl, rfl⟩
      · rw [if_pos rfl]
        rw [BitVec.getLsbD_or] at set keep
        cases hb : b.getLsbD k <;> cases hc : c.getLsbD k <;> rw [hb, hc] at set keep
        · rw [if_neg (by decide), if_neg (by decide), if_neg (by decide), keep rfl]; exact ih
        · rw [if_pos (by decide), set rfl]; exact ih
        · rw [if_pos (by decide), set rfl]; exact ih
        · rw [if_pos (by decide), set rfl]; exact ih
      · rw [if_neg (by decide), if_pos rfl]
        rw [BitVec.getLsbD_and] at set keep
        cases hb : b.getLsbD k <;> cases hc : c.getLsbD k <;> rw [hb, hc] at set keep
        · rw [if_neg (by decide), if_neg (by decide), keep rfl]; exact ih
        · rw [if_neg (by decide), if_neg (by decide), keep rfl]; exact ih
        · rw [if_neg (by decide), if_neg (by decide), keep rfl]; exact ih
        · rw [if_pos (by decide), set rfl]; exact ih
      · rw [if_neg (by decide), if_neg (by decide), if_pos rfl]
        rw [BitVec.getLsbD_xor] at set keep
        cases hb : b.getLsbD k <;> cases hc : c.getLsbD k <;> rw [hb, hc] at set keep
        · rw [if_neg (by decide), keep rfl]; exact ih
        · rw [if_pos (by decide), set rfl]; exact ih
        · rw [if_pos (by decide), set rfl]; exact ih
        · rw [if_neg (by decide), keep rfl]; exact ih
    · have : k = 64 := by omega
      subst this
      have hl := y.isLt
      rw [if_neg h, e64, Int.emod_eq_of_lt hy (by omega)]; rfl
theorem bits_eq {op : Int} {b c y : BitVec 64} (hop : (op = 4 ∧ y = b ||| c) ∨ (op = 5 ∧ y = b &&& c) ∨ (op = 10 ∧ y = b ^^^ c)) : lockgateref01_bits op (b.toNat : Int) (c.toNat : Int) = (y.toNat : Int) := by
  have h := bits_loop op b c y hop 65 0 (by omega) (by omega)
  rw [Int.pow_zero, Int.emod_one] at h
  have h' : lockgateref01_bits_L op b.toNat c.toNat 65 0 0 = _ := h
  unfold lockgateref01_bits
  rw [h']
/-! ### down -/
theorem down_loop (a m d : Int) (w : Nat) (y : BitVec 64) (hw : w ≤ 64) (hm : 0 ≤ m ∧ m ≤ 63) (hd : d = 0 ∨ d = 1)
    (hb : ∀ i : Nat, i < w → (if (i : Int) + m < w then lockgateref01_bit a ((i : Int) + m) else d) = if y.getLsbD i then 1 else 0) (hy : (y.toNat : Int) < 2 ^ w) :
    ∀ (n k : Nat), k ≤ w → 65 ≤ n + k → lockgateref01_down_L a m w d n ((y.toNat : Int) % 2 ^ k) k = some (.brk ((y.toNat : Int), w))
  | 0, k, h1, h2 => by omega
  | n + 1, k, h1, h2 => by
    rw [lockgateref01_down_L]
    have hy0 : 0 ≤ (y.toNat : Int) := Int.natCast_nonneg _
    by_cases h : (k : Int) < w
    · have hk : k ≤ 63 := by omega
      rw [if_pos h]
      have ih := down_loop a m d w y hw hm hd hb hy n (k + 1) (by omega) (by omega)
      have t := tbit y k
      have hbk := hb k (by omega)
      rw [wrap_i64_id (x := (k : Int) + m) (by omega) (by omega), i64_succ (by omega)]
      by_cases hc : (k : Int) + m < w
      · rw [if_pos hc] at hbk ⊢
        rw [or_stepT hk hy0 rfl (hbk.trans t.symm)]; exact ih
      · rw [if_neg hc] at hbk ⊢
        rw [or_stepT hk hy0 rfl (hbk.trans t.symm)]; exact ih
    · have : k = w := by omega
      subst this
      rw [if_neg h, Int.emod_eq_of_lt hy0 hy]
theorem down_eq {a m d : Int} {w : Nat} {y : BitVec 64} (hw : w ≤ 64) (hm : 0 ≤ m ∧ m ≤ 63) (hd : d = 0 ∨ d = 1)
    (hb : ∀ i : Nat, i < w → (if (i : Int) + m < w then lockgateref01_bit a ((i : Int) + m) else d) = if y.getLsbD i then 1 else 0) (hy : (y.toNat : Int) < 2 ^ w) : lockgateref01_down a m w d = (y.toNat : Int) := by
  have h := down_loop a m d w y hw hm hd hb hy 65 0 (by omega) (by omega)
  rw [Int.pow_zero, Int.emod_one] at h
  have h' : lockgateref01_down_L a m w d 65 0 0 = _ := h
  unfold lockgateref01_down
  rw [h']
/-! ### Low -/
theorem Low64 (a : Int) : lockgateref01_Low a 64 = a := by unfold lockgateref01_Low; rw [if_pos (by decide)]
theorem Low32 {a : Int} (ha : 0 ≤ a) : lockgateref01_Low a 32 = a % 4294967296 := by
  unfold lockgateref01_Low
  have e : shl .u64 1 (IntKind.u64.wrap 32) = 4294967296 := by decide
  rw [if_neg (by decide), e, tmod_nn' ha]
def lowW (b : Bool) (a : Int) : Int := lockgateref01_Low a (if b = true then 64 else 32)
theorem low_lo {b : Bool} {a : Int} (ha : 0 ≤ a) : lowW b a = lo b a := by
  cases b
  · exact Low32 ha
  · exact Low64 a
/-! ### Alu -/
def wN (b : Bool) : Nat := if b = true then 64 else 32
theorem small_shift2 {w : Int} {b : Bool} (hw : W64 w) : IntKind.i64.wrap (Int.tmod w (if b = true then 64 else 32)) = Int.tmod w (if b = true then 64 else 32) ∧ 0 ≤ Int.tmod w (if b = true then 64 else 32) ∧ Int.tmod w (if b = true then 64 else 32) < wN b ∧ Int.tmod w (if b = true then 64 else 32) ≤ 63 := by
  have := tmod_nn (x := w) (n := if b = true then 64 else 32) hw.1 (by cases b <;> decide)
  cases b
  · refine ⟨wrap_i64_id (by omega) ?_, this.1, this.2, ?_⟩
    · have := this.2; simp only [Bool.false_eq_true, if_false] at *; omega
    · have := this.2; simp only [Bool.false_eq_true, if_false] at *; omega
  · refine ⟨wrap_i64_id (by omega) ?_, this.1, this.2, ?_⟩
    · have := this.2; simp only [if_true] at *; omega
    · have := this.2; simp only [if_true] at *; omega
theorem lt_pow_bits {y : BitVec 64} {w : Nat} (hw : w ≤ 64) (h : ∀ i, w ≤ i → i < 64 → y.getLsbD i = false) : (y.toNat : Int) < 2 ^ w := by
  have : y.toNat < 2 ^ w := by
    apply Nat.lt_pow_two_of_testBit
    intro i hi
    by_cases h64 : i < 64
    · exact h i hi h64
    · exact Nat.testBit_lt_two_pow (Nat.lt_of_lt_of_le y.isLt (Nat.pow_le_pow_right (by decide) (by omega)))
  rw [← pw_cast]; omega
theorem bits_of_lt {y : BitVec 64} {w : Nat} (h : (y.toNat : Int) < 2 ^ w) {i : Nat} (hi : w ≤ i) : y.getLsbD i = false := by
  rw [← pw_cast] at h
  exact Nat.testBit_lt_two_pow (Nat.lt_of_lt_of_le (by omega) (Nat.pow_le_pow_right (by decide) hi))
theorem down_rsh {x : BitVec 64} {w : Nat} {m : Int} (hw : w ≤ 64) (hx : (x.toNat : Int) < 2 ^ w) (hm : 0 ≤ m ∧ m ≤ 63) : lockgateref01_down (x.toNat : Int) m w 0 = shr .u64 (x.toNat : Int) m := by
  rw [shr_u64]
  obtain ⟨m, rfl⟩ := Int.eq_ofNat_of_zero_le hm.1
  refine down_eq hw hm (.inl rfl) (fun i hi => ?_) ?_
  · rw [Int.toNat_natCast, BitVec.getLsbD_ushiftRight]
    by_cases hc : (i : Int) + (m : Int) < w
    · rw [if_pos hc]
      have := rbit x (k := i + m) (by omega)
      rw [Int.natCast_add] at this
      rw [this, Nat.add_comm]
    · rw [if_neg hc, bits_of_lt hx (by omega)]; rfl
  · refine lt_pow_bits hw (fun i hi _ => ?_)
    rw [BitVec.getLsbD_ushiftRight]
    exact bits_of_lt hx (by omega)
theorem down_arsh64 {x : BitVec 64} {m : Int} (hm : 0 ≤ m ∧ m ≤ 63) : lockgateref01_down (x.toNat : Int) m 64 (lockgateref01_bit (x.toNat : Int) 63) = IntKind.u64.wrap (shr .i64 (IntKind.i64.wrap (x.toNat : Int)) m) := by
  rw [sshr_u64 x (by omega)]
  obtain ⟨m, rfl⟩ := Int.eq_ofNat_of_zero_le hm.1
  have h63 := rbit x (k := 63) (by decide)
  refine down_eq (w := 64) (by decide) hm ?_ (fun i hi => ?_) ?_
  · have : ((63 : Nat) : Int) = 63 := rfl
    rw [← this, h63]; split
    · right; rfl
    · left; rfl
  · rw [Int.toNat_natCast, BitVec.getLsbD_sshiftRight]
    have hni : decide (64 ≤ i) = false := by simp; omega
    rw [hni]
    by_cases hc : (i : Int) + (m : Int) < (64 : Nat)
    · rw [if_pos hc, if_pos (show m + i < 64 by omega)]
      have := rbit x (k := i + m) (by omega)
      rw [Int.natCast_add] at this
      rw [this, Nat.add_comm]; simp
    · rw [if_neg hc, if_neg (show ¬ m + i < 64 by omega)]
      have : ((63 : Nat) : Int) = 63 := rfl
      rw [← this, h63, BitVec.msb_eq_getLsbD_last]; simp
  · have := (x.sshiftRight (Int.toNat (m : Int))).isLt
    rw [e64]; omega
theorem down_arsh32 {x : BitVec 64} {m : Int} (hx : (x.toNat : Int) < 4294967296) (hm : 0 ≤ m ∧ m ≤ 31) : lockgateref01_down (x.toNat : Int) m 32 (lockgateref01_bit (x.toNat : Int) 31) = IntKind.u64.wrap (IntKind.u32.wrap (shr .i32 (IntKind.i32.wrap (IntKind.u32.wrap (x.toNat : Int))) m)) := by
  rw [sshr_u32 x (by omega)]
  obtain ⟨m, rfl⟩ := Int.eq_ofNat_of_zero_le hm.1
  have h31 := rbit x (k := 31) (by decide)
  refine down_eq (w := 32) (by decide) ⟨hm.1, by omega⟩ ?_ (fun i hi => ?_) ?_
  · have : ((31 : Nat) : Int) = 31 := rfl
    rw [← this, h31]; split
    · right; rfl
    · left; rfl
  · have h64 : decide (i < 64) = true := by simp; omega
    have hni : decide (32 ≤ i) = false := by simp; omega
    rw [Int.toNat_natCast, BitVec.getLsbD_setWidth, BitVec.getLsbD_sshiftRight, h64, hni]
    by_cases hc : (i : Int) + (m : Int) < (32 : Nat)
    · rw [if_pos hc, if_pos (show m + i < 32 by omega), BitVec.getLsbD_setWidth]
      have := rbit x (k := i + m) (by omega)
      rw [Int.natCast_add] at this
      have h32 : decide (m + i < 32) = true := by simp; omega
      rw [this, Nat.add_comm, h32]; simp
    · rw [if_neg hc, if_neg (show ¬ m + i < 32 by omega)]
      have : ((31 : Nat) : Int) = 31 := rfl
      rw [← this, h31, BitVec.msb_eq_getLsbD_last, BitVec.getLsbD_setWidth]; simp
  · refine lt_pow_bits (by decide) (fun i hi _ => ?_)
    rw [BitVec.getLsbD_setWidth, BitVec.getLsbD_of_ge _ _ hi]; simp
theorem rAlu_x {k : Int} {b : Bool} {v w : Int} (hk : ¬ isOp k) : lockgateref01_Alu k b v w = (0, false) := by
  unfold isOp at hk
  unfold lockgateref01_Alu
  cases b
  · rw [if_neg Bool.false_ne_true]
    repeat rw [if_neg (by omega)]
  · rw [if_pos rfl]
    repeat rw [if_neg (by omega)]
theorem wAlu_x {k : Int} {b : Bool} {v w : Int} (hk : ¬ isOp k) : word_Alu k b v w = (0, false) := by
  unfold isOp at hk
  unfold word_Alu
  rw [if_neg (by omega)]
  cases b
  · rw [if_neg Bool.false_ne_true]
    repeat rw [if_neg (by omega)]
  · rw [if_pos rfl]
    repeat rw [if_neg (by omega)]
theorem lo_lo {b : Bool} {r : Int} : lo b (r % 18446744073709551616) = lo b r % 18446744073709551616 := by
  cases b
  · show r % 18446744073709551616 % 4294967296 = r % 4294967296 % 18446744073709551616
    omega
  · rfl
theorem rp {k : Int} {b : Bool} {v w : Int} (hk : plain k) (hv : W64 v) (hw : W64 w) : (word_Alu k b v w).1 = lo b (raw k (lo b v) (lo b w)) := by
  rw [← word_lo k b hw]
  cases b
  · exact raw_false hk (lo_W32 hv) (lo_W32 hw)
  · exact raw_true hk hv hw
theorem pok {k : Int} {b : Bool} {v w : Int} (hk : isOp k) : word_Alu k b v w = ((word_Alu k b v w).1, true) := by
  rw [← word_some (b := b) (v := v) (w := w) hk]
end Go.Proofs.T
