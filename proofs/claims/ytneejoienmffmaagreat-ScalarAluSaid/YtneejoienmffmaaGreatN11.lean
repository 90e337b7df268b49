/-
  Plain laws: the document's shift to the right, and its product of tnums.
-/
import Derived.Test.YtneejoienmffmaaGreatN10
set_option linter.unusedVariables false
set_option linter.unusedSimpArgs false
set_option maxRecDepth 100000
namespace Go.Proofs.T
open Go Go.Proofs Go.Proofs.SX
theorem down3_loop (x y : BitVec 64) (m w : Nat) (hw : 1 ≤ w ∧ w ≤ 64) (hm : m ≤ 63) (hb : ∀ i : Nat, i < w → x.getLsbD (if w - 1 < i + m then w - 1 else i + m) = y.getLsbD i) (hy : (y.toNat : Int) < 2 ^ w) :
    ∀ (n k : Nat), k ≤ w → 65 ≤ n + k → lockgateref03_down_L (x.toNat : Int) (m : Int) (w : Int) n ((y.toNat : Int) % 2 ^ k) k = some (.brk ((y.toNat : Int), (w : Int)))
  | 0, k, h1, h2 => by omega
  | n + 1, k, h1, h2 => by
    rw [lockgateref03_down_L]
    have hy0 : 0 ≤ (y.toNat : Int) := Int.natCast_nonneg _
    by_cases h : (k : Int) < w
    · have hk : k ≤ 63 := by omega
      rw [if_pos h]
      have ih := down3_loop x y m w hw hm hb hy n (k + 1) (by omega) (by omega)
      have hbk := hb k (by omega)
      have e1 : IntKind.u64.wrap ((w : Int) - 1) = ((w - 1 : Nat) : Int) := by rw [wrap_u64_id (by omega) (by omega)]; omega
      have e2 : IntKind.u64.wrap ((k : Int) + m) = ((k + m : Nat) : Int) := by rw [wrap_u64_id (by omega) (by omega)]; omega
      have e3 : (if ((w - 1 : Nat) : Int) < ((k + m : Nat) : Int) then ((w - 1 : Nat) : Int) else ((k + m : Nat) : Int)) = (((if w - 1 < k + m then w - 1 else k + m : Nat)) : Int) := by
        by_cases hc : w - 1 < k + m
        · rw [if_pos hc, if_pos (by omega)]
        · rw [if_neg hc, if_neg (by omega)]
      rw [e1, e2, e3, btk, hbk, u64_succ (by omega), or_stepB hk rfl rfl]
      exact ih
    · have : k = w := by omega
      subst this
      rw [if_neg h, Int.emod_eq_of_lt hy0 hy]
theorem down3_eq {x y : BitVec 64} {m w : Nat} (hw : 1 ≤ w ∧ w ≤ 64) (hm : m ≤ 63) (hb : ∀ i : Nat, i < w → x.getLsbD (if w - 1 < i + m then w - 1 else i + m) = y.getLsbD i) (hy : (y.toNat : Int) < 2 ^ w) : lockgateref03_down (x.toNat : Int) (m : Int) (w : Int) = (y.toNat : Int) := by
  have h := down3_loop x y m w hw hm hb hy 65 0 (by omega) (by omega)
  rw [Int.pow_zero, Int.emod_one] at h
  have h' : lockgateref03_down_L (x.toNat : Int) (m : Int) (w : Int) 65 0 0 = _ := h
  unfold lockgateref03_down
  rw [h']
theorem down3_64 (x : BitVec 64) {m : Nat} (hm : m ≤ 63) : lockgateref03_down (x.toNat : Int) (m : Int) 64 = ((x.sshiftRight m).toNat : Int) := by
  refine down3_eq (w := 64) (by decide) hm (fun i hi => ?_) ?_
  · have hni : decide (64 ≤ i) = false := by simp; omega
    rw [BitVec.getLsbD_sshiftRight, hni]
    by_cases hc : m + i < 64
    · rw [if_pos hc, if_neg (by omega), Nat.add_comm]; simp
    · rw [if_neg hc, BitVec.msb_eq_getLsbD_last]
      by_cases h2 : 64 - 1 < i + m
      · rw [if_pos h2]; simp
      · omega
  · have := (x.sshiftRight m).isLt
    rw [e64]; omega
theorem down3_32 (x : BitVec 64) {m : Nat} (hm : m ≤ 31) : lockgateref03_down (x.toNat : Int) (m : Int) 32 = ((((x.setWidth 32).sshiftRight m).setWidth 64).toNat : Int) := by
  refine down3_eq (w := 32) (by decide) (by omega) (fun i hi => ?_) ?_
  · have h64 : decide (i < 64) = true := by simp; omega
    have hni : decide (32 ≤ i) = false := by simp; omega
    rw [BitVec.getLsbD_setWidth, BitVec.getLsbD_sshiftRight, h64, hni]
    by_cases hc : m + i < 32
    · have h32 : decide (m + i < 32) = true := by simp; omega
      rw [if_pos hc, if_neg (by omega), BitVec.getLsbD_setWidth, h32, Nat.add_comm]; simp
    · rw [if_neg hc, BitVec.msb_eq_getLsbD_last, BitVec.getLsbD_setWidth]
      by_cases h2 : 32 - 1 < i + m
      · rw [if_pos h2]; simp
      · omega
  · refine lt_pow_bits (by decide) (fun i hi _ => ?_)
    rw [BitVec.getLsbD_setWidth, BitVec.getLsbD_of_ge _ _ hi]; simp
theorem rArsh64 {a : Tn} (ha : VTn a) {n : Int} (h0 : 0 ≤ n) (h1 : n ≤ 63) : lockgateref03_Arsh a n 64 = tnum_Arsh a n 64 := by
  obtain ⟨v, m, rfl⟩ := tb_of ha
  rw [Arsh64_tb, tmod64_id h0 h1]
  unfold lockgateref03_Arsh
  rw [if_neg (by decide), if_pos rfl, count64 h0 h1]
  obtain ⟨k, rfl⟩ := Int.eq_ofNat_of_zero_le h0
  have e : IntKind.u64.wrap 64 = 64 := by decide
  rw [e, tb_v, tb_m, down3_64 v (by omega), down3_64 m (by omega), Int.toNat_natCast]
  rfl
theorem rArsh32 {a : Tn} (ha : VTn a) {n : Int} (h0 : 0 ≤ n) (h1 : n ≤ 31) : lockgateref03_Arsh a n 32 = tnum_Arsh a n 32 := by
  obtain ⟨v, m, rfl⟩ := tb_of ha
  rw [Arsh32_tb, tmod32_id h0 h1]
  unfold lockgateref03_Arsh
  rw [if_pos rfl, count32 h0 h1]
  obtain ⟨k, rfl⟩ := Int.eq_ofNat_of_zero_le h0
  have e : IntKind.u64.wrap 32 = 32 := by decide
  rw [e, tb_v, tb_m, down3_32 v (by omega), down3_32 m (by omega), Int.toNat_natCast]
  rfl
/-! ### Mul -/
theorem Mul3_rest (A B : Tn) (x y : BitVec 64) (hx : A.v = (x.toNat : Int)) (hy : A.m = (y.toNat : Int)) : ∀ (n k : Nat) (s0 s1 : Int), k ≤ 64 → n + k = 65 → x >>> k = 0#64 → y >>> k = 0#64 →
    lockgateref03_Mul_L A B n k s0 s1 = some (.brk (64, s0, s1))
  | 0, k, s0, s1, h1, h2, _, _ => by omega
  | n + 1, k, s0, s1, h1, h2, z1, z2 => by
    rw [lockgateref03_Mul_L, hx, hy, btk, btk]
    by_cases h : (k : Int) < 64
    · have b1 : x.getLsbD k = false := by
        have := congrArg (·.getLsbD 0) z1
        simpa [BitVec.getLsbD_ushiftRight] using this
      have b2 : y.getLsbD k = false := by
        have := congrArg (·.getLsbD 0) z2
        simpa [BitVec.getLsbD_ushiftRight] using this
      rw [if_pos h, b1, b2, if_neg (by decide), if_neg (by decide), u64_succ (by omega)]
      refine Mul3_rest A B x y hx hy n (k + 1) s0 s1 (by omega) (by omega) ?_ ?_
      · rw [BitVec.shiftRight_add, z1]; simp
      · rw [BitVec.shiftRight_add, z2]; simp
    · have : k = 64 := by omega
      subst this
      rw [if_neg h]; rfl
theorem bit0_int (x : BitVec 64) (k : Nat) : Go.bits .and .u64 ((x >>> k).toNat : Int) 1 = 0 ↔ x.getLsbD k = false := by
  have h := and_u64 (x >>> k) 1#64
  have e : (((1#64).toNat : Nat) : Int) = 1 := rfl
  rw [e] at h
  rw [h, bit0_and, BitVec.getLsbD_ushiftRight, Nat.add_zero]
  cases x.getLsbD k <;> simp
theorem shl_bv (x : BitVec 64) (k : Nat) : shl .u64 (x.toNat : Int) (k : Int) = ((x <<< k).toNat : Int) := by
  rw [shl_u64, Int.toNat_natCast]
theorem Mul3_loop (A B : Tn) (x y b c : BitVec 64) (hA : A = tb x y) (hB : B = tb b c) (A' B' : Tn) : ∀ (n k : Nat) (s0 s1 : Int), k ≤ 64 → n + k = 65 →
    ∃ r0 r1, lockgateref03_Mul_L A B n k s0 s1 = some (.brk (64, r0, r1)) ∧ ∃ x0 x1 x2 x3, tnum_Mul_L A' B' (n + 1) ((x >>> k).toNat : Int) ((y >>> k).toNat : Int) ((b <<< k).toNat : Int) ((c <<< k).toNat : Int) s0 s1 = some (.brk (x0, x1, x2, x3, r0, r1))
  | 0, k, s0, s1, h1, h2 => by omega
  | n + 1, k, s0, s1, h1, h2 => by
    subst hA hB
    by_cases hz : x >>> k = 0#64 ∧ y >>> k = 0#64
    · refine ⟨s0, s1, Mul3_rest _ _ x y rfl rfl (n + 1) k s0 s1 h1 h2 hz.1 hz.2, ((x >>> k).toNat : Int), ((y >>> k).toNat : Int), ((b <<< k).toNat : Int), ((c <<< k).toNat : Int), ?_⟩
      rw [tnum_Mul_L, hz.1, hz.2]; rfl
    · have hk : k ≤ 63 := by
        refine Nat.not_lt.1 (fun h => hz ?_)
        have : k = 64 := by omega
        subst this
        exact ⟨BitVec.ushiftRight_eq_zero (Nat.le_refl _), BitVec.ushiftRight_eq_zero (Nat.le_refl _)⟩
      have hz' : ¬ ((((x >>> k).toNat : Int) == 0) && (((y >>> k).toNat : Int) == 0)) = true := by
        intro h
        simp only [Bool.and_eq_true, beq_iff_eq] at h
        exact hz ⟨BitVec.eq_of_toNat_eq (by simpa using Int.ofNat.inj h.1), BitVec.eq_of_toNat_eq (by simpa using Int.ofNat.inj h.2)⟩
      rw [lockgateref03_Mul_L, tnum_Mul_L, if_neg hz', if_pos (show (k : Int) < 64 by omega), show (tb x y).v = (x.toNat : Int) from rfl, show (tb x y).m = (y.toNat : Int) from rfl, btk, btk, u64_succ (by omega)]
      have eR : tnum_Rsh (⟨((x >>> k).toNat : Int), ((y >>> k).toNat : Int)⟩ : Tn) 1 = tb (x >>> (k + 1)) (y >>> (k + 1)) := by
        rw [BitVec.shiftRight_add, BitVec.shiftRight_add]; exact Rsh1_tb _ _
      have eL : tnum_Lsh (⟨((b <<< k).toNat : Int), ((c <<< k).toNat : Int)⟩ : Tn) 1 = tb (b <<< (k + 1)) (c <<< (k + 1)) := by
        rw [BitVec.shiftLeft_add, BitVec.shiftLeft_add]; exact Lsh1_tb _ _
      rw [eR, eL]
      simp only [rTAdd, tb_v, tb_m, or_u64, shl_bv, BitVec.shiftLeft_or_distrib]
      by_cases b1 : x.getLsbD k = false
      · rw [if_pos ((bit0_int x k).2 b1), b1, if_neg (by decide)]
        by_cases b2 : y.getLsbD k = false
        · rw [if_pos ((bit0_int y k).2 b2), b2, if_neg (by decide)]
          exact Mul3_loop _ _ x y b c rfl rfl A' B' n (k + 1) _ _ (by omega) (by omega)
        · have b2' : y.getLsbD k = true := by simpa using b2
          rw [if_neg (fun h => b2 ((bit0_int y k).1 h)), b2', if_pos (by decide)]
          exact Mul3_loop _ _ x y b c rfl rfl A' B' n (k + 1) _ _ (by omega) (by omega)
      · have b1' : x.getLsbD k = true := by simpa using b1
        rw [if_neg (fun h => b1 ((bit0_int x k).1 h)), b1', if_pos (by decide)]
        exact Mul3_loop _ _ x y b c rfl rfl A' B' n (k + 1) _ _ (by omega) (by omega)
theorem rTMul {a b : Tn} (ha : VTn a) (hb : VTn b) : lockgateref03_Mul a b = tnum_Mul a b := by
  obtain ⟨x, y, rfl⟩ := tb_of ha
  obtain ⟨p, q, rfl⟩ := tb_of hb
  obtain ⟨r0, r1, e1, x0, x1, x2, x3, e2⟩ := Mul3_loop (tb x y) (tb p q) x y p q rfl rfl (tb x y) (tb p q) 65 0 0 0 (by omega) (by omega)
  rw [BitVec.ushiftRight_zero, BitVec.ushiftRight_zero, BitVec.shiftLeft_zero, BitVec.shiftLeft_zero] at e2
  unfold lockgateref03_Mul tnum_Mul
  have e1' : lockgateref03_Mul_L (tb x y) (tb p q) 65 0 ((lockgateref03_Of 0).v) ((lockgateref03_Of 0).m) = some (.brk (64, r0, r1)) := e1
  have e2' : tnum_Mul_L (tb x y) (tb p q) 66 (tb x y).v (tb x y).m (tb p q).v (tb p q).m ((tnum_Of 0).v) ((tnum_Of 0).m) = some (.brk (x0, x1, x2, x3, r0, r1)) := e2
  rw [e1', e2']
  rfl
end Go.Proofs.T
