/-
  Plain laws: what operations of tnums make has what the operations of their numbers make.
-/
import Derived.Test.YtneejoienmffmaaGreatM5
import Derived.Test.YtneejoienmffmaaGreatTN
set_option linter.unusedVariables false
set_option maxRecDepth 100000
namespace Go.Proofs.T
open Go Go.Proofs Go.Proofs.SX
theorem in_tb {v m x : BitVec 64} : tnum_In (tb v m) (x.toNat : Int) = true ↔ TT.In v m x := by
  rw [In_tb, decide_eq_true_iff]; rfl
theorem tb_v (v m : BitVec 64) : (tb v m).v = (v.toNat : Int) := rfl
theorem tb_m (v m : BitVec 64) : (tb v m).m = (m.toNat : Int) := rfl
theorem Add_tb (v m v' m' : BitVec 64) : tnum_Add (tb v m) (tb v' m') = tb ((v + v') &&& ~~~(((v + v' + m + m') ^^^ (v + v')) ||| m ||| m')) (((v + v' + m + m') ^^^ (v + v')) ||| m ||| m') := by
  unfold tnum_Add
  simp only [tb_v, tb_m, add_u64, xor_u64, or_u64, clear_tb]
theorem Sub_tb (v m v' m' : BitVec 64) : tnum_Sub (tb v m) (tb v' m') = tb ((v - v') &&& ~~~(((v - v' + m) ^^^ (v - v' - m')) ||| m ||| m')) (((v - v' + m) ^^^ (v - v' - m')) ||| m ||| m') := by
  unfold tnum_Sub
  simp only [tb_v, tb_m, add_u64, sub_u64, xor_u64, or_u64, clear_tb]
theorem And_tb (v m v' m' : BitVec 64) : tnum_And (tb v m) (tb v' m') = tb (v &&& v') ((v ||| m) &&& (v' ||| m') &&& ~~~(v &&& v')) := by
  unfold tnum_And
  simp only [tb_v, tb_m, and_u64, or_u64, andNot_u64]; rfl
theorem Or_tb (v m v' m' : BitVec 64) : tnum_Or (tb v m) (tb v' m') = tb (v ||| v') ((m ||| m') &&& ~~~(v ||| v')) := by
  unfold tnum_Or
  simp only [tb_v, tb_m, or_u64, andNot_u64]; rfl
theorem Xor_tb (v m v' m' : BitVec 64) : tnum_Xor (tb v m) (tb v' m') = tb ((v ^^^ v') &&& ~~~(m ||| m')) (m ||| m') := by
  unfold tnum_Xor
  simp only [tb_v, tb_m, xor_u64, or_u64, clear_tb]
theorem Of_tb (x : BitVec 64) : tnum_Of (x.toNat : Int) = tb x 0#64 := rfl
theorem Lsh_tb (v m : BitVec 64) (n : Int) : tnum_Lsh (tb v m) n = tb (v <<< (Int.tmod (IntKind.u64.wrap n) 64).toNat) (m <<< (Int.tmod (IntKind.u64.wrap n) 64).toNat) := by
  unfold tnum_Lsh
  simp only [tb_v, tb_m, shl_u64]; rfl
theorem Rsh_tb (v m : BitVec 64) (n : Int) : tnum_Rsh (tb v m) n = tb (v >>> (Int.tmod (IntKind.u64.wrap n) 64).toNat) (m >>> (Int.tmod (IntKind.u64.wrap n) 64).toNat) := by
  unfold tnum_Rsh
  simp only [tb_v, tb_m, shr_u64]; rfl
theorem wrapu_toInt {w : Nat} (x : BitVec 64) : IntKind.u64.wrap x.toInt = (x.toNat : Int) := by
  rw [wrap_u64, BitVec.toInt_eq_toNat_cond]
  have := x.isLt
  split <;> omega
theorem sshr_u64 (x : BitVec 64) {k : Int} (h : k ≤ 64) : IntKind.u64.wrap (shr .i64 (IntKind.i64.wrap (x.toNat : Int)) k) = ((x.sshiftRight k.toNat).toNat : Int) := by
  rw [wrap_toInt]
  unfold shr
  have hb : IntKind.bits .i64 = 64 := rfl
  rw [hb, Nat.min_eq_left (by omega)]
  have e : x.toInt / 2 ^ k.toNat = (x.sshiftRight k.toNat).toInt := by
    rw [BitVec.toInt_sshiftRight, Int.shiftRight_eq_div_pow]
    norm_cast
  rw [e]
  exact wrapu_toInt (w := 64) _
theorem wrapu32_toNat (x : BitVec 64) : IntKind.u32.wrap (x.toNat : Int) = ((x.setWidth 32).toNat : Int) := by
  rw [wrap_u32, BitVec.toNat_setWidth]; omega
theorem wrap_i32 (n : Int) : IntKind.i32.wrap n = if n % 4294967296 ≥ 2147483648 then n % 4294967296 - 4294967296 else n % 4294967296 := by
  have e1 : ((2 : Int) ^ (32 : Nat)) = 4294967296 := by decide
  have e2 : ((2 : Int) ^ (31 : Nat)) = 2147483648 := by decide
  simp only [IntKind.wrap, IntKind.bits, IntKind.signed, Bool.true_and, e1, e2]
  simp only [decide_eq_true_eq]
theorem wrap_toInt32 (x : BitVec 32) : IntKind.i32.wrap (x.toNat : Int) = x.toInt := by
  have := x.isLt
  rw [wrap_i32, BitVec.toInt_eq_toNat_cond]
  split <;> split <;> omega
theorem wrapu32_toInt (x : BitVec 32) : IntKind.u32.wrap x.toInt = (x.toNat : Int) := by
  rw [wrap_u32, BitVec.toInt_eq_toNat_cond]
  have := x.isLt
  split <;> omega
theorem sshr_u32 (x : BitVec 64) {k : Int} (h : k ≤ 32) : IntKind.u64.wrap (IntKind.u32.wrap (shr .i32 (IntKind.i32.wrap (IntKind.u32.wrap (x.toNat : Int))) k)) = ((((x.setWidth 32).sshiftRight k.toNat).setWidth 64).toNat : Int) := by
  rw [wrapu32_toNat, wrap_toInt32]
  unfold shr
  have hb : IntKind.bits .i32 = 32 := rfl
  rw [hb, Nat.min_eq_left (by omega)]
  have e : (x.setWidth 32).toInt / 2 ^ k.toNat = ((x.setWidth 32).sshiftRight k.toNat).toInt := by
    rw [BitVec.toInt_sshiftRight, Int.shiftRight_eq_div_pow]
    norm_cast
  rw [e, wrapu32_toInt, wrap_u64, BitVec.toNat_setWidth]
  have := ((x.setWidth 32).sshiftRight k.toNat).isLt
  omega
theorem tmod_nn {x : Int} {n : Int} (h : 0 ≤ x) (hn : 0 < n) : 0 ≤ Int.tmod x n ∧ Int.tmod x n < n := by
  rw [Int.tmod_eq_emod_of_nonneg h]
  exact ⟨Int.emod_nonneg _ (by omega), Int.emod_lt_of_pos _ hn⟩
theorem Arsh64_tb (v m : BitVec 64) (n : Int) : tnum_Arsh (tb v m) n 64 = tb (v.sshiftRight (Int.tmod (IntKind.u64.wrap n) 64).toNat) (m.sshiftRight (Int.tmod (IntKind.u64.wrap n) 64).toNat) := by
  unfold tnum_Arsh
  have h := tmod_nn (x := IntKind.u64.wrap n) (n := 64) wrapu_nn (by decide)
  rw [if_pos rfl]
  simp only [tb_v, tb_m]
  rw [sshr_u64 v (by omega), sshr_u64 m (by omega)]; rfl
theorem Arsh32_tb (v m : BitVec 64) (n : Int) : tnum_Arsh (tb v m) n 32 = tb (((v.setWidth 32).sshiftRight (Int.tmod (IntKind.u64.wrap n) 32).toNat).setWidth 64) (((m.setWidth 32).sshiftRight (Int.tmod (IntKind.u64.wrap n) 32).toNat).setWidth 64) := by
  unfold tnum_Arsh
  have h := tmod_nn (x := IntKind.u64.wrap n) (n := 32) wrapu_nn (by decide)
  rw [if_neg (by decide), if_pos rfl]
  simp only [tb_v, tb_m]
  rw [sshr_u32 v (by omega), sshr_u32 m (by omega)]; rfl
/-! ### 32 bits -/
theorem in32 {v m x : BitVec 64} (h : TT.In v m x) : TT.In (v.setWidth 32) (m.setWidth 32) (x.setWidth 32) := by
  apply TT.in_of_bits
  intro i hi
  have := h.bit (show i < 64 by omega)
  simp only [BitVec.getLsbD_setWidth, hi, decide_true, Bool.true_and]
  exact this
theorem in64 {v m x : BitVec 32} (h : TT.In v m x) : TT.In (v.setWidth 64) (m.setWidth 64) (x.setWidth 64) := by
  apply TT.in_of_bits
  intro i hi
  simp only [BitVec.getLsbD_setWidth, hi, decide_true, Bool.true_and]
  by_cases h32 : i < 32
  · exact h.bit h32
  · simp [BitVec.getLsbD_of_ge _ _ (show 32 ≤ i by omega)]
theorem Cut4_tb (v m : BitVec 64) : tnum_Cut (tb v m) 4 = tb ((v.setWidth 32).setWidth 64) ((m.setWidth 32).setWidth 64) := by
  unfold tnum_Cut
  rw [if_neg (by decide), if_neg (by decide)]
  have e : shl .u64 18446744073709551615 (IntKind.i64.wrap (8 * 4)) = ((0xffffffff00000000#64).toNat : Int) := by decide
  simp only [e, tb_v, tb_m, andNot_u64]
  have k : ∀ x : BitVec 64, x &&& ~~~0xffffffff00000000#64 = (x.setWidth 32).setWidth 64 := by
    intro x
    apply BitVec.eq_of_getLsbD_eq
    intro i hi
    have hc : ∀ i : Fin 64, (~~~0xffffffff00000000#64).getLsbD i.val = decide (i.val < 32) := by decide
    rw [BitVec.getLsbD_and, hc ⟨i, hi⟩]
    simp only [BitVec.getLsbD_setWidth, hi, decide_true, Bool.true_and]
    rw [Bool.and_comm]
  rw [k, k]; rfl
theorem low32 (x : BitVec 64) : (((x.setWidth 32).setWidth 64).toNat : Int) = (x.toNat : Int) % 4294967296 := by
  rw [BitVec.toNat_setWidth, BitVec.toNat_setWidth]
  omega
/-! ### Mul -/
def mulS (x y a b s : BitVec 64) : BitVec 64 := s + (x * y - a * b)
theorem bit0_and (x : BitVec 64) : x &&& 1#64 = if x.getLsbD 0 then 1#64 else 0#64 := by
  apply BitVec.eq_of_getLsbD_eq
  intro i hi
  rw [BitVec.getLsbD_and, BitVec.getLsbD_one]
  by_cases h0 : i = 0
  · subst h0
    cases h : x.getLsbD 0
    · rw [Bool.false_and, if_neg (by decide)]; rfl
    · rw [Bool.true_and, if_pos rfl]; rfl
  · have : decide (i = 0) = false := decide_eq_false h0
    split
    · simp [h0]
    · simp [h0]
theorem half_bit (x : BitVec 64) : x = (x >>> 1) * 2#64 + (if x.getLsbD 0 then 1#64 else 0#64) := by
  apply BitVec.eq_of_toNat_eq
  have hx := x.isLt
  have hb : x.getLsbD 0 = decide (x.toNat % 2 = 1) := by
    rw [BitVec.getLsbD, Nat.testBit_zero]
  rw [BitVec.toNat_add, BitVec.toNat_mul, BitVec.toNat_ushiftRight, Nat.shiftRight_eq_div_pow, hb]
  by_cases h : x.toNat % 2 = 1
  · simp [h]; omega
  · simp [h]; omega
theorem shl1 (x : BitVec 64) : x <<< 1 = x * 2#64 := by
  apply BitVec.eq_of_toNat_eq
  rw [BitVec.toNat_shiftLeft, BitVec.toNat_mul, Nat.shiftLeft_eq]; rfl
theorem Mul_step (x y a b s : BitVec 64) : mulS x y a b s = mulS (x >>> 1) (y <<< 1) (a >>> 1) (b <<< 1) (s + ((if x.getLsbD 0 then y else 0#64) - (if a.getLsbD 0 then b else 0#64))) := by
  unfold mulS
  rw [shl1, shl1]
  have hx := half_bit x
  have ha := half_bit a
  generalize x >>> 1 = x' at *
  generalize a >>> 1 = a' at *
  have e1 : x * y = x' * (y * 2#64) + (if x.getLsbD 0 then y else 0#64) := by
    conv => lhs; rw [hx]
    split <;> grind
  have e2 : a * b = a' * (b * 2#64) + (if a.getLsbD 0 then b else 0#64) := by
    conv => lhs; rw [ha]
    split <;> grind
  rw [e1, e2]
  generalize (if x.getLsbD 0 then y else 0#64) = p
  generalize (if a.getLsbD 0 then b else 0#64) = q
  grind
theorem Rsh1_tb (v m : BitVec 64) : tnum_Rsh (tb v m) 1 = tb (v >>> 1) (m >>> 1) := by
  rw [Rsh_tb]; rfl
theorem Lsh1_tb (v m : BitVec 64) : tnum_Lsh (tb v m) 1 = tb (v <<< 1) (m <<< 1) := by
  rw [Lsh_tb]; rfl
theorem err1 {b m y : BitVec 64} (h : TT.In b m y) : TT.In 0#64 m (y - b) := by
  have h1 : y - b = y &&& m := by
    have h2 : y = b + (y &&& m) := by
      rw [TT.add_or]
      · subst h
        apply BitVec.eq_of_getLsbD_eq
        intro i hi
        simp only [BitVec.getLsbD_and, BitVec.getLsbD_not, BitVec.getLsbD_or, hi, decide_true, Bool.true_and]
        cases y.getLsbD i <;> cases m.getLsbD i <;> rfl
      · subst h
        apply BitVec.eq_of_getLsbD_eq
        intro i hi
        simp only [BitVec.getLsbD_and, BitVec.getLsbD_not, hi, decide_true, Bool.true_and, BitVec.getLsbD_zero]
        cases y.getLsbD i <;> cases m.getLsbD i <;> rfl
    conv => lhs; rw [h2]
    grind
  rw [h1]
  unfold TT.In
  rw [BitVec.and_assoc]; simp
theorem err2 {b m y : BitVec 64} (h : TT.In b m y) : TT.In 0#64 (b ||| m) y := by
  subst h
  apply TT.in_of_bits
  intro i hi
  simp only [BitVec.getLsbD_and, BitVec.getLsbD_not, BitVec.getLsbD_or, hi, decide_true, Bool.true_and, BitVec.getLsbD_zero]
  cases y.getLsbD i <;> cases m.getLsbD i <;> rfl
theorem in_zero (m : BitVec 64) : TT.In 0#64 m 0#64 := by unfold TT.In; simp
def MulOut (s : BitVec 64) : Option (Out (Int × Int × Int × Int × Int × Int) Tn) → Prop
  | some (.brk z) => ∃ v m, (⟨z.2.2.2.2.1, z.2.2.2.2.2⟩ : Tn) = tb v m ∧ TT.In v m s
  | some (.ret _) => False
  | none => True
theorem Mul_loop (A B : Tn) : ∀ (n : Nat) (a0 a1 b0 b1 s0 s1 x y s : BitVec 64), TT.In a0 a1 x → TT.In b0 b1 y → TT.In s0 s1 s →
    MulOut (mulS x y a0 b0 s) (tnum_Mul_L A B n a0.toNat a1.toNat b0.toNat b1.toNat s0.toNat s1.toNat)
  | 0, a0, a1, b0, b1, s0, s1, x, y, s, hx, hy, hs => by rw [tnum_Mul_L]; trivial
  | n + 1, a0, a1, b0, b1, s0, s1, x, y, s, hx, hy, hs => by
    have hx' := TT.shr_in hx 1
    have hy' := TT.shl_in hy 1
    have e1 : tnum_Rsh (⟨(a0.toNat : Int), (a1.toNat : Int)⟩ : Tn) 1 = tb (a0 >>> 1) (a1 >>> 1) := Rsh1_tb a0 a1
    have e2 : tnum_Lsh (⟨(b0.toNat : Int), (b1.toNat : Int)⟩ : Tn) 1 = tb (b0 <<< 1) (b1 <<< 1) := Lsh1_tb b0 b1
    have one : (1 : Int) = ((1#64).toNat : Int) := rfl
    have e3 : (Go.bits .and .u64 (a0.toNat : Int) 1 = 0) ↔ a0.getLsbD 0 = false := by
      rw [one, and_u64, zero_bv, toNat_inj_int, bit0_and]
      cases a0.getLsbD 0 <;> simp
    have e4 : (Go.bits .and .u64 (a1.toNat : Int) 1 = 0) ↔ a1.getLsbD 0 = false := by
      rw [one, and_u64, zero_bv, toNat_inj_int, bit0_and]
      cases a1.getLsbD 0 <;> simp
    have e5 : tnum_Add (⟨(s0.toNat : Int), (s1.toNat : Int)⟩ : Tn) (⟨0, (b1.toNat : Int)⟩ : Tn) = _ := Add_tb s0 s1 0#64 b1
    have e6 : tnum_Add (⟨(s0.toNat : Int), (s1.toNat : Int)⟩ : Tn) (⟨0, (Go.bits .or .u64 (b0.toNat : Int) (b1.toNat : Int))⟩ : Tn) = tb ((s0 + 0#64) &&& ~~~(((s0 + 0#64 + s1 + (b0 ||| b1)) ^^^ (s0 + 0#64)) ||| s1 ||| (b0 ||| b1))) (((s0 + 0#64 + s1 + (b0 ||| b1)) ^^^ (s0 + 0#64)) ||| s1 ||| (b0 ||| b1)) := by
      rw [or_u64]; exact Add_tb s0 s1 0#64 (b0 ||| b1)
    have hb := hx.bit (show 0 < 64 by decide)
    rw [tnum_Mul_L]
    split
    · rename_i hz
      simp only [Bool.and_eq_true, beq_iff_eq] at hz
      have z0 : a0 = 0#64 := by
        have := hz.1; rw [zero_bv] at this; exact toNat_inj_int.1 this
      have z1 : a1 = 0#64 := by
        have := hz.2; rw [zero_bv] at this; exact toNat_inj_int.1 this
      subst z0; subst z1
      have : x = 0#64 := by
        unfold TT.In at hx
        have e : ~~~0#64 = BitVec.allOnes 64 := by decide
        rw [e, BitVec.and_allOnes] at hx; exact hx
      subst this
      refine ⟨s0, s1, rfl, ?_⟩
      unfold mulS
      rw [BitVec.zero_mul, BitVec.zero_mul]
      simpa using hs
    · rw [e1, e2, e5, e6, Mul_step]
      simp only [e3, e4]
      by_cases h0 : a0.getLsbD 0 = false
      · rw [if_pos h0]
        by_cases h1 : a1.getLsbD 0 = false
        · rw [if_pos h1]
          have hx0 : x.getLsbD 0 = false := by rw [h0, h1] at hb; simpa using hb.symm
          rw [hx0, h0]
          have := Mul_loop A B n _ _ _ _ _ _ _ _ (s + ((if false = true then y else 0#64) - (if false = true then b0 else 0#64))) hx' hy' (by simpa using hs)
          exact this
        · rw [if_neg h1]
          have hin : TT.In 0#64 (b0 ||| b1) ((if x.getLsbD 0 then y else 0#64) - (if a0.getLsbD 0 then b0 else 0#64)) := by
            rw [h0]
            split
            · simpa using err2 hy
            · simpa using in_zero _
          exact Mul_loop A B n _ _ _ _ _ _ _ _ _ hx' hy' (TT.add_in hs hin)
      · rw [if_neg h0]
        have h0' : a0.getLsbD 0 = true := by simpa using h0
        have hx0 : x.getLsbD 0 = true := by
          rw [h0'] at hb; have := hb.symm; simp at this; exact this.1
        have hin : TT.In 0#64 b1 ((if x.getLsbD 0 then y else 0#64) - (if a0.getLsbD 0 then b0 else 0#64)) := by
          rw [h0', hx0]
          simpa using err1 hy
        exact Mul_loop A B n _ _ _ _ _ _ _ _ _ hx' hy' (TT.add_in hs hin)
theorem Mul_sound {a b : Tn} {x y : Int} (ha : VTn a) (hb : VTn b) (x0 : 0 ≤ x) (x1 : x < 18446744073709551616) (y0 : 0 ≤ y) (y1 : y < 18446744073709551616) (h1 : tnum_In a x = true) (h2 : tnum_In b y = true) :
    tnum_In (tnum_Mul a b) (IntKind.u64.wrap (x * y)) = true := by
  obtain ⟨v, m, rfl⟩ := tb_of ha
  obtain ⟨v', m', rfl⟩ := tb_of hb
  obtain ⟨x, rfl⟩ := exists_bv x0 x1
  obtain ⟨y, rfl⟩ := exists_bv y0 y1
  rw [in_tb] at h1 h2
  rw [mul_u64]
  have hL := Mul_loop (tb v m) (tb v' m') 66 v m v' m' 0#64 0#64 x y 0#64 h1 h2 (in_zero _)
  have hT := T_tnum_Mul (tb v m) (tb v' m') (decide_eq_true ha)
  have e : tnum_Mul_L (tb v m) (tb v' m') 66 (tb v m).v (tb v m).m (tb v' m').v (tb v' m').m ((tnum_Of 0).v) ((tnum_Of 0).m) = tnum_Mul_L (tb v m) (tb v' m') 66 v.toNat m.toNat v'.toNat m'.toNat (0#64).toNat (0#64).toNat := rfl
  unfold tnum_Mul
  rw [e] at hT ⊢
  cases hq : tnum_Mul_L (tb v m) (tb v' m') 66 v.toNat m.toNat v'.toNat m'.toNat (0#64).toNat (0#64).toNat with
  | none => exact absurd hq hT
  | some o =>
    rw [hq] at hL
    cases o with
    | ret r => exact hL.elim
    | brk z =>
      obtain ⟨sv, sm, hz, hin⟩ := hL
      show tnum_In (tnum_Add (tnum_Of (IntKind.u64.wrap ((tb v m).v * (tb v' m').v))) (⟨z.2.2.2.2.1, z.2.2.2.2.2⟩ : Tn)) _ = true
      rw [hz, tb_v, tb_v, mul_u64, Of_tb, Add_tb, in_tb]
      have := TT.add_in (TT.in_of (v * v')) hin
      have e2 : v * v' + mulS x y v v' 0#64 = x * y := by unfold mulS; grind
      rw [e2] at this
      exact this
end Go.Proofs.T
