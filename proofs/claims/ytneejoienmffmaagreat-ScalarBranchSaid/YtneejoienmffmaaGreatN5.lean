/-
  Plain laws: the document's spans and scalars are the program's.
-/
import Derived.Test.YtneejoienmffmaaGreatN4
set_option linter.unusedVariables false
set_option maxRecDepth 100000
namespace Go.Proofs.T
open Go Go.Proofs Go.Proofs.SX
theorem Us_ext {a b : Us} (h1 : a.lo = b.lo) (h2 : a.hi = b.hi) : a = b := by cases a; cases b; simp_all
theorem Ss_ext {a b : Ss} (h1 : a.lo = b.lo) (h2 : a.hi = b.hi) : a = b := by cases a; cases b; simp_all
theorem rUMeet (a b : Us) : lockgateref04_UMeet a b = span_UMeet a b := by
  rw [UMeet_eq]
  unfold lockgateref04_UMeet
  by_cases h1 : a.lo < b.lo
  · by_cases h2 : b.hi < a.hi
    · by_cases h3 : b.hi < b.lo
      · simp [h1, h2, h3, Int.not_le.2 h3]
      · simp [h1, h2, h3, Int.not_lt.1 h3]
    · by_cases h3 : a.hi < b.lo
      · simp [h1, h2, h3, Int.not_le.2 h3]
      · simp [h1, h2, h3, Int.not_lt.1 h3]
  · by_cases h2 : b.hi < a.hi
    · by_cases h3 : b.hi < a.lo
      · simp [h1, h2, h3, Int.not_le.2 h3]
      · simp [h1, h2, h3, Int.not_lt.1 h3]
    · by_cases h3 : a.hi < a.lo
      · simp [h1, h2, h3, Int.not_le.2 h3]
      · simp [h1, h2, h3, Int.not_lt.1 h3]
theorem rSMeet (a b : Ss) : lockgateref04_SMeet a b = span_SMeet a b := by
  rw [SMeet_eq]
  unfold lockgateref04_SMeet
  by_cases h1 : a.lo < b.lo
  · by_cases h2 : b.hi < a.hi
    · by_cases h3 : b.hi < b.lo
      · simp [h1, h2, h3, Int.not_le.2 h3]
      · simp [h1, h2, h3, Int.not_lt.1 h3]
    · by_cases h3 : a.hi < b.lo
      · simp [h1, h2, h3, Int.not_le.2 h3]
      · simp [h1, h2, h3, Int.not_lt.1 h3]
  · by_cases h2 : b.hi < a.hi
    · by_cases h3 : b.hi < a.lo
      · simp [h1, h2, h3, Int.not_le.2 h3]
      · simp [h1, h2, h3, Int.not_lt.1 h3]
    · by_cases h3 : a.hi < a.lo
      · simp [h1, h2, h3, Int.not_le.2 h3]
      · simp [h1, h2, h3, Int.not_lt.1 h3]
theorem rUAll : lockgateref04_UAll = span_UAll := Us_ext (by decide) (by decide)
theorem rSAll : lockgateref04_SAll = span_SAll := rfl
theorem rtop : lockgateref04_top = 9223372036854775808 := by decide
theorem rToU {s : Ss} (h : s.lo ≤ s.hi) : lockgateref04_ToU s = span_ToU s := by
  unfold lockgateref04_ToU span_ToU
  rw [rUAll]
  by_cases h1 : s.lo < 0
  · by_cases h2 : s.hi < 0
    · simp [h1, h2, Int.not_le.2 h2]
    · simp [h1, h2, Int.not_lt.1 h2]
  · have h2 : ¬ s.hi < 0 := by omega
    simp [h1, h2]
theorem rToS {u : Us} (h : VUs u) : lockgateref04_ToS u = span_ToS u := by
  unfold lockgateref04_ToS span_ToS
  rw [rSAll, rtop, shr63 h.1.1 h.1.2, shr63 h.2.1 h.2.2]
  by_cases h1 : u.lo < 9223372036854775808
  · by_cases h2 : u.hi < 9223372036854775808
    · simp [h1, h2]
    · simp [h1, h2]
  · by_cases h2 : u.hi < 9223372036854775808
    · simp [h1, h2]
    · simp [h1, h2]
theorem orAdd {x y : BitVec 64} (h : x &&& y = 0#64) : IntKind.u64.wrap ((x.toNat : Int) + y.toNat) = ((x ||| y).toNat : Int) := by
  rw [add_u64, TT.add_or h]
theorem FT_lo {v m : BitVec 64} (hm : v &&& m = 0#64) (h : (m.toNat : Int) < 9223372036854775808) : lockgateref04_FromT (tb v m) = ((⟨(v.toNat : Int), IntKind.u64.wrap ((v.toNat : Int) + m.toNat)⟩ : Us), (⟨IntKind.i64.wrap (v.toNat : Int), IntKind.i64.wrap (IntKind.u64.wrap ((v.toNat : Int) + m.toNat))⟩ : Ss)) := if_pos h
theorem FT_hi {v m : BitVec 64} (h : ¬ (m.toNat : Int) < 9223372036854775808) : lockgateref04_FromT (tb v m) = ((⟨(v.toNat : Int), IntKind.u64.wrap ((v.toNat : Int) + m.toNat)⟩ : Us), (⟨IntKind.i64.wrap (IntKind.u64.wrap ((v.toNat : Int) + 9223372036854775808)), IntKind.i64.wrap (IntKind.u64.wrap ((v.toNat : Int) + IntKind.u64.wrap ((m.toNat : Int) - 9223372036854775808)))⟩ : Ss)) := if_neg h
theorem rFromT {t : Tn} (ht : VTn t) (hm : Go.bits .and .u64 t.v t.m = 0) : lockgateref04_FromT t = span_FromT t := by
  obtain ⟨v, m, rfl⟩ := tb_of ht
  rw [mayT_tb] at hm
  rw [FromT_tb]
  by_cases h : (m.toNat : Int) < 9223372036854775808
  · rw [FT_lo hm h, orAdd hm, wrap_toInt, wrap_toInt, if_pos ((and_top m).2 (by omega))]
  · have hm63 : m.getLsbD 63 = true := b63t.2 (by omega)
    have hv63 : v.getLsbD 63 = false := by have := mayB hm 63; rw [hm63] at this; simpa using this
    rw [FT_hi h, if_neg (fun hh => h (by have := (and_top m).1 hh; omega))]
    have e1 : v &&& top = 0#64 := by
      apply BitVec.eq_of_getLsbD_eq
      intro i hi
      rw [BitVec.getLsbD_and, top_bit hi, BitVec.getLsbD_zero]
      by_cases h63 : i = 63
      · subst h63; rw [hv63]; rfl
      · simp [h63]
    have e2 : IntKind.u64.wrap ((m.toNat : Int) - 9223372036854775808) = ((m &&& ~~~top).toNat : Int) := by
      rw [top_int, sub_u64]
      congr 1
      congr 1
      have hh : m = (m &&& ~~~top) ||| top := by
        apply BitVec.eq_of_getLsbD_eq
        intro i hi
        rw [BitVec.getLsbD_or, BitVec.getLsbD_and, BitVec.getLsbD_not, top_bit hi]
        by_cases h63 : i = 63
        · subst h63; rw [hm63]; rfl
        · simp [h63, hi]
      have hd : (m &&& ~~~top) &&& top = 0#64 := by
        rw [BitVec.and_assoc]
        have : ~~~top &&& top = 0#64 := by rw [BitVec.and_comm]; simp
        rw [this, BitVec.and_zero]
      conv => lhs; rw [hh, ← TT.add_or hd]
      rw [BitVec.add_sub_cancel]
    have e3 : v &&& (m &&& ~~~top) = 0#64 := by rw [← BitVec.and_assoc, hm, BitVec.zero_and]
    rw [e2, top_int, orAdd e1, orAdd e3, orAdd hm, wrap_toInt, wrap_toInt]
/-! ### ToT -/
theorem sub_mod_iff {x y p : Int} (hx : 0 ≤ x) (hy : 0 ≤ y) (hp : 0 < p) : x - x % p = y - y % p ↔ x / p = y / p := by
  have e1 := Int.emod_add_mul_ediv x p
  have e2 := Int.emod_add_mul_ediv y p
  constructor
  · intro h
    have : p * (x / p) = p * (y / p) := by omega
    exact Int.eq_of_mul_eq_mul_left (by omega) this
  · intro h
    rw [h] at e1; omega
theorem mod_self_le {x p : Int} (hx : 0 ≤ x) (hp : 0 < p) : 0 ≤ x - x % p ∧ x - x % p ≤ x := by
  have := mod_le hx hp; omega
theorem ToT_loop (lo hi : BitVec 64) (K : Nat) (hK : K ≤ 64) (hd : ∀ j, j < K → (lo.toNat : Int) / 2 ^ j ≠ (hi.toNat : Int) / 2 ^ j) (he : (lo.toNat : Int) / 2 ^ K = (hi.toNat : Int) / 2 ^ K) :
    ∀ (n k : Nat), k ≤ K → K + 1 ≤ n + k → lockgateref04_ToT_L ⟨(lo.toNat : Int), (hi.toNat : Int)⟩ n (2 ^ k - 1) = some (.brk (2 ^ K - 1))
  | 0, k, h1, h2 => by omega
  | n + 1, k, h1, h2 => by
    rw [lockgateref04_ToT_L, rUAll]
    have hp := pw k
    have hl := lo.isLt
    have hh := hi.isLt
    by_cases h64 : k = 64
    · subst h64
      have : K = 64 := by omega
      subst this
      rw [if_neg (by rw [e64]; decide)]
    · have hk : k ≤ 63 := by omega
      have hle := pw_le hk
      rw [e63] at hle
      have c1 : (2 : Int) ^ k - 1 < span_UAll.hi := by show (2 : Int) ^ k - 1 < 18446744073709551615; omega
      rw [if_pos c1]
      have ep : IntKind.u64.wrap (2 ^ k - 1 + 1) = (2 : Int) ^ k := by rw [wrap_u64_id (by omega) (by omega)]; omega
      dsimp only
      rw [ep, tmod_nn' (Int.natCast_nonneg _), tmod_nn' (Int.natCast_nonneg _)]
      have m1 := mod_self_le (x := (lo.toNat : Int)) (Int.natCast_nonneg _) hp
      have m2 := mod_self_le (x := (hi.toNat : Int)) (Int.natCast_nonneg _) hp
      rw [wrap_u64_id m1.1 (by omega), wrap_u64_id m2.1 (by omega)]
      have iff := sub_mod_iff (x := (lo.toNat : Int)) (y := (hi.toNat : Int)) (Int.natCast_nonneg _) (Int.natCast_nonneg _) hp
      by_cases hkK : k = K
      · subst hkK
        rw [if_pos (iff.2 he)]
      · rw [if_neg (fun h => hd k (by omega) (iff.1 h))]
        have e2 : (2 : Int) ^ (k + 1) = 2 ^ k * 2 := Int.pow_succ _ _
        have en : IntKind.u64.wrap (IntKind.u64.wrap (2 * (2 ^ k - 1)) + 1) = (2 : Int) ^ (k + 1) - 1 := by
          rw [wrap_u64_id (x := 2 * (2 ^ k - 1)) (by omega) (by omega), wrap_u64_id (by omega) (by omega)]; omega
        rw [en]
        exact ToT_loop lo hi K hK hd he n (k + 1) (by omega) (by omega)
theorem shr_div_bv (x : BitVec 64) (k : Nat) : ((x >>> k).toNat : Int) = (x.toNat : Int) / 2 ^ k := by
  rw [BitVec.toNat_ushiftRight, Nat.shiftRight_eq_div_pow, Int.natCast_ediv, pw_cast]
theorem hiK (x : BitVec 64) (k : Nat) : ((x &&& ~~~ones k).toNat : Int) = x.toNat - x.toNat % 2 ^ k := by
  rw [andnot_ones, BitVec.toNat_shiftLeft, BitVec.toNat_ushiftRight, Nat.shiftRight_eq_div_pow, Nat.shiftLeft_eq]
  have h := Nat.div_mul_le_self x.toNat (2 ^ k)
  have := x.isLt
  rw [Nat.mod_eq_of_lt (by omega)]
  have h2 := Nat.mod_add_div x.toNat (2 ^ k)
  rw [Nat.mul_comm] at h2
  rw [← pw_cast, ← Int.natCast_emod]
  omega
theorem ones_int {k : Nat} (h : k ≤ 64) : ((ones k).toNat : Int) = 2 ^ k - 1 := by
  rw [ones_toNat h]
  have := pw k
  rw [← pw_cast] at this ⊢
  omega
theorem rToT {u : Us} (h : VUs u) : lockgateref04_ToT u = span_ToT u := by
  obtain ⟨lo, hi, rfl⟩ := VUs_bv h
  have hs := klen_spec (lo ^^^ hi).isLt
  have hK := klen_le (lo ^^^ hi).toNat
  have he := ToT_hi lo hi
  rw [ToT_tb]
  generalize hKd : klen (lo ^^^ hi).toNat = K at *
  have he' : (lo.toNat : Int) / 2 ^ K = (hi.toNat : Int) / 2 ^ K := by rw [← shr_div_bv, ← shr_div_bv, he]
  have hd : ∀ j, j < K → (lo.toNat : Int) / 2 ^ j ≠ (hi.toNat : Int) / 2 ^ j := fun j hj heq => by
    rw [← shr_div_bv, ← shr_div_bv, toNat_inj_int] at heq
    have hx : (lo ^^^ hi) >>> j = 0#64 := by rw [BitVec.ushiftRight_xor_distrib, heq, BitVec.xor_self]
    have hlt : (lo ^^^ hi).toNat < 2 ^ j := by
      have := congrArg BitVec.toNat hx
      rw [BitVec.toNat_ushiftRight, Nat.shiftRight_eq_div_pow, BitVec.toNat_zero] at this
      exact (Nat.div_eq_zero_iff_lt (Nat.two_pow_pos j)).1 this
    by_cases hz : 0 < (lo ^^^ hi).toNat
    · have h2 := (hs.2 hz).2
      have : 2 ^ j ≤ 2 ^ (K - 1) := Nat.pow_le_pow_right (by decide) (by omega)
      omega
    · have h0 : (lo ^^^ hi).toNat = 0 := by omega
      have : K = 0 := by rw [← hKd, h0]; decide
      omega
  have hloop := ToT_loop lo hi K hK hd he' 65 0 (by omega) (by omega)
  have e0 : (2 : Int) ^ 0 - 1 = 0 := by decide
  rw [e0] at hloop
  unfold lockgateref04_ToT
  rw [hloop, rUAll]
  dsimp only
  have eT : tb (lo &&& ~~~ones K) (ones K) = (⟨(lo.toNat : Int) - lo.toNat % 2 ^ K, 2 ^ K - 1⟩ : Tn) := by
    unfold tb; rw [hiK, ones_int hK]
  rw [eT]
  have hp := pw K
  have hl := lo.isLt
  by_cases hk : K = 64
  · subst hk
    rw [if_pos (by rw [e64]; rfl), e64]
    have : (lo.toNat : Int) - (lo.toNat : Int) % 18446744073709551616 = 0 := by omega
    rw [this]
  · have hle := pw_le (show K ≤ 63 by omega)
    rw [e63] at hle
    rw [if_neg (by show ¬ (2 : Int) ^ K - 1 = 18446744073709551615; omega)]
    have ep : IntKind.u64.wrap (2 ^ K - 1 + 1) = (2 : Int) ^ K := by rw [wrap_u64_id (by omega) (by omega)]; omega
    have m1 := mod_self_le (x := (lo.toNat : Int)) (Int.natCast_nonneg _) hp
    rw [ep, tmod_nn' (Int.natCast_nonneg _), wrap_u64_id m1.1 (by omega)]
/-! ### scalars -/
theorem rIs (a : Sc) : lockgateref05_Is a = scalar_Is a := rfl
theorem rAny : lockgateref05_Any = scalar_Any := by
  unfold lockgateref05_Any scalar_Any; rw [rUAll, rSAll]; rfl
theorem rOf (a : Int) : lockgateref05_Of a = scalar_Of a := rfl
theorem rUpto (n : Int) : lockgateref05_Upto n = scalar_Upto n := by
  unfold lockgateref05_Upto scalar_Upto
  rw [rAny, rOf]
  by_cases h8 : 8 ≤ n
  · rw [if_pos h8, if_pos h8]
  · rw [if_neg h8, if_neg h8]
    by_cases h1 : n < 1
    · rw [if_pos h1, if_pos h1]
    · rw [if_neg h1, if_neg h1]
      have : n = 1 ∨ n = 2 ∨ n = 3 ∨ n = 4 ∨ n = 5 ∨ n = 6 ∨ n = 7 := by omega
      have e : IntKind.u64.wrap (IntKind.i64.wrap (8 * n)) = IntKind.i64.wrap (8 * n) := by
        rcases this with rfl | rfl | rfl | rfl | rfl | rfl | rfl <;> decide
      rw [e]
end Go.Proofs.T
