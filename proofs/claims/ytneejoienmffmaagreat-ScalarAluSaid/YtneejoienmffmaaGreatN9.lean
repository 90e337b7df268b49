/-
  Plain laws: the parts of the document's operations are the program's.
-/
import Derived.Test.YtneejoienmffmaaGreatN8
set_option linter.unusedVariables false
set_option linter.unusedSimpArgs false
set_option maxRecDepth 100000
namespace Go.Proofs.T
open Go Go.Proofs Go.Proofs.SX
/-! ### tnums -/
theorem rTAdd (a b : Tn) : lockgateref03_Add a b = tnum_Add a b := rfl
theorem rTSub (a b : Tn) : lockgateref03_Sub a b = tnum_Sub a b := rfl
theorem rTAnd (a b : Tn) : lockgateref03_And a b = tnum_And a b := rfl
theorem rTOr (a b : Tn) : lockgateref03_Or a b = tnum_Or a b := rfl
theorem rTXor (a b : Tn) : lockgateref03_Xor a b = tnum_Xor a b := rfl
theorem setw32 (v : BitVec 64) : v &&& 4294967295#64 = (v.setWidth 32).setWidth 64 := by
  apply BitVec.eq_of_toNat_eq
  rw [BitVec.toNat_and, BitVec.toNat_setWidth, BitVec.toNat_setWidth]
  have e : (4294967295#64).toNat = 2 ^ 32 - 1 := rfl
  rw [e, Nat.and_two_pow_sub_one_eq_mod]
  omega
theorem rCut {a : Tn} (ha : VTn a) : lockgateref03_Cut a 4 = tnum_Cut a 4 := by
  obtain ⟨v, m, rfl⟩ := tb_of ha
  rw [Cut4_tb, ← setw32, ← setw32]
  have e : (IntKind.u64.wrap ((shl .u64 1 (IntKind.u64.wrap (IntKind.i64.wrap (8 * 4)))) - 1)) = ((4294967295#64).toNat : Int) := by decide
  unfold lockgateref03_Cut
  rw [if_neg (by decide), if_neg (by decide), e]
  show (⟨Go.bits .and .u64 (v.toNat : Int) _, Go.bits .and .u64 (m.toNat : Int) _⟩ : Tn) = _
  rw [and_u64, and_u64]; rfl
theorem count64 {n : Int} (h0 : 0 ≤ n) (h1 : n ≤ 63) : lockgateref03_count n 64 = n := by
  unfold lockgateref03_count
  have e : Int.tmod n 64 = n := by rw [tmod_nn' h0]; omega
  rw [e, if_neg (by omega), wrap_u64_id h0 (by omega)]
theorem count32 {n : Int} (h0 : 0 ≤ n) (h1 : n ≤ 31) : lockgateref03_count n 32 = n := by
  unfold lockgateref03_count
  have e : Int.tmod n 32 = n := by rw [tmod_nn' h0]; omega
  rw [e, if_neg (by omega), wrap_u64_id h0 (by omega)]
theorem rTLsh (a : Tn) {n : Int} (h0 : 0 ≤ n) (h1 : n ≤ 63) : lockgateref03_Lsh a n = tnum_Lsh a n := by
  unfold lockgateref03_Lsh tnum_Lsh
  rw [count64 h0 h1, tmod64_id h0 h1]
theorem rTRsh (a : Tn) {n : Int} (h0 : 0 ≤ n) (h1 : n ≤ 63) : lockgateref03_Rsh a n = tnum_Rsh a n := by
  unfold lockgateref03_Rsh tnum_Rsh
  rw [count64 h0 h1, tmod64_id h0 h1]
/-! ### spans -/
theorem rUAdd {a b : Us} (ha : VUs a) (hb : VUs b) : lockgateref04_UAdd a b = span_UAdd a b := by
  have A := ha.2
  have B := hb.2
  unfold lockgateref04_UAdd span_UAdd
  rw [rUAll]
  have e : (IntKind.u64.wrap (span_UAll.hi - b.hi) < a.hi) ↔ (IntKind.u64.wrap (a.hi + b.hi) < a.hi) := by
    show IntKind.u64.wrap (18446744073709551615 - b.hi) < a.hi ↔ _
    rw [wrap_u64, wrap_u64]; omega
  by_cases h : IntKind.u64.wrap (a.hi + b.hi) < a.hi
  · rw [if_pos h, if_pos (e.2 h)]
  · rw [if_neg h, if_neg (fun h' => h (e.1 h'))]
theorem rUSub (a b : Us) : lockgateref04_USub a b = span_USub a b := by
  unfold lockgateref04_USub span_USub
  rw [rUAll]
theorem rUMul {a b : Us} (ha : VUs a) (hb : VUs b) : lockgateref04_UMul a b = span_UMul a b := by
  have A := ha.2
  have B := hb.2
  unfold lockgateref04_UMul span_UMul
  rw [rUAll, Mul64_hi A B]
  have e2 : (bits_Mul64 a.hi b.hi).2 = IntKind.u64.wrap (a.hi * b.hi) := rfl
  rw [e2]
  by_cases hz : b.hi = 0
  · rw [if_pos hz, hz, Int.mul_zero, if_pos (by decide)]
  · rw [if_neg hz]
    have hb0 : 0 < b.hi := by omega
    have e : (IntKind.u64.wrap (Int.tdiv span_UAll.hi b.hi) < a.hi) ↔ ¬ a.hi * b.hi / 18446744073709551616 = 0 := by
      show IntKind.u64.wrap (Int.tdiv 18446744073709551615 b.hi) < a.hi ↔ _
      have hd := div_le (x := 18446744073709551615) (y := b.hi) (by decide) (by omega)
      rw [tdiv_nn (by decide), wrap_u64_id hd.1 (by omega)]
      have hp : 0 ≤ a.hi * b.hi := Int.mul_nonneg A.1 B.1
      have q1 : (18446744073709551615 / b.hi < a.hi) ↔ 18446744073709551615 < a.hi * b.hi := by
        rw [Int.ediv_lt_iff_lt_mul hb0]
      rw [q1]; omega
    by_cases h : a.hi * b.hi / 18446744073709551616 = 0
    · rw [if_pos h, if_neg (fun h' => (e.1 h') h)]
    · rw [if_neg h, if_pos (e.2 h)]
theorem rAlone (a : Us) : lockgateref04_alone a = span_alone a := rfl
theorem rUDiv (a b : Us) : lockgateref04_UDiv a b = span_UDiv a b := rfl
theorem rUMod {a b : Us} (ha : VUs a) (hb : VUs b) : lockgateref04_UMod a b = span_UMod a b := by
  have A := ha.1
  have B := hb.1
  unfold lockgateref04_UMod span_UMod
  by_cases hz : b.lo = 0
  · rw [if_pos hz, if_pos hz]; rfl
  · have hb0 : 0 < b.lo := by unfold W64 at B; omega
    have hd := div_le (x := a.lo) (y := b.lo) A.1 B.1
    have hm := mod_le (x := a.lo) (y := b.lo) A.1 hb0
    have hq := Int.mul_ediv_add_emod a.lo b.lo
    have hq2 : a.lo / b.lo * b.lo = a.lo - a.lo % b.lo := by rw [Int.mul_comm]; omega
    have hA := A.2
    have e : IntKind.u64.wrap (a.lo - IntKind.u64.wrap (IntKind.u64.wrap (Int.tdiv a.lo b.lo) * b.lo)) = Int.tmod a.lo b.lo := by
      rw [tdiv_nn A.1, tmod_nn' A.1, wrap_u64_id (x := a.lo / b.lo) hd.1 (by omega), hq2, wrap_u64_id (x := a.lo - a.lo % b.lo) (by omega) (by omega), wrap_u64_id (by omega) (by omega)]; omega
    rw [e]; rfl
theorem rUAnd (a b : Us) : lockgateref04_UAnd a b = span_UAnd a b := by
  unfold lockgateref04_UAnd span_UAnd
  simp only [rAlone]
  by_cases h : b.hi < a.hi
  · simp only [h, if_true]; rfl
  · simp only [h, if_false]; rfl
theorem rUCut {a : Us} (ha : VUs a) : lockgateref04_UCut a = span_UCut a := by
  unfold lockgateref04_UCut span_UCut
  obtain ⟨A, B⟩ := ha
  rw [tdiv_nn A.1, tdiv_nn B.1, tmod_nn' A.1, tmod_nn' B.1, and_low32 A, and_low32 B, shr32, shr32, wrap_u64_id (x := a.lo / 4294967296) (by omega) (by omega), wrap_u64_id (x := a.hi / 4294967296) (by omega) (by omega)]
/-! ### signed spans -/
theorem rover {a b : Int} (ha : -9223372036854775808 ≤ a ∧ a < 9223372036854775808) (hb : -9223372036854775808 ≤ b ∧ b < 9223372036854775808) : (lockgateref04_over a b = true) ↔ ¬ (-9223372036854775808 ≤ a + b ∧ a + b < 9223372036854775808) := by
  have eh : lockgateref04_SAll.hi = 9223372036854775807 := rfl
  have el : lockgateref04_SAll.lo = -9223372036854775808 := rfl
  unfold lockgateref04_over
  rw [eh, el]
  by_cases h1 : 0 < b
  · rw [if_pos h1, wrap_i64_id (x := 9223372036854775807 - b) (by omega) (by omega)]
    have h2 : ¬ b < 0 := by omega
    rw [if_neg h2]
    by_cases h3 : 9223372036854775807 - b < a
    · rw [if_pos h3]; simp; omega
    · rw [if_neg h3]; simp; omega
  · rw [if_neg h1]
    by_cases h2 : b < 0
    · rw [if_pos h2, wrap_i64_id (x := -9223372036854775808 - b) (by omega) (by omega)]
      simp; omega
    · rw [if_neg h2]; simp; omega
theorem runder {a b : Int} (ha : -9223372036854775808 ≤ a ∧ a < 9223372036854775808) (hb : -9223372036854775808 ≤ b ∧ b < 9223372036854775808) : (lockgateref04_under a b = true) ↔ ¬ (-9223372036854775808 ≤ a - b ∧ a - b < 9223372036854775808) := by
  have eh : lockgateref04_SAll.hi = 9223372036854775807 := rfl
  have el : lockgateref04_SAll.lo = -9223372036854775808 := rfl
  unfold lockgateref04_under
  rw [eh, el]
  by_cases h1 : b < 0
  · rw [if_pos h1, wrap_i64_id (x := 9223372036854775807 + b) (by omega) (by omega)]
    have h2 : ¬ 0 < b := by omega
    rw [if_neg h2]
    by_cases h3 : 9223372036854775807 + b < a
    · rw [if_pos h3]; simp; omega
    · rw [if_neg h3]; simp; omega
  · rw [if_neg h1]
    by_cases h2 : 0 < b
    · rw [if_pos h2, wrap_i64_id (x := -9223372036854775808 + b) (by omega) (by omega)]
      simp; omega
    · rw [if_neg h2]; simp; omega
def sfit (x : Int) : Prop := -9223372036854775808 ≤ x ∧ x < 9223372036854775808
theorem sum_iff {a b : Int} (ha : sfit a) (hb : sfit b) : (span_sum a b).1 = IntKind.i64.wrap (a + b) ∧ ((span_sum a b).2 = true ↔ sfit (a + b)) := by
  unfold sfit at *
  unfold span_sum
  refine ⟨rfl, ?_⟩
  simp only [beq_iff_eq, decide_eq_decide]
  rw [wrap_i64]
  split <;> omega
theorem less_iff {a b : Int} (ha : sfit a) (hb : sfit b) : (span_less a b).1 = IntKind.i64.wrap (a - b) ∧ ((span_less a b).2 = true ↔ sfit (a - b)) := by
  unfold sfit at *
  unfold span_less
  refine ⟨rfl, ?_⟩
  simp only [beq_iff_eq, decide_eq_decide]
  rw [wrap_i64]
  split <;> omega
theorem rSAdd {a b : Ss} (ha : VSs a) (hb : VSs b) : lockgateref04_SAdd a b = span_SAdd a b := by
  unfold lockgateref04_SAdd span_SAdd span_ends
  have o1 := rover ha.1 hb.1
  have o2 := rover ha.2 hb.2
  have s1 := sum_iff ha.1 hb.1
  have s2 := sum_iff ha.2 hb.2
  unfold sfit at s1 s2
  rw [rSAll, s1.1, s2.1]
  by_cases h1 : -9223372036854775808 ≤ a.lo + b.lo ∧ a.lo + b.lo < 9223372036854775808
  · rw [if_neg (fun h => o1.1 h h1), if_pos (s1.2.2 h1)]
    by_cases h2 : -9223372036854775808 ≤ a.hi + b.hi ∧ a.hi + b.hi < 9223372036854775808
    · rw [if_neg (fun h => o2.1 h h2), if_pos (s2.2.2 h2)]
    · rw [if_pos (o2.2 h2), if_neg (fun h => h2 (s2.2.1 h))]
  · rw [if_pos (o1.2 h1), if_neg (fun h => h1 (s1.2.1 h))]
theorem rSSub {a b : Ss} (ha : VSs a) (hb : VSs b) : lockgateref04_SSub a b = span_SSub a b := by
  unfold lockgateref04_SSub span_SSub span_ends
  have o1 := runder ha.1 hb.2
  have o2 := runder ha.2 hb.1
  have s1 := less_iff ha.1 hb.2
  have s2 := less_iff ha.2 hb.1
  unfold sfit at s1 s2
  rw [rSAll, s1.1, s2.1]
  by_cases h1 : -9223372036854775808 ≤ a.lo - b.hi ∧ a.lo - b.hi < 9223372036854775808
  · rw [if_neg (fun h => o1.1 h h1), if_pos (s1.2.2 h1)]
    by_cases h2 : -9223372036854775808 ≤ a.hi - b.lo ∧ a.hi - b.lo < 9223372036854775808
    · rw [if_neg (fun h => o2.1 h h2), if_pos (s2.2.2 h2)]
    · rw [if_pos (o2.2 h2), if_neg (fun h => h2 (s2.2.1 h))]
  · rw [if_pos (o1.2 h1), if_neg (fun h => h1 (s1.2.1 h))]
/-! ### shifts of spans -/
theorem rround {n : Int} (h0 : 0 ≤ n) (h1 : n ≤ 63) : lockgateref04_round n = n := by
  unfold lockgateref04_round
  have e : Int.tmod n 64 = n := by rw [tmod_nn' h0]; omega
  rw [e, if_neg (by omega)]
theorem rhalf {x : Int} (h : sfit x) : lockgateref04_half x = x / 2 := by
  unfold sfit at h
  unfold lockgateref04_half
  by_cases h0 : 0 ≤ x
  · rw [tmod_nn' h0, tdiv_nn h0, if_neg (by omega), wrap_i64_id (by omega) (by omega)]
  · have ex : x = -(-x) := by omega
    have e1 : Int.tmod x 2 = -((-x) % 2) := by
      conv => lhs; rw [ex, Int.neg_tmod, tmod_nn' (by omega)]
    have e2 : Int.tdiv x 2 = -((-x) / 2) := by
      conv => lhs; rw [ex, Int.neg_tdiv, tdiv_nn (by omega)]
    rw [e1, e2]
    by_cases hm : -((-x) % 2) < 0
    · rw [if_pos hm, wrap_i64_id (x := -((-x) / 2)) (by omega) (by omega), wrap_i64_id (by omega) (by omega)]; omega
    · rw [if_neg hm, wrap_i64_id (by omega) (by omega)]; omega
theorem div2k (x : Int) (k : Nat) : x / 2 ^ k / 2 = x / 2 ^ (k + 1) := by
  rw [Int.pow_succ, Int.ediv_ediv_of_nonneg (by have := pw k; omega)]
theorem SArsh_loop (a : Ss) (ha : VSs a) (b : Int) (K : Nat) (hb : lockgateref04_round b = (K : Int)) (hK : K ≤ 63) : ∀ (n k : Nat), k ≤ K → K + 1 ≤ n + k →
    lockgateref04_SArsh_L a b n k (a.lo / 2 ^ k) (a.hi / 2 ^ k) = some (.brk ((K : Int), a.lo / 2 ^ K, a.hi / 2 ^ K))
  | 0, k, h1, h2 => by omega
  | n + 1, k, h1, h2 => by
    rw [lockgateref04_SArsh_L, hb]
    by_cases hk : k = K
    · subst hk; rw [if_neg (by omega)]
    · rw [if_pos (by omega), i64_succ (by omega), rhalf (sdiv_in ha.1), rhalf (sdiv_in ha.2), div2k, div2k]
      exact SArsh_loop a ha b K hb hK n (k + 1) (by omega) (by omega)
theorem rSArsh {a : Ss} (ha : VSs a) {n : Int} (h0 : 0 ≤ n) (h1 : n ≤ 63) : lockgateref04_SArsh a n = span_SArsh a n := by
  obtain ⟨K, rfl⟩ := Int.eq_ofNat_of_zero_le h0
  have hl := SArsh_loop a ha (K : Int) K (rround h0 h1) (by omega) 65 0 (by omega) (by omega)
  have e : ((0 : Nat) : Int) = 0 := rfl
  rw [Int.pow_zero, Int.ediv_one, Int.ediv_one, e] at hl
  unfold lockgateref04_SArsh span_SArsh
  rw [hl, and63_id h0 h1, shrs_int h0 h1, shrs_int h0 h1, Int.toNat_natCast]
theorem URsh_loop (a : Us) (ha : VUs a) (b : Int) (K : Nat) (hb : lockgateref04_round b = (K : Int)) (hK : K ≤ 63) : ∀ (n k : Nat), k ≤ K → K + 1 ≤ n + k →
    lockgateref04_URsh_L a b n k (a.lo / 2 ^ k) (a.hi / 2 ^ k) = some (.brk ((K : Int), a.lo / 2 ^ K, a.hi / 2 ^ K))
  | 0, k, h1, h2 => by omega
  | n + 1, k, h1, h2 => by
    rw [lockgateref04_URsh_L, hb]
    by_cases hk : k = K
    · subst hk; rw [if_neg (by omega)]
    · have d1 := div_le (x := a.lo) (y := 2 ^ k) ha.1.1 (by have := pw k; omega)
      have d2 := div_le (x := a.hi) (y := 2 ^ k) ha.2.1 (by have := pw k; omega)
      have A1 := ha.1.2
      have A2 := ha.2.2
      rw [if_pos (by omega), i64_succ (by omega), tdiv_nn d1.1, tdiv_nn d2.1, wrap_u64_id (x := a.lo / 2 ^ k / 2) (by omega) (by omega), wrap_u64_id (x := a.hi / 2 ^ k / 2) (by omega) (by omega), div2k, div2k]
      exact URsh_loop a ha b K hb hK n (k + 1) (by omega) (by omega)
theorem rURsh {a : Us} (ha : VUs a) {n : Int} (h0 : 0 ≤ n) (h1 : n ≤ 63) : lockgateref04_URsh a n = span_URsh a n := by
  obtain ⟨K, rfl⟩ := Int.eq_ofNat_of_zero_le h0
  have hl := URsh_loop a ha (K : Int) K (rround h0 h1) (by omega) 65 0 (by omega) (by omega)
  have e : ((0 : Nat) : Int) = 0 := rfl
  rw [Int.pow_zero, Int.ediv_one, Int.ediv_one, e] at hl
  unfold lockgateref04_URsh span_URsh
  rw [hl, and63_id h0 h1, shr_int h0 h1, shr_int h0 h1, Int.toNat_natCast]
end Go.Proofs.T
