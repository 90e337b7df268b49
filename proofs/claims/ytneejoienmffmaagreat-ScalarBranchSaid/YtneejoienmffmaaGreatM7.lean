/-
  Plain laws: what operations of spans make has what the operations of their numbers make.
-/
import Derived.Test.YtneejoienmffmaaGreatM6
set_option linter.unusedVariables false
set_option maxRecDepth 100000
namespace Go.Proofs.T
open Go Go.Proofs Go.Proofs.SX
abbrev W64 (x : Int) : Prop := 0 ≤ x ∧ x < 18446744073709551616
theorem UAll_in {v : Int} (h : W64 v) : inU span_UAll v := by
  unfold inU span_UAll; simp only; omega
theorem SAll_in (v : Int) : inS span_SAll v := by
  have := wraps_in (x := v)
  unfold inS span_SAll; simp only; omega
theorem UAdd_sound {a b : Us} {x y : Int} (ha : VUs a) (hb : VUs b) (h1 : inU a x) (h2 : inU b y) : inU (span_UAdd a b) (IntKind.u64.wrap (x + y)) := by
  unfold span_UAdd
  unfold VUs inU at *
  split
  · rename_i h
    exact UAll_in ⟨wrapu_nn, wrapu_lt⟩
  · rename_i h
    simp only [wrap_u64] at *; omega
theorem USub_sound {a b : Us} {x y : Int} (ha : VUs a) (hb : VUs b) (h1 : inU a x) (h2 : inU b y) : inU (span_USub a b) (IntKind.u64.wrap (x - y)) := by
  unfold span_USub
  unfold VUs inU at *
  split
  · rename_i h
    exact UAll_in ⟨wrapu_nn, wrapu_lt⟩
  · rename_i h
    simp only [wrap_u64] at *; omega
theorem and_low32 {x : Int} (h : W64 x) : Go.bits .and .u64 x 4294967295 = x % 4294967296 := by
  obtain ⟨b, rfl⟩ := exists_bv h.1 h.2
  have e : (4294967295 : Int) = ((0xffffffff#64).toNat : Int) := by decide
  rw [e, and_u64, BitVec.toNat_and]
  have : (0xffffffff#64).toNat = 2 ^ 32 - 1 := by decide
  rw [this, Nat.and_two_pow_sub_one_eq_mod]
  omega
theorem shr32 {x : Int} : shr .u64 x 32 = x / 4294967296 := by
  unfold shr
  have : (2 : Int) ^ min (Int.toNat 32) (IntKind.bits .u64) = 4294967296 := by decide
  rw [this]
theorem mul_bound {a b A B : Int} (h0 : 0 ≤ a) (h1 : a ≤ A) (h2 : 0 ≤ b) (h3 : b ≤ B) : 0 ≤ a * b ∧ a * b ≤ A * B :=
  ⟨Int.mul_nonneg h0 h2, Int.mul_le_mul h1 h3 h2 (Int.le_trans h0 h1)⟩
theorem Mul64_hi {a b : Int} (ha : W64 a) (hb : W64 b) : (bits_Mul64 a b).1 = a * b / 18446744073709551616 := by
  unfold bits_Mul64
  simp only [shr32, and_low32 ha, and_low32 hb]
  rw [and_low32 ⟨wrapu_nn, wrapu_lt⟩]
  simp only [wrap_u64]
  have ka : a = a / 4294967296 * 4294967296 + a % 4294967296 := by omega
  have kb : b = b / 4294967296 * 4294967296 + b % 4294967296 := by omega
  have a1 : 0 ≤ a / 4294967296 ∧ a / 4294967296 ≤ 4294967295 := by omega
  have a2 : 0 ≤ a % 4294967296 ∧ a % 4294967296 ≤ 4294967295 := by omega
  have b1 : 0 ≤ b / 4294967296 ∧ b / 4294967296 ≤ 4294967295 := by omega
  have b2 : 0 ≤ b % 4294967296 ∧ b % 4294967296 ≤ 4294967295 := by omega
  generalize a / 4294967296 = ah at *
  generalize a % 4294967296 = al at *
  generalize b / 4294967296 = bh at *
  generalize b % 4294967296 = bl at *
  have p := mul_bound a1.1 a1.2 b1.1 b1.2
  have q := mul_bound a1.1 a1.2 b2.1 b2.2
  have r := mul_bound a2.1 a2.2 b1.1 b1.2
  have s := mul_bound a2.1 a2.2 b2.1 b2.2
  have e : a * b = ah * bh * 18446744073709551616 + (ah * bl + al * bh) * 4294967296 + al * bl := by
    rw [ka, kb]; grind
  rw [e]
  generalize ah * bh = P at *
  generalize ah * bl = Q at *
  generalize al * bh = R at *
  generalize al * bl = S at *
  omega
theorem UMul_sound {a b : Us} {x y : Int} (ha : VUs a) (hb : VUs b) (h1 : inU a x) (h2 : inU b y) : inU (span_UMul a b) (IntKind.u64.wrap (x * y)) := by
  unfold span_UMul
  have e2 : (bits_Mul64 a.hi b.hi).2 = IntKind.u64.wrap (a.hi * b.hi) := rfl
  rw [Mul64_hi ha.2 hb.2, e2]
  unfold VUs inU at *
  have m1 := mul_bound (a := a.lo) (b := b.lo) (A := x) (B := y) (by omega) (by omega) (by omega) (by omega)
  have m2 := mul_bound (a := x) (b := y) (A := a.hi) (B := b.hi) (by omega) (by omega) (by omega) (by omega)
  generalize a.lo * b.lo = p at *
  generalize x * y = q at *
  generalize a.hi * b.hi = r at *
  split
  · rename_i h
    simp only [wrap_u64]; omega
  · exact UAll_in ⟨wrapu_nn, wrapu_lt⟩
theorem tdiv_nn {x y : Int} (h : 0 ≤ x) : Int.tdiv x y = x / y := Int.tdiv_eq_ediv_of_nonneg h
theorem tmod_nn' {x y : Int} (h : 0 ≤ x) : Int.tmod x y = x % y := Int.tmod_eq_emod_of_nonneg h
theorem div_le {x y : Int} (h : 0 ≤ x) (hy : 0 ≤ y) : 0 ≤ x / y ∧ x / y ≤ x :=
  ⟨Int.ediv_nonneg h hy, Int.ediv_le_self _ h⟩
theorem mod_le {x y : Int} (h : 0 ≤ x) (hy : 0 < y) : 0 ≤ x % y ∧ x % y ≤ x ∧ x % y < y := by
  have := Int.emod_nonneg x (show y ≠ 0 by omega)
  have := Int.emod_lt_of_pos x hy
  have h3 : 0 ≤ y * (x / y) := Int.mul_nonneg (by omega) (Int.ediv_nonneg h (by omega))
  have := Int.emod_add_mul_ediv x y
  omega
def divZ (x y : Int) : Int := if y = 0 then 0 else x / y
def modZ (x y : Int) : Int := if y = 0 then x else x % y
theorem UDiv_sound {a b : Us} {x y : Int} (ha : VUs a) (hb : VUs b) (h1 : inU a x) (h2 : inU b y) : inU (span_UDiv a b) (divZ x y) := by
  unfold span_UDiv span_alone divZ
  unfold VUs inU at *
  have d := div_le (x := x) (y := y) (by omega) (by omega)
  split
  · rename_i h
    have h := eq_of_beq h
    have hy : y = b.lo := by omega
    subst hy
    split
    · dsimp only; omega
    · rename_i hz
      rw [tdiv_nn (by omega), tdiv_nn (by omega)]
      have d1 := div_le (x := a.lo) (y := b.lo) (by omega) (by omega)
      have d2 := div_le (x := a.hi) (y := b.lo) (by omega) (by omega)
      rw [wrap_u64_id (by omega) (by omega), wrap_u64_id (by omega) (by omega)]
      exact ⟨Int.ediv_le_ediv (by omega) h1.1, Int.ediv_le_ediv (by omega) h1.2⟩
  · simp only; split <;> omega
theorem UMod_sound {a b : Us} {x y : Int} (ha : VUs a) (hb : VUs b) (h1 : inU a x) (h2 : inU b y) : inU (span_UMod a b) (modZ x y) := by
  unfold span_UMod span_alone modZ
  unfold VUs inU at *
  by_cases hz0 : y = 0
  · rw [if_pos hz0]
    subst hz0
    split
    · rename_i h
      have h := eq_of_beq h
      rw [if_pos (by omega)]
      simp only; omega
    · simp only; omega
  · rw [if_neg hz0]
    have d := mod_le (x := x) (y := y) (by omega) (by omega)
    split
    · rename_i h
      have h := eq_of_beq h
      have hy : y = b.lo := by omega
      subst hy
      rw [if_neg (by omega)]
      split
      · rename_i hlt
        rw [Int.emod_eq_of_lt (by omega) (by omega)]; omega
      · split
        · rename_i hal
          have hal := eq_of_beq hal
          have hx : x = a.lo := by omega
          subst hx
          rw [tmod_nn' (by omega)]
          unfold span_UOf; simp only; omega
        · simp only [wrap_u64]; omega
    · simp only; omega
theorem UAnd_sound {a b : Us} {x y : Int} (ha : VUs a) (hb : VUs b) (h1 : inU a x) (h2 : inU b y) : inU (span_UAnd a b) (Go.bits .and .u64 x y) := by
  have hx : W64 x := by unfold VUs inU at *; omega
  have hy : W64 y := by unfold VUs inU at *; omega
  have hle : 0 ≤ Go.bits .and .u64 x y ∧ Go.bits .and .u64 x y ≤ x ∧ Go.bits .and .u64 x y ≤ y := by
    obtain ⟨x, rfl⟩ := exists_bv hx.1 hx.2
    obtain ⟨y, rfl⟩ := exists_bv hy.1 hy.2
    rw [and_u64, BitVec.toNat_and]
    have l1 : x.toNat &&& y.toNat ≤ x.toNat := Nat.and_le_left
    have l2 : x.toNat &&& y.toNat ≤ y.toNat := Nat.and_le_right
    omega
  unfold span_UAnd span_alone
  unfold inU at *
  split
  · rename_i h
    have h := eq_of_beq h
    split
    · rename_i h'
      have h' := eq_of_beq h'
      have e1 : x = a.lo := by omega
      have e2 : y = b.lo := by omega
      subst e1; subst e2
      unfold span_UOf; simp only; omega
    · simp only; split <;> omega
  · simp only; split <;> omega
theorem or_le {x y : Int} (hx : W64 x) (hy : W64 y) : x ≤ Go.bits .or .u64 x y ∧ y ≤ Go.bits .or .u64 x y := by
  obtain ⟨x, rfl⟩ := exists_bv hx.1 hx.2
  obtain ⟨y, rfl⟩ := exists_bv hy.1 hy.2
  rw [or_u64, BitVec.toNat_or]
  have l1 : x.toNat ≤ x.toNat ||| y.toNat := Nat.left_le_or
  have l2 : y.toNat ≤ x.toNat ||| y.toNat := Nat.right_le_or
  omega
theorem or_below {x y A B : Int} (hA : W64 A) (hB : W64 B) (x0 : 0 ≤ x) (y0 : 0 ≤ y) (hx : x ≤ A) (hy : y ≤ B) : Go.bits .or .u64 x y ≤ span_below (Go.bits .or .u64 A B) := by
  obtain ⟨x, rfl⟩ := exists_bv x0 (by omega)
  obtain ⟨y, rfl⟩ := exists_bv y0 (by omega)
  obtain ⟨A, rfl⟩ := exists_bv hA.1 hA.2
  obtain ⟨B, rfl⟩ := exists_bv hB.1 hB.2
  rw [or_u64, or_u64, below_eq, ones_toNat (klen_le _)]
  have h := (klen_spec (A ||| B).isLt).1
  have l1 : A.toNat ≤ A.toNat ||| B.toNat := Nat.left_le_or
  have l2 : B.toNat ≤ A.toNat ||| B.toNat := Nat.right_le_or
  rw [← BitVec.toNat_or] at l1 l2
  generalize klen (A ||| B).toNat = k at *
  have : (x ||| y).toNat < 2 ^ k := by
    rw [BitVec.toNat_or]
    exact Nat.or_lt_two_pow (by omega) (by omega)
  have hp : 0 < 2 ^ k := Nat.two_pow_pos k
  omega
theorem UOr_sound {a b : Us} {x y : Int} (ha : VUs a) (hb : VUs b) (h1 : inU a x) (h2 : inU b y) : inU (span_UOr a b) (Go.bits .or .u64 x y) := by
  have hx : W64 x := by unfold VUs inU at *; omega
  have hy : W64 y := by unfold VUs inU at *; omega
  have l := or_le hx hy
  have u := or_below (x := x) (y := y) ha.2 hb.2 hx.1 hy.1 h1.2 h2.2
  unfold span_UOr span_alone
  unfold inU at *
  split
  · rename_i h
    have h := eq_of_beq h
    split
    · rename_i h'
      have h' := eq_of_beq h'
      have e1 : x = a.lo := by omega
      have e2 : y = b.lo := by omega
      subst e1; subst e2
      unfold span_UOf; simp only; omega
    · simp only; split <;> omega
  · simp only; split <;> omega
theorem and63 (n : Int) : 0 ≤ Go.bits .and .i64 n 63 ∧ Go.bits .and .i64 n 63 ≤ 63 := by
  refine ⟨bits_nonneg, ?_⟩
  unfold Go.bits
  show IntKind.i64.wrap (((BitVec.ofInt 64 n) &&& (BitVec.ofInt 64 63)).toNat : Int) ≤ 63
  have h : ((BitVec.ofInt 64 n) &&& (BitVec.ofInt 64 63)).toNat ≤ 63 := by
    rw [BitVec.toNat_and]
    exact Nat.le_trans Nat.and_le_right (by decide)
  rw [wrap_i64_id (by omega) (by omega)]
  omega
theorem pow64 {k : Nat} (h : k ≤ 63) : (0 : Int) < 2 ^ k ∧ (2 : Int) ^ k * 2 ^ (64 - k) = 18446744073709551616 := by
  refine ⟨Int.pow_pos (by decide), ?_⟩
  rw [← Int.pow_add, show k + (64 - k) = 64 by omega]; decide
theorem shl_int {x k : Int} (h0 : 0 ≤ k) (h1 : k ≤ 63) : shl .u64 x k = (x * 2 ^ k.toNat) % 18446744073709551616 := by
  unfold shl
  have hb : IntKind.bits .u64 = 64 := rfl
  rw [wrap_u64, hb, Nat.min_eq_left (by omega)]
theorem shr_int {x k : Int} (h0 : 0 ≤ k) (h1 : k ≤ 63) : shr .u64 x k = x / 2 ^ k.toNat := by
  unfold shr
  have hb : IntKind.bits .u64 = 64 := rfl
  rw [hb, Nat.min_eq_left (by omega)]
theorem shrs_int {x k : Int} (h0 : 0 ≤ k) (h1 : k ≤ 63) : shr .i64 x k = x / 2 ^ k.toNat := by
  unfold shr
  have hb : IntKind.bits .i64 = 64 := rfl
  rw [hb, Nat.min_eq_left (by omega)]
theorem ULsh_sound' {a : Us} {x k : Int} (ha : VUs a) (h1 : inU a x) (hk0 : 0 ≤ k) (hk1 : k ≤ 63) :
    inU (if (shr .u64 (shl .u64 a.hi k) k) = a.hi then (⟨(shl .u64 a.lo k), (shl .u64 a.hi k)⟩ : Us) else span_UAll) (shl .u64 x k) := by
  rw [shl_int hk0 hk1, shl_int hk0 hk1, shl_int hk0 hk1, shr_int hk0 hk1]
  have hp := pow64 (k := k.toNat) (by omega)
  generalize (2 : Int) ^ k.toNat = p at *
  generalize (2 : Int) ^ (64 - k.toNat) = q at *
  unfold VUs inU at *
  split
  · rename_i h
    have hh : a.hi * p < 18446744073709551616 := by
      rcases Int.lt_or_le (a.hi * p) 18446744073709551616 with h' | h'
      · exact h'
      · exfalso
        have h2 : q ≤ a.hi := by
          have : p * q ≤ p * a.hi := by rw [hp.2, Int.mul_comm p]; exact h'
          exact Int.le_of_mul_le_mul_left this hp.1
        have h3 : a.hi * p % 18446744073709551616 / p < q := by
          apply Int.ediv_lt_of_lt_mul hp.1
          rw [Int.mul_comm q, hp.2]
          omega
        omega
    have l1 : a.lo * p ≤ x * p := Int.mul_le_mul_of_nonneg_right h1.1 (by omega)
    have l2 : x * p ≤ a.hi * p := Int.mul_le_mul_of_nonneg_right h1.2 (by omega)
    have l0 : 0 ≤ a.lo * p := Int.mul_nonneg (by omega) (by omega)
    simp only
    omega
  · unfold span_UAll; simp only; omega
theorem ULsh_sound {a : Us} {x n : Int} (ha : VUs a) (h1 : inU a x) : inU (span_ULsh a n) (shl .u64 x (Go.bits .and .i64 n 63)) := by
  have := and63 n
  exact ULsh_sound' ha h1 this.1 this.2
theorem URsh_sound {a : Us} {x n : Int} (ha : VUs a) (h1 : inU a x) : inU (span_URsh a n) (shr .u64 x (Go.bits .and .i64 n 63)) := by
  have hk := and63 n
  unfold span_URsh
  unfold inU at *
  simp only [shr_int hk.1 hk.2]
  have hp : (0 : Int) < 2 ^ (Go.bits .and .i64 n 63).toNat := Int.pow_pos (by decide)
  exact ⟨Int.ediv_le_ediv hp h1.1, Int.ediv_le_ediv hp h1.2⟩
theorem UCut_sound {a : Us} {x : Int} (ha : VUs a) (h1 : inU a x) : inU (span_UCut a) (x % 4294967296) := by
  unfold span_UCut
  rw [shr32, shr32, and_low32 ha.1, and_low32 ha.2]
  unfold VUs inU at *
  split
  · simp only; omega
  · simp only; omega
/-! ### With a sign -/
theorem wrap_i64_add {x y : Int} : IntKind.i64.wrap (IntKind.u64.wrap (x + y)) = IntKind.i64.wrap (IntKind.i64.wrap x + IntKind.i64.wrap y) := by
  simp only [wrap_u64, wrap_i64]
  (repeat' split) <;> omega
theorem wrap_i64_sub {x y : Int} : IntKind.i64.wrap (IntKind.u64.wrap (x - y)) = IntKind.i64.wrap (IntKind.i64.wrap x - IntKind.i64.wrap y) := by
  simp only [wrap_u64, wrap_i64]
  (repeat' split) <;> omega
theorem sum_ok {a b : Int} (ha : -9223372036854775808 ≤ a ∧ a < 9223372036854775808) (hb : -9223372036854775808 ≤ b ∧ b < 9223372036854775808) (h : (span_sum a b).2 = true) : (span_sum a b).1 = a + b ∧ -9223372036854775808 ≤ a + b ∧ a + b < 9223372036854775808 := by
  unfold span_sum at *
  simp only [beq_iff_eq, decide_eq_decide] at h ⊢
  rw [wrap_i64] at *
  split at h <;> omega
theorem less_ok {a b : Int} (ha : -9223372036854775808 ≤ a ∧ a < 9223372036854775808) (hb : -9223372036854775808 ≤ b ∧ b < 9223372036854775808) (h : (span_less a b).2 = true) : (span_less a b).1 = a - b ∧ -9223372036854775808 ≤ a - b ∧ a - b < 9223372036854775808 := by
  unfold span_less at *
  simp only [beq_iff_eq, decide_eq_decide] at h ⊢
  rw [wrap_i64] at *
  split at h <;> omega
theorem SAdd_sound {a b : Ss} {x y : Int} (ha : VSs a) (hb : VSs b) (h1 : inS a x) (h2 : inS b y) : inS (span_SAdd a b) (IntKind.u64.wrap (x + y)) := by
  unfold span_SAdd span_ends
  split
  · rename_i c1
    split
    · rename_i c2
      have k1 := sum_ok ha.1 hb.1 c1
      have k2 := sum_ok ha.2 hb.2 c2
      unfold inS at *
      rw [wrap_i64_add]
      simp only
      rw [k1.1, k2.1, wrap_i64_id (by omega) (by omega)]; omega
    · exact SAll_in _
  · exact SAll_in _
theorem SSub_sound {a b : Ss} {x y : Int} (ha : VSs a) (hb : VSs b) (h1 : inS a x) (h2 : inS b y) : inS (span_SSub a b) (IntKind.u64.wrap (x - y)) := by
  unfold span_SSub span_ends
  split
  · rename_i c1
    split
    · rename_i c2
      have k1 := less_ok ha.1 hb.2 c1
      have k2 := less_ok ha.2 hb.1 c2
      unfold inS at *
      rw [wrap_i64_sub]
      simp only
      rw [k1.1, k2.1, wrap_i64_id (by omega) (by omega)]; omega
    · exact SAll_in _
  · exact SAll_in _
theorem sdiv_in {x : Int} {k : Nat} (h : -9223372036854775808 ≤ x ∧ x < 9223372036854775808) : -9223372036854775808 ≤ x / 2 ^ k ∧ x / 2 ^ k < 9223372036854775808 := by
  have hp : (0 : Int) < 2 ^ k := Int.pow_pos (by decide)
  constructor
  · apply Int.le_ediv_of_mul_le hp
    have : (-9223372036854775808 : Int) * 2 ^ k ≤ -9223372036854775808 * 1 := Int.mul_le_mul_of_nonpos_left (by decide) (by omega)
    omega
  · apply Int.ediv_lt_of_lt_mul hp
    have : (9223372036854775808 : Int) * 1 ≤ 9223372036854775808 * 2 ^ k := Int.mul_le_mul_of_nonneg_left (by omega) (by decide)
    omega
theorem SArsh_sound {a : Ss} {x n : Int} (h1 : inS a x) : inS (span_SArsh a n) (IntKind.u64.wrap (shr .i64 (IntKind.i64.wrap x) (Go.bits .and .i64 n 63))) := by
  have hk := and63 n
  unfold span_SArsh
  unfold inS at *
  simp only [shrs_int hk.1 hk.2]
  have hp : (0 : Int) < 2 ^ (Go.bits .and .i64 n 63).toNat := Int.pow_pos (by decide)
  have hw := wraps_in (x := x)
  have hq := sdiv_in (k := (Go.bits .and .i64 n 63).toNat) hw
  have e : IntKind.i64.wrap (IntKind.u64.wrap (IntKind.i64.wrap x / 2 ^ (Go.bits .and .i64 n 63).toNat)) = IntKind.i64.wrap x / 2 ^ (Go.bits .and .i64 n 63).toNat := by
    generalize IntKind.i64.wrap x / 2 ^ (Go.bits .and .i64 n 63).toNat = z at *
    rw [wrap_u64, wrap_i64]; split <;> omega
  rw [e]
  exact ⟨Int.ediv_le_ediv hp h1.1, Int.ediv_le_ediv hp h1.2⟩
end Go.Proofs.T
