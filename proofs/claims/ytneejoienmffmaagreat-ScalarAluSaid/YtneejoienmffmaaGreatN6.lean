/-
  Plain laws: the document's bytes of a word are the program's.
-/
import Derived.Test.YtneejoienmffmaaGreatN5
import Derived.Test.YtneejoienmffmaaGreatM9
set_option linter.unusedVariables false
set_option linter.unusedSimpArgs false
set_option maxRecDepth 100000
namespace Go.Proofs.T
open Go Go.Proofs Go.Proofs.SX
theorem or_natI {a b : Nat} (ha : a < 2 ^ 64) (hb : b < 2 ^ 64) : Go.bits .or .u64 (a : Int) (b : Int) = ((a ||| b : Nat) : Int) := by
  have h1 : (BitVec.ofNat 64 a).toNat = a := by rw [BitVec.toNat_ofNat]; exact Nat.mod_eq_of_lt ha
  have h2 : (BitVec.ofNat 64 b).toNat = b := by rw [BitVec.toNat_ofNat]; exact Nat.mod_eq_of_lt hb
  have := or_u64 (BitVec.ofNat 64 a) (BitVec.ofNat 64 b)
  rw [BitVec.toNat_or, h1, h2] at this
  exact this
theorem or_hiI {x y P : Int} (j : Nat) (hP : P = 2 ^ j) (hx : 0 ≤ x) (hm : x % P = 0) (hy : 0 ≤ y) (hlt : y < P) (h1 : x < 18446744073709551616) (h2 : y < 18446744073709551616) : Go.bits .or .u64 x y = x + y := by
  obtain ⟨a, rfl⟩ := Int.eq_ofNat_of_zero_le hx
  obtain ⟨b, rfl⟩ := Int.eq_ofNat_of_zero_le hy
  rw [or_natI (by omega) (by omega)]
  rw [hP, ← pw_cast] at hm hlt
  have hm' : a % 2 ^ j = 0 := by omega
  have hd : a = 2 ^ j * (a / 2 ^ j) := by have := Nat.mod_add_div a (2 ^ j); omega
  have hb : b < 2 ^ j := by omega
  have := Nat.two_pow_add_eq_or_of_lt hb (a / 2 ^ j)
  rw [← hd] at this
  rw [← this]; omega
theorem or_commI {x y : Int} (hx : 0 ≤ x) (hy : 0 ≤ y) (h1 : x < 18446744073709551616) (h2 : y < 18446744073709551616) : Go.bits .or .u64 x y = Go.bits .or .u64 y x := by
  obtain ⟨a, rfl⟩ := Int.eq_ofNat_of_zero_le hx
  obtain ⟨b, rfl⟩ := Int.eq_ofNat_of_zero_le hy
  rw [or_natI (by omega) (by omega), or_natI (by omega) (by omega), Nat.or_comm]
theorem or_0I {y : Int} (hy : 0 ≤ y) (h2 : y < 18446744073709551616) : Go.bits .or .u64 0 y = y := by
  obtain ⟨b, rfl⟩ := Int.eq_ofNat_of_zero_le hy
  have := or_natI (a := 0) (b := b) (by decide) (by omega)
  rw [Nat.zero_or] at this
  exact this
theorem shrI {x P k : Int} (j : Nat) (hk : k = (j : Int)) (hP : P = 2 ^ j) (hj : j ≤ 64) (hx : 0 ≤ x) : shr .u64 x k = x / P := by
  obtain ⟨a, rfl⟩ := Int.eq_ofNat_of_zero_le hx
  subst hk
  rw [hP, ← pw_cast]
  have := shr_div a j hj
  rw [this]; omega
theorem shlI {x P k : Int} (j : Nat) (hk : k = (j : Int)) (hP : P = 2 ^ j) (hj : j ≤ 63) : shl .u64 x k = (x * P) % 18446744073709551616 := by
  subst hk hP
  rw [shl_int (by omega) (by omega), Int.toNat_natCast]
theorem and255 {x : Int} (hx : 0 ≤ x) (h : x < 18446744073709551616) : Go.bits .and .u64 x 255 = x % 256 := by
  obtain ⟨a, rfl⟩ := Int.eq_ofNat_of_zero_le hx
  have h1 : (BitVec.ofNat 64 a).toNat = a := by rw [BitVec.toNat_ofNat]; exact Nat.mod_eq_of_lt (by omega)
  have := and_u64 (BitVec.ofNat 64 a) 255#64
  rw [BitVec.toNat_and, h1] at this
  have e : (255#64).toNat = 2 ^ 8 - 1 := rfl
  rw [e, Nat.and_two_pow_sub_one_eq_mod] at this
  have e2 : (((2 ^ 8 - 1 : Nat)) : Int) = 255 := rfl
  rw [e2] at this
  rw [this]; omega
theorem byteI {t k j : Int} {P Q : Int} (a b : Nat) (hk : k = (a : Int)) (hP : P = 2 ^ a) (hj : j = (b : Int)) (hQ : Q = 2 ^ b) (ht : 0 ≤ t) (ha : a ≤ 64) (hb : b ≤ 56) :
    shl .u64 (Int.tmod (shr .u64 t k) 256) j = (t / P % 256) * Q := by
  have hp : 0 < P := by rw [hP]; exact pw a
  have hq0 : 0 < Q := by rw [hQ]; exact pw b
  have hq1 : Q ≤ 72057594037927936 := by rw [hQ]; exact pw_le hb
  have h0 : 0 ≤ t / P := Int.ediv_nonneg ht (by omega)
  rw [shrI a hk hP ha ht, tmod_nn' h0, shlI b hj hQ (by omega)]
  have h1 : 0 ≤ t / P % 256 := by omega
  have h2 : t / P % 256 ≤ 255 := by omega
  generalize t / P % 256 = y at *
  have : y * Q ≤ 255 * Q := Int.mul_le_mul_of_nonneg_right h2 (by omega)
  have : 0 ≤ y * Q := Int.mul_nonneg h1 (by omega)
  omega
/-- one byte more, at the low end -/
theorem w_step {y b : Int} (hy : 0 ≤ y ∧ y < 72057594037927936) (hb : 0 ≤ b ∧ b ≤ 255) : Go.bits .or .u64 (shl .u64 y 8) b = y * 256 + b := by
  rw [shlI (k := 8) 8 rfl (P := 256) rfl (by decide)]
  have : y * 256 % 18446744073709551616 = y * 256 := by omega
  rw [this]
  exact or_hiI 8 (P := 256) rfl (by omega) (by omega) (by omega) (by omega) (by omega) (by omega)
/-- a byte is laid above what lies -/
theorem r_low {z y Q : Int} (b : Nat) (hQ : Q = 2 ^ b) (hb : b ≤ 56) (hz : 0 ≤ z ∧ z < Q) (hy : 0 ≤ y ∧ y ≤ 255) : Go.bits .or .u64 z (y * Q) = z + y * Q := by
  have hq0 : 0 < Q := by rw [hQ]; exact pw b
  have hq1 : Q ≤ 72057594037927936 := by rw [hQ]; exact pw_le hb
  have : y * Q ≤ 255 * Q := Int.mul_le_mul_of_nonneg_right hy.2 (by omega)
  have : 0 ≤ y * Q := Int.mul_nonneg hy.1 (by omega)
  rw [or_commI hz.1 (by omega) (by omega) (by omega), or_hiI b hQ (by omega) (Int.mul_emod_left _ _) hz.1 hz.2 (by omega) (by omega), Int.add_comm]
/-- a byte is laid below what lies -/
theorem r_high {z y Q R : Int} (b : Nat) (hQ : Q = 2 ^ b) (hR : R = 256 * Q) (hb : b ≤ 48) (hz : 0 ≤ z ∧ z < 18446744073709551616) (hm : z % R = 0) (hy : 0 ≤ y ∧ y ≤ 255) : Go.bits .or .u64 z (y * Q) = z + y * Q := by
  have hq0 : 0 < Q := by rw [hQ]; exact pw b
  have hq1 : Q ≤ 281474976710656 := by rw [hQ]; exact pw_le hb
  have : y * Q ≤ 255 * Q := Int.mul_le_mul_of_nonneg_right hy.2 (by omega)
  have : 0 ≤ y * Q := Int.mul_nonneg hy.1 (by omega)
  exact or_hiI (b + 8) (P := R) (by rw [hR, hQ, Int.pow_add]; omega) hz.1 hm (by omega) (by omega) (by omega) (by omega)
set_option maxHeartbeats 1000000 in
theorem rSw16 (b : Bool) {c : Int} (hc : W64 c) : lockgateref01_Swap_16 b c = word_Swap_16 b c := by
  obtain ⟨h0, h1⟩ := hc
  have s : shr .u64 (shl .u64 c 48) 48 = c % 65536 := by
    rw [shlI (k := 48) 48 rfl (P := 281474976710656) rfl (by decide), shrI (k := 48) 48 rfl (P := 281474976710656) rfl (by decide) (by omega)] <;> omega
  have hx : 0 ≤ c % 65536 ∧ c % 65536 < 65536 := by omega
  unfold lockgateref01_Swap_16 word_Swap_16
  rw [s]
  have g0 : 0 ≤ c / 1 % 256 ∧ c / 1 % 256 ≤ 255 := by omega
  have q0 : c / 1 = 256 * (c / 256) + c / 1 % 256 := by omega
  have g1 : 0 ≤ c / 256 % 256 ∧ c / 256 % 256 ≤ 255 := by omega
  have q1 : c / 256 = 256 * (c / 65536) + c / 256 % 256 := by omega
  have qt : c / 65536 * 65536 + c % 65536 = c := by omega
  have qz : c / 1 = c := by omega
  cases b
  · rw [if_neg (by decide), if_neg (by decide)]
    rw [byteI (t := c) (k := 0) (j := 0) (P := 1) (Q := 1) 0 0 rfl rfl rfl rfl h0 (by decide) (by decide), byteI (t := c) (k := 8) (j := 8) (P := 256) (Q := 256) 8 8 rfl rfl rfl rfl h0 (by decide) (by decide)]
    generalize hb0 : c / 1 % 256 = b0 at *
    generalize hb1 : c / 256 % 256 = b1 at *
    rw [or_0I (y := b0 * 1) (by omega) (by omega)]
    rw [r_low (z := b0 * 1) (y := b1) (Q := 256) 8 rfl (by decide) (by omega) g1]
    have : b0 * 1 + b1 * 256 = c % 65536 := by omega
    rw [this]
  · rw [if_pos rfl, if_pos rfl]
    rw [byteI (t := c) (k := 0) (j := 8) (P := 1) (Q := 256) 0 8 rfl rfl rfl rfl h0 (by decide) (by decide), byteI (t := c) (k := 8) (j := 0) (P := 256) (Q := 1) 8 0 rfl rfl rfl rfl h0 (by decide) (by decide)]
    have t1 : shr .u64 (c % 65536) 8 = c % 65536 / 256 := by rw [shrI (k := 8) 8 rfl (P := 256) rfl (by decide) (by omega)] <;> omega
    rw [t1]
    have u0 : Go.bits .and .u64 (c % 65536) 255 = c / 1 % 256 := by rw [and255 (by omega) (by omega)]; omega
    rw [u0]
    have u1 : Go.bits .and .u64 (c % 65536 / 256) 255 = c / 256 % 256 := by rw [and255 (by omega) (by omega)]; omega
    rw [u1]
    clear q0 q1 qt
    clear t1 u0 u1 s hx
    generalize hb0 : c / 1 % 256 = b0 at *
    generalize hb1 : c / 256 % 256 = b1 at *
    clear hb0 hb1
    rw [or_0I (y := b0 * 256) (by omega) (by omega), or_0I (y := b0) (by omega) (by omega)]
    rw [r_high (z := b0 * 256) (y := b1) (Q := 1) (R := 256) 0 rfl rfl (by decide) (by omega) (by omega) g1]
    rw [w_step (y := b0) (b := b1) (by omega) g1]
    have : b0 * 256 + b1 * 1 = b0 * 256 + b1 := by omega
    rw [this]
set_option maxHeartbeats 1000000 in
theorem rSw32 (b : Bool) {c : Int} (hc : W64 c) : lockgateref01_Swap_32 b c = word_Swap_32 b c := by
  obtain ⟨h0, h1⟩ := hc
  have s : shr .u64 (shl .u64 c 32) 32 = c % 4294967296 := by
    rw [shlI (k := 32) 32 rfl (P := 4294967296) rfl (by decide), shrI (k := 32) 32 rfl (P := 4294967296) rfl (by decide) (by omega)] <;> omega
  have hx : 0 ≤ c % 4294967296 ∧ c % 4294967296 < 4294967296 := by omega
  unfold lockgateref01_Swap_32 word_Swap_32
  rw [s]
  have g0 : 0 ≤ c / 1 % 256 ∧ c / 1 % 256 ≤ 255 := by omega
  have q0 : c / 1 = 256 * (c / 256) + c / 1 % 256 := by omega
  have g1 : 0 ≤ c / 256 % 256 ∧ c / 256 % 256 ≤ 255 := by omega
  have q1 : c / 256 = 256 * (c / 65536) + c / 256 % 256 := by omega
  have g2 : 0 ≤ c / 65536 % 256 ∧ c / 65536 % 256 ≤ 255 := by omega
  have q2 : c / 65536 = 256 * (c / 16777216) + c / 65536 % 256 := by omega
  have g3 : 0 ≤ c / 16777216 % 256 ∧ c / 16777216 % 256 ≤ 255 := by omega
  have q3 : c / 16777216 = 256 * (c / 4294967296) + c / 16777216 % 256 := by omega
  have qt : c / 4294967296 * 4294967296 + c % 4294967296 = c := by omega
  have qz : c / 1 = c := by omega
  cases b
  · rw [if_neg (by decide), if_neg (by decide)]
    rw [byteI (t := c) (k := 0) (j := 0) (P := 1) (Q := 1) 0 0 rfl rfl rfl rfl h0 (by decide) (by decide), byteI (t := c) (k := 8) (j := 8) (P := 256) (Q := 256) 8 8 rfl rfl rfl rfl h0 (by decide) (by decide), byteI (t := c) (k := 16) (j := 16) (P := 65536) (Q := 65536) 16 16 rfl rfl rfl rfl h0 (by decide) (by decide), byteI (t := c) (k := 24) (j := 24) (P := 16777216) (Q := 16777216) 24 24 rfl rfl rfl rfl h0 (by decide) (by decide)]
    generalize hb0 : c / 1 % 256 = b0 at *
    generalize hb1 : c / 256 % 256 = b1 at *
    generalize hb2 : c / 65536 % 256 = b2 at *
    generalize hb3 : c / 16777216 % 256 = b3 at *
    rw [or_0I (y := b0 * 1) (by omega) (by omega)]
    rw [r_low (z := b0 * 1) (y := b1) (Q := 256) 8 rfl (by decide) (by omega) g1]
    rw [r_low (z := b0 * 1 + b1 * 256) (y := b2) (Q := 65536) 16 rfl (by decide) (by omega) g2]
    rw [r_low (z := b0 * 1 + b1 * 256 + b2 * 65536) (y := b3) (Q := 16777216) 24 rfl (by decide) (by omega) g3]
    have : b0 * 1 + b1 * 256 + b2 * 65536 + b3 * 16777216 = c % 4294967296 := by omega
    rw [this]
  · rw [if_pos rfl, if_pos rfl]
    rw [byteI (t := c) (k := 0) (j := 24) (P := 1) (Q := 16777216) 0 24 rfl rfl rfl rfl h0 (by decide) (by decide), byteI (t := c) (k := 8) (j := 16) (P := 256) (Q := 65536) 8 16 rfl rfl rfl rfl h0 (by decide) (by decide), byteI (t := c) (k := 16) (j := 8) (P := 65536) (Q := 256) 16 8 rfl rfl rfl rfl h0 (by decide) (by decide), byteI (t := c) (k := 24) (j := 0) (P := 16777216) (Q := 1) 24 0 rfl rfl rfl rfl h0 (by decide) (by decide)]
    have t1 : shr .u64 (c % 4294967296) 8 = c % 4294967296 / 256 := by rw [shrI (k := 8) 8 rfl (P := 256) rfl (by decide) (by omega)] <;> omega
    rw [t1]
    have t2 : shr .u64 (c % 4294967296 / 256) 8 = c % 4294967296 / 65536 := by rw [shrI (k := 8) 8 rfl (P := 256) rfl (by decide) (by omega)] <;> omega
    rw [t2]
    have t3 : shr .u64 (c % 4294967296 / 65536) 8 = c % 4294967296 / 16777216 := by rw [shrI (k := 8) 8 rfl (P := 256) rfl (by decide) (by omega)] <;> omega
    rw [t3]
    have u0 : Go.bits .and .u64 (c % 4294967296) 255 = c / 1 % 256 := by rw [and255 (by omega) (by omega)]; omega
    rw [u0]
    have u1 : Go.bits .and .u64 (c % 4294967296 / 256) 255 = c / 256 % 256 := by rw [and255 (by omega) (by omega)]; omega
    rw [u1]
    have u2 : Go.bits .and .u64 (c % 4294967296 / 65536) 255 = c / 65536 % 256 := by rw [and255 (by omega) (by omega)]; omega
    rw [u2]
    have u3 : Go.bits .and .u64 (c % 4294967296 / 16777216) 255 = c / 16777216 % 256 := by rw [and255 (by omega) (by omega)]; omega
    rw [u3]
    clear q0 q1 q2 q3 qt
    clear t1 t2 t3 u0 u1 u2 u3 s hx
    generalize hb0 : c / 1 % 256 = b0 at *
    generalize hb1 : c / 256 % 256 = b1 at *
    generalize hb2 : c / 65536 % 256 = b2 at *
    generalize hb3 : c / 16777216 % 256 = b3 at *
    clear hb0 hb1 hb2 hb3
    rw [or_0I (y := b0 * 16777216) (by omega) (by omega), or_0I (y := b0) (by omega) (by omega)]
    rw [r_high (z := b0 * 16777216) (y := b1) (Q := 65536) (R := 16777216) 16 rfl rfl (by decide) (by omega) (by omega) g1]
    rw [w_step (y := b0) (b := b1) (by omega) g1]
    rw [r_high (z := b0 * 16777216 + b1 * 65536) (y := b2) (Q := 256) (R := 65536) 8 rfl rfl (by decide) (by omega) (by omega) g2]
    rw [w_step (y := b0 * 256 + b1) (b := b2) (by omega) g2]
    rw [r_high (z := b0 * 16777216 + b1 * 65536 + b2 * 256) (y := b3) (Q := 1) (R := 256) 0 rfl rfl (by decide) (by omega) (by omega) g3]
    rw [w_step (y := (b0 * 256 + b1) * 256 + b2) (b := b3) (by omega) g3]
    have : b0 * 16777216 + b1 * 65536 + b2 * 256 + b3 * 1 = ((b0 * 256 + b1) * 256 + b2) * 256 + b3 := by omega
    rw [this]
set_option maxHeartbeats 1000000 in
theorem rSw64 (b : Bool) {c : Int} (hc : W64 c) : lockgateref01_Swap_64 b c = word_Swap_64 b c := by
  obtain ⟨h0, h1⟩ := hc
  have s : shr .u64 (shl .u64 c 0) 0 = c % 18446744073709551616 := by
    rw [shlI (k := 0) 0 rfl (P := 1) rfl (by decide), shrI (k := 0) 0 rfl (P := 1) rfl (by decide) (by omega)] <;> omega
  have hx : 0 ≤ c % 18446744073709551616 ∧ c % 18446744073709551616 < 18446744073709551616 := by omega
  unfold lockgateref01_Swap_64 word_Swap_64
  rw [s]
  have g0 : 0 ≤ c / 1 % 256 ∧ c / 1 % 256 ≤ 255 := by omega
  have q0 : c / 1 = 256 * (c / 256) + c / 1 % 256 := by omega
  have g1 : 0 ≤ c / 256 % 256 ∧ c / 256 % 256 ≤ 255 := by omega
  have q1 : c / 256 = 256 * (c / 65536) + c / 256 % 256 := by omega
  have g2 : 0 ≤ c / 65536 % 256 ∧ c / 65536 % 256 ≤ 255 := by omega
  have q2 : c / 65536 = 256 * (c / 16777216) + c / 65536 % 256 := by omega
  have g3 : 0 ≤ c / 16777216 % 256 ∧ c / 16777216 % 256 ≤ 255 := by omega
  have q3 : c / 16777216 = 256 * (c / 4294967296) + c / 16777216 % 256 := by omega
  have g4 : 0 ≤ c / 4294967296 % 256 ∧ c / 4294967296 % 256 ≤ 255 := by omega
  have q4 : c / 4294967296 = 256 * (c / 1099511627776) + c / 4294967296 % 256 := by omega
  have g5 : 0 ≤ c / 1099511627776 % 256 ∧ c / 1099511627776 % 256 ≤ 255 := by omega
  have q5 : c / 1099511627776 = 256 * (c / 281474976710656) + c / 1099511627776 % 256 := by omega
  have g6 : 0 ≤ c / 281474976710656 % 256 ∧ c / 281474976710656 % 256 ≤ 255 := by omega
  have q6 : c / 281474976710656 = 256 * (c / 72057594037927936) + c / 281474976710656 % 256 := by omega
  have g7 : 0 ≤ c / 72057594037927936 % 256 ∧ c / 72057594037927936 % 256 ≤ 255 := by omega
  have q7 : c / 72057594037927936 = 256 * (c / 18446744073709551616) + c / 72057594037927936 % 256 := by omega
  have qt : c / 18446744073709551616 * 18446744073709551616 + c % 18446744073709551616 = c := by omega
  have qz : c / 1 = c := by omega
  cases b
  · rw [if_neg (by decide), if_neg (by decide)]
    rw [byteI (t := c) (k := 0) (j := 0) (P := 1) (Q := 1) 0 0 rfl rfl rfl rfl h0 (by decide) (by decide), byteI (t := c) (k := 8) (j := 8) (P := 256) (Q := 256) 8 8 rfl rfl rfl rfl h0 (by decide) (by decide), byteI (t := c) (k := 16) (j := 16) (P := 65536) (Q := 65536) 16 16 rfl rfl rfl rfl h0 (by decide) (by decide), byteI (t := c) (k := 24) (j := 24) (P := 16777216) (Q := 16777216) 24 24 rfl rfl rfl rfl h0 (by decide) (by decide), byteI (t := c) (k := 32) (j := 32) (P := 4294967296) (Q := 4294967296) 32 32 rfl rfl rfl rfl h0 (by decide) (by decide), byteI (t := c) (k := 40) (j := 40) (P := 1099511627776) (Q := 1099511627776) 40 40 rfl rfl rfl rfl h0 (by decide) (by decide), byteI (t := c) (k := 48) (j := 48) (P := 281474976710656) (Q := 281474976710656) 48 48 rfl rfl rfl rfl h0 (by decide) (by decide), byteI (t := c) (k := 56) (j := 56) (P := 72057594037927936) (Q := 72057594037927936) 56 56 rfl rfl rfl rfl h0 (by decide) (by decide)]
    generalize hb0 : c / 1 % 256 = b0 at *
    generalize hb1 : c / 256 % 256 = b1 at *
    generalize hb2 : c / 65536 % 256 = b2 at *
    generalize hb3 : c / 16777216 % 256 = b3 at *
    generalize hb4 : c / 4294967296 % 256 = b4 at *
    generalize hb5 : c / 1099511627776 % 256 = b5 at *
    generalize hb6 : c / 281474976710656 % 256 = b6 at *
    generalize hb7 : c / 72057594037927936 % 256 = b7 at *
    rw [or_0I (y := b0 * 1) (by omega) (by omega)]
    rw [r_low (z := b0 * 1) (y := b1) (Q := 256) 8 rfl (by decide) (by omega) g1]
    rw [r_low (z := b0 * 1 + b1 * 256) (y := b2) (Q := 65536) 16 rfl (by decide) (by omega) g2]
    rw [r_low (z := b0 * 1 + b1 * 256 + b2 * 65536) (y := b3) (Q := 16777216) 24 rfl (by decide) (by omega) g3]
    rw [r_low (z := b0 * 1 + b1 * 256 + b2 * 65536 + b3 * 16777216) (y := b4) (Q := 4294967296) 32 rfl (by decide) (by omega) g4]
    rw [r_low (z := b0 * 1 + b1 * 256 + b2 * 65536 + b3 * 16777216 + b4 * 4294967296) (y := b5) (Q := 1099511627776) 40 rfl (by decide) (by omega) g5]
    rw [r_low (z := b0 * 1 + b1 * 256 + b2 * 65536 + b3 * 16777216 + b4 * 4294967296 + b5 * 1099511627776) (y := b6) (Q := 281474976710656) 48 rfl (by decide) (by omega) g6]
    rw [r_low (z := b0 * 1 + b1 * 256 + b2 * 65536 + b3 * 16777216 + b4 * 4294967296 + b5 * 1099511627776 + b6 * 281474976710656) (y := b7) (Q := 72057594037927936) 56 rfl (by decide) (by omega) g7]
    have : b0 * 1 + b1 * 256 + b2 * 65536 + b3 * 16777216 + b4 * 4294967296 + b5 * 1099511627776 + b6 * 281474976710656 + b7 * 72057594037927936 = c % 18446744073709551616 := by omega
    rw [this]
  · rw [if_pos rfl, if_pos rfl]
    rw [byteI (t := c) (k := 0) (j := 56) (P := 1) (Q := 72057594037927936) 0 56 rfl rfl rfl rfl h0 (by decide) (by decide), byteI (t := c) (k := 8) (j := 48) (P := 256) (Q := 281474976710656) 8 48 rfl rfl rfl rfl h0 (by decide) (by decide), byteI (t := c) (k := 16) (j := 40) (P := 65536) (Q := 1099511627776) 16 40 rfl rfl rfl rfl h0 (by decide) (by decide), byteI (t := c) (k := 24) (j := 32) (P := 16777216) (Q := 4294967296) 24 32 rfl rfl rfl rfl h0 (by decide) (by decide), byteI (t := c) (k := 32) (j := 24) (P := 4294967296) (Q := 16777216) 32 24 rfl rfl rfl rfl h0 (by decide) (by decide), byteI (t := c) (k := 40) (j := 16) (P := 1099511627776) (Q := 65536) 40 16 rfl rfl rfl rfl h0 (by decide) (by decide), byteI (t := c) (k := 48) (j := 8) (P := 281474976710656) (Q := 256) 48 8 rfl rfl rfl rfl h0 (by decide) (by decide), byteI (t := c) (k := 56) (j := 0) (P := 72057594037927936) (Q := 1) 56 0 rfl rfl rfl rfl h0 (by decide) (by decide)]
    have t1 : shr .u64 (c % 18446744073709551616) 8 = c % 18446744073709551616 / 256 := by rw [shrI (k := 8) 8 rfl (P := 256) rfl (by decide) (by omega)] <;> omega
    rw [t1]
    have t2 : shr .u64 (c % 18446744073709551616 / 256) 8 = c % 18446744073709551616 / 65536 := by rw [shrI (k := 8) 8 rfl (P := 256) rfl (by decide) (by omega)] <;> omega
    rw [t2]
    have t3 : shr .u64 (c % 18446744073709551616 / 65536) 8 = c % 18446744073709551616 / 16777216 := by rw [shrI (k := 8) 8 rfl (P := 256) rfl (by decide) (by omega)] <;> omega
    rw [t3]
    have t4 : shr .u64 (c % 18446744073709551616 / 16777216) 8 = c % 18446744073709551616 / 4294967296 := by rw [shrI (k := 8) 8 rfl (P := 256) rfl (by decide) (by omega)] <;> omega
    rw [t4]
    have t5 : shr .u64 (c % 18446744073709551616 / 4294967296) 8 = c % 18446744073709551616 / 1099511627776 := by rw [shrI (k := 8) 8 rfl (P := 256) rfl (by decide) (by omega)] <;> omega
    rw [t5]
    have t6 : shr .u64 (c % 18446744073709551616 / 1099511627776) 8 = c % 18446744073709551616 / 281474976710656 := by rw [shrI (k := 8) 8 rfl (P := 256) rfl (by decide) (by omega)] <;> omega
    rw [t6]
    have t7 : shr .u64 (c % 18446744073709551616 / 281474976710656) 8 = c % 18446744073709551616 / 72057594037927936 := by rw [shrI (k := 8) 8 rfl (P := 256) rfl (by decide) (by omega)] <;> omega
    rw [t7]
    have u0 : Go.bits .and .u64 (c % 18446744073709551616) 255 = c / 1 % 256 := by rw [and255 (by omega) (by omega)]; omega
    rw [u0]
    have u1 : Go.bits .and .u64 (c % 18446744073709551616 / 256) 255 = c / 256 % 256 := by rw [and255 (by omega) (by omega)]; omega
    rw [u1]
    have u2 : Go.bits .and .u64 (c % 18446744073709551616 / 65536) 255 = c / 65536 % 256 := by rw [and255 (by omega) (by omega)]; omega
    rw [u2]
    have u3 : Go.bits .and .u64 (c % 18446744073709551616 / 16777216) 255 = c / 16777216 % 256 := by rw [and255 (by omega) (by omega)]; omega
    rw [u3]
    have u4 : Go.bits .and .u64 (c % 18446744073709551616 / 4294967296) 255 = c / 4294967296 % 256 := by rw [and255 (by omega) (by omega)]; omega
    rw [u4]
    have u5 : Go.bits .and .u64 (c % 18446744073709551616 / 1099511627776) 255 = c / 1099511627776 % 256 := by rw [and255 (by omega) (by omega)]; omega
    rw [u5]
    have u6 : Go.bits .and .u64 (c % 18446744073709551616 / 281474976710656) 255 = c / 281474976710656 % 256 := by rw [and255 (by omega) (by omega)]; omega
    rw [u6]
    have u7 : Go.bits .and .u64 (c % 18446744073709551616 / 72057594037927936) 255 = c / 72057594037927936 % 256 := by rw [and255 (by omega) (by omega)]; omega
    rw [u7]
    clear q0 q1 q2 q3 q4 q5 q6 q7 qt
    clear t1 t2 t3 t4 t5 t6 t7 u0 u1 u2 u3 u4 u5 u6 u7 s hx
    generalize hb0 : c / 1 % 256 = b0 at *
    generalize hb1 : c / 256 % 256 = b1 at *
    generalize hb2 : c / 65536 % 256 = b2 at *
    generalize hb3 : c / 16777216 % 256 = b3 at *
    generalize hb4 : c / 4294967296 % 256 = b4 at *
    generalize hb5 : c / 1099511627776 % 256 = b5 at *
    generalize hb6 : c / 281474976710656 % 256 = b6 at *
    generalize hb7 : c / 72057594037927936 % 256 = b7 at *
    clear hb0 hb1 hb2 hb3 hb4 hb5 hb6 hb7
    rw [or_0I (y := b0 * 72057594037927936) (by omega) (by omega), or_0I (y := b0) (by omega) (by omega)]
    rw [r_high (z := b0 * 72057594037927936) (y := b1) (Q := 281474976710656) (R := 72057594037927936) 48 rfl rfl (by decide) (by omega) (by omega) g1]
    rw [w_step (y := b0) (b := b1) (by omega) g1]
    rw [r_high (z := b0 * 72057594037927936 + b1 * 281474976710656) (y := b2) (Q := 1099511627776) (R := 281474976710656) 40 rfl rfl (by decide) (by omega) (by omega) g2]
    rw [w_step (y := b0 * 256 + b1) (b := b2) (by omega) g2]
    rw [r_high (z := b0 * 72057594037927936 + b1 * 281474976710656 + b2 * 1099511627776) (y := b3) (Q := 4294967296) (R := 1099511627776) 32 rfl rfl (by decide) (by omega) (by omega) g3]
    rw [w_step (y := (b0 * 256 + b1) * 256 + b2) (b := b3) (by omega) g3]
    rw [r_high (z := b0 * 72057594037927936 + b1 * 281474976710656 + b2 * 1099511627776 + b3 * 4294967296) (y := b4) (Q := 16777216) (R := 4294967296) 24 rfl rfl (by decide) (by omega) (by omega) g4]
    rw [w_step (y := ((b0 * 256 + b1) * 256 + b2) * 256 + b3) (b := b4) (by omega) g4]
    rw [r_high (z := b0 * 72057594037927936 + b1 * 281474976710656 + b2 * 1099511627776 + b3 * 4294967296 + b4 * 16777216) (y := b5) (Q := 65536) (R := 16777216) 16 rfl rfl (by decide) (by omega) (by omega) g5]
    rw [w_step (y := (((b0 * 256 + b1) * 256 + b2) * 256 + b3) * 256 + b4) (b := b5) (by omega) g5]
    rw [r_high (z := b0 * 72057594037927936 + b1 * 281474976710656 + b2 * 1099511627776 + b3 * 4294967296 + b4 * 16777216 + b5 * 65536) (y := b6) (Q := 256) (R := 65536) 8 rfl rfl (by decide) (by omega) (by omega) g6]
    rw [w_step (y := ((((b0 * 256 + b1) * 256 + b2) * 256 + b3) * 256 + b4) * 256 + b5) (b := b6) (by omega) g6]
    rw [r_high (z := b0 * 72057594037927936 + b1 * 281474976710656 + b2 * 1099511627776 + b3 * 4294967296 + b4 * 16777216 + b5 * 65536 + b6 * 256) (y := b7) (Q := 1) (R := 256) 0 rfl rfl (by decide) (by omega) (by omega) g7]
    rw [w_step (y := (((((b0 * 256 + b1) * 256 + b2) * 256 + b3) * 256 + b4) * 256 + b5) * 256 + b6) (b := b7) (by omega) g7]
    have : b0 * 72057594037927936 + b1 * 281474976710656 + b2 * 1099511627776 + b3 * 4294967296 + b4 * 16777216 + b5 * 65536 + b6 * 256 + b7 * 1 = ((((((b0 * 256 + b1) * 256 + b2) * 256 + b3) * 256 + b4) * 256 + b5) * 256 + b6) * 256 + b7 := by omega
    rw [this]
theorem rSwapW {a c : Int} (b : Bool) (hc : W64 c) : lockgateref01_Swap a b c = word_Swap a b c := by
  unfold lockgateref01_Swap word_Swap
  rw [rSw16 b hc, rSw32 b hc, rSw64 b hc]
  rfl
theorem Is_W {c : Sc} (hc : VSc c) : W64 (scalar_Is c).1 := by
  have hu := hc.2.1
  have ht := hc.1
  unfold scalar_Is
  split
  · exact hu.1
  · split
    · exact ht.1
    · split
      · exact (show W64 (IntKind.u64.wrap c.s.lo) from ⟨wrapu_nonneg, wrapu_lt⟩)
      · exact ⟨by decide, by decide⟩
theorem rSwap {a : Int} (b : Bool) {c : Sc} (hc : VSc c) : lockgateref05_Swap a b c = scalar_Swap a b c := by
  unfold lockgateref05_Swap scalar_Swap
  rw [rIs, rSwapW b (Is_W hc), rAny]
  simp only [rOf, rUpto]
/-! ### May -/
theorem andNot_may {v m : Int} (hv : W64 v) (hm : W64 m) : Go.bits .and .u64 (Go.bits .andNot .u64 v m) m = 0 := by
  obtain ⟨v, rfl⟩ := exists_bv hv.1 hv.2
  obtain ⟨m, rfl⟩ := exists_bv hm.1 hm.2
  rw [andNot_u64, and_u64, zero_bv, toNat_inj_int, BitVec.and_assoc]
  have : ~~~m &&& m = 0#64 := by rw [BitVec.and_comm]; simp
  rw [this, BitVec.and_zero]
theorem May_props {c : Sc} (hc : VSc c) : VSc (lockgatelaw05_May c) ∧ MayP (lockgatelaw05_May c) := by
  have U := hc.2.1
  have S := hc.2.2
  unfold VUs at U
  unfold VSs at S
  refine ⟨⟨⟨bW .andNot _ _, hc.1.2⟩, ⟨?_, ?_⟩, ?_, ?_⟩, andNot_may hc.1.1 hc.1.2, ?_, ?_⟩
  all_goals
    unfold lockgatelaw05_May
    dsimp only
    split <;> (try split) <;> omega
theorem known_ok : lockgatelaw05_known = true := by decide +kernel
theorem ok_May {c : Sc} (h : okSc c = true) : okSc (lockgatelaw05_May c) = true := decide_eq_true (May_props (of_decide_eq_true h)).1
theorem hi_May {c : Sc} (h : okSc c = true) : decide ((lockgatelaw05_May c).u.hi < 18446744073709551616) = true := decide_eq_true (May_props (of_decide_eq_true h)).1.2.1.2.2
end Go.Proofs.T
