/-
  Plain laws: the document's Alu of words is the program's.
-/
import Derived.Test.YtneejoienmffmaaGreatN2
set_option linter.unusedVariables false
set_option maxRecDepth 100000
namespace Go.Proofs.T
open Go Go.Proofs Go.Proofs.SX
theorem lowt (a : Int) : lockgateref01_Low a 64 = lowW true a := rfl
theorem lowf (a : Int) : lockgateref01_Low a 32 = lowW false a := rfl
def shW (b : Bool) (w : Int) : Int := IntKind.i64.wrap (Int.tmod (lowW b w) (if b = true then 64 else 32))
theorem R0 (b : Bool) (v w : Int) : lockgateref01_Alu 0 b v w = (lowW b (lockgateref01_add (lowW b v) (lowW b w) 0), true) := by
  unfold lockgateref01_Alu
  cases b
  · rw [if_neg Bool.false_ne_true, if_pos rfl]
    rfl
  · rw [if_pos rfl, if_pos rfl]
    rfl
theorem R1 (b : Bool) (v w : Int) : lockgateref01_Alu 1 b v w = (lowW b (lockgateref01_add (lowW b v) (lockgateref01_not (lowW b w)) 1), true) := by
  unfold lockgateref01_Alu
  cases b
  · rw [if_neg Bool.false_ne_true, if_neg (by decide), if_pos rfl]
    rfl
  · rw [if_pos rfl, if_neg (by decide), if_pos rfl]
    rfl
theorem R2 (b : Bool) (v w : Int) : lockgateref01_Alu 2 b v w = (lowW b (lockgateref01_times (lowW b v) (lowW b w)), true) := by
  unfold lockgateref01_Alu
  cases b
  · rw [if_neg Bool.false_ne_true, if_neg (by decide), if_neg (by decide), if_pos rfl]
    rfl
  · rw [if_pos rfl, if_neg (by decide), if_neg (by decide), if_pos rfl]
    rfl
theorem R3 (b : Bool) (v w : Int) : lockgateref01_Alu 3 b v w = (if 0 < lowW b w then lowW b ((lockgateref01_divide (lowW b v) (lowW b w)).1) else lowW b 0, true) := by
  unfold lockgateref01_Alu
  cases b
  · rw [if_neg Bool.false_ne_true, if_neg (by decide), if_neg (by decide), if_neg (by decide), if_pos rfl]
    rw [if_neg (show ¬ (3 : Int) = 9 by decide), if_neg (show ¬ (3 : Int) = 9 by decide)]
    by_cases h : 0 < lockgateref01_Low w 32
    · rw [if_pos h, if_pos (show 0 < lowW false w from h)]; rfl
    · rw [if_neg h, if_neg (show ¬ 0 < lowW false w from h)]; rfl
  · rw [if_pos rfl, if_neg (by decide), if_neg (by decide), if_neg (by decide), if_pos rfl]
    rw [if_neg (show ¬ (3 : Int) = 9 by decide), if_neg (show ¬ (3 : Int) = 9 by decide)]
    by_cases h : 0 < lockgateref01_Low w 64
    · rw [if_pos h, if_pos (show 0 < lowW true w from h)]; rfl
    · rw [if_neg h, if_neg (show ¬ 0 < lowW true w from h)]; rfl
theorem R9 (b : Bool) (v w : Int) : lockgateref01_Alu 9 b v w = (if 0 < lowW b w then lowW b ((lockgateref01_divide (lowW b v) (lowW b w)).2) else lowW b (lowW b v), true) := by
  unfold lockgateref01_Alu
  cases b
  · rw [if_neg Bool.false_ne_true, if_neg (by decide), if_neg (by decide), if_neg (by decide), if_neg (by decide), if_pos rfl]
    by_cases h : 0 < lockgateref01_Low w 32
    · rw [if_pos h, if_pos (show 0 < lowW false w from h)]; rfl
    · rw [if_neg h, if_neg (show ¬ 0 < lowW false w from h)]; rfl
  · rw [if_pos rfl, if_neg (by decide), if_neg (by decide), if_neg (by decide), if_neg (by decide), if_pos rfl]
    by_cases h : 0 < lockgateref01_Low w 64
    · rw [if_pos h, if_pos (show 0 < lowW true w from h)]; rfl
    · rw [if_neg h, if_neg (show ¬ 0 < lowW true w from h)]; rfl
theorem R4 (b : Bool) (v w : Int) : lockgateref01_Alu 4 b v w = (lowW b (lockgateref01_bits 4 (lowW b v) (lowW b w)), true) := by
  unfold lockgateref01_Alu
  cases b
  · rw [if_neg Bool.false_ne_true, if_neg (by decide), if_neg (by decide), if_neg (by decide), if_neg (by decide), if_neg (by decide), if_pos rfl]
    rfl
  · rw [if_pos rfl, if_neg (by decide), if_neg (by decide), if_neg (by decide), if_neg (by decide), if_neg (by decide), if_pos rfl]
    rfl
theorem R5 (b : Bool) (v w : Int) : lockgateref01_Alu 5 b v w = (lowW b (lockgateref01_bits 5 (lowW b v) (lowW b w)), true) := by
  unfold lockgateref01_Alu
  cases b
  · rw [if_neg Bool.false_ne_true, if_neg (by decide), if_neg (by decide), if_neg (by decide), if_neg (by decide), if_neg (by decide), if_neg (by decide), if_pos rfl]
    rfl
  · rw [if_pos rfl, if_neg (by decide), if_neg (by decide), if_neg (by decide), if_neg (by decide), if_neg (by decide), if_neg (by decide), if_pos rfl]
    rfl
theorem R10 (b : Bool) (v w : Int) : lockgateref01_Alu 10 b v w = (lowW b (lockgateref01_bits 10 (lowW b v) (lowW b w)), true) := by
  unfold lockgateref01_Alu
  cases b
  · rw [if_neg Bool.false_ne_true, if_neg (by decide), if_neg (by decide), if_neg (by decide), if_neg (by decide), if_neg (by decide), if_neg (by decide), if_neg (by decide), if_pos rfl]
    rfl
  · rw [if_pos rfl, if_neg (by decide), if_neg (by decide), if_neg (by decide), if_neg (by decide), if_neg (by decide), if_neg (by decide), if_neg (by decide), if_pos rfl]
    rfl
theorem R6 (b : Bool) (v w : Int) : lockgateref01_Alu 6 b v w = (lowW b (shl .u64 (lowW b v) (IntKind.u64.wrap (shW b w))), true) := by
  unfold lockgateref01_Alu
  cases b
  · rw [if_neg Bool.false_ne_true, if_neg (by decide), if_neg (by decide), if_neg (by decide), if_neg (by decide), if_neg (by decide), if_neg (by decide), if_neg (by decide), if_neg (by decide), if_pos rfl]
    rfl
  · rw [if_pos rfl, if_neg (by decide), if_neg (by decide), if_neg (by decide), if_neg (by decide), if_neg (by decide), if_neg (by decide), if_neg (by decide), if_neg (by decide), if_pos rfl]
    rfl
theorem R7 (b : Bool) (v w : Int) : lockgateref01_Alu 7 b v w = (lowW b (lockgateref01_down (lowW b v) (shW b w) (wN b) 0), true) := by
  unfold lockgateref01_Alu
  cases b
  · rw [if_neg Bool.false_ne_true, if_neg (by decide), if_neg (by decide), if_neg (by decide), if_neg (by decide), if_neg (by decide), if_neg (by decide), if_neg (by decide), if_neg (by decide), if_neg (by decide), if_pos rfl]
    rfl
  · rw [if_pos rfl, if_neg (by decide), if_neg (by decide), if_neg (by decide), if_neg (by decide), if_neg (by decide), if_neg (by decide), if_neg (by decide), if_neg (by decide), if_neg (by decide), if_pos rfl]
    rfl
theorem R8 (b : Bool) (v w : Int) : lockgateref01_Alu 8 b v w = (lowW b (lockgateref01_add 0 (lockgateref01_not (lowW b v)) 1), true) := by
  unfold lockgateref01_Alu
  cases b
  · rw [if_neg Bool.false_ne_true, if_neg (by decide), if_neg (by decide), if_neg (by decide), if_neg (by decide), if_neg (by decide), if_neg (by decide), if_neg (by decide), if_neg (by decide), if_neg (by decide), if_neg (by decide), if_pos rfl]
    rfl
  · rw [if_pos rfl, if_neg (by decide), if_neg (by decide), if_neg (by decide), if_neg (by decide), if_neg (by decide), if_neg (by decide), if_neg (by decide), if_neg (by decide), if_neg (by decide), if_neg (by decide), if_pos rfl]
    rfl
theorem R11 (b : Bool) (v w : Int) : lockgateref01_Alu 11 b v w = (lowW b (lowW b w), true) := by
  unfold lockgateref01_Alu
  cases b
  · rw [if_neg Bool.false_ne_true, if_neg (by decide), if_neg (by decide), if_neg (by decide), if_neg (by decide), if_neg (by decide), if_neg (by decide), if_neg (by decide), if_neg (by decide), if_neg (by decide), if_neg (by decide), if_neg (by decide), if_pos rfl]
    rfl
  · rw [if_pos rfl, if_neg (by decide), if_neg (by decide), if_neg (by decide), if_neg (by decide), if_neg (by decide), if_neg (by decide), if_neg (by decide), if_neg (by decide), if_neg (by decide), if_neg (by decide), if_neg (by decide), if_pos rfl]
    rfl
theorem R12 (b : Bool) (v w : Int) : lockgateref01_Alu 12 b v w = (lowW b (lockgateref01_down (lowW b v) (shW b w) (wN b) (lockgateref01_bit (lowW b v) (if b = true then 63 else 31))), true) := by
  unfold lockgateref01_Alu
  cases b
  · rw [if_neg Bool.false_ne_true, if_neg (by decide), if_neg (by decide), if_neg (by decide), if_neg (by decide), if_neg (by decide), if_neg (by decide), if_neg (by decide), if_neg (by decide), if_neg (by decide), if_neg (by decide), if_neg (by decide), if_neg (by decide), if_pos rfl]
    rfl
  · rw [if_pos rfl, if_neg (by decide), if_neg (by decide), if_neg (by decide), if_neg (by decide), if_neg (by decide), if_neg (by decide), if_neg (by decide), if_neg (by decide), if_neg (by decide), if_neg (by decide), if_neg (by decide), if_neg (by decide), if_pos rfl]
    rfl

theorem lo_mod {b : Bool} (x : Int) : lo b (x % 18446744073709551616) = lo b (IntKind.u64.wrap x) := by rw [wrap_u64]
theorem lo_nn {b : Bool} {x : Int} (h : W64 x) : W64 (lo b x) := lo_W h
theorem low_W {b : Bool} {x : Int} (h : W64 x) : lowW b x = lo b x := low_lo h.1
theorem modW (x : Int) : W64 (x % 18446744073709551616) := by unfold W64; omega
theorem lo_idem {b : Bool} {x : Int} : lo b (lo b x) = lo b x := by
  cases b
  · show x % 4294967296 % 4294967296 = x % 4294967296; omega
  · rfl
theorem lo_pow {b : Bool} {x : Int} (h : W64 x) : lo b x < 2 ^ wN b := by
  cases b
  · show x % 4294967296 < 2 ^ 32
    rw [e32]; omega
  · show x < 2 ^ 64
    rw [e64]; exact h.2
theorem lo_hlt {b : Bool} {v w : Int} (hv : W64 v) (hw : W64 w) : b = false → lo b v < 4294967296 ∧ lo b w < 4294967296 := fun h => by
  subst h; exact ⟨(lo_W32 hv).2, (lo_W32 hw).2⟩
theorem wN_int (b : Bool) : ((wN b : Nat) : Int) = if b = true then 64 else 32 := by cases b <;> rfl
theorem rAlu_eq {k : Int} {b : Bool} {v w : Int} (hv : W64 v) (hw : W64 w) : lockgateref01_Alu k b v w = word_Alu k b v w := by
  by_cases hk : isOp k
  · have hv' := lo_W (b := b) hv
    have hw' := lo_W (b := b) hw
    have lv := low_W (b := b) hv
    have lw := low_W (b := b) hw
    rw [pok hk]
    have pl : plain k → (word_Alu k b v w).1 = lo b (raw k (lo b v) (lo b w)) := fun h => rp h hv hw
    rcases hk with rfl | rfl | rfl | rfl | rfl | rfl | rfl | rfl | rfl | rfl | rfl | rfl | rfl
    · rw [R0, lv, lw, add_eq hv' hw' (.inl rfl), low_W (modW _), lo_mod, pl (by unfold plain; omega), Int.add_zero]; rfl
    · have e : (lo b v + (18446744073709551615 - lo b w) + 1) % 18446744073709551616 = IntKind.u64.wrap (lo b v - lo b w) := by rw [wrap_u64]; omega
      have hn : W64 (18446744073709551615 - lo b w) := by unfold W64 at *; omega
      rw [R1, lv, lw, not_eq hw', add_eq hv' hn (.inr rfl), e, low_W ⟨wrapu_nn, wrapu_lt⟩, pl (by unfold plain; omega)]; rfl
    · rw [R2, lv, lw, times_eq hv' hw', low_W (modW _), lo_mod, pl (by unfold plain; omega)]; rfl
    · rw [R3, lv, lw, pl (by unfold plain; omega)]
      have er : raw 3 (lo b v) (lo b w) = divZ (lo b v) (lo b w) := rfl
      rw [er]
      unfold divZ
      by_cases hz : 0 < lo b w
      · have hd := div_le (x := lo b v) (y := lo b w) hv'.1 hw'.1
        have hdW : W64 (lo b v / lo b w) := by unfold W64 at *; omega
        rw [if_pos hz, if_neg (by omega), divide_eq hv' hw' hz, low_W hdW]
      · have : lo b w = 0 := by unfold W64 at *; omega
        rw [if_neg hz, if_pos this, low_W (by unfold W64; omega)]
    · rw [R4, lv, lw, pl (by unfold plain; omega)]
      obtain ⟨x, hx⟩ := exists_bv hv'.1 hv'.2
      obtain ⟨y, hy⟩ := exists_bv hw'.1 hw'.2
      have er : raw 4 (lo b v) (lo b w) = Go.bits .or .u64 (lo b v) (lo b w) := rfl
      rw [er, hx, hy, or_u64, bits_eq (.inl ⟨rfl, rfl⟩), low_W ⟨Int.natCast_nonneg _, by have := (x ||| y).isLt; omega⟩]
    · rw [R5, lv, lw, pl (by unfold plain; omega)]
      obtain ⟨x, hx⟩ := exists_bv hv'.1 hv'.2
      obtain ⟨y, hy⟩ := exists_bv hw'.1 hw'.2
      have er : raw 5 (lo b v) (lo b w) = Go.bits .and .u64 (lo b v) (lo b w) := rfl
      rw [er, hx, hy, and_u64, bits_eq (.inr (.inl ⟨rfl, rfl⟩)), low_W ⟨Int.natCast_nonneg _, by have := (x &&& y).isLt; omega⟩]
    · have hs := small_shift2 (b := b) hw'
      have h6 := w6 (b := b) hv' (lo_hlt hv hw) hw'
      rw [word_lo 6 b hw] at h6
      rw [R6, lv, h6]
      unfold shW
      rw [lw, hs.1, wrap_u64_id hs.2.1 (by omega), low_W shl_u64_in]
    · have hs := small_shift2 (b := b) hw'
      have h7 := w7 (b := b) hv' (lo_hlt hv hw) hw'
      rw [word_lo 7 b hw] at h7
      rw [R7, lv, h7]
      unfold shW
      rw [lw, hs.1]
      obtain ⟨x, hx⟩ := exists_bv hv'.1 hv'.2
      have hp := lo_pow (b := b) hv
      rw [hx] at hp ⊢
      rw [down_rsh (by cases b <;> decide) hp ⟨hs.2.1, hs.2.2.2⟩, low_W (shr_u64_in (Int.natCast_nonneg _) (by have := x.isLt; omega))]
    · have hn : W64 (18446744073709551615 - lo b v) := by unfold W64 at *; omega
      have z : W64 0 := by unfold W64; omega
      rw [R8, lv, not_eq hv', add_eq z hn (.inr rfl), low_W (modW _)]
      have : lo b ((0 + (18446744073709551615 - lo b v) + 1) % 18446744073709551616) = (word_Alu 8 b v w).1 := by
        cases b
        · show (0 + (18446744073709551615 - v % 4294967296) + 1) % 18446744073709551616 % 4294967296 = IntKind.u64.wrap (IntKind.u32.wrap (0 - (IntKind.u32.wrap v)))
          simp only [wrap_u64, wrap_u32]; omega
        · show (0 + (18446744073709551615 - v) + 1) % 18446744073709551616 = IntKind.u64.wrap (0 - v)
          simp only [wrap_u64]; omega
      rw [this]
    · rw [R9, lv, lw, pl (by unfold plain; omega)]
      have er : raw 9 (lo b v) (lo b w) = modZ (lo b v) (lo b w) := rfl
      rw [er]
      unfold modZ
      by_cases hz : 0 < lo b w
      · have hd := mod_le (x := lo b v) (y := lo b w) hv'.1 hz
        have hdW : W64 (lo b v % lo b w) := by unfold W64 at *; omega
        rw [if_pos hz, if_neg (by omega), divide_eq hv' hw' hz, low_W hdW]
      · have : lo b w = 0 := by unfold W64 at *; omega
        rw [if_neg hz, if_pos this, low_W hv']
    · rw [R10, lv, lw, pl (by unfold plain; omega)]
      obtain ⟨x, hx⟩ := exists_bv hv'.1 hv'.2
      obtain ⟨y, hy⟩ := exists_bv hw'.1 hw'.2
      have er : raw 10 (lo b v) (lo b w) = Go.bits .xor .u64 (lo b v) (lo b w) := rfl
      rw [er, hx, hy, xor_u64, bits_eq (.inr (.inr ⟨rfl, rfl⟩)), low_W ⟨Int.natCast_nonneg _, by have := (x ^^^ y).isLt; omega⟩]
    · rw [R11, lw, low_W hw', lo_idem]
      have : (word_Alu 11 b v w).1 = lo b w := by
        cases b
        · show IntKind.u64.wrap (IntKind.u32.wrap w) = w % 4294967296
          simp only [wrap_u64, wrap_u32]; omega
        · rfl
      rw [this]
    · have hs := small_shift2 (b := b) hw'
      rw [R12, lv, ← word_lo 12 b hw]
      unfold shW
      rw [lw, hs.1]
      obtain ⟨x, hx⟩ := exists_bv hv'.1 hv'.2
      cases b
      · have h32 : (x.toNat : Int) < 4294967296 := by rw [← hx]; exact (lo_W32 hv).2
        have hs1 : 0 ≤ Int.tmod (lo false w) 32 := hs.2.1
        have hs2 : Int.tmod (lo false w) 32 < 32 := hs.2.2.1
        rw [hx]
        have e := down_arsh32 (x := x) (m := Int.tmod (lo false w) 32) h32 ⟨hs1, by omega⟩
        have e2 : lowW false (lockgateref01_down (x.toNat : Int) (Int.tmod (lo false w) 32) 32 (lockgateref01_bit (x.toNat : Int) 31)) = (word_Alu 12 false (x.toNat : Int) (lo false w)).1 := by
          rw [e, low_W ⟨wrapu_nn, wrapu_lt⟩]
          show IntKind.u64.wrap (IntKind.u32.wrap (shr .i32 (IntKind.i32.wrap (IntKind.u32.wrap (x.toNat : Int))) (Int.tmod (lo false w) 32))) % 4294967296 = IntKind.u64.wrap (IntKind.u32.wrap (shr .i32 (IntKind.i32.wrap (IntKind.u32.wrap (x.toNat : Int))) (Int.tmod (lo false w) 32)))
          simp only [wrap_u64, wrap_u32]; omega
        exact Prod.ext e2 rfl
      · rw [hx]
        have e := down_arsh64 (x := x) (m := Int.tmod (lo true w) 64) ⟨hs.2.1, hs.2.2.2⟩
        have e2 : lowW true (lockgateref01_down (x.toNat : Int) (Int.tmod (lo true w) 64) 64 (lockgateref01_bit (x.toNat : Int) 63)) = (word_Alu 12 true (x.toNat : Int) (lo true w)).1 := by
          rw [e]; exact Low64 _
        exact Prod.ext e2 rfl
  · rw [rAlu_x hk, wAlu_x hk]
/-! ### Orders -/
theorem order_loop (a b : Int) (w : Nat) (d : Bool) (ha : W64 a) (hb : W64 b) (hw : w ≤ 64) : ∀ (n k : Nat), k < n → k ≤ w → (d = false ∨ k + 1 ≤ w) → a / 2 ^ k = b / 2 ^ k →
    lockgateref01_order_L a b w d n ((k : Int) - 1) = if a < b then some (.ret (-1)) else if b < a then some (.ret 1) else some (.brk (-1))
  | 0, k, h1, h2, h3, h4 => by omega
  | n + 1, 0, h1, h2, h3, h4 => by
    rw [lockgateref01_order_L, if_neg (by omega)]
    rw [Int.pow_zero, Int.ediv_one, Int.ediv_one] at h4
    rw [if_neg (by omega), if_neg (by omega)]; rfl
  | n + 1, k + 1, h1, h2, h3, h4 => by
    rw [lockgateref01_order_L, if_pos (by omega)]
    have hk : k ≤ 63 := by omega
    have ek : ((k + 1 : Nat) : Int) - 1 = (k : Int) := by omega
    rw [ek]
    have e2 : (2 : Int) ^ (k + 1) = 2 ^ k * 2 := Int.pow_succ _ _
    have hp := pw k
    have d1 : a / 2 ^ (k + 1) = a / 2 ^ k / 2 := by rw [e2, Int.ediv_ediv_of_nonneg (by omega)]
    have d2 : b / 2 ^ (k + 1) = b / 2 ^ k / 2 := by rw [e2, Int.ediv_ediv_of_nonneg (by omega)]
    rw [d1, d2] at h4
    rw [bit_k hk ha, bit_k hk hb]
    have hdif : d = true → ¬ (k : Int) = IntKind.i64.wrap ((w : Int) - 1) := fun hd => by
      rw [wrap_i64_id (by omega) (by omega)]
      rcases h3 with h | h
      · rw [hd] at h; cases h
      · omega
    have lt_of : a / 2 ^ k < b / 2 ^ k → a < b := fun h => by
      rcases Int.lt_or_le a b with h' | h'
      · exact h'
      · have := Int.ediv_le_ediv hp h'; omega
    have gt_of : b / 2 ^ k < a / 2 ^ k → b < a := fun h => by
      rcases Int.lt_or_le b a with h' | h'
      · exact h'
      · have := Int.ediv_le_ediv hp h'; omega
    by_cases he : a / 2 ^ k % 2 = b / 2 ^ k % 2
    · rw [if_pos he, wrap_i64_id (by omega) (by omega)]
      exact order_loop a b w d ha hb hw n k (by omega) (by omega) (by rcases h3 with h | h; exact .inl h; exact .inr (by omega)) (by omega)
    · rw [if_neg he]
      have key : (if b / 2 ^ k % 2 < a / 2 ^ k % 2 then some (.ret 1) else some (.ret (-1)) : Option (Out Int Int)) = if a < b then some (.ret (-1)) else if b < a then some (.ret 1) else some (.brk (-1)) := by
        by_cases hlt : b / 2 ^ k % 2 < a / 2 ^ k % 2
        · have := gt_of (by omega)
          rw [if_pos hlt, if_neg (by omega), if_pos this]
        · have := lt_of (by omega)
          rw [if_neg hlt, if_pos this]
      cases d
      · rw [if_neg Bool.false_ne_true]; exact key
      · rw [if_pos rfl, if_neg (hdif rfl)]; exact key
theorem order_plain {a b : Int} {w : Nat} (ha : W64 a) (hb : W64 b) (hw : 1 ≤ w ∧ w ≤ 64) (la : a < 2 ^ w) (lb : b < 2 ^ w) : lockgateref01_order a b w false = word_order_uint64 a b := by
  have h := order_loop a b w false ha hb hw.2 65 w (by omega) (by omega) (.inl rfl) (by rw [Int.ediv_eq_zero_of_lt ha.1 la, Int.ediv_eq_zero_of_lt hb.1 lb])
  unfold lockgateref01_order word_order_uint64
  rw [wrap_i64_id (by omega) (by omega), h]
  by_cases h1 : a < b
  · rw [if_pos h1, if_pos h1]
  · rw [if_neg h1, if_neg h1]
    by_cases h2 : b < a
    · rw [if_pos h2, if_pos h2]
    · rw [if_neg h2, if_neg h2]
/-- A number of w bits, with its sign. -/
def sgn (w : Nat) (a : Int) : Int := if a < 2 ^ (w - 1) then a else a - 2 ^ w
theorem order_signed {a b : Int} {w : Nat} (ha : W64 a) (hb : W64 b) (hw : 1 ≤ w ∧ w ≤ 64) (la : a < 2 ^ w) (lb : b < 2 ^ w) : lockgateref01_order a b w true = word_order_int64 (sgn w a) (sgn w b) := by
  obtain ⟨k, rfl⟩ : ∃ k, w = k + 1 := ⟨w - 1, by omega⟩
  have hk : k ≤ 63 := by omega
  unfold lockgateref01_order
  have ek : IntKind.i64.wrap (((k + 1 : Nat) : Int) - 1) = (k : Int) := by rw [wrap_i64_id (by omega) (by omega)]; omega
  have e2 : (2 : Int) ^ (k + 1) = 2 ^ k * 2 := Int.pow_succ _ _
  have hp := pw k
  rw [ek, lockgateref01_order_L, if_pos (by omega), bit_k hk ha, bit_k hk hb, ek]
  have sg : ∀ x : Int, sgn (k + 1) x = if x < 2 ^ k then x else x - 2 ^ (k + 1) := fun x => rfl
  have q : ∀ x : Int, 0 ≤ x → x < 2 ^ (k + 1) → x / 2 ^ k % 2 = if x < 2 ^ k then 0 else 1 := fun x h0 h1 => by
    split
    · rename_i h; rw [Int.ediv_eq_zero_of_lt h0 h]; rfl
    · rename_i h
      have : x / 2 ^ k = 1 := by
        have g1 : 1 ≤ x / 2 ^ k := Int.le_ediv_of_mul_le hp (by omega)
        have g2 : x / 2 ^ k < 2 := Int.ediv_lt_of_lt_mul hp (by omega)
        omega
      rw [this]; rfl
  rw [q a ha.1 la, q b hb.1 lb]
  unfold word_order_int64
  rw [sg, sg]
  by_cases pa : a < 2 ^ k
  · by_cases pb : b < 2 ^ k
    · simp only [pa, pb, if_true]
      have h := order_loop a b (k + 1) true ha hb hw.2 64 k (by omega) (by omega) (.inr (by omega)) (by rw [Int.ediv_eq_zero_of_lt ha.1 pa, Int.ediv_eq_zero_of_lt hb.1 pb])
      rw [wrap_i64_id (by omega) (by omega), h]
      by_cases h1 : a < b
      · simp [h1]
      · by_cases h2 : b < a
        · simp [h1, h2]
        · simp [h1, h2]
    · simp only [pa, pb, if_true, if_false]
      rw [if_neg (by omega), if_neg (by omega)]
      have n1 : ¬ a < b - 2 ^ (k + 1) := by unfold W64 at *; omega
      have n2 : b - 2 ^ (k + 1) < a := by unfold W64 at *; omega
      rw [if_neg n1, if_pos n2]
  · by_cases pb : b < 2 ^ k
    · simp only [pa, pb, if_true, if_false]
      rw [if_neg (by omega), if_pos (by omega)]
      have n1 : a - 2 ^ (k + 1) < b := by unfold W64 at *; omega
      rw [if_pos n1]
    · simp only [pa, pb, if_true, if_false]
      have hq : ∀ x : Int, ¬ x < 2 ^ k → x < 2 ^ (k + 1) → x / 2 ^ k = 1 := fun x h0 h1 => by
        have g1 : 1 ≤ x / 2 ^ k := Int.le_ediv_of_mul_le hp (by omega)
        have g2 : x / 2 ^ k < 2 := Int.ediv_lt_of_lt_mul hp (by omega)
        omega
      have h := order_loop a b (k + 1) true ha hb hw.2 64 k (by omega) (by omega) (.inr (by omega)) (by rw [hq a pa la, hq b pb lb])
      rw [wrap_i64_id (by omega) (by omega), h]
      by_cases h1 : a < b
      · rw [if_pos h1, if_pos (by omega)]
      · by_cases h2 : b < a
        · rw [if_neg h1, if_pos h2, if_neg (by omega), if_pos (by omega)]
        · rw [if_neg h1, if_neg h2, if_neg (by omega), if_neg (by omega)]
end Go.Proofs.T
