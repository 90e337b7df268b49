/-
  Plain laws: ScalarSound and ScalarAlone.
-/
import Derived.Test.YtneejoienmffmaaM11
set_option linter.unusedVariables false
set_option maxRecDepth 100000
namespace Go.Proofs.T
open Go Go.Proofs Go.Proofs.SX
/-! ### Byte orders -/
theorem and255 (x : Int) : 0 ≤ Go.bits .and .u64 x 255 ∧ Go.bits .and .u64 x 255 < 256 := by
  refine ⟨(bW .and x 255).1, ?_⟩
  unfold Go.bits
  show IntKind.u64.wrap (((BitVec.ofInt 64 x) &&& (BitVec.ofInt 64 255)).toNat : Int) < 256
  have h : ((BitVec.ofInt 64 x) &&& (BitVec.ofInt 64 255)).toNat ≤ 255 := by
    rw [BitVec.toNat_and]
    exact Nat.le_trans Nat.and_le_right (by decide)
  rw [wrap_u64_id (by omega) (by omega)]
  omega
theorem pow_le64 {k : Nat} (hk : k ≤ 64) : (2 : Int) ^ k ≤ 18446744073709551616 := by
  have h2 : ((2 ^ k : Nat) : Int) ≤ ((2 ^ 64 : Nat) : Int) := Int.ofNat_le.2 (Nat.pow_le_pow_right (n := 2) (by decide) hk)
  have e : ((2 ^ 64 : Nat) : Int) = 18446744073709551616 := by decide
  rw [e, Int.natCast_pow] at h2
  exact h2
theorem pow_le63 {k : Nat} (hk : k ≤ 63) : (2 : Int) ^ k ≤ 9223372036854775808 := by
  have h2 : ((2 ^ k : Nat) : Int) ≤ ((2 ^ 63 : Nat) : Int) := Int.ofNat_le.2 (Nat.pow_le_pow_right (n := 2) (by decide) hk)
  have e : ((2 ^ 63 : Nat) : Int) = 9223372036854775808 := by decide
  rw [e, Int.natCast_pow] at h2
  exact h2
theorem or_bound {a b : Int} {k : Nat} (hk : k ≤ 64) (ha : 0 ≤ a ∧ a < 2 ^ k) (hb : 0 ≤ b ∧ b < 2 ^ k) : 0 ≤ Go.bits .or .u64 a b ∧ Go.bits .or .u64 a b < 2 ^ k := by
  have hp : (2 : Int) ^ k ≤ 18446744073709551616 := pow_le64 hk
  obtain ⟨a, rfl⟩ := exists_bv ha.1 (by omega)
  obtain ⟨b, rfl⟩ := exists_bv hb.1 (by omega)
  rw [or_u64, BitVec.toNat_or]
  have h1 : a.toNat < 2 ^ k := by exact_mod_cast ha.2
  have h2 : b.toNat < 2 ^ k := by exact_mod_cast hb.2
  have := Nat.or_lt_two_pow h1 h2
  exact ⟨by omega, by exact_mod_cast this⟩
theorem swap_step {o x : Int} {k : Nat} (hk : k + 8 ≤ 64) (h : 0 ≤ o ∧ o < 2 ^ k) : 0 ≤ Go.bits .or .u64 (shl .u64 o 8) (Go.bits .and .u64 x 255) ∧ Go.bits .or .u64 (shl .u64 o 8) (Go.bits .and .u64 x 255) < 2 ^ (k + 8) := by
  have hp : (2 : Int) ^ (k + 8) ≤ 18446744073709551616 := pow_le64 hk
  have e : (2 : Int) ^ (k + 8) = 2 ^ k * 256 := by rw [Int.pow_add]; rfl
  have hq : (0 : Int) < 2 ^ k := Int.pow_pos (by decide)
  have h8 : (2 : Int) ^ (Int.toNat 8) = 256 := by decide
  refine or_bound hk ?_ ?_
  · rw [shl_int (by decide) (by decide), h8, e]
    rw [e] at hp
    omega
  · have := and255 x
    rw [e]; omega
theorem first_byte {x : Int} : 0 ≤ Go.bits .or .u64 0 (Go.bits .and .u64 x 255) ∧ Go.bits .or .u64 0 (Go.bits .and .u64 x 255) < 2 ^ 8 :=
  or_bound (by decide) (by decide) (and255 x)
theorem sw16_lt (b : Bool) (v : Int) : 0 ≤ (word_Swap_16 b v).1 ∧ (word_Swap_16 b v).1 < 65536 := by
  cases b
  · show 0 ≤ shr .u64 (shl .u64 v 48) 48 ∧ shr .u64 (shl .u64 v 48) 48 < 65536
    have h : (2 : Int) ^ (Int.toNat 48) = 281474976710656 := by decide
    rw [shr_int (by decide) (by decide), shl_int (by decide) (by decide), h]
    generalize v * 281474976710656 = p
    omega
  · exact swap_step (k := 8) (by decide) first_byte
theorem sw32_lt (b : Bool) (v : Int) : 0 ≤ (word_Swap_32 b v).1 ∧ (word_Swap_32 b v).1 < 4294967296 := by
  cases b
  · show 0 ≤ shr .u64 (shl .u64 v 32) 32 ∧ shr .u64 (shl .u64 v 32) 32 < 4294967296
    have h : (2 : Int) ^ (Int.toNat 32) = 4294967296 := by decide
    rw [shr_int (by decide) (by decide), shl_int (by decide) (by decide), h]
    generalize v * 4294967296 = p
    omega
  · exact swap_step (k := 24) (by decide) (swap_step (k := 16) (by decide) (swap_step (k := 8) (by decide) first_byte))
theorem sw64_lt {v : Int} (b : Bool) (hv : W64 v) : W64 (word_Swap_64 b v).1 := by
  cases b
  · show W64 (shr .u64 (shl .u64 v 0) 0)
    exact shr_u64_in shl_u64_in.1 shl_u64_in.2
  · exact bW .or _ _
theorem SwE16 (b : Bool) (v : Int) : word_Swap 16 b v = word_Swap_16 b v := by unfold word_Swap; rw [if_pos rfl]
theorem SwE32 (b : Bool) (v : Int) : word_Swap 32 b v = word_Swap_32 b v := by unfold word_Swap; rw [if_neg (by decide), if_pos rfl]
theorem SwE64 (b : Bool) (v : Int) : word_Swap 64 b v = word_Swap_64 b v := by unfold word_Swap; rw [if_neg (by decide), if_neg (by decide), if_pos rfl]
def isSz (k : Int) : Prop := k = 16 ∨ k = 32 ∨ k = 64
theorem Swap_some {k : Int} (hk : isSz k) (b : Bool) (v : Int) : (word_Swap k b v).2 = true := by
  rcases hk with rfl | rfl | rfl
  · rw [SwE16]; cases b <;> rfl
  · rw [SwE32]; cases b <;> rfl
  · rw [SwE64]; cases b <;> rfl
theorem Swap_W {k : Int} (hk : isSz k) (b : Bool) {v : Int} (hv : W64 v) : W64 (word_Swap k b v).1 := by
  rcases hk with rfl | rfl | rfl
  · rw [SwE16]; have := sw16_lt b v; unfold W64; omega
  · rw [SwE32]; have := sw32_lt b v; unfold W64; omega
  · rw [SwE64]; exact sw64_lt b hv
theorem low_in {v : Int} {k : Nat} (hk : k ≤ 63) (h0 : 0 ≤ v) (h1 : v < 2 ^ k) : tnum_In ⟨0, 2 ^ k - 1⟩ v = true := by
  have hp : (2 : Int) ^ k ≤ 9223372036854775808 := pow_le63 hk
  obtain ⟨v, rfl⟩ := exists_bv h0 (by omega)
  have e : (⟨0, 2 ^ k - 1⟩ : Tn) = tb 0#64 (ones k) := by
    unfold tb
    rw [ones_toNat (by omega)]
    have : 0 < 2 ^ k := Nat.two_pow_pos k
    have e2 : ((2 ^ k - 1 : Nat) : Int) = 2 ^ k - 1 := by
      rw [Int.natCast_sub (by omega)]; norm_cast
    rw [e2]; rfl
  rw [e, in_tb]
  unfold TT.In
  rw [andnot_ones]
  have : v >>> k = 0#64 := by
    apply BitVec.eq_of_toNat_eq
    rw [BitVec.toNat_ushiftRight, Nat.shiftRight_eq_div_pow]
    have : v.toNat < 2 ^ k := by exact_mod_cast h1
    simpa using Nat.div_eq_of_lt this
  rw [this]; simp
theorem Upto2_eq : scalar_Upto 2 = ⟨⟨0, 2 ^ 16 - 1⟩, ⟨0, 65535⟩, ⟨0, 65535⟩⟩ := by rfl
theorem Upto4_eq : scalar_Upto 4 = ⟨⟨0, 2 ^ 32 - 1⟩, ⟨0, 4294967295⟩, ⟨0, 4294967295⟩⟩ := by rfl
theorem Upto8_eq : scalar_Upto 8 = scalar_Any := by rfl
theorem Upto2_in {v : Int} (h0 : 0 ≤ v) (h1 : v < 65536) : Inx (scalar_Upto 2) v := by
  rw [Upto2_eq]
  refine ⟨low_in (by decide) h0 h1, ⟨h0, ?_⟩, ?_⟩
  · show v ≤ 65535; omega
  · unfold inS
    rw [wrap_i64_id (by omega) (by omega)]
    show 0 ≤ v ∧ v ≤ 65535; omega
theorem Upto4_in {v : Int} (h0 : 0 ≤ v) (h1 : v < 4294967296) : Inx (scalar_Upto 4) v := by
  rw [Upto4_eq]
  refine ⟨low_in (by decide) h0 h1, ⟨h0, ?_⟩, ?_⟩
  · show v ≤ 4294967295; omega
  · unfold inS
    rw [wrap_i64_id (by omega) (by omega)]
    show 0 ≤ v ∧ v ≤ 4294967295; omega
theorem sw64_id {v : Int} (hv : W64 v) : (word_Swap_64 false v).1 = v := by
  show shr .u64 (shl .u64 v 0) 0 = v
  have h : (2 : Int) ^ (Int.toNat 0) = 1 := by decide
  rw [shr_int (by decide) (by decide), shl_int (by decide) (by decide), h]
  unfold W64 at hv; omega
theorem may2 : MayP (scalar_Upto 2) := by unfold MayP; decide
theorem may4 : MayP (scalar_Upto 4) := by unfold MayP; decide
theorem Swap_props {k : Int} {b : Bool} {A : Sc} {v : Int} (hk : isSz k) (hA : VSc A) (mA : MayP A) (hv : W64 v) (iA : Inx A v) : MayP (scalar_Swap k b A) ∧ Inx (scalar_Swap k b A) (word_Swap k b v).1 := by
  unfold scalar_Swap
  rw [if_pos (Swap_some hk b _)]
  by_cases h1 : (scalar_Is A).2 = true
  · rw [if_pos h1, Is_sound hA hv iA h1]
    exact ⟨Of_may _, Of_in (Swap_W hk b hv)⟩
  · rw [if_neg h1]
    rcases hk with rfl | rfl | rfl
    · rw [if_neg (by decide)]
      have e : IntKind.i64.wrap (Int.tdiv 16 8) = 2 := by decide
      rw [e, SwE16]
      have := sw16_lt b v
      exact ⟨may2, Upto2_in this.1 this.2⟩
    · rw [if_neg (by decide)]
      have e : IntKind.i64.wrap (Int.tdiv 32 8) = 4 := by decide
      rw [e, SwE32]
      have := sw32_lt b v
      exact ⟨may4, Upto4_in this.1 this.2⟩
    · rw [if_pos rfl]
      have e : IntKind.i64.wrap (Int.tdiv 64 8) = 8 := by decide
      rw [e, SwE64]
      cases b
      · rw [if_neg Bool.false_ne_true, sw64_id hv]
        exact ⟨mA, iA⟩
      · rw [if_pos rfl, Upto8_eq]
        exact ⟨Any_may, Any_in (sw64_lt true hv)⟩
theorem ScalarSound_ok {a : Int} {b : Bool} {c d : Sc} {v w : Int} (hc : VSc c) (hd : VSc d) (hv : W64 v) (hw : W64 w) : lockgatelaw05_ScalarSound a b c d v w = true := by
  have pc := with_props hc hv
  have pd := with_props hd hw
  unfold lockgatelaw05_ScalarSound
  rw [known_ok]
  generalize lockgatelaw05_with c v = A at *
  generalize lockgatelaw05_with d w = B at *
  have sw := fun k b (hk : isSz k) => Swap_props (b := b) hk pc.1 pc.2.1 hv pc.2.2
  have s1 := sw 16 true (.inl rfl)
  have s2 := sw 16 false (.inl rfl)
  have s3 := sw 32 true (.inr (.inl rfl))
  have s4 := sw 32 false (.inr (.inl rfl))
  have s5 := sw 64 true (.inr (.inr rfl))
  have s6 := sw 64 false (.inr (.inr rfl))
  have n := Norm_sound pc.1 hv.1 hv.2 pc.2.2
  have nm := Norm_may pc.1 n.1
  have nw := Norm_within pc.1 pc.2.1.1 n.1
  have tail : ∀ x : Bool, x = true → (if (lockgatelaw05_may (scalar_Swap 16 true A)) = true then (if (scalar_In (scalar_Swap 16 true A) ((word_Swap 16 true v).1)) = true then x else false) else false) = true := fun x hx => by
    rw [if_pos (may_iff.2 s1.1), if_pos (In_iff.2 s1.2)]; exact hx
  by_cases hk : isOp a
  · have hs : (word_Alu a b v w).2 = true := word_some hk
    rw [if_pos (may_iff.2 (Alu_may hk pc.1 pd.1 pd.2.1)), if_pos hs, if_pos (In_iff.2 (Alu_in hk pc.1 pd.1 hv hw pc.2.2 pd.2.2))]
    rw [if_pos (may_iff.2 s1.1), if_pos (In_iff.2 s1.2), if_pos (may_iff.2 s2.1), if_pos (In_iff.2 s2.2), if_pos (may_iff.2 s3.1), if_pos (In_iff.2 s3.2), if_pos (may_iff.2 s4.1), if_pos (In_iff.2 s4.2), if_pos (may_iff.2 s5.1), if_pos (In_iff.2 s5.2), if_pos (may_iff.2 s6.1), if_pos (In_iff.2 s6.2), if_pos n.1, if_pos (may_iff.2 nm), if_pos (In_iff.2 n.2), if_pos nw]
  · have hs : ¬ (word_Alu a b v w).2 = true := fun h => hk (word_ok h)
    rw [Alu_none hk]
    rw [if_pos (may_iff.2 Any_may), if_neg hs]
    simp only [beq_int, Bool.and_self, if_true]
    rw [if_pos (may_iff.2 s1.1), if_pos (In_iff.2 s1.2), if_pos (may_iff.2 s2.1), if_pos (In_iff.2 s2.2), if_pos (may_iff.2 s3.1), if_pos (In_iff.2 s3.2), if_pos (may_iff.2 s4.1), if_pos (In_iff.2 s4.2), if_pos (may_iff.2 s5.1), if_pos (In_iff.2 s5.2), if_pos (may_iff.2 s6.1), if_pos (In_iff.2 s6.2), if_pos n.1, if_pos (may_iff.2 nm), if_pos (In_iff.2 n.2), if_pos nw]
/-! ### Numbers alone -/
theorem once_s {x : Sc} (h2 : (once x).2 = true) : (span_ToS (once x).1.u).lo ≤ (once x).1.s.lo ∧ (once x).1.s.hi ≤ (span_ToS (once x).1.u).hi := by
  unfold once at h2 ⊢
  by_cases a1 : (nU1 x).2 = true
  · rw [if_pos a1] at h2 ⊢
    by_cases a2 : (nU2 x).2 = true
    · rw [if_pos a2] at h2 ⊢
      by_cases a3 : (nS1 x).2 = true
      · rw [if_pos a3] at h2 ⊢
        by_cases a4 : (nS2 x).2 = true
        · rw [if_pos a4] at h2 ⊢
          by_cases a5 : (nT x).2 = true
          · rw [if_pos a5]
            have s1 := SMeet_subr a3
            have s2 := SMeet_sub a4
            exact ⟨Int.le_trans s1.1 s2.2.1, Int.le_trans s2.2.2.1 s1.2⟩
          · rw [if_neg a5] at h2; cases h2
        · rw [if_neg a4] at h2; cases h2
      · rw [if_neg a3] at h2; cases h2
    · rw [if_neg a2] at h2; cases h2
  · rw [if_neg a1] at h2; cases h2
theorem Norm_s {x : Sc} (h2 : (scalar_Norm x).2 = true) : (span_ToS (scalar_Norm x).1.u).lo ≤ (scalar_Norm x).1.s.lo ∧ (scalar_Norm x).1.s.hi ≤ (span_ToS (scalar_Norm x).1.u).hi := by
  rw [Norm_eq] at h2 ⊢
  by_cases a1 : (once x).2 = true
  · rw [if_pos a1] at h2 ⊢; exact once_s h2
  · rw [if_neg a1] at h2; cases h2
theorem Norm_alone {x : Sc} {n : Int} (hx : VSc x) (hn : W64 n) (ht : x.t = ⟨n, 0⟩) (hu : x.u = ⟨n, n⟩) (hi : Inx x n) : scalar_Norm x = (scalar_Of n, true) := by
  have s := Norm_sound hx hn.1 hn.2 hi
  have hm : Go.bits .and .u64 x.t.v x.t.m = 0 := by
    rw [ht]; exact (Of_may n).1
  have w := Norm_within hx hm s.1
  have ss := Norm_s s.1
  have v := Norm_V hx
  generalize scalar_Norm x = r at *
  obtain ⟨y, ok⟩ := r
  obtain ⟨⟨t, m⟩, ⟨lo, hi⟩, ⟨sl, sh⟩⟩ := y
  dsimp only at s w ss v
  rw [Within_iff, ht, hu] at w
  obtain ⟨w1, w2, _⟩ := w
  obtain ⟨s1, s2, s3, s4⟩ := s
  unfold inU at s3
  unfold inS at s4
  dsimp only at w2 s3 s4
  have e1 : lo = n := by omega
  have e2 : hi = n := by omega
  subst e2
  subst e1
  have e3 : span_ToS ⟨lo, lo⟩ = ⟨IntKind.i64.wrap lo, IntKind.i64.wrap lo⟩ := by
    unfold span_ToS; rw [if_pos rfl]
  rw [e3] at ss
  dsimp only at ss
  have e4 : sl = IntKind.i64.wrap lo := by omega
  have e5 : sh = IntKind.i64.wrap lo := by omega
  subst e4
  subst e5
  have e6 : m = 0 ∧ t = lo := by
    obtain ⟨t', m', htb⟩ := tb_of v.1
    obtain ⟨n', rfl⟩ := exists_bv hn.1 hn.2
    have htb' : (⟨t, m⟩ : Tn) = tb t' m' := htb
    rw [htb'] at w1
    have hz : (⟨(n'.toNat : Int), 0⟩ : Tn) = tb n' 0#64 := rfl
    rw [hz, TW_iff] at w1
    have en : ~~~0#64 = BitVec.allOnes 64 := by decide
    rw [en, BitVec.and_allOnes, BitVec.and_allOnes] at w1
    obtain ⟨q1, q2⟩ := w1
    subst q1; subst q2
    have c1 := congrArg Tn.v htb'
    have c2 := congrArg Tn.m htb'
    exact ⟨c2, c1⟩
  obtain ⟨rfl, rfl⟩ := e6
  subst s1
  rfl
theorem Of_Is (n : Int) : scalar_Is (scalar_Of n) = (n, true) := by
  unfold scalar_Is
  rw [if_pos (show (scalar_Of n).u.lo = (scalar_Of n).u.hi from rfl)]; rfl
theorem Of_Norm {n : Int} (hn : W64 n) : scalar_Norm (scalar_Of n) = (scalar_Of n, true) := Norm_alone (Of_V hn) hn rfl rfl (Of_in hn)
theorem Of_settle {n : Int} (hn : W64 n) : scalar_settle (scalar_Of n) false = scalar_Of (n % 4294967296) := by
  have hcut : tnum_Cut (scalar_Of n).t 4 = ⟨n % 4294967296, 0⟩ := by
    obtain ⟨b, rfl⟩ := exists_bv hn.1 hn.2
    show tnum_Cut (tb b 0#64) 4 = _
    rw [Cut4_tb]
    unfold tb
    rw [low32]; rfl
  have hu : span_UCut (scalar_Of n).u = ⟨n % 4294967296, n % 4294967296⟩ := by
    show span_UCut ⟨n, n⟩ = _
    unfold span_UCut
    rw [if_pos rfl]
    simp only [and_low32 hn]
  have hi : Inx ⟨tnum_Cut (scalar_Of n).t 4, span_UCut (scalar_Of n).u, span_SAll⟩ (n % 4294967296) := ⟨Cut_in (Of_V hn).1 hn (Of_in hn).1, UCut_sound (Of_V hn).2.1 (Of_in hn).2.1, SAll_in _⟩
  have h := Norm_alone (x := ⟨tnum_Cut (scalar_Of n).t 4, span_UCut (scalar_Of n).u, span_SAll⟩) (cut_V (Of_V hn)) (W32 hn) hcut hu hi
  unfold scalar_settle
  rw [if_neg Bool.false_ne_true, h, if_pos rfl]
theorem cb_Of {b : Bool} {n : Int} (hn : W64 n) : cb b (scalar_Of n) = scalar_Of (lo b n) := by
  cases b
  · exact Of_settle hn
  · rfl
theorem Alu_Of {k : Int} {b : Bool} {v w : Int} (hk : isOp k) (hv : W64 v) (hw : W64 w) : scalar_Alu k b (scalar_Of v) (scalar_Of w) = scalar_Of (word_Alu k b v w).1 := by
  have co : ∀ k P, core k b (scalar_Of (lo b v)) (scalar_Of (lo b w)) P = scalar_Of (word_Alu k b v w).1 := fun k P => by
    unfold core
    rw [Of_Is, Of_Is, if_pos rfl, if_pos rfl, word_lo k b hw]
  have sh : ∀ k, shcore k b (scalar_Of (lo b v)) (scalar_Of (lo b w)) = scalar_Of (word_Alu k b v w).1 := fun k => by
    unfold shcore
    rw [Of_Is, Of_Is, if_pos rfl, if_pos rfl, word_lo k b hw]
  rcases hk with rfl | rfl | rfl | rfl | rfl | rfl | rfl | rfl | rfl | rfl | rfl | rfl | rfl
  · rw [AE0, A0, cb_Of hv, cb_Of hw, co]
  · rw [AE1, A1, cb_Of hv, cb_Of hw, co]
  · rw [AE2, A2, cb_Of hv, cb_Of hw, co]
  · rw [AE3, A3, cb_Of hv, cb_Of hw, co]
  · rw [AE4, A4, cb_Of hv, cb_Of hw, co]
  · rw [AE5, A5, cb_Of hv, cb_Of hw, co]
  · rw [AE6, A6, cb_Of hv, cb_Of hw, sh]
  · rw [AE7, A7, cb_Of hv, cb_Of hw, sh]
  · rw [AE8, A8, cb_Of hv, cb_Of hw, Of_Is, Of_Is, if_pos rfl, word_lo 8 b hw]
  · rw [AE9, A9, cb_Of hv, cb_Of hw, co]
  · rw [AE10, A10, cb_Of hv, cb_Of hw, co]
  · rw [AE11, A11, cb_Of hv, cb_Of hw, Of_Is, Of_Is, if_pos rfl, word_lo 11 b hw]
  · rw [AE12, A12, cb_Of hv, cb_Of hw, sh]
theorem Branch_Of {a : Int} {b c : Bool} {v w : Int} (hj : isJ a) : (scalar_Branch a b c (scalar_Of v) (scalar_Of w)).2.2 = ((word_Jump a b v w).1 == c) := by
  rcases Branch_cases a b c (scalar_Of v) (scalar_Of w) with ⟨h, h1⟩ | ⟨h, _, _, _, h4⟩ | ⟨_, _, _, h3⟩
  · rw [h]
    rw [Of_Is, Of_Is] at h1
    rw [h1 (Jump_ok.2 hj) rfl rfl]
    simp
  · rw [h]
    rw [Of_Is, Of_Is] at h4
    exact (beq_eq_false_iff_ne.2 h4).symm
  · rw [Of_Is, Of_Is] at h3
    exact (h3 rfl rfl).elim
theorem Swap_Of {k : Int} {b : Bool} {v : Int} (hk : isSz k) : scalar_Swap k b (scalar_Of v) = scalar_Of (word_Swap k b v).1 := by
  unfold scalar_Swap
  rw [Of_Is, if_pos (Swap_some hk b _), if_pos rfl]
theorem ScalarAlone_ok {a : Int} {b : Bool} {v w : Int} (hv : W64 v) (hw : W64 w) : lockgatelaw05_ScalarAlone a b v w = true := by
  unfold lockgatelaw05_ScalarAlone
  rw [known_ok, Of_Norm hv, Of_Is, Swap_Of (.inr (.inl rfl))]
  have hj : (word_Jump a b v w).2 = true → (scalar_Branch a b true (scalar_Of v) (scalar_Of w)).2.2 = (word_Jump a b v w).1 ∧ (scalar_Branch a b false (scalar_Of v) (scalar_Of w)).2.2 = !(word_Jump a b v w).1 := fun h => by
    rw [Branch_Of (Jump_ok.1 h), Branch_Of (Jump_ok.1 h)]
    cases (word_Jump a b v w).1 <;> exact ⟨rfl, rfl⟩
  have hn : ¬ (word_Jump a b v w).2 = true → (scalar_Branch a b true (scalar_Of v) (scalar_Of w)).2.2 = true ∧ (scalar_Branch a b false (scalar_Of v) (scalar_Of w)).2.2 = true := fun h => by
    have hx : ¬ isJ a := fun h' => h (Jump_ok.2 h')
    rw [Branch_none hx, Branch_none hx]
    exact ⟨rfl, rfl⟩
  have hA : (word_Alu a b v w).2 = true → scalar_Alu a b (scalar_Of v) (scalar_Of w) = scalar_Of (word_Alu a b v w).1 := fun h => Alu_Of (word_ok h) hv hw
  generalize scalar_Alu a b (scalar_Of v) (scalar_Of w) = X at *
  generalize scalar_Branch a b true (scalar_Of v) (scalar_Of w) = P at *
  generalize scalar_Branch a b false (scalar_Of v) (scalar_Of w) = Q at *
  by_cases o : (word_Alu a b v w).2 = true
  · rw [hA o]
    by_cases j : (word_Jump a b v w).2 = true
    · obtain ⟨p, q⟩ := hj j
      rw [p, q]
      cases (word_Jump a b v w).1 <;> simp [o, j]
    · obtain ⟨p, q⟩ := hn j
      simp [o, j, p, q]
  · by_cases j : (word_Jump a b v w).2 = true
    · obtain ⟨p, q⟩ := hj j
      rw [p, q]
      cases (word_Jump a b v w).1 <;> simp [o, j]
    · obtain ⟨p, q⟩ := hn j
      simp [o, j, p, q]
/-! ### What the printed texts ask -/
theorem ok_with {c : Sc} {e : Int} (h : okSc c = true) (he : W64 e) : okSc (lockgatelaw05_with c e) = true := decide_eq_true (with_props (of_decide_eq_true h) he).1
theorem ok_of {n : Int} (h : W64 n) : okSc (scalar_Of n) = true := decide_eq_true (Of_V h)
theorem nn_of {n : Int} (h : W64 n) : decide (0 ≤ n) = true := decide_eq_true h.1
end Go.Proofs.T
