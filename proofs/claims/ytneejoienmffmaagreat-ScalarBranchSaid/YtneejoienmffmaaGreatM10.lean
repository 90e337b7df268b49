/-
  Plain laws: what a jump teaches of scalars is sound.
-/
import Derived.Test.YtneejoienmffmaaGreatM9
set_option linter.unusedVariables false
set_option maxRecDepth 100000
namespace Go.Proofs.T
open Go Go.Proofs Go.Proofs.SX
abbrev I64 (x : Int) : Prop := -9223372036854775808 ≤ x ∧ x < 9223372036854775808
theorem ite_of {α : Type} {P : α → Prop} {c : Prop} [Decidable c] {x y : α} (h1 : c → P x) (h2 : ¬ c → P y) : P (if c then x else y) := by
  by_cases h : c
  · rw [if_pos h]; exact h1 h
  · rw [if_neg h]; exact h2 h
/-! ### less -/
theorem belowU {alo ahi blo bhi : Int} {same : Bool} (h1 : W64 alo) (h2 : W64 ahi) (h3 : W64 blo) (h4 : W64 bhi) :
    W64 (scalar_below_uint64 alo ahi blo bhi 0 18446744073709551615 same).1 ∧ W64 (scalar_below_uint64 alo ahi blo bhi 0 18446744073709551615 same).2.1 ∧
    ((scalar_below_uint64 alo ahi blo bhi 0 18446744073709551615 same).2.2 = true → (scalar_below_uint64 alo ahi blo bhi 0 18446744073709551615 same).1 ≤ ahi ∧ blo ≤ (scalar_below_uint64 alo ahi blo bhi 0 18446744073709551615 same).2.1) ∧
    (∀ x y, alo ≤ x → x ≤ ahi → blo ≤ y → y ≤ bhi → (if same = true then x ≤ y else x < y) → (scalar_below_uint64 alo ahi blo bhi 0 18446744073709551615 same).2.2 = true ∧ x ≤ (scalar_below_uint64 alo ahi blo bhi 0 18446744073709551615 same).1 ∧ (scalar_below_uint64 alo ahi blo bhi 0 18446744073709551615 same).2.1 ≤ y) := by
  unfold scalar_below_uint64
  cases same
  · rw [if_neg Bool.false_ne_true]
    by_cases c1 : bhi = 0
    · rw [if_pos c1]
      refine ⟨by decide, by decide, (fun h => by cases h), fun x y a1 a2 a3 a4 a5 => ?_⟩
      simp only [Bool.false_eq_true, if_false] at a5; omega
    · rw [if_neg c1]
      by_cases c2 : alo = 18446744073709551615
      · rw [if_pos c2]
        refine ⟨by decide, by decide, (fun h => by cases h), fun x y a1 a2 a3 a4 a5 => ?_⟩
        simp only [Bool.false_eq_true, if_false] at a5; omega
      · rw [if_neg c2, wrap_u64_id (by omega) (by omega), wrap_u64_id (by omega) (by omega)]
        refine ⟨?_, ?_, ?_, ?_⟩
        · dsimp only; split <;> omega
        · dsimp only; split <;> omega
        · intro h
          dsimp only
          constructor <;> split <;> omega
        · intro x y a1 a2 a3 a4 a5
          simp only [Bool.false_eq_true, if_false] at a5
          refine ⟨decide_eq_true (by omega), ?_, ?_⟩
          · dsimp only; split <;> omega
          · dsimp only; split <;> omega
  · rw [if_pos rfl]
    refine ⟨?_, ?_, ?_, ?_⟩
    · dsimp only; split <;> omega
    · dsimp only; split <;> omega
    · intro h
      dsimp only
      constructor <;> split <;> omega
    · intro x y a1 a2 a3 a4 a5
      simp only [if_true] at a5
      refine ⟨decide_eq_true (by omega), ?_, ?_⟩
      · dsimp only; split <;> omega
      · dsimp only; split <;> omega
theorem belowS {alo ahi blo bhi : Int} {same : Bool} (h1 : I64 alo) (h2 : I64 ahi) (h3 : I64 blo) (h4 : I64 bhi) :
    I64 (scalar_below_int64 alo ahi blo bhi (-9223372036854775808) 9223372036854775807 same).1 ∧ I64 (scalar_below_int64 alo ahi blo bhi (-9223372036854775808) 9223372036854775807 same).2.1 ∧
    ((scalar_below_int64 alo ahi blo bhi (-9223372036854775808) 9223372036854775807 same).2.2 = true → (scalar_below_int64 alo ahi blo bhi (-9223372036854775808) 9223372036854775807 same).1 ≤ ahi ∧ blo ≤ (scalar_below_int64 alo ahi blo bhi (-9223372036854775808) 9223372036854775807 same).2.1) ∧
    (∀ x y, alo ≤ x → x ≤ ahi → blo ≤ y → y ≤ bhi → (if same = true then x ≤ y else x < y) → (scalar_below_int64 alo ahi blo bhi (-9223372036854775808) 9223372036854775807 same).2.2 = true ∧ x ≤ (scalar_below_int64 alo ahi blo bhi (-9223372036854775808) 9223372036854775807 same).1 ∧ (scalar_below_int64 alo ahi blo bhi (-9223372036854775808) 9223372036854775807 same).2.1 ≤ y) := by
  unfold scalar_below_int64
  cases same
  · rw [if_neg Bool.false_ne_true]
    by_cases c1 : bhi = -9223372036854775808
    · rw [if_pos c1]
      refine ⟨by decide, by decide, (fun h => by cases h), fun x y a1 a2 a3 a4 a5 => ?_⟩
      simp only [Bool.false_eq_true, if_false] at a5; omega
    · rw [if_neg c1]
      by_cases c2 : alo = 9223372036854775807
      · rw [if_pos c2]
        refine ⟨by decide, by decide, (fun h => by cases h), fun x y a1 a2 a3 a4 a5 => ?_⟩
        simp only [Bool.false_eq_true, if_false] at a5; omega
      · rw [if_neg c2, wrap_i64_id (by omega) (by omega), wrap_i64_id (by omega) (by omega)]
        refine ⟨?_, ?_, ?_, ?_⟩
        · dsimp only; split <;> omega
        · dsimp only; split <;> omega
        · intro h
          dsimp only
          constructor <;> split <;> omega
        · intro x y a1 a2 a3 a4 a5
          simp only [Bool.false_eq_true, if_false] at a5
          refine ⟨decide_eq_true (by omega), ?_, ?_⟩
          · dsimp only; split <;> omega
          · dsimp only; split <;> omega
  · rw [if_pos rfl]
    refine ⟨?_, ?_, ?_, ?_⟩
    · dsimp only; split <;> omega
    · dsimp only; split <;> omega
    · intro h
      dsimp only
      constructor <;> split <;> omega
    · intro x y a1 a2 a3 a4 a5
      simp only [if_true] at a5
      refine ⟨decide_eq_true (by omega), ?_, ?_⟩
      · dsimp only; split <;> omega
      · dsimp only; split <;> omega
/-- What is learnt of two: that it is of the kind, within, and holds. -/
structure Learnt (c d p q : Sc) (ok : Bool) : Prop where
  vp : VSc p
  vq : VSc q
  wp : ok = true → scalar_Within p c = true ∧ Go.bits .and .u64 p.t.v p.t.m = 0
  wq : ok = true → scalar_Within q d = true ∧ Go.bits .and .u64 q.t.v q.t.m = 0
def Holds2 (p q : Sc) (ok : Bool) (v w : Int) : Prop := ok = true ∧ Inx p v ∧ Inx q w
/-- A number's order, by a sign or without. -/
def ord (sg : Bool) (v : Int) : Int := if sg = true then IntKind.i64.wrap v else v
theorem less_learnt {c d : Sc} {sg same : Bool} (hc : VSc c) (hd : VSc d) (mc : MayP c) (md : MayP d) :
    Learnt c d (scalar_less c d sg same).1 (scalar_less c d sg same).2.1 (scalar_less c d sg same).2.2 := by
  have u := belowU (same := same) hc.2.1.1 hc.2.1.2 hd.2.1.1 hd.2.1.2
  have s := belowS (same := same) hc.2.2.1 hc.2.2.2 hd.2.2.1 hd.2.2.2
  unfold scalar_less
  cases sg
  · rw [if_neg Bool.false_ne_true]
    refine ⟨⟨hc.1, ⟨hc.2.1.1, u.1⟩, hc.2.2⟩, ⟨hd.1, ⟨u.2.1, hd.2.1.2⟩, hd.2.2⟩, fun h => ⟨?_, mc.1⟩, fun h => ⟨?_, md.1⟩⟩
    · rw [Within_iff]
      exact ⟨TW_refl hc.1 mc.1, ⟨Int.le_refl _, (u.2.2.1 h).1⟩, Int.le_refl _, Int.le_refl _⟩
    · rw [Within_iff]
      exact ⟨TW_refl hd.1 md.1, ⟨(u.2.2.1 h).2, Int.le_refl _⟩, Int.le_refl _, Int.le_refl _⟩
  · rw [if_pos rfl]
    refine ⟨⟨hc.1, hc.2.1, hc.2.2.1, s.1⟩, ⟨hd.1, hd.2.1, s.2.1, hd.2.2.2⟩, fun h => ⟨?_, mc.1⟩, fun h => ⟨?_, md.1⟩⟩
    · rw [Within_iff]
      exact ⟨TW_refl hc.1 mc.1, ⟨Int.le_refl _, Int.le_refl _⟩, Int.le_refl _, (s.2.2.1 h).1⟩
    · rw [Within_iff]
      exact ⟨TW_refl hd.1 md.1, ⟨Int.le_refl _, Int.le_refl _⟩, (s.2.2.1 h).2, Int.le_refl _⟩
theorem less_in {c d : Sc} {sg same : Bool} {v w : Int} (hc : VSc c) (hd : VSc d) (ic : Inx c v) (id : Inx d w) (h : if same = true then ord sg v ≤ ord sg w else ord sg v < ord sg w) :
    Holds2 (scalar_less c d sg same).1 (scalar_less c d sg same).2.1 (scalar_less c d sg same).2.2 v w := by
  unfold scalar_less
  cases sg
  · rw [if_neg Bool.false_ne_true]
    have u := (belowU (same := same) hc.2.1.1 hc.2.1.2 hd.2.1.1 hd.2.1.2).2.2.2 v w ic.2.1.1 ic.2.1.2 id.2.1.1 id.2.1.2 h
    exact ⟨u.1, ⟨ic.1, ⟨ic.2.1.1, u.2.1⟩, ic.2.2⟩, id.1, ⟨u.2.2, id.2.1.2⟩, id.2.2⟩
  · rw [if_pos rfl]
    have s := (belowS (same := same) hc.2.2.1 hc.2.2.2 hd.2.2.1 hd.2.2.2).2.2.2 _ _ ic.2.2.1 ic.2.2.2 id.2.2.1 id.2.2.2 h
    exact ⟨s.1, ⟨ic.1, ic.2.1, ic.2.2.1, s.2.1⟩, id.1, id.2.1, s.2.2, id.2.2.2⟩
/-! ### without -/
structure Turned (c p : Sc) (ok : Bool) : Prop where
  v : VSc p
  w : scalar_Within p c = true
  m : Go.bits .and .u64 p.t.v p.t.m = 0
abbrev TP (c : Sc) (r : Sc × Bool) : Prop := Turned c r.1 r.2
theorem without_turned {c : Sc} {n : Int} (hc : VSc c) (mc : MayP c) : Turned c (scalar_without c n).1 (scalar_without c n).2 := by
  have base : Turned c c true := ⟨hc, Within_refl hc mc, mc.1⟩
  have mk : ∀ (ulo uhi slo shi : Int), W64 ulo → W64 uhi → I64 slo → I64 shi → c.u.lo ≤ ulo → uhi ≤ c.u.hi → c.s.lo ≤ slo → shi ≤ c.s.hi → Turned c ⟨c.t, ⟨ulo, uhi⟩, ⟨slo, shi⟩⟩ true := fun ulo uhi slo shi a1 a2 a3 a4 a5 a6 a7 a8 =>
    ⟨⟨hc.1, ⟨a1, a2⟩, a3, a4⟩, by rw [Within_iff]; exact ⟨TW_refl hc.1 mc.1, ⟨a5, a6⟩, a7, a8⟩, mc.1⟩
  have U := hc.2.1
  have S := hc.2.2
  have M1 := mc.2.1
  have M2 := mc.2.2
  have hs := wraps_in (x := n)
  unfold VUs at U
  unfold VSs at S
  unfold scalar_without span_UOf span_SOf
  show TP c _
  refine ite_of (P := TP c) (fun _ => ⟨hc, Within_refl hc mc, mc.1⟩) (fun n1 => ?_)
  refine ite_of (P := TP c) (fun _ => ⟨hc, Within_refl hc mc, mc.1⟩) (fun n2 => ?_)
  simp only [Bool.and_eq_true, beq_iff_eq, not_and] at n1 n2
  have sl : IntKind.i64.wrap n = c.s.lo → I64 (IntKind.i64.wrap (c.s.lo + 1)) ∧ IntKind.i64.wrap (c.s.lo + 1) = c.s.lo + 1 := fun h => by
    have := n2 h.symm
    rw [wrap_i64_id (by omega) (by omega)]; unfold I64; omega
  have sh : ¬ IntKind.i64.wrap n = c.s.lo → IntKind.i64.wrap n = c.s.hi → I64 (IntKind.i64.wrap (c.s.hi - 1)) ∧ IntKind.i64.wrap (c.s.hi - 1) = c.s.hi - 1 := fun h h' => by
    rw [wrap_i64_id (by omega) (by omega)]; unfold I64; omega
  have ul : n = c.u.lo → W64 (IntKind.u64.wrap (c.u.lo + 1)) ∧ IntKind.u64.wrap (c.u.lo + 1) = c.u.lo + 1 := fun h => by
    have := n1 h.symm
    rw [wrap_u64_id (by omega) (by omega)]; unfold W64; omega
  have uh : ¬ n = c.u.lo → n = c.u.hi → W64 (IntKind.u64.wrap (c.u.hi - 1)) ∧ IntKind.u64.wrap (c.u.hi - 1) = c.u.hi - 1 := fun h h' => by
    rw [wrap_u64_id (by omega) (by omega)]; unfold W64; omega
  refine ite_of (P := TP c) (fun e1 => ?_) (fun e1 => ?_)
  · have k1 := ul e1
    refine ite_of (P := TP c) (fun e2 => ?_) (fun e2 => ite_of (P := TP c) (fun e3 => ?_) (fun e3 => ?_))
    · have k2 := sl e2
      exact mk (IntKind.u64.wrap (c.u.lo + 1)) c.u.hi (IntKind.i64.wrap (c.s.lo + 1)) c.s.hi k1.1 U.2 k2.1 S.2 (by omega) (by omega) (by omega) (by omega)
    · have k2 := sh e2 e3
      exact mk (IntKind.u64.wrap (c.u.lo + 1)) c.u.hi c.s.lo (IntKind.i64.wrap (c.s.hi - 1)) k1.1 U.2 S.1 k2.1 (by omega) (by omega) (by omega) (by omega)
    · exact mk (IntKind.u64.wrap (c.u.lo + 1)) c.u.hi c.s.lo c.s.hi k1.1 U.2 S.1 S.2 (by omega) (by omega) (by omega) (by omega)
  · refine ite_of (P := TP c) (fun e0 => ?_) (fun e0 => ?_)
    · have k1 := uh e1 e0
      refine ite_of (P := TP c) (fun e2 => ?_) (fun e2 => ite_of (P := TP c) (fun e3 => ?_) (fun e3 => ?_))
      · have k2 := sl e2
        exact mk c.u.lo (IntKind.u64.wrap (c.u.hi - 1)) (IntKind.i64.wrap (c.s.lo + 1)) c.s.hi U.1 k1.1 k2.1 S.2 (by omega) (by omega) (by omega) (by omega)
      · have k2 := sh e2 e3
        exact mk c.u.lo (IntKind.u64.wrap (c.u.hi - 1)) c.s.lo (IntKind.i64.wrap (c.s.hi - 1)) U.1 k1.1 S.1 k2.1 (by omega) (by omega) (by omega) (by omega)
      · exact mk c.u.lo (IntKind.u64.wrap (c.u.hi - 1)) c.s.lo c.s.hi U.1 k1.1 S.1 S.2 (by omega) (by omega) (by omega) (by omega)
    · refine ite_of (P := TP c) (fun e2 => ?_) (fun e2 => ite_of (P := TP c) (fun e3 => ?_) (fun e3 => ?_))
      · have k2 := sl e2
        exact mk c.u.lo c.u.hi (IntKind.i64.wrap (c.s.lo + 1)) c.s.hi U.1 U.2 k2.1 S.2 (by omega) (by omega) (by omega) (by omega)
      · have k2 := sh e2 e3
        exact mk c.u.lo c.u.hi c.s.lo (IntKind.i64.wrap (c.s.hi - 1)) U.1 U.2 S.1 k2.1 (by omega) (by omega) (by omega) (by omega)
      · exact base
theorem wraps_inj {x y : Int} (hx : W64 x) (hy : W64 y) (h : IntKind.i64.wrap x = IntKind.i64.wrap y) : x = y := by
  rw [← wrapu_wraps hx, ← wrapu_wraps hy, h]
abbrev IP (x : Int) (r : Sc × Bool) : Prop := r.2 = true ∧ Inx r.1 x
theorem without_in {c : Sc} {n x : Int} (hc : VSc c) (mc : MayP c) (hn : W64 n) (hx : W64 x) (ic : Inx c x) (hne : x ≠ n) : (scalar_without c n).2 = true ∧ Inx (scalar_without c n).1 x := by
  have hw : IntKind.i64.wrap x ≠ IntKind.i64.wrap n := fun h => hne (wraps_inj hx hn h)
  obtain ⟨i1, i2, i3⟩ := ic
  have U := hc.2.1
  have S := hc.2.2
  have M1 := mc.2.1
  have M2 := mc.2.2
  unfold VUs at U
  unfold VSs at S
  unfold inU at i2
  unfold inS at i3
  have mk : ∀ (ulo uhi slo shi : Int), ulo ≤ x → x ≤ uhi → slo ≤ IntKind.i64.wrap x → IntKind.i64.wrap x ≤ shi → (true = true ∧ Inx ⟨c.t, ⟨ulo, uhi⟩, ⟨slo, shi⟩⟩ x) := fun ulo uhi slo shi a1 a2 a3 a4 => ⟨rfl, i1, ⟨a1, a2⟩, a3, a4⟩
  unfold scalar_without span_UOf span_SOf
  show IP x _
  refine ite_of (P := IP x) (fun n1 => ?_) (fun n1 => ?_)
  · exfalso
    simp only [Bool.and_eq_true, beq_iff_eq] at n1
    omega
  refine ite_of (P := IP x) (fun n2 => ?_) (fun n2 => ?_)
  · exfalso
    simp only [Bool.and_eq_true, beq_iff_eq] at n2
    omega
  simp only [Bool.and_eq_true, beq_iff_eq, not_and] at n1 n2
  have sl : IntKind.i64.wrap n = c.s.lo → IntKind.i64.wrap (c.s.lo + 1) = c.s.lo + 1 := fun h => by
    have := n2 h.symm
    rw [wrap_i64_id (by omega) (by omega)]
  have sh : ¬ IntKind.i64.wrap n = c.s.lo → IntKind.i64.wrap n = c.s.hi → IntKind.i64.wrap (c.s.hi - 1) = c.s.hi - 1 := fun h h' => by
    rw [wrap_i64_id (by omega) (by omega)]
  have ul : n = c.u.lo → IntKind.u64.wrap (c.u.lo + 1) = c.u.lo + 1 := fun h => by
    have := n1 h.symm
    rw [wrap_u64_id (by omega) (by omega)]
  have uh : ¬ n = c.u.lo → n = c.u.hi → IntKind.u64.wrap (c.u.hi - 1) = c.u.hi - 1 := fun h h' => by
    rw [wrap_u64_id (by omega) (by omega)]
  refine ite_of (P := IP x) (fun e1 => ?_) (fun e1 => ?_)
  · have k1 := ul e1
    refine ite_of (P := IP x) (fun e2 => ?_) (fun e2 => ite_of (P := IP x) (fun e3 => ?_) (fun e3 => ?_))
    · have k2 := sl e2
      exact mk (IntKind.u64.wrap (c.u.lo + 1)) c.u.hi (IntKind.i64.wrap (c.s.lo + 1)) c.s.hi (by omega) (by omega) (by omega) (by omega)
    · have k2 := sh e2 e3
      exact mk (IntKind.u64.wrap (c.u.lo + 1)) c.u.hi c.s.lo (IntKind.i64.wrap (c.s.hi - 1)) (by omega) (by omega) (by omega) (by omega)
    · exact mk (IntKind.u64.wrap (c.u.lo + 1)) c.u.hi c.s.lo c.s.hi (by omega) (by omega) (by omega) (by omega)
  · refine ite_of (P := IP x) (fun e0 => ?_) (fun e0 => ?_)
    · have k1 := uh e1 e0
      refine ite_of (P := IP x) (fun e2 => ?_) (fun e2 => ite_of (P := IP x) (fun e3 => ?_) (fun e3 => ?_))
      · have k2 := sl e2
        exact mk c.u.lo (IntKind.u64.wrap (c.u.hi - 1)) (IntKind.i64.wrap (c.s.lo + 1)) c.s.hi (by omega) (by omega) (by omega) (by omega)
      · have k2 := sh e2 e3
        exact mk c.u.lo (IntKind.u64.wrap (c.u.hi - 1)) c.s.lo (IntKind.i64.wrap (c.s.hi - 1)) (by omega) (by omega) (by omega) (by omega)
      · exact mk c.u.lo (IntKind.u64.wrap (c.u.hi - 1)) c.s.lo c.s.hi (by omega) (by omega) (by omega) (by omega)
    · refine ite_of (P := IP x) (fun e2 => ?_) (fun e2 => ite_of (P := IP x) (fun e3 => ?_) (fun e3 => ?_))
      · have k2 := sl e2
        exact mk c.u.lo c.u.hi (IntKind.i64.wrap (c.s.lo + 1)) c.s.hi (by omega) (by omega) (by omega) (by omega)
      · have k2 := sh e2 e3
        exact mk c.u.lo c.u.hi c.s.lo (IntKind.i64.wrap (c.s.hi - 1)) (by omega) (by omega) (by omega) (by omega)
      · exact ⟨rfl, i1, i2, i3⟩
/-! ### clear -/
theorem not_bv (n : BitVec 64) : Go.bits .xor .u64 18446744073709551615 (n.toNat : Int) = ((~~~n).toNat : Int) := by
  have e : (18446744073709551615 : Int) = ((BitVec.allOnes 64).toNat : Int) := by decide
  rw [e, xor_u64, BitVec.allOnes_xor]
theorem clear_tn {t : Tn} {n : Int} (ht : VTn t) (hm : Go.bits .and .u64 t.v t.m = 0) (hn : W64 n) :
    VTn (tnum_Meet t (⟨0, (Go.bits .xor .u64 18446744073709551615 n)⟩ : Tn)).1 ∧ Go.bits .and .u64 (tnum_Meet t (⟨0, (Go.bits .xor .u64 18446744073709551615 n)⟩ : Tn)).1.v (tnum_Meet t (⟨0, (Go.bits .xor .u64 18446744073709551615 n)⟩ : Tn)).1.m = 0 ∧
    ((tnum_Meet t (⟨0, (Go.bits .xor .u64 18446744073709551615 n)⟩ : Tn)).2 = true → tnum_Within (tnum_Meet t (⟨0, (Go.bits .xor .u64 18446744073709551615 n)⟩ : Tn)).1 t = true) ∧
    (∀ x, W64 x → tnum_In t x = true → Go.bits .and .u64 x n = 0 → (tnum_Meet t (⟨0, (Go.bits .xor .u64 18446744073709551615 n)⟩ : Tn)).2 = true ∧ tnum_In (tnum_Meet t (⟨0, (Go.bits .xor .u64 18446744073709551615 n)⟩ : Tn)).1 x = true) := by
  obtain ⟨n, rfl⟩ := exists_bv hn.1 hn.2
  rw [not_bv]
  have e : (⟨0, ((~~~n).toNat : Int)⟩ : Tn) = tb 0#64 (~~~n) := rfl
  rw [e]
  have hz : Go.bits .and .u64 (tb 0#64 (~~~n)).v (tb 0#64 (~~~n)).m = 0 := by
    rw [tb_v, tb_m, and_u64, zero_bv, toNat_inj_int]; simp
  refine ⟨Meet_V ht (tb_V _ _), Meet_may ht (tb_V _ _), fun h => Meet_within ht (tb_V _ _) hm hz h, fun x hx hi hxn => ?_⟩
  refine Meet_in ht (tb_V _ _) hx.1 hx.2 hi ?_
  obtain ⟨x, rfl⟩ := exists_bv hx.1 hx.2
  rw [and_u64, zero_bv, toNat_inj_int] at hxn
  rw [in_tb]
  unfold TT.In
  rw [BitVec.not_not]; exact hxn
theorem clear_V' {c : Sc} {n : Int} (hc : VSc c) (mc : MayP c) (hn : W64 n) : VSc (scalar_clear c n).1 ∧ ((scalar_clear c n).2 = true → scalar_Within (scalar_clear c n).1 c = true ∧ Go.bits .and .u64 (scalar_clear c n).1.t.v (scalar_clear c n).1.t.m = 0) := by
  have k := clear_tn hc.1 mc.1 hn
  refine ⟨⟨k.1, hc.2.1, hc.2.2⟩, fun h => ⟨?_, k.2.1⟩⟩
  rw [Within_iff]
  exact ⟨k.2.2.1 h, ⟨Int.le_refl _, Int.le_refl _⟩, Int.le_refl _, Int.le_refl _⟩
theorem clear_in {c : Sc} {n x : Int} (hc : VSc c) (mc : MayP c) (hn : W64 n) (hx : W64 x) (ic : Inx c x) (h : Go.bits .and .u64 x n = 0) : (scalar_clear c n).2 = true ∧ Inx (scalar_clear c n).1 x := by
  have k := (clear_tn hc.1 mc.1 hn).2.2.2 x hx ic.1 h
  exact ⟨k.1, k.2, ic.2.1, ic.2.2⟩
/-! ### meet -/
theorem Meet_comm (a b : Tn) (ha : VTn a) (hb : VTn b) : tnum_Meet a b = tnum_Meet b a := by
  obtain ⟨v, m, rfl⟩ := tb_of ha
  obtain ⟨v', m', rfl⟩ := tb_of hb
  rw [Meet_tb, Meet_tb, BitVec.xor_comm v, BitVec.or_comm m, BitVec.or_comm v, BitVec.and_comm m]
theorem UMeet_subr {a b : Us} (h : (span_UMeet a b).2 = true) : b.lo ≤ (span_UMeet a b).1.lo ∧ (span_UMeet a b).1.hi ≤ b.hi := by
  rw [UMeet_eq] at h ⊢
  by_cases hc : (if b.lo > a.lo then b.lo else a.lo) ≤ (if b.hi < a.hi then b.hi else a.hi)
  · rw [if_pos hc]
    dsimp only
    constructor <;> split <;> omega
  · rw [if_neg hc] at h; cases h
theorem SMeet_subr {a b : Ss} (h : (span_SMeet a b).2 = true) : b.lo ≤ (span_SMeet a b).1.lo ∧ (span_SMeet a b).1.hi ≤ b.hi := by
  rw [SMeet_eq] at h ⊢
  by_cases hc : (if b.lo > a.lo then b.lo else a.lo) ≤ (if b.hi < a.hi then b.hi else a.hi)
  · rw [if_pos hc]
    dsimp only
    constructor <;> split <;> omega
  · rw [if_neg hc] at h; cases h
theorem meet_learnt {c d : Sc} (hc : VSc c) (hd : VSc d) (mc : MayP c) (md : MayP d) : Learnt c d (scalar_meet c d).1 (scalar_meet c d).1 (scalar_meet c d).2 := by
  have hV : VSc (scalar_meet c d).1 := ⟨Meet_V hc.1 hd.1, UMeet_V hc.2.1 hd.2.1, SMeet_V hc.2.2 hd.2.2⟩
  have hM : Go.bits .and .u64 (scalar_meet c d).1.t.v (scalar_meet c d).1.t.m = 0 := Meet_may hc.1 hd.1
  have hok : (scalar_meet c d).2 = true → (tnum_Meet c.t d.t).2 = true ∧ (span_UMeet c.u d.u).2 = true ∧ (span_SMeet c.s d.s).2 = true := fun h => by
    unfold scalar_meet at h
    simpa only [Bool.and_eq_true, beq_iff_eq] using h
  refine ⟨hV, hV, fun h => ⟨?_, hM⟩, fun h => ⟨?_, hM⟩⟩
  · obtain ⟨k1, k2, k3⟩ := hok h
    have u := UMeet_sub k2
    have s := SMeet_sub k3
    rw [Within_iff]
    exact ⟨Meet_within hc.1 hd.1 mc.1 md.1 k1, ⟨u.2.1, u.2.2.1⟩, s.2.1, s.2.2.1⟩
  · obtain ⟨k1, k2, k3⟩ := hok h
    rw [Within_iff]
    refine ⟨?_, UMeet_subr k2, SMeet_subr k3⟩
    show tnum_Within (tnum_Meet c.t d.t).1 d.t = true
    rw [Meet_comm _ _ hc.1 hd.1] at k1 ⊢
    exact Meet_within hd.1 hc.1 md.1 mc.1 k1
theorem meet_inx {c d : Sc} {v : Int} (hc : VSc c) (hd : VSc d) (hv : W64 v) (ic : Inx c v) (id : Inx d v) : (scalar_meet c d).2 = true ∧ Inx (scalar_meet c d).1 v := by
  have t := Meet_in hc.1 hd.1 hv.1 hv.2 ic.1 id.1
  have u := UMeet_sound ic.2.1 id.2.1
  have s := SMeet_sound ic.2.2 id.2.2
  refine ⟨?_, t.2, u.2, s.2⟩
  unfold scalar_meet
  simp only [t.1, u.1, s.1]; rfl
/-! ### each -/
def eachP (f : Sc → Int → Sc × Bool) (c d : Sc) : Sc × Sc × Bool :=
  if (scalar_Is d).2 = true then (if (scalar_Is c).2 = true then (if (f c (scalar_Is d).1).2 = true then ((f c (scalar_Is d).1).1, (f d (scalar_Is c).1).1, (f d (scalar_Is c).1).2) else ((f c (scalar_Is d).1).1, (f d (scalar_Is c).1).1, false))
    else if (f c (scalar_Is d).1).2 = true then ((f c (scalar_Is d).1).1, d, true) else ((f c (scalar_Is d).1).1, d, false))
  else if (scalar_Is c).2 = true then (c, (f d (scalar_Is c).1).1, (f d (scalar_Is c).1).2)
  else (c, d, true)
abbrev WP1 (r : Int × Bool) : Prop := W64 r.1
theorem Is_W {x : Sc} (h : VSc x) : W64 (scalar_Is x).1 := by
  unfold scalar_Is
  show WP1 _
  refine ite_of (P := WP1) (fun _ => h.2.1.1) (fun _ => ite_of (P := WP1) (fun _ => h.1.1) (fun _ => ite_of (P := WP1) (fun _ => ⟨wrapu_nn, wrapu_lt⟩) (fun _ => ?_)))
  show W64 0
  decide
abbrev LTP (c d : Sc) (r : Sc × Sc × Bool) : Prop := Learnt c d r.1 r.2.1 r.2.2
abbrev H2P (v w : Int) (r : Sc × Sc × Bool) : Prop := Holds2 r.1 r.2.1 r.2.2 v w
theorem each_learnt {f : Sc → Int → Sc × Bool} {c d : Sc} (hc : VSc c) (hd : VSc d) (mc : MayP c) (md : MayP d)
    (hf : ∀ x n, VSc x → MayP x → W64 n → VSc (f x n).1 ∧ ((f x n).2 = true → scalar_Within (f x n).1 x = true ∧ Go.bits .and .u64 (f x n).1.t.v (f x n).1.t.m = 0)) :
    Learnt c d (eachP f c d).1 (eachP f c d).2.1 (eachP f c d).2.2 := by
  have fc := hf c _ hc mc (Is_W hd)
  have fd := hf d _ hd md (Is_W hc)
  have rc : scalar_Within c c = true ∧ Go.bits .and .u64 c.t.v c.t.m = 0 := ⟨Within_refl hc mc, mc.1⟩
  have rd : scalar_Within d d = true ∧ Go.bits .and .u64 d.t.v d.t.m = 0 := ⟨Within_refl hd md, md.1⟩
  unfold eachP
  show LTP c d _
  refine ite_of (P := LTP c d) (fun _ => ite_of (P := LTP c d) (fun _ => ite_of (P := LTP c d) (fun h => ?_) (fun h => ?_)) (fun _ => ite_of (P := LTP c d) (fun h => ?_) (fun h => ?_))) (fun _ => ite_of (P := LTP c d) (fun _ => ?_) (fun _ => ?_))
  · exact ⟨fc.1, fd.1, fun _ => fc.2 h, fun h => fd.2 h⟩
  · exact ⟨fc.1, fd.1, fun h => (by cases h), fun h => (by cases h)⟩
  · exact ⟨fc.1, hd, fun _ => fc.2 h, fun _ => rd⟩
  · exact ⟨fc.1, hd, fun h => (by cases h), fun h => (by cases h)⟩
  · exact ⟨hc, fd.1, fun _ => rc, fun h => fd.2 h⟩
  · exact ⟨hc, hd, fun _ => rc, fun _ => rd⟩
theorem each_in {f : Sc → Int → Sc × Bool} {c d : Sc} {v w : Int} (hc : VSc c) (hd : VSc d) (hv : W64 v) (hw : W64 w) (ic : Inx c v) (id : Inx d w)
    (h1 : (f c w).2 = true ∧ Inx (f c w).1 v) (h2 : (f d v).2 = true ∧ Inx (f d v).1 w) : Holds2 (eachP f c d).1 (eachP f c d).2.1 (eachP f c d).2.2 v w := by
  unfold eachP
  show H2P v w _
  refine ite_of (P := H2P v w) (fun b1 => ite_of (P := H2P v w) (fun b2 => ?_) (fun _ => ?_)) (fun _ => ite_of (P := H2P v w) (fun b2 => ?_) (fun _ => ?_))
  · rw [Is_sound hd hw id b1, Is_sound hc hv ic b2, if_pos h1.1]
    exact ⟨h2.1, h1.2, h2.2⟩
  · rw [Is_sound hd hw id b1, if_pos h1.1]
    exact ⟨rfl, h1.2, id⟩
  · rw [Is_sound hc hv ic b2]
    exact ⟨h2.1, ic, h2.2⟩
  · exact ⟨rfl, ic, id⟩
end Go.Proofs.T
