/-
  Plain laws: ScalarBranches and ScalarSound.
-/
import Derived.Test.YtneejoienmffmaaGreatM10
set_option linter.unusedVariables false
set_option maxRecDepth 100000
namespace Go.Proofs.T
open Go Go.Proofs Go.Proofs.SX
def isJ (k : Int) : Prop := k = 1 ∨ k = 2 ∨ k = 3 ∨ k = 4 ∨ k = 5 ∨ k = 6 ∨ k = 7 ∨ k = 10 ∨ k = 11 ∨ k = 12 ∨ k = 13
def signedJ (k : Int) : Prop := k = 6 ∨ k = 7 ∨ k = 12 ∨ k = 13
abbrev OkB (p : Bool × Bool) : Prop := p.2 = true
abbrev JP1 (k : Int) (p : Bool × Bool) : Prop := p.2 = true → isJ k
theorem Jump_ok {k : Int} {b : Bool} {v w : Int} : (word_Jump k b v w).2 = true ↔ isJ k := by
  constructor
  · intro h
    revert h
    show JP1 k (word_Jump k b v w)
    unfold word_Jump
    repeat' (refine ite_of (P := JP1 k) (fun _ => ?_) (fun _ => ?_))
    all_goals first
      | (intro _; unfold isJ; omega)
      | (intro h; cases h)
  · intro h
    unfold isJ at h
    show OkB (word_Jump k b v w)
    unfold word_Jump
    repeat' (refine ite_of (P := OkB) (fun _ => ?_) (fun _ => ?_))
    all_goals first
      | exact rfl
      | (exfalso; omega)
theorem ordU_pos {v w : Int} : 0 < word_order_uint64 v w ↔ w < v := by unfold word_order_uint64; split <;> (try split) <;> omega
theorem ordU_nn {v w : Int} : 0 ≤ word_order_uint64 v w ↔ w ≤ v := by unfold word_order_uint64; split <;> (try split) <;> omega
theorem ordU_neg {v w : Int} : word_order_uint64 v w < 0 ↔ v < w := by unfold word_order_uint64; split <;> (try split) <;> omega
theorem ordU_np {v w : Int} : word_order_uint64 v w ≤ 0 ↔ v ≤ w := by unfold word_order_uint64; split <;> (try split) <;> omega
theorem ordU_z {v w : Int} : word_order_uint64 v w = 0 ↔ v = w := by unfold word_order_uint64; split <;> (try split) <;> omega
theorem ordS_pos {v w : Int} : 0 < word_order_int64 v w ↔ w < v := by unfold word_order_int64; split <;> (try split) <;> omega
theorem ordS_nn {v w : Int} : 0 ≤ word_order_int64 v w ↔ w ≤ v := by unfold word_order_int64; split <;> (try split) <;> omega
theorem ordS_neg {v w : Int} : word_order_int64 v w < 0 ↔ v < w := by unfold word_order_int64; split <;> (try split) <;> omega
theorem ordS_np {v w : Int} : word_order_int64 v w ≤ 0 ↔ v ≤ w := by unfold word_order_int64; split <;> (try split) <;> omega
/-! ### What learn tells -/
theorem LE1 (t : Bool) (c d : Sc) : scalar_learn 1 t c d = if t = true then ((scalar_meet c d).1, (scalar_meet c d).1, (scalar_meet c d).2) else eachP scalar_without c d := by
  unfold scalar_learn
  rw [if_pos rfl]
  cases t <;> rfl
theorem LE5 (t : Bool) (c d : Sc) : scalar_learn 5 t c d = if t = true then eachP scalar_without c d else ((scalar_meet c d).1, (scalar_meet c d).1, (scalar_meet c d).2) := by
  unfold scalar_learn
  rw [if_neg (by decide), if_neg (by decide), if_neg (by decide), if_neg (by decide), if_pos rfl]
  cases t <;> rfl
theorem LE4 (t : Bool) (c d : Sc) : scalar_learn 4 t c d = if t = true then (c, d, true) else eachP scalar_clear c d := by
  unfold scalar_learn
  rw [if_neg (by decide), if_neg (by decide), if_neg (by decide), if_pos rfl]
  cases t <;> rfl
def cmpL (fl sg same : Bool) (c d : Sc) : Sc × Sc × Bool :=
  if fl = true then ((scalar_less d c sg same).2.1, (scalar_less d c sg same).1, (scalar_less d c sg same).2.2) else ((scalar_less c d sg same).1, (scalar_less c d sg same).2.1, (scalar_less c d sg same).2.2)
theorem LE2 (t : Bool) (c d : Sc) : scalar_learn 2 t c d = cmpL t false (!t) c d := by
  unfold scalar_learn
  rw [if_neg (by decide), if_pos rfl]
  cases t <;> rfl
theorem LE3 (t : Bool) (c d : Sc) : scalar_learn 3 t c d = cmpL t false t c d := by
  unfold scalar_learn
  rw [if_neg (by decide), if_neg (by decide), if_pos rfl]
  cases t <;> rfl
theorem LE6 (t : Bool) (c d : Sc) : scalar_learn 6 t c d = cmpL t true (!t) c d := by
  unfold scalar_learn
  rw [if_neg (by decide), if_neg (by decide), if_neg (by decide), if_neg (by decide), if_neg (by decide), if_pos rfl]
  cases t <;> rfl
theorem LE7 (t : Bool) (c d : Sc) : scalar_learn 7 t c d = cmpL t true t c d := by
  unfold scalar_learn
  rw [if_neg (by decide), if_neg (by decide), if_neg (by decide), if_neg (by decide), if_neg (by decide), if_neg (by decide), if_pos rfl]
  cases t <;> rfl
theorem LE10 (t : Bool) (c d : Sc) : scalar_learn 10 t c d = cmpL (!t) false (!t) c d := by
  unfold scalar_learn
  rw [if_neg (by decide), if_neg (by decide), if_neg (by decide), if_neg (by decide), if_neg (by decide), if_neg (by decide), if_neg (by decide), if_pos rfl]
  cases t <;> rfl
theorem LE11 (t : Bool) (c d : Sc) : scalar_learn 11 t c d = cmpL (!t) false t c d := by
  unfold scalar_learn
  rw [if_neg (by decide), if_neg (by decide), if_neg (by decide), if_neg (by decide), if_neg (by decide), if_neg (by decide), if_neg (by decide), if_neg (by decide), if_pos rfl]
  cases t <;> rfl
theorem LE12 (t : Bool) (c d : Sc) : scalar_learn 12 t c d = cmpL (!t) true (!t) c d := by
  unfold scalar_learn
  rw [if_neg (by decide), if_neg (by decide), if_neg (by decide), if_neg (by decide), if_neg (by decide), if_neg (by decide), if_neg (by decide), if_neg (by decide), if_neg (by decide), if_pos rfl]
  cases t <;> rfl
theorem LE13 (t : Bool) (c d : Sc) : scalar_learn 13 t c d = cmpL (!t) true t c d := by
  unfold scalar_learn
  rw [if_neg (by decide), if_neg (by decide), if_neg (by decide), if_neg (by decide), if_neg (by decide), if_neg (by decide), if_neg (by decide), if_neg (by decide), if_neg (by decide), if_neg (by decide), if_pos rfl]
  cases t <;> rfl
def LT (c d : Sc) (r : Sc × Sc × Bool) : Prop := Learnt c d r.1 r.2.1 r.2.2
def H2 (v w : Int) (r : Sc × Sc × Bool) : Prop := Holds2 r.1 r.2.1 r.2.2 v w
theorem cmp_learnt {fl sg same : Bool} {c d : Sc} (hc : VSc c) (hd : VSc d) (mc : MayP c) (md : MayP d) : LT c d (cmpL fl sg same c d) := by
  cases fl
  · exact less_learnt hc hd mc md
  · have h := less_learnt (sg := sg) (same := same) hd hc md mc
    exact ⟨h.vq, h.vp, h.wq, h.wp⟩
theorem cmp_in {fl sg same : Bool} {c d : Sc} {v w : Int} (hc : VSc c) (hd : VSc d) (ic : Inx c v) (id : Inx d w)
    (h : if fl = true then (if same = true then ord sg w ≤ ord sg v else ord sg w < ord sg v) else (if same = true then ord sg v ≤ ord sg w else ord sg v < ord sg w)) : H2 v w (cmpL fl sg same c d) := by
  cases fl
  · exact less_in hc hd ic id h
  · have k := less_in (sg := sg) (same := same) hd hc id ic h
    exact ⟨k.1, k.2.2, k.2.1⟩
theorem learn_learnt {k : Int} {t : Bool} {c d : Sc} (hk : isJ k) (hc : VSc c) (hd : VSc d) (mc : MayP c) (md : MayP d) : LT c d (scalar_learn k t c d) := by
  have me : LT c d ((scalar_meet c d).1, (scalar_meet c d).1, (scalar_meet c d).2) := meet_learnt hc hd mc md
  have wo : LT c d (eachP scalar_without c d) := each_learnt hc hd mc md fun x n hx mx hn => by
    have h := without_turned (n := n) hx mx
    exact ⟨h.v, fun _ => ⟨h.w, h.m⟩⟩
  have cl : LT c d (eachP scalar_clear c d) := each_learnt hc hd mc md fun x n hx mx hn => clear_V' hx mx hn
  have rc : scalar_Within c c = true ∧ Go.bits .and .u64 c.t.v c.t.m = 0 := ⟨Within_refl hc mc, mc.1⟩
  have rd : scalar_Within d d = true ∧ Go.bits .and .u64 d.t.v d.t.m = 0 := ⟨Within_refl hd md, md.1⟩
  rcases hk with rfl | rfl | rfl | rfl | rfl | rfl | rfl | rfl | rfl | rfl | rfl
  · rw [LE1]; cases t
    · exact wo
    · exact me
  · rw [LE2]; exact cmp_learnt hc hd mc md
  · rw [LE3]; exact cmp_learnt hc hd mc md
  · rw [LE4]; cases t
    · exact cl
    · exact ⟨hc, hd, fun _ => rc, fun _ => rd⟩
  · rw [LE5]; cases t
    · exact me
    · exact wo
  · rw [LE6]; exact cmp_learnt hc hd mc md
  · rw [LE7]; exact cmp_learnt hc hd mc md
  · rw [LE10]; exact cmp_learnt hc hd mc md
  · rw [LE11]; exact cmp_learnt hc hd mc md
  · rw [LE12]; exact cmp_learnt hc hd mc md
  · rw [LE13]; exact cmp_learnt hc hd mc md
theorem dec_bool {p : Prop} [Decidable p] {t : Bool} (h : decide p = t) : if t = true then p else ¬ p := by
  subst h
  by_cases hp : p
  · simp [hp]
  · simp [hp]
theorem learn_in {k : Int} {t : Bool} {c d : Sc} {v w : Int} (hk : isJ k) (hc : VSc c) (hd : VSc d) (mc : MayP c) (md : MayP d) (hv : W64 v) (hw : W64 w) (ic : Inx c v) (id : Inx d w) (hj : (word_Jump k true v w).1 = t) : H2 v w (scalar_learn k t c d) := by
  have me : v = w → H2 v w ((scalar_meet c d).1, (scalar_meet c d).1, (scalar_meet c d).2) := fun h => by
    subst h
    have := meet_inx hc hd hv ic id
    exact ⟨this.1, this.2, this.2⟩
  have wo : v ≠ w → H2 v w (eachP scalar_without c d) := fun h => each_in hc hd hv hw ic id (without_in hc mc hw hv ic h) (without_in hd md hv hw id (Ne.symm h))
  have cl : Go.bits .and .u64 v w = 0 → H2 v w (eachP scalar_clear c d) := fun h => each_in hc hd hv hw ic id (clear_in hc mc hw hv ic h) (clear_in hd md hv hw id (by
    obtain ⟨v, rfl⟩ := exists_bv hv.1 hv.2
    obtain ⟨w, rfl⟩ := exists_bv hw.1 hw.2
    rw [and_u64] at h ⊢
    rwa [BitVec.and_comm]))
  rcases hk with rfl | rfl | rfl | rfl | rfl | rfl | rfl | rfl | rfl | rfl | rfl
  · have hj : ((word_order_uint64 v w) == 0) = t := hj
    rw [LE1]; cases t
    · exact wo (fun h => by rw [beq_eq_false_iff_ne] at hj; exact hj (ordU_z.2 h))
    · exact me (ordU_z.1 (eq_of_beq hj))
  · have hj : decide (0 < word_order_uint64 v w) = t := hj
    rw [LE2]
    refine cmp_in hc hd ic id ?_
    have := dec_bool hj
    cases t <;> simp [ord, ordU_pos] at this ⊢ <;> omega
  · have hj : decide (0 ≤ word_order_uint64 v w) = t := hj
    rw [LE3]
    refine cmp_in hc hd ic id ?_
    have := dec_bool hj
    cases t <;> simp [ord, ordU_nn] at this ⊢ <;> omega
  · have hj : ((Go.bits .and .u64 v w) != 0) = t := hj
    rw [LE4]; cases t
    · exact cl (by simpa using hj)
    · exact ⟨rfl, ic, id⟩
  · have hj : ((word_order_uint64 v w) != 0) = t := hj
    rw [LE5]; cases t
    · exact me (ordU_z.1 (by simpa using hj))
    · exact wo (fun h => by
        have := ordU_z.2 h
        rw [this] at hj; cases hj)
  · have hj : decide (0 < word_order_int64 (IntKind.i64.wrap v) (IntKind.i64.wrap w)) = t := hj
    rw [LE6]
    refine cmp_in hc hd ic id ?_
    have := dec_bool hj
    cases t <;> simp [ord, ordS_pos] at this ⊢ <;> omega
  · have hj : decide (0 ≤ word_order_int64 (IntKind.i64.wrap v) (IntKind.i64.wrap w)) = t := hj
    rw [LE7]
    refine cmp_in hc hd ic id ?_
    have := dec_bool hj
    cases t <;> simp [ord, ordS_nn] at this ⊢ <;> omega
  · have hj : decide (word_order_uint64 v w < 0) = t := hj
    rw [LE10]
    refine cmp_in hc hd ic id ?_
    have := dec_bool hj
    cases t <;> simp [ord, ordU_neg] at this ⊢ <;> omega
  · have hj : decide (word_order_uint64 v w ≤ 0) = t := hj
    rw [LE11]
    refine cmp_in hc hd ic id ?_
    have := dec_bool hj
    cases t <;> simp [ord, ordU_np] at this ⊢ <;> omega
  · have hj : decide (word_order_int64 (IntKind.i64.wrap v) (IntKind.i64.wrap w) < 0) = t := hj
    rw [LE12]
    refine cmp_in hc hd ic id ?_
    have := dec_bool hj
    cases t <;> simp [ord, ordS_neg] at this ⊢ <;> omega
  · have hj : decide (word_order_int64 (IntKind.i64.wrap v) (IntKind.i64.wrap w) ≤ 0) = t := hj
    rw [LE13]
    refine cmp_in hc hd ic id ?_
    have := dec_bool hj
    cases t <;> simp [ord, ordS_np] at this ⊢ <;> omega
/-! ### Branch -/
def lrn (a : Int) (c : Bool) (d e : Sc) : Sc × Sc × Bool :=
  if (scalar_learn a c d e).2.2 = true then (if (scalar_Norm ((scalar_learn a c d e).1)).2 = true then (if (scalar_Norm ((scalar_learn a c d e).2.1)).2 = true then (((scalar_Norm ((scalar_learn a c d e).1)).1), ((scalar_Norm ((scalar_learn a c d e).2.1)).1), true)
    else ((⟨(⟨0, 0⟩ : Tn), (⟨0, 0⟩ : Us), (⟨0, 0⟩ : Ss)⟩ : Sc), (⟨(⟨0, 0⟩ : Tn), (⟨0, 0⟩ : Us), (⟨0, 0⟩ : Ss)⟩ : Sc), false))
    else ((⟨(⟨0, 0⟩ : Tn), (⟨0, 0⟩ : Us), (⟨0, 0⟩ : Ss)⟩ : Sc), (⟨(⟨0, 0⟩ : Tn), (⟨0, 0⟩ : Us), (⟨0, 0⟩ : Ss)⟩ : Sc), false))
  else ((⟨(⟨0, 0⟩ : Tn), (⟨0, 0⟩ : Us), (⟨0, 0⟩ : Ss)⟩ : Sc), (⟨(⟨0, 0⟩ : Tn), (⟨0, 0⟩ : Us), (⟨0, 0⟩ : Ss)⟩ : Sc), false)
def smallJ (a : Int) (d e : Sc) : Prop := scalar_Within d (scalar_Upto 4) = true ∧ scalar_Within e (scalar_Upto 4) = true ∧ (signedJ a → (if e.u.hi > d.u.hi then e.u.hi else d.u.hi) < 2147483648)
def BP (a : Int) (b c : Bool) (d e : Sc) (L r : Sc × Sc × Bool) : Prop :=
  (r = (d, e, true) ∧ ((word_Jump a b ((scalar_Is d).1) ((scalar_Is e).1)).2 = true → (scalar_Is d).2 = true → (scalar_Is e).2 = true → (word_Jump a b ((scalar_Is d).1) ((scalar_Is e).1)).1 = c)) ∨
  (r = (sz, sz, false) ∧ (scalar_Is d).2 = true ∧ (scalar_Is e).2 = true ∧ (word_Jump a b ((scalar_Is d).1) ((scalar_Is e).1)).2 = true ∧ ¬ (word_Jump a b ((scalar_Is d).1) ((scalar_Is e).1)).1 = c) ∨
  (r = L ∧ (word_Jump a b ((scalar_Is d).1) ((scalar_Is e).1)).2 = true ∧ (b = true ∨ smallJ a d e) ∧ ((scalar_Is d).2 = true → (scalar_Is e).2 = true → False))
theorem Branch_cases (a : Int) (b c : Bool) (d e : Sc) : BP a b c d e (lrn a c d e) (scalar_Branch a b c d e) := by
  have hL : lrn a c d e = lrn a c d e := rfl
  conv at hL => lhs; unfold lrn
  unfold scalar_Branch
  rw [hL]
  clear hL
  generalize lrn a c d e = L
  repeat' (refine ite_of (P := BP a b c d e L) (fun _ => ?_) (fun _ => ?_))
  all_goals first
    | exact Or.inr (Or.inr ⟨rfl, by assumption, Or.inl (by assumption), fun j2 j3 => (by first | exact absurd j2 (by assumption) | exact absurd j3 (by assumption))⟩)
    | exact Or.inr (Or.inr ⟨rfl, by assumption, Or.inr ⟨by assumption, by assumption, fun _ => by assumption⟩, fun j2 j3 => (by first | exact absurd j2 (by assumption) | exact absurd j3 (by assumption))⟩)
    | exact Or.inr (Or.inr ⟨rfl, by assumption, Or.inr ⟨by assumption, by assumption, fun h => by unfold signedJ at h; omega⟩, fun j2 j3 => (by first | exact absurd j2 (by assumption) | exact absurd j3 (by assumption))⟩)
    | exact Or.inr (Or.inl ⟨rfl, by assumption, by assumption, by assumption, fun h => absurd (beq_iff_eq.2 h) (by assumption)⟩)
    | exact Or.inl ⟨rfl, fun _ _ _ => eq_of_beq (by assumption)⟩
    | exact Or.inl ⟨rfl, fun j1 j2 j3 => absurd j3 (by assumption)⟩
    | exact Or.inl ⟨rfl, fun j1 j2 j3 => absurd j2 (by assumption)⟩
    | exact Or.inl ⟨rfl, fun j1 j2 j3 => absurd j1 (by assumption)⟩
theorem jump_small {a : Int} {v w : Int} (hv : 0 ≤ v ∧ v < 4294967296) (hw : 0 ≤ w ∧ w < 4294967296) (hs : signedJ a → v < 2147483648 ∧ w < 2147483648) : word_Jump a false v w = word_Jump a true v w := by
  have e1 : IntKind.u64.wrap (IntKind.u32.wrap v) = v := by simp only [wrap_u64, wrap_u32]; omega
  have e2 : IntKind.u64.wrap (IntKind.u32.wrap w) = w := by simp only [wrap_u64, wrap_u32]; omega
  unfold word_Jump
  rw [if_neg Bool.false_ne_true, if_pos rfl]
  simp only [e1, e2]
  by_cases h : signedJ a
  · have := hs h
    have s1 : IntKind.i64.wrap (IntKind.i32.wrap (IntKind.u32.wrap v)) = IntKind.i64.wrap v := by
      rw [u32_id hv, wrap_i32, wrap_i64_id (x := v) (by omega) (by omega)]
      rw [if_neg (by omega), wrap_i64_id (by omega) (by omega)]; omega
    have s2 : IntKind.i64.wrap (IntKind.i32.wrap (IntKind.u32.wrap w)) = IntKind.i64.wrap w := by
      rw [u32_id hw, wrap_i32, wrap_i64_id (x := w) (by omega) (by omega)]
      rw [if_neg (by omega), wrap_i64_id (by omega) (by omega)]; omega
    rw [s1, s2]
  · unfold signedJ at h
    have n6 : ¬ a = 6 := by omega
    have n7 : ¬ a = 7 := by omega
    have n12 : ¬ a = 12 := by omega
    have n13 : ¬ a = 13 := by omega
    simp only [n6, n7, n12, n13, if_false]
theorem Upto4 : (scalar_Upto 4).u.hi = 4294967295 := by decide
theorem small_jump {a : Int} {d e : Sc} {v w : Int} (hs : smallJ a d e) (iv : Inx d v) (iw : Inx e w) (hv : W64 v) (hw : W64 w) : word_Jump a false v w = word_Jump a true v w := by
  obtain ⟨h1, h2, h3⟩ := hs
  rw [Within_iff, Upto4] at h1 h2
  have u1 := iv.2.1
  have u2 := iw.2.1
  unfold inU at u1 u2
  refine jump_small (by omega) (by omega) (fun h => ?_)
  have := h3 h
  split at this <;> omega
theorem lrn_form (a : Int) (c : Bool) (d e : Sc) : ((scalar_learn a c d e).2.2 = true ∧ (scalar_Norm ((scalar_learn a c d e).1)).2 = true ∧ (scalar_Norm ((scalar_learn a c d e).2.1)).2 = true ∧ lrn a c d e = (((scalar_Norm ((scalar_learn a c d e).1)).1), ((scalar_Norm ((scalar_learn a c d e).2.1)).1), true)) ∨ lrn a c d e = (sz, sz, false) := by
  unfold lrn
  by_cases h1 : (scalar_learn a c d e).2.2 = true
  · by_cases h2 : (scalar_Norm ((scalar_learn a c d e).1)).2 = true
    · by_cases h3 : (scalar_Norm ((scalar_learn a c d e).2.1)).2 = true
      · left; rw [if_pos h1, if_pos h2, if_pos h3]; exact ⟨h1, h2, h3, rfl⟩
      · right; rw [if_pos h1, if_pos h2, if_neg h3]; rfl
    · right; rw [if_pos h1, if_neg h2]; rfl
  · right; rw [if_neg h1]; rfl
/-- What any edge tells: that may be, and is within what was known; or there is nothing. -/
structure Edge (d e : Sc) (r : Sc × Sc × Bool) : Prop where
  yes : r.2.2 = true → VSc r.1 ∧ VSc r.2.1 ∧ MayP r.1 ∧ MayP r.2.1 ∧ scalar_Within r.1 d = true ∧ scalar_Within r.2.1 e = true
  no : ¬ r.2.2 = true → r.1 = sz ∧ r.2.1 = sz
theorem Branch_edge {a : Int} {b c : Bool} {d e : Sc} (hd : VSc d) (he : VSc e) (md : MayP d) (me : MayP e) : Edge d e (scalar_Branch a b c d e) := by
  have same : Edge d e (d, e, true) := ⟨fun _ => ⟨hd, he, md, me, Within_refl hd md, Within_refl he me⟩, fun h => absurd rfl h⟩
  have none : Edge d e (sz, sz, false) := ⟨fun h => (by cases h), fun _ => ⟨rfl, rfl⟩⟩
  rcases Branch_cases a b c d e with ⟨h, _⟩ | ⟨h, _⟩ | ⟨h, hj, _, _⟩
  · rw [h]; exact same
  · rw [h]; exact none
  · rw [h]
    rcases lrn_form a c d e with ⟨h1, h2, h3, hr⟩ | hr
    · rw [hr]
      have hL : Learnt d e (scalar_learn a c d e).1 (scalar_learn a c d e).2.1 (scalar_learn a c d e).2.2 := learn_learnt (Jump_ok.1 hj) hd he md me
      refine ⟨fun _ => ⟨Norm_V hL.vp, Norm_V hL.vq, Norm_may hL.vp h2, Norm_may hL.vq h3, ?_, ?_⟩, fun h => absurd rfl h⟩
      · exact Within_trans (Norm_V hL.vp) hL.vp hd (Norm_within hL.vp (hL.wp h1).2 h2) (hL.wp h1).1
      · exact Within_trans (Norm_V hL.vq) hL.vq he (Norm_within hL.vq (hL.wq h1).2 h3) (hL.wq h1).1
    · rw [hr]; exact none
theorem Branch_sound {a : Int} {b : Bool} {d e : Sc} {v w : Int} (hd : VSc d) (he : VSc e) (md : MayP d) (me : MayP e) (hv : W64 v) (hw : W64 w) (iv : Inx d v) (iw : Inx e w) :
    H2 v w (scalar_Branch a b (word_Jump a b v w).1 d e) := by
  have same : H2 v w (d, e, true) := ⟨rfl, iv, iw⟩
  rcases Branch_cases a b (word_Jump a b v w).1 d e with ⟨h, _⟩ | ⟨h, h1, h2, h3, h4⟩ | ⟨h, hj, hs, _⟩
  · rw [h]; exact same
  · rw [Is_sound hd hv iv h1, Is_sound he hw iw h2] at h4
    exact absurd rfl h4
  · rw [h]
    have hjmp : (word_Jump a true v w).1 = (word_Jump a b v w).1 := by
      cases b
      · rcases hs with hs | hs
        · cases hs
        · rw [small_jump hs iv iw hv hw]
      · rfl
    have hL : Learnt d e (scalar_learn a (word_Jump a b v w).1 d e).1 (scalar_learn a (word_Jump a b v w).1 d e).2.1 (scalar_learn a (word_Jump a b v w).1 d e).2.2 := learn_learnt (Jump_ok.1 hj) hd he md me
    have hI : Holds2 (scalar_learn a (word_Jump a b v w).1 d e).1 (scalar_learn a (word_Jump a b v w).1 d e).2.1 (scalar_learn a (word_Jump a b v w).1 d e).2.2 v w := learn_in (Jump_ok.1 hj) hd he md me hv hw iv iw hjmp
    have n1 := Norm_sound hL.vp hv.1 hv.2 hI.2.1
    have n2 := Norm_sound hL.vq hw.1 hw.2 hI.2.2
    unfold lrn
    rw [if_pos hI.1, if_pos n1.1, if_pos n2.1]
    exact ⟨rfl, n1.2, n2.2⟩
theorem Branch_none {a : Int} {b c : Bool} {d e : Sc} (h : ¬ isJ a) : scalar_Branch a b c d e = (d, e, true) := by
  have hn : ¬ (word_Jump a b ((scalar_Is d).1) ((scalar_Is e).1)).2 = true := fun h' => h (Jump_ok.1 h')
  unfold scalar_Branch
  rw [if_neg hn]
end Go.Proofs.T
