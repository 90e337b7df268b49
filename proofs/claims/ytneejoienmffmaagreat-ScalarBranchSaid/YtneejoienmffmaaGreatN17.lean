/-
  Plain laws: the document's Branch is the program's.
-/
import Derived.Test.YtneejoienmffmaaGreatN16
set_option linter.unusedVariables false
set_option linter.unusedSimpArgs false
set_option linter.unusedSectionVars false
set_option maxRecDepth 100000
namespace Go.Proofs.T
open Go Go.Proofs Go.Proofs.SX
abbrev SL (r : Sc × Bool) : Prop := r.2 = true → r.1.s.lo ≤ r.1.s.hi
theorem wo_le {a : Sc} {n : Int} (ha : VSc a) (m : MayP a) : SL (scalar_without a n) := by
  have h1 := ha.2.2.1
  have h2 := ha.2.2.2
  have h3 := m.2.2
  unfold scalar_without
  refine ite_of (P := SL) (fun _ h => (by cases h)) (fun _ => ite_of (P := SL) (fun _ h => (by cases h)) (fun k => ?_))
  have k' : ¬ (a.s.lo = IntKind.i64.wrap n ∧ a.s.hi = IntKind.i64.wrap n) := fun h => k (by
    show ((a.s.lo == IntKind.i64.wrap n) && (a.s.hi == IntKind.i64.wrap n)) = true
    rw [h.1, h.2]; simp)
  clear k
  generalize IntKind.i64.wrap n = x at *
  have up : x = a.s.lo → IntKind.i64.wrap (a.s.lo + 1) ≤ a.s.hi := fun h => by rw [wrap_i64_id (by omega) (by omega)]; omega
  have dn : x = a.s.hi → a.s.lo ≤ IntKind.i64.wrap (a.s.hi - 1) := fun h => by rw [wrap_i64_id (by omega) (by omega)]; omega
  repeat' (refine ite_of (P := SL) (fun _ => ?_) (fun _ => ?_))
  all_goals first
    | exact fun _ => up (by assumption)
    | exact fun _ => dn (by assumption)
    | exact fun _ => h3
abbrev SL3 (s : Sc × Sc × Bool) : Prop := s.2.2 = true → s.1.s.lo ≤ s.1.s.hi ∧ s.2.1.s.lo ≤ s.2.1.s.hi
theorem each_le {f : Sc → Int → Sc × Bool} {c d : Sc} (mc : MayP c) (md : MayP d) (h1 : SL (f c (scalar_Is d).1)) (h2 : SL (f d (scalar_Is c).1)) : SL3 (eachP f c d) := by
  unfold eachP
  refine ite_of (P := SL3) (fun _ => ite_of (P := SL3) (fun _ => ite_of (P := SL3) (fun k h => ⟨h1 k, h2 h⟩) (fun _ h => (by cases h))) (fun _ => ite_of (P := SL3) (fun k h => ⟨h1 k, md.2.2⟩) (fun _ h => (by cases h)))) (fun _ => ite_of (P := SL3) (fun _ h => ⟨mc.2.2, h2 h⟩) (fun _ _ => ⟨mc.2.2, md.2.2⟩))
theorem meet_le {c d : Sc} : (scalar_meet c d).2 = true → (scalar_meet c d).1.s.lo ≤ (scalar_meet c d).1.s.hi := by
  intro h
  have h3 : (span_SMeet c.s d.s).2 = true := by
    unfold scalar_meet at h
    simp at h
    exact h.2.2
  exact (SMeet_sub h3).1
theorem EQ_refl {s : Sc × Sc × Bool} (h : SL3 s) : EQ3 s s := ⟨rfl, fun k => ⟨rfl, h k⟩⟩
section
variable {c d : Sc} (hc : VSc c) (hd : VSc d) (mc : MayP c) (md : MayP d)
include hc hd mc md
theorem E_meet : EQ3 (lockgateref05_learn 1 false c d) ((scalar_meet c d).1, (scalar_meet c d).1, (scalar_meet c d).2) := by
  rw [RL1 hc hd mc.1 md.1]; exact EQ_refl (fun h => ⟨meet_le h, meet_le h⟩)
theorem E_wo : EQ3 (lockgateref05_learn 5 false c d) (eachP scalar_without c d) := by
  rw [RL5]; exact EQ_refl (each_le mc md (wo_le hc mc) (wo_le hd md))
theorem E_cl (k : Int) : EQ3 (lockgateref05_learn k true c d) (eachP scalar_clear c d) := by
  rw [RL4n hc hd mc.1 md.1]; exact EQ_refl (each_le mc md (fun _ => mc.2.2) (fun _ => md.2.2))
theorem E_id : EQ3 (lockgateref05_learn 4 false c d) (c, d, true) := by
  rw [RL4t]; exact EQ_refl (fun _ => ⟨mc.2.2, md.2.2⟩)
theorem E1t : EQ3 (lockgateref05_learn 1 false c d) (scalar_learn 1 true c d) := by
  rw [LE1]; exact E_meet hc hd mc md
theorem E1f : EQ3 (lockgateref05_learn 5 false c d) (scalar_learn 1 false c d) := by
  rw [LE1]; exact E_wo hc hd mc md
theorem E2t : EQ3 (lockgateref05_learn 2 false c d) (scalar_learn 2 true c d) := by
  rw [LE2]; rw [RC2]; exact rcmp_eq hc hd mc md
theorem E2f : EQ3 (lockgateref05_learn 11 false c d) (scalar_learn 2 false c d) := by
  rw [LE2]; rw [RC11]; exact rcmp_eq hc hd mc md
theorem E3t : EQ3 (lockgateref05_learn 3 false c d) (scalar_learn 3 true c d) := by
  rw [LE3]; rw [RC3]; exact rcmp_eq hc hd mc md
theorem E3f : EQ3 (lockgateref05_learn 10 false c d) (scalar_learn 3 false c d) := by
  rw [LE3]; rw [RC10]; exact rcmp_eq hc hd mc md
theorem E5t : EQ3 (lockgateref05_learn 5 false c d) (scalar_learn 5 true c d) := by
  rw [LE5]; exact E_wo hc hd mc md
theorem E5f : EQ3 (lockgateref05_learn 1 false c d) (scalar_learn 5 false c d) := by
  rw [LE5]; exact E_meet hc hd mc md
theorem E6t : EQ3 (lockgateref05_learn 6 false c d) (scalar_learn 6 true c d) := by
  rw [LE6]; rw [RC6]; exact rcmp_eq hc hd mc md
theorem E6f : EQ3 (lockgateref05_learn 13 false c d) (scalar_learn 6 false c d) := by
  rw [LE6]; rw [RC13]; exact rcmp_eq hc hd mc md
theorem E7t : EQ3 (lockgateref05_learn 7 false c d) (scalar_learn 7 true c d) := by
  rw [LE7]; rw [RC7]; exact rcmp_eq hc hd mc md
theorem E7f : EQ3 (lockgateref05_learn 12 false c d) (scalar_learn 7 false c d) := by
  rw [LE7]; rw [RC12]; exact rcmp_eq hc hd mc md
theorem E10t : EQ3 (lockgateref05_learn 10 false c d) (scalar_learn 10 true c d) := by
  rw [LE10]; rw [RC10]; exact rcmp_eq hc hd mc md
theorem E10f : EQ3 (lockgateref05_learn 3 false c d) (scalar_learn 10 false c d) := by
  rw [LE10]; rw [RC3]; exact rcmp_eq hc hd mc md
theorem E11t : EQ3 (lockgateref05_learn 11 false c d) (scalar_learn 11 true c d) := by
  rw [LE11]; rw [RC11]; exact rcmp_eq hc hd mc md
theorem E11f : EQ3 (lockgateref05_learn 2 false c d) (scalar_learn 11 false c d) := by
  rw [LE11]; rw [RC2]; exact rcmp_eq hc hd mc md
theorem E12t : EQ3 (lockgateref05_learn 12 false c d) (scalar_learn 12 true c d) := by
  rw [LE12]; rw [RC12]; exact rcmp_eq hc hd mc md
theorem E12f : EQ3 (lockgateref05_learn 7 false c d) (scalar_learn 12 false c d) := by
  rw [LE12]; rw [RC7]; exact rcmp_eq hc hd mc md
theorem E13t : EQ3 (lockgateref05_learn 13 false c d) (scalar_learn 13 true c d) := by
  rw [LE13]; rw [RC13]; exact rcmp_eq hc hd mc md
theorem E13f : EQ3 (lockgateref05_learn 6 false c d) (scalar_learn 13 false c d) := by
  rw [LE13]; rw [RC6]; exact rcmp_eq hc hd mc md
theorem E4t : EQ3 (lockgateref05_learn 4 (!true) c d) (scalar_learn 4 true c d) := by
  rw [LE4]; exact E_id hc hd mc md
theorem E4f : EQ3 (lockgateref05_learn 0 (!false) c d) (scalar_learn 4 false c d) := by
  rw [LE4]; exact E_cl hc hd mc md 0
end
def BQ (ok kd ke j c b : Bool) (S : Prop) (d e : Sc) (L r : Sc × Sc × Bool) : Prop :=
  (¬ ok = true ∧ r = (d, e, true)) ∨
  (ok = true ∧ kd = true ∧ ke = true ∧ j = c ∧ r = (d, e, true)) ∨
  (ok = true ∧ kd = true ∧ ke = true ∧ ¬ j = c ∧ r = (sz, sz, false)) ∨
  (ok = true ∧ ¬ (kd = true ∧ ke = true) ∧ (b = true ∨ S) ∧ r = L) ∨
  (ok = true ∧ ¬ (kd = true ∧ ke = true) ∧ ¬ (b = true ∨ S) ∧ r = (d, e, true))
theorem BQ_one {ok kd ke j c b : Bool} {S : Prop} {d e : Sc} {L r r' : Sc × Sc × Bool} (h : BQ ok kd ke j c b S d e L r) (h' : BQ ok kd ke j c b S d e L r') : r = r' := by
  rcases h with ⟨a1, h⟩ | ⟨a1, a2, a3, a4, h⟩ | ⟨a1, a2, a3, a4, h⟩ | ⟨a1, a2, a3, h⟩ | ⟨a1, a2, a3, h⟩ <;> rcases h' with ⟨b1, h'⟩ | ⟨b1, b2, b3, b4, h'⟩ | ⟨b1, b2, b3, b4, h'⟩ | ⟨b1, b2, b3, h'⟩ | ⟨b1, b2, b3, h'⟩ <;> first
    | exact h.trans h'.symm
    | exact (a1 b1).elim
    | exact (b1 a1).elim
    | (clear h h'; exfalso; grind)
abbrev JB (a : Int) (b c : Bool) (d e : Sc) (L r : Sc × Sc × Bool) : Prop := BQ (word_Jump a b ((scalar_Is d).1) ((scalar_Is e).1)).2 (scalar_Is d).2 (scalar_Is e).2 (word_Jump a b ((scalar_Is d).1) ((scalar_Is e).1)).1 c b (smallJ a d e) d e L r
theorem SB (a : Int) (b c : Bool) (d e : Sc) : JB a b c d e (lrn a c d e) (scalar_Branch a b c d e) := by
  have hL : lrn a c d e = lrn a c d e := rfl
  conv at hL => lhs; unfold lrn
  unfold scalar_Branch
  rw [hL]
  clear hL
  generalize lrn a c d e = L
  repeat' (refine ite_of (P := JB a b c d e L) (fun _ => ?_) (fun _ => ?_))
  all_goals first
    | exact .inl ⟨by assumption, rfl⟩
    | exact .inr (.inl ⟨by assumption, by assumption, by assumption, eq_of_beq (by assumption), rfl⟩)
    | exact .inr (.inr (.inl ⟨by assumption, by assumption, by assumption, fun h => absurd (beq_iff_eq.2 h) (by assumption), rfl⟩))
    | exact .inr (.inr (.inr (.inl ⟨by assumption, fun hh => (by first | exact absurd hh.1 (by assumption) | exact absurd hh.2 (by assumption)), .inl (by assumption), rfl⟩)))
    | exact .inr (.inr (.inr (.inl ⟨by assumption, fun hh => (by first | exact absurd hh.1 (by assumption) | exact absurd hh.2 (by assumption)), .inr ⟨by assumption, by assumption, fun hs => (by first | assumption | (unfold signedJ at hs; omega))⟩, rfl⟩)))
    | exact .inr (.inr (.inr (.inr ⟨by assumption, fun hh => (by first | exact absurd hh.1 (by assumption) | exact absurd hh.2 (by assumption)), fun hs => hs.elim (fun hb => absurd hb (by assumption)) (fun hS => (by first | exact absurd hS.1 (by assumption) | exact absurd hS.2.1 (by assumption) | exact absurd (hS.2.2 (by unfold signedJ; omega)) (by assumption))), rfl⟩)))
theorem U4 : VSc (scalar_Upto 4) ∧ MayP (scalar_Upto 4) := by
  refine ⟨by decide, ?_⟩
  unfold MayP; decide
theorem RB1 {b c : Bool} {d e : Sc} (hd : VSc d) (he : VSc e) (md : MayP d) (me : MayP e) : lockgateref05_Branch_1 b c d e = scalar_Branch 1 b c d e := by
  refine BQ_one (S := smallJ 1 d e) ?_ (SB 1 b c d e)
  show JB 1 b c d e (lrn 1 c d e) _
  have ll := learn_learnt (k := 1) (t := c) (by unfold isJ; omega) hd he md me
  have h1 : c = true → rlrn (lockgateref05_learn 1 (false) d e) = lrn 1 c d e := fun h => by
    subst h; exact rlrn_eq (E1t hd he md me) ll
  have h2 : ¬ c = true → rlrn (lockgateref05_learn 5 (false) d e) = lrn 1 c d e := fun h => by
    have h := Bool.eq_false_iff.2 h
    subst h; exact rlrn_eq (E1f hd he md me) ll
  have hA : rlrn (lockgateref05_learn 1 (false) d e) = rlrn (lockgateref05_learn 1 (false) d e) := rfl
  have hB : rlrn (lockgateref05_learn 5 (false) d e) = rlrn (lockgateref05_learn 5 (false) d e) := rfl
  conv at hA => lhs; unfold rlrn
  conv at hB => lhs; unfold rlrn
  unfold lockgateref05_Branch_1
  rw [hA, hB, rIs d, rIs e, rJump (Is_W hd) (Is_W he), rUpto, rScWithin hd U4.1 md U4.2, rScWithin he U4.1 me U4.2]
  clear hA hB ll
  generalize rlrn (lockgateref05_learn 1 (false) d e) = L1 at *
  generalize rlrn (lockgateref05_learn 5 (false) d e) = L2 at *
  generalize lrn 1 c d e = L at *
  repeat' (refine ite_of (P := JB 1 b c d e L) (fun _ => ?_) (fun _ => ?_))
  all_goals first
    | exact .inl ⟨by assumption, rfl⟩
    | exact .inr (.inl ⟨by assumption, by assumption, by assumption, eq_of_beq (by assumption), rfl⟩)
    | exact .inr (.inr (.inl ⟨by assumption, by assumption, by assumption, fun h => absurd (beq_iff_eq.2 h) (by assumption), rfl⟩))
    | exact .inr (.inr (.inr (.inl ⟨by assumption, fun hh => (by first | exact absurd hh.1 (by assumption) | exact absurd hh.2 (by assumption)), .inl (by assumption), (by first | exact h1 (by assumption) | exact h2 (by assumption))⟩)))
    | exact .inr (.inr (.inr (.inl ⟨by assumption, fun hh => (by first | exact absurd hh.1 (by assumption) | exact absurd hh.2 (by assumption)), .inr ⟨by assumption, by assumption, fun hs => (by first | (unfold signedJ at hs; omega) | (split <;> omega))⟩, (by first | exact h1 (by assumption) | exact h2 (by assumption))⟩)))
    | exact .inr (.inr (.inr (.inr ⟨by assumption, fun hh => (by first | exact absurd hh.1 (by assumption) | exact absurd hh.2 (by assumption)), fun hs => hs.elim (fun hb => absurd hb (by assumption)) (fun hS => (by first | exact absurd hS.1 (by assumption) | exact absurd hS.2.1 (by assumption) | (have hm := hS.2.2 (by unfold signedJ; omega); split at hm <;> omega))), rfl⟩)))
theorem RB2 {b c : Bool} {d e : Sc} (hd : VSc d) (he : VSc e) (md : MayP d) (me : MayP e) : lockgateref05_Branch_2 b c d e = scalar_Branch 2 b c d e := by
  refine BQ_one (S := smallJ 2 d e) ?_ (SB 2 b c d e)
  show JB 2 b c d e (lrn 2 c d e) _
  have ll := learn_learnt (k := 2) (t := c) (by unfold isJ; omega) hd he md me
  have h1 : c = true → rlrn (lockgateref05_learn 2 (false) d e) = lrn 2 c d e := fun h => by
    subst h; exact rlrn_eq (E2t hd he md me) ll
  have h2 : ¬ c = true → rlrn (lockgateref05_learn 11 (false) d e) = lrn 2 c d e := fun h => by
    have h := Bool.eq_false_iff.2 h
    subst h; exact rlrn_eq (E2f hd he md me) ll
  have hA : rlrn (lockgateref05_learn 2 (false) d e) = rlrn (lockgateref05_learn 2 (false) d e) := rfl
  have hB : rlrn (lockgateref05_learn 11 (false) d e) = rlrn (lockgateref05_learn 11 (false) d e) := rfl
  conv at hA => lhs; unfold rlrn
  conv at hB => lhs; unfold rlrn
  unfold lockgateref05_Branch_2
  rw [hA, hB, rIs d, rIs e, rJump (Is_W hd) (Is_W he), rUpto, rScWithin hd U4.1 md U4.2, rScWithin he U4.1 me U4.2]
  clear hA hB ll
  generalize rlrn (lockgateref05_learn 2 (false) d e) = L1 at *
  generalize rlrn (lockgateref05_learn 11 (false) d e) = L2 at *
  generalize lrn 2 c d e = L at *
  repeat' (refine ite_of (P := JB 2 b c d e L) (fun _ => ?_) (fun _ => ?_))
  all_goals first
    | exact .inl ⟨by assumption, rfl⟩
    | exact .inr (.inl ⟨by assumption, by assumption, by assumption, eq_of_beq (by assumption), rfl⟩)
    | exact .inr (.inr (.inl ⟨by assumption, by assumption, by assumption, fun h => absurd (beq_iff_eq.2 h) (by assumption), rfl⟩))
    | exact .inr (.inr (.inr (.inl ⟨by assumption, fun hh => (by first | exact absurd hh.1 (by assumption) | exact absurd hh.2 (by assumption)), .inl (by assumption), (by first | exact h1 (by assumption) | exact h2 (by assumption))⟩)))
    | exact .inr (.inr (.inr (.inl ⟨by assumption, fun hh => (by first | exact absurd hh.1 (by assumption) | exact absurd hh.2 (by assumption)), .inr ⟨by assumption, by assumption, fun hs => (by first | (unfold signedJ at hs; omega) | (split <;> omega))⟩, (by first | exact h1 (by assumption) | exact h2 (by assumption))⟩)))
    | exact .inr (.inr (.inr (.inr ⟨by assumption, fun hh => (by first | exact absurd hh.1 (by assumption) | exact absurd hh.2 (by assumption)), fun hs => hs.elim (fun hb => absurd hb (by assumption)) (fun hS => (by first | exact absurd hS.1 (by assumption) | exact absurd hS.2.1 (by assumption) | (have hm := hS.2.2 (by unfold signedJ; omega); split at hm <;> omega))), rfl⟩)))
theorem RB3 {b c : Bool} {d e : Sc} (hd : VSc d) (he : VSc e) (md : MayP d) (me : MayP e) : lockgateref05_Branch_3 b c d e = scalar_Branch 3 b c d e := by
  refine BQ_one (S := smallJ 3 d e) ?_ (SB 3 b c d e)
  show JB 3 b c d e (lrn 3 c d e) _
  have ll := learn_learnt (k := 3) (t := c) (by unfold isJ; omega) hd he md me
  have h1 : c = true → rlrn (lockgateref05_learn 3 (false) d e) = lrn 3 c d e := fun h => by
    subst h; exact rlrn_eq (E3t hd he md me) ll
  have h2 : ¬ c = true → rlrn (lockgateref05_learn 10 (false) d e) = lrn 3 c d e := fun h => by
    have h := Bool.eq_false_iff.2 h
    subst h; exact rlrn_eq (E3f hd he md me) ll
  have hA : rlrn (lockgateref05_learn 3 (false) d e) = rlrn (lockgateref05_learn 3 (false) d e) := rfl
  have hB : rlrn (lockgateref05_learn 10 (false) d e) = rlrn (lockgateref05_learn 10 (false) d e) := rfl
  conv at hA => lhs; unfold rlrn
  conv at hB => lhs; unfold rlrn
  unfold lockgateref05_Branch_3
  rw [hA, hB, rIs d, rIs e, rJump (Is_W hd) (Is_W he), rUpto, rScWithin hd U4.1 md U4.2, rScWithin he U4.1 me U4.2]
  clear hA hB ll
  generalize rlrn (lockgateref05_learn 3 (false) d e) = L1 at *
  generalize rlrn (lockgateref05_learn 10 (false) d e) = L2 at *
  generalize lrn 3 c d e = L at *
  repeat' (refine ite_of (P := JB 3 b c d e L) (fun _ => ?_) (fun _ => ?_))
  all_goals first
    | exact .inl ⟨by assumption, rfl⟩
    | exact .inr (.inl ⟨by assumption, by assumption, by assumption, eq_of_beq (by assumption), rfl⟩)
    | exact .inr (.inr (.inl ⟨by assumption, by assumption, by assumption, fun h => absurd (beq_iff_eq.2 h) (by assumption), rfl⟩))
    | exact .inr (.inr (.inr (.inl ⟨by assumption, fun hh => (by first | exact absurd hh.1 (by assumption) | exact absurd hh.2 (by assumption)), .inl (by assumption), (by first | exact h1 (by assumption) | exact h2 (by assumption))⟩)))
    | exact .inr (.inr (.inr (.inl ⟨by assumption, fun hh => (by first | exact absurd hh.1 (by assumption) | exact absurd hh.2 (by assumption)), .inr ⟨by assumption, by assumption, fun hs => (by first | (unfold signedJ at hs; omega) | (split <;> omega))⟩, (by first | exact h1 (by assumption) | exact h2 (by assumption))⟩)))
    | exact .inr (.inr (.inr (.inr ⟨by assumption, fun hh => (by first | exact absurd hh.1 (by assumption) | exact absurd hh.2 (by assumption)), fun hs => hs.elim (fun hb => absurd hb (by assumption)) (fun hS => (by first | exact absurd hS.1 (by assumption) | exact absurd hS.2.1 (by assumption) | (have hm := hS.2.2 (by unfold signedJ; omega); split at hm <;> omega))), rfl⟩)))
theorem RB4 {b c : Bool} {d e : Sc} (hd : VSc d) (he : VSc e) (md : MayP d) (me : MayP e) : lockgateref05_Branch_4 b c d e = scalar_Branch 4 b c d e := by
  refine BQ_one (S := smallJ 4 d e) ?_ (SB 4 b c d e)
  show JB 4 b c d e (lrn 4 c d e) _
  have ll := learn_learnt (k := 4) (t := c) (by unfold isJ; omega) hd he md me
  have h1 : c = true → rlrn (lockgateref05_learn 4 (!c) d e) = lrn 4 c d e := fun h => by
    subst h; exact rlrn_eq (E4t hd he md me) ll
  have h2 : ¬ c = true → rlrn (lockgateref05_learn 0 (!c) d e) = lrn 4 c d e := fun h => by
    have h := Bool.eq_false_iff.2 h
    subst h; exact rlrn_eq (E4f hd he md me) ll
  have hA : rlrn (lockgateref05_learn 4 (!c) d e) = rlrn (lockgateref05_learn 4 (!c) d e) := rfl
  have hB : rlrn (lockgateref05_learn 0 (!c) d e) = rlrn (lockgateref05_learn 0 (!c) d e) := rfl
  conv at hA => lhs; unfold rlrn
  conv at hB => lhs; unfold rlrn
  unfold lockgateref05_Branch_4
  rw [hA, hB, rIs d, rIs e, rJump (Is_W hd) (Is_W he), rUpto, rScWithin hd U4.1 md U4.2, rScWithin he U4.1 me U4.2]
  clear hA hB ll
  generalize rlrn (lockgateref05_learn 4 (!c) d e) = L1 at *
  generalize rlrn (lockgateref05_learn 0 (!c) d e) = L2 at *
  generalize lrn 4 c d e = L at *
  repeat' (refine ite_of (P := JB 4 b c d e L) (fun _ => ?_) (fun _ => ?_))
  all_goals first
    | exact .inl ⟨by assumption, rfl⟩
    | exact .inr (.inl ⟨by assumption, by assumption, by assumption, eq_of_beq (by assumption), rfl⟩)
    | exact .inr (.inr (.inl ⟨by assumption, by assumption, by assumption, fun h => absurd (beq_iff_eq.2 h) (by assumption), rfl⟩))
    | exact .inr (.inr (.inr (.inl ⟨by assumption, fun hh => (by first | exact absurd hh.1 (by assumption) | exact absurd hh.2 (by assumption)), .inl (by assumption), (by first | exact h1 (by assumption) | exact h2 (by assumption))⟩)))
    | exact .inr (.inr (.inr (.inl ⟨by assumption, fun hh => (by first | exact absurd hh.1 (by assumption) | exact absurd hh.2 (by assumption)), .inr ⟨by assumption, by assumption, fun hs => (by first | (unfold signedJ at hs; omega) | (split <;> omega))⟩, (by first | exact h1 (by assumption) | exact h2 (by assumption))⟩)))
    | exact .inr (.inr (.inr (.inr ⟨by assumption, fun hh => (by first | exact absurd hh.1 (by assumption) | exact absurd hh.2 (by assumption)), fun hs => hs.elim (fun hb => absurd hb (by assumption)) (fun hS => (by first | exact absurd hS.1 (by assumption) | exact absurd hS.2.1 (by assumption) | (have hm := hS.2.2 (by unfold signedJ; omega); split at hm <;> omega))), rfl⟩)))
theorem RB5 {b c : Bool} {d e : Sc} (hd : VSc d) (he : VSc e) (md : MayP d) (me : MayP e) : lockgateref05_Branch_5 b c d e = scalar_Branch 5 b c d e := by
  refine BQ_one (S := smallJ 5 d e) ?_ (SB 5 b c d e)
  show JB 5 b c d e (lrn 5 c d e) _
  have ll := learn_learnt (k := 5) (t := c) (by unfold isJ; omega) hd he md me
  have h1 : c = true → rlrn (lockgateref05_learn 5 (false) d e) = lrn 5 c d e := fun h => by
    subst h; exact rlrn_eq (E5t hd he md me) ll
  have h2 : ¬ c = true → rlrn (lockgateref05_learn 1 (false) d e) = lrn 5 c d e := fun h => by
    have h := Bool.eq_false_iff.2 h
    subst h; exact rlrn_eq (E5f hd he md me) ll
  have hA : rlrn (lockgateref05_learn 5 (false) d e) = rlrn (lockgateref05_learn 5 (false) d e) := rfl
  have hB : rlrn (lockgateref05_learn 1 (false) d e) = rlrn (lockgateref05_learn 1 (false) d e) := rfl
  conv at hA => lhs; unfold rlrn
  conv at hB => lhs; unfold rlrn
  unfold lockgateref05_Branch_5
  rw [hA, hB, rIs d, rIs e, rJump (Is_W hd) (Is_W he), rUpto, rScWithin hd U4.1 md U4.2, rScWithin he U4.1 me U4.2]
  clear hA hB ll
  generalize rlrn (lockgateref05_learn 5 (false) d e) = L1 at *
  generalize rlrn (lockgateref05_learn 1 (false) d e) = L2 at *
  generalize lrn 5 c d e = L at *
  repeat' (refine ite_of (P := JB 5 b c d e L) (fun _ => ?_) (fun _ => ?_))
  all_goals first
    | exact .inl ⟨by assumption, rfl⟩
    | exact .inr (.inl ⟨by assumption, by assumption, by assumption, eq_of_beq (by assumption), rfl⟩)
    | exact .inr (.inr (.inl ⟨by assumption, by assumption, by assumption, fun h => absurd (beq_iff_eq.2 h) (by assumption), rfl⟩))
    | exact .inr (.inr (.inr (.inl ⟨by assumption, fun hh => (by first | exact absurd hh.1 (by assumption) | exact absurd hh.2 (by assumption)), .inl (by assumption), (by first | exact h1 (by assumption) | exact h2 (by assumption))⟩)))
    | exact .inr (.inr (.inr (.inl ⟨by assumption, fun hh => (by first | exact absurd hh.1 (by assumption) | exact absurd hh.2 (by assumption)), .inr ⟨by assumption, by assumption, fun hs => (by first | (unfold signedJ at hs; omega) | (split <;> omega))⟩, (by first | exact h1 (by assumption) | exact h2 (by assumption))⟩)))
    | exact .inr (.inr (.inr (.inr ⟨by assumption, fun hh => (by first | exact absurd hh.1 (by assumption) | exact absurd hh.2 (by assumption)), fun hs => hs.elim (fun hb => absurd hb (by assumption)) (fun hS => (by first | exact absurd hS.1 (by assumption) | exact absurd hS.2.1 (by assumption) | (have hm := hS.2.2 (by unfold signedJ; omega); split at hm <;> omega))), rfl⟩)))
theorem RB6 {b c : Bool} {d e : Sc} (hd : VSc d) (he : VSc e) (md : MayP d) (me : MayP e) : lockgateref05_Branch_6 b c d e = scalar_Branch 6 b c d e := by
  refine BQ_one (S := smallJ 6 d e) ?_ (SB 6 b c d e)
  show JB 6 b c d e (lrn 6 c d e) _
  have ll := learn_learnt (k := 6) (t := c) (by unfold isJ; omega) hd he md me
  have h1 : c = true → rlrn (lockgateref05_learn 6 (false) d e) = lrn 6 c d e := fun h => by
    subst h; exact rlrn_eq (E6t hd he md me) ll
  have h2 : ¬ c = true → rlrn (lockgateref05_learn 13 (false) d e) = lrn 6 c d e := fun h => by
    have h := Bool.eq_false_iff.2 h
    subst h; exact rlrn_eq (E6f hd he md me) ll
  have hA : rlrn (lockgateref05_learn 6 (false) d e) = rlrn (lockgateref05_learn 6 (false) d e) := rfl
  have hB : rlrn (lockgateref05_learn 13 (false) d e) = rlrn (lockgateref05_learn 13 (false) d e) := rfl
  conv at hA => lhs; unfold rlrn
  conv at hB => lhs; unfold rlrn
  unfold lockgateref05_Branch_6
  rw [hA, hB, rIs d, rIs e, rJump (Is_W hd) (Is_W he), rUpto, rScWithin hd U4.1 md U4.2, rScWithin he U4.1 me U4.2]
  clear hA hB ll
  generalize rlrn (lockgateref05_learn 6 (false) d e) = L1 at *
  generalize rlrn (lockgateref05_learn 13 (false) d e) = L2 at *
  generalize lrn 6 c d e = L at *
  repeat' (refine ite_of (P := JB 6 b c d e L) (fun _ => ?_) (fun _ => ?_))
  all_goals first
    | exact .inl ⟨by assumption, rfl⟩
    | exact .inr (.inl ⟨by assumption, by assumption, by assumption, eq_of_beq (by assumption), rfl⟩)
    | exact .inr (.inr (.inl ⟨by assumption, by assumption, by assumption, fun h => absurd (beq_iff_eq.2 h) (by assumption), rfl⟩))
    | exact .inr (.inr (.inr (.inl ⟨by assumption, fun hh => (by first | exact absurd hh.1 (by assumption) | exact absurd hh.2 (by assumption)), .inl (by assumption), (by first | exact h1 (by assumption) | exact h2 (by assumption))⟩)))
    | exact .inr (.inr (.inr (.inl ⟨by assumption, fun hh => (by first | exact absurd hh.1 (by assumption) | exact absurd hh.2 (by assumption)), .inr ⟨by assumption, by assumption, fun hs => (by first | (unfold signedJ at hs; omega) | (split <;> omega))⟩, (by first | exact h1 (by assumption) | exact h2 (by assumption))⟩)))
    | exact .inr (.inr (.inr (.inr ⟨by assumption, fun hh => (by first | exact absurd hh.1 (by assumption) | exact absurd hh.2 (by assumption)), fun hs => hs.elim (fun hb => absurd hb (by assumption)) (fun hS => (by first | exact absurd hS.1 (by assumption) | exact absurd hS.2.1 (by assumption) | (have hm := hS.2.2 (by unfold signedJ; omega); split at hm <;> omega))), rfl⟩)))
theorem RB7 {b c : Bool} {d e : Sc} (hd : VSc d) (he : VSc e) (md : MayP d) (me : MayP e) : lockgateref05_Branch_7 b c d e = scalar_Branch 7 b c d e := by
  refine BQ_one (S := smallJ 7 d e) ?_ (SB 7 b c d e)
  show JB 7 b c d e (lrn 7 c d e) _
  have ll := learn_learnt (k := 7) (t := c) (by unfold isJ; omega) hd he md me
  have h1 : c = true → rlrn (lockgateref05_learn 7 (false) d e) = lrn 7 c d e := fun h => by
    subst h; exact rlrn_eq (E7t hd he md me) ll
  have h2 : ¬ c = true → rlrn (lockgateref05_learn 12 (false) d e) = lrn 7 c d e := fun h => by
    have h := Bool.eq_false_iff.2 h
    subst h; exact rlrn_eq (E7f hd he md me) ll
  have hA : rlrn (lockgateref05_learn 7 (false) d e) = rlrn (lockgateref05_learn 7 (false) d e) := rfl
  have hB : rlrn (lockgateref05_learn 12 (false) d e) = rlrn (lockgateref05_learn 12 (false) d e) := rfl
  conv at hA => lhs; unfold rlrn
  conv at hB => lhs; unfold rlrn
  unfold lockgateref05_Branch_7
  rw [hA, hB, rIs d, rIs e, rJump (Is_W hd) (Is_W he), rUpto, rScWithin hd U4.1 md U4.2, rScWithin he U4.1 me U4.2]
  clear hA hB ll
  generalize rlrn (lockgateref05_learn 7 (false) d e) = L1 at *
  generalize rlrn (lockgateref05_learn 12 (false) d e) = L2 at *
  generalize lrn 7 c d e = L at *
  repeat' (refine ite_of (P := JB 7 b c d e L) (fun _ => ?_) (fun _ => ?_))
  all_goals first
    | exact .inl ⟨by assumption, rfl⟩
    | exact .inr (.inl ⟨by assumption, by assumption, by assumption, eq_of_beq (by assumption), rfl⟩)
    | exact .inr (.inr (.inl ⟨by assumption, by assumption, by assumption, fun h => absurd (beq_iff_eq.2 h) (by assumption), rfl⟩))
    | exact .inr (.inr (.inr (.inl ⟨by assumption, fun hh => (by first | exact absurd hh.1 (by assumption) | exact absurd hh.2 (by assumption)), .inl (by assumption), (by first | exact h1 (by assumption) | exact h2 (by assumption))⟩)))
    | exact .inr (.inr (.inr (.inl ⟨by assumption, fun hh => (by first | exact absurd hh.1 (by assumption) | exact absurd hh.2 (by assumption)), .inr ⟨by assumption, by assumption, fun hs => (by first | (unfold signedJ at hs; omega) | (split <;> omega))⟩, (by first | exact h1 (by assumption) | exact h2 (by assumption))⟩)))
    | exact .inr (.inr (.inr (.inr ⟨by assumption, fun hh => (by first | exact absurd hh.1 (by assumption) | exact absurd hh.2 (by assumption)), fun hs => hs.elim (fun hb => absurd hb (by assumption)) (fun hS => (by first | exact absurd hS.1 (by assumption) | exact absurd hS.2.1 (by assumption) | (have hm := hS.2.2 (by unfold signedJ; omega); split at hm <;> omega))), rfl⟩)))
theorem RB10 {b c : Bool} {d e : Sc} (hd : VSc d) (he : VSc e) (md : MayP d) (me : MayP e) : lockgateref05_Branch_10 b c d e = scalar_Branch 10 b c d e := by
  refine BQ_one (S := smallJ 10 d e) ?_ (SB 10 b c d e)
  show JB 10 b c d e (lrn 10 c d e) _
  have ll := learn_learnt (k := 10) (t := c) (by unfold isJ; omega) hd he md me
  have h1 : c = true → rlrn (lockgateref05_learn 10 (false) d e) = lrn 10 c d e := fun h => by
    subst h; exact rlrn_eq (E10t hd he md me) ll
  have h2 : ¬ c = true → rlrn (lockgateref05_learn 3 (false) d e) = lrn 10 c d e := fun h => by
    have h := Bool.eq_false_iff.2 h
    subst h; exact rlrn_eq (E10f hd he md me) ll
  have hA : rlrn (lockgateref05_learn 10 (false) d e) = rlrn (lockgateref05_learn 10 (false) d e) := rfl
  have hB : rlrn (lockgateref05_learn 3 (false) d e) = rlrn (lockgateref05_learn 3 (false) d e) := rfl
  conv at hA => lhs; unfold rlrn
  conv at hB => lhs; unfold rlrn
  unfold lockgateref05_Branch_10
  rw [hA, hB, rIs d, rIs e, rJump (Is_W hd) (Is_W he), rUpto, rScWithin hd U4.1 md U4.2, rScWithin he U4.1 me U4.2]
  clear hA hB ll
  generalize rlrn (lockgateref05_learn 10 (false) d e) = L1 at *
  generalize rlrn (lockgateref05_learn 3 (false) d e) = L2 at *
  generalize lrn 10 c d e = L at *
  repeat' (refine ite_of (P := JB 10 b c d e L) (fun _ => ?_) (fun _ => ?_))
  all_goals first
    | exact .inl ⟨by assumption, rfl⟩
    | exact .inr (.inl ⟨by assumption, by assumption, by assumption, eq_of_beq (by assumption), rfl⟩)
    | exact .inr (.inr (.inl ⟨by assumption, by assumption, by assumption, fun h => absurd (beq_iff_eq.2 h) (by assumption), rfl⟩))
    | exact .inr (.inr (.inr (.inl ⟨by assumption, fun hh => (by first | exact absurd hh.1 (by assumption) | exact absurd hh.2 (by assumption)), .inl (by assumption), (by first | exact h1 (by assumption) | exact h2 (by assumption))⟩)))
    | exact .inr (.inr (.inr (.inl ⟨by assumption, fun hh => (by first | exact absurd hh.1 (by assumption) | exact absurd hh.2 (by assumption)), .inr ⟨by assumption, by assumption, fun hs => (by first | (unfold signedJ at hs; omega) | (split <;> omega))⟩, (by first | exact h1 (by assumption) | exact h2 (by assumption))⟩)))
    | exact .inr (.inr (.inr (.inr ⟨by assumption, fun hh => (by first | exact absurd hh.1 (by assumption) | exact absurd hh.2 (by assumption)), fun hs => hs.elim (fun hb => absurd hb (by assumption)) (fun hS => (by first | exact absurd hS.1 (by assumption) | exact absurd hS.2.1 (by assumption) | (have hm := hS.2.2 (by unfold signedJ; omega); split at hm <;> omega))), rfl⟩)))
theorem RB11 {b c : Bool} {d e : Sc} (hd : VSc d) (he : VSc e) (md : MayP d) (me : MayP e) : lockgateref05_Branch_11 b c d e = scalar_Branch 11 b c d e := by
  refine BQ_one (S := smallJ 11 d e) ?_ (SB 11 b c d e)
  show JB 11 b c d e (lrn 11 c d e) _
  have ll := learn_learnt (k := 11) (t := c) (by unfold isJ; omega) hd he md me
  have h1 : c = true → rlrn (lockgateref05_learn 11 (false) d e) = lrn 11 c d e := fun h => by
    subst h; exact rlrn_eq (E11t hd he md me) ll
  have h2 : ¬ c = true → rlrn (lockgateref05_learn 2 (false) d e) = lrn 11 c d e := fun h => by
    have h := Bool.eq_false_iff.2 h
    subst h; exact rlrn_eq (E11f hd he md me) ll
  have hA : rlrn (lockgateref05_learn 11 (false) d e) = rlrn (lockgateref05_learn 11 (false) d e) := rfl
  have hB : rlrn (lockgateref05_learn 2 (false) d e) = rlrn (lockgateref05_learn 2 (false) d e) := rfl
  conv at hA => lhs; unfold rlrn
  conv at hB => lhs; unfold rlrn
  unfold lockgateref05_Branch_11
  rw [hA, hB, rIs d, rIs e, rJump (Is_W hd) (Is_W he), rUpto, rScWithin hd U4.1 md U4.2, rScWithin he U4.1 me U4.2]
  clear hA hB ll
  generalize rlrn (lockgateref05_learn 11 (false) d e) = L1 at *
  generalize rlrn (lockgateref05_learn 2 (false) d e) = L2 at *
  generalize lrn 11 c d e = L at *
  repeat' (refine ite_of (P := JB 11 b c d e L) (fun _ => ?_) (fun _ => ?_))
  all_goals first
    | exact .inl ⟨by assumption, rfl⟩
    | exact .inr (.inl ⟨by assumption, by assumption, by assumption, eq_of_beq (by assumption), rfl⟩)
    | exact .inr (.inr (.inl ⟨by assumption, by assumption, by assumption, fun h => absurd (beq_iff_eq.2 h) (by assumption), rfl⟩))
    | exact .inr (.inr (.inr (.inl ⟨by assumption, fun hh => (by first | exact absurd hh.1 (by assumption) | exact absurd hh.2 (by assumption)), .inl (by assumption), (by first | exact h1 (by assumption) | exact h2 (by assumption))⟩)))
    | exact .inr (.inr (.inr (.inl ⟨by assumption, fun hh => (by first | exact absurd hh.1 (by assumption) | exact absurd hh.2 (by assumption)), .inr ⟨by assumption, by assumption, fun hs => (by first | (unfold signedJ at hs; omega) | (split <;> omega))⟩, (by first | exact h1 (by assumption) | exact h2 (by assumption))⟩)))
    | exact .inr (.inr (.inr (.inr ⟨by assumption, fun hh => (by first | exact absurd hh.1 (by assumption) | exact absurd hh.2 (by assumption)), fun hs => hs.elim (fun hb => absurd hb (by assumption)) (fun hS => (by first | exact absurd hS.1 (by assumption) | exact absurd hS.2.1 (by assumption) | (have hm := hS.2.2 (by unfold signedJ; omega); split at hm <;> omega))), rfl⟩)))
theorem RB12 {b c : Bool} {d e : Sc} (hd : VSc d) (he : VSc e) (md : MayP d) (me : MayP e) : lockgateref05_Branch_12 b c d e = scalar_Branch 12 b c d e := by
  refine BQ_one (S := smallJ 12 d e) ?_ (SB 12 b c d e)
  show JB 12 b c d e (lrn 12 c d e) _
  have ll := learn_learnt (k := 12) (t := c) (by unfold isJ; omega) hd he md me
  have h1 : c = true → rlrn (lockgateref05_learn 12 (false) d e) = lrn 12 c d e := fun h => by
    subst h; exact rlrn_eq (E12t hd he md me) ll
  have h2 : ¬ c = true → rlrn (lockgateref05_learn 7 (false) d e) = lrn 12 c d e := fun h => by
    have h := Bool.eq_false_iff.2 h
    subst h; exact rlrn_eq (E12f hd he md me) ll
  have hA : rlrn (lockgateref05_learn 12 (false) d e) = rlrn (lockgateref05_learn 12 (false) d e) := rfl
  have hB : rlrn (lockgateref05_learn 7 (false) d e) = rlrn (lockgateref05_learn 7 (false) d e) := rfl
  conv at hA => lhs; unfold rlrn
  conv at hB => lhs; unfold rlrn
  unfold lockgateref05_Branch_12
  rw [hA, hB, rIs d, rIs e, rJump (Is_W hd) (Is_W he), rUpto, rScWithin hd U4.1 md U4.2, rScWithin he U4.1 me U4.2]
  clear hA hB ll
  generalize rlrn (lockgateref05_learn 12 (false) d e) = L1 at *
  generalize rlrn (lockgateref05_learn 7 (false) d e) = L2 at *
  generalize lrn 12 c d e = L at *
  repeat' (refine ite_of (P := JB 12 b c d e L) (fun _ => ?_) (fun _ => ?_))
  all_goals first
    | exact .inl ⟨by assumption, rfl⟩
    | exact .inr (.inl ⟨by assumption, by assumption, by assumption, eq_of_beq (by assumption), rfl⟩)
    | exact .inr (.inr (.inl ⟨by assumption, by assumption, by assumption, fun h => absurd (beq_iff_eq.2 h) (by assumption), rfl⟩))
    | exact .inr (.inr (.inr (.inl ⟨by assumption, fun hh => (by first | exact absurd hh.1 (by assumption) | exact absurd hh.2 (by assumption)), .inl (by assumption), (by first | exact h1 (by assumption) | exact h2 (by assumption))⟩)))
    | exact .inr (.inr (.inr (.inl ⟨by assumption, fun hh => (by first | exact absurd hh.1 (by assumption) | exact absurd hh.2 (by assumption)), .inr ⟨by assumption, by assumption, fun hs => (by first | (unfold signedJ at hs; omega) | (split <;> omega))⟩, (by first | exact h1 (by assumption) | exact h2 (by assumption))⟩)))
    | exact .inr (.inr (.inr (.inr ⟨by assumption, fun hh => (by first | exact absurd hh.1 (by assumption) | exact absurd hh.2 (by assumption)), fun hs => hs.elim (fun hb => absurd hb (by assumption)) (fun hS => (by first | exact absurd hS.1 (by assumption) | exact absurd hS.2.1 (by assumption) | (have hm := hS.2.2 (by unfold signedJ; omega); split at hm <;> omega))), rfl⟩)))
theorem RB13 {b c : Bool} {d e : Sc} (hd : VSc d) (he : VSc e) (md : MayP d) (me : MayP e) : lockgateref05_Branch_13 b c d e = scalar_Branch 13 b c d e := by
  refine BQ_one (S := smallJ 13 d e) ?_ (SB 13 b c d e)
  show JB 13 b c d e (lrn 13 c d e) _
  have ll := learn_learnt (k := 13) (t := c) (by unfold isJ; omega) hd he md me
  have h1 : c = true → rlrn (lockgateref05_learn 13 (false) d e) = lrn 13 c d e := fun h => by
    subst h; exact rlrn_eq (E13t hd he md me) ll
  have h2 : ¬ c = true → rlrn (lockgateref05_learn 6 (false) d e) = lrn 13 c d e := fun h => by
    have h := Bool.eq_false_iff.2 h
    subst h; exact rlrn_eq (E13f hd he md me) ll
  have hA : rlrn (lockgateref05_learn 13 (false) d e) = rlrn (lockgateref05_learn 13 (false) d e) := rfl
  have hB : rlrn (lockgateref05_learn 6 (false) d e) = rlrn (lockgateref05_learn 6 (false) d e) := rfl
  conv at hA => lhs; unfold rlrn
  conv at hB => lhs; unfold rlrn
  unfold lockgateref05_Branch_13
  rw [hA, hB, rIs d, rIs e, rJump (Is_W hd) (Is_W he), rUpto, rScWithin hd U4.1 md U4.2, rScWithin he U4.1 me U4.2]
  clear hA hB ll
  generalize rlrn (lockgateref05_learn 13 (false) d e) = L1 at *
  generalize rlrn (lockgateref05_learn 6 (false) d e) = L2 at *
  generalize lrn 13 c d e = L at *
  repeat' (refine ite_of (P := JB 13 b c d e L) (fun _ => ?_) (fun _ => ?_))
  all_goals first
    | exact .inl ⟨by assumption, rfl⟩
    | exact .inr (.inl ⟨by assumption, by assumption, by assumption, eq_of_beq (by assumption), rfl⟩)
    | exact .inr (.inr (.inl ⟨by assumption, by assumption, by assumption, fun h => absurd (beq_iff_eq.2 h) (by assumption), rfl⟩))
    | exact .inr (.inr (.inr (.inl ⟨by assumption, fun hh => (by first | exact absurd hh.1 (by assumption) | exact absurd hh.2 (by assumption)), .inl (by assumption), (by first | exact h1 (by assumption) | exact h2 (by assumption))⟩)))
    | exact .inr (.inr (.inr (.inl ⟨by assumption, fun hh => (by first | exact absurd hh.1 (by assumption) | exact absurd hh.2 (by assumption)), .inr ⟨by assumption, by assumption, fun hs => (by first | (unfold signedJ at hs; omega) | (split <;> omega))⟩, (by first | exact h1 (by assumption) | exact h2 (by assumption))⟩)))
    | exact .inr (.inr (.inr (.inr ⟨by assumption, fun hh => (by first | exact absurd hh.1 (by assumption) | exact absurd hh.2 (by assumption)), fun hs => hs.elim (fun hb => absurd hb (by assumption)) (fun hS => (by first | exact absurd hS.1 (by assumption) | exact absurd hS.2.1 (by assumption) | (have hm := hS.2.2 (by unfold signedJ; omega); split at hm <;> omega))), rfl⟩)))
theorem rScBranch {a : Int} {b c : Bool} {d e : Sc} (hd : VSc d) (he : VSc e) (md : MayP d) (me : MayP e) : lockgateref05_Branch a b c d e = scalar_Branch a b c d e := by
  unfold lockgateref05_Branch
  by_cases k1 : a = 1
  · subst k1; repeat rw [if_neg (by decide)]
    rw [if_pos rfl, RB1 hd he md me]
  by_cases k2 : a = 2
  · subst k2; repeat rw [if_neg (by decide)]
    rw [if_pos rfl, RB2 hd he md me]
  by_cases k3 : a = 3
  · subst k3; repeat rw [if_neg (by decide)]
    rw [if_pos rfl, RB3 hd he md me]
  by_cases k4 : a = 4
  · subst k4; repeat rw [if_neg (by decide)]
    rw [if_pos rfl, RB4 hd he md me]
  by_cases k5 : a = 5
  · subst k5; repeat rw [if_neg (by decide)]
    rw [if_pos rfl, RB5 hd he md me]
  by_cases k6 : a = 6
  · subst k6; repeat rw [if_neg (by decide)]
    rw [if_pos rfl, RB6 hd he md me]
  by_cases k7 : a = 7
  · subst k7; repeat rw [if_neg (by decide)]
    rw [if_pos rfl, RB7 hd he md me]
  by_cases k10 : a = 10
  · subst k10; repeat rw [if_neg (by decide)]
    rw [if_pos rfl, RB10 hd he md me]
  by_cases k11 : a = 11
  · subst k11; repeat rw [if_neg (by decide)]
    rw [if_pos rfl, RB11 hd he md me]
  by_cases k12 : a = 12
  · subst k12; repeat rw [if_neg (by decide)]
    rw [if_pos rfl, RB12 hd he md me]
  by_cases k13 : a = 13
  · subst k13; repeat rw [if_neg (by decide)]
    rw [if_pos rfl, RB13 hd he md me]
  rw [if_neg k1, if_neg k2, if_neg k3, if_neg k4, if_neg k5, if_neg k6, if_neg k7, if_neg k10, if_neg k11, if_neg k12, if_neg k13]
  have hn : ¬ (word_Jump a b ((scalar_Is d).1) ((scalar_Is e).1)).2 = true := fun h => by
    have := Jump_ok.1 h
    unfold isJ at this; omega
  unfold scalar_Branch lockgateref05_Branch_x
  rw [if_neg hn]
theorem ScalarBranch_ok {a : Int} {b c : Bool} {d e : Sc} (hd : VSc d) (he : VSc e) : lockgatelaw05_ScalarBranch a b c d e = true := by
  have D := May_props hd
  have E := May_props he
  have h := rScBranch (a := a) (b := b) (c := c) D.1 E.1 D.2 E.2
  unfold lockgatelaw05_ScalarBranch
  rw [h, known_ok]
  generalize scalar_Branch a b c (lockgatelaw05_May d) (lockgatelaw05_May e) = x
  simp
end Go.Proofs.T
