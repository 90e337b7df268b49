/-
  Plain laws: what a jump teaches, by the document and by the program, op by op.
-/
import Derived.Test.YtneejoienmffmaaGreatN15
set_option linter.unusedVariables false
set_option linter.unusedSimpArgs false
set_option maxRecDepth 100000
namespace Go.Proofs.T
open Go Go.Proofs Go.Proofs.SX
def EQ3 (r s : Sc × Sc × Bool) : Prop := r.2.2 = s.2.2 ∧ (s.2.2 = true → r = s ∧ s.1.s.lo ≤ s.1.s.hi ∧ s.2.1.s.lo ≤ s.2.1.s.hi)
def rlrn (r : Sc × Sc × Bool) : Sc × Sc × Bool :=
  if r.2.2 = true then (if (lockgateref05_Norm (r.1)).2 = true then (if (lockgateref05_Norm (r.2.1)).2 = true then (((lockgateref05_Norm (r.1)).1), ((lockgateref05_Norm (r.2.1)).1), true)
    else ((⟨(⟨0, 0⟩ : Tn), (⟨0, 0⟩ : Us), (⟨0, 0⟩ : Ss)⟩ : Sc), (⟨(⟨0, 0⟩ : Tn), (⟨0, 0⟩ : Us), (⟨0, 0⟩ : Ss)⟩ : Sc), false))
    else ((⟨(⟨0, 0⟩ : Tn), (⟨0, 0⟩ : Us), (⟨0, 0⟩ : Ss)⟩ : Sc), (⟨(⟨0, 0⟩ : Tn), (⟨0, 0⟩ : Us), (⟨0, 0⟩ : Ss)⟩ : Sc), false))
  else ((⟨(⟨0, 0⟩ : Tn), (⟨0, 0⟩ : Us), (⟨0, 0⟩ : Ss)⟩ : Sc), (⟨(⟨0, 0⟩ : Tn), (⟨0, 0⟩ : Us), (⟨0, 0⟩ : Ss)⟩ : Sc), false)
theorem rlrn_eq {a : Int} {c : Bool} {d e : Sc} {r : Sc × Sc × Bool} (E : EQ3 r (scalar_learn a c d e)) (L : Learnt d e (scalar_learn a c d e).1 (scalar_learn a c d e).2.1 (scalar_learn a c d e).2.2) : rlrn r = lrn a c d e := by
  have hl : lrn a c d e = (if (scalar_learn a c d e).2.2 = true then (if (scalar_Norm (scalar_learn a c d e).1).2 = true then (if (scalar_Norm (scalar_learn a c d e).2.1).2 = true then ((scalar_Norm (scalar_learn a c d e).1).1, (scalar_Norm (scalar_learn a c d e).2.1).1, true) else (sz, sz, false)) else (sz, sz, false)) else (sz, sz, false)) := rfl
  rw [hl]
  generalize scalar_learn a c d e = s at *
  unfold rlrn
  by_cases h : s.2.2 = true
  · obtain ⟨hr, l1, l2⟩ := E.2 h
    subst hr
    rw [rNorm' L.vp (L.wp h).2 l1, rNorm' L.vq (L.wq h).2 l2]
    try rfl
  · rw [if_neg h, if_neg (fun h' => h (E.1 ▸ h'))]
    try rfl
theorem RL5 (c d : Sc) : lockgateref05_learn 5 false c d = eachP scalar_without c d := by
  unfold lockgateref05_learn
  rw [if_neg Bool.false_ne_true, if_neg (by decide), if_pos rfl]
  simp only [rwithout]
  rfl
def rclear (a : Sc) (n : Int) : Sc × Bool := (⟨(lockgateref03_Meet a.t (⟨0, (Go.bits .xor .u64 18446744073709551615 n)⟩ : Tn)).1, a.u, a.s⟩, (lockgateref03_Meet a.t (⟨0, (Go.bits .xor .u64 18446744073709551615 n)⟩ : Tn)).2)
theorem RL4 (k : Int) (c d : Sc) : lockgateref05_learn k true c d = eachP rclear c d := by
  unfold lockgateref05_learn
  rw [if_pos rfl]
  rfl
theorem and0 {x : Int} (h : W64 x) : Go.bits .and .u64 0 x = 0 := by
  obtain ⟨b, rfl⟩ := exists_bv h.1 h.2
  have := and_u64 0#64 b
  rw [BitVec.zero_and] at this
  exact this
theorem rclear_eq {c : Sc} {n : Int} (hc : VSc c) (mc : TM c.t) : rclear c n = scalar_clear c n := by
  have hx := bW .xor 18446744073709551615 n
  unfold rclear scalar_clear
  rw [rMeet hc.1 (b := ⟨0, Go.bits .xor .u64 18446744073709551615 n⟩) ⟨(show W64 0 from ⟨by decide, by decide⟩), hx⟩ mc (and0 hx)]
theorem RL4n {k : Int} {c d : Sc} (hc : VSc c) (hd : VSc d) (mc : TM c.t) (md : TM d.t) : lockgateref05_learn k true c d = eachP scalar_clear c d := by
  rw [RL4]
  unfold eachP
  rw [rclear_eq hc mc, rclear_eq hd md]
theorem RL4t (c d : Sc) : lockgateref05_learn 4 false c d = (c, d, true) := by
  unfold lockgateref05_learn
  rw [if_neg Bool.false_ne_true]
  repeat rw [if_neg (by decide)]
theorem rmeet {c d : Sc} (hc : VSc c) (hd : VSc d) (mc : TM c.t) (md : TM d.t) : (lockgateref05_meet c d).1 = (scalar_meet c d).1 ∧ (lockgateref05_meet c d).2 = (scalar_meet c d).2 := by
  unfold lockgateref05_meet scalar_meet
  rw [rMeet hc.1 hd.1 mc md, rUMeet, rSMeet]
  cases h1 : (tnum_Meet c.t d.t).2 <;> cases h2 : (span_UMeet c.u d.u).2 <;> cases h3 : (span_SMeet c.s d.s).2 <;> simp [h1, h2, h3]
theorem RL1 {c d : Sc} (hc : VSc c) (hd : VSc d) (mc : TM c.t) (md : TM d.t) : lockgateref05_learn 1 false c d = ((scalar_meet c d).1, (scalar_meet c d).1, (scalar_meet c d).2) := by
  have m := rmeet hc hd mc md
  unfold lockgateref05_learn
  rw [if_neg Bool.false_ne_true, if_pos rfl, m.1, m.2]
  cases h : (scalar_meet c d).2 <;> rfl
def rcmp (fl : Bool) (sg same : Bool) (c d : Sc) : Sc × Sc × Bool :=
  if sg = true then
    (if fl = true then (⟨c.t, c.u, (lockgateref05_under d.s c.s same).2.1⟩, ⟨d.t, d.u, (lockgateref05_under d.s c.s same).1⟩, (lockgateref05_under d.s c.s same).2.2)
     else (⟨c.t, c.u, (lockgateref05_under c.s d.s same).1⟩, ⟨d.t, d.u, (lockgateref05_under c.s d.s same).2.1⟩, (lockgateref05_under c.s d.s same).2.2))
  else
    (if fl = true then (⟨c.t, (lockgateref05_less d.u c.u same).2.1, c.s⟩, ⟨d.t, (lockgateref05_less d.u c.u same).1, d.s⟩, (lockgateref05_less d.u c.u same).2.2)
     else (⟨c.t, (lockgateref05_less c.u d.u same).1, c.s⟩, ⟨d.t, (lockgateref05_less c.u d.u same).2.1, d.s⟩, (lockgateref05_less c.u d.u same).2.2))
theorem flagged {α β : Type} (p : α) (q : β) (f : Bool) : (if f = true then (p, q, true) else (p, q, false)) = (p, q, f) := by cases f <;> rfl
theorem RC10 (c d : Sc) : lockgateref05_learn 10 false c d = rcmp false false false c d := by
  unfold lockgateref05_learn
  rw [if_neg Bool.false_ne_true, if_neg (by decide), if_neg (by decide), if_pos rfl, flagged]; rfl
theorem RC11 (c d : Sc) : lockgateref05_learn 11 false c d = rcmp false false true c d := by
  unfold lockgateref05_learn
  rw [if_neg Bool.false_ne_true, if_neg (by decide), if_neg (by decide), if_neg (by decide), if_pos rfl, flagged]; rfl
theorem RC2 (c d : Sc) : lockgateref05_learn 2 false c d = rcmp true false false c d := by
  unfold lockgateref05_learn
  rw [if_neg Bool.false_ne_true, if_neg (by decide), if_neg (by decide), if_neg (by decide), if_neg (by decide), if_pos rfl, flagged]; rfl
theorem RC3 (c d : Sc) : lockgateref05_learn 3 false c d = rcmp true false true c d := by
  unfold lockgateref05_learn
  rw [if_neg Bool.false_ne_true, if_neg (by decide), if_neg (by decide), if_neg (by decide), if_neg (by decide), if_neg (by decide), if_pos rfl, flagged]; rfl
theorem RC12 (c d : Sc) : lockgateref05_learn 12 false c d = rcmp false true false c d := by
  unfold lockgateref05_learn
  rw [if_neg Bool.false_ne_true, if_neg (by decide), if_neg (by decide), if_neg (by decide), if_neg (by decide), if_neg (by decide), if_neg (by decide), if_pos rfl, flagged]; rfl
theorem RC13 (c d : Sc) : lockgateref05_learn 13 false c d = rcmp false true true c d := by
  unfold lockgateref05_learn
  rw [if_neg Bool.false_ne_true, if_neg (by decide), if_neg (by decide), if_neg (by decide), if_neg (by decide), if_neg (by decide), if_neg (by decide), if_neg (by decide), if_pos rfl, flagged]; rfl
theorem RC6 (c d : Sc) : lockgateref05_learn 6 false c d = rcmp true true false c d := by
  unfold lockgateref05_learn
  rw [if_neg Bool.false_ne_true, if_neg (by decide), if_neg (by decide), if_neg (by decide), if_neg (by decide), if_neg (by decide), if_neg (by decide), if_neg (by decide), if_neg (by decide), if_pos rfl, flagged]; rfl
theorem RC7 (c d : Sc) : lockgateref05_learn 7 false c d = rcmp true true true c d := by
  unfold lockgateref05_learn
  rw [if_neg Bool.false_ne_true, if_neg (by decide), if_neg (by decide), if_neg (by decide), if_neg (by decide), if_neg (by decide), if_neg (by decide), if_neg (by decide), if_neg (by decide), if_neg (by decide), if_pos rfl, flagged]; rfl
theorem rcmp_eq {fl sg same : Bool} {c d : Sc} (hc : VSc c) (hd : VSc d) (mc : MayP c) (md : MayP d) : EQ3 (rcmp fl sg same c d) (cmpL fl sg same c d) := by
  cases sg
  · cases fl
    · have h := lessU hc.2.1 hd.2.1 mc.2.1 md.2.1 same
      refine ⟨h.1, fun hh => ?_⟩
      obtain ⟨e1, e2⟩ := h.2 hh
      refine ⟨?_, mc.2.2, md.2.2⟩
      show (_, _, _) = (_, _, _)
      rw [e1, e2, h.1]; rfl
    · have h := lessU hd.2.1 hc.2.1 md.2.1 mc.2.1 same
      refine ⟨h.1, fun hh => ?_⟩
      obtain ⟨e1, e2⟩ := h.2 hh
      refine ⟨?_, mc.2.2, md.2.2⟩
      show (_, _, _) = (_, _, _)
      rw [e1, e2, h.1]; rfl
  · cases fl
    · have h := lessS hc.2.2 hd.2.2 mc.2.2 md.2.2 same
      refine ⟨h.1, fun hh => ?_⟩
      obtain ⟨e1, e2, e3, e4⟩ := h.2 hh
      refine ⟨?_, e3, e4⟩
      show (_, _, _) = (_, _, _)
      rw [e1, e2, h.1]; rfl
    · have h := lessS hd.2.2 hc.2.2 md.2.2 mc.2.2 same
      refine ⟨h.1, fun hh => ?_⟩
      obtain ⟨e1, e2, e3, e4⟩ := h.2 hh
      refine ⟨?_, e4, e3⟩
      show (_, _, _) = (_, _, _)
      rw [e1, e2, h.1]; rfl
end Go.Proofs.T
