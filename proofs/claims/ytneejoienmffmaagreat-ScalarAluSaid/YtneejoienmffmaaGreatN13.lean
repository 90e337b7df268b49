/-
  Plain laws: the document's Alu of scalars is the program's.
-/
import Derived.Test.YtneejoienmffmaaGreatN12
set_option linter.unusedVariables false
set_option linter.unusedSimpArgs false
set_option maxRecDepth 100000
namespace Go.Proofs.T
open Go Go.Proofs Go.Proofs.SX
theorem cb_M {b : Bool} {c : Sc} (h : VSc c) (m : MayP c) : MayP (cb b c) := by
  cases b
  · rw [cb_f]; exact settle_may h
  · rw [cb_t]; exact m
/-- what is made of what is known whole, or of parts -/
theorem rcore {k : Int} {b : Bool} {x y P : Sc} (hx : VSc x) (hy : VSc y) (hP : VSc P) (m1 : TM P.t) (m3 : P.s.lo ≤ P.s.hi) :
    (if (scalar_Is x).2 = true then (if (scalar_Is y).2 = true then scalar_Of (lockgateref01_Alu k b (scalar_Is x).1 (scalar_Is y).1).1 else lockgateref05_settle P b) else lockgateref05_settle P b) = core k b x y P := by
  unfold core
  rw [rAlu_eq (Is_W hx) (Is_W hy), rsettle hP m1 m3]
theorem rplain1 (b : Bool) (c d : Sc) (hc : VSc c) (hd : VSc d) (mc : TM c.t) (md : TM d.t) : lockgateref05_Alu_1 b c d =
    (if (lockgateref05_Is (cb b c)).2 = true then (if (lockgateref05_Is (cb b d)).2 = true then lockgateref05_Of (lockgateref01_Alu 1 b (lockgateref05_Is (cb b c)).1 (lockgateref05_Is (cb b d)).1).1 else lockgateref05_settle (lockgateref05_parts 1 (cb b c) (cb b d)) b) else lockgateref05_settle (lockgateref05_parts 1 (cb b c) (cb b d)) b) := by
  unfold lockgateref05_Alu_1
  cases b
  · rw [if_neg Bool.false_ne_true, rHalf hc mc, rHalf hd md, cb_f, cb_f]
  · rw [if_pos rfl, cb_t, cb_t]
theorem rAlu_1 {b : Bool} {c d : Sc} (hc : VSc c) (hd : VSc d) (mc : MayP c) (md : MayP d) : lockgateref05_Alu_1 b c d = scalar_Alu_1 b c d := by
  have hk : plain 1 := by unfold plain; omega
  have hc' := cb_V (b := b) hc; have hd' := cb_V (b := b) hd
  have mc' := cb_M (b := b) hc mc; have md' := cb_M (b := b) hd md
  have ok := PA_ok hk hc' hd' mc' md'
  rw [rplain1 b c d hc hd mc.1 md.1, rIs (cb b c), rIs (cb b d), rOf, rparts hk hc' hd', rcore hc' hd' (PA_V hk hc' hd') ok.1 ok.2, A1]
theorem rAlu_8 {b : Bool} {c d : Sc} (hc : VSc c) (hd : VSc d) (mc : MayP c) (md : MayP d) : lockgateref05_Alu_8 b c d = scalar_Alu_8 b c d := by
  have z : W64 0 := by unfold W64; omega
  have hc' := cb_V (b := b) hc; have hd' := cb_V (b := b) hd
  have mc' := cb_M (b := b) hc mc
  have e := rAlu_1 (b := b) (Of_V z) hc' (Of_may 0) mc'
  have w := rAlu_eq (k := 8) (b := b) (Is_W hc') (Is_W hd')
  rw [A8, ← w, ← e]
  unfold lockgateref05_Alu_8
  cases b
  · rw [if_neg Bool.false_ne_true, rHalf hc mc.1, rHalf hd md.1, cb_f, cb_f]
    by_cases h1 : (scalar_Is (scalar_settle c false)).2 = true
    · refine (if_pos h1).trans (Eq.trans ?_ (if_pos h1).symm)
      by_cases h2 : (scalar_Is (scalar_settle d false)).2 = true
      · exact if_pos h2
      · exact if_neg h2
    · exact (if_neg h1).trans (if_neg h1).symm
  · rw [if_pos rfl, cb_t, cb_t]
    by_cases h1 : (scalar_Is c).2 = true
    · refine (if_pos h1).trans (Eq.trans ?_ (if_pos h1).symm)
      by_cases h2 : (scalar_Is d).2 = true
      · exact if_pos h2
      · exact if_neg h2
    · exact (if_neg h1).trans (if_neg h1).symm
theorem rok {k : Int} {b : Bool} (hk : isOp k) : (lockgateref01_Alu k b 0 0).2 = true := by
  have z : W64 0 := by unfold W64; omega
  rw [rAlu_eq z z]; exact word_some hk
theorem rplain {k : Int} (b : Bool) (c d : Sc) (hk : isOp k) (n11 : ¬ k = 11) (n6 : ¬ k = 6) (n7 : ¬ k = 7) (n12 : ¬ k = 12) (hc : VSc c) (hd : VSc d) (mc : TM c.t) (md : TM d.t) : lockgateref05_Alu_x k b c d =
    (if (lockgateref05_Is (cb b c)).2 = true then (if (lockgateref05_Is (cb b d)).2 = true then lockgateref05_Of (lockgateref01_Alu k b (lockgateref05_Is (cb b c)).1 (lockgateref05_Is (cb b d)).1).1 else lockgateref05_settle (lockgateref05_parts k (cb b c) (cb b d)) b) else lockgateref05_settle (lockgateref05_parts k (cb b c) (cb b d)) b) := by
  unfold lockgateref05_Alu_x
  rw [if_pos (rok hk)]
  simp only [if_neg n11, if_neg n6, if_neg n7, if_neg n12]
  cases b
  · rw [if_neg Bool.false_ne_true, rHalf hc mc, rHalf hd md, cb_f, cb_f]
  · rw [if_pos rfl, cb_t, cb_t]
theorem rAlu_p {k : Int} {b : Bool} {c d : Sc} (hp : plain k) (hk : isOp k) (hc : VSc c) (hd : VSc d) (mc : MayP c) (md : MayP d) : lockgateref05_Alu_x k b c d = core k b (cb b c) (cb b d) (PA k (cb b c) (cb b d)) := by
  have hc' := cb_V (b := b) hc; have hd' := cb_V (b := b) hd
  have mc' := cb_M (b := b) hc mc; have md' := cb_M (b := b) hd md
  have ok := PA_ok hp hc' hd' mc' md'
  have hh : k ≠ 11 ∧ k ≠ 6 ∧ k ≠ 7 ∧ k ≠ 12 := by unfold plain at hp; omega
  rw [rplain b c d hk hh.1 hh.2.1 hh.2.2.1 hh.2.2.2 hc hd mc.1 md.1, rIs (cb b c), rIs (cb b d), rOf, rparts hp hc' hd', rcore hc' hd' (PA_V hp hc' hd') ok.1 ok.2]
theorem rsh {k : Int} (b : Bool) (c d : Sc) (hk : k = 6 ∨ k = 7 ∨ k = 12) (hc : VSc c) (hd : VSc d) (mc : TM c.t) (md : TM d.t) : lockgateref05_Alu_x k b c d =
    (if (lockgateref05_Is (cb b c)).2 = true then (if (lockgateref05_Is (cb b d)).2 = true then lockgateref05_Of (lockgateref01_Alu k b (lockgateref05_Is (cb b c)).1 (lockgateref05_Is (cb b d)).1).1 else lockgateref05_settle lockgateref05_Any b)
     else if (lockgateref05_Is (cb b d)).2 = true then lockgateref05_settle (lockgateref05_shift k b (cb b c) (IntKind.i64.wrap (Int.tmod (lockgateref05_Is (cb b d)).1 (if b = true then 64 else 32)))) b else lockgateref05_settle lockgateref05_Any b) := by
  have n11 : ¬ k = 11 := by omega
  have hop : isOp k := by unfold isOp; omega
  have e32 : (if false = true then (64 : Int) else 32) = 32 := rfl
  have e64' : (if true = true then (64 : Int) else 32) = 64 := rfl
  unfold lockgateref05_Alu_x
  rw [if_pos (rok hop)]
  rcases hk with rfl | rfl | rfl
  · simp only [if_neg n11, if_true]
    cases b
    · rw [if_neg Bool.false_ne_true, rHalf hc mc, rHalf hd md, cb_f, cb_f, e32]
    · rw [if_pos rfl, cb_t, cb_t, e64']
  · simp only [if_neg n11, if_neg (show ¬ (7 : Int) = 6 by decide), if_true]
    cases b
    · rw [if_neg Bool.false_ne_true, rHalf hc mc, rHalf hd md, cb_f, cb_f, e32]
    · rw [if_pos rfl, cb_t, cb_t, e64']
  · simp only [if_neg n11, if_neg (show ¬ (12 : Int) = 6 by decide), if_neg (show ¬ (12 : Int) = 7 by decide), if_true]
    cases b
    · rw [if_neg Bool.false_ne_true, rHalf hc mc, rHalf hd md, cb_f, cb_f, e32]
    · rw [if_pos rfl, cb_t, cb_t, e64']
theorem rAlu_s {k : Int} {b : Bool} {c d : Sc} (hk : k = 6 ∨ k = 7 ∨ k = 12) (hc : VSc c) (hd : VSc d) (mc : MayP c) (md : MayP d) : lockgateref05_Alu_x k b c d = shcore k b (cb b c) (cb b d) := by
  have hc' := cb_V (b := b) hc; have hd' := cb_V (b := b) hd
  have mc' := cb_M (b := b) hc mc
  have sm := small_shift (n := (scalar_Is (cb b d)).1) (m := if b = true then 64 else 32) (Is_W hd') (by cases b <;> decide) (by cases b <;> decide)
  have h31 : b = false → IntKind.i64.wrap (Int.tmod (scalar_Is (cb b d)).1 (if b = true then 64 else 32)) ≤ 31 := by
    intro hb
    subst hb
    have hw := Is_W hd'
    rw [sm.2.2]
    have h0 := hw.1
    show Int.tmod (scalar_Is (cb false d)).1 32 ≤ 31
    rw [tmod_nn' h0]; omega
  have rs := rshift (b := b) hk hc' mc' (n := IntKind.i64.wrap (Int.tmod (scalar_Is (cb b d)).1 (if b = true then 64 else 32))) (by rw [sm.2.2]; exact sm.1) (by rw [sm.2.2]; exact sm.2.1) h31
  rw [rsh b c d hk hc hd mc.1 md.1, rIs (cb b c), rIs (cb b d), rOf, rAlu_eq (Is_W hc') (Is_W hd'), rAny, rsettleAny, rs.1, rsettle (shift_V hc') rs.2.1 rs.2.2]
  unfold shcore
  rfl
theorem rAlu_11 {b : Bool} {c d : Sc} (hc : VSc c) (hd : VSc d) (mc : MayP c) (md : MayP d) : lockgateref05_Alu_x 11 b c d = scalar_Alu_11 b c d := by
  have hc' := cb_V (b := b) hc; have hd' := cb_V (b := b) hd
  have w := rAlu_eq (k := 11) (b := b) (Is_W hc') (Is_W hd')
  rw [A11, ← w]
  unfold lockgateref05_Alu_x
  rw [if_pos (rok (by unfold isOp; omega))]
  simp only [if_true]
  cases b
  · rw [if_neg Bool.false_ne_true, rHalf hc mc.1, rHalf hd md.1, cb_f, cb_f]
    by_cases h1 : (scalar_Is (scalar_settle c false)).2 = true
    · exact (if_pos h1).trans rfl
    · exact (if_neg h1).trans rfl
  · rw [if_pos rfl, cb_t, cb_t]
    by_cases h1 : (scalar_Is c).2 = true
    · exact (if_pos h1).trans rfl
    · exact (if_neg h1).trans rfl
theorem Ex {k : Int} (n1 : ¬ k = 1) (n8 : ¬ k = 8) (b : Bool) (c d : Sc) : lockgateref05_Alu k b c d = lockgateref05_Alu_x k b c d := by
  unfold lockgateref05_Alu; rw [if_neg n1, if_neg n8]
theorem rScAlu {k : Int} {b : Bool} {c d : Sc} (hc : VSc c) (hd : VSc d) (mc : MayP c) (md : MayP d) : lockgateref05_Alu k b c d = scalar_Alu k b c d := by
  by_cases hk : isOp k
  · have hk' := hk
    rcases hk with rfl | rfl | rfl | rfl | rfl | rfl | rfl | rfl | rfl | rfl | rfl | rfl | rfl
    · rw [Ex (by decide) (by decide), AE0, A0, rAlu_p (by unfold plain; omega) hk' hc hd mc md]
    · rw [AE1, ← rAlu_1 hc hd mc md]; unfold lockgateref05_Alu; rw [if_pos rfl]
    · rw [Ex (by decide) (by decide), AE2, A2, rAlu_p (by unfold plain; omega) hk' hc hd mc md]
    · rw [Ex (by decide) (by decide), AE3, A3, rAlu_p (by unfold plain; omega) hk' hc hd mc md]
    · rw [Ex (by decide) (by decide), AE4, A4, rAlu_p (by unfold plain; omega) hk' hc hd mc md]
    · rw [Ex (by decide) (by decide), AE5, A5, rAlu_p (by unfold plain; omega) hk' hc hd mc md]
    · rw [Ex (by decide) (by decide), AE6, A6, rAlu_s (by omega) hc hd mc md]
    · rw [Ex (by decide) (by decide), AE7, A7, rAlu_s (by omega) hc hd mc md]
    · rw [AE8, ← rAlu_8 hc hd mc md]; unfold lockgateref05_Alu; rw [if_neg (by decide), if_pos rfl]
    · rw [Ex (by decide) (by decide), AE9, A9, rAlu_p (by unfold plain; omega) hk' hc hd mc md]
    · rw [Ex (by decide) (by decide), AE10, A10, rAlu_p (by unfold plain; omega) hk' hc hd mc md]
    · rw [Ex (by decide) (by decide), AE11, rAlu_11 hc hd mc md]
    · rw [Ex (by decide) (by decide), AE12, A12, rAlu_s (by omega) hc hd mc md]
  · rw [Alu_none hk, Ex (fun h => hk (by subst h; unfold isOp; omega)) (fun h => hk (by subst h; unfold isOp; omega))]
    unfold lockgateref05_Alu_x
    have z : W64 0 := by unfold W64; omega
    rw [if_neg, rAny]
    rw [rAlu_eq z z]
    exact fun h => hk (word_ok h)
theorem ScalarAlu_ok {a : Int} {b : Bool} {c d : Sc} (hc : VSc c) (hd : VSc d) : lockgatelaw05_ScalarAlu a b c d = true := by
  have C := May_props hc
  have D := May_props hd
  have e := rScAlu (k := a) (b := b) C.1 D.1 C.2 D.2
  unfold lockgatelaw05_ScalarAlu
  rw [e, known_ok]
  generalize scalar_Alu a b (lockgatelaw05_May c) (lockgatelaw05_May d) = x
  simp
end Go.Proofs.T
