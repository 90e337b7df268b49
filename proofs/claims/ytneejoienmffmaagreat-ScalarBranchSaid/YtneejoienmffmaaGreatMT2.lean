/-
  Plain laws: what the document's functions make is not too large.
-/
import Derived.Test.YtneejoienmffmaaGreatMT
set_option linter.unusedVariables false
set_option maxRecDepth 100000
namespace Go.Proofs.T
open Go Go.Proofs Go.Proofs.SX
theorem rUMeet_hi (a b : Us) : (lockgateref04_UMeet a b).1.hi ≤ a.hi ∨ (lockgateref04_UMeet a b).1.hi = 0 := by
  unfold lockgateref04_UMeet
  split
  · split
    · split
      · right; rfl
      · left; dsimp only; omega
    · split
      · right; rfl
      · left; exact Int.le_refl _
  · split
    · split
      · right; rfl
      · left; dsimp only; omega
    · split
      · right; rfl
      · left; exact Int.le_refl _
theorem rUMeet_lt {a b : Us} {m : Int} (h : a.hi < m) (hm : 0 < m) : (lockgateref04_UMeet a b).1.hi < m := by
  rcases rUMeet_hi a b with h' | h' <;> omega
abbrev ULT (m : Int) (r : Sc × Bool) : Prop := r.1.u.hi < m
theorem ite_P {α : Type} (P : α → Prop) {c : Prop} [Decidable c] {x y : α} (h1 : P x) (h2 : P y) : P (if c then x else y) := by
  by_cases h : c
  · rw [if_pos h]; exact h1
  · rw [if_neg h]; exact h2
theorem ronce_lt {x : Sc} {m : Int} (h : x.u.hi < m) (hm : 0 < m) : (lockgateref05_once x).1.u.hi < m := by
  have hz : ULT m ((⟨(⟨0, 0⟩ : Tn), (⟨0, 0⟩ : Us), (⟨0, 0⟩ : Ss)⟩ : Sc), false) := hm
  show ULT m (lockgateref05_once x)
  unfold lockgateref05_once
  refine ite_P (ULT m) (ite_P (ULT m) (ite_P (ULT m) (ite_P (ULT m) (ite_P (ULT m) ?_ hz) hz) hz) hz) hz
  exact rUMeet_lt (rUMeet_lt h hm) hm
theorem rNorm_lt {x : Sc} {m : Int} (h : x.u.hi < m) (hm : 0 < m) : (lockgateref05_Norm x).1.u.hi < m := by
  have hz : ULT m ((⟨(⟨0, 0⟩ : Tn), (⟨0, 0⟩ : Us), (⟨0, 0⟩ : Ss)⟩ : Sc), false) := hm
  show ULT m (lockgateref05_Norm x)
  unfold lockgateref05_Norm
  exact ite_P (ULT m) (ronce_lt (ronce_lt h hm) hm) hz
theorem rUCut_lt (a : Us) : (lockgateref04_UCut a).hi < 18446744073709551616 := by
  unfold lockgateref04_UCut
  have := Int.tmod_lt_of_pos a.hi (b := 4294967296) (by decide)
  split
  · show Int.tmod a.hi 4294967296 < _
    omega
  · decide
theorem half_lt (x : Sc) : (lockgateref05_Half x).u.hi < 18446744073709551616 := by
  unfold lockgateref05_Half
  have h4 : (lockgateref05_Upto 4).u.hi < 18446744073709551616 := by decide
  split
  · exact rNorm_lt (rUCut_lt _) (by decide)
  · exact h4
theorem half_hi (x : Sc) : decide ((lockgateref05_Half x).u.hi < 18446744073709551616) = true := decide_eq_true (half_lt x)
theorem half_hi2 (x : Sc) : decide ((lockgateref05_Half (lockgateref05_Half x)).u.hi < 18446744073709551616) = true := half_hi _
theorem of_hi : decide ((lockgateref05_Of 0).u.hi < 18446744073709551616) = true := by decide
theorem rok1 (b : Bool) : (lockgateref01_Alu 1 b 0 0).2 = true := by cases b <;> decide +kernel
theorem rok8 (b : Bool) : (lockgateref01_Alu 8 b 0 0).2 = true := by cases b <;> decide +kernel
theorem rjn {a : Int} {b : Bool} {v w : Int} (n0 : ¬ a = 1) (n1 : ¬ a = 2) (n2 : ¬ a = 3) (n3 : ¬ a = 4) (n4 : ¬ a = 5) (n5 : ¬ a = 6) (n6 : ¬ a = 7) (n7 : ¬ a = 10) (n8 : ¬ a = 11) (n9 : ¬ a = 12) (n10 : ¬ a = 13) : ¬ (lockgateref01_Jump a b v w).2 = true := by
  unfold lockgateref01_Jump
  cases b
  · rw [if_neg Bool.false_ne_true, if_neg n0, if_neg n1, if_neg n2, if_neg n3, if_neg n4, if_neg n5, if_neg n6, if_neg n7, if_neg n8, if_neg n9, if_neg n10]; decide
  · rw [if_pos rfl, if_neg n0, if_neg n1, if_neg n2, if_neg n3, if_neg n4, if_neg n5, if_neg n6, if_neg n7, if_neg n8, if_neg n9, if_neg n10]; decide
end Go.Proofs.T
