/-
  Contracts of functions of eight and nine parameters.
-/
import Derived.Test.YtneejoienmffmaaSXb
set_option linter.unusedVariables false
namespace Go.Proofs.SX
open Go Go.Proofs
section
variable {α β γ δ ε ζ η θ ω : Type} {P : Program} {f : FuncId}
def F8 (A : Cod α) (B : Cod β) (C : Cod γ) (E : Cod δ) (G : Cod ε) (H : Cod ζ) (I : Cod η) (J : Cod θ) (O : Cod ω) (pre : α → β → γ → δ → ε → ζ → η → θ → Qs) (fn : α → β → γ → δ → ε → ζ → η → θ → ω) : List RV → Option (RV × Qs)
  | [x0, x1, x2, x3, x4, x5, x6, x7] =>
    match A.dec x0, B.dec x1, C.dec x2, E.dec x3, G.dec x4, H.dec x5, I.dec x6, J.dec x7 with
    | some a0, some a1, some a2, some a3, some a4, some a5, some a6, some a7 => some (O.enc (fn a0 a1 a2 a3 a4 a5 a6 a7), pre a0 a1 a2 a3 a4 a5 a6 a7)
    | _, _, _, _, _, _, _, _ => none
  | _ => none
theorem keeps8 (A : Cod α) (B : Cod β) (C : Cod γ) (E : Cod δ) (G : Cod ε) (H : Cod ζ) (I : Cod η) (J : Cod θ) (O : Cod ω) {pre : α → β → γ → δ → ε → ζ → η → θ → Qs} {fn : α → β → γ → δ → ε → ζ → η → θ → ω} (he : Enters P f) (h : ∀ a0 a1 a2 a3 a4 a5 a6 a7, holds (pre a0 a1 a2 a3 a4 a5 a6 a7) → Gives P f [A.enc a0, B.enc a1, C.enc a2, E.enc a3, G.enc a4, H.enc a5, I.enc a6, J.enc a7] (O.enc (fn a0 a1 a2 a3 a4 a5 a6 a7))) : Keeps P f (F8 A B C E G H I J O pre fn) := by
  refine keeps_of he fun args r q hf => ?_
  unfold F8 at hf
  split at hf
  · split at hf
    · rename_i h0 h1 h2 h3 h4 h5 h6 h7
      simp only [Option.some.injEq, Prod.mk.injEq] at hf
      obtain ⟨rfl, rfl⟩ := hf
      rw [A.ok _ _ h0, B.ok _ _ h1, C.ok _ _ h2, E.ok _ _ h3, G.ok _ _ h4, H.ok _ _ h5, I.ok _ _ h6, J.ok _ _ h7]
      exact ⟨by simp [pureL?, A.pu, B.pu, C.pu, E.pu, G.pu, H.pu, I.pu, J.pu], O.pu _, h _ _ _ _ _ _ _ _⟩
    · cases hf
  · cases hf
end
section
variable {α β γ δ ε ζ η θ ι ω : Type} {P : Program} {f : FuncId}
def F9 (A : Cod α) (B : Cod β) (C : Cod γ) (E : Cod δ) (G : Cod ε) (H : Cod ζ) (I : Cod η) (J : Cod θ) (M : Cod ι) (O : Cod ω) (pre : α → β → γ → δ → ε → ζ → η → θ → ι → Qs) (fn : α → β → γ → δ → ε → ζ → η → θ → ι → ω) : List RV → Option (RV × Qs)
  | [x0, x1, x2, x3, x4, x5, x6, x7, x8] =>
    match A.dec x0, B.dec x1, C.dec x2, E.dec x3, G.dec x4, H.dec x5, I.dec x6, J.dec x7, M.dec x8 with
    | some a0, some a1, some a2, some a3, some a4, some a5, some a6, some a7, some a8 => some (O.enc (fn a0 a1 a2 a3 a4 a5 a6 a7 a8), pre a0 a1 a2 a3 a4 a5 a6 a7 a8)
    | _, _, _, _, _, _, _, _, _ => none
  | _ => none
theorem keeps9 (A : Cod α) (B : Cod β) (C : Cod γ) (E : Cod δ) (G : Cod ε) (H : Cod ζ) (I : Cod η) (J : Cod θ) (M : Cod ι) (O : Cod ω) {pre : α → β → γ → δ → ε → ζ → η → θ → ι → Qs} {fn : α → β → γ → δ → ε → ζ → η → θ → ι → ω} (he : Enters P f) (h : ∀ a0 a1 a2 a3 a4 a5 a6 a7 a8, holds (pre a0 a1 a2 a3 a4 a5 a6 a7 a8) → Gives P f [A.enc a0, B.enc a1, C.enc a2, E.enc a3, G.enc a4, H.enc a5, I.enc a6, J.enc a7, M.enc a8] (O.enc (fn a0 a1 a2 a3 a4 a5 a6 a7 a8))) : Keeps P f (F9 A B C E G H I J M O pre fn) := by
  refine keeps_of he fun args r q hf => ?_
  unfold F9 at hf
  split at hf
  · split at hf
    · rename_i h0 h1 h2 h3 h4 h5 h6 h7 h8
      simp only [Option.some.injEq, Prod.mk.injEq] at hf
      obtain ⟨rfl, rfl⟩ := hf
      rw [A.ok _ _ h0, B.ok _ _ h1, C.ok _ _ h2, E.ok _ _ h3, G.ok _ _ h4, H.ok _ _ h5, I.ok _ _ h6, J.ok _ _ h7, M.ok _ _ h8]
      exact ⟨by simp [pureL?, A.pu, B.pu, C.pu, E.pu, G.pu, H.pu, I.pu, J.pu, M.pu], O.pu _, h _ _ _ _ _ _ _ _ _⟩
    · cases hf
  · cases hf
end
end Go.Proofs.SX
