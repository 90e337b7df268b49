/-
  Arguments that are plain, read and read again.
-/
import Derived.Test.YtneejoienmffmaaGreatSXb
import Derived.WalkKit
import Derived.ProofKit
import Derived.OpenShut
set_option linter.unusedVariables false
namespace Go.Proofs.SX
open Go Go.Proofs Go.ChangeShapes Go.WideShapes Go.ChangeAt Go.RowKit
/-! ### Arguments that are plain: integers, bools, structs of these -/
mutual
def flatK (P : Program) : Nat → TypeId → Option (List (Option IntKind))
  | 0, _ => none
  | n + 1, t =>
    match P.underlying t with
    | some .bool => some [none]
    | some (.int k) => some [some k]
    | some (.struct fs) =>
      match flatFs P n fs.toList 0 with
      | some ks => if P.cellsOf t = ks.length then some ks else none
      | none => none
    | _ => none
def flatFs (P : Program) : Nat → List Field → Nat → Option (List (Option IntKind))
  | _, [], _ => some []
  | 0, _ :: _, _ => none
  | n + 1, f :: fs, off =>
    match flatK P n f.type with
    | some ks =>
      if f.offset = off ∧ P.cellsOf f.type = ks.length then
        match flatFs P n fs (off + ks.length) with
        | some r => some (ks ++ r)
        | none => none
      else none
    | none => none
end
def LeafsOk : List (Option IntKind) → List Value → Prop
  | [], [] => True
  | none :: ks, v :: vs => (∃ b, v = .bool b) ∧ LeafsOk ks vs
  | some k :: ks, v :: vs => (∃ n, v = .int k n ∧ (Lit.int k n).wf = true) ∧ LeafsOk ks vs
  | _, _ => False
theorem LeafsOk.append : ∀ {ks ks' : List (Option IntKind)} {vs vs' : List Value}, LeafsOk ks vs → LeafsOk ks' vs' → LeafsOk (ks ++ ks') (vs ++ vs')
  | [], ks', [], vs', _, h => h
  | [], _, _ :: _, _, h, _ => h.elim
  | none :: ks, ks', v :: vs, vs', h, h' => ⟨h.1, h.2.append h'⟩
  | some k :: ks, ks', v :: vs, vs', h, h' => ⟨h.1, h.2.append h'⟩
  | none :: _, _, [], _, h, _ => h.elim
  | some _ :: _, _, [], _, h, _ => h.elim
theorem mapM_congr' {α β : Type} {f g : α → Option β} : ∀ {l : List α}, (∀ x ∈ l, f x = g x) → l.mapM f = l.mapM g
  | [], _ => rfl
  | x :: l, h => by
    simp only [List.mapM_cons]
    rw [h x (by simp), mapM_congr' (fun y hy => h y (by simp [hy]))]
section
variable {H : Type} {enc : TypeId × Value → H} {P : Program}
theorem mapM_get {α β : Type} {f : α → Option β} : ∀ {l : List α} {xs : List β}, l.mapM f = some xs → ∀ x ∈ l, ∃ y ∈ xs, f x = some y
  | [], xs, _, x, hx => by cases hx
  | a :: l, xs, h, x, hx => by
    simp only [List.mapM_cons, Option.pure_def, Option.bind_eq_bind, Option.bind_eq_some_iff] at h
    obtain ⟨y, hy, ys, hys, h⟩ := h
    simp only [Option.some.injEq] at h
    subst h
    rcases List.mem_cons.1 hx with rfl | hx
    · exact ⟨y, by simp, hy⟩
    · obtain ⟨z, hz, hfz⟩ := mapM_get hys x hx
      exact ⟨z, by simp [hz], hfz⟩
theorem mapM_get' {α β : Type} {f : α → Option β} : ∀ {l : List α} {xs : List β}, l.mapM f = some xs → ∀ y ∈ xs, ∃ x ∈ l, f x = some y
  | [], xs, h, y, hy => by
    simp only [List.mapM_nil, Option.pure_def, Option.some.injEq] at h
    subst h; cases hy
  | a :: l, xs, h, y, hy => by
    simp only [List.mapM_cons, Option.pure_def, Option.bind_eq_bind, Option.bind_eq_some_iff] at h
    obtain ⟨z, hz, ys, hys, h⟩ := h
    simp only [Option.some.injEq] at h
    subst h
    rcases List.mem_cons.1 hy with rfl | hy
    · exact ⟨a, by simp, hz⟩
    · obtain ⟨x, hx, hfx⟩ := mapM_get' hys y hy
      exact ⟨x, by simp [hx], hfx⟩
theorem flat_leafs {w : World} {base : Nat} {spare : Nat → Bool} {held : Bool} {fuel : Nat} {cs : List Value} (IH : ∀ n t ks cs d ps, flatK P n t = some ks → DataW.trod enc P w base spare held fuel t cs = some (d, ps) → LeafsOk ks cs) :
    ∀ (n : Nat) (fs : List Field) (off : Nat) (ks : List (Option IntKind)), flatFs P n fs off = some ks → (∀ f ∈ fs, ∃ d ps, DataW.trod enc P w base spare held fuel f.type ((cs.drop f.offset).take (P.cellsOf f.type)) = some (d, ps)) → off + ks.length = cs.length → LeafsOk ks (cs.drop off)
  | n, [], off, ks, h, hf, hl => by
    cases n <;> simp only [flatFs, Option.some.injEq] at h <;> subst h
    all_goals
      have : cs.drop off = [] := List.drop_eq_nil_of_le (by simp at hl; omega)
      rw [this]; trivial
  | 0, f :: fs, off, ks, h, hf, hl => by simp [flatFs] at h
  | n + 1, f :: fs, off, ks, h, hf, hl => by
    simp only [flatFs] at h
    split at h
    · rename_i k1 hk1
      split at h
      · rename_i hoff
        split at h
        · rename_i k2 hk2
          simp only [Option.some.injEq] at h
          subst h
          obtain ⟨rfl, hc⟩ := hoff
          obtain ⟨d, ps, hd⟩ := hf f (by simp)
          have h1 := IH n f.type k1 _ d ps hk1 hd
          have h2 := flat_leafs IH n fs (f.offset + k1.length) k2 hk2 (fun g hg => hf g (by simp [hg])) (by simp at hl; omega)
          rw [hc] at h1
          have e : cs.drop f.offset = (cs.drop f.offset).take k1.length ++ cs.drop (f.offset + k1.length) := by
            rw [← List.drop_drop, List.take_append_drop]
          rw [e]
          exact h1.append h2
        · cases h
      · cases h
    · cases h
theorem flat_trod : ∀ (fuel n : Nat) (t : TypeId) (ks : List (Option IntKind)) (cs : List Value) (d : DataW H) (ps : List MemPlace) (w : World) (base : Nat) (spare : Nat → Bool) (held : Bool), flatK P n t = some ks → DataW.trod enc P w base spare held fuel t cs = some (d, ps) →
    LeafsOk ks cs ∧ ps = [] ∧ ∀ w' base' spare' held', DataW.trod enc P w' base' spare' held' fuel t cs = some (d, [])
  | 0, n, t, ks, cs, d, ps, w, base, spare, held, hk, h => by simp [DataW.trod] at h
  | fuel + 1, 0, t, ks, cs, d, ps, w, base, spare, held, hk, h => by simp [flatK] at hk
  | fuel + 1, n + 1, t, ks, cs, d, ps, w, base, spare, held, hk, h => by
    simp only [flatK] at hk
    cases hu : P.underlying t with
    | none => rw [hu] at hk; simp at hk
    | some u =>
      rw [hu] at hk
      cases u with
      | bool =>
        simp only [Option.some.injEq] at hk
        subst hk
        obtain ⟨b, rfl, hx⟩ : ∃ b, cs = [.bool b] ∧ (d, ps) = (DataW.lit (.bool b), []) := by
          unfold DataW.trod at h
          rw [hu] at h
          split at h <;> simp_all
        simp only [Prod.mk.injEq] at hx
        obtain ⟨rfl, rfl⟩ := hx
        refine ⟨⟨⟨b, rfl⟩, trivial⟩, rfl, fun w' base' spare' held' => ?_⟩
        unfold DataW.trod
        rw [hu]
      | int k =>
        simp only [Option.some.injEq] at hk
        subst hk
        obtain ⟨m, rfl, hwf, hx⟩ : ∃ m, cs = [.int k m] ∧ (Lit.int k m).wf = true ∧ (d, ps) = (DataW.lit (.int k m), []) := by
          unfold DataW.trod at h
          rw [hu] at h
          split at h <;> simp_all
        simp only [Prod.mk.injEq] at hx
        obtain ⟨rfl, rfl⟩ := hx
        refine ⟨⟨⟨m, rfl, hwf⟩, trivial⟩, rfl, fun w' base' spare' held' => ?_⟩
        unfold DataW.trod
        rw [hu]
        simp [hwf]
      | struct fs =>
        simp only at hk
        split at hk
        · rename_i ks' hfs
          split at hk
          · rename_i hc
            simp only [Option.some.injEq] at hk
            subst hk
            have hun : ∀ w base spare held, DataW.trod enc P w base spare held (fuel + 1) t cs = if cs.length = P.cellsOf t then (fs.toList.mapM fun f => DataW.trod enc P w base spare held fuel f.type ((cs.drop f.offset).take (P.cellsOf f.type))).map fun xs => (.agg (xs.map (·.1)), xs.flatMap (·.2)) else none := by
              intro w base spare held
              conv => lhs; unfold DataW.trod
              rw [hu]
            rw [hun] at h
            split at h
            · rename_i hlen
              simp only [Option.map_eq_some_iff] at h
              obtain ⟨xs, hxs, hx⟩ := h
              simp only [Prod.mk.injEq] at hx
              obtain ⟨rfl, rfl⟩ := hx
              have IH := fun n t ks cs d ps hk h => flat_trod fuel n t ks cs d ps w base spare held hk h
              have hfk : ∀ (m : Nat) (l : List Field) (off : Nat) (ks : List (Option IntKind)), flatFs P m l off = some ks → ∀ f ∈ l, ∃ k kf, flatK P k f.type = some kf := by
                intro m l
                induction l generalizing m with
                | nil => intro off ks _ f hf; cases hf
                | cons g l ih =>
                  intro off ks h f hf
                  cases m with
                  | zero => simp [flatFs] at h
                  | succ m =>
                    simp only [flatFs] at h
                    split at h
                    · rename_i k1 hk1
                      split at h
                      · split at h
                        · rename_i k2 hk2
                          rcases List.mem_cons.1 hf with rfl | hf
                          · exact ⟨m, k1, hk1⟩
                          · exact ih m _ _ hk2 f hf
                        · cases h
                      · cases h
                    · cases h
              have hget := mapM_get hxs
              have hget' := mapM_get' hxs
              refine ⟨?_, ?_, fun w' base' spare' held' => ?_⟩
              · have := flat_leafs (cs := cs) (fun n t ks cs d ps hk h => (IH n t ks cs d ps hk h).1) n fs.toList 0 ks' hfs (fun f hf => by
                  obtain ⟨y, _, hy⟩ := hget f hf
                  exact ⟨y.1, y.2, hy⟩) (by rw [Nat.zero_add, hlen, hc])
                simpa using this
              · rw [List.flatMap_eq_nil_iff]
                intro y hy
                obtain ⟨f, hf, hfy⟩ := hget' y hy
                obtain ⟨k, kf, hkf⟩ := hfk n fs.toList 0 ks' hfs f hf
                exact (IH k f.type kf _ y.1 y.2 hkf hfy).2.1
              · rw [hun, if_pos hlen]
                have hcong := mapM_congr' (l := fs.toList) (f := fun f => DataW.trod enc P w' base' spare' held' fuel f.type ((cs.drop f.offset).take (P.cellsOf f.type))) (g := fun f => DataW.trod enc P w base spare held fuel f.type ((cs.drop f.offset).take (P.cellsOf f.type))) (fun f hf => by
                  obtain ⟨y, _, hy⟩ := hget f hf
                  obtain ⟨k, kf, hkf⟩ := hfk n fs.toList 0 ks' hfs f hf
                  have h3 := IH k f.type kf _ y.1 y.2 hkf hy
                  rw [hy, h3.2.2 w' base' spare' held', ← h3.2.1])
                rw [hcong, hxs]
                simp only [Option.map_some]
                have : xs.flatMap (·.2) = [] := by
                  rw [List.flatMap_eq_nil_iff]
                  intro y hy
                  obtain ⟨f, hf, hfy⟩ := hget' y hy
                  obtain ⟨k, kf, hkf⟩ := hfk n fs.toList 0 ks' hfs f hf
                  exact (IH k f.type kf _ y.1 y.2 hkf hfy).2.1
                rw [this]
            · cases h
          · cases hk
        · cases hk
      | _ => simp at hk
theorem flat_all {w : World} {base : Nat} {spare : Nat → Bool} {held : Bool} : ∀ {ts : List TypeId} {vs : List Value} {ds : List (DataW H)} {p : List MemPlace}, (∀ t ∈ ts, ∃ n ks, flatK P n t = some ks) → DataW.TrodAll enc P w base spare held ts vs ds p →
    p = [] ∧ ∀ w' base' spare' held', DataW.TrodAll enc P w' base' spare' held' ts vs ds []
  | [], [], [], p, _, h => ⟨h, fun _ _ _ _ => rfl⟩
  | t :: ts, v :: vs, d :: ds, p, hf, h => by
    obtain ⟨p1, p2, ⟨fuel, h1⟩, h2, rfl⟩ := h
    obtain ⟨n, ks, hk⟩ := hf t (by simp)
    have a := flat_trod fuel n t ks _ d p1 w base spare held hk h1
    have b := flat_all (fun t ht => hf t (by simp [ht])) h2
    refine ⟨by rw [a.2.1, b.1]; rfl, fun w' base' spare' held' => ⟨[], [], ⟨fuel, a.2.2 _ _ _ _⟩, b.2 _ _ _ _, rfl⟩⟩
  | [], [], _ :: _, p, _, h => h.elim
  | [], _ :: _, _, p, _, h => h.elim
  | _ :: _, [], _, p, _, h => h.elim
  | _ :: _, _ :: _, [], p, _, h => h.elim
theorem flat_cells {w : World} {base : Nat} {spare : Nat → Bool} {held : Bool} {n : Nat} {t : TypeId} {v : Value} {d : DataW H} {p : List MemPlace} {ks : List (Option IntKind)} (hk : flatK P n t = some ks) (h : DataW.Trod enc P w base spare held t v d p) : LeafsOk ks v.cells.toList := by
  obtain ⟨fuel, h⟩ := h
  exact (flat_trod fuel n t ks _ d p w base spare held hk h).1
end
end Go.Proofs.SX
