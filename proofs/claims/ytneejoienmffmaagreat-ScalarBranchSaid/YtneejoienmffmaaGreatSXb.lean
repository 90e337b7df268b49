/-
  A symbolic evaluator over the model, with its proof of soundness.
-/
import Derived.Test.YtneejoienmffmaaGreatSX
set_option linter.unusedVariables false
namespace Go.Proofs.SX
open Go Go.Proofs
/-! ### Loops whose rounds are told apart -/
def keepT : List Bool → List RV → List RV
  | true :: ks, r :: t => r :: keepT ks t
  | _ :: ks, _ :: t => .any :: keepT ks t
  | [], _ :: t => .any :: keepT [] t
  | _, [] => []
theorem keepT_R {m : Nat → Option Nat} : ∀ {ks : List Bool} {t : List RV} {vs : List Value}, RL m t vs → RL m (keepT ks t) vs
  | ks, [], vs, h => by
    cases ks with
    | nil => simpa [keepT] using h
    | cons k ks => cases k <;> simpa [keepT] using h
  | ks, r :: t, vs, h => by
    simp only [RL] at h
    obtain ⟨v, us, hr, hu, rfl⟩ := h
    cases ks with
    | nil =>
      simp only [keepT, RL]
      exact ⟨v, us, by simp [R], keepT_R hu, rfl⟩
    | cons k ks =>
      cases k with
      | true =>
        simp only [keepT, RL]
        exact ⟨v, us, hr, keepT_R hu, rfl⟩
      | false =>
        simp only [keepT, RL]
        exact ⟨v, us, by simp [R], keepT_R hu, rfl⟩
def isNo : Blk → Bool
  | .no => true
  | _ => false
def trim : List Blk → List Blk
  | [] => []
  | b :: r =>
    match trim r with
    | [] => if isNo b then [] else [b]
    | x :: y => b :: x :: y
theorem isNo_eq {b : Blk} (h : isNo b = true) : b = .no := by cases b <;> first | rfl | cases h
theorem trim_get : ∀ (h : List Blk) (i : Nat), (trim h)[i]? = h[i]? ∨ ((trim h)[i]? = none ∧ ∀ x, h[i]? = some x → x = .no)
  | [], i => .inl rfl
  | b :: r, i => by
    have ih := trim_get r
    unfold trim
    split
    · rename_i h0
      split
      · rename_i hb
        right
        refine ⟨rfl, fun x hx => ?_⟩
        cases i with
        | zero => simp at hx; rw [← hx]; exact isNo_eq hb
        | succ i =>
          simp only [List.getElem?_cons_succ] at hx
          rcases ih i with h | h
          · rw [h0, hx] at h; simp at h
          · exact h.2 x hx
      · cases i with
        | zero => left; rfl
        | succ i =>
          simp only [List.getElem?_cons_succ, List.getElem?_nil]
          rcases ih i with h | h
          · left; rw [← h, h0]; simp
          · right; exact ⟨trivial, h.2⟩
    · rename_i x y h0
      cases i with
      | zero => left; rfl
      | succ i =>
        simp only [List.getElem?_cons_succ]
        rw [← h0]
        exact ih i
theorem HR.trimmed {m : Nat → Option Nat} {w0 w : World} {h : List Blk} (H : HR m w0 h w) : HR m w0 (trim h) w := by
  refine ⟨H.bel, ?_, H.rng, H.inj, ?_⟩
  · intro id x hx hne
    rcases trim_get h id with hh | hh
    · exact H.blk id x (hh ▸ hx) hne
    · rw [hh.1] at hx; cases hx
  · intro id b hm
    obtain ⟨x, hx, hne⟩ := H.dom id b hm
    rcases trim_get h id with hh | hh
    · exact ⟨x, by rw [hh]; exact hx, hne⟩
    · exact absurd (hh.2 x hx) hne
def anyB : Blk → Blk
  | .cells cs => .cells (cs.map fun _ => .any)
  | b => b
def keepB : List Bool → List Blk → List Blk
  | false :: ks, b :: r => anyB b :: keepB ks r
  | _ :: ks, b :: r => b :: keepB ks r
  | [], r => r
  | _, [] => []
theorem RL.anys {m : Nat → Option Nat} : ∀ {t : List RV} {vs : List Value}, RL m t vs → RL m (t.map fun _ => .any) vs
  | [], vs, h => by simpa using h
  | r :: t, vs, h => by
    simp only [RL] at h
    obtain ⟨v, us, hr, hu, rfl⟩ := h
    simp only [List.map_cons, RL]
    exact ⟨v, us, by simp [R], RL.anys hu, rfl⟩
theorem anyB_BR {m : Nat → Option Nat} {w : World} {k : Nat} {b : Blk} (h : BR m w k b) : BR m w k (anyB b) := by
  cases b with
  | cells cs =>
    obtain ⟨vs, t, h1, h2⟩ := h
    exact ⟨vs, t, h1.anys, h2⟩
  | _ => exact h
theorem anyB_no {b : Blk} : anyB b = .no ↔ b = .no := by cases b <;> simp [anyB]
theorem keepB_get : ∀ (ks : List Bool) (h : List Blk) (i : Nat), (keepB ks h)[i]? = h[i]? ∨ ∃ b, h[i]? = some b ∧ (keepB ks h)[i]? = some (anyB b)
  | [], [], i => .inl rfl
  | [], b :: r, i => .inl rfl
  | k :: ks, [], i => by left; cases k <;> rfl
  | k :: ks, b :: r, i => by
    cases k with
    | true =>
      cases i with
      | zero => left; rfl
      | succ i => simp only [keepB, List.getElem?_cons_succ]; exact keepB_get ks r i
    | false =>
      cases i with
      | zero => right; exact ⟨b, rfl, rfl⟩
      | succ i => simp only [keepB, List.getElem?_cons_succ]; exact keepB_get ks r i
theorem HR.kept {m : Nat → Option Nat} {w0 w : World} {h : List Blk} (H : HR m w0 h w) (ks : List Bool) : HR m w0 (keepB ks h) w := by
  refine ⟨H.bel, ?_, H.rng, H.inj, ?_⟩
  · intro id x hx hne
    rcases keepB_get ks h id with hh | ⟨b, h1, h2⟩
    · exact H.blk id x (hh ▸ hx) hne
    · rw [h2] at hx
      injection hx with hx
      subst hx
      obtain ⟨c, hc, hb⟩ := H.blk id b h1 (fun h => hne (anyB_no.2 h))
      exact ⟨c, hc, anyB_BR hb⟩
  · intro id b hm
    obtain ⟨x, hx, hne⟩ := H.dom id b hm
    rcases keepB_get ks h id with hh | ⟨c, h1, h2⟩
    · exact ⟨x, by rw [hh]; exact hx, hne⟩
    · rw [hx] at h1
      injection h1 with h1
      subst h1
      exact ⟨_, h2, fun h => hne (anyB_no.1 h)⟩
def keepS (ks : List Bool × List Bool) (s : St) : St := { t := keepT ks.1 s.t, h := keepB ks.2 (trim s.h) }
theorem Sim.keep {m : Nat → Option Nat} {w0 w : World} {s : St} {a : Act} (h : Sim m w0 s a w) (ks : List Bool × List Bool) : Sim m w0 (keepS ks s) a w :=
  ⟨keepT_R h.tm, h.df, h.hp.trimmed.kept ks.2⟩
/-- How a loop ends. -/
inductive Out (α β : Type) where
  | brk (a : α)
  | ret (b : β)
def evC (P : Program) (orc : Orc) (n : Nat) (c : Code) (s : St) (ds : D) (ks : List Bool × List Bool) : Option (Xit × St × Prop) :=
  match evCode P orc n c s ds with
  | some (x, s', _, q) => some (x, keepS ks s', holds q)
  | none => none
/-- From this state the code comes to that one. -/
def CG (P : Program) (c : Code) (s : St) (x : Xit) (s' : St) : Prop := ∀ m w0 a w Q, Sim m w0 s a w → (∀ m' a' w', Ext m m' → Sim m' w0 s' a' w' → Q (Xit.to x) a' w') → c.wp P Q a w
def LG (P : Program) (c : Code) (n : Nat) (s : St) (x : Xit) (s' : St) : Prop := ∀ m w0 a w Q, Sim m w0 s a w → (∀ m' a' w', Ext m m' → Sim m' w0 s' a' w' → Q (Xit.to x) a' w') → Code.rounds P c Q n a w
section
variable {P : Program} {orc : Orc}
theorem cg_of (hmix : P.follows .mixedOrders = true) (ho : OrcOk P orc) (n : Nat) {c : Code} {s s' : St} {x : Xit} (ds : D) (ks : List Bool × List Bool) {q : Prop} (hq : q) (he : evC P orc n c s ds ks = some (x, s', q)) : CG P c s x s' := by
  unfold evC at he
  split at he
  · rename_i x1 s1 ds1 q1 h1
    simp only [Option.some.injEq, Prod.mk.injEq] at he
    obtain ⟨rfl, rfl, rfl⟩ := he
    intro m w0 a w Q hs hQ
    exact (all_ok hmix ho n).2.1 _ _ _ _ _ _ _ h1 hq m w0 a w Q hs fun m' a' w' hext hsim => hQ m' a' w' hext (hsim.keep ks)
  · cases he
/-- The questions' answers as one sentence. -/
def evH (P : Program) (orc : Orc) (n f : Nat) (args : List RV) (ds : D) : Option (RV × Prop) :=
  match evR P orc n f args ds with
  | some (r, q) => some (r, holds q)
  | none => none
theorem gv (hmix : P.follows .mixedOrders = true) (ho : OrcOk P orc) (n : Nat) {f : Nat} {args : List RV} (ds : D) {r : RV} {q : Prop} (hq : q) (he : evH P orc n f args ds = some (r, q)) (hp : pure? r = true) (ha : pureL? args = true) : Gives P f args r := by
  unfold evH at he
  split at he
  · rename_i r' q' h1
    simp only [Option.some.injEq, Prod.mk.injEq] at he
    obtain ⟨rfl, rfl⟩ := he
    exact gives hmix ho n ds q' h1 hp ha hq
  · cases he
theorem cg_seq {a b : Code} {s s1 s' : St} {x : Xit} (h1 : CG P a s .norm s1) (h2 : CG P b s1 x s') : CG P (a.seq b) s x s' := fun m w0 ac w Q hs hQ =>
  wp_seq (h1 m w0 ac w _ hs fun m' a' w' hext hsim => h2 m' w0 a' w' Q hsim fun m'' a'' w'' hext' hsim' => hQ m'' a'' w'' (hext.trans hext') hsim')
theorem cg_seq_ret {a b : Code} {s s' : St} (h1 : CG P a s .ret s') : CG P (a.seq b) s .ret s' := fun m w0 ac w Q hs hQ =>
  wp_seq (h1 m w0 ac w _ hs fun m' a' w' hext hsim => hQ m' a' w' hext hsim)
theorem cg_seq_exit {a b : Code} {s s' : St} {i : Nat} (h1 : CG P a s (.exit i) s') : CG P (a.seq b) s (.exit i) s' := fun m w0 ac w Q hs hQ =>
  wp_seq (h1 m w0 ac w _ hs fun m' a' w' hext hsim => hQ m' a' w' hext hsim)
theorem cg_block {id : Nat} {c : Code} {s s' : St} (h : CG P c s (.exit id) s') : CG P (.block id c) s .norm s' := fun m w0 ac w Q hs hQ =>
  wp_block (h m w0 ac w _ hs fun m' a' w' hext hsim => by
    simp only [Xit.to, Exit.inBlock, if_true]
    exact hQ m' a' w' hext hsim)
theorem cg_block_ret {id : Nat} {c : Code} {s s' : St} (h : CG P c s .ret s') : CG P (.block id c) s .ret s' := fun m w0 ac w Q hs hQ =>
  wp_block (h m w0 ac w _ hs fun m' a' w' hext hsim => hQ m' a' w' hext hsim)
theorem cg_block_norm {id : Nat} {c : Code} {s s' : St} (h : CG P c s .norm s') : CG P (.block id c) s .norm s' := fun m w0 ac w Q hs hQ =>
  wp_block (h m w0 ac w _ hs fun m' a' w' hext hsim => hQ m' a' w' hext hsim)
theorem cg_loop {c : Code} {s s' : St} {x : Xit} {n : Nat} (h : LG P c n s x s') : CG P (.loop c) s x s' := fun m w0 a w Q hs hQ =>
  wp_loop_rounds n (h m w0 a w Q hs hQ)
theorem lg_next {c : Code} {s s1 s' : St} {x : Xit} {n : Nat} (h1 : CG P c s .norm s1) (h2 : LG P c n s1 x s') : LG P c (n + 1) s x s' := fun m w0 a w Q hs hQ =>
  h1 m w0 a w _ hs fun m' a' w' hext hsim => h2 m' w0 a' w' Q hsim fun m'' a'' w'' hext' hsim' => hQ m'' a'' w'' (hext.trans hext') hsim'
theorem lg_exit {c : Code} {s s' : St} {i n : Nat} (h1 : CG P c s (.exit i) s') : LG P c (n + 1) s (.exit i) s' := fun m w0 a w Q hs hQ =>
  h1 m w0 a w _ hs fun m' a' w' hext hsim => hQ m' a' w' hext hsim
theorem lg_ret {c : Code} {s s' : St} {n : Nat} (h1 : CG P c s .ret s') : LG P c (n + 1) s .ret s' := fun m w0 a w Q hs hQ =>
  h1 m w0 a w _ hs fun m' a' w' hext hsim => hQ m' a' w' hext hsim
theorem cg_keep {c : Code} {s s' : St} {x : Xit} (h : CG P c s x s') (ks : List Bool × List Bool) : CG P c s x (keepS ks s') := fun m w0 a w Q hs hQ =>
  h m w0 a w Q hs fun m' a' w' hext hsim => hQ m' a' w' hext (hsim.keep ks)
/-- A function's result, by what its code comes to. -/
def resOf (P : Program) (fn : Func) (s : St) : Option RV :=
  match ressR P s.t s.h fn.results.toList with
  | some rs => some (oneRes rs)
  | none => none
theorem gives_cg {f : FuncId} {fn : Func} {c : Code} (hf : P.funcs[f]? = some fn) (hb : fn.body = some c) {args : List RV} (ha : pureL? args = true) {s' : St} (h : CG P c { t := args ++ List.replicate (fn.ntmps - args.length) (.tup []), h := [] } .ret s')
    {r : RV} (hp : pure? r = true) (hr : resOf P fn s' = some r) : Gives P f args r := by
  intro w
  unfold resOf at hr
  split at hr
  · rename_i rs hrs
    simp only [Option.some.injEq] at hr
    subst hr
    refine calls_of_wp hf hb ?_
    have hA : RL M0 args (valsOf args) := (RL_valsOf ha).2 rfl
    refine h M0 w _ w _ ⟨?_, rfl, HR.none w⟩ fun m' a' w' hext hsim => ?_
    · have hl := hA.length
      have e : ((⟨valsOf args⟩ : Array Value) ++ Array.replicate (fn.ntmps - (⟨valsOf args⟩ : Array Value).size) undef).toList = valsOf args ++ List.replicate (fn.ntmps - args.length) undef := by simp [hl]
      rw [e]
      exact hA.append (RL.replicate undef_R _)
    · obtain ⟨v, h1, h2⟩ := results_run hrs hsim
      rw [(R_valOf hp).1 h2] at h1
      exact ⟨hsim.df, _, h1, rfl, hsim.hp.bel⟩
  · cases hr
end
theorem gite {P : Program} {f : FuncId} {ar : List RV} {ω : Type} {C : Cod ω} {c : Prop} [Decidable c] {x y : ω} (h1 : c → Gives P f ar (C.enc x)) (h2 : ¬ c → Gives P f ar (C.enc y)) : Gives P f ar (C.enc (if c then x else y)) := by
  by_cases h : c
  · rw [if_pos h]; exact h1 h
  · rw [if_neg h]; exact h2 h
def bodyOf (fn : Func) : Code :=
  match fn.body with
  | some c => c
  | none => .skip
def fst : Code → Code
  | .seq a _ => a
  | _ => .skip
def snd : Code → Code
  | .seq _ b => b
  | _ => .skip
def inn : Code → Code
  | .block _ a => a
  | .loop a => a
  | _ => .skip
/-! ### Short names for what is printed often -/
abbrev t0 : Nat × Bool := (0, true)
abbrev f0 : Nat × Bool := (0, false)
theorem ai {a b : Prop} (h : a) (k : b) : a ∧ b := ⟨h, k⟩
theorem cn {a b : Bool} (h : a = b) : (!a) = (!b) := h ▸ rfl
theorem be {a b : Int} (h : a = b) : (a == b) = true := beq_iff_eq.2 h
theorem bn {a b : Int} (h : ¬ a = b) : (a == b) = false := beq_eq_false_iff_ne.2 h
theorem dt {p : Prop} [Decidable p] (h : p) : decide p = true := decide_eq_true h
theorem df {p : Prop} [Decidable p] (h : ¬ p) : decide p = false := decide_eq_false h
theorem bf {b : Bool} (h : ¬ b = true) : b = false := Bool.eq_false_iff.2 h
end Go.Proofs.SX
