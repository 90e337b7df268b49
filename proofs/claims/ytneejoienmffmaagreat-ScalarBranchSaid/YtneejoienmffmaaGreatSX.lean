/- A VERIFIED EVALUATOR of Go code over its own memory: what a call of straight code comes to is reckoned by the kernel, on numbers that stay names; tests are told ahead ('asked'), and each answer is owed. No program is named here. -/
import Derived.Tactics
import Derived.Orders
import Derived.Below
import Derived.Laws.Cells
import Derived.Laws.Tables
import Derived.Laws.StructEq
import Derived.Laws.Entries
import Derived.Laws.CopyRow
import Derived.ChangeKeysEq
import Derived.MapKept
import Derived.Great.BuildSlice
import Derived.LoopN
set_option linter.unusedVariables false
set_option linter.unusedSimpArgs false
namespace Go.Proofs.SX
open Go Go.RowKit

/-! ### Values with relative block numbers -/
inductive RV where
  | any
  | bool (b : Bool)
  | int (k : IntKind) (n : Int)
  | str (s : ByteArray)
  | ptr (id off : Nat)
  | nilp
  | slice (id off len cap : Nat)
  | nils
  | map (id : Nat)
  | func (f : Nat) (cs : List RV)
  | nilf
  | agg (cs : List RV)
  | tup (cs : List RV)

mutual
def R (m : Nat → Option Nat) : RV → Value → Prop
  | .any, _ => True
  | .bool b, v => v = .bool b
  | .int k n, v => v = .int k n
  | .str s, v => v = .string s
  | .ptr id off, v => ∃ b, m id = some b ∧ v = .pointer (some ⟨b, off, none⟩)
  | .nilp, v => v = .pointer none
  | .slice id off len cap, v => ∃ b, m id = some b ∧ v = .slice (some ⟨b, off, none⟩) len cap
  | .nils, v => v = .slice none 0 0
  | .map id, v => ∃ b, m id = some b ∧ v = .map (some b)
  | .func f cs, v => ∃ vs, RL m cs vs ∧ v = .func (.func f) #[] ⟨vs⟩
  | .nilf, v => v = .nilFunc
  | .agg cs, v => ∃ vs, RL m cs vs ∧ v = .agg ⟨vs⟩
  | .tup cs, v => ∃ vs, RL m cs vs ∧ v = .tuple ⟨vs⟩
def RL (m : Nat → Option Nat) : List RV → List Value → Prop
  | [], vs => vs = []
  | r :: rs, vs => ∃ v vs', R m r v ∧ RL m rs vs' ∧ vs = v :: vs'
end

def Ext (m m' : Nat → Option Nat) : Prop := ∀ i b, m i = some b → m' i = some b
theorem Ext.refl (m : Nat → Option Nat) : Ext m m := fun _ _ h => h
theorem Ext.trans {m m' m'' : Nat → Option Nat} (h : Ext m m') (k : Ext m' m'') : Ext m m'' := fun i b hb => k i b (h i b hb)

mutual
theorem R.ext {m m' : Nat → Option Nat} (e : Ext m m') : ∀ {r : RV} {v : Value}, R m r v → R m' r v
  | .any, _, _ => by simp [R]
  | .bool b, v, h => by simpa [R] using h
  | .int k n, v, h => by simpa [R] using h
  | .str s, v, h => by simpa [R] using h
  | .ptr id off, v, h => by
    simp only [R] at h ⊢
    obtain ⟨b, hb, hv⟩ := h
    exact ⟨b, e _ _ hb, hv⟩
  | .nilp, v, h => by simpa [R] using h
  | .slice id off len cap, v, h => by
    simp only [R] at h ⊢
    obtain ⟨b, hb, hv⟩ := h
    exact ⟨b, e _ _ hb, hv⟩
  | .nils, v, h => by simpa [R] using h
  | .map id, v, h => by
    simp only [R] at h ⊢
    obtain ⟨b, hb, hv⟩ := h
    exact ⟨b, e _ _ hb, hv⟩
  | .func f cs, v, h => by
    simp only [R] at h ⊢
    obtain ⟨vs, hb, hv⟩ := h
    exact ⟨vs, RL.ext e hb, hv⟩
  | .nilf, v, h => by simpa [R] using h
  | .agg cs, v, h => by
    simp only [R] at h ⊢
    obtain ⟨vs, hb, hv⟩ := h
    exact ⟨vs, RL.ext e hb, hv⟩
  | .tup cs, v, h => by
    simp only [R] at h ⊢
    obtain ⟨vs, hb, hv⟩ := h
    exact ⟨vs, RL.ext e hb, hv⟩
theorem RL.ext {m m' : Nat → Option Nat} (e : Ext m m') : ∀ {rs : List RV} {vs : List Value}, RL m rs vs → RL m' rs vs
  | [], vs, h => by simpa [RL] using h
  | r :: rs, vs, h => by
    simp only [RL] at h ⊢
    obtain ⟨v, vs', h1, h2, h3⟩ := h
    exact ⟨v, vs', R.ext e h1, RL.ext e h2, h3⟩
end

section
variable {m : Nat → Option Nat}
theorem RL.length : ∀ {rs : List RV} {vs : List Value}, RL m rs vs → vs.length = rs.length
  | [], vs, h => by simp only [RL] at h; subst h; rfl
  | r :: rs, vs, h => by
    simp only [RL] at h
    obtain ⟨v, vs', _, h2, rfl⟩ := h
    simp [RL.length h2]
theorem RL.get : ∀ {rs : List RV} {vs : List Value} {i : Nat} {r : RV}, RL m rs vs → rs[i]? = some r → ∃ v, vs[i]? = some v ∧ R m r v
  | [], vs, i, r, _, hi => by simp at hi
  | r0 :: rs, vs, i, r, h, hi => by
    simp only [RL] at h
    obtain ⟨v, vs', h1, h2, rfl⟩ := h
    cases i with
    | zero => simp at hi; subst hi; exact ⟨v, by simp, h1⟩
    | succ i =>
      obtain ⟨u, hu, hr⟩ := RL.get h2 (i := i) (by simpa using hi)
      exact ⟨u, by simpa using hu, hr⟩
theorem RL.set : ∀ {rs : List RV} {vs : List Value} {i : Nat} {r : RV} {v : Value}, RL m rs vs → R m r v → RL m (rs.set i r) (vs.set i v)
  | [], vs, i, r, v, h, _ => by simp only [RL] at h; subst h; simp [RL]
  | r0 :: rs, vs, i, r, v, h, hr => by
    simp only [RL] at h
    obtain ⟨v0, vs', h1, h2, rfl⟩ := h
    cases i with
    | zero => simp only [List.set_cons_zero, RL]; exact ⟨v, vs', hr, h2, rfl⟩
    | succ i => simp only [List.set_cons_succ, RL]; exact ⟨v0, _, h1, RL.set h2 hr, rfl⟩
theorem RL.append : ∀ {rs : List RV} {vs : List Value} {rs' : List RV} {vs' : List Value}, RL m rs vs → RL m rs' vs' → RL m (rs ++ rs') (vs ++ vs')
  | [], vs, rs', vs', h, h' => by simp only [RL] at h; subst h; simpa using h'
  | r :: rs, vs, rs', vs', h, h' => by
    simp only [RL] at h
    obtain ⟨v, vs1, h1, h2, rfl⟩ := h
    simp only [List.cons_append, RL]
    exact ⟨v, _, h1, RL.append h2 h', rfl⟩
theorem RL.take : ∀ {rs : List RV} {vs : List Value} (n : Nat), RL m rs vs → RL m (rs.take n) (vs.take n)
  | [], vs, n, h => by simp only [RL] at h; subst h; simp [RL]
  | r :: rs, vs, 0, h => by simp [RL]
  | r :: rs, vs, n + 1, h => by
    simp only [RL] at h
    obtain ⟨v, vs1, h1, h2, rfl⟩ := h
    simp only [List.take_succ_cons, RL]
    exact ⟨v, _, h1, RL.take n h2, rfl⟩
theorem RL.drop : ∀ {rs : List RV} {vs : List Value} (n : Nat), RL m rs vs → RL m (rs.drop n) (vs.drop n)
  | [], vs, n, h => by simp only [RL] at h; subst h; simp [RL]
  | r :: rs, vs, 0, h => by simpa using h
  | r :: rs, vs, n + 1, h => by
    simp only [RL] at h
    obtain ⟨v, vs1, h1, h2, rfl⟩ := h
    simpa using RL.drop n h2
theorem RL.replicate {r : RV} {v : Value} (h : R m r v) : ∀ n, RL m (List.replicate n r) (List.replicate n v)
  | 0 => by simp [RL]
  | n + 1 => by simp only [List.replicate_succ, RL]; exact ⟨v, _, h, RL.replicate h n, rfl⟩
theorem RL.one {r : RV} {v : Value} (h : R m r v) : RL m [r] [v] := by simp only [RL]; exact ⟨v, [], h, rfl, rfl⟩
theorem RL.nil : RL m [] [] := by simp [RL]
theorem RL.cons {r : RV} {v : Value} {rs : List RV} {vs : List Value} (h : R m r v) (h' : RL m rs vs) : RL m (r :: rs) (v :: vs) := by simp only [RL]; exact ⟨v, vs, h, h', rfl⟩
end

/-! ### Plain values -/
mutual
def pure? : RV → Bool
  | .bool _ => true
  | .int _ _ => true
  | .str _ => true
  | .nilp => true
  | .nils => true
  | .nilf => true
  | .agg cs => pureL? cs
  | .tup cs => pureL? cs
  | .func _ cs => pureL? cs
  | _ => false
def pureL? : List RV → Bool
  | [] => true
  | r :: rs => pure? r && pureL? rs
end
def M0 : Nat → Option Nat := fun _ => none
theorem ext0 (m : Nat → Option Nat) : Ext M0 m := fun _ _ h => by simp [M0] at h
mutual
theorem R.pure {m m' : Nat → Option Nat} : ∀ {r : RV} {v : Value}, pure? r = true → R m r v → R m' r v
  | .any, _, h, _ => by simp [pure?] at h
  | .bool b, v, _, h => by simpa [R] using h
  | .int k n, v, _, h => by simpa [R] using h
  | .str s, v, _, h => by simpa [R] using h
  | .ptr id off, v, h, _ => by simp [pure?] at h
  | .nilp, v, _, h => by simpa [R] using h
  | .slice id off len cap, v, h, _ => by simp [pure?] at h
  | .nils, v, _, h => by simpa [R] using h
  | .map id, v, h, _ => by simp [pure?] at h
  | .func f cs, v, hp, h => by
    simp only [R] at h ⊢
    simp only [pure?] at hp
    obtain ⟨vs, hb, hv⟩ := h
    exact ⟨vs, RL.pure hp hb, hv⟩
  | .nilf, v, _, h => by simpa [R] using h
  | .agg cs, v, hp, h => by
    simp only [R] at h ⊢
    simp only [pure?] at hp
    obtain ⟨vs, hb, hv⟩ := h
    exact ⟨vs, RL.pure hp hb, hv⟩
  | .tup cs, v, hp, h => by
    simp only [R] at h ⊢
    simp only [pure?] at hp
    obtain ⟨vs, hb, hv⟩ := h
    exact ⟨vs, RL.pure hp hb, hv⟩
theorem RL.pure {m m' : Nat → Option Nat} : ∀ {rs : List RV} {vs : List Value}, pureL? rs = true → RL m rs vs → RL m' rs vs
  | [], vs, _, h => by simpa [RL] using h
  | r :: rs, vs, hp, h => by
    simp only [RL] at h ⊢
    simp only [pureL?, Bool.and_eq_true] at hp
    obtain ⟨v, vs', h1, h2, h3⟩ := h
    exact ⟨v, vs', R.pure hp.1 h1, RL.pure hp.2 h2, h3⟩
end

def ofLeaf : Value → Option RV
  | .bool b => some (.bool b)
  | .int k n => some (.int k n)
  | .string s => some (.str s)
  | .pointer none => some .nilp
  | .slice none 0 0 => some .nils
  | .nilFunc => some .nilf
  | _ => none
def ofLeafs : List Value → Option (List RV)
  | [] => some []
  | v :: vs => match ofLeaf v with
    | some r => match ofLeafs vs with
      | some rs => some (r :: rs)
      | none => none
    | none => none
def ofVal : Value → Option RV
  | .agg cs => match ofLeafs cs.toList with
    | some rs => some (.agg rs)
    | none => none
  | .tuple vs => match vs.toList with
    | [] => some (.tup [])
    | _ => none
  | v => ofLeaf v
theorem ofLeaf_R {m : Nat → Option Nat} {v : Value} {r : RV} (h : ofLeaf v = some r) : R m r v := by
  unfold ofLeaf at h
  split at h <;> first | (injection h with h; subst h; simp [R]) | cases h
theorem ofLeafs_R {m : Nat → Option Nat} : ∀ {vs : List Value} {rs : List RV}, ofLeafs vs = some rs → RL m rs vs
  | [], rs, h => by simp only [ofLeafs, Option.some.injEq] at h; subst h; exact RL.nil
  | v :: vs, rs, h => by
    simp only [ofLeafs] at h
    cases h1 : ofLeaf v with
    | none => rw [h1] at h; cases h
    | some r =>
      rw [h1] at h
      cases h2 : ofLeafs vs with
      | none => rw [h2] at h; cases h
      | some rs' =>
        rw [h2] at h
        simp only [Option.some.injEq] at h
        subst h
        exact RL.cons (ofLeaf_R h1) (ofLeafs_R h2)
theorem ofVal_R {m : Nat → Option Nat} {v : Value} {r : RV} (h : ofVal v = some r) : R m r v := by
  unfold ofVal at h
  split at h
  · rename_i cs
    cases h2 : ofLeafs cs.toList with
    | none => rw [h2] at h; cases h
    | some rs =>
      rw [h2] at h
      simp only [Option.some.injEq] at h
      subst h
      simp only [R]
      exact ⟨cs.toList, ofLeafs_R h2, rfl⟩
  · rename_i vs
    split at h
    · rename_i h2
      injection h with h
      subst h
      simp only [R]
      exact ⟨[], RL.nil, by rw [← h2]⟩
    · cases h
  · exact ofLeaf_R h

/-! ### States -/
inductive Blk where
  | no
  | cells (cs : List RV)
  | map (es : List (RV × RV))
structure St where
  t : List RV
  h : List Blk

def RM (m : Nat → Option Nat) : List (RV × RV) → List MapEntry → Prop
  | [], es => es = []
  | (k, v) :: rest, es => ∃ e es', R m k e.key ∧ R m v e.val ∧ RM m rest es' ∧ es = e :: es'
theorem RM.ext {m m' : Nat → Option Nat} (e : Ext m m') : ∀ {rs : List (RV × RV)} {vs : List MapEntry}, RM m rs vs → RM m' rs vs
  | [], vs, h => by simpa [RM] using h
  | (k, v) :: rs, vs, h => by
    simp only [RM] at h ⊢
    obtain ⟨x, vs', h0, h1, h2, h3⟩ := h
    exact ⟨x, vs', h0.ext e, h1.ext e, RM.ext e h2, h3⟩
def BR (m : Nat → Option Nat) (w : World) (b : Nat) : Blk → Prop
  | .no => True
  | .cells cs => ∃ vs t, RL m cs vs ∧ w.heap[b]? = some (.cells ⟨vs⟩ t (0, 0))
  | .map es => ∃ vs c, RM m es vs ∧ w.heap[b]? = some (.map ⟨vs⟩ c)
theorem BR.ext {m m' : Nat → Option Nat} {w w' : World} {b : Nat} (e : Ext m m') (hw : w'.heap[b]? = w.heap[b]?) : ∀ {x : Blk}, BR m w b x → BR m' w' b x
  | .no, _ => trivial
  | .cells cs, ⟨vs, t, h, hb⟩ => ⟨vs, t, h.ext e, hw.trans hb⟩
  | .map es, ⟨vs, c, h, hb⟩ => ⟨vs, c, h.ext e, hw.trans hb⟩

/-- The blocks: what is told of the call's own memory. -/
structure HR (m : Nat → Option Nat) (w0 : World) (h : List Blk) (w : World) : Prop where
  bel : Below w0.heap.size w0 w
  blk : ∀ id x, h[id]? = some x → x ≠ .no → ∃ b, m id = some b ∧ BR m w b x
  rng : ∀ id b, m id = some b → w0.heap.size ≤ b ∧ b < w.heap.size
  inj : ∀ i j b, m i = some b → m j = some b → i = j
  dom : ∀ id b, m id = some b → ∃ x, h[id]? = some x ∧ x ≠ .no
structure Sim (m : Nat → Option Nat) (w0 : World) (s : St) (a : Act) (w : World) : Prop where
  tm : RL m s.t a.tmps.toList
  df : a.defers = []
  hp : HR m w0 s.h w

/-! ### Questions -/
abbrev D := List (Nat × Bool)
abbrev Qs := List (Bool × Bool)
def holds : Qs → Prop
  | [] => True
  | (b, d) :: r => b = d ∧ holds r
theorem holds_append : ∀ {a b : Qs}, holds (a ++ b) ↔ holds a ∧ holds b
  | [], b => by simp [holds]
  | (x, d) :: a, b => by simp only [List.cons_append, holds, holds_append (a := a), and_assoc]
def ask (b : Bool) : D → Bool × D × Qs
  | [] => (b, [], [])
  | (0, d) :: r => (d, r, [(b, d)])
  | (n + 1, d) :: r => (b, (n, d) :: r, [])
theorem ask_spec {b x : Bool} {ds ds' : D} {q : Qs} (h : ask b ds = (x, ds', q)) (hq : holds q) : x = b := by
  unfold ask at h
  split at h
  · injection h with h1 h2; exact h1.symm
  · injection h with h1 h2
    injection h2 with h2 h3
    subst h3; subst h1
    exact hq.1.symm
  · injection h with h1 h2; exact h1.symm

/-! ### Types -/
section
variable (P : Program)
def szP (t : TypeId) : Option Nat :=
  match P.info? t with
  | some i => some i.size
  | none => none
def aggP (t : TypeId) : Option Bool :=
  match P.underlying t with
  | some (.struct _) => some true
  | some (.array _ _) => some true
  | some _ => some false
  | none => none
def zeroP (t : TypeId) : Option Value :=
  match P.info? t with
  | some i => i.zero
  | none => none
end
section
variable {P : Program} (w : World)
theorem run_szP {t : TypeId} {n : Nat} (h : szP P t = some n) : (Go.sizeOf t).run P w = .ok n w := by
  unfold szP at h
  split at h
  · rename_i i hi
    injection h with h
    subst h
    simp [Go.sizeOf, typeInfo, hi]
  · cases h
theorem info_szP {t : TypeId} {n : Nat} (h : szP P t = some n) : (P.info? t).map (·.size) = some n := by
  unfold szP at h
  split at h
  · rename_i i hi
    rw [hi]; exact h
  · cases h
theorem run_aggP {t : TypeId} {b : Bool} (h : aggP P t = some b) : (isAgg t).run P w = .ok b w := by
  unfold aggP at h
  split at h <;> first | (cases h; done) | skip
  · rename_i hu; injection h with h; subst h; simp [isAgg, run_underlying hu]
  · rename_i hu; injection h with h; subst h; simp [isAgg, run_underlying hu]
  · rename_i d h1 h2 hu
    injection h with h
    subst h
    cases d <;> simp_all [isAgg, run_underlying hu]
theorem run_zeroP {t : TypeId} {v : Value} (h : zeroP P t = some v) : (zeroValue t).run P w = .ok v w := by
  unfold zeroP at h
  split at h
  · rename_i i hi
    simp [zeroValue, typeInfo, hi, h]
  · cases h
end

/-! ### Parts of values -/
def cellsR : RV → List RV
  | .agg cs => cs
  | r => [r]
def knownR : RV → Bool
  | .any => false
  | _ => true
def oneR : RV → Bool
  | .any => false
  | .agg _ => false
  | .tup _ => false
  | _ => true
section
variable {m : Nat → Option Nat}
theorem cellsR_R {r : RV} {v : Value} (hk : knownR r = true) (h : R m r v) : RL m (cellsR r) v.cells.toList := by
  cases r <;> simp only [R] at h <;> first
    | (simp [knownR] at hk; done)
    | (obtain ⟨vs, hb, rfl⟩ := h; simp only [cellsR, Value.cells]; first | exact hb | exact RL.one (by simp only [R]; exact ⟨vs, hb, rfl⟩))
    | (obtain ⟨b, hb, rfl⟩ := h; simp only [cellsR, Value.cells]; exact RL.one (by simp only [R]; exact ⟨b, hb, rfl⟩))
    | (subst h; simp only [cellsR, Value.cells]; exact RL.one (by simp [R]))
theorem oneR_one {r : RV} {v : Value} (hk : oneR r = true) (h : R m r v) : v.oneCell' = true := by
  cases r <;> simp only [R] at h <;> first
    | (simp [oneR] at hk; done)
    | (obtain ⟨vs, hb, rfl⟩ := h; first | rfl | (simp [oneR] at hk))
    | (subst h; rfl)
theorem oneR_all {rs : List RV} {vs : List Value} (hk : rs.all oneR = true) (h : RL m rs vs) : ∀ v ∈ vs, v.oneCell' = true := by
  induction rs generalizing vs with
  | nil => simp only [RL] at h; subst h; simp
  | cons r rs ih =>
    simp only [RL] at h
    obtain ⟨v, vs', h1, h2, rfl⟩ := h
    simp only [List.all_cons, Bool.and_eq_true] at hk
    intro u hu
    rcases List.mem_cons.1 hu with rfl | hu
    · exact oneR_one hk.1 h1
    · exact ih hk.2 h2 u hu
end

/-- A part of an aggregate. -/
def partR (P : Program) (t : TypeId) (cs : List RV) (off : Nat) : Option RV :=
  match aggP P t with
  | some true =>
    match szP P t with
    | some n => some (.agg ((cs.drop off).take n))
    | none => none
  | some false => cs[off]?
  | none => none
theorem extract_list (vs : List Value) (a n : Nat) : ((⟨vs⟩ : Array Value).extract a (a + n)) = ⟨(vs.drop a).take n⟩ := by
  apply Array.ext'
  simp [Array.toList_extract, List.extract_eq_take_drop]
theorem partR_run {P : Program} {m : Nat → Option Nat} {t : TypeId} {cs : List RV} {vs : List Value} {off : Nat} {r : RV} (w : World) (h : partR P t cs off = some r) (hR : RL m cs vs) :
    ∃ v, (part t ⟨vs⟩ off).run P w = .ok v w ∧ R m r v := by
  unfold partR at h
  split at h
  · rename_i ha
    split at h
    · rename_i n hn
      injection h with h
      subst h
      refine ⟨.agg ⟨(vs.drop off).take n⟩, ?_, ?_⟩
      · simp [part, run_aggP w ha, run_szP w hn, extract_list]
      · simp only [R]; exact ⟨_, (hR.drop off).take n, rfl⟩
    · cases h
  · rename_i ha
    obtain ⟨v, hv, hr⟩ := hR.get h
    exact ⟨v, by simp [part, run_aggP w ha, hv], hr⟩
  · cases h

/-! ### Equality -/
def andR (a b : Bool) : Bool := a && b
mutual
def eqR (P : Program) : Nat → TypeId → RV → RV → Option Bool
  | 0, _, _, _ => none
  | n + 1, t, x, y =>
    match P.underlying t, x, y with
    | some .bool, .bool a, .bool b => some (a == b)
    | some (.int _), .int k a, .int k' b => if k = k' then some (a == b) else none
    | some (.func _ _ _), .nilf, .nilf => some true
    | some (.func _ _ _), .nilf, .func _ _ => some false
    | some (.func _ _ _), .func _ _, .nilf => some false
    | some (.struct fs), .agg xs, .agg ys =>
      if P.stoodInHeld t then none else eqFs P n fs.toList xs ys
    | some (.array len e), .agg xs, .agg ys =>
      match szP P e with
      | some s => eqAs P n e s (List.range len) xs ys
      | none => none
    | _, _, _ => none
def eqFs (P : Program) : Nat → List Field → List RV → List RV → Option Bool
  | 0, _, _, _ => none
  | n + 1, [], _, _ => some true
  | n + 1, f :: fs, xs, ys =>
    if f.name == "_" then eqFs P n fs xs ys else
    match partR P f.type xs f.offset, partR P f.type ys f.offset with
    | some a, some b =>
      match eqR P n f.type a b with
      | some r =>
        match fs with
        | [] => some r
        | _ => match eqFs P n fs xs ys with
          | some s => some (r && s)
          | none => none
      | none => none
    | _, _ => none
def eqAs (P : Program) : Nat → TypeId → Nat → List Nat → List RV → List RV → Option Bool
  | 0, _, _, _, _, _ => none
  | n + 1, _, _, [], _, _ => some true
  | n + 1, e, s, i :: is, xs, ys =>
    match partR P e xs (i * s), partR P e ys (i * s) with
    | some a, some b =>
      match eqR P n e a b with
      | some r =>
        match is with
        | [] => some r
        | _ => match eqAs P n e s is xs ys with
          | some q => some (r && q)
          | none => none
      | none => none
    | _, _ => none
end
theorem fieldsOf_struct {P : Program} {t : TypeId} {fs : Array Field} (hu : P.underlying t = some (.struct fs)) : P.fieldsOf t = fs := by simp [Program.fieldsOf, hu]
theorem cellsOf_szP {P : Program} {t : TypeId} {n : Nat} (h : szP P t = some n) : P.cellsOf t = n := by
  unfold szP at h
  split at h
  · rename_i i hi
    injection h with h
    simp [Program.cellsOf, hi, h]
  · cases h
theorem eq_run {P : Program} {m : Nat → Option Nat} : ∀ n,
    (∀ t x y b, eqR P n t x y = some b → ∀ d vx vy w, n ≤ d → R m x vx → R m y vy → (Op.equalIn d t vx vy).run P w = .ok b w) ∧
    (∀ fs xs ys b, eqFs P n fs xs ys = some b → ∀ d vx vy w, n ≤ d → RL m xs vx → RL m ys vy → (Op.eqFields d ⟨vx⟩ ⟨vy⟩ fs).run P w = .ok b w) ∧
    (∀ e s is xs ys b, eqAs P n e s is xs ys = some b → ∀ d vx vy w, n ≤ d → RL m xs vx → RL m ys vy → (Op.eqItems d e s ⟨vx⟩ ⟨vy⟩ is).run P w = .ok b w) := by
  intro n
  induction n with
  | zero => exact ⟨fun _ _ _ _ h => by simp [eqR] at h, fun _ _ _ _ h => by simp [eqFs] at h, fun _ _ _ _ _ _ h => by simp [eqAs] at h⟩
  | succ n ih =>
    obtain ⟨ih1, ih2, ih3⟩ := ih
    refine ⟨?_, ?_, ?_⟩
    · intro t x y b h d vx vy w hd hx hy
      obtain ⟨d, rfl⟩ : ∃ d', d = d' + 1 := ⟨d - 1, by omega⟩
      unfold eqR at h
      split at h
      · rename_i hu
        injection h with h; subst h
        simp only [R] at hx hy; subst hx; subst hy
        simp [Op.equalIn, run_underlying hu]
      · rename_i hu
        split at h
        · rename_i hk
          injection h with h; subst h
          simp only [R] at hx hy; subst hx; subst hy
          simp [Op.equalIn, run_underlying hu, hk]
        · cases h
      · rename_i hu
        injection h with h; subst h
        simp only [R] at hx hy; subst hx; subst hy
        simp [Op.equalIn, run_underlying hu]
      · rename_i hu
        injection h with h; subst h
        simp only [R] at hx hy; subst hx; obtain ⟨vs, _, rfl⟩ := hy
        simp [Op.equalIn, run_underlying hu]
      · rename_i hu
        injection h with h; subst h
        simp only [R] at hx hy; subst hy; obtain ⟨vs, _, rfl⟩ := hx
        simp [Op.equalIn, run_underlying hu]
      · rename_i fs xs ys hu
        split at h
        · cases h
        · rename_i hp
          simp only [R] at hx hy
          obtain ⟨vx, hx, rfl⟩ := hx
          obtain ⟨vy, hy, rfl⟩ := hy
          have hf := fieldsOf_struct hu
          rw [run_equalIn_struct w d t _ _ (by rw [hf]; exact hu) (by simpa using hp), hf]
          exact ih2 _ _ _ _ h d vx vy w (by omega) hx hy
      · rename_i len e xs ys hu
        split at h
        · rename_i s hs
          simp only [R] at hx hy
          obtain ⟨vx, hx, rfl⟩ := hx
          obtain ⟨vy, hy, rfl⟩ := hy
          have hi : ∃ i, P.info? e = some i := by
            unfold szP at hs
            split at hs
            · rename_i i hi; exact ⟨i, hi⟩
            · cases hs
          obtain ⟨i, hi⟩ := hi
          rw [run_equalIn_array w d _ _ hu hi, cellsOf_szP hs]
          exact ih3 _ _ _ _ _ _ h d vx vy w (by omega) hx hy
        · cases h
      · cases h
    · intro fs xs ys b h d vx vy w hd hx hy
      cases fs with
      | nil => simp only [eqFs, Option.some.injEq] at h; subst h; simp [Op.eqFields]
      | cons f fs =>
        simp only [eqFs] at h
        split at h
        · rename_i hn
          have hn' : f.name = "_" := by simpa using hn
          simp only [Op.eqFields, ne_eq, hn', not_true_eq_false, if_false]
          exact ih2 _ _ _ _ h d vx vy w (by omega) hx hy
        · rename_i hn
          have hn' : f.name ≠ "_" := by simpa using hn
          split at h
          · rename_i a b' ha hb
            obtain ⟨va, hva, hra⟩ := partR_run w ha hx
            obtain ⟨vb, hvb, hrb⟩ := partR_run w hb hy
            split at h
            · rename_i r hr
              have he := ih1 _ _ _ _ hr d va vb w (by omega) hra hrb
              simp only [Op.eqFields, if_pos hn', Sem.run_bind, hva, hvb, he, Result.andThen_ok]
              split at h
              · injection h with h; subst h
                cases r <;> simp [Op.eqFields]
              · split at h
                · rename_i q hq
                  injection h with h; subst h
                  have h2 := ih2 _ _ _ _ hq d vx vy w (by omega) hx hy
                  cases r
                  · simp
                  · simpa using h2
                · cases h
            · cases h
          · cases h
    · intro e s is xs ys b h d vx vy w hd hx hy
      cases is with
      | nil => simp only [eqAs, Option.some.injEq] at h; subst h; simp [Op.eqItems]
      | cons i is =>
        simp only [eqAs] at h
        split at h
        · rename_i a b' ha hb
          obtain ⟨va, hva, hra⟩ := partR_run w ha hx
          obtain ⟨vb, hvb, hrb⟩ := partR_run w hb hy
          split at h
          · rename_i r hr
            have he := ih1 _ _ _ _ hr d va vb w (by omega) hra hrb
            simp only [Op.eqItems, Sem.run_bind, hva, hvb, he, Result.andThen_ok]
            split at h
            · injection h with h; subst h
              cases r <;> simp [Op.eqItems]
            · split at h
              · rename_i q hq
                injection h with h; subst h
                have h2 := ih3 _ _ _ _ _ _ hq d vx vy w (by omega) hx hy
                cases r
                · simp
                · simpa using h2
              · cases h
          · cases h
        · cases h

/-! ### Literals -/
def setsR (off : Nat) : List RV → List RV → Nat → List RV
  | [], cells, _ => cells
  | c :: cs, cells, j => setsR off cs (cells.set (off + j) c) (j + 1)
def fillR (place : Nat → Option (Nat × Nat)) : List (Nat × RV) → List RV → Option (List RV)
  | [], cells => some cells
  | (i, v) :: rest, cells =>
    match place i with
    | none => none
    | some (off, size) =>
      if knownR v && (cellsR v).length == size && (off + (cellsR v).length).ble cells.length then fillR place rest (setsR off (cellsR v) cells 0) else none
def PR (m : Nat → Option Nat) : List (Nat × RV) → List (Nat × Value) → Prop
  | [], vs => vs = []
  | (i, r) :: rs, vs => ∃ v vs', R m r v ∧ PR m rs vs' ∧ vs = (i, v) :: vs'
theorem sets_R {m : Nat → Option Nat} (off : Nat) : ∀ {cs : List RV} {us : List Value} {cells : List RV} {vs : List Value} (j : Nat), RL m cs us → RL m cells vs →
    ∃ ws, (us.zipIdx j).foldl (fun (a : Array Value) (x : Value × Nat) => a.setIfInBounds (off + x.2) x.1) ⟨vs⟩ = ⟨ws⟩ ∧ RL m (setsR off cs cells j) ws
  | [], us, cells, vs, j, h, hc => by
    simp only [RL] at h; subst h
    exact ⟨vs, by simp, by simpa [setsR] using hc⟩
  | c :: cs, us, cells, vs, j, h, hc => by
    simp only [RL] at h
    obtain ⟨u, us', h1, h2, rfl⟩ := h
    simp only [List.zipIdx_cons, List.foldl_cons, setsR]
    have e : (⟨vs⟩ : Array Value).setIfInBounds (off + j) u = ⟨vs.set (off + j) u⟩ := by
      apply Array.ext'
      simp
    rw [e]
    exact sets_R off (j + 1) h2 (hc.set h1)
theorem fill_R {m : Nat → Option Nat} {place : Nat → Option (Nat × Nat)} : ∀ {parts : List (Nat × RV)} {vparts : List (Nat × Value)} {cells out : List RV} {vs : List Value},
    fillR place parts cells = some out → PR m parts vparts → RL m cells vs → ∃ ws, Instr.fill place ⟨vs⟩ vparts = some ⟨ws⟩ ∧ RL m out ws
  | [], vparts, cells, out, vs, h, hp, hc => by
    simp only [PR] at hp; subst hp
    simp only [fillR, Option.some.injEq] at h; subst h
    exact ⟨vs, rfl, hc⟩
  | (i, r) :: rs, vparts, cells, out, vs, h, hp, hc => by
    simp only [PR] at hp
    obtain ⟨v, vs', h1, h2, rfl⟩ := hp
    simp only [fillR] at h
    split at h
    · cases h
    · rename_i off size hpl
      split at h
      · rename_i hcond
        simp only [Bool.and_eq_true, beq_iff_eq, Nat.ble_eq] at hcond
        obtain ⟨⟨hk, hsz⟩, hle⟩ := hcond
        have hcr := cellsR_R hk h1
        have hlen := hcr.length
        obtain ⟨ws, e1, e2⟩ := sets_R off 0 hcr hc
        obtain ⟨ws2, e3, e4⟩ := fill_R h h2 e2
        refine ⟨ws2, ?_, e4⟩
        have hl1 : v.cells.size = size := by rw [← hsz, ← hlen]; simp
        have hl2 : ¬ (off + v.cells.size > (⟨vs⟩ : Array Value).size) := by
          have := hc.length
          simp only [List.size_toArray]
          rw [hl1, this]
          omega
        simp only [Instr.fill, hpl]
        rw [if_neg (by simp only [Bool.or_eq_true, decide_eq_true_eq, not_or]; exact ⟨by simp [hl1], hl2⟩)]
        rw [← e3]
        congr 1
        rw [← e1]
        cases hv : v.cells with
        | mk l => simp [Array.zipIdx, ← Array.foldl_toList, List.mapIdx_eq_zipIdx_map]
      · cases h
def plcs (P : Program) : List Field → Option (List (Nat × Nat))
  | [] => some []
  | f :: fs =>
    match P.info? f.type with
    | some i =>
      match plcs P fs with
      | some r => some ((f.offset, i.size) :: r)
      | none => none
    | none => none
theorem plcs_mapM {P : Program} : ∀ {fs : List Field} {r : List (Nat × Nat)}, plcs P fs = some r → fs.mapM (fun f => (P.info? f.type).map fun i => (f.offset, i.size)) = some r
  | [], r, h => by simp only [plcs, Option.some.injEq] at h; subst h; rfl
  | f :: fs, r, h => by
    simp only [plcs] at h
    cases hi : P.info? f.type with
    | none => simp [hi] at h
    | some i =>
      rw [hi] at h
      cases h2 : plcs P fs with
      | none => simp [h2] at h
      | some r2 =>
        rw [h2] at h
        simp only [Option.some.injEq] at h
        subst h
        simp [List.mapM_cons, hi, plcs_mapM h2]
def builtR (P : Program) (t : TypeId) (parts : List (Nat × RV)) : Option (List RV) :=
  match P.info? t with
  | none => none
  | some it =>
    match it.zero with
    | none => none
    | some z =>
      match ofLeafs z.cells.toList with
      | none => none
      | some zs =>
        match P.underlying t with
        | some (.array _ e) =>
          match P.info? e with
          | some ie => fillR (fun i => some (i * ie.size, ie.size)) parts zs
          | none => none
        | some (.struct fields) =>
          match plcs P fields.toList with
          | some places => fillR (fun i => places[i]?) parts zs
          | none => none
        | _ => none
theorem built_R {P : Program} {m : Nat → Option Nat} {t : TypeId} {parts : List (Nat × RV)} {vparts : List (Nat × Value)} {out : List RV} (h : builtR P t parts = some out) (hp : PR m parts vparts) :
    ∃ ws, P.built t vparts = some ⟨ws⟩ ∧ RL m out ws := by
  unfold builtR at h
  split at h
  · cases h
  · rename_i it hit
    split at h
    · cases h
    · rename_i z hz
      split at h
      · cases h
      · rename_i zs hzs
        have hzr : RL m zs z.cells.toList := ofLeafs_R hzs
        split at h
        · rename_i n e hu
          split at h
          · rename_i ie hie
            obtain ⟨ws, e1, e2⟩ := fill_R h hp hzr
            exact ⟨ws, by simpa [Program.built, hit, hu, hz, hie] using e1, e2⟩
          · cases h
        · rename_i fields hu
          split at h
          · rename_i places hpl
            obtain ⟨ws, e1, e2⟩ := fill_R h hp hzr
            refine ⟨ws, ?_, e2⟩
            simp only [Program.built, hit, hu, hz, plcs_mapM hpl]
            rw [← e1]
            congr 1
            funext i
            simp
          · cases h
        · cases h
def zerosR (zs : List RV) : Nat → List RV
  | 0 => []
  | n + 1 => zs ++ zerosR zs n

theorem R_int {m : Nat → Option Nat} {k : IntKind} {n : Int} : R m (.int k n) (.int k n) := by simp [R]
theorem R_bool {m : Nat → Option Nat} {b : Bool} : R m (.bool b) (.bool b) := by simp [R]

/-! ### Arithmetic -/
def shl (k : IntKind) (a b : Int) : Int := k.wrap (a * 2 ^ min b.toNat k.bits)
def shr (k : IntKind) (a b : Int) : Int := a / 2 ^ min b.toNat k.bits
def cmpR : BinOp → Int → Int → Option Bool
  | .eql, a, b => some (a == b)
  | .neq, a, b => some (a != b)
  | .lss, a, b => some (decide (a < b))
  | .leq, a, b => some (decide (a ≤ b))
  | .gtr, a, b => some (decide (a > b))
  | .geq, a, b => some (decide (a ≥ b))
  | _, _, _ => none
def intR (op : BinOp) (k : IntKind) (a b : Int) : Option RV :=
  match op with
  | .add => some (.int k (k.wrap (a + b)))
  | .sub => some (.int k (k.wrap (a - b)))
  | .mul => some (.int k (k.wrap (a * b)))
  | .and => some (.int k (Go.bits .and k a b))
  | .or => some (.int k (Go.bits .or k a b))
  | .xor => some (.int k (Go.bits .xor k a b))
  | .andNot => some (.int k (Go.bits .andNot k a b))
  | op => match cmpR op a b with
    | some c => some (.bool c)
    | none => none
def eqSafe (P : Program) (t : TypeId) : RV → RV → Bool
  | .agg _, .agg _ => !P.eqGuardType P.depth t
  | .bool _, .bool _ => true
  | .nilf, .nilf => true
  | .nilf, .func _ _ => true
  | .func _ _, .nilf => true
  | _, _ => false
def binR (P : Program) (op : BinOp) (t : TypeId) (x y : RV) (ds : D) : Option (RV × D × Qs) :=
  match x, y with
  | .int k a, .int k' b =>
    match op with
    | .shl =>
      match ask (decide (b < 0)) ds with
      | (false, ds', q) => some (.int k (shl k a b), ds', q)
      | _ => none
    | .shr =>
      match ask (decide (b < 0)) ds with
      | (false, ds', q) => some (.int k (shr k a b), ds', q)
      | _ => none
    | .quo =>
      if k = k' then
        match ask (decide (b = 0)) ds with
        | (false, ds', q) => some (.int k (k.wrap (a.tdiv b)), ds', q)
        | _ => none
      else none
    | .rem =>
      if k = k' then
        match ask (decide (b = 0)) ds with
        | (false, ds', q) => some (.int k (a.tmod b), ds', q)
        | _ => none
      else none
    | op =>
      if k = k' then
        match intR op k a b with
        | some r => some (r, ds, [])
        | none => none
      else none
  | x, y =>
    if eqSafe P t x y then
      match op with
      | .eql =>
        match eqR P 8 t x y with
        | some b => some (.bool b, ds, [])
        | none => none
      | .neq =>
        match eqR P 8 t x y with
        | some b => some (.bool (!b), ds, [])
        | none => none
      | _ => none
    else none
theorem run_eqs {P : Program} {m : Nat → Option Nat} {t : TypeId} {x y : RV} {vx vy : Value} {b : Bool} (h : eqR P 8 t x y = some b) (hx : R m x vx) (hy : R m y vy) (w : World) : (Op.equal t vx vy).run P w = .ok b w :=
  (eq_run 8).1 _ _ _ _ h Op.maxDepth _ _ w (by decide) hx hy
theorem bin_run {P : Program} {m : Nat → Option Nat} {op : BinOp} {t : TypeId} {x y : RV} {vx vy : Value} {ds ds' : D} {q : Qs} {r : RV} (ox oy : Operand) (h : binR P op t x y ds = some (r, ds', q)) (hq : holds q)
    (hx : R m x vx) (hy : R m y vy) (w : World) : ∃ v, (do eqGuard op t ox oy vx vy; binOp op t vx vy : Sem Value).run P w = .ok v w ∧ R m r v := by
  unfold binR at h
  split at h
  · rename_i k a k' b
    simp only [R] at hx hy
    subst hx; subst hy
    have hg : ∀ op : BinOp, eqGuard op t ox oy (.int k a) (.int k' b) = pure () := fun op => by cases op <;> rfl
    rw [hg]
    cases op <;> simp only [] at h
    case shl =>
      split at h
      · rename_i hask
        have hb := ask_spec hask (by injection h with h; injection h with h1 h2; injection h2 with h2 h3; subst h3; exact hq)
        injection h with h; injection h with h1 h2; subst h1
        have hb' : ¬ b < 0 := by simpa using hb.symm
        exact ⟨_, by simp [binOp, Op.shift, hb']; rfl, R_int⟩
      · cases h
    case shr =>
      split at h
      · rename_i hask
        have hb := ask_spec hask (by injection h with h; injection h with h1 h2; injection h2 with h2 h3; subst h3; exact hq)
        injection h with h; injection h with h1 h2; subst h1
        have hb' : ¬ b < 0 := by simpa using hb.symm
        have hp : (0 : Int) ≤ 2 ^ min b.toNat k.bits := Int.pow_nonneg (by decide)
        exact ⟨_, by simp [binOp, Op.shift, hb', Int.fdiv_eq_ediv_of_nonneg _ hp]; rfl, R_int⟩
      · cases h
    case quo =>
      split at h
      · rename_i hk; subst hk
        split at h
        · rename_i hask
          have hb := ask_spec hask (by injection h with h; injection h with h1 h2; injection h2 with h2 h3; subst h3; exact hq)
          injection h with h; injection h with h1 h2; subst h1
          have hb' : ¬ b = 0 := by simpa using hb.symm
          exact ⟨_, by simp [binOp, Op.intDiv, hb'], R_int⟩
        · cases h
      · cases h
    case rem =>
      split at h
      · rename_i hk; subst hk
        split at h
        · rename_i hask
          have hb := ask_spec hask (by injection h with h; injection h with h1 h2; injection h2 with h2 h3; subst h3; exact hq)
          injection h with h; injection h with h1 h2; subst h1
          have hb' : ¬ b = 0 := by simpa using hb.symm
          exact ⟨_, by simp [binOp, Op.intDiv, hb'], R_int⟩
        · cases h
      · cases h
    all_goals
      split at h
      · rename_i hk; subst hk
        simp only [intR, cmpR, Option.some.injEq, Prod.mk.injEq] at h
        obtain ⟨rfl, _⟩ := h
        first | exact ⟨_, by simp [go_sem, Op.intArith], R_int⟩ | exact ⟨_, by simp [go_sem, Op.intArith], R_bool⟩
      · cases h
  · rename_i x y hne
    split at h
    · rename_i hs
      have hg : (eqGuard op t ox oy vx vy).run P w = .ok () w := by
        unfold eqSafe at hs
        split at hs
        · simp only [R] at hx hy
          obtain ⟨vs, _, rfl⟩ := hx
          obtain ⟨us, _, rfl⟩ := hy
          exact run_eqGuard_agg w op t ox oy _ _ (by simpa using hs)
        · simp only [R] at hx hy; subst hx; subst hy; cases op <;> rfl
        · simp only [R] at hx hy; subst hx; subst hy; cases op <;> rfl
        · simp only [R] at hx hy; subst hx; obtain ⟨us, _, rfl⟩ := hy; cases op <;> rfl
        · simp only [R] at hx hy; subst hy; obtain ⟨us, _, rfl⟩ := hx; cases op <;> rfl
        · cases hs
      have hb : binOp .eql t vx vy = (do pure (.bool (← Op.equal t vx vy))) ∧ binOp .neq t vx vy = (do pure (.bool (!(← Op.equal t vx vy)))) := by
        unfold eqSafe at hs
        split at hs
        · simp only [R] at hx hy
          obtain ⟨vs, _, rfl⟩ := hx
          obtain ⟨us, _, rfl⟩ := hy
          exact ⟨rfl, rfl⟩
        · simp only [R] at hx hy; subst hx; subst hy; exact ⟨rfl, rfl⟩
        · simp only [R] at hx hy; subst hx; subst hy; exact ⟨rfl, rfl⟩
        · simp only [R] at hx hy; subst hx; obtain ⟨us, _, rfl⟩ := hy; exact ⟨rfl, rfl⟩
        · simp only [R] at hx hy; subst hy; obtain ⟨us, _, rfl⟩ := hx; exact ⟨rfl, rfl⟩
        · cases hs
      split at h
      · split at h
        · rename_i b he
          injection h with h; injection h with h1 h2; subst h1
          exact ⟨.bool b, by simp [hg, hb.1, run_eqs he hx hy w], by simp [R]⟩
        · cases h
      · split at h
        · rename_i b he
          injection h with h; injection h with h1 h2; subst h1
          exact ⟨.bool (!b), by simp [hg, hb.2, run_eqs he hx hy w], by simp [R]⟩
        · cases h
      · cases h
    · cases h

def newM (m : Nat → Option Nat) (slot b : Nat) : Nat → Option Nat := fun i => if i = slot then some b else m i

section
variable {m : Nat → Option Nat} {w0 w : World} {h : List Blk}
theorem HR.free (H : HR m w0 h w) {slot : Nat} (hs : h[slot]? = some .no) : m slot = none := by
  cases hm : m slot with
  | none => rfl
  | some b =>
    obtain ⟨x, hx, hne⟩ := H.dom slot b hm
    rw [hs] at hx
    injection hx with hx
    exact absurd hx.symm hne
theorem HR.ext_new (H : HR m w0 h w) {slot : Nat} (hs : h[slot]? = some .no) (b : Nat) : Ext m (newM m slot b) := by
  intro i c hi
  unfold newM
  split
  · rename_i he; subst he; rw [H.free hs] at hi; cases hi
  · exact hi
theorem HR.new (H : HR m w0 h w) {slot : Nat} (hs : h[slot]? = some .no) {x : Blk} (hx : x ≠ .no) {o : Obj} (hb : BR (newM m slot w.heap.size) (w.alloc o) w.heap.size x) :
    HR (newM m slot w.heap.size) w0 (h.set slot x) (w.alloc o) := by
  have e := H.ext_new hs w.heap.size
  have hlt : slot < h.length := by
    rcases Nat.lt_or_ge slot h.length with hl | hl
    · exact hl
    · rw [List.getElem?_eq_none hl] at hs; cases hs
  refine ⟨H.bel.alloc H.bel.size o, ?_, ?_, ?_, ?_⟩
  · intro id y hy hne
    by_cases hid : slot = id
    · subst hid
      rw [List.getElem?_set_self hlt] at hy
      injection hy with hy
      subst hy
      exact ⟨w.heap.size, by simp [newM], hb⟩
    · rw [List.getElem?_set_ne hid] at hy
      obtain ⟨b, hmb, hbr⟩ := H.blk id y hy hne
      have hr := H.rng id b hmb
      exact ⟨b, e _ _ hmb, hbr.ext e (Below.heap_alloc w o b hr.2)⟩
  · intro id b hmb
    unfold newM at hmb
    split at hmb
    · injection hmb with hmb
      subst hmb
      exact ⟨H.bel.size, by simp⟩
    · have := H.rng id b hmb
      exact ⟨this.1, by simp; omega⟩
  · intro i j b hi hj
    unfold newM at hi hj
    split at hi <;> split at hj
    · omega
    · injection hi with hi
      have := H.rng j b hj
      omega
    · injection hj with hj
      have := H.rng i b hi
      omega
    · exact H.inj i j b hi hj
  · intro id b hmb
    by_cases hid : slot = id
    · subst hid
      exact ⟨x, by rw [List.getElem?_set_self hlt], hx⟩
    · unfold newM at hmb
      rw [if_neg (fun he => hid he.symm)] at hmb
      obtain ⟨y, hy, hne⟩ := H.dom id b hmb
      exact ⟨y, by rw [List.getElem?_set_ne hid]; exact hy, hne⟩
/-- A callee that leaves all that was, and one block more that is told. -/
theorem HR.made (H : HR m w0 h w) {slot : Nat} (hs : h[slot]? = some .no) {w' : World} {b : Nat} (hb : Below w.heap.size w w') (h1 : w.heap.size ≤ b) (h2 : b < w'.heap.size) {x : Blk} (hx : x ≠ .no) (hbr : BR (newM m slot b) w' b x) :
    HR (newM m slot b) w0 (h.set slot x) w' := by
  have e := H.ext_new hs b
  have hlt : slot < h.length := by
    rcases Nat.lt_or_ge slot h.length with hl | hl
    · exact hl
    · rw [List.getElem?_eq_none hl] at hs; cases hs
  refine ⟨H.bel.trans ⟨hb.os, hb.tape, hb.output, hb.size, fun k hk => hb.block k (Nat.lt_of_lt_of_le hk H.bel.size)⟩, ?_, ?_, ?_, ?_⟩
  · intro id y hy hne
    by_cases hid : slot = id
    · subst hid
      rw [List.getElem?_set_self hlt] at hy
      injection hy with hy
      subst hy
      exact ⟨b, by simp [newM], hbr⟩
    · rw [List.getElem?_set_ne hid] at hy
      obtain ⟨c, hmb, hbr'⟩ := H.blk id y hy hne
      have hr := H.rng id c hmb
      exact ⟨c, e _ _ hmb, hbr'.ext e (hb.block c hr.2)⟩
  · intro id c hmb
    unfold newM at hmb
    split at hmb
    · injection hmb with hmb
      subst hmb
      exact ⟨Nat.le_trans H.bel.size h1, h2⟩
    · have := H.rng id c hmb
      exact ⟨this.1, Nat.lt_of_lt_of_le this.2 hb.size⟩
  · intro i j c hi hj
    unfold newM at hi hj
    split at hi <;> split at hj
    · omega
    · injection hi with hi
      have := H.rng j c hj
      omega
    · injection hj with hj
      have := H.rng i c hi
      omega
    · exact H.inj i j c hi hj
  · intro id c hmb
    by_cases hid : slot = id
    · subst hid
      exact ⟨x, by rw [List.getElem?_set_self hlt], hx⟩
    · unfold newM at hmb
      rw [if_neg (fun he => hid he.symm)] at hmb
      obtain ⟨y, hy, hne⟩ := H.dom id c hmb
      exact ⟨y, by rw [List.getElem?_set_ne hid]; exact hy, hne⟩
/-- Only this block has turned. -/
structure Touch (b : Nat) (w w' : World) : Prop where
  os : w'.os = w.os
  tape : w'.tape = w.tape
  output : w'.output = w.output
  size : w'.heap.size = w.heap.size
  block : ∀ k, k ≠ b → w'.heap[k]? = w.heap[k]?
theorem HR.upd (H : HR m w0 h w) {id b : Nat} (hm : m id = some b) {y : Blk} (hy : y ≠ .no) {w' : World} (ht : Touch b w w') (hb : BR m w' b y) : HR m w0 (h.set id y) w' := by
  have hr := H.rng id b hm
  obtain ⟨x, hx, hxne⟩ := H.dom id b hm
  have hlt : id < h.length := by
    rcases Nat.lt_or_ge id h.length with hl | hl
    · exact hl
    · rw [List.getElem?_eq_none hl] at hx; cases hx
  refine ⟨H.bel.trans ⟨ht.os, ht.tape, ht.output, by rw [ht.size]; exact Nat.le_refl _, fun k hk => ht.block k (by omega)⟩, ?_, ?_, H.inj, ?_⟩
  · intro i z hz hne
    by_cases hid : id = i
    · subst hid
      rw [List.getElem?_set_self hlt] at hz
      injection hz with hz
      subst hz
      exact ⟨b, hm, hb⟩
    · rw [List.getElem?_set_ne hid] at hz
      obtain ⟨c, hmc, hbr⟩ := H.blk i z hz hne
      refine ⟨c, hmc, hbr.ext (Ext.refl m) (ht.block c ?_)⟩
      intro he
      subst he
      exact hid (H.inj id i c hm hmc)
  · intro i c hc
    rw [ht.size]
    exact H.rng i c hc
  · intro i c hc
    by_cases hid : id = i
    · subst hid
      exact ⟨y, by rw [List.getElem?_set_self hlt], hy⟩
    · obtain ⟨z, hz, hne⟩ := H.dom i c hc
      exact ⟨z, by rw [List.getElem?_set_ne hid]; exact hz, hne⟩
theorem HR.drew (H : HR m w0 h w) : HR m w0 h { w with drawn := w.drawn + 1 } :=
  ⟨H.bel.trans ⟨rfl, rfl, rfl, Nat.le_refl _, fun _ _ => rfl⟩, fun id x hx hne => by
    obtain ⟨b, hb, hr⟩ := H.blk id x hx hne
    exact ⟨b, hb, hr.ext (Ext.refl m) rfl⟩, H.rng, H.inj, H.dom⟩
/-- A callee that leaves all that was as it was. -/
theorem HR.call (H : HR m w0 h w) {w' : World} (hb : Below w.heap.size w w') : HR m w0 h w' :=
  ⟨H.bel.trans ⟨hb.os, hb.tape, hb.output, hb.size, fun k hk => hb.block k (Nat.lt_of_lt_of_le hk H.bel.size)⟩, fun id x hx hne => by
    obtain ⟨b, hm, hr⟩ := H.blk id x hx hne
    exact ⟨b, hm, hr.ext (Ext.refl m) (hb.block b (H.rng id b hm).2)⟩, fun id b hm => ⟨(H.rng id b hm).1, Nat.lt_of_lt_of_le (H.rng id b hm).2 hb.size⟩, H.inj, H.dom⟩
theorem HR.more (H : HR m w0 h w) (k : Nat) : HR m w0 (h ++ List.replicate k .no) w :=
  ⟨H.bel, fun id x hx hne => by
    rw [List.getElem?_append] at hx
    split at hx
    · exact H.blk id x hx hne
    · have := List.mem_of_getElem? hx
      rw [List.mem_replicate] at this
      exact absurd this.2 hne, H.rng, H.inj, fun id b hm => by
    obtain ⟨x, hx, hne⟩ := H.dom id b hm
    refine ⟨x, ?_, hne⟩
    rw [List.getElem?_append_left]
    · exact hx
    · rcases Nat.lt_or_ge id h.length with hl | hl
      · exact hl
      · rw [List.getElem?_eq_none hl] at hx; cases hx⟩
end

/-! ### Operands -/
def opR (t : List RV) : Operand → Option RV
  | .tmp i => t[i]?
  | .const v =>
    match ofVal v with
    | some r => some r
    | none => some .any
  | .func f => some (.func f [])
  | .global _ => none
theorem opR_R {m : Nat → Option Nat} {t : List RV} {a : Act} {o : Operand} {r : RV} (h : opR t o = some r) (ht : RL m t a.tmps.toList) : R m r (a.eval o) := by
  cases o with
  | tmp i =>
    obtain ⟨v, hv, hr⟩ := ht.get h
    have : a.eval (.tmp i) = v := by
      simp only [Act.eval]
      rw [Array.getElem?_toList] at hv
      simp [hv]
    rw [this]; exact hr
  | const v =>
    simp only [opR] at h
    split at h
    · rename_i r' hr
      injection h with h
      subst h
      exact ofVal_R hr
    · injection h with h
      subst h
      simp [R]
  | func f =>
    simp only [opR, Option.some.injEq] at h
    subst h
    simp only [Act.eval, R]
    exact ⟨[], RL.nil, rfl⟩
  | global g => simp [opR] at h
def opsR (t : List RV) : List Operand → Option (List RV)
  | [] => some []
  | o :: os => match opR t o with
    | some r => match opsR t os with
      | some rs => some (r :: rs)
      | none => none
    | none => none
theorem opsR_R {m : Nat → Option Nat} {t : List RV} {a : Act} (ht : RL m t a.tmps.toList) : ∀ {os : List Operand} {rs : List RV}, opsR t os = some rs → RL m rs (os.map a.eval)
  | [], rs, h => by simp only [opsR, Option.some.injEq] at h; subst h; exact RL.nil
  | o :: os, rs, h => by
    simp only [opsR] at h
    split at h
    · rename_i r h1
      split at h
      · rename_i rs' h2
        injection h with h; subst h
        exact RL.cons (opR_R h1 ht) (opsR_R ht h2)
      · cases h
    · cases h
def partsR (t : List RV) : List (Nat × Operand) → Option (List (Nat × RV))
  | [] => some []
  | (i, o) :: os => match opR t o with
    | some r => match partsR t os with
      | some rs => some ((i, r) :: rs)
      | none => none
    | none => none
theorem partsR_R {m : Nat → Option Nat} {t : List RV} {a : Act} (ht : RL m t a.tmps.toList) : ∀ {os : List (Nat × Operand)} {rs : List (Nat × RV)}, partsR t os = some rs → PR m rs (os.map fun x => (x.1, a.eval x.2))
  | [], rs, h => by simp only [partsR, Option.some.injEq] at h; subst h; simp [PR]
  | (i, o) :: os, rs, h => by
    simp only [partsR] at h
    split at h
    · rename_i r h1
      split at h
      · rename_i rs' h2
        injection h with h; subst h
        simp only [List.map_cons, PR]
        exact ⟨_, _, opR_R h1 ht, partsR_R ht h2, rfl⟩
      · cases h
    · cases h

def findR (k : IntKind) (n : Int) : List (RV × RV) → Option (Option RV)
  | [] => some none
  | (.int k' n', v) :: es =>
    if k = k' then
      match n == n' with
      | true => some (some v)
      | false => findR k n es
    else none
  | _ => none
theorem find_R {m : Nat → Option Nat} {k : IntKind} {kk : IntKind} {n : Int} : ∀ {es : List (RV × RV)} {ves : List MapEntry} {x : Option RV} (i : Nat), findR k n es = some x → RM m es ves →
    ∃ y, Instr.findNow (.int kk) (.int k n) ves i = some y ∧ (match x with | none => y = none | some r => ∃ j v, y = some (j, v) ∧ R m r v)
  | [], ves, x, i, h, hm => by
    simp only [RM] at hm; subst hm
    simp only [findR, Option.some.injEq] at h; subst h
    exact ⟨none, rfl, rfl⟩
  | (kr, v) :: es, ves, x, i, h, hm => by
    simp only [RM] at hm
    obtain ⟨e, ves', hk, hv, hr, rfl⟩ := hm
    cases kr with
    | int k' n' =>
      simp only [R] at hk
      simp only [findR] at h
      split at h
      · rename_i hkk; subst hkk
        split at h
        · rename_i hn
          injection h with h; subst h
          refine ⟨some (i, e.val), ?_, i, e.val, rfl, hv⟩
          simp [Instr.findNow, Instr.sameNow, hk, hn]
        · rename_i hn
          obtain ⟨y, hy, hh⟩ := find_R (kk := kk) (i + 1) h hr
          refine ⟨y, ?_, hh⟩
          simp [Instr.findNow, Instr.sameNow, hk, hn, hy]
      · cases h
    | _ => simp [findR] at h

def strAt (s : ByteArray) (n : Int) : Int :=
  match s[n.toNat]? with
  | some b => (b.toNat : Int)
  | none => 0
theorem strAt_some {s : ByteArray} {n : Int} (h0 : 0 ≤ n) (h1 : n < s.size) : ∃ b, s[n.toNat]? = some b ∧ strAt s n = (b.toNat : Int) := by
  have h : n.toNat < s.size := by omega
  refine ⟨s[n.toNat], by simp [h], ?_⟩
  unfold strAt
  simp [h]
def evOp (P : Program) (t : List RV) (h : List Blk) (slot : Nat) (op : Op) (ds : D) : Option (RV × List (Nat × Blk) × D × Qs) :=
  match op with
  | .move x | .assign x =>
    match opR t x with
    | some r => some (r, [], ds, [])
    | none => none
  | .pick c x y =>
    match opR t c with
    | some (.bool cb) =>
      match ask cb ds with
      | (true, ds', q) =>
        match opR t x with
        | some r => some (r, [], ds', q)
        | none => none
      | (false, ds', q) =>
        match opR t y with
        | some r => some (r, [], ds', q)
        | none => none
    | _ => none
  | .alloc e =>
    match zeroP P e with
    | some z =>
      match ofVal z with
      | some r => if knownR r then some (.ptr slot 0, [(slot, .cells (cellsR r))], ds, []) else none
      | none => none
    | none => none
  | .box e x =>
    match opR t x with
    | some r => if knownR r then some (.ptr slot 0, [(slot, .cells (cellsR r))], ds, []) else none
    | none => none
  | .build ty parts =>
    match partsR t parts.toList with
    | some ps =>
      match builtR P ty ps with
      | some cs => some (.agg cs, [], ds, [])
      | none => none
    | none => none
  | .buildSlice ty len parts =>
    match P.underlying ty with
    | some (.slice e) =>
      match P.info? e with
      | some ie =>
        match ie.zero with
        | some z =>
          match ofLeafs z.cells.toList, partsR t parts.toList with
          | some [z0], some ps =>
            if ie.size == 1 && (0).blt len && len.ble 1000 then
              match fillR (fun i => some (i * ie.size, ie.size)) ps (List.replicate len z0) with
              | some cs => some (.slice slot 0 len len, [(slot, .cells cs)], ds, [])
              | none => none
            else none
          | _, _ => none
        | none => none
      | none => none
    | _ => none
  | .load ty x =>
    match opR t x with
    | some (.ptr id off) =>
      match h[id]? with
      | some (.cells cs) =>
        match aggP P ty with
        | some true =>
          match szP P ty with
          | some n => if (off + n).ble cs.length then some (.agg ((cs.drop off).take n), [], ds, []) else none
          | none => none
        | some false =>
          match cs[off]? with
          | some r => some (r, [], ds, [])
          | none => none
        | none => none
      | _ => none
    | _ => none
  | .store ty x y =>
    match opR t x, opR t y with
    | some (.ptr id off), some v =>
      match h[id]?, szP P ty with
      | some (.cells cs), some n =>
        if knownR v && (cellsR v).length == n && (cellsR v).all oneR && (off + (cellsR v).length).ble cs.length then
          some (.tup [], [(id, .cells (cs.take off ++ cellsR v ++ cs.drop (off + (cellsR v).length)))], ds, [])
        else none
      | _, _ => none
    | _, _ => none
  | .binOp op ty x y _ =>
    match opR t x, opR t y with
    | some a, some b =>
      match binR P op ty a b ds with
      | some (r, ds', q) => some (r, [], ds', q)
      | none => none
    | _, _ => none
  | .unOp op _ x =>
    match op, opR t x with
    | .not, some (.bool b) => some (.bool (!b), [], ds, [])
    | .neg, some (.int k n) => some (.int k (k.wrap (0 - n)), [], ds, [])
    | .xor, some (.int k n) => some (.int k (Go.bits .xor k (if k.signed then -1 else k.max) n), [], ds, [])
    | _, _ => none
  | .convert src dst x =>
    match P.underlying src, P.underlying dst, opR t x with
    | some _, some (.int k), some (.int _ n) => some (.int k (k.wrap n), [], ds, [])
    | _, _, _ => none
  | .makeFunc (.func f) first captured =>
    match first.toList, opsR t captured.toList with
    | [], some cs => some (.func f cs, [], ds, [])
    | _, _ => none
  | .makeMap ty none => some (.map slot, [(slot, .map [])], ds, [])
  | .insert ty x k y =>
    match opR t x, opR t k, opR t y with
    | some (.map id), some (.int kk n), some v =>
      match h[id]?, P.underlying ty with
      | some (.map es), some (.map kt _) =>
        match P.underlying kt with
        | some (.int kk') =>
          if kk = kk' then
            match findR kk n es with
            | some none => some (.tup [], [(id, .map (es ++ [(.int kk n, v)]))], ds, [])
            | _ => none
          else none
        | _ => none
      | _, _ => none
    | _, _, _ => none
  | .lookup ty x k false =>
    match opR t x, opR t k with
    | some (.map id), some (.int kk n) =>
      match h[id]?, P.underlying ty with
      | some (.map es), some (.map kt et) =>
        match P.underlying kt with
        | some (.int kk') =>
          if kk = kk' then
            match findR kk n es with
            | some (some v) => some (v, [], ds, [])
            | some none =>
              match zeroP P et with
              | some z =>
                match ofVal z with
                | some r => some (r, [], ds, [])
                | none => none
              | none => none
            | none => none
          else none
        | _ => none
      | _, _ => none
    | _, _ => none
  | .fieldAddr s x f =>
    match P.underlying s, opR t x with
    | some (.struct fields), some (.ptr id off) =>
      match fields.toList[f]? with
      | some fd =>
        match szP P fd.type with
        | some (n + 1) => some (.ptr id (off + fd.offset), [], ds, [])
        | _ => none
      | none => none
    | _, _ => none
  | .field s x f =>
    match P.underlying s, opR t x with
    | some (.struct fields), some (.agg cs) =>
      match fields.toList[f]? with
      | some fd =>
        match partR P fd.type cs fd.offset with
        | some r => some (r, [], ds, [])
        | none => none
      | none => none
    | _, _ => none
  | .indexAddr ty x i =>
    match opR t x, opR t i with
    | some (.ptr id off), some (.int k n) =>
      match P.underlying ty with
      | some (.array len e) =>
        match szP P e, ask (decide (0 ≤ n ∧ n < len)) ds with
        | some s, (true, ds', q) => some (.ptr id (off + n.toNat * s), [], ds', q)
        | _, _ => none
      | _ => none
    | some (.slice id off len _), some (.int k n) =>
      match P.underlying ty with
      | some (.slice e) =>
        match szP P e, ask (decide (0 ≤ n ∧ n < len)) ds with
        | some s, (true, ds', q) => some (.ptr id (off + n.toNat * s), [], ds', q)
        | _, _ => none
      | _ => none
    | _, _ => none
  | .index ty x i =>
    match opR t x, opR t i with
    | some (.agg cs), some (.int k n) =>
      match P.underlying ty with
      | some (.array len e) =>
        match szP P e, ask (decide (0 ≤ n ∧ n < len)) ds with
        | some s, (true, ds', q) =>
          match partR P e cs (n.toNat * s) with
          | some r => some (r, [], ds', q)
          | none => none
        | _, _ => none
      | _ => none
    | some (.str s), some (.int k n) =>
      match P.underlying ty with
      | some .string =>
        match ask (decide (0 ≤ n ∧ n < s.size)) ds with
        | (true, ds', q) => some (.int .u8 (strAt s n), [], ds', q)
        | _ => none
      | _ => none
    | _, _ => none
  | .extract x i =>
    match opR t x with
    | some (.tup vs) =>
      match vs[i]? with
      | some r => some (r, [], ds, [])
      | none => none
    | _ => none
  | .call { callee := .builtin b, args := args, argTypes := tys } =>
    match b, opsR t args.toList with
    | .len, some [.slice _ _ len _] =>
      match tys.toList with
      | [ty] =>
        match P.underlying ty with
        | some (.slice _) => some (.int .i64 len, [], ds, [])
        | _ => none
      | _ => none
    | .len, some [.nils] =>
      match tys.toList with
      | [ty] =>
        match P.underlying ty with
        | some (.slice _) => some (.int .i64 0, [], ds, [])
        | _ => none
      | _ => none
    | .min, some [.int k x, .int _ y] => some (.int k (if y < x then y else x), [], ds, [])
    | .max, some [.int k x, .int _ y] => some (.int k (if y > x then y else x), [], ds, [])
    | _, _ => none
  | _ => none

def nxv : Next → Option Value
  | .value v => some v
  | .skip => some undef
  | _ => none
def setsH : List (Nat × Blk) → List Blk → List Blk
  | [], h => h
  | (i, b) :: r, h => setsH r (h.set i b)
theorem add_plain (g o j : Nat) : (⟨g, o, none⟩ : Addr).add j = ⟨g, o + j, none⟩ := by unfold Addr.add; split <;> simp_all

/-- What an operation that touches no memory comes to. -/
theorem plain_out {P : Program} {m : Nat → Option Nat} {w0 w : World} {s : St} {a : Act} {o : Oper} {r : RV} (hs : Sim m w0 s a w)
    (h : ∃ v, (execOp a.eval o).run P w = .ok (.value v) w ∧ R m r v) :
    ∃ m' nx v w', Ext m m' ∧ (execOp a.eval o).run P w = .ok nx w' ∧ nxv nx = some v ∧ R m' r v ∧ HR m' w0 (setsH [] s.h) w' := by
  obtain ⟨v, h1, h2⟩ := h
  exact ⟨m, .value v, v, w, Ext.refl m, h1, rfl, h2, hs.hp⟩

theorem store_out {P : Program} {m : Nat → Option Nat} {w0 w : World} {s : St} {a : Act} {id off : Nat} {cs : List RV} {ty : TypeId} {v : RV} {u : Value} {pv : Value} (hs : Sim m w0 s a w)
    (hp : R m (.ptr id off) pv) (hb : s.h[id]? = some (.cells cs)) (hv : R m v u) (hk : knownR v = true) (hn : szP P ty = some (cellsR v).length) (ho : (cellsR v).all oneR = true) (hle : off + (cellsR v).length ≤ cs.length) :
    ∃ w', (Instr.storeAt ty pv u).run P w = .ok () w' ∧ HR m w0 (s.h.set id (.cells (cs.take off ++ cellsR v ++ cs.drop (off + (cellsR v).length)))) w' := by
  simp only [R] at hp
  obtain ⟨b, hmb, rfl⟩ := hp
  obtain ⟨b', hmb', hbr⟩ := hs.hp.blk id _ hb (by simp)
  have : b' = b := by rw [hmb] at hmb'; injection hmb' with h; exact h.symm
  subst this
  obtain ⟨vs, t, hvs, hheap⟩ := hbr
  have hc := cellsR_R hk hv
  have hl1 := hc.length
  have hl2 := hvs.length
  have hst := run_storeCells_at P b' off t u.cells.toList 0 ⟨vs⟩ w hheap (by simp at hl1 ⊢; omega) (oneR_all ho hc)
  simp only [Nat.add_zero] at hst
  refine ⟨_, ?_, hs.hp.upd hmb (y := .cells (cs.take off ++ cellsR v ++ cs.drop (off + (cellsR v).length))) (by simp) (w' := w.setRow b' (vs.take off ++ u.cells.toList ++ vs.drop (off + u.cells.toList.length)).toArray) ?_ ?_⟩
  · have hsz : u.cells.size = (cellsR v).length := by rw [← hl1]; simp
    simp only [Instr.storeAt, Instr.sureAddr, storeVar, Sem.run_bind, Sem.run_pure, Result.andThen_ok, run_szP w hn]
    simp only [hsz, ne_eq, not_true_eq_false, if_false]
    simpa using hst
  · exact ⟨rfl, rfl, rfl, by simp, fun k hk => setRow_other w b' k _ hk⟩
  · refine ⟨_, t, ?_, setRow_heap w b' _ _ t _ hheap⟩
    have e : u.cells.toList.length = (cellsR v).length := hl1
    rw [e]
    exact ((hvs.take off).append hc).append (hvs.drop _)

theorem load_out {P : Program} {m : Nat → Option Nat} {w0 w : World} {s : St} {a : Act} {id off : Nat} {cs : List RV} {ty : TypeId} {pv : Value} (hs : Sim m w0 s a w)
    (hp : R m (.ptr id off) pv) (hb : s.h[id]? = some (.cells cs)) :
    (∀ n, aggP P ty = some true → szP P ty = some n → off + n ≤ cs.length → ∃ v, (Instr.loadAt ty pv).run P w = .ok v w ∧ R m (.agg ((cs.drop off).take n)) v) ∧
    (∀ r, aggP P ty = some false → cs[off]? = some r → ∃ v, (Instr.loadAt ty pv).run P w = .ok v w ∧ R m r v) := by
  simp only [R] at hp
  obtain ⟨b, hmb, rfl⟩ := hp
  obtain ⟨b', hmb', hbr⟩ := hs.hp.blk id _ hb (by simp)
  have : b' = b := by rw [hmb] at hmb'; injection hmb' with h; exact h.symm
  subst this
  obtain ⟨vs, t, hvs, hheap⟩ := hbr
  have hl2 := hvs.length
  constructor
  · intro n ha hn hle
    have hlen : ((vs.drop off).take n).length = n := by simp; omega
    have hl := run_loadCells_list (P := P) w ⟨b', off, none⟩ ((vs.drop off).take n) (fun j v hj => by
      rw [add_plain]
      rw [List.getElem?_take] at hj
      split at hj
      · rw [List.getElem?_drop] at hj
        simp [World.cell?, hheap, hj]
      · cases hj)
    rw [hlen] at hl
    refine ⟨.agg ⟨(vs.drop off).take n⟩, ?_, ?_⟩
    · simp [Instr.loadAt, Instr.sureAddr, loadVar, run_aggP w ha, run_szP w hn, hl]
    · simp only [R]; exact ⟨_, (hvs.drop off).take n, rfl⟩
  · intro r ha hr
    obtain ⟨v, hv, hrv⟩ := hvs.get hr
    refine ⟨v, ?_, hrv⟩
    have hc : w.cell? ⟨b', off, none⟩ = some v := by simp [World.cell?, hheap, hv]
    simp [Instr.loadAt, Instr.sureAddr, loadVar, run_aggP w ha, load, Sem.run, hc]

theorem map_out {m : Nat → Option Nat} {w0 w : World} {s : St} {a : Act} {id : Nat} {es : List (RV × RV)} {pv : Value} (hs : Sim m w0 s a w) (hp : R m (.map id) pv) (hb : s.h[id]? = some (.map es)) :
    ∃ b ves c, m id = some b ∧ pv = .map (some b) ∧ RM m es ves ∧ w.heap[b]? = some (.map ⟨ves⟩ c) := by
  simp only [R] at hp
  obtain ⟨b, hmb, rfl⟩ := hp
  obtain ⟨b', hmb', hbr⟩ := hs.hp.blk id _ hb (by simp)
  have : b' = b := by rw [hmb] at hmb'; injection hmb' with h; exact h.symm
  subst this
  obtain ⟨vs, t, hvs, hheap⟩ := hbr
  exact ⟨b', vs, t, hmb, rfl, hvs, hheap⟩
theorem RM.push {m : Nat → Option Nat} {k v : RV} {e : MapEntry} (hk : R m k e.key) (hv : R m v e.val) : ∀ {es : List (RV × RV)} {ves : List MapEntry}, RM m es ves → RM m (es ++ [(k, v)]) (ves ++ [e])
  | [], ves, h => by simp only [RM] at h; subst h; simp only [List.nil_append, RM]; exact ⟨e, [], hk, hv, rfl, rfl⟩
  | (k0, v0) :: es, ves, h => by
    simp only [RM] at h
    obtain ⟨x, xs, h1, h2, h3, rfl⟩ := h
    simp only [List.cons_append, RM]
    exact ⟨x, _, h1, h2, RM.push hk hv h3, rfl⟩

theorem new_out {P : Program} {m : Nat → Option Nat} {w0 w : World} {s : St} {a : Act} {o : Oper} {slot : Nat} {cs : List RV} {vs : List Value} {t : TypeId} {r : RV} (hs : Sim m w0 s a w) (hslot : s.h[slot]? = some .no)
    (hr : ∀ m', m' slot = some w.heap.size → ∃ v, (execOp a.eval o).run P w = .ok (.value v) (w.alloc (.cells ⟨vs⟩ t)) ∧ R m' r v) (hcs : RL m cs vs) :
    ∃ m' nx v w', Ext m m' ∧ (execOp a.eval o).run P w = .ok nx w' ∧ nxv nx = some v ∧ R m' r v ∧ HR m' w0 (setsH [(slot, .cells cs)] s.h) w' := by
  have e := hs.hp.ext_new hslot w.heap.size
  obtain ⟨v, h1, h2⟩ := hr (newM m slot w.heap.size) (by simp [newM])
  refine ⟨_, .value v, v, _, e, h1, rfl, h2, ?_⟩
  exact hs.hp.new hslot (x := .cells cs) (by simp) ⟨vs, t, hcs.ext e, (MapKept.heap_alloc w _).1⟩

theorem replicate_map (n : Nat) (v : Value) : ((Array.range n).map fun i => (#[v] : Array Value)[i % (#[v] : Array Value).size]!) = ⟨List.replicate n v⟩ := by
  apply Array.ext'
  apply List.ext_getElem
  · simp
  · intro i h1 h2
    simp [Nat.mod_one]

/-- Does an operation make a block? -/
def newOp : Op → Bool
  | .alloc _ => true
  | .box _ _ => true
  | .buildSlice _ _ _ => true
  | .makeMap _ _ => true
  | _ => false
set_option maxHeartbeats 1000000 in
theorem evOp_sound {P : Program} {m : Nat → Option Nat} {w0 w : World} {s : St} {a : Act} {o : Oper} {slot : Nat} {ds ds' : D} {r : RV} {sets : List (Nat × Blk)} {q : Qs}
    (he : evOp P s.t s.h slot o.op ds = some (r, sets, ds', q)) (hq : holds q) (hs : Sim m w0 s a w) (hslot0 : newOp o.op = true → s.h[slot]? = some .no) :
    ∃ m' nx v w', Ext m m' ∧ (execOp a.eval o).run P w = .ok nx w' ∧ nxv nx = some v ∧ R m' r v ∧ HR m' w0 (setsH sets s.h) w' := by
  have ht := hs.tm
  cases hop : o.op with
  | move x =>
    rw [hop] at he
    simp only [evOp] at he
    split at he
    · rename_i r' hr
      simp only [Option.some.injEq, Prod.mk.injEq] at he; obtain ⟨rfl, rfl, rfl, rfl⟩ := he
      exact plain_out hs ⟨_, by simp only [execOp, hop]; rfl, opR_R hr ht⟩
    · cases he
  | assign x =>
    rw [hop] at he
    simp only [evOp] at he
    split at he
    · rename_i r' hr
      simp only [Option.some.injEq, Prod.mk.injEq] at he; obtain ⟨rfl, rfl, rfl, rfl⟩ := he
      exact plain_out hs ⟨_, by simp only [execOp, hop]; rfl, opR_R hr ht⟩
    · cases he
  | pick c x y =>
    rw [hop] at he
    simp only [evOp] at he
    split at he
    · rename_i cb hc
      have hcv := opR_R hc ht
      simp only [R] at hcv
      split at he
      · rename_i ds1 q1 hask
        split at he
        · rename_i r' hr
          simp only [Option.some.injEq, Prod.mk.injEq] at he; obtain ⟨rfl, rfl, rfl, rfl⟩ := he
          have hb := ask_spec hask hq
          exact plain_out hs ⟨_, by simp only [execOp, hop, hcv, ← hb]; rfl, opR_R hr ht⟩
        · cases he
      · rename_i ds1 q1 hask
        split at he
        · rename_i r' hr
          simp only [Option.some.injEq, Prod.mk.injEq] at he; obtain ⟨rfl, rfl, rfl, rfl⟩ := he
          have hb := ask_spec hask hq
          exact plain_out hs ⟨_, by simp only [execOp, hop, hcv, ← hb]; rfl, opR_R hr ht⟩
        · cases he
    · cases he
  | alloc e =>
    rw [hop] at he
    have hslot := hslot0 (by rw [hop]; rfl)
    simp only [evOp] at he
    split at he
    · rename_i z hz
      split at he
      · rename_i r' hr
        split at he
        · rename_i hk
          simp only [Option.some.injEq, Prod.mk.injEq] at he; obtain ⟨rfl, rfl, rfl, rfl⟩ := he
          refine new_out hs hslot (vs := z.cells.toList) (t := e) (fun m' hm' => ⟨.pointer (some ⟨w.heap.size, 0, none⟩), ?_, by simp only [R]; exact ⟨_, hm', rfl⟩⟩) (cellsR_R hk (ofVal_R hr))
          simp [execOp, hop, Instr.alloc, run_zeroP w hz, newVar, newRow]
        · cases he
      · cases he
    · cases he
  | box e x =>
    rw [hop] at he
    have hslot := hslot0 (by rw [hop]; rfl)
    simp only [evOp] at he
    split at he
    · rename_i r' hr
      split at he
      · rename_i hk
        simp only [Option.some.injEq, Prod.mk.injEq] at he; obtain ⟨rfl, rfl, rfl, rfl⟩ := he
        refine new_out hs hslot (vs := (a.eval x).cells.toList) (t := e) (fun m' hm' => ⟨.pointer (some ⟨w.heap.size, 0, none⟩), ?_, by simp only [R]; exact ⟨_, hm', rfl⟩⟩) (cellsR_R hk (opR_R hr ht))
        simp [execOp, hop, Instr.box, newVar, newRow]
      · cases he
    · cases he
  | build ty parts =>
    rw [hop] at he
    simp only [evOp] at he
    split at he
    · rename_i ps hps
      split at he
      · rename_i cs hcs
        simp only [Option.some.injEq, Prod.mk.injEq] at he; obtain ⟨rfl, rfl, rfl, rfl⟩ := he
        obtain ⟨ws, h1, h2⟩ := built_R hcs (partsR_R ht hps)
        refine plain_out hs ⟨.agg ⟨ws⟩, ?_, by simp only [R]; exact ⟨ws, h2, rfl⟩⟩
        have hb := run_build (P := P) w ty (parts.map fun x => (x.1, a.eval x.2)) ⟨ws⟩ (by simpa using h1)
        simp only [execOp, hop, Sem.run_bind]
        rw [hb]; rfl
      · cases he
    · cases he
  | buildSlice ty len parts =>
    rw [hop] at he
    have hslot := hslot0 (by rw [hop]; rfl)
    simp only [evOp] at he
    split at he
    · rename_i e hu
      split at he
      · rename_i ie hie
        split at he
        · rename_i z hz
          split at he
          · rename_i z0 ps hz0 hps
            split at he
            · rename_i hc
              simp only [Bool.and_eq_true, beq_iff_eq, Nat.blt_eq, Nat.ble_eq] at hc
              obtain ⟨⟨hc1, hc2⟩, hc3⟩ := hc
              split at he
              · rename_i cs hcs
                simp only [Option.some.injEq, Prod.mk.injEq] at he; obtain ⟨rfl, rfl, rfl, rfl⟩ := he
                have hzr : RL m [z0] z.cells.toList := ofLeafs_R hz0
                simp only [RL] at hzr
                obtain ⟨v, vs', hv, rfl, hzc⟩ := hzr
                have hzc' : z.cells = #[v] := by apply Array.ext'; simpa using hzc
                obtain ⟨ws, h1, h2⟩ := fill_R hcs (partsR_R ht hps) (RL.replicate hv len)
                refine new_out hs hslot (vs := ws) (t := e) (fun m' hm' => ⟨.slice (some ⟨w.heap.size, 0, none⟩) len len, ?_, by simp only [R]; exact ⟨_, hm', rfl⟩⟩) h2
                have hb := run_buildSlice (P := P) w ty e len (parts.map fun x => (x.1, a.eval x.2)) ⟨ws⟩ ie z hu hie hz (by rw [hc1]; omega) (by rw [hc1]; omega) (by
                  rw [hzc', hc1, Nat.mul_one, replicate_map]
                  rw [hc1] at h1
                  simpa using h1)
                simp only [execOp, hop, Sem.run_bind]
                rw [hb]; rfl
              · cases he
            · cases he
          · cases he
        · cases he
      · cases he
    · cases he
  | load ty x =>
    rw [hop] at he
    simp only [evOp] at he
    split at he
    · rename_i id off hx
      split at he
      · rename_i cs hcs
        have hl := load_out (P := P) (ty := ty) hs (opR_R hx ht) hcs
        split at he
        · rename_i ha
          split at he
          · rename_i n hn
            split at he
            · rename_i hle
              simp only [Option.some.injEq, Prod.mk.injEq] at he; obtain ⟨rfl, rfl, rfl, rfl⟩ := he
              obtain ⟨v, h1, h2⟩ := hl.1 n ha hn (by simpa using hle)
              exact plain_out hs ⟨v, by simp only [execOp, hop, Sem.run_bind]; rw [h1]; rfl, h2⟩
            · cases he
          · cases he
        · rename_i ha
          split at he
          · rename_i r' hr
            simp only [Option.some.injEq, Prod.mk.injEq] at he; obtain ⟨rfl, rfl, rfl, rfl⟩ := he
            obtain ⟨v, h1, h2⟩ := hl.2 r' ha hr
            exact plain_out hs ⟨v, by simp only [execOp, hop, Sem.run_bind]; rw [h1]; rfl, h2⟩
          · cases he
        · cases he
      · cases he
    · cases he
  | store ty x y =>
    rw [hop] at he
    simp only [evOp] at he
    split at he
    · rename_i id off v hx hy
      split at he
      · rename_i cs n hcs hn
        split at he
        · rename_i hc
          simp only [Bool.and_eq_true, beq_iff_eq, Nat.ble_eq] at hc
          obtain ⟨⟨⟨hk, hsz⟩, ho⟩, hle⟩ := hc
          simp only [Option.some.injEq, Prod.mk.injEq] at he; obtain ⟨rfl, rfl, rfl, rfl⟩ := he
          obtain ⟨w', h1, h2⟩ := store_out hs (opR_R hx ht) hcs (opR_R hy ht) hk (by rw [hsz]; exact hn) ho hle
          exact ⟨m, .skip, undef, w', Ext.refl m, by simp only [execOp, hop, Sem.run_bind]; rw [h1]; rfl, rfl, by simp only [R]; exact ⟨[], RL.nil, rfl⟩, h2⟩
        · cases he
      · cases he
    · cases he
  | binOp op ty x y yt =>
    rw [hop] at he
    simp only [evOp] at he
    split at he
    · rename_i ra rb hx hy
      split at he
      · rename_i r' ds1 q1 hb
        simp only [Option.some.injEq, Prod.mk.injEq] at he; obtain ⟨rfl, rfl, rfl, rfl⟩ := he
        obtain ⟨v, h1, h2⟩ := bin_run x y hb hq (opR_R hx ht) (opR_R hy ht) w
        exact plain_out hs ⟨v, by simp only [execOp, hop]; rw [Sem.run_bind, h1]; rfl, h2⟩
      · cases he
    · cases he
  | unOp op ty x =>
    rw [hop] at he
    simp only [evOp] at he
    split at he
    · rename_i b hx
      simp only [Option.some.injEq, Prod.mk.injEq] at he; obtain ⟨rfl, rfl, rfl, rfl⟩ := he
      have hv := opR_R hx ht
      simp only [R] at hv
      exact plain_out hs ⟨.bool (!b), by simp only [execOp, hop, hv]; rfl, R_bool⟩
    · rename_i k n hx
      simp only [Option.some.injEq, Prod.mk.injEq] at he; obtain ⟨rfl, rfl, rfl, rfl⟩ := he
      have hv := opR_R hx ht
      simp only [R] at hv
      exact plain_out hs ⟨.int k (k.wrap (0 - n)), by simp only [execOp, hop, hv]; rfl, R_int⟩
    · rename_i k n hx
      simp only [Option.some.injEq, Prod.mk.injEq] at he; obtain ⟨rfl, rfl, rfl, rfl⟩ := he
      have hv := opR_R hx ht
      simp only [R] at hv
      exact plain_out hs ⟨.int k (Go.bits .xor k (if k.signed then -1 else k.max) n), by simp only [execOp, hop, hv]; rfl, R_int⟩
    · cases he
  | convert src dst x =>
    rw [hop] at he
    simp only [evOp] at he
    split at he
    · rename_i d1 k k0 n h1 h2 hx
      simp only [Option.some.injEq, Prod.mk.injEq] at he; obtain ⟨rfl, rfl, rfl, rfl⟩ := he
      have hv := opR_R hx ht
      simp only [R] at hv
      refine plain_out hs ⟨.int k (k.wrap n), ?_, R_int⟩
      simp [execOp, hop, hv, convert, run_underlying h1, run_underlying h2, Conv.intToInt]
    · cases he
  | makeFunc fn first captured =>
    rw [hop] at he
    cases fn <;> simp only [evOp] at he <;> first | (cases he; done) | skip
    rename_i f
    split at he
    · rename_i cs h1 h2
      simp only [Option.some.injEq, Prod.mk.injEq] at he; obtain ⟨rfl, rfl, rfl, rfl⟩ := he
      have hc := opsR_R ht h2
      have hfirst : first = #[] := by apply Array.ext'; simpa using h1
      refine plain_out hs ⟨.func (.func f) #[] ⟨captured.toList.map a.eval⟩, ?_, by simp only [R]; exact ⟨_, hc, rfl⟩⟩
      subst hfirst
      simp only [execOp, hop, Instr.makeFunc]
      have : captured.map a.eval = ⟨captured.toList.map a.eval⟩ := by apply Array.ext'; simp
      rw [this]
      simp
    · cases he
  | makeMap ty res =>
    rw [hop] at he
    have hslot := hslot0 (by rw [hop]; rfl)
    cases res <;> simp only [evOp] at he <;> first | (cases he; done) | skip
    simp only [Option.some.injEq, Prod.mk.injEq] at he; obtain ⟨rfl, rfl, rfl, rfl⟩ := he
    have e := hs.hp.ext_new hslot w.heap.size
    refine ⟨newM m slot w.heap.size, .value (.map (some w.heap.size)), _, w.alloc (.map #[] 0), e, ?_, rfl, by simp only [R]; exact ⟨_, by simp [newM], rfl⟩, ?_⟩
    · simp [execOp, hop, Instr.makeMap]
    · exact hs.hp.new hslot (x := .map []) (by simp) ⟨[], 0, by simp [RM], (MapKept.heap_alloc w _).1⟩
  | insert ty x k y =>
    rw [hop] at he
    simp only [evOp] at he
    split at he
    · rename_i id kk n v hx hk hy
      split at he
      · rename_i es kt et hb hu
        split at he
        · rename_i kk' hukt
          split at he
          · rename_i hkk; subst hkk
            split at he
            · rename_i hf
              simp only [Option.some.injEq, Prod.mk.injEq] at he; obtain ⟨rfl, rfl, rfl, rfl⟩ := he
              obtain ⟨b, ves, c, hmb, hpv, hrm, hheap⟩ := map_out hs (opR_R hx ht) hb
              have hkv := opR_R hk ht
              simp only [R] at hkv
              have hyv := opR_R hy ht
              obtain ⟨z, hz1, hz2⟩ := find_R (kk := kk) 0 hf hrm
              simp only at hz2
              subst hz2
              have hck : (Instr.checkKey false 10000 kt (.int kk n)).run P w = .ok () w := MapKept.run_checkKey (k := .int kk n) hukt (by simp [MapKept.IsKey]) false 9999
              have hset := MapKept.heap_set (o' := Obj.map (ves.toArray.push { key := .int kk n, val := a.eval y, born := c }) (c + 1)) hheap
              refine ⟨m, .skip, undef, { w with heap := w.heap.setIfInBounds b (.map (ves.toArray.push { key := .int kk n, val := a.eval y, born := c }) (c + 1)) }, Ext.refl m, ?_, rfl, by simp only [R]; exact ⟨[], RL.nil, rfl⟩, ?_⟩
              · simp [execOp, hop, hpv, hkv, Instr.mapUpdate, run_underlying hu, MapKept.run_getObj_map hheap, hck, MapKept.run_findKey hukt hz1, MapKept.run_setObj_map _ hheap]
              · refine hs.hp.upd hmb (y := .map (es ++ [(.int kk n, v)])) (by simp) (w' := { w with heap := w.heap.setIfInBounds b (.map (ves.toArray.push { key := .int kk n, val := a.eval y, born := c }) (c + 1)) }) ⟨rfl, rfl, rfl, by simp, fun j hj => hset.2 j hj⟩ ⟨ves ++ [{ key := .int kk n, val := a.eval y, born := c }], c + 1, hrm.push (by simp [R]) hyv, ?_⟩
                rw [hset.1]
                simp
            · cases he
          · cases he
        · cases he
      · cases he
    · cases he
  | lookup ty x k ok =>
    rw [hop] at he
    cases ok <;> simp only [evOp] at he <;> first | (cases he; done) | skip
    split at he
    · rename_i id kk n hx hk
      split at he
      · rename_i es kt et hb hu
        split at he
        · rename_i kk' hukt
          split at he
          · rename_i hkk; subst hkk
            obtain ⟨b, ves, c, hmb, hpv, hrm, hheap⟩ := map_out hs (opR_R hx ht) hb
            have hkv := opR_R hk ht
            simp only [R] at hkv
            have hck : ∀ e, (Instr.checkKey e 10000 kt (.int kk n)).run P w = .ok () w := fun e => MapKept.run_checkKey (k := .int kk n) hukt (by simp [MapKept.IsKey]) e 9999
            split at he
            · rename_i v hf
              simp only [Option.some.injEq, Prod.mk.injEq] at he; obtain ⟨rfl, rfl, rfl, rfl⟩ := he
              obtain ⟨z, hz1, j, u, rfl, hru⟩ := find_R (kk := kk) 0 hf hrm
              refine plain_out hs ⟨u, ?_, hru⟩
              simp [execOp, hop, hpv, hkv, Instr.lookup, run_underlying hu, MapKept.run_getObj_map hheap, hck, MapKept.run_findKey hukt hz1]
            · rename_i hf
              split at he
              · rename_i z0 hz0
                split at he
                · rename_i r' hr
                  simp only [Option.some.injEq, Prod.mk.injEq] at he; obtain ⟨rfl, rfl, rfl, rfl⟩ := he
                  obtain ⟨z, hz1, hz2⟩ := find_R (kk := kk) 0 hf hrm
                  simp only at hz2
                  subst hz2
                  refine plain_out hs ⟨z0, ?_, ofVal_R hr⟩
                  simp [execOp, hop, hpv, hkv, Instr.lookup, run_underlying hu, MapKept.run_getObj_map hheap, hck, MapKept.run_findKey hukt hz1, run_zeroP w hz0]
                · cases he
              · cases he
            · cases he
          · cases he
        · cases he
      · cases he
    · cases he
  | fieldAddr sty x f =>
    rw [hop] at he
    simp only [evOp] at he
    split at he
    · rename_i fields id off hu hx
      split at he
      · rename_i fd hf
        split at he
        · rename_i n hn
          simp only [Option.some.injEq, Prod.mk.injEq] at he; obtain ⟨rfl, rfl, rfl, rfl⟩ := he
          have hv := opR_R hx ht
          simp only [R] at hv
          obtain ⟨b, hmb, hpv⟩ := hv
          refine plain_out hs ⟨.pointer (some ⟨b, off + fd.offset, none⟩), ?_, by simp only [R]; exact ⟨b, hmb, rfl⟩⟩
          have hf' : fields[f]? = some fd := by rw [← Array.getElem?_toList]; exact hf
          simp [execOp, hop, hpv, Instr.fieldAt, run_underlying hu, hf', Instr.sureAddr, fieldPlace, run_szP w hn, add_plain]
        · cases he
      · cases he
    · cases he
  | field sty x f =>
    rw [hop] at he
    simp only [evOp] at he
    split at he
    · rename_i fields cs hu hx
      split at he
      · rename_i fd hf
        split at he
        · rename_i r' hp
          simp only [Option.some.injEq, Prod.mk.injEq] at he; obtain ⟨rfl, rfl, rfl, rfl⟩ := he
          have hv := opR_R hx ht
          simp only [R] at hv
          obtain ⟨vs, hvs, hpv⟩ := hv
          obtain ⟨v, h1, h2⟩ := partR_run w hp hvs
          have hf' : fields[f]? = some fd := by rw [← Array.getElem?_toList]; exact hf
          refine plain_out hs ⟨v, ?_, h2⟩
          simp [execOp, hop, hpv, Instr.field, run_underlying hu, hf', asAgg, h1]
        · cases he
      · cases he
    · cases he
  | indexAddr ty x i =>
    rw [hop] at he
    simp only [evOp] at he
    split at he
    · rename_i id off k n hx hi
      have hiv := opR_R hi ht
      simp only [R] at hiv
      have hv := opR_R hx ht
      simp only [R] at hv
      obtain ⟨b, hmb, hpv⟩ := hv
      split at he
      · rename_i len e hu
        split at he
        · rename_i sz ds1 q1 hsz hask
          simp only [Option.some.injEq, Prod.mk.injEq] at he; obtain ⟨rfl, rfl, rfl, rfl⟩ := he
          have hb := of_decide_eq_true (ask_spec hask hq).symm
          refine plain_out hs ⟨.pointer (some ⟨b, off + n.toNat * sz, none⟩), ?_, by simp only [R]; exact ⟨b, hmb, rfl⟩⟩
          simp [execOp, hop, hpv, hiv, Instr.indexAt, run_underlying hu, Instr.sureAddr, asIntOf, hb, run_szP w hsz, add_plain]
        · cases he
      · cases he
    · rename_i id off len cap k n hx hi
      have hiv := opR_R hi ht
      simp only [R] at hiv
      have hv := opR_R hx ht
      simp only [R] at hv
      obtain ⟨b, hmb, hpv⟩ := hv
      split at he
      · rename_i e hu
        split at he
        · rename_i sz ds1 q1 hsz hask
          simp only [Option.some.injEq, Prod.mk.injEq] at he; obtain ⟨rfl, rfl, rfl, rfl⟩ := he
          have hb := of_decide_eq_true (ask_spec hask hq).symm
          refine plain_out hs ⟨.pointer (some ⟨b, off + n.toNat * sz, none⟩), ?_, by simp only [R]; exact ⟨b, hmb, rfl⟩⟩
          simp [execOp, hop, hpv, hiv, Instr.indexAt, run_underlying hu, Instr.sureAddr, asIntOf, hb, run_szP w hsz, add_plain]
        · cases he
      · cases he
    · cases he
  | index ty x i =>
    rw [hop] at he
    simp only [evOp] at he
    split at he
    · rename_i cs k n hx hi
      have hiv := opR_R hi ht
      simp only [R] at hiv
      have hv := opR_R hx ht
      simp only [R] at hv
      obtain ⟨vs, hvs, hpv⟩ := hv
      split at he
      · rename_i len e hu
        split at he
        · rename_i sz ds1 q1 hsz hask
          split at he
          · rename_i r' hp
            simp only [Option.some.injEq, Prod.mk.injEq] at he; obtain ⟨rfl, rfl, rfl, rfl⟩ := he
            have hb := of_decide_eq_true (ask_spec hask hq).symm
            obtain ⟨v, h1, h2⟩ := partR_run w hp hvs
            refine plain_out hs ⟨v, ?_, h2⟩
            simp [execOp, hop, hpv, hiv, Instr.index, run_underlying hu, asIntOf, hb, run_szP w hsz, h1]
          · cases he
        · cases he
      · cases he
    · rename_i sb k n hx hi
      have hiv := opR_R hi ht
      simp only [R] at hiv
      have hpv := opR_R hx ht
      simp only [R] at hpv
      split at he
      · rename_i hu
        split at he
        · rename_i ds1 q1 hask
          simp only [Option.some.injEq, Prod.mk.injEq] at he; obtain ⟨rfl, rfl, rfl, rfl⟩ := he
          have hb := of_decide_eq_true (ask_spec hask hq).symm
          obtain ⟨c, hc, hc2⟩ := strAt_some hb.1 hb.2
          refine plain_out hs ⟨.int .u8 (strAt sb n), ?_, by simp [R]⟩
          simp [execOp, hop, hpv, hiv, Instr.index, run_underlying hu, asIntOf, hb.1, hc, hc2]
        · cases he
      · cases he
    · cases he
  | extract x i =>
    rw [hop] at he
    simp only [evOp] at he
    split at he
    · rename_i rs hx
      split at he
      · rename_i r' hr
        simp only [Option.some.injEq, Prod.mk.injEq] at he; obtain ⟨rfl, rfl, rfl, rfl⟩ := he
        have hv := opR_R hx ht
        simp only [R] at hv
        obtain ⟨vs, hvs, hpv⟩ := hv
        obtain ⟨v, h1, h2⟩ := hvs.get hr
        refine plain_out hs ⟨v, ?_, h2⟩
        simp [execOp, hop, hpv, Instr.extract, h1]
      · cases he
    · cases he
  | call c =>
    rw [hop] at he
    obtain ⟨callee, args, tys⟩ := c
    cases callee <;> simp only [evOp] at he <;> first | (cases he; done) | skip
    rename_i b
    have hargs : args.map a.eval = ⟨args.toList.map a.eval⟩ := by apply Array.ext'; simp
    split at he
    · rename_i id off len cap hx
      split at he
      · rename_i ty hty
        split at he
        · rename_i e hu
          simp only [Option.some.injEq, Prod.mk.injEq] at he; obtain ⟨rfl, rfl, rfl, rfl⟩ := he
          have hv := opsR_R ht hx
          simp only [RL, R] at hv
          obtain ⟨v, vs', ⟨b, hmb, rfl⟩, rfl, hl⟩ := hv
          have htys : tys = #[ty] := by apply Array.ext'; simpa using hty
          refine plain_out hs ⟨.int .i64 len, ?_, R_int⟩
          simp only [execOp, hop, resolve, hargs, hl, htys]
          simp [invoke, builtin, Builtin.len_, run_underlying hu, goInt]
        · cases he
      · cases he
    · rename_i hx
      split at he
      · rename_i ty hty
        split at he
        · rename_i e hu
          simp only [Option.some.injEq, Prod.mk.injEq] at he; obtain ⟨rfl, rfl, rfl, rfl⟩ := he
          have hv := opsR_R ht hx
          simp only [RL, R] at hv
          obtain ⟨v, vs', rfl, rfl, hl⟩ := hv
          have htys : tys = #[ty] := by apply Array.ext'; simpa using hty
          refine plain_out hs ⟨.int .i64 0, ?_, R_int⟩
          simp only [execOp, hop, resolve, hargs, hl, htys]
          simp [invoke, builtin, Builtin.len_, run_underlying hu, goInt]
        · cases he
      · cases he
    · rename_i k x k' y hx
      simp only [Option.some.injEq, Prod.mk.injEq] at he; obtain ⟨rfl, rfl, rfl, rfl⟩ := he
      have hv := opsR_R ht hx
      simp only [RL, R] at hv
      obtain ⟨v, vs', rfl, ⟨v2, vs2, rfl, rfl, rfl⟩, hl⟩ := hv
      refine plain_out hs ⟨_, ?_, R_int⟩
      simp only [execOp, hop, resolve, hargs, hl]
      simp [invoke, builtin, Builtin.min_, Builtin.min2]
    · rename_i k x k' y hx
      simp only [Option.some.injEq, Prod.mk.injEq] at he; obtain ⟨rfl, rfl, rfl, rfl⟩ := he
      have hv := opsR_R ht hx
      simp only [RL, R] at hv
      obtain ⟨v, vs', rfl, ⟨v2, vs2, rfl, rfl, rfl⟩, hl⟩ := hv
      refine plain_out hs ⟨_, ?_, R_int⟩
      simp only [execOp, hop, resolve, hargs, hl]
      simp [invoke, builtin, Builtin.max_, Builtin.max2]
    · cases he
  | _ => rw [hop] at he; simp [evOp] at he

/-! ### Contracts that are at hand -/
structure Orc where
  calls : List (Nat × (List RV → Option (RV × Qs)))
  maps : List (Nat × List (RV × RV))
def findC : List (Nat × (List RV → Option (RV × Qs))) → Nat → Option (List RV → Option (RV × Qs))
  | [], _ => none
  | (g, F) :: r, f => if g = f then some F else findC r f
def findM : List (Nat × List (RV × RV)) → Nat → Option (List (RV × RV))
  | [], _ => none
  | (g, F) :: r, f => if g = f then some F else findM r f
def orcAt (o : Orc) (f : Nat) : Option (List RV → Option (RV × Qs)) := findC o.calls f
def mapAt (o : Orc) (f : Nat) : Option (List (RV × RV)) := findM o.maps f
/-- The callee is a Go function that is entered. -/
def Enters (P : Program) (f : FuncId) : Prop := ∀ w args, (callFunc f args).run P w = .ok (.enter f args) w
structure Keeps (P : Program) (f : FuncId) (F : List RV → Option (RV × Qs)) : Prop where
  enters : Enters P f
  calls : ∀ args r q, F args = some (r, q) → pureL? args = true ∧ pure? r = true ∧ (holds q → ∀ vs, RL M0 args vs → ∃ v, R M0 r v ∧ ∀ w, Calls P f ⟨vs⟩ w fun e w' => e = .returned v ∧ Below w.heap.size w w')
/-- A function of nothing that makes a map of plain data. -/
structure Makes (P : Program) (f : FuncId) (es : List (RV × RV)) : Prop where
  enters : Enters P f
  calls : ∀ w, Calls P f #[] w fun e w' => ∃ b vs c, e = .returned (.map (some b)) ∧ Below w.heap.size w w' ∧ w.heap.size ≤ b ∧ b < w'.heap.size ∧ w'.heap[b]? = some (.map ⟨vs⟩ c) ∧ RM M0 es vs
def OrcOk (P : Program) (orc : Orc) : Prop := (∀ x ∈ orc.calls, Keeps P x.1 x.2) ∧ ∀ x ∈ orc.maps, Makes P x.1 x.2
theorem findC_ok {P : Program} : ∀ {l : List (Nat × (List RV → Option (RV × Qs)))} {f : Nat} {F : List RV → Option (RV × Qs)}, (∀ x ∈ l, Keeps P x.1 x.2) → findC l f = some F → Keeps P f F
  | [], f, F, _, h => by simp [findC] at h
  | (g, G) :: r, f, F, ho, h => by
    simp only [findC] at h
    split at h
    · rename_i hg; subst hg
      injection h with h; subst h
      exact ho (g, G) (by simp)
    · exact findC_ok (fun x hx => ho x (by simp [hx])) h
theorem findM_ok {P : Program} : ∀ {l : List (Nat × List (RV × RV))} {f : Nat} {F : List (RV × RV)}, (∀ x ∈ l, Makes P x.1 x.2) → findM l f = some F → Makes P f F
  | [], f, F, _, h => by simp [findM] at h
  | (g, G) :: r, f, F, ho, h => by
    simp only [findM] at h
    split at h
    · rename_i hg; subst hg
      injection h with h; subst h
      exact ho (g, G) (by simp)
    · exact findM_ok (fun x hx => ho x (by simp [hx])) h
theorem orcAt_ok {P : Program} {orc : Orc} {f : Nat} {F : List RV → Option (RV × Qs)} (ho : OrcOk P orc) (h : orcAt orc f = some F) : Keeps P f F := findC_ok ho.1 h
theorem mapAt_ok {P : Program} {orc : Orc} {f : Nat} {F : List (RV × RV)} (ho : OrcOk P orc) (h : mapAt orc f = some F) : Makes P f F := findM_ok ho.2 h

def enterable (fn : Func) : Bool := !(fn.name == "runtime.NumGoroutine") && fn.body.isSome
theorem enters_of {P : Program} {f : FuncId} {fn : Func} (hf : P.funcs[f]? = some fn) (he : enterable fn = true) : Enters P f := by
  intro w args
  simp only [enterable, Bool.and_eq_true, Bool.not_eq_true'] at he
  obtain ⟨h1, h2⟩ := he
  have h2' : fn.body.isNone = false := by cases hb : fn.body <;> simp_all
  have h3 : ¬ fn.name = "runtime.NumGoroutine" := by simpa using h1
  have h4 : ¬ fn.body = none := by intro hn; rw [hn] at h2; cases h2
  simp [callFunc, hf, h3, h4]

/-! ### Code -/
inductive Xit where
  | norm
  | exit (id : Nat)
  | ret
def Xit.to : Xit → Exit
  | .norm => .normal
  | .exit id => .exit id
  | .ret => .ret
def putR (t : List RV) : Option Tmp → RV → List RV
  | some d, r => t.set d r
  | none, _ => t
theorem putR_R {m : Nat → Option Nat} {t : List RV} {a : Act} {d : Option Tmp} {r : RV} {v : Value} (ht : RL m t a.tmps.toList) (hr : R m r v) : RL m (putR t d r) (a.put d v).tmps.toList := by
  cases d with
  | none => exact ht
  | some d =>
    simp only [putR, Act.put]
    have := ht.set (i := d) hr
    simpa using this
theorem put_defers (a : Act) (d : Option Tmp) (v : Value) : (a.put d v).defers = a.defers := by cases d <;> rfl

def yieldR (ops : Array Oper) (t : List RV) (j : Nat) : Option Bool :=
  match (ops.toList[j]?).bind (·.dst) with
  | some d =>
    match t[d]? with
    | some (.bool b) => some b
    | _ => none
  | none => none
theorem yieldR_R {m : Nat → Option Nat} {ops : Array Oper} {t : List RV} {a : Act} {j : Nat} {b : Bool} (h : yieldR ops t j = some b) (ht : RL m t a.tmps.toList) : yielded ops a.tmps j = some b := by
  unfold yieldR at h
  split at h
  · rename_i d hd
    split at h
    · rename_i b' hb
      injection h with h; subst h
      obtain ⟨v, hv, hr⟩ := ht.get hb
      simp only [R] at hr
      subst hr
      unfold yielded
      rw [Array.getElem?_toList] at hd hv
      rw [hd]
      simp [hv]
    · cases h
  · cases h
/-- The guard's own operation was passed over. -/
def passedR (ops : Array Oper) (t : List RV) (j : Nat) : Bool :=
  match (ops.toList[j]?).bind (·.dst) with
  | some d =>
    match t[d]? with
    | some (.tup []) => true
    | _ => false
  | none => false
theorem passedR_R {m : Nat → Option Nat} {ops : Array Oper} {t : List RV} {a : Act} {j : Nat} (h : passedR ops t j = true) (ht : RL m t a.tmps.toList) : yielded ops a.tmps j = none := by
  unfold passedR at h
  split at h
  · rename_i d hd
    split at h
    · rename_i hb
      obtain ⟨v, hv, hr⟩ := ht.get hb
      simp only [R, RL] at hr
      obtain ⟨vs, _, rfl⟩ := hr
      unfold yielded
      rw [Array.getElem?_toList] at hd hv
      rw [hd]
      simp [hv]
    · cases h
  · cases h
def wantR (ops : Array Oper) (t : List RV) (o : Oper) (ds : D) : Option (Bool × D × Qs) :=
  match o.guard with
  | none => some (true, ds, [])
  | some (j, want) =>
    match yieldR ops t j with
    | some b =>
      match ask b ds with
      | (x, ds', q) => some (x == want, ds', q)
    | none =>
      match passedR ops t j with
      | true => some (false, ds, [])
      | false => none
theorem wantR_R {m : Nat → Option Nat} {ops : Array Oper} {t : List RV} {a : Act} {o : Oper} {ds ds' : D} {x : Bool} {q : Qs} (h : wantR ops t o ds = some (x, ds', q)) (hq : holds q) (ht : RL m t a.tmps.toList) :
    Region.wanted o (yielded ops a.tmps) = x := by
  unfold wantR at h
  unfold Region.wanted
  split at h
  · rename_i hg
    simp only [Option.some.injEq, Prod.mk.injEq] at h
    rw [hg]; exact h.1
  · rename_i j want hg
    split at h
    · rename_i b hb
      cases hask : ask b ds with
      | mk y rest =>
        obtain ⟨ds1, q1⟩ := rest
        rw [hask] at h
        simp only [Option.some.injEq, Prod.mk.injEq] at h
        obtain ⟨rfl, rfl, rfl⟩ := h
        have := ask_spec hask hq
        subst this
        rw [hg]
        simp only [yieldR_R hb ht]
        cases y <;> cases want <;> rfl
    · split at h
      · rename_i hp
        simp only [Option.some.injEq, Prod.mk.injEq] at h
        rw [hg]
        simp only [passedR_R hp ht]
        rw [← h.1]
        rfl
      · cases h
def resR (P : Program) (t : List RV) (h : List Blk) : ResultVar → Option RV
  | .tmp i => t[i]?
  | .cell i ty =>
    match evOp P t h 0 (.load ty (.tmp i)) [] with
    | some (r, [], [], []) => some r
    | _ => none
def ressR (P : Program) (t : List RV) (h : List Blk) : List ResultVar → Option (List RV)
  | [] => some []
  | x :: xs =>
    match resR P t h x with
    | some r =>
      match ressR P t h xs with
      | some rs => some (r :: rs)
      | none => none
    | none => none
def oneRes : List RV → RV
  | [r] => r
  | rs => .tup rs
def isCall : Op → Option (Operand × List Operand)
  | .call { callee := .value f, args := args, argTypes := _ } => some (f, args.toList)
  | _ => none


theorem undef_R {m : Nat → Option Nat} : R m (.tup []) undef := by simp only [R]; exact ⟨[], RL.nil, rfl⟩
theorem nx_upon {P : Program} {o : Oper} {a : Act} {w : World} {next : Act → World → Prop} {Q : Exit → Act → World → Prop} {nx : Next} {v : Value} (h : nxv nx = some v) (hn : next (a.put o.dst v) w) : o.upon P a next Q (.ok nx w) := by
  cases nx <;> simp only [nxv] at h <;> first | (cases h; done) | skip
  · injection h with h; subst h; exact hn
  · injection h with h; subst h; exact hn
def resF (tmps : Array Value) : ResultVar → Sem Value
  | .tmp t => pure (tmps.getD t undef)
  | .cell i t => (do loadVar t (← asAddr (tmps.getD i undef)))
theorem results_eq (fn : Func) (tmps : Array Value) : results fn tmps = (do let vs ← fn.results.mapM (resF tmps); pure (if h : vs.size = 1 then vs[0] else .tuple vs)) := by
  have : (fun x => match x with
    | ResultVar.tmp t => pure (tmps.getD t undef)
    | ResultVar.cell a t => (do loadVar t (← asAddr (tmps.getD a undef)) : Sem Value)) = resF tmps := by
    funext x
    cases x <;> rfl
  unfold results
  rw [← this]
  rfl
theorem resR_run {P : Program} {m : Nat → Option Nat} {w0 w : World} {s : St} {a : Act} {x : ResultVar} {r : RV} (h : resR P s.t s.h x = some r) (hs : Sim m w0 s a w) :
    ∃ v, (resF a.tmps x).run P w = .ok v w ∧ R m r v := by
  cases x with
  | tmp i =>
    simp only [resR] at h
    obtain ⟨v, hv, hr⟩ := hs.tm.get h
    rw [Array.getElem?_toList] at hv
    exact ⟨v, by simp [resF, hv], hr⟩
  | cell i ty =>
    simp only [resR] at h
    split at h
    · rename_i r' he
      injection h with h; subst h
      have hx : ∃ id off, opR s.t (.tmp i) = some (.ptr id off) := by
        simp only [evOp] at he
        split at he
        · rename_i id off hx; exact ⟨id, off, hx⟩
        · cases he
      obtain ⟨id, off, hx⟩ := hx
      have hxr := opR_R (a := a) hx hs.tm
      simp only [R] at hxr
      obtain ⟨b, hmb, hpv⟩ := hxr
      have hev : a.tmps.getD i undef = .pointer (some ⟨b, off, none⟩) := hpv
      simp only [evOp, hx] at he
      split at he
      · rename_i cs hcs
        have hl := load_out (P := P) (ty := ty) hs (opR_R hx hs.tm) hcs
        rw [hpv] at hl
        split at he
        · rename_i ha
          split at he
          · rename_i n hn
            split at he
            · rename_i hle
              simp only [Option.some.injEq, Prod.mk.injEq] at he; obtain ⟨rfl, _⟩ := he
              obtain ⟨v, h1, h2⟩ := hl.1 n ha hn (by simpa using hle)
              refine ⟨v, ?_, h2⟩
              simpa [resF, hev, asAddr, Instr.loadAt, Instr.sureAddr] using h1
            · cases he
          · cases he
        · rename_i ha
          split at he
          · rename_i r' hr
            simp only [Option.some.injEq, Prod.mk.injEq] at he; obtain ⟨rfl, _⟩ := he
            obtain ⟨v, h1, h2⟩ := hl.2 r' ha hr
            refine ⟨v, ?_, h2⟩
            simpa [resF, hev, asAddr, Instr.loadAt, Instr.sureAddr] using h1
          · cases he
        · cases he
      · cases he
    · cases h
theorem ressR_run {P : Program} {m : Nat → Option Nat} {w0 w : World} {s : St} {a : Act} : ∀ {xs : List ResultVar} {rs : List RV}, ressR P s.t s.h xs = some rs → Sim m w0 s a w →
    ∃ vs, (xs.mapM (resF a.tmps)).run P w = .ok vs w ∧ RL m rs vs
  | [], rs, h, hs => by simp only [ressR, Option.some.injEq] at h; subst h; exact ⟨[], by simp, RL.nil⟩
  | x :: xs, rs, h, hs => by
    simp only [ressR] at h
    split at h
    · rename_i r hr
      split at h
      · rename_i rs' hrs
        injection h with h; subst h
        obtain ⟨v, h1, h2⟩ := resR_run hr hs
        obtain ⟨vs, h3, h4⟩ := ressR_run hrs hs
        refine ⟨v :: vs, ?_, RL.cons h2 h4⟩
        rw [List.mapM_cons]
        simp only [Sem.run_bind]
        rw [h1]
        simp only [Result.andThen_ok]
        rw [h3]
        simp
      · cases h
    · cases h
theorem results_run {P : Program} {m : Nat → Option Nat} {w0 w : World} {s : St} {a : Act} {fn : Func} {rs : List RV} (h : ressR P s.t s.h fn.results.toList = some rs) (hs : Sim m w0 s a w) :
    ∃ v, (results fn a.tmps).run P w = .ok v w ∧ R m (oneRes rs) v := by
  obtain ⟨vs, h1, h2⟩ := ressR_run h hs
  rw [results_eq, Array.mapM_eq_mapM_toList]
  have hl := h2.length
  refine ⟨if h : vs.toArray.size = 1 then vs.toArray[0] else .tuple vs.toArray, ?_, ?_⟩
  · simp only [Sem.run_bind, Sem.run_map, h1]
    rfl
  · match rs, vs, h2, hl with
    | [], [], h2, hl => simp [oneRes, R, RL]
    | [r], [v], h2, hl =>
      simp only [RL] at h2
      obtain ⟨u, us, hr, rfl, hu⟩ := h2
      simp only [List.cons.injEq] at hu
      simpa [oneRes, hu.1] using hr
    | r1 :: r2 :: rs, v1 :: v2 :: vs, h2, hl =>
      simp only [oneRes, R]
      exact ⟨_, h2, by simp⟩
theorem isCall_eq {o : Oper} {fo : Operand} {aos : List Operand} (h : isCall o.op = some (fo, aos)) : ∃ args tys, o.op = .call { callee := .value fo, args := args, argTypes := tys } ∧ aos = args.toList := by
  cases hop : o.op with
  | call c =>
    rw [hop] at h
    obtain ⟨callee, args, tys⟩ := c
    cases callee <;> simp only [isCall] at h <;> first | (cases h; done) | skip
    simp only [Option.some.injEq, Prod.mk.injEq] at h
    obtain ⟨rfl, rfl⟩ := h
    exact ⟨args, tys, rfl, rfl⟩
  | _ => rw [hop] at h; simp [isCall] at h

/-- A call by a contract, or into a body. -/
theorem call_wp {P : Program} {o : Oper} {a : Act} {w : World} {next : Act → World → Prop} {Q : Exit → Act → World → Prop} {fo : Operand} {aos : List Operand} (hc : isCall o.op = some (fo, aos)) {f : Nat} {cs vs : List Value}
    (hf : a.eval fo = .func (.func f) #[] ⟨cs⟩) (ha : aos.map a.eval = vs) (he : Enters P f) {R : Ending → World → Prop} (hcalls : Calls P f ⟨vs ++ cs⟩ w R)
    (hn : ∀ e w', R e w' → ∃ v, e = .returned v ∧ next (a.put o.dst v) w') : o.wp P a w next Q := by
  obtain ⟨args, tys, hop, rfl⟩ := isCall_eq hc
  have hargs : args.map a.eval = ⟨vs⟩ := by apply Array.ext'; rw [← ha]; simp
  unfold Oper.wp
  have hx : (execOp a.eval o).run P w = .ok (.enter f ⟨vs ++ cs⟩) w := by
    simp only [execOp, hop, resolve, hf, Deferred.ofValue, hargs]
    simp only [pure_bind, invoke]
    have : (#[] ++ (⟨vs⟩ : Array Value) ++ (⟨cs⟩ : Array Value)) = ⟨vs ++ cs⟩ := by apply Array.ext'; simp
    rw [this]
    exact he w _
  rw [hx, Oper.upon_enter]
  refine hcalls.mono fun e w' hR => ?_
  obtain ⟨v, rfl, hnext⟩ := hn e w' hR
  exact hnext


/-! ### What an operation looks at -/
def blkOf (t : List RV) : Op → Option Nat
  | .load _ x =>
    match opR t x with
    | some (.ptr id _) => some id
    | _ => none
  | .store _ x _ =>
    match opR t x with
    | some (.ptr id _) => some id
    | _ => none
  | .insert _ x _ _ =>
    match opR t x with
    | some (.map id) => some id
    | _ => none
  | .lookup _ x _ _ =>
    match opR t x with
    | some (.map id) => some id
    | _ => none
  | _ => none
theorem opsR_congr {t t' : List RV} : ∀ {os : List Operand}, (∀ x ∈ os, opR t' x = opR t x) → opsR t' os = opsR t os
  | [], _ => rfl
  | o :: os, h => by
    simp only [opsR]
    rw [h o (by simp), opsR_congr (fun x hx => h x (by simp [hx]))]
theorem partsR_congr {t t' : List RV} : ∀ {os : List (Nat × Operand)}, (∀ x ∈ os, opR t' x.2 = opR t x.2) → partsR t' os = partsR t os
  | [], _ => rfl
  | (i, o) :: os, h => by
    simp only [partsR]
    rw [h (i, o) (by simp), partsR_congr (fun x hx => h x (by simp [hx]))]
theorem evOp_congr {P : Program} {t t' : List RV} {h h' : List Blk} {slot : Nat} {op : Op} {ds : D} (ht : ∀ x ∈ op.operands.toList, opR t' x = opR t x) (hb : ∀ id, blkOf t op = some id → h'[id]? = h[id]?) :
    evOp P t' h' slot op ds = evOp P t h slot op ds := by
  cases op with
  | move x => simp only [evOp, ht x (by simp [Op.operands])]
  | assign x => simp only [evOp, ht x (by simp [Op.operands])]
  | pick c x y => simp only [evOp, ht c (by simp [Op.operands]), ht x (by simp [Op.operands]), ht y (by simp [Op.operands])]
  | alloc e => rfl
  | box e x => simp only [evOp, ht x (by simp [Op.operands])]
  | build ty parts =>
    simp only [evOp]
    rw [partsR_congr (t := t) (t' := t') fun x hx => ht x.2 (by simp only [Op.operands]; simp; exact ⟨x.1, by simpa using hx⟩)]
  | buildSlice ty len parts =>
    simp only [evOp]
    rw [partsR_congr (t := t) (t' := t') fun x hx => ht x.2 (by simp only [Op.operands]; simp; exact ⟨x.1, by simpa using hx⟩)]
  | load ty x =>
    simp only [evOp, ht x (by simp [Op.operands])]
    cases hx : opR t x with
    | none => rfl
    | some r =>
      cases r with
      | ptr id off => have hbb := hb id (by simp [blkOf, hx]); simp only [hbb]
      | _ => rfl
  | store ty x y =>
    simp only [evOp, ht x (by simp [Op.operands]), ht y (by simp [Op.operands])]
    cases hx : opR t x with
    | none => rfl
    | some r =>
      cases r with
      | ptr id off => have hbb := hb id (by simp [blkOf, hx]); generalize opR t y = vy; cases vy <;> first | rfl | simp only [hbb]
      | _ => rfl
  | binOp op ty x y yt => simp only [evOp, ht x (by simp [Op.operands]), ht y (by simp [Op.operands])]
  | unOp op ty x => simp only [evOp, ht x (by simp [Op.operands])]
  | convert src dst x => simp only [evOp, ht x (by simp [Op.operands])]
  | makeFunc fn first captured =>
    cases fn <;> simp only [evOp]
    rw [opsR_congr (t := t) (t' := t') fun x hx => ht x (by simp only [Op.operands]; simp; exact .inr (by simpa using hx))]
  | makeMap ty res => cases res <;> rfl
  | insert ty x k y =>
    simp only [evOp, ht x (by simp [Op.operands]), ht k (by simp [Op.operands]), ht y (by simp [Op.operands])]
    cases hx : opR t x with
    | none => rfl
    | some r =>
      cases r with
      | map id => have hbb := hb id (by simp [blkOf, hx]); generalize opR t y = vy; generalize opR t k = vk; (cases vk with | none => rfl | some rk => cases rk <;> first | rfl | (cases vy <;> first | rfl | simp only [hbb]))
      | _ => rfl
  | lookup ty x k ok =>
    cases ok <;> simp only [evOp]
    simp only [ht x (by simp [Op.operands]), ht k (by simp [Op.operands])]
    cases hx : opR t x with
    | none => rfl
    | some r =>
      cases r with
      | map id => have hbb := hb id (by simp [blkOf, hx]); generalize opR t k = vk; (cases vk with | none => rfl | some rk => cases rk <;> first | rfl | simp only [hbb])
      | _ => rfl
  | fieldAddr sty x f => simp only [evOp, ht x (by simp [Op.operands])]
  | field sty x f => simp only [evOp, ht x (by simp [Op.operands])]
  | indexAddr ty x i => simp only [evOp, ht x (by simp [Op.operands]), ht i (by simp [Op.operands])]
  | index ty x i => simp only [evOp, ht x (by simp [Op.operands]), ht i (by simp [Op.operands])]
  | extract x i => simp only [evOp, ht x (by simp [Op.operands])]
  | call c =>
    obtain ⟨callee, args, tys⟩ := c
    cases callee <;> simp only [evOp]
    rw [opsR_congr (t := t) (t' := t') fun x hx => ht x (by simp only [Op.operands, Call.operands]; simpa using hx)]
  | _ => rfl
def isWr : Op → Bool
  | .store _ _ _ => true
  | .insert _ _ _ _ => true
  | _ => false
/-- The blocks that it writes. -/
theorem evOp_sets {P : Program} {t : List RV} {h : List Blk} {slot : Nat} {op : Op} {ds ds' : D} {r : RV} {sets : List (Nat × Blk)} {q : Qs} (he : evOp P t h slot op ds = some (r, sets, ds', q)) :
    ∀ x ∈ sets, (newOp op = true ∧ x.1 = slot) ∨ (isWr op = true ∧ blkOf t op = some x.1) := by
  cases op with
  | store ty x y =>
    simp only [evOp] at he
    split at he
    · rename_i id off v hx hy
      split at he
      · split at he
        · simp only [Option.some.injEq, Prod.mk.injEq] at he; obtain ⟨rfl, rfl, rfl, rfl⟩ := he
          intro z hz
          simp only [List.mem_singleton] at hz
          subst hz
          exact .inr ⟨rfl, by simp [blkOf, hx]⟩
        · cases he
      · cases he
    · cases he
  | insert ty x k y =>
    simp only [evOp] at he
    split at he
    · rename_i id kk n v hx hk hy
      split at he
      · split at he
        · split at he
          · split at he
            · simp only [Option.some.injEq, Prod.mk.injEq] at he; obtain ⟨rfl, rfl, rfl, rfl⟩ := he
              intro z hz
              simp only [List.mem_singleton] at hz
              subst hz
              exact .inr ⟨rfl, by simp [blkOf, hx]⟩
            · cases he
          · cases he
        · cases he
      · cases he
    · cases he
  | alloc e =>
    simp only [evOp] at he
    repeat' (split at he)
    all_goals first | (cases he; done) | skip
    simp only [Option.some.injEq, Prod.mk.injEq] at he; obtain ⟨rfl, rfl, rfl, rfl⟩ := he
    intro z hz
    simp only [List.mem_singleton] at hz
    subst hz
    exact .inl ⟨rfl, rfl⟩
  | box e x =>
    simp only [evOp] at he
    repeat' (split at he)
    all_goals first | (cases he; done) | skip
    simp only [Option.some.injEq, Prod.mk.injEq] at he; obtain ⟨rfl, rfl, rfl, rfl⟩ := he
    intro z hz
    simp only [List.mem_singleton] at hz
    subst hz
    exact .inl ⟨rfl, rfl⟩
  | buildSlice ty len parts =>
    simp only [evOp] at he
    repeat' (split at he)
    all_goals first | (cases he; done) | skip
    simp only [Option.some.injEq, Prod.mk.injEq] at he; obtain ⟨rfl, rfl, rfl, rfl⟩ := he
    intro z hz
    simp only [List.mem_singleton] at hz
    subst hz
    exact .inl ⟨rfl, rfl⟩
  | makeMap ty res =>
    cases res <;> simp only [evOp] at he <;> first | (cases he; done) | skip
    simp only [Option.some.injEq, Prod.mk.injEq] at he; obtain ⟨rfl, rfl, rfl, rfl⟩ := he
    intro z hz
    simp only [List.mem_singleton] at hz
    subst hz
    exact .inl ⟨rfl, rfl⟩
  | lookup ty x k ok =>
    cases ok <;> simp only [evOp] at he <;> first | (cases he; done) | skip
    repeat' (split at he)
    all_goals first
      | (cases he; done)
      | (simp only [Option.some.injEq, Prod.mk.injEq] at he; obtain ⟨rfl, rfl, rfl, rfl⟩ := he; intro z hz; simp at hz)
  | makeFunc fn first captured =>
    cases fn <;> simp only [evOp] at he <;> first | (cases he; done) | skip
    repeat' (split at he)
    all_goals first
      | (cases he; done)
      | (simp only [Option.some.injEq, Prod.mk.injEq] at he; obtain ⟨rfl, rfl, rfl, rfl⟩ := he; intro z hz; simp at hz)
  | call c =>
    obtain ⟨callee, args, tys⟩ := c
    cases callee <;> simp only [evOp] at he <;> first | (cases he; done) | skip
    repeat' (split at he)
    all_goals first
      | (cases he; done)
      | (simp only [Option.some.injEq, Prod.mk.injEq] at he; obtain ⟨rfl, rfl, rfl, rfl⟩ := he; intro z hz; simp at hz)
  | _ =>
    simp only [evOp] at he
    repeat' (split at he)
    all_goals first
      | (cases he; done)
      | (simp only [Option.some.injEq, Prod.mk.injEq] at he; obtain ⟨rfl, rfl, rfl, rfl⟩ := he; intro z hz; simp at hz)

/-! ### A region whose order is drawn -/
def slotOk (o : Op) (h : List Blk) (slot : Nat) : Bool :=
  match newOp o with
  | true =>
    match h[slot]? with
    | some .no => true
    | _ => false
  | false => true
def stepR (P : Program) (orc : Orc) (ops : Array Oper) (slot : Nat) (o : Oper) (s : St) (ds : D) : Option (St × D × Qs) :=
  match wantR ops s.t o ds with
  | some (false, ds1, q1) => some ({ s with t := putR s.t o.dst (.tup []) }, ds1, q1)
  | some (true, ds1, q1) =>
    match isCall o.op with
    | some (fo, aos) =>
      match opR s.t fo, opsR s.t aos with
      | some (.func f cs), some as =>
        match orcAt orc f with
        | some F =>
          match F (as ++ cs) with
          | some (r, qf) => some ({ s with t := putR s.t o.dst r }, ds1, q1 ++ qf)
          | none => none
        | none =>
          match mapAt orc f, as ++ cs, s.h[slot]? with
          | some es, [], some .no => some ({ t := putR s.t o.dst (.map slot), h := s.h.set slot (.map es) }, ds1, q1)
          | _, _, _ => none
      | _, _ => none
    | none =>
      match slotOk o.op s.h slot with
      | true =>
        match evOp P s.t s.h slot o.op ds1 with
        | some (r, sets, ds2, q2) => some ({ t := putR s.t o.dst r, h := setsH sets s.h }, ds2, q1 ++ q2)
        | none => none
      | false => none
  | none => none

theorem stepR_wp {P : Program} {orc : Orc} (ho : OrcOk P orc) {ops : Array Oper} {slot j : Nat} {o : Oper} {s s' : St} {ds ds' : D} {q : Qs} (hj : ops[j]? = some o) (he : stepR P orc ops slot o s ds = some (s', ds', q)) (hq : holds q)
    {m : Nat → Option Nat} {w0 w : World} {a : Act} {K : Act → World → Prop} {Q : Exit → Act → World → Prop} (hs : Sim m w0 s a w) (hK : ∀ m' a' w', Ext m m' → Sim m' w0 s' a' w' → K a' w') : wpOp P ops Q j K a w := by
  unfold wpOp
  simp only [hj]
  unfold stepR at he
  split at he
  · rename_i ds1 q1 hw
    simp only [Option.some.injEq, Prod.mk.injEq] at he
    obtain ⟨rfl, rfl, rfl⟩ := he
    rw [wantR_R hw hq hs.tm]
    simp only [Bool.false_eq_true, if_false]
    exact hK m _ w (Ext.refl m) ⟨putR_R hs.tm undef_R, by rw [put_defers]; exact hs.df, hs.hp⟩
  · rename_i ds1 q1 hw
    split at he
    · rename_i fo aos hc
      split at he
      · rename_i f cs as hfo has
        split at he
        · rename_i F hF'
          split at he
          · rename_i r qf hr'
            simp only [Option.some.injEq, Prod.mk.injEq] at he
            obtain ⟨rfl, rfl, rfl⟩ := he
            obtain ⟨hq1, hq2⟩ := holds_append.1 hq
            rw [wantR_R hw hq1 hs.tm]
            simp only [if_true]
            have hfv := opR_R hfo hs.tm
            simp only [SX.R] at hfv
            obtain ⟨vcs, hvcs, hfv⟩ := hfv
            have hall := (opsR_R hs.tm has).append hvcs
            have hk := orcAt_ok ho hF'
            obtain ⟨hp1, hp2, hk2⟩ := hk.calls _ _ _ hr'
            obtain ⟨v, hrv, hcalls⟩ := hk2 hq2 _ (hall.pure hp1)
            refine .inl (call_wp hc hfv rfl hk.enters (hcalls w) fun e w' ⟨hev, hb⟩ => ⟨v, hev, ?_⟩)
            exact hK m _ w' (Ext.refl m) ⟨putR_R hs.tm (hrv.pure hp2), by rw [put_defers]; exact hs.df, hs.hp.call hb⟩
          · cases he
        · split at he
          · rename_i es hM hnil hslot
            simp only [Option.some.injEq, Prod.mk.injEq] at he
            obtain ⟨rfl, rfl, rfl⟩ := he
            rw [wantR_R hw hq hs.tm]
            simp only [if_true]
            have hfv := opR_R hfo hs.tm
            simp only [SX.R] at hfv
            obtain ⟨vcs, hvcs, hfv⟩ := hfv
            have hall := (opsR_R hs.tm has).append hvcs
            rw [hnil] at hall
            simp only [RL] at hall
            have hk := mapAt_ok ho hM
            have hcalls := hk.calls w
            rw [show (#[] : Array Value) = ⟨aos.map a.eval ++ vcs⟩ by rw [hall]] at hcalls
            refine .inl (call_wp hc hfv rfl hk.enters hcalls fun e w' ⟨b, vs, c, hev, hb, h1, h2, h3, h4⟩ => ⟨_, hev, ?_⟩)
            have hh := hs.hp.made hslot hb h1 h2 (x := .map es) (by simp) ⟨vs, c, h4.ext (fun i b h => by cases h), h3⟩
            exact hK _ _ w' (hs.hp.ext_new hslot b) ⟨putR_R (hs.tm.ext (hs.hp.ext_new hslot b)) ⟨b, by simp [newM], rfl⟩, by rw [put_defers]; exact hs.df, hh⟩
          · cases he
      · cases he
    · rename_i hc
      split at he
      · rename_i hsl
        split at he
        · rename_i r sets ds2 q2 hop
          simp only [Option.some.injEq, Prod.mk.injEq] at he
          obtain ⟨rfl, rfl, rfl⟩ := he
          obtain ⟨hq1, hq2⟩ := holds_append.1 hq
          rw [wantR_R hw hq1 hs.tm]
          simp only [if_true]
          obtain ⟨m', nx, v, w', hext, hrun, hnx, hrv, hh⟩ := evOp_sound hop hq2 hs (fun hn => by
            unfold slotOk at hsl
            rw [hn] at hsl
            simp only at hsl
            split at hsl
            · rename_i h; exact h
            · cases hsl)
          refine .inl ?_
          unfold Oper.wp
          rw [hrun]
          exact nx_upon hnx (hK m' _ w' hext ⟨putR_R (hs.tm.ext hext) hrv, by rw [put_defers]; exact hs.df, hh⟩)
        · cases he
      · cases he
  · cases he

inductive Loc where
  | t (i : Nat)
  | b (i : Nat)
def Loc.eq : Loc → Loc → Bool
  | .t i, .t j => i.beq j
  | .b i, .b j => i.beq j
  | _, _ => false
theorem Loc.eq_iff {a b : Loc} : a.eq b = true ↔ a = b := by
  cases a <;> cases b <;> simp [Loc.eq]
inductive Cont where
  | t (r : Option RV)
  | b (r : Option Blk)
def St.at (s : St) : Loc → Cont
  | .t i => .t s.t[i]?
  | .b i => .b s.h[i]?
def tmpsOf : List Operand → List Loc
  | [] => []
  | .tmp i :: os => .t i :: tmpsOf os
  | _ :: os => tmpsOf os
def guardOf (ops : Array Oper) (o : Oper) : List Loc :=
  match o.guard with
  | some (g, _) =>
    match (ops.toList[g]?).bind (·.dst) with
    | some d => [.t d]
    | none => []
  | none => []
def blkL (t : List RV) (op : Op) : List Loc :=
  match blkOf t op with
  | some id => [.b id]
  | none => []
def slotted : Op → Bool
  | .call _ => true
  | o => newOp o
theorem slotted_of {o : Op} (h : newOp o = true) : slotted o = true := by
  cases o <;> first | rfl | exact h
theorem slotted_call {o : Op} {z : Operand × List Operand} (h : isCall o = some z) : slotted o = true := by
  cases o <;> first | rfl | cases h
def needL (ops : Array Oper) (slot : Nat) (o : Oper) (t : List RV) : List Loc :=
  tmpsOf o.op.operands.toList ++ (guardOf ops o ++ (blkL t o.op ++ (if slotted o.op then [.b slot] else [])))
def wrL (slot : Nat) (o : Oper) (t : List RV) : List Loc :=
  (match o.dst with
    | some d => [.t d]
    | none => []) ++ ((if isWr o.op then blkL t o.op else []) ++ (if slotted o.op then [.b slot] else []))

theorem mem_tmpsOf {i : Nat} : ∀ {os : List Operand}, .tmp i ∈ os → Loc.t i ∈ tmpsOf os
  | [], h => by cases h
  | o :: os, h => by
    rcases List.mem_cons.1 h with rfl | h
    · simp [tmpsOf]
    · have := mem_tmpsOf h
      cases o <;> simp [tmpsOf, this]
theorem setsH_length : ∀ (sets : List (Nat × Blk)) (h : List Blk), (setsH sets h).length = h.length
  | [], h => rfl
  | (i, b) :: r, h => by simp [setsH, setsH_length r]
theorem setsH_not : ∀ (sets : List (Nat × Blk)) (h : List Blk) (i : Nat), (∀ x ∈ sets, x.1 ≠ i) → (setsH sets h)[i]? = h[i]?
  | [], h, i, _ => rfl
  | (k, b) :: r, h, i, hn => by
    simp only [setsH]
    rw [setsH_not r _ i (fun x hx => hn x (by simp [hx])), List.getElem?_set_ne (hn (k, b) (by simp))]
theorem setsH_same : ∀ (sets : List (Nat × Blk)) (h u : List Blk) (i : Nat), h.length = u.length → (h[i]? = u[i]? ∨ ∃ x ∈ sets, x.1 = i) → (setsH sets h)[i]? = (setsH sets u)[i]?
  | [], h, u, i, _, hi => by
    rcases hi with hi | ⟨x, hx, _⟩
    · exact hi
    · cases hx
  | (k, b) :: r, h, u, i, hl, hi => by
    simp only [setsH]
    refine setsH_same r _ _ i (by simp [hl]) ?_
    by_cases hk : k = i
    · subst hk
      left
      rw [List.getElem?_set, List.getElem?_set]
      simp [hl]
    · rcases hi with hi | ⟨x, hx, hxi⟩
      · left; rw [List.getElem?_set_ne hk, List.getElem?_set_ne hk]; exact hi
      · rcases List.mem_cons.1 hx with rfl | hx
        · exact absurd hxi hk
        · exact .inr ⟨x, hx, hxi⟩

/-- What a step leaves hangs on what it looks at alone. -/
theorem stepR_local {P : Program} {orc : Orc} {ops : Array Oper} {slot : Nat} {o : Oper} {s s' u : St} {ds ds' : D} {q : Qs} (he : stepR P orc ops slot o s ds = some (s', ds', q))
    (hl1 : u.t.length = s.t.length) (hl2 : u.h.length = s.h.length) (hn : ∀ l ∈ needL ops slot o s.t, u.at l = s.at l) :
    ∃ u', stepR P orc ops slot o u ds = some (u', ds', q) ∧ u'.t.length = u.t.length ∧ u'.h.length = u.h.length ∧ (∀ l ∈ wrL slot o s.t, u'.at l = s'.at l) ∧ (∀ l, l ∉ wrL slot o s.t → u'.at l = u.at l) := by
  have hop : ∀ x ∈ o.op.operands.toList, opR u.t x = opR s.t x := by
    intro x hx
    cases x with
    | tmp i =>
      have := hn (.t i) (by unfold needL; exact List.mem_append_left _ (mem_tmpsOf hx))
      simp only [St.at, Cont.t.injEq] at this
      exact this
    | _ => rfl
  have hb : ∀ id, blkOf s.t o.op = some id → u.h[id]? = s.h[id]? := by
    intro id hid
    have := hn (.b id) (by unfold needL blkL; simp [hid])
    simp only [St.at, Cont.b.injEq] at this
    exact this
  have hslot : slotted o.op = true → u.h[slot]? = s.h[slot]? := by
    intro hnew
    have := hn (.b slot) (by unfold needL; simp [hnew])
    simp only [St.at, Cont.b.injEq] at this
    exact this
  have hw : wantR ops u.t o ds = wantR ops s.t o ds := by
    unfold wantR
    split
    · rfl
    · rename_i g want hg
      have : yieldR ops u.t g = yieldR ops s.t g := by
        unfold yieldR
        split
        · rename_i d hd
          have := hn (.t d) (by unfold needL guardOf; simp only [hg, hd]; simp)
          simp only [St.at, Cont.t.injEq] at this
          rw [this]
        · rfl
      have hpass : passedR ops u.t g = passedR ops s.t g := by
        unfold passedR
        split
        · rename_i d hd
          have := hn (.t d) (by unfold needL guardOf; simp only [hg, hd]; simp)
          simp only [St.at, Cont.t.injEq] at this
          rw [this]
        · rfl
      rw [this, hpass]
  have hput : ∀ r, (putR u.t o.dst r).length = u.t.length ∧ (putR s.t o.dst r).length = s.t.length ∧ (∀ i, Loc.t i ∈ wrL slot o s.t → (putR u.t o.dst r)[i]? = (putR s.t o.dst r)[i]?) ∧ ∀ i, Loc.t i ∉ wrL slot o s.t → (putR u.t o.dst r)[i]? = u.t[i]? := by
    intro r
    cases hd : o.dst with
    | none =>
      refine ⟨rfl, rfl, fun i hi => ?_, fun i _ => rfl⟩
      unfold wrL blkL at hi
      simp only [hd, List.nil_append] at hi
      rcases List.mem_append.1 hi with hi | hi
      · split at hi
        · split at hi <;> simp at hi
        · cases hi
      · split at hi <;> simp at hi
    | some d =>
      refine ⟨by simp [putR], by simp [putR], fun i hi => ?_, fun i hi => ?_⟩
      · have : i = d := by
          unfold wrL blkL at hi
          simp only [hd] at hi
          rcases List.mem_append.1 hi with hi | hi
          · simpa using hi
          · rcases List.mem_append.1 hi with hi | hi
            · split at hi
              · split at hi <;> simp at hi
              · cases hi
            · split at hi <;> simp at hi
        subst this
        simp only [putR, List.getElem?_set, hl1]
        rfl
      · have : d ≠ i := by
          rintro rfl
          exact hi (by unfold wrL; simp [hd])
        simp only [putR]
        rw [List.getElem?_set_ne this]
  have hbw : ∀ i, Loc.b i ∈ wrL slot o s.t → u.h[i]? = s.h[i]? := by
    intro i hi
    unfold wrL at hi
    rcases List.mem_append.1 hi with hi | hi
    · split at hi <;> simp at hi
    · rcases List.mem_append.1 hi with hi | hi
      · split at hi
        · unfold blkL at hi
          split at hi
          · rename_i id hid
            simp only [List.mem_singleton, Loc.b.injEq] at hi
            subst hi
            exact hb _ hid
          · cases hi
        · cases hi
      · split at hi
        · rename_i hnew
          simp only [List.mem_singleton, Loc.b.injEq] at hi
          subst hi
          exact hslot hnew
        · cases hi
  unfold stepR at he ⊢
  rw [hw]
  split at he
  · rename_i ds1 q1 hw'
    simp only [Option.some.injEq, Prod.mk.injEq] at he
    obtain ⟨rfl, rfl, rfl⟩ := he
    obtain ⟨p1, p2, p3, p4⟩ := hput (.tup [])
    refine ⟨_, rfl, p1, rfl, fun l hl => ?_, fun l hl => ?_⟩
    · cases l with
      | t i => simp only [St.at, Cont.t.injEq]; exact p3 i hl
      | b i => simp only [St.at, Cont.b.injEq]; exact hbw i hl
    · cases l with
      | t i => simp only [St.at, Cont.t.injEq]; exact p4 i hl
      | b i => rfl
  · rename_i ds1 q1 hw'
    split at he
    · rename_i fo aos hc
      obtain ⟨args, tys, hopc, haos⟩ := isCall_eq hc
      have hfo' : opR u.t fo = opR s.t fo := hop fo (by rw [hopc]; simp [Op.operands, Call.operands])
      have has' : opsR u.t aos = opsR s.t aos := opsR_congr fun x hx => hop x (by rw [hopc]; rw [haos] at hx; simp [Op.operands, Call.operands]; exact .inr (by simpa using hx))
      simp only [hc, hfo', has']
      split at he
      · rename_i f cs as hfo has
        split at he
        · rename_i F hF'
          split at he
          · rename_i r qf hr'
            simp only [Option.some.injEq, Prod.mk.injEq] at he
            obtain ⟨rfl, rfl, rfl⟩ := he
            obtain ⟨p1, p2, p3, p4⟩ := hput r
            refine ⟨_, rfl, p1, rfl, fun l hl => ?_, fun l hl => ?_⟩
            · cases l with
              | t i => simp only [St.at, Cont.t.injEq]; exact p3 i hl
              | b i => simp only [St.at, Cont.b.injEq]; exact hbw i hl
            · cases l with
              | t i => simp only [St.at, Cont.t.injEq]; exact p4 i hl
              | b i => rfl
          · cases he
        · split at he
          · rename_i es hM hnil hs0
            simp only [Option.some.injEq, Prod.mk.injEq] at he
            obtain ⟨rfl, rfl, rfl⟩ := he
            have hsl := slotted_call hc
            have hsw : Loc.b slot ∈ wrL slot o s.t := by unfold wrL; simp [hsl]
            rw [hslot hsl, hs0, hnil]
            simp only [hM]
            obtain ⟨p1, p2, p3, p4⟩ := hput (.map slot)
            refine ⟨_, rfl, p1, by simp, fun l hl => ?_, fun l hl => ?_⟩
            · cases l with
              | t i => simp only [St.at, Cont.t.injEq]; exact p3 i hl
              | b i =>
                simp only [St.at, Cont.b.injEq, List.getElem?_set, hl2]
                rw [hbw i hl]
            · cases l with
              | t i => simp only [St.at, Cont.t.injEq]; exact p4 i hl
              | b i =>
                simp only [St.at, Cont.b.injEq]
                have : slot ≠ i := by rintro rfl; exact hl hsw
                rw [List.getElem?_set_ne this]
          · cases he
      · cases he
    · rename_i hc
      have hso : slotOk o.op u.h slot = slotOk o.op s.h slot := by
        unfold slotOk
        split
        · rename_i hnew; rw [hslot (slotted_of hnew)]
        · rfl
      rw [hso]
      split at he
      · rename_i hsl
        split at he
        · rename_i r sets ds2 q2 hev
          simp only [Option.some.injEq, Prod.mk.injEq] at he
          obtain ⟨rfl, rfl, rfl⟩ := he
          rw [evOp_congr hop hb, hev]
          obtain ⟨p1, p2, p3, p4⟩ := hput r
          have hsets : ∀ x ∈ sets, Loc.b x.1 ∈ wrL slot o s.t := by
            intro x hx
            unfold wrL blkL
            rcases evOp_sets hev x hx with ⟨h1, h2⟩ | ⟨h1, h2⟩
            · simp [slotted_of h1, h2]
            · simp [h1, h2]
          refine ⟨_, rfl, p1, setsH_length _ _, fun l hl => ?_, fun l hl => ?_⟩
          · cases l with
            | t i => simp only [St.at, Cont.t.injEq]; exact p3 i hl
            | b i => simp only [St.at, Cont.b.injEq]; exact setsH_same sets _ _ i hl2 (.inl (hbw i hl))
          · cases l with
            | t i => simp only [St.at, Cont.t.injEq]; exact p4 i hl
            | b i =>
              simp only [St.at, Cont.b.injEq]
              exact setsH_not sets _ i fun x hx hxi => hl (by rw [← hxi]; exact hsets x hx)
        · cases he
      · cases he
  · cases he

def runsR (P : Program) (orc : Orc) (ops : Array Oper) (base : Nat) : Nat → List Oper → St → D → Option (List St × St × D × Qs)
  | _, [], s, ds => some ([], s, ds, [])
  | j, o :: rest, s, ds =>
    match stepR P orc ops (base + j) o s ds with
    | some (s', ds', q) =>
      match runsR P orc ops base (j + 1) rest s' ds' with
      | some (l, e, dse, q') => some (s :: l, e, dse, q ++ q')
      | none => none
    | none => none
def stOf (L : List St) (e : St) (k : Nat) : St :=
  match L[k]? with
  | some s => s
  | none => e
theorem runsR_at {P : Program} {orc : Orc} {ops : Array Oper} {base : Nat} : ∀ {l : List Oper} {j : Nat} {s : St} {ds : D} {L : List St} {e : St} {dse : D} {q : Qs}, runsR P orc ops base j l s ds = some (L, e, dse, q) →
    L.length = l.length ∧ stOf L e 0 = s ∧ stOf L e l.length = e ∧ ∀ i o, l[i]? = some o → ∃ dsi dsi' qi, stepR P orc ops (base + (j + i)) o (stOf L e i) dsi = some (stOf L e (i + 1), dsi', qi) ∧ (holds q → holds qi)
  | [], j, s, ds, L, e, dse, q, h => by
    simp only [runsR, Option.some.injEq, Prod.mk.injEq] at h
    obtain ⟨rfl, rfl, rfl, rfl⟩ := h
    exact ⟨rfl, rfl, rfl, fun i o hi => by simp at hi⟩
  | o :: rest, j, s, ds, L, e, dse, q, h => by
    simp only [runsR] at h
    split at h
    · rename_i s' ds' q1 h1
      split at h
      · rename_i l e' dse' q2 h2
        simp only [Option.some.injEq, Prod.mk.injEq] at h
        obtain ⟨rfl, rfl, rfl, rfl⟩ := h
        obtain ⟨i1, i2, i3, i4⟩ := runsR_at h2
        refine ⟨by simp [i1], by simp [stOf], ?_, ?_⟩
        · have : stOf (s :: l) e' (rest.length + 1) = stOf l e' rest.length := by simp [stOf]
          simpa [this] using i3
        · intro i o' hi
          cases i with
          | zero =>
            simp only [List.getElem?_cons_zero, Option.some.injEq] at hi
            subst hi
            refine ⟨ds, ds', q1, ?_, fun hq => (holds_append.1 hq).1⟩
            have e1 : stOf (s :: l) e' 0 = s := by simp [stOf]
            have e2 : stOf (s :: l) e' (0 + 1) = stOf l e' 0 := by simp [stOf]
            rw [e1, e2, i2, Nat.add_zero]
            exact h1
          | succ i =>
            simp only [List.getElem?_cons_succ] at hi
            obtain ⟨dsi, dsi', qi, h3, h4⟩ := i4 i o' hi
            refine ⟨dsi, dsi', qi, ?_, fun hq => h4 (holds_append.1 hq).2⟩
            have e1 : stOf (s :: l) e' (i + 1) = stOf l e' i := by simp [stOf]
            have e2 : stOf (s :: l) e' (i + 1 + 1) = stOf l e' (i + 1) := by simp [stOf]
            rw [e1, e2, show j + (i + 1) = j + 1 + i by omega]
            exact h3
      · cases h
    · cases h

/-! ### What waits for what -/
def maskOf (acc : List Nat) : List Edge → Nat
  | [] => 0
  | e :: es => if Region.binds .any e then (2 ^ e.on ||| acc.getD e.on 0) ||| maskOf acc es else maskOf acc es
def masks : List Oper → List Nat → List Nat
  | [], acc => acc
  | o :: r, acc => masks r (acc ++ [maskOf acc o.after.toList])
def edgesLow : List Edge → Nat → Bool
  | [], _ => true
  | e :: es, j => (if Region.binds .any e then e.on.blt j else true) && edgesLow es j
def edgesOk : List Oper → Nat → Bool
  | [], _ => true
  | o :: r, j => edgesLow o.after.toList j && edgesOk r (j + 1)

section
variable {ops : Array Oper} {listed : Array Bool}
def Down (ops : Array Oper) (listed : Array Bool) : Prop := ∀ (j : Nat) (o : Oper), ops[j]? = some o → listed.getD j false = true → ∀ e ∈ o.after, Region.binds .any e = true → listed.getD e.on false = true
theorem maskOf_spec {acc : List Nat} (hacc : ∀ k i, (acc.getD k 0).testBit i = true → listed.getD k false = true → listed.getD i false = true) : ∀ {es : List Edge} {i : Nat}, (maskOf acc es).testBit i = true →
    (∀ e ∈ es, Region.binds .any e = true → listed.getD e.on false = true) → listed.getD i false = true
  | [], i, h, _ => by simp [maskOf] at h
  | e :: es, i, h, hl => by
    simp only [maskOf] at h
    split at h
    · rename_i hb
      rw [Nat.testBit_or, Nat.testBit_or, Nat.testBit_two_pow] at h
      simp only [Bool.or_eq_true, decide_eq_true_eq] at h
      have he := hl e (by simp) hb
      rcases h with (h | h) | h
      · rw [← h]; exact he
      · exact hacc _ _ h he
      · exact maskOf_spec hacc h (fun e' he' => hl e' (by simp [he']))
    · exact maskOf_spec hacc h (fun e' he' => hl e' (by simp [he']))
theorem masks_length : ∀ (l : List Oper) (acc : List Nat), (masks l acc).length = acc.length + l.length
  | [], acc => by simp [masks]
  | o :: r, acc => by simp [masks, masks_length r]; omega
theorem masks_keep : ∀ (l : List Oper) (acc : List Nat) (k : Nat), k < acc.length → (masks l acc).getD k 0 = acc.getD k 0
  | [], acc, k, _ => rfl
  | o :: r, acc, k, h => by
    simp only [masks]
    rw [masks_keep r _ k (by simp; omega)]
    simp [List.getD_eq_getElem?_getD, List.getElem?_append_left h]
theorem masks_spec (hd : Down ops listed) : ∀ (l : List Oper) (acc : List Nat), (∀ i, l[i]? = ops[acc.length + i]?) →
    (∀ k i, (acc.getD k 0).testBit i = true → listed.getD k false = true → listed.getD i false = true) →
    (∀ k i, ((masks l acc).getD k 0).testBit i = true → listed.getD k false = true → listed.getD i false = true) ∧
    (∀ k o i, acc.length ≤ k → ops[k]? = some o → ((masks l acc).getD k 0).testBit i = true → (∀ e ∈ o.after, Region.binds .any e = true → listed.getD e.on false = true) → listed.getD i false = true)
  | [], acc, hl, hacc => by
    refine ⟨hacc, fun k o i hk ho => ?_⟩
    have := hl (k - acc.length)
    rw [show acc.length + (k - acc.length) = k by omega, ho] at this
    simp at this
  | o :: r, acc, hl, hacc => by
    have h0 : ops[acc.length]? = some o := by have := hl 0; simpa using this.symm
    have hacc' : ∀ k i, ((acc ++ [maskOf acc o.after.toList]).getD k 0).testBit i = true → listed.getD k false = true → listed.getD i false = true := by
      intro k i hk hlk
      by_cases hlt : k < acc.length
      · rw [List.getD_eq_getElem?_getD, List.getElem?_append_left hlt, ← List.getD_eq_getElem?_getD] at hk
        exact hacc k i hk hlk
      · by_cases heq : k = acc.length
        · subst heq
          simp only [List.getD_eq_getElem?_getD, List.getElem?_append_right (Nat.le_refl _), Nat.sub_self, List.getElem?_cons_zero, Option.getD_some] at hk
          exact maskOf_spec hacc hk fun e he hb => hd _ _ h0 hlk e (by simpa using he) hb
        · rw [List.getD_eq_getElem?_getD, List.getElem?_eq_none (by simp; omega)] at hk
          simp at hk
    obtain ⟨s1, s2⟩ := masks_spec hd r (acc ++ [maskOf acc o.after.toList]) (fun i => by
      have := hl (i + 1)
      simp only [List.getElem?_cons_succ] at this
      rw [this]
      simp [Nat.add_assoc, Nat.add_comm 1 i]) hacc'
    refine ⟨s1, fun k o' i hk ho' hbit hedge => ?_⟩
    by_cases heq : k = acc.length
    · subst heq
      have : o' = o := by rw [h0] at ho'; injection ho' with h; exact h.symm
      subst this
      simp only [masks] at hbit
      rw [masks_keep r _ _ (by simp)] at hbit
      simp only [List.getD_eq_getElem?_getD, List.getElem?_append_right (Nat.le_refl _), Nat.sub_self, List.getElem?_cons_zero, Option.getD_some] at hbit
      exact maskOf_spec hacc hbit fun e he hb => hedge e (by simpa using he) hb
    · exact s2 k o' i (by simp; omega) ho' hbit hedge
theorem edgesLow_spec : ∀ {es : List Edge} {j : Nat}, edgesLow es j = true → ∀ e ∈ es, Region.binds .any e = true → e.on < j
  | [], j, _, e, he, _ => by cases he
  | e0 :: es, j, h, e, he, hb => by
    simp only [edgesLow, Bool.and_eq_true] at h
    rcases List.mem_cons.1 he with rfl | he
    · rw [if_pos hb] at h; have h1 := h.1; rwa [Nat.blt_eq] at h1
    · exact edgesLow_spec h.2 e he hb
theorem edgesOk_spec : ∀ {l : List Oper} {j : Nat}, edgesOk l j = true → ∀ i o, l[i]? = some o → ∀ e ∈ o.after, Region.binds .any e = true → e.on < j + i
  | [], j, _, i, o, hi => by simp at hi
  | o0 :: r, j, h, i, o, hi => by
    simp only [edgesOk, Bool.and_eq_true] at h
    cases i with
    | zero =>
      simp only [List.getElem?_cons_zero, Option.some.injEq] at hi
      subst hi
      intro e he hb
      exact edgesLow_spec h.1 e (by simpa using he) hb
    | succ i =>
      intro e he hb
      have := edgesOk_spec h.2 i o (by simpa using hi) e he hb
      omega
end

def disj : List Loc → List Loc → Bool
  | [], _ => true
  | a :: as, bs => bs.all (fun b => !a.eq b) && disj as bs
theorem disj_spec : ∀ {a b : List Loc}, disj a b = true → ∀ l, l ∈ a → l ∉ b
  | [], b, _, l, h => by cases h
  | x :: a, b, h, l, hl => by
    simp only [disj, Bool.and_eq_true] at h
    rcases List.mem_cons.1 hl with rfl | hl
    · intro hb
      have := List.all_eq_true.1 h.1 l hb
      simp [Loc.eq_iff.2 rfl] at this
    · exact disj_spec h.2 l hl
def indep (f g : List Loc × List Loc) : Bool := disj f.2 g.1 && (disj f.2 g.2 && disj g.2 f.1)
def fpsR (ops : Array Oper) (base : Nat) : Nat → List Oper → List St → List (List Loc × List Loc)
  | j, o :: os, s :: L => (needL ops (base + j) o s.t, wrL (base + j) o s.t) :: fpsR ops base (j + 1) os L
  | _, _, _ => []
theorem fpsR_at {ops : Array Oper} {base : Nat} {e : St} : ∀ {l : List Oper} {L : List St} {j i : Nat} {o : Oper}, L.length = l.length → l[i]? = some o →
    (fpsR ops base j l L).getD i ([], []) = (needL ops (base + (j + i)) o (stOf L e i).t, wrL (base + (j + i)) o (stOf L e i).t)
  | [], L, j, i, o, _, hi => by simp at hi
  | o0 :: l, [], j, i, o, hl, _ => by simp at hl
  | o0 :: l, s :: L, j, i, o, hl, hi => by
    cases i with
    | zero =>
      simp only [List.getElem?_cons_zero, Option.some.injEq] at hi
      subst hi
      simp [fpsR, stOf]
    | succ i =>
      have := fpsR_at (ops := ops) (base := base) (e := e) (l := l) (L := L) (j := j + 1) (i := i) (o := o) (by simpa using hl) (by simpa using hi)
      have e1 : stOf (s :: L) e (i + 1) = stOf L e i := by simp [stOf]
      simp only [fpsR, List.getD_cons_succ]
      rw [this, e1, show j + (i + 1) = j + 1 + i by omega]
def chkRow (ms : Nat) (f : List Loc × List Loc) : Nat → List (List Loc × List Loc) → Bool
  | _, [] => true
  | i, g :: r => (ms.testBit i || indep g f) && chkRow ms f (i + 1) r
def chkAll : List (List Loc × List Loc) → List (List Loc × List Loc) → List Nat → Bool
  | _, [], _ => true
  | pre, f :: r, ms :: mr => chkRow ms f 0 pre && chkAll (pre ++ [f]) r mr
  | _, _ :: _, [] => false
theorem chkRow_spec {ms : Nat} {f : List Loc × List Loc} : ∀ {l : List (List Loc × List Loc)} {k : Nat}, chkRow ms f k l = true → ∀ i, i < l.length → ms.testBit (k + i) = true ∨ indep (l.getD i ([], [])) f = true
  | [], k, _, i, hi => by simp at hi
  | g :: r, k, h, i, hi => by
    simp only [chkRow, Bool.and_eq_true, Bool.or_eq_true] at h
    cases i with
    | zero => simpa using h.1
    | succ i =>
      have := chkRow_spec h.2 i (by simpa using hi)
      rw [show k + (i + 1) = k + 1 + i by omega]
      simpa using this
theorem chkAll_spec : ∀ {l pre : List (List Loc × List Loc)} {ms : List Nat}, chkAll pre l ms = true → ∀ i j, pre.length ≤ j → j < pre.length + l.length → i < j →
    (ms.getD (j - pre.length) 0).testBit i = true ∨ indep ((pre ++ l).getD i ([], [])) ((pre ++ l).getD j ([], [])) = true
  | [], pre, ms, _, i, j, h1, h2, _ => by simp at h2; omega
  | f :: r, pre, [], h, i, j, _, _, _ => by simp [chkAll] at h
  | f :: r, pre, m0 :: mr, h, i, j, h1, h2, hij => by
    simp only [chkAll, Bool.and_eq_true] at h
    by_cases hj : j = pre.length
    · subst hj
      have := chkRow_spec h.1 i hij
      rw [Nat.zero_add] at this
      simp only [Nat.sub_self, List.getD_cons_zero]
      have e1 : (pre ++ f :: r).getD i ([], []) = pre.getD i ([], []) := by simp [List.getD_eq_getElem?_getD, List.getElem?_append_left hij]
      have e2 : (pre ++ f :: r).getD pre.length ([], []) = f := by simp [List.getD_eq_getElem?_getD]
      rw [e1, e2]
      exact this
    · have := chkAll_spec h.2 i j (by simp; omega) (by simp at h2 ⊢; omega) hij
      rw [List.append_assoc] at this
      simp only [List.length_append, List.length_cons, List.length_nil, Nat.zero_add, List.singleton_append] at this
      rw [show j - pre.length = (j - (pre.length + 1)) + 1 by omega, List.getD_cons_succ]
      exact this

/-- What is at a place: as behind operation k - 1, if just those below k that write it have been done. -/
def Cons (n : Nat) (W : Nat → List Loc) (S : Nat → St) (listed : Array Bool) (u : St) : Prop :=
  ∀ l k, k ≤ n → (∀ i, i < k → l ∈ W i → listed.getD i false = true) → (∀ i, k ≤ i → i < n → l ∈ W i → listed.getD i false = false) → u.at l = (S k).at l
theorem at_ext {u e : St} (h1 : u.t.length = e.t.length) (h2 : u.h.length = e.h.length) (h : ∀ l, u.at l = e.at l) : u = e := by
  cases u; cases e
  congr 1
  · apply List.ext_getElem?; intro i
    have := h (.t i); simpa [St.at] using this
  · apply List.ext_getElem?; intro i
    have := h (.b i); simpa [St.at] using this
theorem getD_tf {listed : Array Bool} {i : Nat} (h : listed.getD i true = false) : listed.getD i false = false := by
  rcases Nat.lt_or_ge i listed.size with h' | h'
  · simp [h'] at h ⊢; exact h
  · simp [Array.getElem?_eq_none h'] at h
theorem getD_ft {listed : Array Bool} {i : Nat} (hi : i < listed.size) (h : listed.getD i false = false) : listed.getD i true = false := by
  simp [hi] at h ⊢; exact h

theorem getD_replicate_false' (m j : Nat) : (Array.replicate m false).getD j false = false := by
  rcases Nat.lt_or_ge j m with h | h
  · simp [h]
  · simp [h]
theorem draw_any {P : Program} {orc : Orc} (ho : OrcOk P orc) {ops : Array Oper} {base : Nat} {S : Nat → St} {N W : Nat → List Loc} {Q : Exit → Act → World → Prop} {m0 : Nat → Option Nat} {w0 : World}
    (hstep : ∀ i o, ops[i]? = some o → ∃ dsi dsi' qi, stepR P orc ops (base + i) o (S i) dsi = some (S (i + 1), dsi', qi) ∧ holds qi)
    (hN : ∀ i o, ops[i]? = some o → N i = needL ops (base + i) o (S i).t ∧ W i = wrL (base + i) o (S i).t)
    (hlow : ∀ i o, ops[i]? = some o → ∀ e ∈ o.after, Region.binds .any e = true → e.on < i)
    (hord : ∀ listed, Down ops listed → ∀ i j, i < j → j < ops.size → (listed.getD j false = true → listed.getD i false = true) ∧ ((∀ o, ops[j]? = some o → ∀ e ∈ o.after, Region.binds .any e = true → listed.getD e.on false = true) → listed.getD i false = true) ∨
      ((∀ l, l ∈ W i → l ∉ N j) ∧ (∀ l, l ∈ W i → l ∉ W j) ∧ ∀ l, l ∈ W j → l ∉ N i))
    (hQ : ∀ m' a' w', Ext m0 m' → Sim m' w0 (S ops.size) a' w' → Q .normal a' w') :
    (∀ l k, k ≤ ops.size → (∀ i, i < k → l ∉ W i) → (S 0).at l = (S k).at l) ∧ ∀ (fuel : Nat) (listed : Array Bool) (u : St) (m : Nat → Option Nat) (a : Act) (w : World), listed.size = ops.size → listed.toList.count false ≤ fuel → Down ops listed → Cons ops.size W S listed u →
      u.t.length = (S 0).t.length → u.h.length = (S 0).h.length → Ext m0 m → Sim m w0 u a w → wpAny P .any ops Q fuel listed a w := by
  have hlen : ∀ k, k ≤ ops.size → (S k).t.length = (S 0).t.length ∧ (S k).h.length = (S 0).h.length := by
    intro k
    induction k with
    | zero => intro _; exact ⟨rfl, rfl⟩
    | succ k ih =>
      intro hk
      have hlt : k < ops.size := by omega
      obtain ⟨dsi, dsi', qi, h1, _⟩ := hstep k ops[k] (by simp [hlt])
      obtain ⟨u', h2, h3, h4, _⟩ := stepR_local h1 (u := S k) rfl rfl (fun _ _ => rfl)
      rw [h1] at h2
      simp only [Option.some.injEq, Prod.mk.injEq] at h2
      obtain ⟨rfl, _⟩ := h2
      have := ih (by omega)
      exact ⟨h3.trans this.1, h4.trans this.2⟩
  have hkeep : ∀ k, k < ops.size → ∀ l, l ∉ W k → (S (k + 1)).at l = (S k).at l := by
    intro k hk l hl
    obtain ⟨dsi, dsi', qi, h1, _⟩ := hstep k ops[k] (by simp [hk])
    obtain ⟨u', h2, _, _, _, h6⟩ := stepR_local h1 (u := S k) rfl rfl (fun _ _ => rfl)
    rw [h1] at h2
    simp only [Option.some.injEq, Prod.mk.injEq] at h2
    obtain ⟨rfl, _⟩ := h2
    exact h6 l (by rw [← (hN k ops[k] (by simp [hk])).2]; exact hl)
  have hsame : ∀ l d k, k + d ≤ ops.size → (∀ i, k ≤ i → i < k + d → l ∉ W i) → (S (k + d)).at l = (S k).at l := by
    intro l d
    induction d with
    | zero => intro k _ _; rfl
    | succ d ih =>
      intro k hk hn
      rw [show k + (d + 1) = (k + d) + 1 by omega, hkeep (k + d) (by omega) l (hn _ (by omega) (by omega))]
      exact ih k (by omega) fun i h1 h2 => hn i h1 (by omega)
  have hend : ∀ (listed : Array Bool) (u : St) (m : Nat → Option Nat) (a : Act) (w : World), listed.size = ops.size → (∀ i, i < ops.size → listed.getD i false = true) → Cons ops.size W S listed u →
      u.t.length = (S 0).t.length → u.h.length = (S 0).h.length → Ext m0 m → Sim m w0 u a w → Q .normal a w := by
    intro listed u m a w _ hall hc hl1 hl2 hext hs
    have hue : u = S ops.size := by
      refine at_ext (hl1.trans (hlen _ (Nat.le_refl _)).1.symm) (hl2.trans (hlen _ (Nat.le_refl _)).2.symm) fun l => hc l ops.size (Nat.le_refl _) (fun i hi _ => hall i hi) (fun i h1 h2 => by omega)
    rw [hue] at hs
    exact hQ m a w hext hs
  have hready : ∀ (listed : Array Bool), listed.size = ops.size → Region.ready .any ops listed = [] → ∀ i, i < ops.size → listed.getD i false = true := by
    intro listed hsz hr i
    induction i using Nat.strongRecOn with
    | _ i ih =>
      intro hi
      cases hli : listed.getD i false with
      | true => rfl
      | false =>
        have : i ∈ Region.ready .any ops listed := mem_ready.2 ⟨getD_ft (by omega) hli, ops[i], by simp [hi], fun e he hb => by
          have hlt := hlow i ops[i] (by simp [hi]) e he hb
          exact ih e.on hlt (by omega)⟩
        rw [hr] at this
        cases this
  refine ⟨fun l k hk hn => by
    have := hsame l k 0 (by omega) (fun i _ h2 => hn i (by omega))
    rw [Nat.zero_add] at this
    exact this.symm, ?_⟩
  intro fuel
  induction fuel with
  | zero =>
    intro listed u m a w hsz hcnt hd hc hl1 hl2 hext hs
    have hall : ∀ i, i < ops.size → listed.getD i false = true := by
      intro i hi
      cases hli : listed.getD i false with
      | true => rfl
      | false =>
        have : false ∈ listed.toList := by
          have hi' : i < listed.size := by omega
          have h2 : listed[i] = false := by simpa [hi'] using hli
          rw [← h2]
          simp
        have := List.count_eq_zero.1 (Nat.le_zero.1 hcnt)
        contradiction
    refine ⟨?_, hend listed u m a w hsz hall hc hl1 hl2 hext hs⟩
    cases hr : Region.ready .any ops listed with
    | nil => rfl
    | cons i r =>
      have : i ∈ Region.ready .any ops listed := by rw [hr]; simp
      obtain ⟨h0, o, hoi, _⟩ := mem_ready.1 this
      have hi : i < ops.size := (Array.getElem?_eq_some_iff.1 hoi).1
      have := getD_tf h0
      rw [hall i hi] at this
      cases this
  | succ fuel ih =>
    intro listed u m a w hsz hcnt hd hc hl1 hl2 hext hs
    refine ⟨fun hr => hend listed u m a w hsz (hready listed hsz hr) hc hl1 hl2 hext hs, fun j hj => ?_⟩
    obtain ⟨h0, o, hoj, hall⟩ := mem_ready.1 hj
    have hjlt : j < ops.size := (Array.getElem?_eq_some_iff.1 hoj).1
    have hlj : listed.getD j false = false := getD_tf h0
    obtain ⟨dsi, dsi', qi, hst, hqi⟩ := hstep j o hoj
    obtain ⟨hNj, hWj⟩ := hN j o hoj
    -- who is ordered with j
    have ordL : ∀ i, i < j → (∃ l, l ∈ W i ∧ (l ∈ N j ∨ l ∈ W j)) ∨ (∃ l, l ∈ W j ∧ l ∈ N i) → listed.getD i false = true := by
      intro i hij hx
      rcases hord listed hd i j hij hjlt with ⟨_, h2⟩ | ⟨h1, h2, h3⟩
      · exact h2 fun o' ho' e he hb => by
          have : o' = o := by rw [hoj] at ho'; injection ho' with h; exact h.symm
          subst this
          exact hall e he hb
      · rcases hx with ⟨l, hl, hl2 | hl2⟩ | ⟨l, hl, hl2⟩
        · exact absurd hl2 (h1 l hl)
        · exact absurd hl2 (h2 l hl)
        · exact absurd hl2 (h3 l hl)
    have ordR : ∀ i, j < i → i < ops.size → (∃ l, l ∈ W j ∧ (l ∈ N i ∨ l ∈ W i)) ∨ (∃ l, l ∈ W i ∧ l ∈ N j) → listed.getD i false = false := by
      intro i hij hi hx
      cases hli : listed.getD i false with
      | false => rfl
      | true =>
        rcases hord listed hd j i hij hi with ⟨h1, _⟩ | ⟨h1, h2, h3⟩
        · have := h1 hli
          rw [hlj] at this
          cases this
        · rcases hx with ⟨l, hl, hl2 | hl2⟩ | ⟨l, hl, hl2⟩
          · exact absurd hl2 (h1 l hl)
          · exact absurd hl2 (h2 l hl)
          · exact absurd hl2 (h3 l hl)
    have hlenj := hlen j (by omega)
    obtain ⟨u', hst', e1, e2, e3, e4⟩ := stepR_local hst (u := u) (hl1.trans hlenj.1.symm) (hl2.trans hlenj.2.symm) (fun l hl => by
      rw [← hNj] at hl
      refine hc l j (by omega) (fun i hi hw => ordL i hi (.inl ⟨l, hw, .inl hl⟩)) (fun i h1 h2 hw => ?_)
      by_cases hij : i = j
      · subst hij; exact hlj
      · exact ordR i (by omega) h2 (.inr ⟨l, hw, hl⟩))
    refine stepR_wp ho hoj hst' hqi hs fun m' a' w' hext' hs' => ?_
    have hjs : j < listed.toList.length := by simp; omega
    have hgj : listed.toList[j] = false := by
      have : j < listed.size := by omega
      simpa [this] using hlj
    have hset_ne : ∀ i, i ≠ j → (listed.setIfInBounds j true).getD i false = listed.getD i false := fun i hi => getD_set_ne false (Ne.symm hi)
    have hset_j : (listed.setIfInBounds j true).getD j false = true := by
      have : j < listed.size := by omega
      simp [this]
    refine ih _ u' m' a' w' (by simp [hsz]) ?_ ?_ ?_ (e1.trans hl1) (e2.trans hl2) (hext.trans hext') hs'
    · rw [Array.toList_setIfInBounds, List.count_set hjs, hgj]
      have hpos : 0 < listed.toList.count false := List.count_pos_iff.2 (by rw [← hgj]; simp)
      change listed.toList.count false - 1 + 0 ≤ fuel
      omega
    · intro i o' ho' hli e he hb
      by_cases hij : i = j
      · subst hij
        have : o' = o := by rw [hoj] at ho'; injection ho' with h; exact h.symm
        subst this
        exact getD_set_true (hall e he hb)
      · rw [hset_ne i hij] at hli
        exact getD_set_true (hd i o' ho' hli e he hb)
    · intro l k hk c1 c2
      by_cases hw : l ∈ W j
      · have hjk : j < k := by
          rcases Nat.lt_or_ge j k with h | h
          · exact h
          · have := c2 j h hjlt hw
            rw [hset_j] at this
            cases this
        rw [e3 l (by rw [← hWj]; exact hw)]
        have := hsame l (k - (j + 1)) (j + 1) (by omega) (fun i h1 h2 hwi => by
          have hl1 := c1 i (by omega) hwi
          rw [hset_ne i (by omega)] at hl1
          have hl2 := ordR i (by omega) (by omega) (.inl ⟨l, hw, .inr hwi⟩)
          rw [hl1] at hl2
          cases hl2)
        rw [show j + 1 + (k - (j + 1)) = k by omega] at this
        exact this.symm
      · rw [e4 l (by rw [← hWj]; exact hw)]
        refine hc l k hk (fun i hi hwi => ?_) (fun i h1 h2 hwi => ?_)
        · have hne : i ≠ j := fun h => hw (h ▸ hwi)
          have := c1 i hi hwi
          rwa [hset_ne i hne] at this
        · have hne : i ≠ j := fun h => hw (h ▸ hwi)
          have := c2 i h1 h2 hwi
          rwa [hset_ne i hne] at this

/-- A region whose order is drawn: in the text's order, where nothing that the others do is seen. -/
def evDraw (P : Program) (orc : Orc) (ops : Array Oper) (s : St) (ds : D) : Option (St × D × Qs) :=
  match runsR P orc ops s.h.length 0 ops.toList { s with h := s.h ++ List.replicate ops.toList.length .no } ds with
  | some (L, e, ds', q) =>
    if edgesOk ops.toList 0 && chkAll [] (fpsR ops s.h.length 0 ops.toList L) (masks ops.toList []) then some (e, ds', q) else none
  | none => none
theorem evDraw_ok {P : Program} {orc : Orc} (hm : P.follows .mixedOrders = true) (ho : OrcOk P orc) {ops : Array Oper} {s s' : St} {ds ds' : D} {q : Qs} (he : evDraw P orc ops s ds = some (s', ds', q)) (hq : holds q)
    {m : Nat → Option Nat} {w0 w : World} {a : Act} {Q : Exit → Act → World → Prop} {id : Nat} (hs : Sim m w0 s a w) (hQ : ∀ m' a' w', Ext m m' → Sim m' w0 s' a' w' → Q .normal a' w') : (Code.region id ops true).wp P Q a w := by
  unfold evDraw at he
  split at he
  · rename_i L e ds1 q1 hr
    split at he
    · rename_i hc
      simp only [Option.some.injEq, Prod.mk.injEq] at he
      obtain ⟨rfl, rfl, rfl⟩ := he
      simp only [Bool.and_eq_true] at hc
      obtain ⟨hlow, hchk⟩ := hc
      obtain ⟨r1, r2, r3, r4⟩ := runsR_at hr
      refine wp_region_any hm ?_
      have hsz : ops.toList.length = ops.size := by simp
      let F := fpsR ops s.h.length 0 ops.toList L
      have hF : ∀ i o, ops[i]? = some o → F.getD i ([], []) = (needL ops (s.h.length + i) o (stOf L e i).t, wrL (s.h.length + i) o (stOf L e i).t) := by
        intro i o hi
        have := fpsR_at (ops := ops) (base := s.h.length) (e := e) (l := ops.toList) (L := L) (j := 0) (i := i) (o := o) r1 (by rw [Array.getElem?_toList]; exact hi)
        rw [Nat.zero_add] at this
        exact this
      have hFl : F.length = ops.toList.length := by
        have : ∀ (l : List Oper) (L : List St) (j : Nat), L.length = l.length → (fpsR ops s.h.length j l L).length = l.length := by
          intro l
          induction l with
          | nil => intro L j h; cases L <;> simp [fpsR]
          | cons o l ih =>
            intro L j h
            cases L with
            | nil => simp at h
            | cons x L => simp [fpsR, ih L (j + 1) (by simpa using h)]
        exact this _ _ _ r1
      have hall := draw_any ho (P := P) (orc := orc) (ops := ops) (S := stOf L e) (base := s.h.length) (N := fun i => (F.getD i ([], [])).1) (W := fun i => (F.getD i ([], [])).2) (Q := Q) (m0 := m) (w0 := w0) (by
        intro i o hi
        obtain ⟨dsi, dsi', qi, h1, h2⟩ := r4 i o (by rw [Array.getElem?_toList]; exact hi)
        rw [Nat.zero_add] at h1
        exact ⟨dsi, dsi', qi, h1, h2 hq⟩) (by
        intro i o hi
        have := hF i o hi
        exact ⟨by rw [this], by rw [this]⟩) (by
        intro i o hi ed hed hb
        have := edgesOk_spec hlow i o (by rw [Array.getElem?_toList]; exact hi) ed hed hb
        omega) (by
        intro listed hd i j hij hj
        have hspec := chkAll_spec hchk i j (by simp) (by simp only [List.length_nil, Nat.zero_add]; rw [show (fpsR ops s.h.length 0 ops.toList L).length = _ from hFl]; omega) hij
        simp only [List.length_nil, Nat.sub_zero, List.nil_append] at hspec
        rcases hspec with h1 | h1
        · left
          have hms := masks_spec hd ops.toList [] (fun i => by simp) (fun k i h => by simp at h)
          have hoj : ops[j]? = some ops[j] := by simp [hj]
          exact ⟨fun hl => hms.1 j i h1 hl, fun hall => hms.2 j ops[j] i (by simp) hoj h1 (hall _ hoj)⟩
        · right
          simp only [indep, Bool.and_eq_true] at h1
          obtain ⟨d1, d2, d3⟩ := h1
          exact ⟨disj_spec d1, disj_spec d2, disj_spec d3⟩) (by
        intro m' a' w' hext hsim
        rw [← hsz, r3] at hsim
        exact hQ m' a' w' hext hsim)
      have hrep : ∀ i, (Array.replicate ops.size false).getD i false = false := fun i => getD_replicate_false' _ _
      refine hall.2 ops.size _ (stOf L e 0) m a _ (by simp) ?_ ?_ ?_ rfl rfl (Ext.refl m) ?_
      · have : (Array.replicate ops.size false).toList.length = ops.size := by simp
        have h2 := List.count_le_length (a := false) (l := (Array.replicate ops.size false).toList)
        omega
      · intro j o hj hl
        rw [hrep] at hl
        cases hl
      · intro l k hk c1 c2
        refine hall.1 l k hk fun i hi hw => ?_
        have := c1 i hi hw
        rw [hrep] at this
        cases this
      · rw [r2]
        exact ⟨hs.tm, hs.df, (hs.hp.more _).drew⟩
    · cases he
  · cases he
mutual
def evFun (P : Program) (orc : Orc) : Nat → Nat → List RV → List Blk → D → Option (RV × List Blk × D × Qs)
  | 0, _, _, _, _ => none
  | n + 1, f, args, h, ds =>
    match P.funcs[f]? with
    | some fn =>
      if enterable fn then
        match fn.body with
        | some c =>
          match evCode P orc n c { t := args ++ List.replicate (fn.ntmps - args.length) (.tup []), h := h } ds with
          | some (x, s, ds', q) =>
            match x with
            | .exit _ => none
            | _ =>
              match ressR P s.t s.h fn.results.toList with
              | some rs => some (oneRes rs, s.h, ds', q)
              | none => none
          | none => none
        | none => none
      else none
    | none => none
def evCode (P : Program) (orc : Orc) : Nat → Code → St → D → Option (Xit × St × D × Qs)
  | 0, _, _, _ => none
  | n + 1, c, s, ds =>
    match c with
    | .skip => some (.norm, s, ds, [])
    | .region _ ops false =>
      match evList P orc n ops ops.toList s ds with
      | some (s', ds', q) => some (.norm, s', ds', q)
      | none => none
    | .region _ ops true =>
      match evDraw P orc ops s ds with
      | some (s', ds', q) => some (.norm, s', ds', q)
      | none => none
    | .seq a b =>
      match evCode P orc n a s ds with
      | some (.norm, s', ds', q) =>
        match evCode P orc n b s' ds' with
        | some (x, s'', ds'', q') => some (x, s'', ds'', q ++ q')
        | none => none
      | r => r
    | .cond x a b =>
      match opR s.t x with
      | some (.bool cb) =>
        match ask cb ds with
        | (true, ds', q) =>
          match evCode P orc n a s ds' with
          | some (x, s', ds'', q') => some (x, s', ds'', q ++ q')
          | none => none
        | (false, ds', q) =>
          match evCode P orc n b s ds' with
          | some (x, s', ds'', q') => some (x, s', ds'', q ++ q')
          | none => none
      | _ => none
    | .block id c =>
      match evCode P orc n c s ds with
      | some (.exit i, s', ds', q) => if i = id then some (.norm, s', ds', q) else some (.exit i, s', ds', q)
      | r => r
    | .loop c => evLoop P orc n c s ds
    | .exit id => some (.exit id, s, ds, [])
    | .ret => some (.ret, s, ds, [])
    | _ => none
def evLoop (P : Program) (orc : Orc) : Nat → Code → St → D → Option (Xit × St × D × Qs)
  | 0, _, _, _ => none
  | n + 1, c, s, ds =>
    match evCode P orc n c s ds with
    | some (.norm, s', ds', q) =>
      match evLoop P orc n c s' ds' with
      | some (x, s'', ds'', q') => some (x, s'', ds'', q ++ q')
      | none => none
    | r => r
def evList (P : Program) (orc : Orc) : Nat → Array Oper → List Oper → St → D → Option (St × D × Qs)
  | 0, _, _, _, _ => none
  | n + 1, ops, l, s, ds =>
    match l with
    | [] => some (s, ds, [])
    | o :: rest =>
      match wantR ops s.t o ds with
      | some (false, ds1, q1) =>
        match evList P orc n ops rest { s with t := putR s.t o.dst (.tup []) } ds1 with
        | some (s', ds', q) => some (s', ds', q1 ++ q)
        | none => none
      | some (true, ds1, q1) =>
        match isCall o.op with
        | some (fo, aos) =>
          match opR s.t fo, opsR s.t aos with
          | some (.func f cs), some as =>
            match (match orcAt orc f with
              | some F =>
                match F (as ++ cs) with
                | some (r, qf) => some (r, s.h, ds1, qf)
                | none => none
              | none => evFun P orc n f (as ++ cs) s.h ds1 : Option (RV × List Blk × D × Qs)) with
            | some (r, h', ds2, q2) =>
              match evList P orc n ops rest { t := putR s.t o.dst r, h := h' } ds2 with
              | some (s', ds', q) => some (s', ds', q1 ++ (q2 ++ q))
              | none => none
            | none => none
          | _, _ => none
        | none =>
          match evOp P s.t (if newOp o.op then s.h ++ [.no] else s.h) s.h.length o.op ds1 with
          | some (r, sets, ds2, q2) =>
            match evList P orc n ops rest { t := putR s.t o.dst r, h := setsH sets (if newOp o.op then s.h ++ [.no] else s.h) } ds2 with
            | some (s', ds', q) => some (s', ds', q1 ++ (q2 ++ q))
            | none => none
          | none => none
      | none => none
end

def FunOk (P : Program) (orc : Orc) (n : Nat) : Prop := ∀ f args h ds r h' ds' q, evFun P orc n f args h ds = some (r, h', ds', q) → holds q →
  ∀ m w0 w vs, HR m w0 h w → RL m args vs → Calls P f ⟨vs⟩ w fun e w' => ∃ m' v, e = .returned v ∧ Ext m m' ∧ R m' r v ∧ HR m' w0 h' w'
def CodeOk (P : Program) (orc : Orc) (n : Nat) : Prop := ∀ c s ds x s' ds' q, evCode P orc n c s ds = some (x, s', ds', q) → holds q →
  ∀ m w0 a w Q, Sim m w0 s a w → (∀ m' a' w', Ext m m' → Sim m' w0 s' a' w' → Q (Xit.to x) a' w') → c.wp P Q a w
def LoopOk (P : Program) (orc : Orc) (n : Nat) : Prop := ∀ c s ds x s' ds' q, evLoop P orc n c s ds = some (x, s', ds', q) → holds q →
  ∀ m w0 a w Q, Sim m w0 s a w → (∀ m' a' w', Ext m m' → Sim m' w0 s' a' w' → Q (Xit.to x) a' w') → Code.rounds P c Q n a w
def ListOk (P : Program) (orc : Orc) (n : Nat) : Prop := ∀ ops l s ds s' ds' q, evList P orc n ops l s ds = some (s', ds', q) → holds q →
  ∀ m w0 a w Q, Sim m w0 s a w → (∀ m' a' w', Ext m m' → Sim m' w0 s' a' w' → Q .normal a' w') → wpList P ops Q l a w

theorem fun_step {P : Program} {orc : Orc} {n : Nat} (hC : CodeOk P orc n) : FunOk P orc (n + 1) := by
  intro f args h ds r h' ds' q he hq m w0 w vs hH hA
  simp only [evFun] at he
  split at he
  · rename_i fn hfn
    split at he
    · rename_i hen
      split at he
      · rename_i c hb
        split at he
        · rename_i x s ds1 q1 hcode
          have hx : ∃ rs, ressR P s.t s.h fn.results.toList = some rs ∧ oneRes rs = r ∧ s.h = h' ∧ q1 = q ∧ (x = .norm ∨ x = .ret) := by
            cases x <;> simp only [] at he <;> first | (cases he; done) | skip
            all_goals
              split at he
              · rename_i rs hrs
                simp only [Option.some.injEq, Prod.mk.injEq] at he
                obtain ⟨h1, h2, h3, h4⟩ := he
                exact ⟨rs, hrs, h1, h2, h4, by simp⟩
              · cases he
          obtain ⟨rs, hrs, rfl, rfl, rfl, hxx⟩ := hx
          refine calls_of_wp hfn hb ?_
          refine hC _ _ _ _ _ _ _ hcode hq m w0 _ w _ ⟨?_, rfl, hH⟩ ?_
          · have hl := hA.length
            have e : ((⟨vs⟩ : Array Value) ++ Array.replicate (fn.ntmps - (⟨vs⟩ : Array Value).size) undef).toList = vs ++ List.replicate (fn.ntmps - args.length) undef := by simp [hl]
            rw [e]
            exact hA.append (RL.replicate undef_R _)
          · intro m' a' w' hext hsim
            obtain ⟨v, h1, h2⟩ := results_run hrs hsim
            rcases hxx with rfl | rfl
            · exact ⟨hsim.df, v, h1, m', v, rfl, hext, h2, hsim.hp⟩
            · exact ⟨hsim.df, v, h1, m', v, rfl, hext, h2, hsim.hp⟩
        · cases he
      · cases he
    · cases he
  · cases he

theorem code_step {P : Program} {orc : Orc} {n : Nat} (hmix : P.follows .mixedOrders = true) (ho : OrcOk P orc) (hC : CodeOk P orc n) (hL : LoopOk P orc n) (hO : ListOk P orc n) : CodeOk P orc (n + 1) := by
  intro c s ds x s' ds' q he hq m w0 a w Q hs hQ
  cases c with
  | skip =>
    simp only [evCode, Option.some.injEq, Prod.mk.injEq] at he
    obtain ⟨rfl, rfl, rfl, rfl⟩ := he
    exact wp_skip (hQ m a w (Ext.refl m) hs)
  | region id ops draw =>
    cases draw with
    | true =>
      simp only [evCode] at he
      split at he
      · rename_i s1 ds1 q1 hl
        simp only [Option.some.injEq, Prod.mk.injEq] at he
        obtain ⟨rfl, rfl, rfl, rfl⟩ := he
        exact evDraw_ok hmix ho hl hq hs hQ
      · cases he
    | false =>
      simp only [evCode] at he
      split at he
      · rename_i s1 ds1 q1 hl
        simp only [Option.some.injEq, Prod.mk.injEq] at he
        obtain ⟨rfl, rfl, rfl, rfl⟩ := he
        exact wp_region_list (hO _ _ _ _ _ _ _ hl hq m w0 a w Q hs hQ)
      · cases he
  | seq c1 c2 =>
    simp only [evCode] at he
    refine wp_seq ?_
    cases h1 : evCode P orc n c1 s ds with
    | none => rw [h1] at he; simp at he
    | some z =>
      obtain ⟨x1, s1, ds1, q1⟩ := z
      rw [h1] at he
      cases x1 with
      | norm =>
        simp only at he
        split at he
        · rename_i x2 s2 ds2 q2 h2
          simp only [Option.some.injEq, Prod.mk.injEq] at he
          obtain ⟨rfl, rfl, rfl, rfl⟩ := he
          obtain ⟨hq1, hq2⟩ := holds_append.1 hq
          refine hC _ _ _ _ _ _ _ h1 hq1 m w0 a w _ hs fun m' a' w' hext hsim => ?_
          exact hC _ _ _ _ _ _ _ h2 hq2 m' w0 a' w' Q hsim fun m'' a'' w'' hext' hsim' => hQ m'' a'' w'' (hext.trans hext') hsim'
        · cases he
      | exit i =>
        simp only [Option.some.injEq, Prod.mk.injEq] at he
        obtain ⟨rfl, rfl, rfl, rfl⟩ := he
        exact hC _ _ _ _ _ _ _ h1 hq m w0 a w _ hs fun m' a' w' hext hsim => hQ m' a' w' hext hsim
      | ret =>
        simp only [Option.some.injEq, Prod.mk.injEq] at he
        obtain ⟨rfl, rfl, rfl, rfl⟩ := he
        exact hC _ _ _ _ _ _ _ h1 hq m w0 a w _ hs fun m' a' w' hext hsim => hQ m' a' w' hext hsim
  | cond y c1 c2 =>
    simp only [evCode] at he
    split at he
    · rename_i cb hc
      have hcv := opR_R hc hs.tm
      simp only [R] at hcv
      split at he
      · rename_i ds1 q1 hask
        split at he
        · rename_i x2 s2 ds2 q2 h2
          simp only [Option.some.injEq, Prod.mk.injEq] at he
          obtain ⟨rfl, rfl, rfl, rfl⟩ := he
          obtain ⟨hq1, hq2⟩ := holds_append.1 hq
          have hb := ask_spec hask hq1
          rw [← hb] at hcv
          exact wp_cond_true hcv (hC _ _ _ _ _ _ _ h2 hq2 m w0 a w Q hs hQ)
        · cases he
      · rename_i ds1 q1 hask
        split at he
        · rename_i x2 s2 ds2 q2 h2
          simp only [Option.some.injEq, Prod.mk.injEq] at he
          obtain ⟨rfl, rfl, rfl, rfl⟩ := he
          obtain ⟨hq1, hq2⟩ := holds_append.1 hq
          have hb := ask_spec hask hq1
          rw [← hb] at hcv
          exact wp_cond_false hcv (hC _ _ _ _ _ _ _ h2 hq2 m w0 a w Q hs hQ)
        · cases he
    · cases he
  | block id c =>
    simp only [evCode] at he
    refine wp_block ?_
    cases h1 : evCode P orc n c s ds with
    | none => rw [h1] at he; simp at he
    | some z =>
      obtain ⟨x1, s1, ds1, q1⟩ := z
      rw [h1] at he
      cases x1 with
      | norm =>
        simp only [Option.some.injEq, Prod.mk.injEq] at he
        obtain ⟨rfl, rfl, rfl, rfl⟩ := he
        exact hC _ _ _ _ _ _ _ h1 hq m w0 a w _ hs fun m' a' w' hext hsim => hQ m' a' w' hext hsim
      | exit i =>
        simp only at he
        split at he
        · rename_i hi
          simp only [Option.some.injEq, Prod.mk.injEq] at he
          obtain ⟨rfl, rfl, rfl, rfl⟩ := he
          refine hC _ _ _ _ _ _ _ h1 hq m w0 a w _ hs fun m' a' w' hext hsim => ?_
          simp only [Xit.to, Exit.inBlock, hi, if_true]
          exact hQ m' a' w' hext hsim
        · rename_i hi
          simp only [Option.some.injEq, Prod.mk.injEq] at he
          obtain ⟨rfl, rfl, rfl, rfl⟩ := he
          refine hC _ _ _ _ _ _ _ h1 hq m w0 a w _ hs fun m' a' w' hext hsim => ?_
          simp only [Xit.to, Exit.inBlock, hi, if_false]
          exact hQ m' a' w' hext hsim
      | ret =>
        simp only [Option.some.injEq, Prod.mk.injEq] at he
        obtain ⟨rfl, rfl, rfl, rfl⟩ := he
        exact hC _ _ _ _ _ _ _ h1 hq m w0 a w _ hs fun m' a' w' hext hsim => hQ m' a' w' hext hsim
  | loop c =>
    simp only [evCode] at he
    exact wp_loop_rounds n (hL _ _ _ _ _ _ _ he hq m w0 a w Q hs hQ)
  | exit id =>
    simp only [evCode, Option.some.injEq, Prod.mk.injEq] at he
    obtain ⟨rfl, rfl, rfl, rfl⟩ := he
    exact wp_exit (hQ m a w (Ext.refl m) hs)
  | ret =>
    simp only [evCode, Option.some.injEq, Prod.mk.injEq] at he
    obtain ⟨rfl, rfl, rfl, rfl⟩ := he
    exact wp_ret (hQ m a w (Ext.refl m) hs)
  | _ => simp [evCode] at he

theorem loop_step {P : Program} {orc : Orc} {n : Nat} (hC : CodeOk P orc n) (hL : LoopOk P orc n) : LoopOk P orc (n + 1) := by
  intro c s ds x s' ds' q he hq m w0 a w Q hs hQ
  simp only [evLoop] at he
  cases h1 : evCode P orc n c s ds with
  | none => rw [h1] at he; simp at he
  | some z =>
    obtain ⟨x1, s1, ds1, q1⟩ := z
    rw [h1] at he
    cases x1 with
    | norm =>
      simp only at he
      split at he
      · rename_i x2 s2 ds2 q2 h2
        simp only [Option.some.injEq, Prod.mk.injEq] at he
        obtain ⟨rfl, rfl, rfl, rfl⟩ := he
        obtain ⟨hq1, hq2⟩ := holds_append.1 hq
        refine hC _ _ _ _ _ _ _ h1 hq1 m w0 a w _ hs fun m' a' w' hext hsim => ?_
        exact hL _ _ _ _ _ _ _ h2 hq2 m' w0 a' w' Q hsim fun m'' a'' w'' hext' hsim' => hQ m'' a'' w'' (hext.trans hext') hsim'
      · cases he
    | exit i =>
      simp only [Option.some.injEq, Prod.mk.injEq] at he
      obtain ⟨rfl, rfl, rfl, rfl⟩ := he
      exact hC _ _ _ _ _ _ _ h1 hq m w0 a w _ hs fun m' a' w' hext hsim => hQ m' a' w' hext hsim
    | ret =>
      simp only [Option.some.injEq, Prod.mk.injEq] at he
      obtain ⟨rfl, rfl, rfl, rfl⟩ := he
      exact hC _ _ _ _ _ _ _ h1 hq m w0 a w _ hs fun m' a' w' hext hsim => hQ m' a' w' hext hsim

theorem list_step {P : Program} {orc : Orc} {n : Nat} (ho : OrcOk P orc) (hF : FunOk P orc n) (hFE : ∀ f args h ds z, evFun P orc n f args h ds = some z → Enters P f) (hO : ListOk P orc n) : ListOk P orc (n + 1) := by
  intro ops l s ds s' ds' q he hq m w0 a w Q hs hQ
  simp only [evList] at he
  cases l with
  | nil =>
    simp only [Option.some.injEq, Prod.mk.injEq] at he
    obtain ⟨rfl, rfl, rfl⟩ := he
    exact wpList_nil (hQ m a w (Ext.refl m) hs)
  | cons o rest =>
    simp only at he
    refine wpList_step fun K hK => ?_
    split at he
    · rename_i ds1 q1 hw
      split at he
      · rename_i s2 ds2 q2 h2
        simp only [Option.some.injEq, Prod.mk.injEq] at he
        obtain ⟨rfl, rfl, rfl⟩ := he
        obtain ⟨hq1, hq2⟩ := holds_append.1 hq
        have hwant := wantR_R hw hq1 hs.tm
        rw [hwant]
        simp only [Bool.false_eq_true, if_false]
        refine hK _ _ (hO _ _ _ _ _ _ _ h2 hq2 m w0 _ w Q ⟨putR_R hs.tm undef_R, by rw [put_defers]; exact hs.df, hs.hp⟩ hQ)
      · cases he
    · rename_i ds1 q1 hw
      split at he
      · rename_i fo aos hc
        split at he
        · rename_i f cs as hfo has
          split at he
          · rename_i r h' ds2 q2 hcall
            split at he
            · rename_i s3 ds3 q3 h3
              simp only [Option.some.injEq, Prod.mk.injEq] at he
              obtain ⟨rfl, rfl, rfl⟩ := he
              obtain ⟨hq1, hq23⟩ := holds_append.1 hq
              obtain ⟨hq2, hq3⟩ := holds_append.1 hq23
              have hwant := wantR_R hw hq1 hs.tm
              rw [hwant]
              simp only [if_true]
              have hfv := opR_R hfo hs.tm
              simp only [SX.R] at hfv
              obtain ⟨vcs, hvcs, hfv⟩ := hfv
              have hav := opsR_R hs.tm has
              have hall := hav.append hvcs
              split at hcall
              · rename_i F hF'
                split at hcall
                · rename_i r' qf hr'
                  simp only [Option.some.injEq, Prod.mk.injEq] at hcall
                  obtain ⟨rfl, rfl, rfl, rfl⟩ := hcall
                  have hk := orcAt_ok ho hF'
                  obtain ⟨hp1, hp2, hk2⟩ := hk.calls _ _ _ hr'
                  obtain ⟨v, hrv, hcalls⟩ := hk2 hq2 _ (hall.pure hp1)
                  refine call_wp hc hfv rfl hk.enters (hcalls w) fun e w' ⟨hev, hb⟩ => ⟨v, hev, ?_⟩
                  refine hK _ _ (hO _ _ _ _ _ _ _ h3 hq3 m w0 _ w' Q ⟨putR_R hs.tm (hrv.pure hp2), by rw [put_defers]; exact hs.df, hs.hp.call hb⟩ hQ)
                · cases hcall
              · rename_i hF'
                have hcalls := hF _ _ _ _ _ _ _ _ hcall hq2 m w0 w _ hs.hp hall
                refine call_wp hc hfv rfl (hFE _ _ _ _ _ hcall) hcalls fun e w' ⟨m', v, hev, hext, hrv, hh⟩ => ⟨v, hev, ?_⟩
                refine hK _ _ (hO _ _ _ _ _ _ _ h3 hq3 m' w0 _ w' Q ⟨putR_R (hs.tm.ext hext) hrv, by rw [put_defers]; exact hs.df, hh⟩ fun m'' a'' w'' hext' hsim' => hQ m'' a'' w'' (hext.trans hext') hsim')
            · cases he
          · cases he
        · cases he
      · rename_i hc
        split at he
        · rename_i r sets ds2 q2 hop
          split at he
          · rename_i s3 ds3 q3 h3
            simp only [Option.some.injEq, Prod.mk.injEq] at he
            obtain ⟨rfl, rfl, rfl⟩ := he
            obtain ⟨hq1, hq23⟩ := holds_append.1 hq
            obtain ⟨hq2, hq3⟩ := holds_append.1 hq23
            have hwant := wantR_R hw hq1 hs.tm
            rw [hwant]
            simp only [if_true]
            have hs' : Sim m w0 { s with h := if newOp o.op then s.h ++ [.no] else s.h } a w := by
              refine ⟨hs.tm, hs.df, ?_⟩
              split
              · exact hs.hp.more 1
              · exact hs.hp
            obtain ⟨m', nx, v, w', hext, hrun, hnx, hrv, hh⟩ := evOp_sound (s := { s with h := if newOp o.op then s.h ++ [.no] else s.h }) hop hq2 hs' (fun hn => by simp [hn])
            unfold Oper.wp
            rw [hrun]
            refine nx_upon hnx (hK _ _ (hO _ _ _ _ _ _ _ h3 hq3 m' w0 _ w' Q ⟨putR_R (hs.tm.ext hext) hrv, by rw [put_defers]; exact hs.df, hh⟩ fun m'' a'' w'' hext' hsim' => hQ m'' a'' w'' (hext.trans hext') hsim'))
          · cases he
        · cases he
    · cases he
theorem fun_enters {P : Program} {orc : Orc} : ∀ {n : Nat} {f : Nat} {args : List RV} {h : List Blk} {ds : D} {z : RV × List Blk × D × Qs}, evFun P orc n f args h ds = some z → Enters P f
  | 0, f, args, h, ds, z, he => by simp [evFun] at he
  | n + 1, f, args, h, ds, z, he => by
    simp only [evFun] at he
    split at he
    · rename_i fn hfn
      split at he
      · rename_i hen; exact enters_of hfn hen
      · cases he
    · cases he
theorem all_ok {P : Program} {orc : Orc} (hmix : P.follows .mixedOrders = true) (ho : OrcOk P orc) : ∀ n, FunOk P orc n ∧ CodeOk P orc n ∧ LoopOk P orc n ∧ ListOk P orc n
  | 0 => ⟨fun _ _ _ _ _ _ _ _ he => by simp [evFun] at he, fun _ _ _ _ _ _ _ he => by simp [evCode] at he, fun _ _ _ _ _ _ _ he => by simp [evLoop] at he, fun _ _ _ _ _ _ _ he => by simp [evList] at he⟩
  | n + 1 =>
    let ⟨hF, hC, hL, hO⟩ := all_ok hmix ho n
    ⟨fun_step hC, code_step hmix ho hC hL hO, loop_step hC hL, list_step ho hF (fun _ _ _ _ _ he => fun_enters he) hO⟩
/-- The blocks of nobody. -/
theorem HR.none (w : World) : HR M0 w [] w := ⟨Below.refl _ _, fun id x h => by simp at h, fun id b h => by simp [M0] at h, fun i j b h => by simp [M0] at h, fun id b h => by simp [M0] at h⟩

/-! ### Plain values, and contracts of plain functions -/
mutual
def valOf : RV → Value
  | .bool b => .bool b
  | .int k n => .int k n
  | .str s => .string s
  | .nilp => .pointer none
  | .nils => .slice none 0 0
  | .nilf => .nilFunc
  | .func f cs => .func (.func f) #[] ⟨valsOf cs⟩
  | .agg cs => .agg ⟨valsOf cs⟩
  | .tup cs => .tuple ⟨valsOf cs⟩
  | _ => undef
def valsOf : List RV → List Value
  | [] => []
  | r :: rs => valOf r :: valsOf rs
end
mutual
theorem R_valOf {m : Nat → Option Nat} : ∀ {r : RV} {v : Value}, pure? r = true → (R m r v ↔ v = valOf r)
  | .any, _, h => by simp [pure?] at h
  | .bool b, v, _ => by simp [R, valOf]
  | .int k n, v, _ => by simp [R, valOf]
  | .str s, v, _ => by simp [R, valOf]
  | .ptr id off, v, h => by simp [pure?] at h
  | .nilp, v, _ => by simp [R, valOf]
  | .slice id off len cap, v, h => by simp [pure?] at h
  | .nils, v, _ => by simp [R, valOf]
  | .map id, v, h => by simp [pure?] at h
  | .func f cs, v, h => by
    simp only [pure?] at h
    simp only [R, valOf]
    exact ⟨fun ⟨vs, h1, h2⟩ => by rw [h2, (RL_valsOf h).1 h1], fun h1 => ⟨_, (RL_valsOf h).2 rfl, h1⟩⟩
  | .nilf, v, _ => by simp [R, valOf]
  | .agg cs, v, h => by
    simp only [pure?] at h
    simp only [R, valOf]
    exact ⟨fun ⟨vs, h1, h2⟩ => by rw [h2, (RL_valsOf h).1 h1], fun h1 => ⟨_, (RL_valsOf h).2 rfl, h1⟩⟩
  | .tup cs, v, h => by
    simp only [pure?] at h
    simp only [R, valOf]
    exact ⟨fun ⟨vs, h1, h2⟩ => by rw [h2, (RL_valsOf h).1 h1], fun h1 => ⟨_, (RL_valsOf h).2 rfl, h1⟩⟩
theorem RL_valsOf {m : Nat → Option Nat} : ∀ {rs : List RV} {vs : List Value}, pureL? rs = true → (RL m rs vs ↔ vs = valsOf rs)
  | [], vs, _ => by simp [RL, valsOf]
  | r :: rs, vs, h => by
    simp only [pureL?, Bool.and_eq_true] at h
    simp only [RL, valsOf]
    constructor
    · rintro ⟨v, vs', h1, h2, rfl⟩
      rw [(R_valOf h.1).1 h1, (RL_valsOf h.2).1 h2]
    · intro h1
      exact ⟨_, _, (R_valOf h.1).2 rfl, (RL_valsOf h.2).2 rfl, h1⟩
end
/-- A call with plain values gives a plain value, and leaves what was. -/
def Gives (P : Program) (f : FuncId) (args : List RV) (r : RV) : Prop := ∀ w, Calls P f ⟨valsOf args⟩ w fun e w' => e = .returned (valOf r) ∧ Below w.heap.size w w'
/-- A function's result and what it asked. -/
def evR (P : Program) (orc : Orc) (n f : Nat) (args : List RV) (ds : D) : Option (RV × Qs) :=
  match evFun P orc n f args [] ds with
  | some (r, _, _, q) => some (r, q)
  | none => none
theorem gives {P : Program} {orc : Orc} (hmix : P.follows .mixedOrders = true) (ho : OrcOk P orc) (n : Nat) {f : Nat} {args : List RV} (ds : D) {r : RV} (q : Qs) (he : evR P orc n f args ds = some (r, q)) (hp : pure? r = true) (ha : pureL? args = true) (hq : holds q) :
    Gives P f args r := by
  intro w
  unfold evR at he
  split at he
  · rename_i r' h' ds' q' hf
    simp only [Option.some.injEq, Prod.mk.injEq] at he
    obtain ⟨rfl, rfl⟩ := he
    refine ((all_ok hmix ho n).1 _ _ _ _ _ _ _ _ hf hq M0 w w _ (HR.none w) ((RL_valsOf ha).2 rfl)).mono fun e w' ⟨m', v', h1, _, h2, h3⟩ => ?_
    rw [h1, (R_valOf hp).1 h2]
    exact ⟨rfl, h3.bel⟩
  · cases he
theorem keeps_of {P : Program} {f : FuncId} {F : List RV → Option (RV × Qs)} (he : Enters P f) (h : ∀ args r q, F args = some (r, q) → pureL? args = true ∧ pure? r = true ∧ (holds q → Gives P f args r)) : Keeps P f F :=
  ⟨he, fun args r q hf => by
    obtain ⟨h1, h2, h3⟩ := h args r q hf
    refine ⟨h1, h2, fun hq vs hvs => ⟨valOf r, (R_valOf h2).2 rfl, fun w => ?_⟩⟩
    rw [(RL_valsOf h1).1 hvs]
    exact h3 hq w⟩

def pureM? : List (RV × RV) → Bool
  | [] => true
  | (k, v) :: r => pure? k && (pure? v && pureM? r)
theorem RM.pure {m m' : Nat → Option Nat} : ∀ {es : List (RV × RV)} {vs : List MapEntry}, pureM? es = true → RM m es vs → RM m' es vs
  | [], vs, _, h => by simpa [RM] using h
  | (k, v) :: rs, vs, hp, h => by
    simp only [RM] at h ⊢
    simp only [pureM?, Bool.and_eq_true] at hp
    obtain ⟨x, vs', h0, h1, h2, h3⟩ := h
    exact ⟨x, vs', h0.pure hp.1, h1.pure hp.2.1, RM.pure hp.2.2 h2, h3⟩
def mapOf : Option (RV × List Blk × D × Qs) → Option (List (RV × RV))
  | some (.map id, h, _, []) =>
    match h[id]? with
    | some (.map es) => if pureM? es then some es else none
    | _ => none
  | _ => none
theorem makes {P : Program} {orc : Orc} (hmix : P.follows .mixedOrders = true) (ho : OrcOk P orc) (n : Nat) {f : Nat} {es : List (RV × RV)} (he : mapOf (evFun P orc n f [] [] []) = some es) : Makes P f es := by
  unfold mapOf at he
  split at he
  · rename_i id h' ds' hev
    split at he
    · rename_i es' hb
      split at he
      · rename_i hp
        injection he with he
        subst he
        refine ⟨fun_enters hev, fun w => ?_⟩
        refine ((all_ok hmix ho n).1 _ _ _ _ _ _ _ _ hev trivial M0 w w [] (HR.none w) (by simp [RL])).mono fun e w' ⟨m', v', h1, _, h2, h3⟩ => ?_
        obtain ⟨b, hmb, rfl⟩ := h2
        obtain ⟨b', hmb', vs, c, hvs, hbl⟩ := h3.blk id _ hb (by simp)
        rw [hmb] at hmb'
        injection hmb' with hmb'
        subst hmb'
        have := h3.rng id b hmb
        exact ⟨b, vs, c, h1, h3.bel, this.1, this.2, hbl, hvs.pure hp⟩
      · cases he
    · cases he
  · cases he

/-! ### How plain data are told -/
structure Cod (α : Type) where
  dec : RV → Option α
  enc : α → RV
  ok : ∀ x a, dec x = some a → x = enc a
  pu : ∀ a, pure? (enc a) = true
def cI (k : IntKind) : Cod Int where
  dec
    | .int k' n => if k' = k then some n else none
    | _ => none
  enc n := .int k n
  ok x a h := by
    split at h
    · split at h
      · rename_i hk; subst hk; injection h with h; subst h; rfl
      · cases h
    · cases h
  pu _ := rfl
def cB : Cod Bool where
  dec
    | .bool b => some b
    | _ => none
  enc b := .bool b
  ok x a h := by
    split at h
    · injection h with h; subst h; rfl
    · cases h
  pu _ := rfl
def cNil : Cod Unit where
  dec
    | .nils => some ()
    | _ => none
  enc _ := .nils
  ok x a h := by
    split at h
    · rfl
    · cases h
  pu _ := rfl
def cP {α β : Type} (A : Cod α) (B : Cod β) : Cod (α × β) where
  dec
    | .tup [x, y] =>
      match A.dec x, B.dec y with
      | some a, some b => some (a, b)
      | _, _ => none
    | _ => none
  enc p := .tup [A.enc p.1, B.enc p.2]
  ok x a h := by
    split at h
    · split at h
      · rename_i h1 h2
        injection h with h; subst h
        rw [A.ok _ _ h1, B.ok _ _ h2]
      · cases h
    · cases h
  pu p := by simp [pure?, pureL?, A.pu, B.pu]
def cP3 {α β γ : Type} (A : Cod α) (B : Cod β) (C : Cod γ) : Cod (α × β × γ) where
  dec
    | .tup [x, y, z] =>
      match A.dec x, B.dec y, C.dec z with
      | some a, some b, some c => some (a, b, c)
      | _, _, _ => none
    | _ => none
  enc p := .tup [A.enc p.1, B.enc p.2.1, C.enc p.2.2]
  ok x a h := by
    split at h
    · split at h
      · rename_i h1 h2 h3
        injection h with h; subst h
        rw [A.ok _ _ h1, B.ok _ _ h2, C.ok _ _ h3]
      · cases h
    · cases h
  pu p := by simp [pure?, pureL?, A.pu, B.pu, C.pu]
section
variable {ω : Type} {P : Program} {f : FuncId}
def F0  (O : Cod ω) (pre : Qs) (fn : ω) : List RV → Option (RV × Qs)
  | [] =>
    some (O.enc fn, pre)
  | _ => none
theorem keeps0  (O : Cod ω) {pre : Qs} {fn : ω} (he : Enters P f) (h : holds (pre) → Gives P f [] (O.enc (fn))) : Keeps P f (F0  O pre fn) := by
  refine keeps_of he fun args r q hf => ?_
  unfold F0 at hf
  split at hf
  · simp only [Option.some.injEq, Prod.mk.injEq] at hf
    obtain ⟨rfl, rfl⟩ := hf
    exact ⟨rfl, O.pu _, h⟩
  · cases hf
end
section
variable {α ω : Type} {P : Program} {f : FuncId}
def F1 (A : Cod α) (O : Cod ω) (pre : α → Qs) (fn : α → ω) : List RV → Option (RV × Qs)
  | [x] =>
    match A.dec x with
    | some a => some (O.enc (fn a), pre a)
    | _ => none
  | _ => none
theorem keeps1 (A : Cod α) (O : Cod ω) {pre : α → Qs} {fn : α → ω} (he : Enters P f) (h : ∀ a, holds (pre a) → Gives P f [A.enc a] (O.enc (fn a))) : Keeps P f (F1 A O pre fn) := by
  refine keeps_of he fun args r q hf => ?_
  unfold F1 at hf
  split at hf
  · split at hf
    · rename_i h0
      simp only [Option.some.injEq, Prod.mk.injEq] at hf
      obtain ⟨rfl, rfl⟩ := hf
      rw [A.ok _ _ h0]
      exact ⟨by simp [pureL?, A.pu], O.pu _, h _⟩
    · cases hf
  · cases hf
end
section
variable {α β ω : Type} {P : Program} {f : FuncId}
def F2 (A : Cod α) (B : Cod β) (O : Cod ω) (pre : α → β → Qs) (fn : α → β → ω) : List RV → Option (RV × Qs)
  | [x, y] =>
    match A.dec x, B.dec y with
    | some a, some b => some (O.enc (fn a b), pre a b)
    | _, _ => none
  | _ => none
theorem keeps2 (A : Cod α) (B : Cod β) (O : Cod ω) {pre : α → β → Qs} {fn : α → β → ω} (he : Enters P f) (h : ∀ a b, holds (pre a b) → Gives P f [A.enc a, B.enc b] (O.enc (fn a b))) : Keeps P f (F2 A B O pre fn) := by
  refine keeps_of he fun args r q hf => ?_
  unfold F2 at hf
  split at hf
  · split at hf
    · rename_i h0 h1
      simp only [Option.some.injEq, Prod.mk.injEq] at hf
      obtain ⟨rfl, rfl⟩ := hf
      rw [A.ok _ _ h0, B.ok _ _ h1]
      exact ⟨by simp [pureL?, A.pu, B.pu], O.pu _, h _ _⟩
    · cases hf
  · cases hf
end
section
variable {α β γ ω : Type} {P : Program} {f : FuncId}
def F3 (A : Cod α) (B : Cod β) (C : Cod γ) (O : Cod ω) (pre : α → β → γ → Qs) (fn : α → β → γ → ω) : List RV → Option (RV × Qs)
  | [x, y, z] =>
    match A.dec x, B.dec y, C.dec z with
    | some a, some b, some c => some (O.enc (fn a b c), pre a b c)
    | _, _, _ => none
  | _ => none
theorem keeps3 (A : Cod α) (B : Cod β) (C : Cod γ) (O : Cod ω) {pre : α → β → γ → Qs} {fn : α → β → γ → ω} (he : Enters P f) (h : ∀ a b c, holds (pre a b c) → Gives P f [A.enc a, B.enc b, C.enc c] (O.enc (fn a b c))) : Keeps P f (F3 A B C O pre fn) := by
  refine keeps_of he fun args r q hf => ?_
  unfold F3 at hf
  split at hf
  · split at hf
    · rename_i h0 h1 h2
      simp only [Option.some.injEq, Prod.mk.injEq] at hf
      obtain ⟨rfl, rfl⟩ := hf
      rw [A.ok _ _ h0, B.ok _ _ h1, C.ok _ _ h2]
      exact ⟨by simp [pureL?, A.pu, B.pu, C.pu], O.pu _, h _ _ _⟩
    · cases hf
  · cases hf
end
section
variable {α β γ δ ω : Type} {P : Program} {f : FuncId}
def F4 (A : Cod α) (B : Cod β) (C : Cod γ) (E : Cod δ) (O : Cod ω) (pre : α → β → γ → δ → Qs) (fn : α → β → γ → δ → ω) : List RV → Option (RV × Qs)
  | [x, y, z, u] =>
    match A.dec x, B.dec y, C.dec z, E.dec u with
    | some a, some b, some c, some d => some (O.enc (fn a b c d), pre a b c d)
    | _, _, _, _ => none
  | _ => none
theorem keeps4 (A : Cod α) (B : Cod β) (C : Cod γ) (E : Cod δ) (O : Cod ω) {pre : α → β → γ → δ → Qs} {fn : α → β → γ → δ → ω} (he : Enters P f) (h : ∀ a b c d, holds (pre a b c d) → Gives P f [A.enc a, B.enc b, C.enc c, E.enc d] (O.enc (fn a b c d))) : Keeps P f (F4 A B C E O pre fn) := by
  refine keeps_of he fun args r q hf => ?_
  unfold F4 at hf
  split at hf
  · split at hf
    · rename_i h0 h1 h2 h3
      simp only [Option.some.injEq, Prod.mk.injEq] at hf
      obtain ⟨rfl, rfl⟩ := hf
      rw [A.ok _ _ h0, B.ok _ _ h1, C.ok _ _ h2, E.ok _ _ h3]
      exact ⟨by simp [pureL?, A.pu, B.pu, C.pu, E.pu], O.pu _, h _ _ _ _⟩
    · cases hf
  · cases hf
end
section
variable {α β γ δ ε ω : Type} {P : Program} {f : FuncId}
def F5 (A : Cod α) (B : Cod β) (C : Cod γ) (E : Cod δ) (G : Cod ε) (O : Cod ω) (pre : α → β → γ → δ → ε → Qs) (fn : α → β → γ → δ → ε → ω) : List RV → Option (RV × Qs)
  | [x, y, z, u, v] =>
    match A.dec x, B.dec y, C.dec z, E.dec u, G.dec v with
    | some a, some b, some c, some d, some e => some (O.enc (fn a b c d e), pre a b c d e)
    | _, _, _, _, _ => none
  | _ => none
theorem keeps5 (A : Cod α) (B : Cod β) (C : Cod γ) (E : Cod δ) (G : Cod ε) (O : Cod ω) {pre : α → β → γ → δ → ε → Qs} {fn : α → β → γ → δ → ε → ω} (he : Enters P f) (h : ∀ a b c d e, holds (pre a b c d e) → Gives P f [A.enc a, B.enc b, C.enc c, E.enc d, G.enc e] (O.enc (fn a b c d e))) : Keeps P f (F5 A B C E G O pre fn) := by
  refine keeps_of he fun args r q hf => ?_
  unfold F5 at hf
  split at hf
  · split at hf
    · rename_i h0 h1 h2 h3 h4
      simp only [Option.some.injEq, Prod.mk.injEq] at hf
      obtain ⟨rfl, rfl⟩ := hf
      rw [A.ok _ _ h0, B.ok _ _ h1, C.ok _ _ h2, E.ok _ _ h3, G.ok _ _ h4]
      exact ⟨by simp [pureL?, A.pu, B.pu, C.pu, E.pu, G.pu], O.pu _, h _ _ _ _ _⟩
    · cases hf
  · cases hf
end
section
variable {α β γ δ ε ζ η ω : Type} {P : Program} {f : FuncId}
def F6 (A : Cod α) (B : Cod β) (C : Cod γ) (E : Cod δ) (G : Cod ε) (H : Cod ζ) (O : Cod ω) (pre : α → β → γ → δ → ε → ζ → Qs) (fn : α → β → γ → δ → ε → ζ → ω) : List RV → Option (RV × Qs)
  | [x, y, z, u, v, t] =>
    match A.dec x, B.dec y, C.dec z, E.dec u, G.dec v, H.dec t with
    | some a, some b, some c, some d, some e, some g => some (O.enc (fn a b c d e g), pre a b c d e g)
    | _, _, _, _, _, _ => none
  | _ => none
theorem keeps6 (A : Cod α) (B : Cod β) (C : Cod γ) (E : Cod δ) (G : Cod ε) (H : Cod ζ) (O : Cod ω) {pre : α → β → γ → δ → ε → ζ → Qs} {fn : α → β → γ → δ → ε → ζ → ω} (he : Enters P f) (h : ∀ a b c d e g, holds (pre a b c d e g) → Gives P f [A.enc a, B.enc b, C.enc c, E.enc d, G.enc e, H.enc g] (O.enc (fn a b c d e g))) : Keeps P f (F6 A B C E G H O pre fn) := by
  refine keeps_of he fun args r q hf => ?_
  unfold F6 at hf
  split at hf
  · split at hf
    · rename_i h0 h1 h2 h3 h4 h5
      simp only [Option.some.injEq, Prod.mk.injEq] at hf
      obtain ⟨rfl, rfl⟩ := hf
      rw [A.ok _ _ h0, B.ok _ _ h1, C.ok _ _ h2, E.ok _ _ h3, G.ok _ _ h4, H.ok _ _ h5]
      exact ⟨by simp [pureL?, A.pu, B.pu, C.pu, E.pu, G.pu, H.pu], O.pu _, h _ _ _ _ _ _⟩
    · cases hf
  · cases hf
def F7 (A : Cod α) (B : Cod β) (C : Cod γ) (E : Cod δ) (G : Cod ε) (H : Cod ζ) (I : Cod η) (O : Cod ω) (pre : α → β → γ → δ → ε → ζ → η → Qs) (fn : α → β → γ → δ → ε → ζ → η → ω) : List RV → Option (RV × Qs)
  | [x, y, z, u, v, t, s] =>
    match A.dec x, B.dec y, C.dec z, E.dec u, G.dec v, H.dec t, I.dec s with
    | some a, some b, some c, some d, some e, some g, some i => some (O.enc (fn a b c d e g i), pre a b c d e g i)
    | _, _, _, _, _, _, _ => none
  | _ => none
theorem keeps7 (A : Cod α) (B : Cod β) (C : Cod γ) (E : Cod δ) (G : Cod ε) (H : Cod ζ) (I : Cod η) (O : Cod ω) {pre : α → β → γ → δ → ε → ζ → η → Qs} {fn : α → β → γ → δ → ε → ζ → η → ω} (he : Enters P f) (h : ∀ a b c d e g i, holds (pre a b c d e g i) → Gives P f [A.enc a, B.enc b, C.enc c, E.enc d, G.enc e, H.enc g, I.enc i] (O.enc (fn a b c d e g i))) : Keeps P f (F7 A B C E G H I O pre fn) := by
  refine keeps_of he fun args r q hf => ?_
  unfold F7 at hf
  split at hf
  · split at hf
    · rename_i h0 h1 h2 h3 h4 h5 h6
      simp only [Option.some.injEq, Prod.mk.injEq] at hf
      obtain ⟨rfl, rfl⟩ := hf
      rw [A.ok _ _ h0, B.ok _ _ h1, C.ok _ _ h2, E.ok _ _ h3, G.ok _ _ h4, H.ok _ _ h5, I.ok _ _ h6]
      exact ⟨by simp [pureL?, A.pu, B.pu, C.pu, E.pu, G.pu, H.pu, I.pu], O.pu _, h _ _ _ _ _ _ _⟩
    · cases hf
  · cases hf
end
theorem orc_nil {P : Program} : OrcOk P ⟨[], []⟩ := ⟨fun x h => (by cases h), fun x h => (by cases h)⟩
theorem orc_cons {P : Program} {f : FuncId} {F : List RV → Option (RV × Qs)} {orc : Orc} (h : Keeps P f F) (ho : OrcOk P orc) : OrcOk P ⟨(f, F) :: orc.calls, orc.maps⟩ := ⟨fun x hx => by
  rcases List.mem_cons.1 hx with rfl | hx
  · exact h
  · exact ho.1 x hx, ho.2⟩
theorem orc_map {P : Program} {f : FuncId} {es : List (RV × RV)} {orc : Orc} (h : Makes P f es) (ho : OrcOk P orc) : OrcOk P ⟨orc.calls, (f, es) :: orc.maps⟩ := ⟨ho.1, fun x hx => by
  rcases List.mem_cons.1 hx with rfl | hx
  · exact h
  · exact ho.2 x hx⟩
end Go.Proofs.SX
