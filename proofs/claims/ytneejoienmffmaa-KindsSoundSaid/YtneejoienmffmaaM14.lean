/-
  Plain laws: KindsSound.
-/
import Derived.Test.YtneejoienmffmaaM12
import Derived.Test.YtneejoienmffmaaMH
import Derived.Test.YtneejoienmffmaaDS
set_option linter.unusedVariables false
set_option maxRecDepth 100000
namespace Go.Proofs.T
open Go Go.Proofs Go.Proofs.SX
theorem Right_props {a : AR} (h : lockgatelaw18_Right a = true) : MayP a.num ∧ (-1048576 ≤ a.off ∧ a.off ≤ 1048576) ∧ (0 ≤ a.rng ∧ a.rng ≤ 65535) ∧ ((a.kind = 2 ∨ a.kind = 6) → a.num.u.hi ≤ 1048576) := by
  unfold lockgatelaw18_Right at h
  split at h
  · split at h
    · rename_i hm
      split at h
      · rename_i hu
        split at h
        · rename_i hs
          split at h
          · rename_i o1
            split at h
            · rename_i o2
              split at h
              · rename_i r1
                split at h
                · rename_i r2
                  refine ⟨⟨hm, hu, hs⟩, ⟨o1, o2⟩, ⟨r1, r2⟩, fun hk => ?_⟩
                  split at h
                  · exact of_decide_eq_true h
                  · rename_i n2
                    split at h
                    · exact of_decide_eq_true h
                    · rename_i n6; omega
                · cases h
              · cases h
            · cases h
          · cases h
        · cases h
      · cases h
    · cases h
  · cases h
/-- What is known holds, kind by kind. -/
def HK (r : AR) (v : Vl) (len base of : Int) : Prop :=
  r.kind = 0 ∨ (r.kind = 1 ∧ v.kind = 1 ∧ scalar_In r.num v.n = true) ∨
  (r.kind = 2 ∧ v.kind = 2 ∧ IntKind.u64.wrap (v.n - IntKind.u64.wrap r.off) = base ∧ scalar_In r.num base = true ∧ (r.rng ≤ 0 ∨ (r.rng ≤ len ∧ base ≤ IntKind.u64.wrap (IntKind.i64.wrap (len - r.rng))))) ∨
  (r.kind = 3 ∧ v.kind = 3) ∨
  (r.kind = 4 ∧ v.kind = 4 ∧ IntKind.u64.wrap (v.n - IntKind.u64.wrap r.off) = 0) ∨
  (r.kind = 5 ∧ v.kind = 5 ∧ IntKind.u64.wrap (v.n - IntKind.u64.wrap r.off) = 0) ∨
  (r.kind = 6 ∧ v.kind = 6 ∧ of = r.mp ∧ scalar_In r.num (IntKind.u64.wrap (v.n - IntKind.u64.wrap r.off)) = true) ∨
  (r.kind = 7 ∧ ((base = 0 ∧ v.kind = 1 ∧ v.n = 0) ∨ (¬ base = 0 ∧ v.kind = 6 ∧ of = r.mp ∧ v.n = 0))) ∨
  (r.kind = 8 ∧ v.kind = 7 ∧ v.id = r.mp)
theorem Holds_iff (r : AR) (v : Vl) (len base of : Int) : kinds_Holds r v len base of = true ↔ HK r v len base of := by
  unfold kinds_Holds HK
  by_cases k0 : r.kind = 0
  · simp [k0]
  by_cases k1 : r.kind = 1
  · by_cases q : v.kind = 6
    · simp [k1, q]
    · by_cases q1 : v.kind = 1
      · simp [k1, q1]
      · simp [k1, q, q1]
  by_cases k2 : r.kind = 2
  · simp only [k2]
    by_cases q : v.kind = 6
    · by_cases z : r.rng ≤ 0
      · simp [q, z]
      · by_cases z2 : r.rng ≤ len
        · simp [q, z, z2]
        · simp [q, z, z2]
    · by_cases q2 : v.kind = 2
      · by_cases e1 : IntKind.u64.wrap (v.n - IntKind.u64.wrap r.off) = base
        · by_cases e2 : scalar_In r.num base = true
          · by_cases z : r.rng ≤ 0
            · simp [q2, z, e1, e2]
            · by_cases z2 : r.rng ≤ len
              · simp [q2, z, z2, e1, e2]
              · simp [q2, z, z2, e1, e2]
          · by_cases z : r.rng ≤ 0
            · simp [q2, z, e1, e2]
            · by_cases z2 : r.rng ≤ len
              · simp [q2, z, z2, e1, e2]
              · simp [q2, z, z2, e1, e2]
        · by_cases z : r.rng ≤ 0
          · simp [q2, z, e1]
          · by_cases z2 : r.rng ≤ len
            · simp [q2, z, z2, e1]
            · simp [q2, z, z2, e1]
      · by_cases z : r.rng ≤ 0
        · simp [q, q2, z]
        · by_cases z2 : r.rng ≤ len
          · simp [q, q2, z, z2]
          · simp [q, q2, z, z2]
  by_cases k3 : r.kind = 3
  · by_cases q : v.kind = 6
    · simp [k3, q]
    · simp [k3, q]
  by_cases k4 : r.kind = 4
  · by_cases q : v.kind = 6
    · simp [k4, q]
    · by_cases q4 : v.kind = 4
      · simp [k4, q4]
      · simp [k4, q, q4]
  by_cases k5 : r.kind = 5
  · by_cases q : v.kind = 6
    · simp [k5, q]
    · by_cases q4 : v.kind = 5
      · simp [k5, q4]
      · simp [k5, q, q4]
  by_cases k6 : r.kind = 6
  · by_cases q : v.kind = 6
    · by_cases e : of = r.mp
      · simp [k6, q, e]
      · simp [k6, q, e]
    · simp [k6, q]
  by_cases k7 : r.kind = 7
  · by_cases q : v.kind = 6
    · by_cases z : base = 0
      · simp [k7, q, z]
      · by_cases e : of = r.mp
        · simp [k7, q, z, e]
        · simp [k7, q, z, e]
    · by_cases z : base = 0
      · by_cases q1 : v.kind = 1
        · simp [k7, q1, z]
        · simp [k7, q, q1, z]
      · simp [k7, q, z]
  by_cases k8 : r.kind = 8
  · by_cases q : v.kind = 6
    · simp [k8, q]
    · by_cases q7 : v.kind = 7
      · simp [k8, q7]
      · simp [k8, q, q7]
  · by_cases q : v.kind = 6
    · simp [k0, k1, k2, k3, k4, k5, k6, k7, k8, q]
    · simp [k0, k1, k2, k3, k4, k5, k6, k7, k8, q]
/-! ### What a move makes -/
def isPlace (k : Int) : Prop := k = 2 ∨ k = 4 ∨ k = 5 ∨ k = 6
theorem place_iff (r : AR) : kinds_place r = true ↔ isPlace r.kind := by
  unfold kinds_place isPlace
  split
  · rename_i h; simp [h]
  · split
    · rename_i h; simp [h]
    · split
      · rename_i h; simp [h]
      · rename_i h2 h4 h5; simp [h2, h4, h5]
def stepOf (n : Sc) (sub : Bool) : Int := if sub = true then IntKind.i64.wrap (0 - IntKind.i64.wrap (scalar_Is n).1) else IntKind.i64.wrap (scalar_Is n).1
def MovedP (a : AR) (n : Sc) (sub : Bool) (fresh : Int) (r : AR × Int) : Prop := r.2 = 0 → isPlace a.kind ∧
  (((scalar_Is n).2 = true ∧ r.1 = ⟨a.kind, a.num, IntKind.i64.wrap (a.off + stepOf n sub), a.id, a.rng, a.mp⟩ ∧ kinds_within (IntKind.i64.wrap (scalar_Is n).1) 1048576 = true ∧ kinds_within (IntKind.i64.wrap (a.off + stepOf n sub)) 1048576 = true) ∨
   (sub = false ∧ a.kind = 2 ∧ r.1 = ⟨a.kind, scalar_Alu 0 true a.num n, a.off, fresh, 0, a.mp⟩) ∨
   (sub = false ∧ a.kind = 6 ∧ r.1 = ⟨a.kind, scalar_Alu 0 true a.num n, a.off, a.id, a.rng, a.mp⟩))
theorem moved_form (a : AR) (n : Sc) (sub : Bool) (fresh : Int) : MovedP a n sub fresh (kinds_moved a n sub fresh) := by
  unfold kinds_moved
  repeat' (refine ite_of (P := MovedP a n sub fresh) (fun _ => ?_) (fun _ => ?_))
  all_goals
    intro h
    first
      | (exfalso; exact absurd h (by decide))
      | refine ⟨(place_iff a).1 (by assumption), ?_⟩
  · rename_i h1 h2 h3 h4 h5 h6
    refine Or.inl ⟨h3, ?_, h4, ?_⟩
    · unfold stepOf; rw [if_pos h5]
    · unfold stepOf; rw [if_pos h5]; exact h6
  · rename_i h1 h2 h3 h4 h5 h6
    refine Or.inl ⟨h3, ?_, h4, ?_⟩
    · unfold stepOf; rw [if_neg h5]
    · unfold stepOf; rw [if_neg h5]; exact h6
  · rename_i h1 h2 h3 h4 h5 h6 h7
    exact Or.inr (Or.inl ⟨by simpa using h4, h5, rfl⟩)
  · rename_i h1 h2 h3 h4 h5 h6 h7 h8
    exact Or.inr (Or.inr ⟨by simpa using h4, h6, rfl⟩)
/-! ### What Alu makes -/
def nm0 : AR := kinds_Num (scalar_Of 0)
def arg1 (a : Int) (c : AR) : AR := if a = 11 then nm0 else c
def arg2 (a : Int) (d : AR) : AR := if a = 8 then nm0 else d
def KAluP (a : Int) (b : Bool) (c d : AR) (X1 X2 : AR × Int) (r : AR × Int) : Prop := r.2 = 0 → (0 ≤ a ∧ a ≤ 12) ∧
  (((arg1 a c).kind = 1 ∧ (arg2 a d).kind = 1 ∧ r.1 = kinds_Num (scalar_Alu a b (arg1 a c).num (arg2 a d).num)) ∨
   (b = true ∧ a = 11 ∧ d.kind ≠ 0 ∧ d.kind ≠ 1 ∧ r.1 = d) ∨
   (b = true ∧ (a = 0 ∨ a = 1) ∧ d.kind = 1 ∧ c.kind ≠ 0 ∧ c.kind ≠ 1 ∧ r = (X1.1, X1.2)) ∨
   (b = true ∧ a = 0 ∧ c.kind = 1 ∧ d.kind ≠ 0 ∧ d.kind ≠ 1 ∧ r = (X2.1, X2.2)))
theorem nk : nm0.kind = 1 := rfl
theorem Alu_form (a : Int) (b : Bool) (c d : AR) (fresh : Int) : KAluP a b c d (kinds_moved c d.num (a == 1) fresh) (kinds_moved d c.num false fresh) (kinds_Alu a b c d fresh) := by
  unfold kinds_Alu
  have e0 : kinds_Num (scalar_Of 0) = nm0 := rfl
  have hk := nk
  rw [e0]
  generalize kinds_moved c d.num (a == 1) fresh = X1
  generalize kinds_moved d c.num false fresh = X2
  generalize kinds_moved nm0 c.num false fresh = X3
  generalize kinds_moved c nm0.num (a == 1) fresh = X4
  repeat' (refine ite_of (P := KAluP a b c d X1 X2) (fun _ => ?_) (fun _ => ?_))
  all_goals
    intro h
    first
      | (exfalso; exact absurd h (by decide))
      | (exfalso; omega)
      | refine ⟨by omega, ?_⟩
  all_goals
    unfold arg1 arg2
    first
      | exact Or.inr (Or.inl ⟨by assumption, by assumption, by assumption, by assumption, rfl⟩)
      | exact Or.inr (Or.inr (Or.inl ⟨by assumption, by omega, by assumption, by assumption, by assumption, rfl⟩))
      | exact Or.inr (Or.inr (Or.inr ⟨by assumption, by assumption, by assumption, by assumption, by assumption, rfl⟩))
      | (refine Or.inl ?_; (repeat' split) <;> first | (exfalso; omega) | exact ⟨by first | assumption | rfl, by first | assumption | rfl, rfl⟩)
/-! ### What Alu of values makes -/
theorem side1 {v : Vl} (h : v.kind = 1) : value_side v = 1 := by unfold value_side; rw [if_pos h]
theorem side2 {v : Vl} (h : isPlace v.kind) : value_side v = 2 := by
  unfold isPlace at h
  have hp : value_Places v = true := by
    unfold value_Places
    split
    · rfl
    · split
      · rfl
      · split
        · rfl
        · rw [beq_iff_eq]; omega
  unfold value_side
  rw [if_neg (by omega), if_pos hp]
def v1 (a : Int) (e : Vl) : Vl := if a = 11 then value_Num 0 else e
def v2 (a : Int) (g : Vl) : Vl := if a = 8 then value_Num 0 else g
theorem vAlu_num {a : Int} {b : Bool} {e g : Vl} (ha : 0 ≤ a ∧ a ≤ 12) (he : (v1 a e).kind = 1) (hg : (v2 a g).kind = 1) : value_Alu a b e g = (value_Num (word_Alu a b (v1 a e).n (v2 a g).n).1, 0) := by
  have s1 := side1 he
  have s2 := side1 hg
  have c11 : ((1 : Int) == 1 && (1 : Int) == 1) = true := rfl
  by_cases h8 : a = 8
  · have q1 : v1 a e = e := by unfold v1; rw [if_neg (by omega)]
    have q2 : v2 a g = value_Num 0 := by unfold v2; rw [if_pos h8]
    rw [q1] at he s1 ⊢
    rw [q2] at hg s2 ⊢
    unfold value_Alu
    rw [if_pos h8, if_neg (by omega), if_neg (by omega), if_neg (by omega), if_neg (by omega), s1, s2, if_pos c11]
  · by_cases h11 : a = 11
    · have q1 : v1 a e = value_Num 0 := by unfold v1; rw [if_pos h11]
      have q2 : v2 a g = g := by unfold v2; rw [if_neg h8]
      rw [q1] at he s1 ⊢
      rw [q2] at hg s2 ⊢
      unfold value_Alu
      rw [if_neg h8, if_pos h11, if_neg (by omega), if_neg (by omega), if_neg (by omega), if_neg (by omega), s1, s2, if_pos c11]
    · have q1 : v1 a e = e := by unfold v1; rw [if_neg h11]
      have q2 : v2 a g = g := by unfold v2; rw [if_neg h8]
      rw [q1] at he s1 ⊢
      rw [q2] at hg s2 ⊢
      unfold value_Alu
      rw [if_neg h8, if_neg h11, if_neg (by omega), if_neg (by omega), if_neg (by omega), if_neg (by omega), s1, s2, if_pos c11]
theorem vAlu_mov {e g : Vl} (hg : g.kind ≠ 0) : ∃ z, value_Alu 11 true e g = (z, 0) ∧ z.kind = g.kind ∧ (g.kind ≠ 1 → z = g) ∧ z.n = g.n := by
  unfold value_Alu
  rw [if_neg (by decide), if_pos rfl, if_neg (by decide), if_neg (by decide), if_neg (by decide), if_neg hg]
  have s0 : value_side (value_Num 0) = 1 := side1 rfl
  by_cases h1 : g.kind = 1
  · refine ⟨value_Num g.n, ?_, ?_, fun h => absurd h1 h, rfl⟩
    · rw [s0, side1 h1]; rfl
    · exact h1.symm
  · refine ⟨g, ?_, rfl, fun _ => rfl, rfl⟩
    have : ((value_side (value_Num 0) == 1) && (value_side g == 1)) = false := by
      rw [s0]
      have : value_side g ≠ 1 := by
        unfold value_side
        rw [if_neg h1]; split <;> decide
      simp [this]
    rw [this]; rfl
theorem vAlu_left {a : Int} {e g : Vl} (ha : a = 0 ∨ a = 1) (he : isPlace e.kind) (hg : g.kind = 1) : value_Alu a true e g = (value_moved e (if a = 0 then g.n else IntKind.u64.wrap (0 - g.n)), 0) := by
  have s1 := side2 he
  have s2 := side1 hg
  unfold isPlace at he
  unfold value_Alu value_pointers
  rcases ha with rfl | rfl
  · rw [if_neg (by decide), if_neg (by decide), if_neg (by decide), if_neg (by decide), if_neg (by omega), if_neg (by omega), s1, s2]; rfl
  · rw [if_neg (by decide), if_neg (by decide), if_neg (by decide), if_neg (by decide), if_neg (by omega), if_neg (by omega), s1, s2]; rfl
theorem vAlu_right {e g : Vl} (he : e.kind = 1) (hg : isPlace g.kind) : value_Alu 0 true e g = (value_moved g e.n, 0) := by
  have s1 := side1 he
  have s2 := side2 hg
  unfold isPlace at hg
  unfold value_Alu value_pointers
  rw [if_neg (by decide), if_neg (by decide), if_neg (by decide), if_neg (by decide), if_neg (by omega), if_neg (by omega), s1, s2]; rfl
/-! ### KindsSound -/
def baseOf (r : AR) (fresh base : Int) (e g : Vl) : Int :=
  if r.kind = 2 ∧ r.id = fresh then (if e.kind = 1 then IntKind.u64.wrap (base + e.n) else IntKind.u64.wrap (base + g.n)) else base
theorem Num_kind (x : Sc) : (kinds_Num x).kind = 1 := rfl
theorem HK_place {r : AR} {v : Vl} {len base of : Int} (hp : isPlace r.kind) (h : HK r v len base of) :
  (r.kind = 2 ∧ v.kind = 2 ∧ IntKind.u64.wrap (v.n - IntKind.u64.wrap r.off) = base ∧ scalar_In r.num base = true ∧ (r.rng ≤ 0 ∨ (r.rng ≤ len ∧ base ≤ IntKind.u64.wrap (IntKind.i64.wrap (len - r.rng))))) ∨
  (r.kind = 4 ∧ v.kind = 4 ∧ IntKind.u64.wrap (v.n - IntKind.u64.wrap r.off) = 0) ∨
  (r.kind = 5 ∧ v.kind = 5 ∧ IntKind.u64.wrap (v.n - IntKind.u64.wrap r.off) = 0) ∨
  (r.kind = 6 ∧ v.kind = 6 ∧ of = r.mp ∧ scalar_In r.num (IntKind.u64.wrap (v.n - IntKind.u64.wrap r.off)) = true) := by
  unfold HK at h
  unfold isPlace at hp
  rcases h with h | ⟨h, _⟩ | h | ⟨h, _⟩ | h | h | h | ⟨h, _⟩ | ⟨h, _⟩
  · omega
  · omega
  · exact Or.inl h
  · omega
  · exact Or.inr (Or.inl h)
  · exact Or.inr (Or.inr (Or.inl h))
  · exact Or.inr (Or.inr (Or.inr h))
  · omega
  · omega
/-- A place that is moved by a number of what is known of it holds behind. -/
theorem moved_sound {p : AR} {n : Sc} {sub : Bool} {fresh len base of : Int} {x : Vl} {y : Int} {r : AR} (hp : VSc p.num) (hn : VSc n) (ho : -1048576 ≤ p.off ∧ p.off ≤ 1048576) (hx : W64 x.n) (hy : W64 y) (hb : W64 base)
    (hH : HK p x len base of) (hi : Inx n y) (hf : fresh ≠ p.id) (hr : kinds_moved p n sub fresh = (r, 0)) :
    isPlace p.kind ∧ x.kind = p.kind ∧ HK r (value_moved x (if sub = true then IntKind.u64.wrap (0 - y) else y)) len (if r.kind = 2 ∧ r.id = fresh then IntKind.u64.wrap (base + y) else base) of := by
  have hm := moved_form p n sub fresh
  rw [hr] at hm
  obtain ⟨hpl, hc⟩ := hm rfl
  have hkx : x.kind = p.kind := by
    unfold HK at hH
    unfold isPlace at hpl
    omega
  refine ⟨hpl, hkx, ?_⟩
  rcases hc with ⟨h1, h2, h3, h4⟩ | ⟨h1, h2, h3⟩ | ⟨h1, h2, h3⟩
  · have hv := Is_sound hn hy hi h1
    rw [hv] at h3
    have hb3 : -1048576 ≤ IntKind.i64.wrap y ∧ IntKind.i64.wrap y ≤ 1048576 := by
      unfold kinds_within at h3
      split at h3
      · rename_i h; rw [wrap_i64_id (by decide) (by decide)] at h
        have := of_decide_eq_true h3; omega
      · cases h3
    have e1 : IntKind.u64.wrap (IntKind.u64.wrap (x.n + (if sub = true then IntKind.u64.wrap (0 - y) else y)) - IntKind.u64.wrap (IntKind.i64.wrap (p.off + stepOf n sub))) = IntKind.u64.wrap (x.n - IntKind.u64.wrap p.off) := by
      unfold stepOf
      rw [hv]
      unfold W64 at hy hx
      cases sub
      · simp only [Bool.false_eq_true, if_false]
        rw [wrap_i64_id (x := p.off + _) (by omega) (by omega)]
        simp only [wrap_u64]
        rw [wrap_i64] at *
        split at hb3 <;> omega
      · simp only [if_true]
        rw [wrap_i64_id (x := 0 - _) (by omega) (by omega), wrap_i64_id (x := p.off + _) (by omega) (by omega)]
        simp only [wrap_u64]
        rw [wrap_i64] at *
        split at hb3 <;> omega
    have hr1 : r.kind = p.kind := by rw [show r = _ from h2]
    have hnf : ¬ (r.kind = 2 ∧ r.id = fresh) := by
      rw [show r = _ from h2]
      intro h; exact hf h.2.symm
    rw [if_neg hnf]
    have e2 : ∀ q : AR, q = ⟨p.kind, p.num, IntKind.i64.wrap (p.off + stepOf n sub), p.id, p.rng, p.mp⟩ → HK q (value_moved x (if sub = true then IntKind.u64.wrap (0 - y) else y)) len base of := fun q hq => by
      subst hq
      have hP := HK_place hpl hH
      unfold HK value_moved
      simp only [e1]
      rcases hP with h | h | h | h
      · exact Or.inr (Or.inr (Or.inl h))
      · exact Or.inr (Or.inr (Or.inr (Or.inr (Or.inl h))))
      · exact Or.inr (Or.inr (Or.inr (Or.inr (Or.inr (Or.inl h)))))
      · exact Or.inr (Or.inr (Or.inr (Or.inr (Or.inr (Or.inr (Or.inl h))))))
    exact e2 r h2
  · have hr2 : r = _ := h3
    subst h1
    have hrk : r.kind = 2 ∧ r.id = fresh := by rw [hr2]; exact ⟨h2, rfl⟩
    rw [if_pos hrk]
    unfold HK at hH
    have hH2 : x.kind = 2 ∧ IntKind.u64.wrap (x.n - IntKind.u64.wrap p.off) = base ∧ scalar_In p.num base = true := by
      rcases hH with h | ⟨h, _⟩ | ⟨_, h, h', h'', _⟩ | ⟨h, _⟩ | ⟨h, _⟩ | ⟨h, _⟩ | ⟨h, _⟩ | ⟨h, _⟩ | ⟨h, _⟩
      · omega
      · omega
      · exact ⟨h, h', h''⟩
      all_goals omega
    obtain ⟨g1, g2, g3⟩ := hH2
    have hin := Alu_in (k := 0) (b := true) (.inl rfl) hp hn hb hy (In_iff.1 g3) hi
    have hw : (word_Alu 0 true base y).1 = IntKind.u64.wrap (base + y) := rfl
    rw [hw] at hin
    rw [hr2]
    unfold HK value_moved
    simp only [Bool.false_eq_true, if_false]
    refine Or.inr (Or.inr (Or.inl ⟨h2, g1, ?_, In_iff.2 hin, Or.inl (Int.le_refl _)⟩))
    unfold W64 at *
    simp only [wrap_u64] at *
    omega
  · have hr2 : r = _ := h3
    subst h1
    have hrk : ¬ (r.kind = 2 ∧ r.id = fresh) := by
      rw [hr2]; intro h; have := h.1; dsimp only at this; omega
    rw [if_neg hrk]
    unfold HK at hH
    have hH2 : x.kind = 6 ∧ of = p.mp ∧ scalar_In p.num (IntKind.u64.wrap (x.n - IntKind.u64.wrap p.off)) = true := by
      rcases hH with h | ⟨h, _⟩ | ⟨h, _⟩ | ⟨h, _⟩ | ⟨h, _⟩ | ⟨h, _⟩ | ⟨_, h, h', h''⟩ | ⟨h, _⟩ | ⟨h, _⟩
      all_goals first
        | exact ⟨h, h', h''⟩
        | omega
    obtain ⟨g1, g2, g3⟩ := hH2
    have hin := Alu_in (k := 0) (b := true) (.inl rfl) hp hn ⟨wrapu_nn, wrapu_lt⟩ hy (In_iff.1 g3) hi
    have hw : (word_Alu 0 true (IntKind.u64.wrap (x.n - IntKind.u64.wrap p.off)) y).1 = IntKind.u64.wrap ((IntKind.u64.wrap (x.n - IntKind.u64.wrap p.off)) + y) := rfl
    rw [hw] at hin
    have e1 : IntKind.u64.wrap (IntKind.u64.wrap (x.n + y) - IntKind.u64.wrap p.off) = IntKind.u64.wrap ((IntKind.u64.wrap (x.n - IntKind.u64.wrap p.off)) + y) := by
      simp only [wrap_u64]; omega
    rw [hr2]
    unfold HK value_moved
    simp only [Bool.false_eq_true, if_false, e1]
    exact Or.inr (Or.inr (Or.inr (Or.inr (Or.inr (Or.inr (Or.inl ⟨h2, g1, g2, In_iff.2 hin⟩))))))
theorem isOp_of {a : Int} (h : 0 ≤ a ∧ a ≤ 12) : isOp a := by unfold isOp; omega
theorem Sound_core {a : Int} {b : Bool} {c d : AR} {e g : Vl} {len base of fresh : Int} (hc : VSc c.num) (hd : VSc d.num) (he : W64 e.n) (hg : W64 g.n) (hb : W64 base) (rc : lockgatelaw18_Right c = true) (rd : lockgatelaw18_Right d = true)
    (Hc : kinds_Holds c e len base of = true) (Hd : kinds_Holds d g len base of = true) (f1 : fresh ≠ c.id) (f2 : fresh ≠ d.id) (h : (kinds_Alu a b c d fresh).2 = 0) :
    (value_Alu a b e g).2 = 0 ∧ kinds_Holds (kinds_Alu a b c d fresh).1 (value_Alu a b e g).1 len (baseOf (kinds_Alu a b c d fresh).1 fresh base e g) of = true := by
  rw [Holds_iff] at Hc Hd ⊢
  have pc := Right_props rc
  have pd := Right_props rd
  have hf := Alu_form a b c d fresh
  generalize kinds_Alu a b c d fresh = R at *
  obtain ⟨ha, hcase⟩ := hf h
  rcases hcase with ⟨k1, k2, hr⟩ | ⟨hb', h11, n0, n1, hr⟩ | ⟨hb', h01, k, n0, n1, hr⟩ | ⟨hb', h0, k, n0, n1, hr⟩
  · have z : W64 0 := by unfold W64; omega
    have q1 : (v1 a e).kind = 1 ∧ W64 (v1 a e).n ∧ VSc (arg1 a c).num ∧ Inx (arg1 a c).num (v1 a e).n := by
      unfold v1
      unfold arg1 at *
      split
      · exact ⟨rfl, z, Of_V z, Of_in z⟩
      · rename_i hn
        rw [if_neg hn] at k1
        unfold HK at Hc
        have : e.kind = 1 ∧ scalar_In c.num e.n = true := by
          rcases Hc with h | ⟨_, h, h'⟩ | ⟨h, _⟩ | ⟨h, _⟩ | ⟨h, _⟩ | ⟨h, _⟩ | ⟨h, _⟩ | ⟨h, _⟩ | ⟨h, _⟩
          all_goals first
            | exact ⟨h, h'⟩
            | omega
        exact ⟨this.1, he, hc, In_iff.1 this.2⟩
    have q2 : (v2 a g).kind = 1 ∧ W64 (v2 a g).n ∧ VSc (arg2 a d).num ∧ Inx (arg2 a d).num (v2 a g).n := by
      unfold v2
      unfold arg2 at *
      split
      · exact ⟨rfl, z, Of_V z, Of_in z⟩
      · rename_i hn
        rw [if_neg hn] at k2
        unfold HK at Hd
        have : g.kind = 1 ∧ scalar_In d.num g.n = true := by
          rcases Hd with h | ⟨_, h, h'⟩ | ⟨h, _⟩ | ⟨h, _⟩ | ⟨h, _⟩ | ⟨h, _⟩ | ⟨h, _⟩ | ⟨h, _⟩ | ⟨h, _⟩
          all_goals first
            | exact ⟨h, h'⟩
            | omega
        exact ⟨this.1, hg, hd, In_iff.1 this.2⟩
    rw [vAlu_num ha q1.1 q2.1]
    refine ⟨rfl, ?_⟩
    have hin := Alu_in (k := a) (b := b) (isOp_of ha) q1.2.2.1 q2.2.2.1 q1.2.1 q2.2.1 q1.2.2.2 q2.2.2.2
    rw [show R.1 = _ from hr]
    exact Or.inr (Or.inl ⟨rfl, rfl, In_iff.2 hin⟩)
  · subst h11
    subst hb'
    have hgk : g.kind ≠ 0 := by
      unfold HK at Hd
      omega
    obtain ⟨y, hy, y1, y2, y3⟩ := vAlu_mov (e := e) hgk
    rw [hy]
    refine ⟨rfl, ?_⟩
    have hbase : baseOf R.1 fresh base e g = base := by
      unfold baseOf
      rw [show R.1 = _ from hr, if_neg (fun h => f2 h.2.symm)]
    rw [hbase, show R.1 = _ from hr]
    by_cases g1 : g.kind = 1
    · unfold HK at Hd ⊢
      rw [show ((y, (0 : Int)).1) = y from rfl, y1, y3]
      rcases Hd with h | h | h | h | h | h | h | h | ⟨h, h', _⟩
      · exact Or.inl h
      · exact Or.inr (Or.inl h)
      · exact Or.inr (Or.inr (Or.inl h))
      · exact Or.inr (Or.inr (Or.inr (Or.inl h)))
      · exact Or.inr (Or.inr (Or.inr (Or.inr (Or.inl h))))
      · exact Or.inr (Or.inr (Or.inr (Or.inr (Or.inr (Or.inl h)))))
      · exact Or.inr (Or.inr (Or.inr (Or.inr (Or.inr (Or.inr (Or.inl h))))))
      · exact Or.inr (Or.inr (Or.inr (Or.inr (Or.inr (Or.inr (Or.inr (Or.inl h)))))))
      · omega
    · rw [show ((y, (0 : Int)).1) = y from rfl, y2 g1]; exact Hd
  · subst hb'
    have hgk : g.kind = 1 ∧ scalar_In d.num g.n = true := by
      unfold HK at Hd
      rcases Hd with h | ⟨_, h, h'⟩ | ⟨h, _⟩ | ⟨h, _⟩ | ⟨h, _⟩ | ⟨h, _⟩ | ⟨h, _⟩ | ⟨h, _⟩ | ⟨h, _⟩
      all_goals first
        | exact ⟨h, h'⟩
        | omega
    have hm : kinds_moved c d.num (a == 1) fresh = (R.1, 0) := by
      rw [hr] at h ⊢
      exact Prod.ext rfl h
    have ms := moved_sound hc hd pc.2.1 he hg hb Hc (In_iff.1 hgk.2) f1 hm
    have hpl : isPlace e.kind := by rw [ms.2.1]; exact ms.1
    rw [vAlu_left h01 hpl hgk.1]
    refine ⟨rfl, ?_⟩
    have e1 : (if (a == 1) = true then IntKind.u64.wrap (0 - g.n) else g.n) = (if a = 0 then g.n else IntKind.u64.wrap (0 - g.n)) := by
      rcases h01 with rfl | rfl <;> rfl
    have e2 : baseOf R.1 fresh base e g = (if R.1.kind = 2 ∧ R.1.id = fresh then IntKind.u64.wrap (base + g.n) else base) := by
      unfold baseOf
      have : ¬ e.kind = 1 := by unfold isPlace at hpl; omega
      rw [if_neg this]
    rw [e2, ← e1]
    exact ms.2.2
  · subst hb'
    subst h0
    have hgk : e.kind = 1 ∧ scalar_In c.num e.n = true := by
      unfold HK at Hc
      rcases Hc with h | ⟨_, h, h'⟩ | ⟨h, _⟩ | ⟨h, _⟩ | ⟨h, _⟩ | ⟨h, _⟩ | ⟨h, _⟩ | ⟨h, _⟩ | ⟨h, _⟩
      all_goals first
        | exact ⟨h, h'⟩
        | omega
    have hm : kinds_moved d c.num false fresh = (R.1, 0) := by
      rw [hr] at h ⊢
      exact Prod.ext rfl h
    have ms := moved_sound hd hc pd.2.1 hg he hb Hd (In_iff.1 hgk.2) f2 hm
    have hpl : isPlace g.kind := by rw [ms.2.1]; exact ms.1
    rw [vAlu_right hgk.1 hpl]
    refine ⟨rfl, ?_⟩
    have e2 : baseOf R.1 fresh base e g = (if R.1.kind = 2 ∧ R.1.id = fresh then IntKind.u64.wrap (base + e.n) else base) := by
      unfold baseOf
      rw [if_pos hgk.1]
    rw [e2]
    exact ms.2.2
abbrev TB (x : Bool) : Prop := x = true
theorem KindsSound_ok {a : Int} {b : Bool} {c d : AR} {e g : Vl} {i j k : Int} (hc : VSc c.num) (hd : VSc d.num) (he : W64 e.n) (hg : W64 g.n) (hj : W64 j) : lockgatelaw18_KindsSound a b c d e g i j k = true := by
  have core := fun (f : Int) (rc : lockgatelaw18_Right c = true) (rd : lockgatelaw18_Right d = true) (Hc : kinds_Holds c e i j k = true) (Hd : kinds_Holds d g i j k = true) (f1 : f ≠ c.id) (f2 : f ≠ d.id) (h : (kinds_Alu a b c d f).2 = 0) => Sound_core hc hd he hg hj rc rd Hc Hd f1 f2 h
  unfold lockgatelaw18_KindsSound
  rw [works_ok]
  refine ite_of (P := TB) (fun rc => ?_) (fun _ => rfl)
  refine ite_of (P := TB) (fun rd => ?_) (fun _ => rfl)
  refine ite_of (P := TB) (fun _ => rfl) (fun _ => ?_)
  refine ite_of (P := TB) (fun _ => rfl) (fun _ => ?_)
  refine ite_of (P := TB) (fun Hc => ?_) (fun _ => rfl)
  refine ite_of (P := TB) (fun Hd => ?_) (fun _ => rfl)
  repeat' (refine ite_of (P := TB) (fun _ => ?_) (fun _ => ?_))
  all_goals first
    | rfl
    | (exfalso
       first
         | (have q := core 0 rc rd Hc Hd (by omega) (by omega) (by assumption); unfold baseOf at q; simp_all; done)
         | (have q := core 1 rc rd Hc Hd (by omega) (by omega) (by assumption); unfold baseOf at q; simp_all; done)
         | (have q := core 2 rc rd Hc Hd (by omega) (by omega) (by assumption); unfold baseOf at q; simp_all; done))
end Go.Proofs.T
