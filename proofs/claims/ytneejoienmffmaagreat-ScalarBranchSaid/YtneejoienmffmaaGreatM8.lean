/-
  Plain laws: what operations of scalars make has what the operations of their numbers make.
-/
import Derived.Test.YtneejoienmffmaaGreatM7
set_option linter.unusedVariables false
set_option maxRecDepth 100000
namespace Go.Proofs.T
open Go Go.Proofs Go.Proofs.SX
def MayP (x : Sc) : Prop := Go.bits .and .u64 x.t.v x.t.m = 0 ∧ x.u.lo ≤ x.u.hi ∧ x.s.lo ≤ x.s.hi
theorem UIn_iff {u : Us} {v : Int} : span_UIn u v = true ↔ inU u v := by
  unfold span_UIn span_between_uint64 inU
  split
  · rename_i h; simp [h]
  · rename_i h; simp [h]
theorem SIn_iff {u : Ss} {v : Int} : span_SIn u v = true ↔ inS u v := by
  unfold span_SIn span_between_int64 inS
  split
  · rename_i h; simp [h]
  · rename_i h; simp [h]
theorem In_iff {x : Sc} {v : Int} : scalar_In x v = true ↔ Inx x v := by
  unfold scalar_In Inx
  rw [← UIn_iff, ← SIn_iff]
  by_cases h1 : tnum_In x.t v = true
  · rw [if_pos h1]
    by_cases h2 : span_UIn x.u v = true
    · rw [if_pos h2]; simp [h1, h2]
    · rw [if_neg h2]; simp [h2]
  · rw [if_neg h1]; simp [h1]
theorem wrapu_wraps {v : Int} (h : W64 v) : IntKind.u64.wrap (IntKind.i64.wrap v) = v := by
  simp only [wrap_u64, wrap_i64]; split <;> omega
theorem in_known {t : Tn} {v : Int} (ht : VTn t) (hv : W64 v) (hm : t.m = 0) (h : tnum_In t v = true) : t.v = v := by
  obtain ⟨a, m, rfl⟩ := tb_of ht
  obtain ⟨v, rfl⟩ := exists_bv hv.1 hv.2
  rw [in_tb] at h
  have : m = 0#64 := by
    rw [tb_m, zero_bv] at hm; exact toNat_inj_int.1 hm
  subst this
  unfold TT.In at h
  have e : ~~~0#64 = BitVec.allOnes 64 := by decide
  rw [e, BitVec.and_allOnes] at h
  rw [tb_v, toNat_inj_int, h]
theorem Is_sound {x : Sc} {v : Int} (h : VSc x) (hv : W64 v) (hi : Inx x v) (h2 : (scalar_Is x).2 = true) : (scalar_Is x).1 = v := by
  obtain ⟨it, iu, is⟩ := hi
  unfold inU at iu
  unfold inS at is
  unfold scalar_Is at *
  split
  · show x.u.lo = v; omega
  · rename_i n1
    split
    · rename_i hm
      exact in_known h.1 hv hm it
    · rename_i n2
      split
      · show IntKind.u64.wrap x.s.lo = v
        have : IntKind.i64.wrap v = x.s.lo := by omega
        rw [← this, wrapu_wraps hv]
      · rename_i n3
        rw [if_neg n1, if_neg n2, if_neg n3] at h2
        cases h2
theorem Of_in {n : Int} (h : W64 n) : Inx (scalar_Of n) n := by
  obtain ⟨b, rfl⟩ := exists_bv h.1 h.2
  refine ⟨?_, ⟨Int.le_refl _, Int.le_refl _⟩, Int.le_refl _, Int.le_refl _⟩
  show tnum_In (tnum_Of (b.toNat : Int)) _ = true
  rw [Of_tb, in_tb]; exact TT.in_of b
theorem Of_may (n : Int) : MayP (scalar_Of n) := by
  refine ⟨?_, Int.le_refl _, Int.le_refl _⟩
  show Go.bits .and .u64 n 0 = 0
  unfold Go.bits
  show IntKind.u64.wrap (((BitVec.ofInt 64 n) &&& (BitVec.ofInt 64 0)).toNat : Int) = 0
  have : (BitVec.ofInt 64 0) = 0#64 := rfl
  rw [this, BitVec.and_zero]; rfl
theorem Of_V {n : Int} (h : W64 n) : VSc (scalar_Of n) := by
  have := wraps_in (x := n)
  refine ⟨⟨h, ?_⟩, ⟨h, h⟩, this, this⟩
  show W64 0
  decide
theorem Any_V : VSc scalar_Any := by decide
theorem Any_may : MayP scalar_Any := by
  unfold MayP; decide
theorem Any_in {v : Int} (h : W64 v) : Inx scalar_Any v := by
  obtain ⟨b, rfl⟩ := exists_bv h.1 h.2
  refine ⟨?_, UAll_in h, SAll_in _⟩
  show tnum_In tnum_Any _ = true
  have e : tnum_Any = tb 0#64 (BitVec.allOnes 64) := rfl
  rw [e, in_tb]; exact TT.in_any b
/-! ### settle -/
theorem settle_in {x : Sc} {v : Int} (h : VSc x) (hv : W64 v) (hi : Inx x v) : Inx (scalar_settle x true) v := by
  have hn := Norm_sound h hv.1 hv.2 hi
  unfold scalar_settle
  rw [if_pos rfl, if_pos hn.1]; exact hn.2
theorem Cut_in {t : Tn} {v : Int} (ht : VTn t) (hv : W64 v) (hi : tnum_In t v = true) : tnum_In (tnum_Cut t 4) (v % 4294967296) = true := by
  obtain ⟨a, m, rfl⟩ := tb_of ht
  obtain ⟨v, rfl⟩ := exists_bv hv.1 hv.2
  rw [Cut4_tb, ← low32, in_tb]
  exact in64 (in32 (in_tb.1 hi))
theorem cut_V {x : Sc} (h : VSc x) : VSc ⟨tnum_Cut x.t 4, span_UCut x.u, span_SAll⟩ := ⟨Cut_V h.1 4, UCut_V, by show VSs span_SAll; decide⟩
theorem settle_in32 {x : Sc} {v : Int} (h : VSc x) (hv : W64 v) (ht : tnum_In x.t v = true) (hu : inU x.u v) : Inx (scalar_settle x false) (v % 4294967296) := by
  have hi : Inx ⟨tnum_Cut x.t 4, span_UCut x.u, span_SAll⟩ (v % 4294967296) := ⟨Cut_in h.1 hv ht, UCut_sound h.2.1 hu, SAll_in _⟩
  have hn := Norm_sound (cut_V h) (by omega) (by omega) hi
  unfold scalar_settle
  rw [if_neg (by decide), if_pos hn.1]; exact hn.2
theorem Meet_may {a b : Tn} (ha : VTn a) (hb : VTn b) : Go.bits .and .u64 (tnum_Meet a b).1.v (tnum_Meet a b).1.m = 0 := by
  obtain ⟨v, m, rfl⟩ := tb_of ha
  obtain ⟨v', m', rfl⟩ := tb_of hb
  rw [Meet_tb]
  split
  · show Go.bits .and .u64 (BitVec.toNat _ : Int) (BitVec.toNat _ : Int) = 0
    rw [and_u64, BitVec.and_assoc]
    have : ~~~(m &&& m') &&& (m &&& m') = 0#64 := by
      rw [BitVec.and_comm]; simp
    rw [this, BitVec.and_zero]; rfl
  · decide
theorem once_may {x : Sc} (h : VSc x) (h2 : (once x).2 = true) : MayP (once x).1 := by
  unfold once at h2 ⊢
  by_cases a1 : (nU1 x).2 = true
  · rw [if_pos a1] at h2 ⊢
    by_cases a2 : (nU2 x).2 = true
    · rw [if_pos a2] at h2 ⊢
      by_cases a3 : (nS1 x).2 = true
      · rw [if_pos a3] at h2 ⊢
        by_cases a4 : (nS2 x).2 = true
        · rw [if_pos a4] at h2 ⊢
          by_cases a5 : (nT x).2 = true
          · rw [if_pos a5] at h2 ⊢
            exact ⟨Meet_may h.1 (ToT_V (nU2_V h)), (UMeet_sub a2).1, (SMeet_sub a4).1⟩
          · rw [if_neg a5] at h2; cases h2
        · rw [if_neg a4] at h2; cases h2
      · rw [if_neg a3] at h2; cases h2
    · rw [if_neg a2] at h2; cases h2
  · rw [if_neg a1] at h2; cases h2
theorem Norm_may {x : Sc} (h : VSc x) (h2 : (scalar_Norm x).2 = true) : MayP (scalar_Norm x).1 := by
  rw [Norm_eq] at h2 ⊢
  by_cases a1 : (once x).2 = true
  · rw [if_pos a1] at h2 ⊢
    exact once_may (once_V h) h2
  · rw [if_neg a1] at h2; cases h2
theorem settle_may {x : Sc} {w : Bool} (h : VSc x) : MayP (scalar_settle x w) := by
  unfold scalar_settle
  have h8 : MayP (scalar_Upto 8) := by unfold MayP; decide
  have h4 : MayP (scalar_Upto 4) := by unfold MayP; decide
  split
  · split
    · rename_i hn; exact Norm_may h hn
    · exact h8
  · split
    · rename_i hn; exact Norm_may (cut_V h) hn
    · exact h4
/-! ### Within -/
theorem Within_iff {x y : Sc} : scalar_Within x y = true ↔ tnum_Within x.t y.t = true ∧ (y.u.lo ≤ x.u.lo ∧ x.u.hi ≤ y.u.hi) ∧ (y.s.lo ≤ x.s.lo ∧ x.s.hi ≤ y.s.hi) := by
  unfold scalar_Within span_UWithin span_SWithin
  by_cases h1 : tnum_Within x.t y.t = true
  · rw [if_pos h1]
    simp only [h1, true_and]
    by_cases h2 : y.u.lo ≤ x.u.lo
    · rw [if_pos h2]
      by_cases h3 : x.u.hi ≤ y.u.hi
      · simp only [h2, h3, decide_true, if_true, true_and]
        by_cases h4 : y.s.lo ≤ x.s.lo
        · simp [h4]
        · simp [h4]
      · simp [h3]
    · rw [if_neg h2]; simp [h2]
  · rw [if_neg h1]; simp [h1]
theorem TW_iff {v m v' m' : BitVec 64} : tnum_Within (tb v m) (tb v' m') = true ↔ m &&& ~~~m' = 0#64 ∧ v &&& ~~~m' = v' := by
  rw [Within_tb, decide_eq_true_iff]
theorem TW_trans {a b c : Tn} (ha : VTn a) (hb : VTn b) (hc : VTn c) (h1 : tnum_Within a b = true) (h2 : tnum_Within b c = true) : tnum_Within a c = true := by
  obtain ⟨v, m, rfl⟩ := tb_of ha
  obtain ⟨v', m', rfl⟩ := tb_of hb
  obtain ⟨v'', m'', rfl⟩ := tb_of hc
  rw [TW_iff] at *
  obtain ⟨p1, p2⟩ := h1
  obtain ⟨q1, q2⟩ := h2
  have b1 : ∀ i, i < 64 → (m.getLsbD i && !m'.getLsbD i) = false := fun i hi => by
    have := congrArg (·.getLsbD i) p1
    simpa [hi] using this
  have b2 : ∀ i, i < 64 → (m'.getLsbD i && !m''.getLsbD i) = false := fun i hi => by
    have := congrArg (·.getLsbD i) q1
    simpa [hi] using this
  subst p2; subst q2
  constructor
  · apply BitVec.eq_of_getLsbD_eq
    intro i hi
    have := b1 i hi; have := b2 i hi
    simp only [BitVec.getLsbD_and, BitVec.getLsbD_not, hi, decide_true, Bool.true_and, BitVec.getLsbD_zero]
    revert b1 b2
    cases h1 : m.getLsbD i <;> cases h2 : m'.getLsbD i <;> cases h3 : m''.getLsbD i <;> simp_all
  · apply BitVec.eq_of_getLsbD_eq
    intro i hi
    have := b1 i hi; have := b2 i hi
    simp only [BitVec.getLsbD_and, BitVec.getLsbD_not, hi, decide_true, Bool.true_and]
    cases h1 : v.getLsbD i <;> cases h2 : m'.getLsbD i <;> cases h3 : m''.getLsbD i <;> simp_all
theorem TW_refl {a : Tn} (ha : VTn a) (h : Go.bits .and .u64 a.v a.m = 0) : tnum_Within a a = true := by
  obtain ⟨v, m, rfl⟩ := tb_of ha
  rw [tb_v, tb_m, and_u64, zero_bv, toNat_inj_int] at h
  rw [TW_iff]
  constructor
  · simp
  · apply BitVec.eq_of_getLsbD_eq
    intro i hi
    have := congrArg (·.getLsbD i) h
    simp only [BitVec.getLsbD_and, BitVec.getLsbD_zero] at this
    simp only [BitVec.getLsbD_and, BitVec.getLsbD_not, hi, decide_true, Bool.true_and]
    revert this
    cases v.getLsbD i <;> cases m.getLsbD i <;> simp
theorem TW_in {a b : Tn} {v : Int} (ha : VTn a) (hb : VTn b) (hv : W64 v) (h : tnum_Within a b = true) (hi : tnum_In a v = true) : tnum_In b v = true := by
  obtain ⟨t, m, rfl⟩ := tb_of ha
  obtain ⟨t', m', rfl⟩ := tb_of hb
  obtain ⟨v, rfl⟩ := exists_bv hv.1 hv.2
  rw [TW_iff] at h
  rw [in_tb] at *
  obtain ⟨p1, p2⟩ := h
  subst p2
  apply TT.in_of_bits
  intro i hi'
  have b := hi.bit hi'
  have b1 : (m.getLsbD i && !m'.getLsbD i) = false := by
    have := congrArg (·.getLsbD i) p1
    simpa [hi'] using this
  simp only [BitVec.getLsbD_and, BitVec.getLsbD_not, hi', decide_true, Bool.true_and]
  revert b b1
  cases t.getLsbD i <;> cases m.getLsbD i <;> cases m'.getLsbD i <;> cases v.getLsbD i <;> simp
theorem Within_trans {x y z : Sc} (hx : VSc x) (hy : VSc y) (hz : VSc z) (h1 : scalar_Within x y = true) (h2 : scalar_Within y z = true) : scalar_Within x z = true := by
  rw [Within_iff] at *
  exact ⟨TW_trans hx.1 hy.1 hz.1 h1.1 h2.1, by omega, by omega⟩
theorem Within_refl {x : Sc} (hx : VSc x) (h : MayP x) : scalar_Within x x = true := by
  rw [Within_iff]
  exact ⟨TW_refl hx.1 h.1, ⟨Int.le_refl _, Int.le_refl _⟩, Int.le_refl _, Int.le_refl _⟩
theorem Within_in {x y : Sc} {v : Int} (hx : VSc x) (hy : VSc y) (hv : W64 v) (h : scalar_Within x y = true) (hi : Inx x v) : Inx y v := by
  rw [Within_iff] at h
  obtain ⟨i1, i2, i3⟩ := hi
  unfold inU inS at *
  exact ⟨TW_in hx.1 hy.1 hv h.1 i1, by unfold inU; omega, by unfold inS; omega⟩
theorem Meet_within {a b : Tn} (ha : VTn a) (hb : VTn b) (m1 : Go.bits .and .u64 a.v a.m = 0) (m2 : Go.bits .and .u64 b.v b.m = 0) (h : (tnum_Meet a b).2 = true) : tnum_Within (tnum_Meet a b).1 a = true := by
  obtain ⟨v, m, rfl⟩ := tb_of ha
  obtain ⟨v', m', rfl⟩ := tb_of hb
  rw [tb_v, tb_m, and_u64, zero_bv, toNat_inj_int] at m1 m2
  rw [Meet_tb] at h ⊢
  by_cases hc : (v ^^^ v') &&& ~~~(m ||| m') = 0#64
  · rw [if_pos hc]
    show tnum_Within (tb _ _) (tb v m) = true
    rw [TW_iff]
    constructor
    · apply BitVec.eq_of_getLsbD_eq
      intro i hi
      simp only [BitVec.getLsbD_and, BitVec.getLsbD_not, hi, decide_true, Bool.true_and, BitVec.getLsbD_zero]
      cases m.getLsbD i <;> cases m'.getLsbD i <;> rfl
    · apply BitVec.eq_of_getLsbD_eq
      intro i hi
      have c1 := congrArg (·.getLsbD i) hc
      have c2 := congrArg (·.getLsbD i) m1
      have c3 := congrArg (·.getLsbD i) m2
      simp only [BitVec.getLsbD_and, BitVec.getLsbD_or, BitVec.getLsbD_xor, BitVec.getLsbD_not, hi, decide_true, Bool.true_and, BitVec.getLsbD_zero] at *
      revert c1 c2 c3
      cases v.getLsbD i <;> cases m.getLsbD i <;> cases v'.getLsbD i <;> cases m'.getLsbD i <;> simp
  · rw [if_neg hc] at h; cases h
theorem ToT_may {u : Us} (h : VUs u) : Go.bits .and .u64 (span_ToT u).v (span_ToT u).m = 0 := by
  obtain ⟨a, b, rfl⟩ := VUs_bv h
  rw [ToT_tb, tb_v, tb_m, and_u64, zero_bv, toNat_inj_int, BitVec.and_assoc]
  have : ∀ x : BitVec 64, ~~~x &&& x = 0#64 := fun x => by rw [BitVec.and_comm]; simp
  rw [this, BitVec.and_zero]
theorem once_within {x : Sc} (h : VSc x) (hm : Go.bits .and .u64 x.t.v x.t.m = 0) (h2 : (once x).2 = true) : scalar_Within (once x).1 x = true := by
  unfold once at h2 ⊢
  by_cases a1 : (nU1 x).2 = true
  · rw [if_pos a1] at h2 ⊢
    by_cases a2 : (nU2 x).2 = true
    · rw [if_pos a2] at h2 ⊢
      by_cases a3 : (nS1 x).2 = true
      · rw [if_pos a3] at h2 ⊢
        by_cases a4 : (nS2 x).2 = true
        · rw [if_pos a4] at h2 ⊢
          by_cases a5 : (nT x).2 = true
          · rw [if_pos a5] at h2 ⊢
            rw [Within_iff]
            have u1 := UMeet_sub a1
            have u2 := UMeet_sub a2
            have s1 := SMeet_sub a3
            have s2 := SMeet_sub a4
            refine ⟨Meet_within h.1 (ToT_V (nU2_V h)) hm (ToT_may (nU2_V h)) a5, ⟨?_, ?_⟩, ?_, ?_⟩
            · exact Int.le_trans u1.2.1 u2.2.1
            · exact Int.le_trans u2.2.2.1 u1.2.2.1
            · exact Int.le_trans s1.2.1 s2.2.1
            · exact Int.le_trans s2.2.2.1 s1.2.2.1
          · rw [if_neg a5] at h2; cases h2
        · rw [if_neg a4] at h2; cases h2
      · rw [if_neg a3] at h2; cases h2
    · rw [if_neg a2] at h2; cases h2
  · rw [if_neg a1] at h2; cases h2
theorem Norm_within {x : Sc} (h : VSc x) (hm : Go.bits .and .u64 x.t.v x.t.m = 0) (h2 : (scalar_Norm x).2 = true) : scalar_Within (scalar_Norm x).1 x = true := by
  rw [Norm_eq] at h2 ⊢
  by_cases a1 : (once x).2 = true
  · rw [if_pos a1] at h2 ⊢
    have k := once_may h a1
    exact Within_trans (once_V (once_V h)) (once_V h) h (once_within (once_V h) k.1 h2) (once_within h hm a1)
  · rw [if_neg a1] at h2; cases h2
end Go.Proofs.T
