/-
  Plain laws: what Norm keeps.
-/
import Derived.Test.YtneejoienmffmaaGreatM4
set_option linter.unusedVariables false
set_option maxRecDepth 100000
namespace Go.Proofs.T
open Go Go.Proofs Go.Proofs.SX
def nU1 (x : Sc) := span_UMeet x.u (span_ToU x.s)
def nU2 (x : Sc) := span_UMeet (nU1 x).1 (span_FromT x.t).1
def nS1 (x : Sc) := span_SMeet x.s (span_ToS (nU2 x).1)
def nS2 (x : Sc) := span_SMeet (nS1 x).1 (span_FromT x.t).2
def nT (x : Sc) := tnum_Meet x.t (span_ToT (nU2 x).1)
def sz : Sc := ⟨⟨0, 0⟩, ⟨0, 0⟩, ⟨0, 0⟩⟩
def once (x : Sc) : Sc × Bool :=
  if (nU1 x).2 = true then
    if (nU2 x).2 = true then
      if (nS1 x).2 = true then
        if (nS2 x).2 = true then
          if (nT x).2 = true then (⟨(nT x).1, (nU2 x).1, (nS2 x).1⟩, true) else (sz, false)
        else (sz, false)
      else (sz, false)
    else (sz, false)
  else (sz, false)
theorem Norm_eq (x : Sc) : scalar_Norm x = if (once x).2 = true then once (once x).1 else (sz, false) := by
  unfold scalar_Norm
  by_cases h1 : (nU1 x).2 = true
  · by_cases h2 : (nU2 x).2 = true
    · by_cases h3 : (nS1 x).2 = true
      · by_cases h4 : (nS2 x).2 = true
        · by_cases h5 : (nT x).2 = true
          · have e : once x = (⟨(nT x).1, (nU2 x).1, (nS2 x).1⟩, true) := by
              unfold once; rw [if_pos h1, if_pos h2, if_pos h3, if_pos h4, if_pos h5]
            rw [e]
            refine (if_pos h1).trans ((if_pos h2).trans ((if_pos h3).trans ((if_pos h4).trans ((if_pos h5).trans rfl))))
          · have e : once x = (sz, false) := by
              unfold once; rw [if_pos h1, if_pos h2, if_pos h3, if_pos h4, if_neg h5]
            rw [e]
            show _ = (sz, false)
            refine (if_pos h1).trans ((if_pos h2).trans ((if_pos h3).trans ((if_pos h4).trans ((if_neg h5).trans rfl))))
        · have e : once x = (sz, false) := by
            unfold once; rw [if_pos h1, if_pos h2, if_pos h3, if_neg h4]
          rw [e]
          show _ = (sz, false)
          refine (if_pos h1).trans ((if_pos h2).trans ((if_pos h3).trans ((if_neg h4).trans rfl)))
      · have e : once x = (sz, false) := by
          unfold once; rw [if_pos h1, if_pos h2, if_neg h3]
        rw [e]
        show _ = (sz, false)
        refine (if_pos h1).trans ((if_pos h2).trans ((if_neg h3).trans rfl))
    · have e : once x = (sz, false) := by
        unfold once; rw [if_pos h1, if_neg h2]
      rw [e]
      show _ = (sz, false)
      refine (if_pos h1).trans ((if_neg h2).trans rfl)
  · have e : once x = (sz, false) := by
      unfold once; rw [if_neg h1]
    rw [e]
    show _ = (sz, false)
    refine (if_neg h1).trans rfl
/-! ### What Norm keeps -/
def VSc (x : Sc) : Prop := VTn x.t ∧ VUs x.u ∧ VSs x.s
instance (x : Sc) : Decidable (VSc x) := by unfold VSc; infer_instance
def okSc (x : Sc) : Bool := decide (VSc x)
def okTn (x : Tn) : Bool := decide (VTn x)
theorem okT_of {x : Sc} (h : okSc x = true) : okTn x.t = true := decide_eq_true (of_decide_eq_true h).1
theorem is_nn {x : Sc} (h : okSc x = true) : decide (0 ≤ (scalar_Is x).1) = true := by
  have h := of_decide_eq_true h
  apply decide_eq_true
  unfold scalar_Is
  unfold VSc VTn VUs VSs at h
  split
  · exact h.2.1.1.1
  · split
    · exact h.1.1.1
    · split
      · exact wrapu_nonneg (k := .u64)
      · decide
theorem toInt_in (x : BitVec 64) : -9223372036854775808 ≤ x.toInt ∧ x.toInt < 9223372036854775808 := by
  have := x.isLt
  rw [BitVec.toInt_eq_toNat_cond]; split <;> omega
theorem FromT_V {t : Tn} (h : VTn t) : VUs (span_FromT t).1 ∧ VSs (span_FromT t).2 := by
  obtain ⟨v, m, rfl⟩ := tb_of h
  rw [FromT_tb]
  have h1 := v.isLt
  have h2 := (v ||| m).isLt
  split
  · exact ⟨⟨by simp only; omega, by simp only; omega⟩, toInt_in _, toInt_in _⟩
  · exact ⟨⟨by simp only; omega, by simp only; omega⟩, toInt_in _, toInt_in _⟩
theorem VUs_bv {u : Us} (h : VUs u) : ∃ lo hi : BitVec 64, u = ⟨(lo.toNat : Int), (hi.toNat : Int)⟩ := by
  obtain ⟨⟨h1, h2⟩, h3, h4⟩ := h
  obtain ⟨a, ha⟩ := exists_bv h1 h2
  obtain ⟨b, hb⟩ := exists_bv h3 h4
  exact ⟨a, b, by cases u; simp only at ha hb; subst ha; subst hb; rfl⟩
theorem ToT_V {u : Us} (h : VUs u) : VTn (span_ToT u) := by
  obtain ⟨a, b, rfl⟩ := VUs_bv h
  rw [ToT_tb]; exact tb_V _ _
theorem Meet_V {a b : Tn} (ha : VTn a) (hb : VTn b) : VTn (tnum_Meet a b).1 := by
  obtain ⟨v, m, rfl⟩ := tb_of ha
  obtain ⟨v', m', rfl⟩ := tb_of hb
  rw [Meet_tb]; split
  · exact tb_V _ _
  · exact tb_V _ _
theorem nU2_V {x : Sc} (h : VSc x) : VUs (nU2 x).1 := UMeet_V (UMeet_V h.2.1 (ToU_V _)) (FromT_V h.1).1
theorem once_V {x : Sc} (h : VSc x) : VSc (once x).1 := by
  unfold once
  have hz : VSc sz := by decide
  split
  · split
    · split
      · split
        · split
          · exact ⟨Meet_V h.1 (ToT_V (nU2_V h)), nU2_V h, SMeet_V (SMeet_V h.2.2 (ToS_V _)) (FromT_V h.1).2⟩
          · exact hz
        · exact hz
      · exact hz
    · exact hz
  · exact hz
theorem Norm_V {x : Sc} (h : VSc x) : VSc (scalar_Norm x).1 := by
  rw [Norm_eq]; split
  · exact once_V (once_V h)
  · decide
def Inx (x : Sc) (v : Int) : Prop := tnum_In x.t v = true ∧ inU x.u v ∧ inS x.s v
theorem Meet_sound {t m t' m' v : BitVec 64} (h : v &&& ~~~m = t) (h' : v &&& ~~~m' = t') : (t ^^^ t') &&& ~~~(m ||| m') = 0#64 ∧ v &&& ~~~(m &&& m') = (t ||| t') &&& ~~~(m &&& m') := by
  subst h; subst h'
  constructor
  · apply BitVec.eq_of_getLsbD_eq
    intro i hi
    simp only [BitVec.getLsbD_and, BitVec.getLsbD_not, BitVec.getLsbD_or, BitVec.getLsbD_xor]
    cases v.getLsbD i <;> cases m.getLsbD i <;> cases m'.getLsbD i <;> simp [hi]
  · apply BitVec.eq_of_getLsbD_eq
    intro i hi
    simp only [BitVec.getLsbD_and, BitVec.getLsbD_not, BitVec.getLsbD_or]
    cases v.getLsbD i <;> cases m.getLsbD i <;> cases m'.getLsbD i <;> simp [hi]
theorem Meet_in {a b : Tn} {v : Int} (ha : VTn a) (hb : VTn b) (h0 : 0 ≤ v) (h1 : v < 18446744073709551616) (h2 : tnum_In a v = true) (h3 : tnum_In b v = true) : (tnum_Meet a b).2 = true ∧ tnum_In (tnum_Meet a b).1 v = true := by
  obtain ⟨t, m, rfl⟩ := tb_of ha
  obtain ⟨t', m', rfl⟩ := tb_of hb
  obtain ⟨v, rfl⟩ := exists_bv h0 h1
  rw [In_tb] at h2 h3
  have := Meet_sound (of_decide_eq_true h2) (of_decide_eq_true h3)
  rw [Meet_tb, if_pos this.1]
  refine ⟨rfl, ?_⟩
  rw [In_tb]
  exact decide_eq_true this.2
theorem FromT_in {t : Tn} {v : Int} (ht : VTn t) (h0 : 0 ≤ v) (h1 : v < 18446744073709551616) (h2 : tnum_In t v = true) : inU (span_FromT t).1 v ∧ inS (span_FromT t).2 v := by
  obtain ⟨t, m, rfl⟩ := tb_of ht
  obtain ⟨v, rfl⟩ := exists_bv h0 h1
  rw [In_tb] at h2
  exact FromT_sound (of_decide_eq_true h2)
theorem ToT_in {u : Us} {v : Int} (hu : VUs u) (h0 : 0 ≤ v) (h1 : v < 18446744073709551616) (h2 : inU u v) : tnum_In (span_ToT u) v = true := by
  obtain ⟨a, b, rfl⟩ := VUs_bv hu
  obtain ⟨v, rfl⟩ := exists_bv h0 h1
  unfold inU at h2
  simp only at h2
  exact ToT_sound (by omega) (by omega)
theorem once_sound {x : Sc} {v : Int} (h : VSc x) (h0 : 0 ≤ v) (h1 : v < 18446744073709551616) (hi : Inx x v) : (once x).2 = true ∧ Inx (once x).1 v := by
  obtain ⟨it, iu, is⟩ := hi
  have hF := FromT_in h.1 h0 h1 it
  have a1 := UMeet_sound iu (ToU_sound h.2.2 h0 h1 is)
  have a2 : (nU2 x).2 = true ∧ inU (nU2 x).1 v := UMeet_sound a1.2 hF.1
  have a3 := SMeet_sound is (ToS_sound (nU2_V h) a2.2)
  have a4 : (nS2 x).2 = true ∧ inS (nS2 x).1 v := SMeet_sound a3.2 hF.2
  have a5 : (nT x).2 = true ∧ tnum_In (nT x).1 v = true := Meet_in h.1 (ToT_V (nU2_V h)) h0 h1 it (ToT_in (nU2_V h) h0 h1 a2.2)
  have e : once x = (⟨(nT x).1, (nU2 x).1, (nS2 x).1⟩, true) := by
    unfold once; rw [if_pos (show (nU1 x).2 = true from a1.1), if_pos a2.1, if_pos (show (nS1 x).2 = true from a3.1), if_pos a4.1, if_pos a5.1]
  rw [e]
  exact ⟨rfl, a5.2, a2.2, a4.2⟩
theorem Norm_sound {x : Sc} {v : Int} (h : VSc x) (h0 : 0 ≤ v) (h1 : v < 18446744073709551616) (hi : Inx x v) : (scalar_Norm x).2 = true ∧ Inx (scalar_Norm x).1 v := by
  have a := once_sound h h0 h1 hi
  rw [Norm_eq, if_pos a.1]
  exact once_sound (once_V h) h0 h1 a.2
theorem Cut_V {t : Tn} (h : VTn t) (n : Int) : VTn (tnum_Cut t n) := by
  unfold tnum_Cut
  split
  · exact h
  · split
    · decide
    · unfold VTn
      dsimp only
      refine ⟨?_, ?_⟩
      · exact bits_u64_in _ _ _
      · exact bits_u64_in _ _ _
theorem UCut_V {u : Us} : VUs (span_UCut u) := by
  unfold span_UCut
  split
  · unfold VUs
    dsimp only
    refine ⟨?_, ?_⟩
    · exact bits_u64_in _ _ _
    · exact bits_u64_in _ _ _
  · decide
theorem settle_V {x : Sc} {w : Bool} (h : VSc x) : VSc (scalar_settle x w) := by
  unfold scalar_settle
  have h8 : VSc (scalar_Upto 8) := by decide
  have h4 : VSc (scalar_Upto 4) := by decide
  split
  · split
    · exact Norm_V h
    · exact h8
  · split
    · refine Norm_V ⟨Cut_V h.1 4, UCut_V, ?_⟩
      show VSs span_SAll
      decide
    · exact h4
theorem ok_settle {x : Sc} {w : Bool} (h : okSc x = true) : okSc (scalar_settle x w) = true := decide_eq_true (settle_V (of_decide_eq_true h))
/-! ### Mul ends -/
theorem Rsh1 {v m : Int} : tnum_Rsh ⟨v, m⟩ 1 = ⟨v / 2, m / 2⟩ := by
  unfold tnum_Rsh
  have : (2 : Int) ^ min (Int.toNat (Int.tmod (IntKind.u64.wrap 1) 64)) (IntKind.bits .u64) = 2 := by decide
  unfold shr
  rw [this]
theorem T_Mul_aux (a b : Tn) : ∀ (n : Nat) (v0 v1 v2 v3 v4 v5 : Int), 0 ≤ v0 → 0 ≤ v1 → v0 < 2 ^ n → v1 < 2 ^ n → tnum_Mul_L a b (n + 1) v0 v1 v2 v3 v4 v5 ≠ none
  | 0, v0, v1, v2, v3, v4, v5, h0, h1, h2, h3 => by
    have e0 : v0 = 0 := by rw [Int.pow_zero] at h2; omega
    have e1 : v1 = 0 := by rw [Int.pow_zero] at h3; omega
    subst e0; subst e1
    rw [tnum_Mul_L, if_pos (by decide)]
    simp
  | n + 1, v0, v1, v2, v3, v4, v5, h0, h1, h2, h3 => by
    rw [tnum_Mul_L]
    rw [Int.pow_succ] at h2 h3
    have ih := fun a2 a3 a4 a5 => T_Mul_aux a b n (v0 / 2) (v1 / 2) a2 a3 a4 a5 (by omega) (by omega) (by omega) (by omega)
    simp only [Rsh1]
    split
    · simp
    · split
      · split
        · exact ih _ _ _ _
        · exact ih _ _ _ _
      · exact ih _ _ _ _
theorem T_tnum_Mul (a : Tn) (b : Tn) (p0 : okTn a = true) : tnum_Mul_L a b 66 a.v a.m b.v b.m ((tnum_Of 0).v) ((tnum_Of 0).m) ≠ none := by
  have h := of_decide_eq_true p0
  unfold VTn at h
  have e : (2 : Int) ^ 65 = 36893488147419103232 := by decide
  exact T_Mul_aux a b 65 _ _ _ _ _ _ h.1.1 h.2.1 (by rw [e]; omega) (by rw [e]; omega)
end Go.Proofs.T
