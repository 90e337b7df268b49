/-
  Plain laws: the document's sets of words are the program's.
-/
import Derived.Test.YtneejoienmffmaaGreatN6
import Derived.Test.YtneejoienmffmaaGreatDL
set_option linter.unusedVariables false
set_option linter.unusedSimpArgs false
set_option maxRecDepth 100000
namespace Go.Proofs.T
open Go Go.Proofs Go.Proofs.SX
theorem rMeet {a b : Tn} (ha : VTn a) (hb : VTn b) (ma : Go.bits .and .u64 a.v a.m = 0) (mb : Go.bits .and .u64 b.v b.m = 0) : lockgateref03_Meet a b = tnum_Meet a b := by
  obtain ⟨v, m, rfl⟩ := tb_of ha
  obtain ⟨v', m', rfl⟩ := tb_of hb
  exact rMeet_tb (mayT_tb.1 ma) (mayT_tb.1 mb)
theorem rJoin {a b : Tn} (ha : VTn a) (hb : VTn b) (ma : Go.bits .and .u64 a.v a.m = 0) : lockgateref03_Join a b = tnum_Join a b := by
  obtain ⟨v, m, rfl⟩ := tb_of ha
  obtain ⟨v', m', rfl⟩ := tb_of hb
  exact rJoin_tb (mayT_tb.1 ma)
theorem rWithin {a b : Tn} (ha : VTn a) (hb : VTn b) (mb : Go.bits .and .u64 b.v b.m = 0) : lockgateref03_Within a b = tnum_Within a b := by
  obtain ⟨v, m, rfl⟩ := tb_of ha
  obtain ⟨v', m', rfl⟩ := tb_of hb
  exact rWithin_tb (mayT_tb.1 mb)
theorem rIn {a : Tn} {n : Int} (ha : VTn a) (hn : W64 n) (ma : Go.bits .and .u64 a.v a.m = 0) : lockgateref03_In a n = tnum_In a n := by
  obtain ⟨v, m, rfl⟩ := tb_of ha
  obtain ⟨n, rfl⟩ := exists_bv hn.1 hn.2
  exact rIn_tb (mayT_tb.1 ma) n
theorem rUIn (u : Us) (n : Int) : lockgateref04_UIn u n = span_UIn u n := by
  unfold lockgateref04_UIn span_UIn span_between_uint64
  rfl
theorem rSIn (u : Ss) (n : Int) : lockgateref04_SIn u n = span_SIn u n := by
  unfold lockgateref04_SIn span_SIn span_between_int64
  rfl
theorem rUWithin {a : Us} (b : Us) (ha : a.lo ≤ a.hi) : lockgateref04_UWithin a b = span_UWithin a b := by
  unfold lockgateref04_UWithin lockgateref04_UIn span_UWithin
  by_cases h1 : b.lo ≤ a.lo
  · by_cases h2 : a.hi ≤ b.hi
    · have h3 : a.lo ≤ b.hi := by omega
      have h4 : b.lo ≤ a.hi := by omega
      simp [h1, h2, h3, h4]
    · by_cases h3 : a.lo ≤ b.hi
      · simp [h1, h2, h3]
      · simp [h1, h2, h3]
  · simp [h1]
theorem rSWithin (a b : Ss) : lockgateref04_SWithin a b = span_SWithin a b := rfl
theorem rUJoin (a b : Us) : lockgateref04_UJoin a b = span_UJoin a b := by
  unfold lockgateref04_UJoin span_UJoin span_join_uint64
  by_cases h1 : b.lo < a.lo
  · by_cases h2 : a.hi < b.hi
    · have h3 : ¬ a.lo < b.lo := by omega
      have h4 : ¬ b.hi < a.hi := by omega
      simp [h1, h2, h3, h4]
    · simp [h1, h2]
      try omega
  · by_cases h2 : a.hi < b.hi
    · simp [h1, h2]
      try omega
    · simp [h1, h2]
      try omega
theorem rSJoin (a b : Ss) : lockgateref04_SJoin a b = span_SJoin a b := by
  unfold lockgateref04_SJoin span_SJoin span_join_int64
  by_cases h1 : b.lo < a.lo
  · by_cases h2 : a.hi < b.hi
    · have h3 : ¬ a.lo < b.lo := by omega
      have h4 : ¬ b.hi < a.hi := by omega
      simp [h1, h2, h3, h4]
    · simp [h1, h2]
      try omega
  · by_cases h2 : a.hi < b.hi
    · simp [h1, h2]
      try omega
    · simp [h1, h2]
      try omega
theorem ronce {x : Sc} (h : VSc x) (m : MayP x) : lockgateref05_once x = once x := by
  have eF := rFromT h.1 m.1
  have eU := rToU m.2.2
  have V2 : VUs (nU2 x).1 := nU2_V h
  unfold lockgateref05_once once
  rw [eF, eU]
  simp only [rUMeet, rSMeet]
  change (if (nU1 x).2 = true then (if (nU2 x).2 = true then (if (span_SMeet x.s (lockgateref04_ToS (nU2 x).1)).2 = true then (if (span_SMeet (span_SMeet x.s (lockgateref04_ToS (nU2 x).1)).1 (span_FromT x.t).2).2 = true then (if (lockgateref03_Meet x.t (lockgateref04_ToT (nU2 x).1)).2 = true then (⟨(lockgateref03_Meet x.t (lockgateref04_ToT (nU2 x).1)).1, (nU2 x).1, (span_SMeet (span_SMeet x.s (lockgateref04_ToS (nU2 x).1)).1 (span_FromT x.t).2).1⟩, true) else (sz, false)) else (sz, false)) else (sz, false)) else (sz, false)) else (sz, false)) = _
  rw [rToS V2, rToT V2, rMeet h.1 (ToT_V V2) m.1 (ToT_may V2)]
  rfl
theorem rNorm {x : Sc} (h : VSc x) (m : MayP x) : lockgateref05_Norm x = scalar_Norm x := by
  rw [Norm_eq]
  unfold lockgateref05_Norm
  rw [ronce h m]
  by_cases h2 : (once x).2 = true
  · rw [if_pos h2, if_pos h2, ronce (once_V h) (once_may h h2)]
  · rw [if_neg h2, if_neg h2]; rfl
theorem rScIn {x : Sc} {n : Int} (h : VSc x) (hn : W64 n) (m : MayP x) : lockgateref05_In x n = scalar_In x n := by
  unfold lockgateref05_In scalar_In
  rw [rIn h.1 hn m.1, rUIn, rSIn]
theorem rScWithin {x y : Sc} (h : VSc x) (hy : VSc y) (m : MayP x) (my : MayP y) : lockgateref05_Within x y = scalar_Within x y := by
  unfold lockgateref05_Within scalar_Within
  rw [rWithin h.1 hy.1 my.1, rUWithin _ m.2.1, rSWithin]
theorem rScJoin {x y : Sc} (h : VSc x) (hy : VSc y) (m : MayP x) : lockgateref05_Join x y = scalar_Join x y := by
  unfold lockgateref05_Join scalar_Join
  rw [rJoin h.1 hy.1 m.1, rUJoin, rSJoin]
theorem ScalarSets_ok {a b : Sc} {c d : Int} (ha : VSc a) (hb : VSc b) (hc : W64 c) : lockgatelaw05_ScalarSets a b c d = true := by
  have A := May_props ha
  have B := May_props hb
  have e1 := rNorm A.1 A.2
  have e2 := rScIn A.1 hc A.2
  have e3 := rScWithin A.1 B.1 A.2 B.2
  have e4 := rScJoin A.1 B.1 A.2
  unfold lockgatelaw05_ScalarSets
  generalize lockgatelaw05_May a = x at *
  generalize lockgatelaw05_May b = y at *
  rw [e1, e2, e3, e4, rAny, known_ok]
  simp only [rIs, rOf, rUpto]
  simp
end Go.Proofs.T
