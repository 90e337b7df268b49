/-
  Plain laws: what the document makes of parts is what the program makes.
-/
import Derived.Test.YtneejoienmffmaaGreatN11
set_option linter.unusedVariables false
set_option linter.unusedSimpArgs false
set_option maxRecDepth 100000
namespace Go.Proofs.T
open Go Go.Proofs Go.Proofs.SX
def TM (t : Tn) : Prop := Go.bits .and .u64 t.v t.m = 0
theorem TM_tb {v m : BitVec 64} : TM (tb v m) ↔ v &&& m = 0#64 := mayT_tb
theorem nm (x y : BitVec 64) : x &&& ~~~y &&& y = 0#64 := by
  rw [BitVec.and_assoc]
  have : ~~~y &&& y = 0#64 := by rw [BitVec.and_comm]; simp
  rw [this, BitVec.and_zero]
theorem mn (x y : BitVec 64) : y &&& (x &&& ~~~y) = 0#64 := by
  rw [BitVec.and_comm]; exact nm x y
theorem WW (x : Int) : W64 (IntKind.u64.wrap x) := ⟨wrapu_nn, wrapu_lt⟩
theorem TM_Add (a b : Tn) : TM (tnum_Add a b) := andNot_may (WW (a.v + b.v)) (bW _ _ _)
theorem TM_Sub (a b : Tn) : TM (tnum_Sub a b) := andNot_may (WW (a.v - b.v)) (bW _ _ _)
theorem TM_Xor (a b : Tn) : TM (tnum_Xor a b) := andNot_may (bW .xor a.v b.v) (bW _ _ _)
theorem TM_And {a b : Tn} (ha : VTn a) (hb : VTn b) : TM (tnum_And a b) := by
  obtain ⟨v, m, rfl⟩ := tb_of ha
  obtain ⟨v', m', rfl⟩ := tb_of hb
  rw [And_tb, TM_tb]; exact mn _ _
theorem TM_Or {a b : Tn} (ha : VTn a) (hb : VTn b) : TM (tnum_Or a b) := by
  obtain ⟨v, m, rfl⟩ := tb_of ha
  obtain ⟨v', m', rfl⟩ := tb_of hb
  rw [Or_tb, TM_tb]; exact mn _ _
theorem TM_Mul (a b : Tn) : TM (tnum_Mul a b) := by
  unfold tnum_Mul
  split
  · exact TM_Add _ _
  · rename_i r h
    exfalso
    have : ∀ (n : Nat) (v0 v1 v2 v3 v4 v5 : Int) (r : Tn), tnum_Mul_L a b n v0 v1 v2 v3 v4 v5 ≠ some (.ret r) := by
      intro n
      induction n with
      | zero => intro v0 v1 v2 v3 v4 v5 r h; rw [tnum_Mul_L] at h; cases h
      | succ n ih =>
        intro v0 v1 v2 v3 v4 v5 r h
        rw [tnum_Mul_L] at h
        (repeat' split at h) <;> first | cases h | exact ih _ _ _ _ _ _ _ h
    exact this _ _ _ _ _ _ _ _ h
  · unfold TM; decide
theorem TM_Cut {a : Tn} (ha : VTn a) (h : TM a) : TM (tnum_Cut a 4) := by
  obtain ⟨v, m, rfl⟩ := tb_of ha
  rw [TM_tb] at h
  rw [Cut4_tb, TM_tb, ← BitVec.setWidth_and, ← BitVec.setWidth_and, h]; rfl
theorem TM_Lsh {a : Tn} (ha : VTn a) (h : TM a) (n : Int) : TM (tnum_Lsh a n) := by
  obtain ⟨v, m, rfl⟩ := tb_of ha
  rw [TM_tb] at h
  rw [Lsh_tb, TM_tb, ← BitVec.shiftLeft_and_distrib, h, BitVec.zero_shiftLeft]
theorem TM_Rsh {a : Tn} (ha : VTn a) (h : TM a) (n : Int) : TM (tnum_Rsh a n) := by
  obtain ⟨v, m, rfl⟩ := tb_of ha
  rw [TM_tb] at h
  rw [Rsh_tb, TM_tb, ← BitVec.ushiftRight_and_distrib, h, BitVec.zero_ushiftRight]
theorem ss_and {w : Nat} {v m : BitVec w} (h : v &&& m = 0#w) (k : Nat) : v.sshiftRight k &&& m.sshiftRight k = 0#w := by
  rw [← BitVec.sshiftRight_and_distrib, h]; simp
theorem TM_Arsh64 {a : Tn} (ha : VTn a) (h : TM a) (n : Int) : TM (tnum_Arsh a n 64) := by
  obtain ⟨v, m, rfl⟩ := tb_of ha
  rw [TM_tb] at h
  rw [Arsh64_tb, TM_tb]; exact ss_and h _
theorem TM_Arsh32 {a : Tn} (ha : VTn a) (h : TM a) (n : Int) : TM (tnum_Arsh a n 32) := by
  obtain ⟨v, m, rfl⟩ := tb_of ha
  rw [TM_tb] at h
  have h2 : v.setWidth 32 &&& m.setWidth 32 = 0#32 := by rw [← BitVec.setWidth_and, h]; rfl
  rw [Arsh32_tb, TM_tb, ← BitVec.setWidth_and, ss_and h2]; rfl
/-! ### Norm, of what is not in order but in what it is read for -/
theorem ronce' {x : Sc} (h : VSc x) (m1 : TM x.t) (m3 : x.s.lo ≤ x.s.hi) : lockgateref05_once x = once x := by
  have eF := rFromT h.1 m1
  have eU := rToU m3
  have V2 : VUs (nU2 x).1 := nU2_V h
  unfold lockgateref05_once once
  rw [eF, eU]
  simp only [rUMeet, rSMeet]
  change (if (nU1 x).2 = true then (if (nU2 x).2 = true then (if (span_SMeet x.s (lockgateref04_ToS (nU2 x).1)).2 = true then (if (span_SMeet (span_SMeet x.s (lockgateref04_ToS (nU2 x).1)).1 (span_FromT x.t).2).2 = true then (if (lockgateref03_Meet x.t (lockgateref04_ToT (nU2 x).1)).2 = true then (⟨(lockgateref03_Meet x.t (lockgateref04_ToT (nU2 x).1)).1, (nU2 x).1, (span_SMeet (span_SMeet x.s (lockgateref04_ToS (nU2 x).1)).1 (span_FromT x.t).2).1⟩, true) else (sz, false)) else (sz, false)) else (sz, false)) else (sz, false)) else (sz, false)) = _
  rw [rToS V2, rToT V2, rMeet h.1 (ToT_V V2) m1 (ToT_may V2)]
  rfl
theorem rNorm' {x : Sc} (h : VSc x) (m1 : TM x.t) (m3 : x.s.lo ≤ x.s.hi) : lockgateref05_Norm x = scalar_Norm x := by
  rw [Norm_eq]
  unfold lockgateref05_Norm
  rw [ronce' h m1 m3]
  by_cases h2 : (once x).2 = true
  · rw [if_pos h2, if_pos h2, ronce (once_V h) (once_may h h2)]
  · rw [if_neg h2, if_neg h2]; rfl
theorem rHalf {x : Sc} (h : VSc x) (m1 : TM x.t) : lockgateref05_Half x = scalar_settle x false := by
  have hn := rNorm' (x := ⟨tnum_Cut x.t 4, span_UCut x.u, span_SAll⟩) (cut_V h) (TM_Cut h.1 m1) (show span_SAll.lo ≤ span_SAll.hi by decide)
  unfold lockgateref05_Half scalar_settle
  rw [rCut h.1, rUCut h.2.1, rSAll, hn, rUpto, if_neg Bool.false_ne_true]
theorem rsettle {x : Sc} {b : Bool} (h : VSc x) (m1 : TM x.t) (m3 : x.s.lo ≤ x.s.hi) : lockgateref05_settle x b = scalar_settle x b := by
  have e8 : scalar_Upto 8 = scalar_Any := rfl
  cases b
  · unfold lockgateref05_settle
    rw [if_neg Bool.false_ne_true, rHalf h m1]
  · unfold lockgateref05_settle scalar_settle
    rw [if_pos rfl, if_pos rfl, rNorm' h m1 m3, rAny, e8]
theorem Any_ok : VSc scalar_Any ∧ TM scalar_Any.t ∧ scalar_Any.s.lo ≤ scalar_Any.s.hi := by
  refine ⟨by decide, ?_, by decide⟩
  unfold TM; decide
theorem rsettleAny (b : Bool) : lockgateref05_settle scalar_Any b = scalar_settle scalar_Any b := rsettle Any_ok.1 Any_ok.2.1 Any_ok.2.2
/-! ### the parts -/
theorem ends_le {x y : Int} {p q : Bool} (h : p = true → q = true → x ≤ y) : (span_ends x p y q).lo ≤ (span_ends x p y q).hi := by
  unfold span_ends
  split
  · rename_i hp
    split
    · rename_i hq; exact h hp hq
    · decide
  · decide
theorem SAdd_le {a b : Ss} (ha : VSs a) (hb : VSs b) (la : a.lo ≤ a.hi) (lb : b.lo ≤ b.hi) : (span_SAdd a b).lo ≤ (span_SAdd a b).hi := by
  unfold span_SAdd
  refine ends_le (fun hp hq => ?_)
  have k1 := sum_ok ha.1 hb.1 hp
  have k2 := sum_ok ha.2 hb.2 hq
  omega
theorem SSub_le {a b : Ss} (ha : VSs a) (hb : VSs b) (la : a.lo ≤ a.hi) (lb : b.lo ≤ b.hi) : (span_SSub a b).lo ≤ (span_SSub a b).hi := by
  unfold span_SSub
  refine ends_le (fun hp hq => ?_)
  have k1 := less_ok ha.1 hb.2 hp
  have k2 := less_ok ha.2 hb.1 hq
  omega
theorem PA_ok {k : Int} {c d : Sc} (hk : plain k) (hc : VSc c) (hd : VSc d) (mc : MayP c) (md : MayP d) : TM (PA k c d).t ∧ (PA k c d).s.lo ≤ (PA k c d).s.hi := by
  have t0 : TM scalar_Any.t := Any_ok.2.1
  have s0 : scalar_Any.s.lo ≤ scalar_Any.s.hi := by decide
  rcases hk with rfl | rfl | rfl | rfl | rfl | rfl | rfl | rfl
  · rw [PA_0]; exact ⟨TM_Add _ _, SAdd_le hc.2.2 hd.2.2 mc.2.2 md.2.2⟩
  · rw [PA_1]; exact ⟨TM_Sub _ _, SSub_le hc.2.2 hd.2.2 mc.2.2 md.2.2⟩
  · rw [PA_2]; exact ⟨TM_Mul _ _, s0⟩
  · rw [PA_3]; exact ⟨t0, s0⟩
  · rw [PA_9]; exact ⟨t0, s0⟩
  · rw [PA_4]; exact ⟨TM_Or hc.1 hd.1, s0⟩
  · rw [PA_5]; exact ⟨TM_And hc.1 hd.1, s0⟩
  · rw [PA_10]; exact ⟨TM_Xor _ _, s0⟩
theorem rparts {k : Int} {c d : Sc} (hk : plain k) (hc : VSc c) (hd : VSc d) : lockgateref05_parts k c d = PA k c d := by
  unfold lockgateref05_parts
  rw [rAny]
  rcases hk with rfl | rfl | rfl | rfl | rfl | rfl | rfl | rfl
  · rw [PA_0, if_pos rfl, rTAdd, rUAdd hc.2.1 hd.2.1, rSAdd hc.2.2 hd.2.2]
  · rw [PA_1, if_neg (by decide), if_pos rfl, rTSub, rUSub, rSSub hc.2.2 hd.2.2]
  · rw [PA_2, if_neg (by decide), if_neg (by decide), if_pos rfl, rTMul hc.1 hd.1, rUMul hc.2.1 hd.2.1]
  · rw [PA_3, if_neg (by decide), if_neg (by decide), if_neg (by decide), if_pos rfl, rUDiv]
  · rw [PA_9, if_neg (by decide), if_neg (by decide), if_neg (by decide), if_neg (by decide), if_pos rfl, rUMod hc.2.1 hd.2.1]
  · rw [PA_4, if_neg (by decide), if_neg (by decide), if_neg (by decide), if_neg (by decide), if_neg (by decide), if_pos rfl, rTOr, rUOr hc.2.1 hd.2.1]
  · rw [PA_5, if_neg (by decide), if_neg (by decide), if_neg (by decide), if_neg (by decide), if_neg (by decide), if_neg (by decide), if_pos rfl, rTAnd, rUAnd]
  · rw [PA_10, if_neg (by decide), if_neg (by decide), if_neg (by decide), if_neg (by decide), if_neg (by decide), if_neg (by decide), if_neg (by decide), if_pos rfl, rTXor]
theorem SArsh_le {a : Ss} (la : a.lo ≤ a.hi) {n : Int} (h0 : 0 ≤ n) (h1 : n ≤ 63) : (span_SArsh a n).lo ≤ (span_SArsh a n).hi := by
  unfold span_SArsh
  rw [and63_id h0 h1, shrs_int h0 h1, shrs_int h0 h1]
  exact Int.ediv_le_ediv (pw _) la
theorem ss6 (b : Bool) (c : Sc) (n : Int) : scalar_shift 6 b c n = ⟨tnum_Lsh c.t n, span_ULsh c.u n, scalar_Any.s⟩ := by
  unfold scalar_shift; rw [if_pos rfl]
theorem ss7 (b : Bool) (c : Sc) (n : Int) : scalar_shift 7 b c n = ⟨tnum_Rsh c.t n, span_URsh c.u n, scalar_Any.s⟩ := by
  unfold scalar_shift; rw [if_neg (by decide), if_pos rfl]
theorem sst (c : Sc) (n : Int) : scalar_shift 12 true c n = ⟨tnum_Arsh c.t n 64, scalar_Any.u, span_SArsh c.s n⟩ := by
  unfold scalar_shift; rw [if_neg (by decide), if_neg (by decide), if_pos rfl]
theorem ssf (c : Sc) (n : Int) : scalar_shift 12 false c n = if c.u.hi < 2147483648 then ⟨tnum_Arsh c.t n 32, span_URsh c.u n, scalar_Any.s⟩ else ⟨tnum_Arsh c.t n 32, scalar_Any.u, scalar_Any.s⟩ := by
  unfold scalar_shift; rw [if_neg (by decide), if_neg (by decide), if_neg Bool.false_ne_true]
theorem rs6 (b : Bool) (c : Sc) (n : Int) : lockgateref05_shift 6 b c n = ⟨lockgateref03_Lsh c.t n, lockgateref04_ULsh c.u n, lockgateref05_Any.s⟩ := by
  unfold lockgateref05_shift; rw [if_pos rfl]
theorem rs7 (b : Bool) (c : Sc) (n : Int) : lockgateref05_shift 7 b c n = ⟨lockgateref03_Rsh c.t n, lockgateref04_URsh c.u n, lockgateref05_Any.s⟩ := by
  unfold lockgateref05_shift; rw [if_neg (by decide), if_pos rfl]
theorem rst (c : Sc) (n : Int) : lockgateref05_shift 12 true c n = ⟨lockgateref03_Arsh c.t n 64, lockgateref05_Any.u, lockgateref04_SArsh c.s n⟩ := by
  unfold lockgateref05_shift; rw [if_neg (by decide), if_neg (by decide), if_pos rfl]
theorem rsf (c : Sc) (n : Int) : lockgateref05_shift 12 false c n = if c.u.hi < 2147483648 then ⟨lockgateref03_Arsh c.t n 32, lockgateref04_URsh c.u n, lockgateref05_Any.s⟩ else ⟨lockgateref03_Arsh c.t n 32, lockgateref05_Any.u, lockgateref05_Any.s⟩ := by
  unfold lockgateref05_shift; rw [if_neg (by decide), if_neg (by decide), if_neg Bool.false_ne_true]
theorem rshift {k : Int} {b : Bool} {c : Sc} {n : Int} (hk : k = 6 ∨ k = 7 ∨ k = 12) (hc : VSc c) (mc : MayP c) (h0 : 0 ≤ n) (h1 : n ≤ 63) (h2 : b = false → n ≤ 31) :
    lockgateref05_shift k b c n = scalar_shift k b c n ∧ TM (scalar_shift k b c n).t ∧ (scalar_shift k b c n).s.lo ≤ (scalar_shift k b c n).s.hi := by
  have s0 : scalar_Any.s.lo ≤ scalar_Any.s.hi := by decide
  rcases hk with rfl | rfl | rfl
  · rw [ss6, rs6, rTLsh _ h0 h1, rULsh hc.2.1 h0 h1, rAny]
    exact ⟨rfl, TM_Lsh hc.1 mc.1 _, s0⟩
  · rw [ss7, rs7, rTRsh _ h0 h1, rURsh hc.2.1 h0 h1, rAny]
    exact ⟨rfl, TM_Rsh hc.1 mc.1 _, s0⟩
  · cases b
    · have h31 := h2 rfl
      rw [ssf, rsf, rArsh32 hc.1 h0 h31, rURsh hc.2.1 h0 h1, rAny]
      refine ⟨rfl, ?_⟩
      split
      · exact ⟨TM_Arsh32 hc.1 mc.1 _, s0⟩
      · exact ⟨TM_Arsh32 hc.1 mc.1 _, s0⟩
    · rw [sst, rst, rArsh64 hc.1 h0 h1, rSArsh hc.2.2 h0 h1, rAny]
      exact ⟨rfl, TM_Arsh64 hc.1 mc.1 _, SArsh_le mc.2.2 h0 h1⟩
end Go.Proofs.T
