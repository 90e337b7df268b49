/-
  KindsHolds returns true for every input, and leaves its arguments as they were. No condition.
-/
import Derived.Test.YtneejoienmffmaaRows
import Derived.WalkKit
import Derived.ProofKit
import Derived.OpenShut
import Derived.Test.YtneejoienmffmaaWKindsHolds
import Derived.Test.YtneejoienmffmaaMH
import Derived.Test.YtneejoienmffmaaOP
namespace Go.Proofs.Ytneejoienmffmaa.kindsHolds
open Go Go.ChangeShapes Go.WideShapes Go.ChangeAt Go.RowKit Go.Proofs.SX Go.Proofs.T
set_option linter.unusedVariables false
theorem own : ownKnob Try.prog.godebug = none := by kernel_rfl
theorem flat32 : flatK Try.prog 20 32 = some ksAR := by kernel_rfl
theorem flat44 : flatK Try.prog 20 44 = some ksVl := by kernel_rfl
theorem flat3 : flatK Try.prog 20 3 = some [some .i64] := by kernel_rfl
theorem flat22 : flatK Try.prog 20 22 = some [some .u64] := by kernel_rfl
set_option maxRecDepth 100000 in
theorem lifted (os : Os) (started : os.Started) (H : Type) (enc : TypeId × Value → H) :
    ReturnsInHanded {} Try.checked os 4 .any (Rows.kindsHoldsSpec.pre6 enc Try.prog Try.f4 Rows.kindsHoldsRow.domain false) (Rows.kindsHoldsSpec.post enc Try.prog Try.f4 false true false false) := by
  refine returnsInHanded_of_change (C := Try.checked) own started (by kernel_rfl) Try.func4
    (ChangeSpec.witness6 (enc := enc) (C := Try.checked) false ⟨#[], #[.agg #[.int .i64 0, .int .u64 0, .int .u64 0, .int .u64 0, .int .u64 0, .int .i64 0, .int .i64 0, .int .i64 0, .int .i64 0, .int .i64 0, .int .i64 0], .agg #[.int .i64 0, .int .u64 0, .int .i64 0], .int .i64 0, .int .u64 0, .int .i64 0], []⟩ 8 (by kernel_rfl) (by kernel_rfl) (by kernel_rfl) (by kernel_rfl)) ?_
  intro W base args ds gs before hval0 hW hcnd _
  have hval : ∀ (j : Nat) t v, Try.f4.params[j]? = some t → args[j]? = some v → Value.okWide Try.prog W .any base t v := hval0
  have hW' := hW
  obtain ⟨p, q, hA0, hV, rfl, hfz, hnd⟩ := hW
  have hA : DataW.TrodAll enc Try.prog W 0 (fun _ => true) true Try.f4.params.toList args.toList ds p := hA0
  have hall := flat_all (ts := Try.f4.params.toList) (by
    rw [Try.params4]
    intro t ht
    simp at ht
    rcases ht with rfl | rfl | rfl | rfl | rfl
    · exact ⟨_, _, flat32⟩
    · exact ⟨_, _, flat44⟩
    · exact ⟨_, _, flat3⟩
    · exact ⟨_, _, flat22⟩
    · exact ⟨_, _, flat3⟩) hA
  obtain ⟨rfl, hagain⟩ := hall
  have hds := hA
  rw [Try.params4] at hA hval
  obtain ⟨v0, vs0, d0, ds0, p0, q0, hargs, rfl, hp0, h0, r0⟩ := trodAll_cons hA
  obtain ⟨v1, vs1, d1, ds1, p1, q1, rfl, rfl, rfl, h1, r1⟩ := trodAll_cons r0
  obtain ⟨v2, vs2, d2, ds2, p2, q2, rfl, rfl, rfl, h2, r2⟩ := trodAll_cons r1
  obtain ⟨v3, vs3, d3, ds3, p3, q3, rfl, rfl, rfl, h3, r3⟩ := trodAll_cons r2
  obtain ⟨v4, vs4, d4, ds4, p4, q4, rfl, rfl, rfl, h4, r4⟩ := trodAll_cons r3
  obtain ⟨rfl, rfl, rfl⟩ := trodAll_nil r4
  obtain rfl : args = #[v0, v1, v2, v3, v4] := Array.ext' hargs
  obtain ⟨rfl, rfl⟩ := trodVars_none hV
  obtain ⟨c0, rfl, _⟩ := okWide_struct Try.underlying32 (hval 0 32 v0 rfl rfl)
  obtain ⟨c1, rfl, _⟩ := okWide_struct Try.underlying44 (hval 1 44 v1 rfl rfl)
  obtain ⟨x0, V0, l0⟩ := leafs_AR (flat_cells flat32 h0)
  obtain ⟨x1, V1, l1⟩ := leafs_Vl (flat_cells flat44 h1)
  obtain ⟨a2, rfl, _, _, w2⟩ := open_int Try.underlying3 (hval 2 3 v2 rfl rfl) h2
  obtain ⟨a3, rfl, _, _, w3⟩ := open_int Try.underlying22 (hval 3 22 v3 rfl rfl) h3
  obtain ⟨a4, rfl, _, _, w4⟩ := open_int Try.underlying3 (hval 4 3 v4 rfl rfl) h4
  have e0 : c0 = ⟨[.int .i64 x0.kind, .int .u64 x0.num.t.v, .int .u64 x0.num.t.m, .int .u64 x0.num.u.lo, .int .u64 x0.num.u.hi, .int .i64 x0.num.s.lo, .int .i64 x0.num.s.hi, .int .i64 x0.off, .int .i64 x0.id, .int .i64 x0.rng, .int .i64 x0.mp]⟩ := Array.ext' l0
  have e1 : c1 = ⟨[.int .i64 x1.kind, .int .u64 x1.n, .int .i64 x1.id]⟩ := Array.ext' l1
  clear hA0 hval0
  subst e0 e1
  have hkeep := K_lockgatelaw18_KindsHolds.calls [cAR.enc x0, cVl.enc x1, (cI .i64).enc a2, (cI .u64).enc a3, (cI .i64).enc a4] (cB.enc (lockgatelaw18_KindsHolds x0 x1 a2 a3 a4)) [] rfl
  obtain ⟨_, _, hk⟩ := hkeep
  obtain ⟨v, hv, hcalls⟩ := hk trivial (valsOf [cAR.enc x0, cVl.enc x1, (cI .i64).enc a2, (cI .u64).enc a3, (cI .i64).enc a4]) ((RL_valsOf (by rfl)).2 rfl)
  rw [KindsHolds_ok V0.1 V1.2.1 (wf_u64 w3)] at hv
  have hv' : v = .bool true := by simpa [cB, SX.R] using hv
  subst hv'
  refine (hcalls W).mono fun e W' ⟨he, hg⟩ => ?_
  subst he
  refine ⟨_, rfl, _, _, _, [], [], [], hW', trodAll_cons_mk (shut_bool Try.underlying4 _) trodAll_mk0, hagain _ _ _ _, rfl, hg.frame _, fun h => by cases h⟩
theorem over : Rows.kindsHoldsRow.holds Try.pinned (OpenSpec.ofChange Rows.kindsHoldsSpec) :=
  OpenClaim.holds_of_wide 4 Try.f4 rfl rfl rfl rfl rfl rfl rfl ⟨rfl, rfl, rfl, rfl, rfl⟩ rfl rfl rfl rfl rfl (by kernel_rfl) Try.func4 (by kernel_rfl)
    (of_decide_eq_true (by kernel_rfl)) (by unfold Func.isWrapper; first | (rw [if_pos (by decide +kernel)]; kernel_rfl) | (rw [if_neg (by decide +kernel)]; exact ⟨rfl, rfl⟩))
    (fun os started H enc _ => lifted os started H enc)
theorem proved : Rows.KindsHoldsSaid := over
#print axioms proved
end Go.Proofs.Ytneejoienmffmaa.kindsHolds
