/-
  KindsSound returns true for every input, and leaves its arguments as they were. No condition.
-/
import Derived.Test.YtneejoienmffmaaRows
import Derived.WalkKit
import Derived.ProofKit
import Derived.OpenShut
import Derived.Test.YtneejoienmffmaaWKindsSound
import Derived.Test.YtneejoienmffmaaM14
import Derived.Test.YtneejoienmffmaaOP
namespace Go.Proofs.Ytneejoienmffmaa.kindsSound
open Go Go.ChangeShapes Go.WideShapes Go.ChangeAt Go.RowKit Go.Proofs.SX Go.Proofs.T
set_option linter.unusedVariables false
theorem own : ownKnob Try.prog.godebug = none := by kernel_rfl
theorem flat3 : flatK Try.prog 20 3 = some [some .i64] := by kernel_rfl
theorem flat4 : flatK Try.prog 20 4 = some [none] := by kernel_rfl
theorem flat32 : flatK Try.prog 20 32 = some ksAR := by kernel_rfl
theorem flat44 : flatK Try.prog 20 44 = some ksVl := by kernel_rfl
theorem flat22 : flatK Try.prog 20 22 = some [some .u64] := by kernel_rfl
set_option maxRecDepth 100000 in
theorem lifted (os : Os) (started : os.Started) (H : Type) (enc : TypeId × Value → H) :
    ReturnsInHanded {} Try.checked os 6 .any (Rows.kindsSoundSpec.pre6 enc Try.prog Try.f6 Rows.kindsSoundRow.domain false) (Rows.kindsSoundSpec.post enc Try.prog Try.f6 false true false false) := by
  refine returnsInHanded_of_change (C := Try.checked) own started (by kernel_rfl) Try.func6
    (ChangeSpec.witness6 (enc := enc) (C := Try.checked) false ⟨#[], #[.int .i64 0, .bool false, .agg #[.int .i64 0, .int .u64 0, .int .u64 0, .int .u64 0, .int .u64 0, .int .i64 0, .int .i64 0, .int .i64 0, .int .i64 0, .int .i64 0, .int .i64 0], .agg #[.int .i64 0, .int .u64 0, .int .u64 0, .int .u64 0, .int .u64 0, .int .i64 0, .int .i64 0, .int .i64 0, .int .i64 0, .int .i64 0, .int .i64 0], .agg #[.int .i64 0, .int .u64 0, .int .i64 0], .agg #[.int .i64 0, .int .u64 0, .int .i64 0], .int .i64 0, .int .u64 0, .int .i64 0], []⟩ 8 (by kernel_rfl) (by kernel_rfl) (by kernel_rfl) (by kernel_rfl)) ?_
  intro W base args ds gs before hval0 hW hcnd _
  have hval : ∀ (j : Nat) t v, Try.f6.params[j]? = some t → args[j]? = some v → Value.okWide Try.prog W .any base t v := hval0
  have hW' := hW
  obtain ⟨p, q, hA0, hV, rfl, hfz, hnd⟩ := hW
  have hA : DataW.TrodAll enc Try.prog W 0 (fun _ => true) true Try.f6.params.toList args.toList ds p := hA0
  have hall := flat_all (ts := Try.f6.params.toList) (by
    rw [Try.params6]
    intro t ht
    have ht : t ∈ ([3, 4, 32, 32, 44, 44, 3, 22, 3] : List Nat) := ht
    simp only [List.mem_cons, List.not_mem_nil, or_false] at ht
    rcases ht with rfl | rfl | rfl | rfl | rfl | rfl | rfl | rfl | rfl
    · exact ⟨_, _, flat3⟩
    · exact ⟨_, _, flat4⟩
    · exact ⟨_, _, flat32⟩
    · exact ⟨_, _, flat32⟩
    · exact ⟨_, _, flat44⟩
    · exact ⟨_, _, flat44⟩
    · exact ⟨_, _, flat3⟩
    · exact ⟨_, _, flat22⟩
    · exact ⟨_, _, flat3⟩) hA
  obtain ⟨rfl, hagain⟩ := hall
  have hds := hA
  rw [Try.params6] at hA hval
  obtain ⟨v0, vs0, d0, ds0, p0, q0, hargs, rfl, hp0, h0, r0⟩ := trodAll_cons hA
  obtain ⟨v1, vs1, d1, ds1, p1, q1, rfl, rfl, rfl, h1, r1⟩ := trodAll_cons r0
  obtain ⟨v2, vs2, d2, ds2, p2, q2, rfl, rfl, rfl, h2, r2⟩ := trodAll_cons r1
  obtain ⟨v3, vs3, d3, ds3, p3, q3, rfl, rfl, rfl, h3, r3⟩ := trodAll_cons r2
  obtain ⟨v4, vs4, d4, ds4, p4, q4, rfl, rfl, rfl, h4, r4⟩ := trodAll_cons r3
  obtain ⟨v5, vs5, d5, ds5, p5, q5, rfl, rfl, rfl, h5, r5⟩ := trodAll_cons r4
  obtain ⟨v6, vs6, d6, ds6, p6, q6, rfl, rfl, rfl, h6, r6⟩ := trodAll_cons r5
  obtain ⟨v7, vs7, d7, ds7, p7, q7, rfl, rfl, rfl, h7, r7⟩ := trodAll_cons r6
  obtain ⟨v8, vs8, d8, ds8, p8, q8, rfl, rfl, rfl, h8, r8⟩ := trodAll_cons r7
  obtain ⟨rfl, rfl, rfl⟩ := trodAll_nil r8
  obtain rfl : args = #[v0, v1, v2, v3, v4, v5, v6, v7, v8] := Array.ext' hargs
  obtain ⟨rfl, rfl⟩ := trodVars_none hV
  obtain ⟨c2, rfl, _⟩ := okWide_struct Try.underlying32 (hval 2 32 v2 rfl rfl)
  obtain ⟨c3, rfl, _⟩ := okWide_struct Try.underlying32 (hval 3 32 v3 rfl rfl)
  obtain ⟨c4, rfl, _⟩ := okWide_struct Try.underlying44 (hval 4 44 v4 rfl rfl)
  obtain ⟨c5, rfl, _⟩ := okWide_struct Try.underlying44 (hval 5 44 v5 rfl rfl)
  obtain ⟨x0, rfl, _, _, w0⟩ := open_int Try.underlying3 (hval 0 3 v0 rfl rfl) h0
  have V0 := wf_i64 w0
  obtain ⟨x1, rfl, _, _⟩ := open_bool Try.underlying4 (hval 1 4 v1 rfl rfl) h1
  obtain ⟨x2, V2, l2⟩ := leafs_AR (flat_cells flat32 h2)
  obtain ⟨x3, V3, l3⟩ := leafs_AR (flat_cells flat32 h3)
  obtain ⟨x4, V4, l4⟩ := leafs_Vl (flat_cells flat44 h4)
  obtain ⟨x5, V5, l5⟩ := leafs_Vl (flat_cells flat44 h5)
  obtain ⟨x6, rfl, _, _, w6⟩ := open_int Try.underlying3 (hval 6 3 v6 rfl rfl) h6
  have V6 := wf_i64 w6
  obtain ⟨x7, rfl, _, _, w7⟩ := open_int Try.underlying22 (hval 7 22 v7 rfl rfl) h7
  have V7 := wf_u64 w7
  obtain ⟨x8, rfl, _, _, w8⟩ := open_int Try.underlying3 (hval 8 3 v8 rfl rfl) h8
  have V8 := wf_i64 w8
  have e2 : c2 = ⟨[.int .i64 x2.kind, .int .u64 x2.num.t.v, .int .u64 x2.num.t.m, .int .u64 x2.num.u.lo, .int .u64 x2.num.u.hi, .int .i64 x2.num.s.lo, .int .i64 x2.num.s.hi, .int .i64 x2.off, .int .i64 x2.id, .int .i64 x2.rng, .int .i64 x2.mp]⟩ := Array.ext' l2
  have e3 : c3 = ⟨[.int .i64 x3.kind, .int .u64 x3.num.t.v, .int .u64 x3.num.t.m, .int .u64 x3.num.u.lo, .int .u64 x3.num.u.hi, .int .i64 x3.num.s.lo, .int .i64 x3.num.s.hi, .int .i64 x3.off, .int .i64 x3.id, .int .i64 x3.rng, .int .i64 x3.mp]⟩ := Array.ext' l3
  have e4 : c4 = ⟨[.int .i64 x4.kind, .int .u64 x4.n, .int .i64 x4.id]⟩ := Array.ext' l4
  have e5 : c5 = ⟨[.int .i64 x5.kind, .int .u64 x5.n, .int .i64 x5.id]⟩ := Array.ext' l5
  clear hA0 hval0
  subst e2 e3 e4 e5
  have hkeep := K_lockgatelaw18_KindsSound.calls [(cI .i64).enc x0, cB.enc x1, cAR.enc x2, cAR.enc x3, cVl.enc x4, cVl.enc x5, (cI .i64).enc x6, (cI .u64).enc x7, (cI .i64).enc x8] (cB.enc (lockgatelaw18_KindsSound x0 x1 x2 x3 x4 x5 x6 x7 x8)) _ rfl
  obtain ⟨_, _, hk⟩ := hkeep
  obtain ⟨v, hv, hcalls⟩ := hk ⟨decide_eq_true V2.1, decide_eq_true V3.1, decide_eq_true V4.2.1, decide_eq_true V5.2.1, trivial⟩ (valsOf [(cI .i64).enc x0, cB.enc x1, cAR.enc x2, cAR.enc x3, cVl.enc x4, cVl.enc x5, (cI .i64).enc x6, (cI .u64).enc x7, (cI .i64).enc x8]) ((RL_valsOf (by rfl)).2 rfl)
  rw [KindsSound_ok V2.1 V3.1 V4.2.1 V5.2.1 V7] at hv
  have hv' : v = .bool true := by simpa [cB, SX.R] using hv
  subst hv'
  refine (hcalls W).mono fun e W' ⟨he, hg⟩ => ?_
  subst he
  refine ⟨_, rfl, _, _, _, [], [], [], hW', trodAll_cons_mk (shut_bool Try.underlying4 _) trodAll_mk0, hagain _ _ _ _, rfl, hg.frame _, fun h => by cases h⟩
theorem over : Rows.kindsSoundRow.holds Try.pinned (OpenSpec.ofChange Rows.kindsSoundSpec) :=
  OpenClaim.holds_of_wide 6 Try.f6 rfl rfl rfl rfl rfl rfl rfl ⟨rfl, rfl, rfl, rfl, rfl⟩ rfl rfl rfl rfl rfl (by kernel_rfl) Try.func6 (by kernel_rfl)
    (of_decide_eq_true (by kernel_rfl)) (by unfold Func.isWrapper; first | (rw [if_pos (by decide +kernel)]; kernel_rfl) | (rw [if_neg (by decide +kernel)]; exact ⟨rfl, rfl⟩))
    (fun os started H enc _ => lifted os started H enc)
theorem proved : Rows.KindsSoundSaid := over
#print axioms proved
end Go.Proofs.Ytneejoienmffmaa.kindsSound
