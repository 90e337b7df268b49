/-
  ScalarSets returns true for every input, and leaves its arguments as they were. No condition.
-/
import Derived.Test.YtneejoienmffmaaGreatRows
import Derived.WalkKit
import Derived.ProofKit
import Derived.OpenShut
import Derived.Test.YtneejoienmffmaaGreatWScalarSets
import Derived.Test.YtneejoienmffmaaGreatN8
import Derived.Test.YtneejoienmffmaaGreatOP
namespace Go.Proofs.YtneejoienmffmaaGreat.scalarSets
open Go Go.ChangeShapes Go.WideShapes Go.ChangeAt Go.RowKit Go.Proofs.SX Go.Proofs.T
set_option linter.unusedVariables false
theorem own : ownKnob Tryz.prog.godebug = none := by kernel_rfl
theorem flat30 : flatK Tryz.prog 20 30 = some ksSc := by kernel_rfl
theorem flat22 : flatK Tryz.prog 20 22 = some [some .u64] := by kernel_rfl
theorem flat3 : flatK Tryz.prog 20 3 = some [some .i64] := by kernel_rfl
set_option maxRecDepth 100000 in
theorem lifted (os : Os) (started : os.Started) (H : Type) (enc : TypeId × Value → H) :
    ReturnsInHanded {} Tryz.checked os 5 .any (Rows.scalarSetsSpec.pre6 enc Tryz.prog Tryz.f5 Rows.scalarSetsRow.domain false) (Rows.scalarSetsSpec.post enc Tryz.prog Tryz.f5 false true false false) := by
  refine returnsInHanded_of_change (C := Tryz.checked) own started (by kernel_rfl) Tryz.func5
    (ChangeSpec.witness6 (enc := enc) (C := Tryz.checked) false ⟨#[], #[.agg #[.int .u64 0, .int .u64 0, .int .u64 0, .int .u64 0, .int .i64 0, .int .i64 0], .agg #[.int .u64 0, .int .u64 0, .int .u64 0, .int .u64 0, .int .i64 0, .int .i64 0], .int .u64 0, .int .i64 0], []⟩ 8 (by kernel_rfl) (by kernel_rfl) (by kernel_rfl) (by kernel_rfl)) ?_
  intro W base args ds gs before hval0 hW hcnd _
  have hval : ∀ (j : Nat) t v, Tryz.f5.params[j]? = some t → args[j]? = some v → Value.okWide Tryz.prog W .any base t v := hval0
  have hW' := hW
  obtain ⟨p, q, hA0, hV, rfl, hfz, hnd⟩ := hW
  have hA : DataW.TrodAll enc Tryz.prog W 0 (fun _ => true) true Tryz.f5.params.toList args.toList ds p := hA0
  have hall := flat_all (ts := Tryz.f5.params.toList) (by
    rw [Tryz.params5]
    intro t ht
    have ht : t ∈ ([30, 30, 22, 3] : List Nat) := ht
    simp only [List.mem_cons, List.not_mem_nil, or_false] at ht
    rcases ht with rfl | rfl | rfl | rfl
    · exact ⟨_, _, flat30⟩
    · exact ⟨_, _, flat30⟩
    · exact ⟨_, _, flat22⟩
    · exact ⟨_, _, flat3⟩) hA
  obtain ⟨rfl, hagain⟩ := hall
  have hds := hA
  rw [Tryz.params5] at hA hval
  obtain ⟨v0, vs0, d0, ds0, p0, q0, hargs, rfl, hp0, h0, r0⟩ := trodAll_cons hA
  obtain ⟨v1, vs1, d1, ds1, p1, q1, rfl, rfl, rfl, h1, r1⟩ := trodAll_cons r0
  obtain ⟨v2, vs2, d2, ds2, p2, q2, rfl, rfl, rfl, h2, r2⟩ := trodAll_cons r1
  obtain ⟨v3, vs3, d3, ds3, p3, q3, rfl, rfl, rfl, h3, r3⟩ := trodAll_cons r2
  obtain ⟨rfl, rfl, rfl⟩ := trodAll_nil r3
  obtain rfl : args = #[v0, v1, v2, v3] := Array.ext' hargs
  obtain ⟨rfl, rfl⟩ := trodVars_none hV
  obtain ⟨c0, rfl, _⟩ := okWide_struct Tryz.underlying30 (hval 0 30 v0 rfl rfl)
  obtain ⟨c1, rfl, _⟩ := okWide_struct Tryz.underlying30 (hval 1 30 v1 rfl rfl)
  obtain ⟨x0, V0, l0⟩ := leafs_Sc (flat_cells flat30 h0)
  obtain ⟨x1, V1, l1⟩ := leafs_Sc (flat_cells flat30 h1)
  obtain ⟨x2, rfl, _, _, w2⟩ := open_int Tryz.underlying22 (hval 2 22 v2 rfl rfl) h2
  have V2 := wf_u64 w2
  obtain ⟨x3, rfl, _, _, w3⟩ := open_int Tryz.underlying3 (hval 3 3 v3 rfl rfl) h3
  have V3 := wf_i64 w3
  have e0 : c0 = ⟨[.int .u64 x0.t.v, .int .u64 x0.t.m, .int .u64 x0.u.lo, .int .u64 x0.u.hi, .int .i64 x0.s.lo, .int .i64 x0.s.hi]⟩ := Array.ext' l0
  have e1 : c1 = ⟨[.int .u64 x1.t.v, .int .u64 x1.t.m, .int .u64 x1.u.lo, .int .u64 x1.u.hi, .int .i64 x1.s.lo, .int .i64 x1.s.hi]⟩ := Array.ext' l1
  clear hA0 hval0
  subst e0 e1
  have hkeep := K_lockgatelaw05_ScalarSets.calls [cSc.enc x0, cSc.enc x1, (cI .u64).enc x2, (cI .i64).enc x3] (cB.enc (lockgatelaw05_ScalarSets x0 x1 x2 x3)) _ rfl
  obtain ⟨_, _, hk⟩ := hkeep
  obtain ⟨v, hv, hcalls⟩ := hk ⟨decide_eq_true V0, decide_eq_true V1, decide_eq_true V2, trivial⟩ (valsOf [cSc.enc x0, cSc.enc x1, (cI .u64).enc x2, (cI .i64).enc x3]) ((RL_valsOf (by rfl)).2 rfl)
  rw [ScalarSets_ok V0 V1 V2] at hv
  have hv' : v = .bool true := by simpa [cB, SX.R] using hv
  subst hv'
  refine (hcalls W).mono fun e W' ⟨he, hg⟩ => ?_
  subst he
  refine ⟨_, rfl, _, _, _, [], [], [], hW', trodAll_cons_mk (shut_bool Tryz.underlying4 _) trodAll_mk0, hagain _ _ _ _, rfl, hg.frame _, fun h => by cases h⟩
theorem over : Rows.scalarSetsRow.holds Tryz.pinned (OpenSpec.ofChange Rows.scalarSetsSpec) :=
  OpenClaim.holds_of_wide 5 Tryz.f5 rfl rfl rfl rfl rfl rfl rfl ⟨rfl, rfl, rfl, rfl, rfl⟩ rfl rfl rfl rfl rfl (by kernel_rfl) Tryz.func5 (by kernel_rfl)
    (of_decide_eq_true (by kernel_rfl)) (by unfold Func.isWrapper; first | (rw [if_pos (by decide +kernel)]; kernel_rfl) | (rw [if_neg (by decide +kernel)]; exact ⟨rfl, rfl⟩))
    (fun os started H enc _ => lifted os started H enc)
theorem proved : Rows.ScalarSetsSaid := over
#print axioms proved
end Go.Proofs.YtneejoienmffmaaGreat.scalarSets
