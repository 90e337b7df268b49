/-
  ScalarBranch returns true for every input, and leaves its arguments as they were. No condition.
-/
import Derived.Test.YtneejoienmffmaaGreatRows
import Derived.WalkKit
import Derived.ProofKit
import Derived.OpenShut
import Derived.Test.YtneejoienmffmaaGreatWScalarBranch
import Derived.Test.YtneejoienmffmaaGreatN17
import Derived.Test.YtneejoienmffmaaGreatOP
namespace Go.Proofs.YtneejoienmffmaaGreat.scalarBranch
open Go Go.ChangeShapes Go.WideShapes Go.ChangeAt Go.RowKit Go.Proofs.SX Go.Proofs.T
set_option linter.unusedVariables false
theorem own : ownKnob Tryz.prog.godebug = none := by kernel_rfl
theorem flat3 : flatK Tryz.prog 20 3 = some [some .i64] := by kernel_rfl
theorem flat4 : flatK Tryz.prog 20 4 = some [none] := by kernel_rfl
theorem flat30 : flatK Tryz.prog 20 30 = some ksSc := by kernel_rfl
set_option maxRecDepth 100000 in
theorem lifted (os : Os) (started : os.Started) (H : Type) (enc : TypeId × Value → H) :
    ReturnsInHanded {} Tryz.checked os 4 .any (Rows.scalarBranchSpec.pre6 enc Tryz.prog Tryz.f4 Rows.scalarBranchRow.domain false) (Rows.scalarBranchSpec.post enc Tryz.prog Tryz.f4 false true false false) := by
  refine returnsInHanded_of_change (C := Tryz.checked) own started (by kernel_rfl) Tryz.func4
    (ChangeSpec.witness6 (enc := enc) (C := Tryz.checked) false ⟨#[], #[.int .i64 0, .bool false, .bool false, .agg #[.int .u64 0, .int .u64 0, .int .u64 0, .int .u64 0, .int .i64 0, .int .i64 0], .agg #[.int .u64 0, .int .u64 0, .int .u64 0, .int .u64 0, .int .i64 0, .int .i64 0]], []⟩ 8 (by kernel_rfl) (by kernel_rfl) (by kernel_rfl) (by kernel_rfl)) ?_
  intro W base args ds gs before hval0 hW hcnd _
  have hval : ∀ (j : Nat) t v, Tryz.f4.params[j]? = some t → args[j]? = some v → Value.okWide Tryz.prog W .any base t v := hval0
  have hW' := hW
  obtain ⟨p, q, hA0, hV, rfl, hfz, hnd⟩ := hW
  have hA : DataW.TrodAll enc Tryz.prog W 0 (fun _ => true) true Tryz.f4.params.toList args.toList ds p := hA0
  have hall := flat_all (ts := Tryz.f4.params.toList) (by
    rw [Tryz.params4]
    intro t ht
    have ht : t ∈ ([3, 4, 4, 30, 30] : List Nat) := ht
    simp only [List.mem_cons, List.not_mem_nil, or_false] at ht
    rcases ht with rfl | rfl | rfl | rfl | rfl
    · exact ⟨_, _, flat3⟩
    · exact ⟨_, _, flat4⟩
    · exact ⟨_, _, flat4⟩
    · exact ⟨_, _, flat30⟩
    · exact ⟨_, _, flat30⟩) hA
  obtain ⟨rfl, hagain⟩ := hall
  have hds := hA
  rw [Tryz.params4] at hA hval
  obtain ⟨v0, vs0, d0, ds0, p0, q0, hargs, rfl, hp0, h0, r0⟩ := trodAll_cons hA
  obtain ⟨v1, vs1, d1, ds1, p1, q1, rfl, rfl, rfl, h1, r1⟩ := trodAll_cons r0
  obtain ⟨v2, vs2, d2, ds2, p2, q2, rfl, rfl, rfl, h2, r2⟩ := trodAll_cons r1
  obtain ⟨v3, vs3, d3, ds3, p3, q3, rfl, rfl, rfl, h3, r3⟩ := trodAll_cons r2
  obtain ⟨v4, vs4, d4, ds4, p4, q4, rfl, rfl, rfl, h4, r4⟩ := trodAll_cons r3
  obtain ⟨rfl, rfl, rfl⟩ := trodAll_nil r4
  obtain rfl : args = #[v0, v1, v2, v3, v4] := Array.ext' hargs
  obtain ⟨rfl, rfl⟩ := trodVars_none hV
  obtain ⟨c3, rfl, _⟩ := okWide_struct Tryz.underlying30 (hval 3 30 v3 rfl rfl)
  obtain ⟨c4, rfl, _⟩ := okWide_struct Tryz.underlying30 (hval 4 30 v4 rfl rfl)
  obtain ⟨x0, rfl, _, _, w0⟩ := open_int Tryz.underlying3 (hval 0 3 v0 rfl rfl) h0
  have V0 := wf_i64 w0
  obtain ⟨x1, rfl, _, _⟩ := open_bool Tryz.underlying4 (hval 1 4 v1 rfl rfl) h1
  obtain ⟨x2, rfl, _, _⟩ := open_bool Tryz.underlying4 (hval 2 4 v2 rfl rfl) h2
  obtain ⟨x3, V3, l3⟩ := leafs_Sc (flat_cells flat30 h3)
  obtain ⟨x4, V4, l4⟩ := leafs_Sc (flat_cells flat30 h4)
  have e3 : c3 = ⟨[.int .u64 x3.t.v, .int .u64 x3.t.m, .int .u64 x3.u.lo, .int .u64 x3.u.hi, .int .i64 x3.s.lo, .int .i64 x3.s.hi]⟩ := Array.ext' l3
  have e4 : c4 = ⟨[.int .u64 x4.t.v, .int .u64 x4.t.m, .int .u64 x4.u.lo, .int .u64 x4.u.hi, .int .i64 x4.s.lo, .int .i64 x4.s.hi]⟩ := Array.ext' l4
  clear hA0 hval0
  subst e3 e4
  have hkeep := K_lockgatelaw05_ScalarBranch.calls [(cI .i64).enc x0, cB.enc x1, cB.enc x2, cSc.enc x3, cSc.enc x4] (cB.enc (lockgatelaw05_ScalarBranch x0 x1 x2 x3 x4)) _ rfl
  obtain ⟨_, _, hk⟩ := hkeep
  obtain ⟨v, hv, hcalls⟩ := hk ⟨decide_eq_true V3, decide_eq_true V4, trivial⟩ (valsOf [(cI .i64).enc x0, cB.enc x1, cB.enc x2, cSc.enc x3, cSc.enc x4]) ((RL_valsOf (by rfl)).2 rfl)
  rw [ScalarBranch_ok V3 V4] at hv
  have hv' : v = .bool true := by simpa [cB, SX.R] using hv
  subst hv'
  refine (hcalls W).mono fun e W' ⟨he, hg⟩ => ?_
  subst he
  refine ⟨_, rfl, _, _, _, [], [], [], hW', trodAll_cons_mk (shut_bool Tryz.underlying4 _) trodAll_mk0, hagain _ _ _ _, rfl, hg.frame _, fun h => by cases h⟩
theorem over : Rows.scalarBranchRow.holds Tryz.pinned (OpenSpec.ofChange Rows.scalarBranchSpec) :=
  OpenClaim.holds_of_wide 4 Tryz.f4 rfl rfl rfl rfl rfl rfl rfl ⟨rfl, rfl, rfl, rfl, rfl⟩ rfl rfl rfl rfl rfl (by kernel_rfl) Tryz.func4 (by kernel_rfl)
    (of_decide_eq_true (by kernel_rfl)) (by unfold Func.isWrapper; first | (rw [if_pos (by decide +kernel)]; kernel_rfl) | (rw [if_neg (by decide +kernel)]; exact ⟨rfl, rfl⟩))
    (fun os started H enc _ => lifted os started H enc)
theorem proved : Rows.ScalarBranchSaid := over
#print axioms proved
end Go.Proofs.YtneejoienmffmaaGreat.scalarBranch
