/-
  ScalarAlone returns true for every input, and leaves its arguments as they were. No condition.
-/
import Derived.Test.YtneejoienmffmaaRows
import Derived.WalkKit
import Derived.ProofKit
import Derived.OpenShut
import Derived.Test.YtneejoienmffmaaWScalarAlone
import Derived.Test.YtneejoienmffmaaM12
import Derived.Test.YtneejoienmffmaaOP
namespace Go.Proofs.Ytneejoienmffmaa.scalarAlone
open Go Go.ChangeShapes Go.WideShapes Go.ChangeAt Go.RowKit Go.Proofs.SX Go.Proofs.T
set_option linter.unusedVariables false
theorem own : ownKnob Try.prog.godebug = none := by kernel_rfl
theorem flat3 : flatK Try.prog 20 3 = some [some .i64] := by kernel_rfl
theorem flat4 : flatK Try.prog 20 4 = some [none] := by kernel_rfl
theorem flat22 : flatK Try.prog 20 22 = some [some .u64] := by kernel_rfl
set_option maxRecDepth 100000 in
theorem lifted (os : Os) (started : os.Started) (H : Type) (enc : TypeId × Value → H) :
    ReturnsInHanded {} Try.checked os 8 .any (Rows.scalarAloneSpec.pre6 enc Try.prog Try.f8 Rows.scalarAloneRow.domain false) (Rows.scalarAloneSpec.post enc Try.prog Try.f8 false true false false) := by
  refine returnsInHanded_of_change (C := Try.checked) own started (by kernel_rfl) Try.func8
    (ChangeSpec.witness6 (enc := enc) (C := Try.checked) false ⟨#[], #[.int .i64 0, .bool false, .int .u64 0, .int .u64 0], []⟩ 8 (by kernel_rfl) (by kernel_rfl) (by kernel_rfl) (by kernel_rfl)) ?_
  intro W base args ds gs before hval0 hW hcnd _
  have hval : ∀ (j : Nat) t v, Try.f8.params[j]? = some t → args[j]? = some v → Value.okWide Try.prog W .any base t v := hval0
  have hW' := hW
  obtain ⟨p, q, hA0, hV, rfl, hfz, hnd⟩ := hW
  have hA : DataW.TrodAll enc Try.prog W 0 (fun _ => true) true Try.f8.params.toList args.toList ds p := hA0
  have hall := flat_all (ts := Try.f8.params.toList) (by
    rw [Try.params8]
    intro t ht
    have ht : t ∈ ([3, 4, 22, 22] : List Nat) := ht
    simp only [List.mem_cons, List.not_mem_nil, or_false] at ht
    rcases ht with rfl | rfl | rfl | rfl
    · exact ⟨_, _, flat3⟩
    · exact ⟨_, _, flat4⟩
    · exact ⟨_, _, flat22⟩
    · exact ⟨_, _, flat22⟩) hA
  obtain ⟨rfl, hagain⟩ := hall
  have hds := hA
  rw [Try.params8] at hA hval
  obtain ⟨v0, vs0, d0, ds0, p0, q0, hargs, rfl, hp0, h0, r0⟩ := trodAll_cons hA
  obtain ⟨v1, vs1, d1, ds1, p1, q1, rfl, rfl, rfl, h1, r1⟩ := trodAll_cons r0
  obtain ⟨v2, vs2, d2, ds2, p2, q2, rfl, rfl, rfl, h2, r2⟩ := trodAll_cons r1
  obtain ⟨v3, vs3, d3, ds3, p3, q3, rfl, rfl, rfl, h3, r3⟩ := trodAll_cons r2
  obtain ⟨rfl, rfl, rfl⟩ := trodAll_nil r3
  obtain rfl : args = #[v0, v1, v2, v3] := Array.ext' hargs
  obtain ⟨rfl, rfl⟩ := trodVars_none hV
  obtain ⟨x0, rfl, _, _, w0⟩ := open_int Try.underlying3 (hval 0 3 v0 rfl rfl) h0
  have V0 := wf_i64 w0
  obtain ⟨x1, rfl, _, _⟩ := open_bool Try.underlying4 (hval 1 4 v1 rfl rfl) h1
  obtain ⟨x2, rfl, _, _, w2⟩ := open_int Try.underlying22 (hval 2 22 v2 rfl rfl) h2
  have V2 := wf_u64 w2
  obtain ⟨x3, rfl, _, _, w3⟩ := open_int Try.underlying22 (hval 3 22 v3 rfl rfl) h3
  have V3 := wf_u64 w3
  clear hA0 hval0
  have hkeep := K_lockgatelaw05_ScalarAlone.calls [(cI .i64).enc x0, cB.enc x1, (cI .u64).enc x2, (cI .u64).enc x3] (cB.enc (lockgatelaw05_ScalarAlone x0 x1 x2 x3)) _ rfl
  obtain ⟨_, _, hk⟩ := hkeep
  obtain ⟨v, hv, hcalls⟩ := hk ⟨decide_eq_true V2, decide_eq_true V3, trivial⟩ (valsOf [(cI .i64).enc x0, cB.enc x1, (cI .u64).enc x2, (cI .u64).enc x3]) ((RL_valsOf (by rfl)).2 rfl)
  rw [ScalarAlone_ok V2 V3] at hv
  have hv' : v = .bool true := by simpa [cB, SX.R] using hv
  subst hv'
  refine (hcalls W).mono fun e W' ⟨he, hg⟩ => ?_
  subst he
  refine ⟨_, rfl, _, _, _, [], [], [], hW', trodAll_cons_mk (shut_bool Try.underlying4 _) trodAll_mk0, hagain _ _ _ _, rfl, hg.frame _, fun h => by cases h⟩
theorem over : Rows.scalarAloneRow.holds Try.pinned (OpenSpec.ofChange Rows.scalarAloneSpec) :=
  OpenClaim.holds_of_wide 8 Try.f8 rfl rfl rfl rfl rfl rfl rfl ⟨rfl, rfl, rfl, rfl, rfl⟩ rfl rfl rfl rfl rfl (by kernel_rfl) Try.func8 (by kernel_rfl)
    (of_decide_eq_true (by kernel_rfl)) (by unfold Func.isWrapper; first | (rw [if_pos (by decide +kernel)]; kernel_rfl) | (rw [if_neg (by decide +kernel)]; exact ⟨rfl, rfl⟩))
    (fun os started H enc _ => lifted os started H enc)
theorem proved : Rows.ScalarAloneSaid := over
#print axioms proved
end Go.Proofs.Ytneejoienmffmaa.scalarAlone
