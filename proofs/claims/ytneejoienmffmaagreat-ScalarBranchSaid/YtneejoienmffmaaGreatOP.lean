/-
  Arguments by their cells.
-/
import Derived.Test.YtneejoienmffmaaGreatD
import Derived.Test.YtneejoienmffmaaGreatM5
import Derived.Test.YtneejoienmffmaaGreatFL
set_option linter.unusedVariables false
set_option maxRecDepth 100000
namespace Go.Proofs.T
open Go Go.Proofs Go.Proofs.SX
/-! ### Arguments by their cells -/
def ksSc : List (Option IntKind) := [some .u64, some .u64, some .u64, some .u64, some .i64, some .i64]
def ksAR : List (Option IntKind) := [some .i64, some .u64, some .u64, some .u64, some .u64, some .i64, some .i64, some .i64, some .i64, some .i64, some .i64]
def ksVl : List (Option IntKind) := [some .i64, some .u64, some .i64]
theorem wf_u64 {n : Int} (h : (Lit.int .u64 n).wf = true) : 0 ≤ n ∧ n < 18446744073709551616 := by
  simp [Lit.wf, IntKind.min, IntKind.max, IntKind.signed, IntKind.bits] at h
  omega
theorem wf_i64 {n : Int} (h : (Lit.int .i64 n).wf = true) : -9223372036854775808 ≤ n ∧ n < 9223372036854775808 := by
  simp [Lit.wf, IntKind.min, IntKind.max, IntKind.signed, IntKind.bits] at h
  omega
theorem leaf_int {k : IntKind} {ks : List (Option IntKind)} {l : List Value} (h : LeafsOk (some k :: ks) l) : ∃ n vs, l = .int k n :: vs ∧ (Lit.int k n).wf = true ∧ LeafsOk ks vs := by
  cases l with
  | nil => exact h.elim
  | cons v vs =>
    obtain ⟨⟨n, rfl, hn⟩, h2⟩ := h
    exact ⟨n, vs, rfl, hn, h2⟩
theorem leaf_nil {l : List Value} (h : LeafsOk [] l) : l = [] := by
  cases l with
  | nil => rfl
  | cons v vs => exact h.elim
theorem leafs_Sc {l : List Value} (h : LeafsOk ksSc l) : ∃ x : Sc, VSc x ∧ l = [.int .u64 x.t.v, .int .u64 x.t.m, .int .u64 x.u.lo, .int .u64 x.u.hi, .int .i64 x.s.lo, .int .i64 x.s.hi] := by
  obtain ⟨a, l0, rfl, wa, h0⟩ := leaf_int h
  obtain ⟨b, l1, rfl, wb, h1⟩ := leaf_int h0
  obtain ⟨c, l2, rfl, wc, h2⟩ := leaf_int h1
  obtain ⟨d, l3, rfl, wd, h3⟩ := leaf_int h2
  obtain ⟨e, l4, rfl, we, h4⟩ := leaf_int h3
  obtain ⟨f, l5, rfl, wf, h5⟩ := leaf_int h4
  obtain rfl := leaf_nil h5
  refine ⟨⟨⟨a, b⟩, ⟨c, d⟩, ⟨e, f⟩⟩, ?_, rfl⟩
  have ha := wf_u64 wa; have hb := wf_u64 wb; have hc := wf_u64 wc; have hd := wf_u64 wd; have he := wf_i64 we; have hf := wf_i64 wf
  unfold VSc VTn VUs VSs; dsimp only; omega
def VARg (r : AR) : Prop := VSc r.num ∧ (-9223372036854775808 ≤ r.kind ∧ r.kind < 9223372036854775808) ∧ (-9223372036854775808 ≤ r.off ∧ r.off < 9223372036854775808) ∧ (-9223372036854775808 ≤ r.id ∧ r.id < 9223372036854775808) ∧ (-9223372036854775808 ≤ r.rng ∧ r.rng < 9223372036854775808) ∧ (-9223372036854775808 ≤ r.mp ∧ r.mp < 9223372036854775808)
theorem leafs_AR {l : List Value} (h : LeafsOk ksAR l) : ∃ x : AR, VARg x ∧ l = [.int .i64 x.kind, .int .u64 x.num.t.v, .int .u64 x.num.t.m, .int .u64 x.num.u.lo, .int .u64 x.num.u.hi, .int .i64 x.num.s.lo, .int .i64 x.num.s.hi, .int .i64 x.off, .int .i64 x.id, .int .i64 x.rng, .int .i64 x.mp] := by
  obtain ⟨k, l0, rfl, wk, h0⟩ := leaf_int h
  obtain ⟨a, l1, rfl, wa, h1⟩ := leaf_int h0
  obtain ⟨b, l2, rfl, wb, h2⟩ := leaf_int h1
  obtain ⟨c, l3, rfl, wc, h3⟩ := leaf_int h2
  obtain ⟨d, l4, rfl, wd, h4⟩ := leaf_int h3
  obtain ⟨e, l5, rfl, we, h5⟩ := leaf_int h4
  obtain ⟨f, l6, rfl, wf, h6⟩ := leaf_int h5
  obtain ⟨g, l7, rfl, wg, h7⟩ := leaf_int h6
  obtain ⟨i, l8, rfl, wi, h8⟩ := leaf_int h7
  obtain ⟨j, l9, rfl, wj, h9⟩ := leaf_int h8
  obtain ⟨o, l10, rfl, wo, h10⟩ := leaf_int h9
  obtain rfl := leaf_nil h10
  refine ⟨⟨k, ⟨⟨a, b⟩, ⟨c, d⟩, ⟨e, f⟩⟩, g, i, j, o⟩, ?_, rfl⟩
  have hk := wf_i64 wk; have ha := wf_u64 wa; have hb := wf_u64 wb; have hc := wf_u64 wc; have hd := wf_u64 wd; have he := wf_i64 we; have hf := wf_i64 wf; have hg := wf_i64 wg; have hi := wf_i64 wi; have hj := wf_i64 wj; have ho := wf_i64 wo
  unfold VARg VSc VTn VUs VSs; dsimp only; omega
theorem leafs_Vl {l : List Value} (h : LeafsOk ksVl l) : ∃ x : Vl, ((-9223372036854775808 ≤ x.kind ∧ x.kind < 9223372036854775808) ∧ (0 ≤ x.n ∧ x.n < 18446744073709551616) ∧ (-9223372036854775808 ≤ x.id ∧ x.id < 9223372036854775808)) ∧ l = [.int .i64 x.kind, .int .u64 x.n, .int .i64 x.id] := by
  obtain ⟨k, l0, rfl, wk, h0⟩ := leaf_int h
  obtain ⟨a, l1, rfl, wa, h1⟩ := leaf_int h0
  obtain ⟨b, l2, rfl, wb, h2⟩ := leaf_int h1
  obtain rfl := leaf_nil h2
  refine ⟨⟨k, a, b⟩, ?_, rfl⟩
  have hk := wf_i64 wk; have ha := wf_u64 wa; have hb := wf_i64 wb
  dsimp only; omega
end Go.Proofs.T
