/-
  The functions of the program keep their contracts: what they make is what the functions of plain data say.
-/
import Derived.Test.YtneejoienmffmaaD
import Derived.Test.YtneejoienmffmaaM
import Derived.Test.YtneejoienmffmaaProg
import Derived.KernelRfl
set_option linter.unusedVariables false
set_option maxRecDepth 100000
namespace Go.Proofs.T
open Go Go.Proofs Go.Proofs.SX
theorem mix : Try.prog.follows .mixedOrders = true := by kernel_rfl
theorem on_ : OrcOk Try.prog ⟨[], []⟩ := orc_nil
theorem L_lockgateref03_In : ∀ (n : Nat) (a : Tn) (b : Int) (v0 : Int) (q0 : 0 ≤ v0) (o : Out (Int) Bool), lockgateref03_In_L a b n v0 = some o → (match o with
  | .brk z => (0 ≤ z) ∧ LG Try.prog (inn (inn (snd (fst (snd (bodyOf Try.f82)))))) n (lockgateref03_In_I a b v0) (.exit 0) (lockgateref03_In_I a b z)
  | .ret r => LG Try.prog (inn (inn (snd (fst (snd (bodyOf Try.f82)))))) n (lockgateref03_In_I a b v0) .ret (lockgateref03_In_F r)) := by
  intro n
  have O_ := on_
  induction n with
  | zero => intro a b v0 q0 o h; simp only [lockgateref03_In_L] at h; cases h
  | succ n ih =>
    intro a b v0 q0 o h
    rw [lockgateref03_In_L] at h
    by_cases h0 : v0 < 64
    · rw [if_pos h0] at h
      by_cases h1 : (Int.tmod (shr .u64 a.m v0) 2) = 0
      · rw [if_pos h1] at h
        by_cases h2 : (Int.tmod (shr .u64 a.v v0) 2) = (Int.tmod (shr .u64 b v0) 2)
        · rw [if_pos h2] at h
          have H := ih a b (IntKind.u64.wrap (v0 + 1)) (by exact wrapu_nonneg) o h
          cases o with
          | brk z => exact ⟨H.1, lg_next (cg_of mix O_ 400 [t0, f0, (1, true), t0, t0, t0, f0, t0, (1, true), t0, t0, f0, t0, (1, true), t0, f0] ([true, true, true, false, true, true, false, false, false, false, false, false, false, false, false, false, false, false, false, false, false, false, false, false, false, false, false, false], [true]) (ai (dt h0) (ai ((df (by first | exact Int.not_lt.2 (Int.tmod_nonneg _ (by assumption)) | exact Int.not_lt.2 (Int.tmod_nonneg _ wrapu_nonneg) | exact Int.not_lt.2 bits_nonneg | omega | (rw [wrap_i64_id (by omega) (by omega)]; omega))) : decide (v0 < 0) = false) (ai (be h1) (ai (be h1) (ai (be h1) (ai (be h1) (ai ((df (by first | exact Int.not_lt.2 (Int.tmod_nonneg _ (by assumption)) | exact Int.not_lt.2 (Int.tmod_nonneg _ wrapu_nonneg) | exact Int.not_lt.2 bits_nonneg | omega | (rw [wrap_i64_id (by omega) (by omega)]; omega))) : decide (v0 < 0) = false) (ai (be h1) (ai (be h1) (ai (be h1) (ai (be h1) (ai ((df (by first | exact Int.not_lt.2 (Int.tmod_nonneg _ (by assumption)) | exact Int.not_lt.2 (Int.tmod_nonneg _ wrapu_nonneg) | exact Int.not_lt.2 bits_nonneg | omega | (rw [wrap_i64_id (by omega) (by omega)]; omega))) : decide (v0 < 0) = false) (ai (be h1) (ai (be h1) (ai (be h1) (ai (bne_eq_false_iff_eq.2 h2) trivial)))))))))))))))) (by kernel_rfl)) H.2⟩
          | ret r => exact lg_next (cg_of mix O_ 400 [t0, f0, (1, true), t0, t0, t0, f0, t0, (1, true), t0, t0, f0, t0, (1, true), t0, f0] ([true, true, true, false, true, true, false, false, false, false, false, false, false, false, false, false, false, false, false, false, false, false, false, false, false, false, false, false], [true]) (ai (dt h0) (ai ((df (by first | exact Int.not_lt.2 (Int.tmod_nonneg _ (by assumption)) | exact Int.not_lt.2 (Int.tmod_nonneg _ wrapu_nonneg) | exact Int.not_lt.2 bits_nonneg | omega | (rw [wrap_i64_id (by omega) (by omega)]; omega))) : decide (v0 < 0) = false) (ai (be h1) (ai (be h1) (ai (be h1) (ai (be h1) (ai ((df (by first | exact Int.not_lt.2 (Int.tmod_nonneg _ (by assumption)) | exact Int.not_lt.2 (Int.tmod_nonneg _ wrapu_nonneg) | exact Int.not_lt.2 bits_nonneg | omega | (rw [wrap_i64_id (by omega) (by omega)]; omega))) : decide (v0 < 0) = false) (ai (be h1) (ai (be h1) (ai (be h1) (ai (be h1) (ai ((df (by first | exact Int.not_lt.2 (Int.tmod_nonneg _ (by assumption)) | exact Int.not_lt.2 (Int.tmod_nonneg _ wrapu_nonneg) | exact Int.not_lt.2 bits_nonneg | omega | (rw [wrap_i64_id (by omega) (by omega)]; omega))) : decide (v0 < 0) = false) (ai (be h1) (ai (be h1) (ai (be h1) (ai (bne_eq_false_iff_eq.2 h2) trivial)))))))))))))))) (by kernel_rfl)) H
        · rw [if_neg h2] at h
          cases h
          exact lg_ret (cg_of mix O_ 400 [t0, f0, (1, true), t0, t0, t0, f0, t0, (1, true), t0, t0, f0, t0, (1, true), t0, t0] ([false, false, false, false, true, false, false, false, false, false, false, false, false, false, false, false, false, false, false, false, false, false, false, false, false, false, false, false], [false]) (ai (dt h0) (ai ((df (by first | exact Int.not_lt.2 (Int.tmod_nonneg _ (by assumption)) | exact Int.not_lt.2 (Int.tmod_nonneg _ wrapu_nonneg) | exact Int.not_lt.2 bits_nonneg | omega | (rw [wrap_i64_id (by omega) (by omega)]; omega))) : decide (v0 < 0) = false) (ai (be h1) (ai (be h1) (ai (be h1) (ai (be h1) (ai ((df (by first | exact Int.not_lt.2 (Int.tmod_nonneg _ (by assumption)) | exact Int.not_lt.2 (Int.tmod_nonneg _ wrapu_nonneg) | exact Int.not_lt.2 bits_nonneg | omega | (rw [wrap_i64_id (by omega) (by omega)]; omega))) : decide (v0 < 0) = false) (ai (be h1) (ai (be h1) (ai (be h1) (ai (be h1) (ai ((df (by first | exact Int.not_lt.2 (Int.tmod_nonneg _ (by assumption)) | exact Int.not_lt.2 (Int.tmod_nonneg _ wrapu_nonneg) | exact Int.not_lt.2 bits_nonneg | omega | (rw [wrap_i64_id (by omega) (by omega)]; omega))) : decide (v0 < 0) = false) (ai (be h1) (ai (be h1) (ai (be h1) (ai (bne_iff_ne.2 h2) trivial)))))))))))))))) (by kernel_rfl))
      · rw [if_neg h1] at h
        have H := ih a b (IntKind.u64.wrap (v0 + 1)) (by exact wrapu_nonneg) o h
        cases o with
        | brk z => exact ⟨H.1, lg_next (cg_of mix O_ 400 [t0, f0, (1, false), f0, f0, f0, f0, f0, f0, f0, f0, f0, f0] ([true, true, true, false, true, true, false, false, false, false, false, false, false, false, false, false, false, false, false, false, false, false, false, false, false, false, false, false], [true]) (ai (dt h0) (ai ((df (by first | exact Int.not_lt.2 (Int.tmod_nonneg _ (by assumption)) | exact Int.not_lt.2 (Int.tmod_nonneg _ wrapu_nonneg) | exact Int.not_lt.2 bits_nonneg | omega | (rw [wrap_i64_id (by omega) (by omega)]; omega))) : decide (v0 < 0) = false) (ai (bn h1) (ai (bn h1) (ai (bn h1) (ai (bn h1) (ai (bn h1) (ai (bn h1) (ai (bn h1) (ai (bn h1) (ai (bn h1) (ai (bn h1) (ai (bn h1) trivial))))))))))))) (by kernel_rfl)) H.2⟩
        | ret r => exact lg_next (cg_of mix O_ 400 [t0, f0, (1, false), f0, f0, f0, f0, f0, f0, f0, f0, f0, f0] ([true, true, true, false, true, true, false, false, false, false, false, false, false, false, false, false, false, false, false, false, false, false, false, false, false, false, false, false], [true]) (ai (dt h0) (ai ((df (by first | exact Int.not_lt.2 (Int.tmod_nonneg _ (by assumption)) | exact Int.not_lt.2 (Int.tmod_nonneg _ wrapu_nonneg) | exact Int.not_lt.2 bits_nonneg | omega | (rw [wrap_i64_id (by omega) (by omega)]; omega))) : decide (v0 < 0) = false) (ai (bn h1) (ai (bn h1) (ai (bn h1) (ai (bn h1) (ai (bn h1) (ai (bn h1) (ai (bn h1) (ai (bn h1) (ai (bn h1) (ai (bn h1) (ai (bn h1) trivial))))))))))))) (by kernel_rfl)) H
    · rw [if_neg h0] at h
      cases h
      exact ⟨(by first | assumption | (exact wrapu_nonneg)), lg_exit (cg_of mix O_ 400 [f0] ([true, true, true, false, true, true, false, false, false, false, false, false, false, false, false, false, false, false, false, false, false, false, false, false, false, false, false, false], [true]) (ai (df h0) trivial) (by kernel_rfl))⟩
theorem K_lockgateref03_In : Keeps Try.prog 82 (F2 cTn (cI .u64) cB (fun _ _ => []) lockgateref03_In) := by
  refine keeps2 _ _ _ (enters_of Try.func82 (by kernel_rfl)) fun a b hp_ => ?_
  unfold lockgateref03_In
  cases hL : lockgateref03_In_L a b 65 0 with
  | none => exact absurd hL (T_lockgateref03_In a b)
  | some o =>
    have H := L_lockgateref03_In 65 a b 0 (by decide) o hL
    cases o with
    | ret r => exact gives_cg (s' := lockgateref03_In_F r) Try.func82 rfl rfl (cg_seq (s1 := ⟨[.agg [.int .u64 a.v, .int .u64 a.m], .int .u64 b, .ptr 0 0, .tup [], .bool false, .tup [], .tup [], .tup [], .tup [], .tup [], .tup [], .tup [], .tup [], .tup [], .tup [], .tup [], .tup [], .tup [], .tup [], .tup [], .tup [], .tup [], .tup [], .tup [], .tup [], .tup [], .tup [], .tup []], [.cells [.int .u64 a.v, .int .u64 a.m]]⟩) (cg_of mix on_ 400 [] ([true, true, true, true, true, true, true, true, true, true, true, true, true, true, true, true, true, true, true, true, true, true, true, true, true, true, true, true], []) trivial (by kernel_rfl)) (cg_seq_ret (cg_seq (cg_of mix on_ 400 [] ([true, true, true, false, true, true, false, false, false, false, false, false, false, false, false, false, false, false, false, false, false, false, false, false, false, false, false, false], [true]) trivial (by kernel_rfl)) (cg_block_ret (cg_loop H))))) rfl (by kernel_rfl)
    | brk z =>
      obtain ⟨e0, H⟩ := H
      exact gives_cg (s' := lockgateref03_In_F true) Try.func82 rfl rfl (cg_seq (s1 := ⟨[.agg [.int .u64 a.v, .int .u64 a.m], .int .u64 b, .ptr 0 0, .tup [], .bool false, .tup [], .tup [], .tup [], .tup [], .tup [], .tup [], .tup [], .tup [], .tup [], .tup [], .tup [], .tup [], .tup [], .tup [], .tup [], .tup [], .tup [], .tup [], .tup [], .tup [], .tup [], .tup [], .tup []], [.cells [.int .u64 a.v, .int .u64 a.m]]⟩) (cg_of mix on_ 400 [] ([true, true, true, true, true, true, true, true, true, true, true, true, true, true, true, true, true, true, true, true, true, true, true, true, true, true, true, true], []) trivial (by kernel_rfl)) (cg_seq (cg_seq (cg_of mix on_ 400 [] ([true, true, true, false, true, true, false, false, false, false, false, false, false, false, false, false, false, false, false, false, false, false, false, false, false, false, false, false], [true]) trivial (by kernel_rfl)) (cg_block (cg_loop H))) (cg_of mix on_ 400 [] ([false, false, false, false, true, false, false, false, false, false, false, false, false, false, false, false, false, false, false, false, false, false, false, false, false, false, false, false], [false]) trivial (by kernel_rfl)))) rfl (by kernel_rfl)
theorem L_lockgateref03_Meet : ∀ (n : Nat) (a : Tn) (b : Tn) (v0 : Int) (v1 : Int) (v2 : Int) (q0 : 0 ≤ v0) (o : Out (Int × Int × Int) (Tn × Bool)), lockgateref03_Meet_L a b n v0 v1 v2 = some o → (match o with
  | .brk z => (0 ≤ z.1) ∧ LG Try.prog (inn (inn (snd (fst (snd (snd (bodyOf Try.f128))))))) n (lockgateref03_Meet_I a b v0 v1 v2) (.exit 0) (lockgateref03_Meet_I a b z.1 z.2.1 z.2.2)
  | .ret r => LG Try.prog (inn (inn (snd (fst (snd (snd (bodyOf Try.f128))))))) n (lockgateref03_Meet_I a b v0 v1 v2) .ret (lockgateref03_Meet_F r)) := by
  intro n
  have O_ := on_
  induction n with
  | zero => intro a b v0 v1 v2 q0 o h; simp only [lockgateref03_Meet_L] at h; cases h
  | succ n ih =>
    intro a b v0 v1 v2 q0 o h
    rw [lockgateref03_Meet_L] at h
    by_cases h0 : v0 < 64
    · rw [if_pos h0] at h
      by_cases h1 : (Int.tmod (shr .u64 a.m v0) 2) = 0
      · rw [if_pos h1] at h
        by_cases h2 : (Int.tmod (shr .u64 b.m v0) 2) = 0
        · rw [if_pos h2] at h
          by_cases h3 : (Int.tmod (shr .u64 a.v v0) 2) = (Int.tmod (shr .u64 b.v v0) 2)
          · rw [if_pos h3] at h
            have H := ih a b (IntKind.u64.wrap (v0 + 1)) (Go.bits .or .u64 v1 (shl .u64 (Int.tmod (shr .u64 (Go.bits .or .u64 a.v b.v) v0) 2) v0)) v2 (by exact wrapu_nonneg) o h
            cases o with
            | brk z => exact ⟨H.1, lg_next (cg_of mix O_ 400 [t0, f0, (1, false), (1, true), t0, t0, t0, t0, t0, f0, t0, (1, true), t0, t0, t0, f0, t0, (1, true), t0, f0, f0, f0, f0, (1, false), (1, false)] ([true, true, true, true, true, true, true, true, false, false, false, false, false, false, false, false, false, false, false, false, false, false, false, false, false, false, false, false, false, false, false, false, false, false, false, false, false, false, false, false, false, false, false, false, false, false, false, false, false, false, false, false, false, false, false, false, false, false, false, false, false, false, false, false, false, false, false, false, false, false, false], [true, true, true, true]) (ai (dt h0) (ai ((df (by first | exact Int.not_lt.2 (Int.tmod_nonneg _ (by assumption)) | exact Int.not_lt.2 (Int.tmod_nonneg _ wrapu_nonneg) | exact Int.not_lt.2 bits_nonneg | omega | (rw [wrap_i64_id (by omega) (by omega)]; omega))) : decide (v0 < 0) = false) (ai ((df (by first | exact Int.not_lt.2 (Int.tmod_nonneg _ (by assumption)) | exact Int.not_lt.2 (Int.tmod_nonneg _ wrapu_nonneg) | exact Int.not_lt.2 bits_nonneg | omega | (rw [wrap_i64_id (by omega) (by omega)]; omega))) : decide (v0 < 0) = false) (ai (be h1) (ai (be h1) (ai (be h2) (ai (be h2) (ai (be h2) (ai (be h2) (ai ((df (by first | exact Int.not_lt.2 (Int.tmod_nonneg _ (by assumption)) | exact Int.not_lt.2 (Int.tmod_nonneg _ wrapu_nonneg) | exact Int.not_lt.2 bits_nonneg | omega | (rw [wrap_i64_id (by omega) (by omega)]; omega))) : decide (v0 < 0) = false) (ai (be h2) (ai (be h2) (ai (be h2) (ai (be h2) (ai (be h2) (ai ((df (by first | exact Int.not_lt.2 (Int.tmod_nonneg _ (by assumption)) | exact Int.not_lt.2 (Int.tmod_nonneg _ wrapu_nonneg) | exact Int.not_lt.2 bits_nonneg | omega | (rw [wrap_i64_id (by omega) (by omega)]; omega))) : decide (v0 < 0) = false) (ai (be h2) (ai (be h2) (ai (be h2) (ai (bne_eq_false_iff_eq.2 h3) (ai (cn (be h1)) (ai (cn (be h1)) (ai (cn (be h1)) (ai ((df (by first | exact Int.not_lt.2 (Int.tmod_nonneg _ (by assumption)) | exact Int.not_lt.2 (Int.tmod_nonneg _ wrapu_nonneg) | exact Int.not_lt.2 bits_nonneg | omega | (rw [wrap_i64_id (by omega) (by omega)]; omega))) : decide (v0 < 0) = false) (ai ((df (by first | exact Int.not_lt.2 (Int.tmod_nonneg _ (by assumption)) | exact Int.not_lt.2 (Int.tmod_nonneg _ wrapu_nonneg) | exact Int.not_lt.2 bits_nonneg | omega | (rw [wrap_i64_id (by omega) (by omega)]; omega))) : decide (v0 < 0) = false) trivial))))))))))))))))))))))))) (by kernel_rfl)) H.2⟩
            | ret r => exact lg_next (cg_of mix O_ 400 [t0, f0, (1, false), (1, true), t0, t0, t0, t0, t0, f0, t0, (1, true), t0, t0, t0, f0, t0, (1, true), t0, f0, f0, f0, f0, (1, false), (1, false)] ([true, true, true, true, true, true, true, true, false, false, false, false, false, false, false, false, false, false, false, false, false, false, false, false, false, false, false, false, false, false, false, false, false, false, false, false, false, false, false, false, false, false, false, false, false, false, false, false, false, false, false, false, false, false, false, false, false, false, false, false, false, false, false, false, false, false, false, false, false, false, false], [true, true, true, true]) (ai (dt h0) (ai ((df (by first | exact Int.not_lt.2 (Int.tmod_nonneg _ (by assumption)) | exact Int.not_lt.2 (Int.tmod_nonneg _ wrapu_nonneg) | exact Int.not_lt.2 bits_nonneg | omega | (rw [wrap_i64_id (by omega) (by omega)]; omega))) : decide (v0 < 0) = false) (ai ((df (by first | exact Int.not_lt.2 (Int.tmod_nonneg _ (by assumption)) | exact Int.not_lt.2 (Int.tmod_nonneg _ wrapu_nonneg) | exact Int.not_lt.2 bits_nonneg | omega | (rw [wrap_i64_id (by omega) (by omega)]; omega))) : decide (v0 < 0) = false) (ai (be h1) (ai (be h1) (ai (be h2) (ai (be h2) (ai (be h2) (ai (be h2) (ai ((df (by first | exact Int.not_lt.2 (Int.tmod_nonneg _ (by assumption)) | exact Int.not_lt.2 (Int.tmod_nonneg _ wrapu_nonneg) | exact Int.not_lt.2 bits_nonneg | omega | (rw [wrap_i64_id (by omega) (by omega)]; omega))) : decide (v0 < 0) = false) (ai (be h2) (ai (be h2) (ai (be h2) (ai (be h2) (ai (be h2) (ai ((df (by first | exact Int.not_lt.2 (Int.tmod_nonneg _ (by assumption)) | exact Int.not_lt.2 (Int.tmod_nonneg _ wrapu_nonneg) | exact Int.not_lt.2 bits_nonneg | omega | (rw [wrap_i64_id (by omega) (by omega)]; omega))) : decide (v0 < 0) = false) (ai (be h2) (ai (be h2) (ai (be h2) (ai (bne_eq_false_iff_eq.2 h3) (ai (cn (be h1)) (ai (cn (be h1)) (ai (cn (be h1)) (ai ((df (by first | exact Int.not_lt.2 (Int.tmod_nonneg _ (by assumption)) | exact Int.not_lt.2 (Int.tmod_nonneg _ wrapu_nonneg) | exact Int.not_lt.2 bits_nonneg | omega | (rw [wrap_i64_id (by omega) (by omega)]; omega))) : decide (v0 < 0) = false) (ai ((df (by first | exact Int.not_lt.2 (Int.tmod_nonneg _ (by assumption)) | exact Int.not_lt.2 (Int.tmod_nonneg _ wrapu_nonneg) | exact Int.not_lt.2 bits_nonneg | omega | (rw [wrap_i64_id (by omega) (by omega)]; omega))) : decide (v0 < 0) = false) trivial))))))))))))))))))))))))) (by kernel_rfl)) H
          · rw [if_neg h3] at h
            cases h
            exact lg_ret (cg_of mix O_ 400 [t0, f0, (1, false), (1, true), t0, t0, t0, t0, t0, f0, t0, (1, true), t0, t0, t0, f0, t0, (1, true), t0, t0] ([false, false, false, false, true, true, false, false, false, false, false, false, false, false, false, false, false, false, false, false, false, false, false, false, false, false, false, false, false, false, false, false, false, false, false, false, false, false, false, false, false, false, false, false, false, false, false, false, false, false, false, false, false, false, false, false, false, false, false, false, false, false, false, false, false, false, false, false, false, false, false], [false, false, true, false]) (ai (dt h0) (ai ((df (by first | exact Int.not_lt.2 (Int.tmod_nonneg _ (by assumption)) | exact Int.not_lt.2 (Int.tmod_nonneg _ wrapu_nonneg) | exact Int.not_lt.2 bits_nonneg | omega | (rw [wrap_i64_id (by omega) (by omega)]; omega))) : decide (v0 < 0) = false) (ai ((df (by first | exact Int.not_lt.2 (Int.tmod_nonneg _ (by assumption)) | exact Int.not_lt.2 (Int.tmod_nonneg _ wrapu_nonneg) | exact Int.not_lt.2 bits_nonneg | omega | (rw [wrap_i64_id (by omega) (by omega)]; omega))) : decide (v0 < 0) = false) (ai (be h1) (ai (be h1) (ai (be h2) (ai (be h2) (ai (be h2) (ai (be h2) (ai ((df (by first | exact Int.not_lt.2 (Int.tmod_nonneg _ (by assumption)) | exact Int.not_lt.2 (Int.tmod_nonneg _ wrapu_nonneg) | exact Int.not_lt.2 bits_nonneg | omega | (rw [wrap_i64_id (by omega) (by omega)]; omega))) : decide (v0 < 0) = false) (ai (be h2) (ai (be h2) (ai (be h2) (ai (be h2) (ai (be h2) (ai ((df (by first | exact Int.not_lt.2 (Int.tmod_nonneg _ (by assumption)) | exact Int.not_lt.2 (Int.tmod_nonneg _ wrapu_nonneg) | exact Int.not_lt.2 bits_nonneg | omega | (rw [wrap_i64_id (by omega) (by omega)]; omega))) : decide (v0 < 0) = false) (ai (be h2) (ai (be h2) (ai (be h2) (ai (bne_iff_ne.2 h3) trivial)))))))))))))))))))) (by kernel_rfl))
        · rw [if_neg h2] at h
          have H := ih a b (IntKind.u64.wrap (v0 + 1)) (Go.bits .or .u64 v1 (shl .u64 (Int.tmod (shr .u64 (Go.bits .or .u64 a.v b.v) v0) 2) v0)) v2 (by exact wrapu_nonneg) o h
          cases o with
          | brk z => exact ⟨H.1, lg_next (cg_of mix O_ 400 [t0, f0, (1, false), (1, true), t0, f0, f0, f0, f0, f0, f0, f0, f0, f0, f0, f0, f0, (1, false), f0, f0, (1, false), (1, false)] ([true, true, true, true, true, true, true, true, false, false, false, false, false, false, false, false, false, false, false, false, false, false, false, false, false, false, false, false, false, false, false, false, false, false, false, false, false, false, false, false, false, false, false, false, false, false, false, false, false, false, false, false, false, false, false, false, false, false, false, false, false, false, false, false, false, false, false, false, false, false, false], [true, true, true, true]) (ai (dt h0) (ai ((df (by first | exact Int.not_lt.2 (Int.tmod_nonneg _ (by assumption)) | exact Int.not_lt.2 (Int.tmod_nonneg _ wrapu_nonneg) | exact Int.not_lt.2 bits_nonneg | omega | (rw [wrap_i64_id (by omega) (by omega)]; omega))) : decide (v0 < 0) = false) (ai ((df (by first | exact Int.not_lt.2 (Int.tmod_nonneg _ (by assumption)) | exact Int.not_lt.2 (Int.tmod_nonneg _ wrapu_nonneg) | exact Int.not_lt.2 bits_nonneg | omega | (rw [wrap_i64_id (by omega) (by omega)]; omega))) : decide (v0 < 0) = false) (ai (be h1) (ai (be h1) (ai (bn h2) (ai (bn h2) (ai (bn h2) (ai (bn h2) (ai (bn h2) (ai (bn h2) (ai (bn h2) (ai (bn h2) (ai (bn h2) (ai (bn h2) (ai (bn h2) (ai (bn h2) (ai (cn (be h1)) (ai (cn (be h1)) (ai (cn (be h1)) (ai ((df (by first | exact Int.not_lt.2 (Int.tmod_nonneg _ (by assumption)) | exact Int.not_lt.2 (Int.tmod_nonneg _ wrapu_nonneg) | exact Int.not_lt.2 bits_nonneg | omega | (rw [wrap_i64_id (by omega) (by omega)]; omega))) : decide (v0 < 0) = false) (ai ((df (by first | exact Int.not_lt.2 (Int.tmod_nonneg _ (by assumption)) | exact Int.not_lt.2 (Int.tmod_nonneg _ wrapu_nonneg) | exact Int.not_lt.2 bits_nonneg | omega | (rw [wrap_i64_id (by omega) (by omega)]; omega))) : decide (v0 < 0) = false) trivial)))))))))))))))))))))) (by kernel_rfl)) H.2⟩
          | ret r => exact lg_next (cg_of mix O_ 400 [t0, f0, (1, false), (1, true), t0, f0, f0, f0, f0, f0, f0, f0, f0, f0, f0, f0, f0, (1, false), f0, f0, (1, false), (1, false)] ([true, true, true, true, true, true, true, true, false, false, false, false, false, false, false, false, false, false, false, false, false, false, false, false, false, false, false, false, false, false, false, false, false, false, false, false, false, false, false, false, false, false, false, false, false, false, false, false, false, false, false, false, false, false, false, false, false, false, false, false, false, false, false, false, false, false, false, false, false, false, false], [true, true, true, true]) (ai (dt h0) (ai ((df (by first | exact Int.not_lt.2 (Int.tmod_nonneg _ (by assumption)) | exact Int.not_lt.2 (Int.tmod_nonneg _ wrapu_nonneg) | exact Int.not_lt.2 bits_nonneg | omega | (rw [wrap_i64_id (by omega) (by omega)]; omega))) : decide (v0 < 0) = false) (ai ((df (by first | exact Int.not_lt.2 (Int.tmod_nonneg _ (by assumption)) | exact Int.not_lt.2 (Int.tmod_nonneg _ wrapu_nonneg) | exact Int.not_lt.2 bits_nonneg | omega | (rw [wrap_i64_id (by omega) (by omega)]; omega))) : decide (v0 < 0) = false) (ai (be h1) (ai (be h1) (ai (bn h2) (ai (bn h2) (ai (bn h2) (ai (bn h2) (ai (bn h2) (ai (bn h2) (ai (bn h2) (ai (bn h2) (ai (bn h2) (ai (bn h2) (ai (bn h2) (ai (bn h2) (ai (cn (be h1)) (ai (cn (be h1)) (ai (cn (be h1)) (ai ((df (by first | exact Int.not_lt.2 (Int.tmod_nonneg _ (by assumption)) | exact Int.not_lt.2 (Int.tmod_nonneg _ wrapu_nonneg) | exact Int.not_lt.2 bits_nonneg | omega | (rw [wrap_i64_id (by omega) (by omega)]; omega))) : decide (v0 < 0) = false) (ai ((df (by first | exact Int.not_lt.2 (Int.tmod_nonneg _ (by assumption)) | exact Int.not_lt.2 (Int.tmod_nonneg _ wrapu_nonneg) | exact Int.not_lt.2 bits_nonneg | omega | (rw [wrap_i64_id (by omega) (by omega)]; omega))) : decide (v0 < 0) = false) trivial)))))))))))))))))))))) (by kernel_rfl)) H
      · rw [if_neg h1] at h
        by_cases h2 : (Int.tmod (shr .u64 b.m v0) 2) = 0
        · rw [if_pos h2] at h
          have H := ih a b (IntKind.u64.wrap (v0 + 1)) (Go.bits .or .u64 v1 (shl .u64 (Int.tmod (shr .u64 (Go.bits .or .u64 a.v b.v) v0) 2) v0)) v2 (by exact wrapu_nonneg) o h
          cases o with
          | brk z => exact ⟨H.1, lg_next (cg_of mix O_ 400 [t0, f0, (1, false), (1, false), f0, (13, true), t0, t0, f0, f0, (1, false)] ([true, true, true, true, true, true, true, true, false, false, false, false, false, false, false, false, false, false, false, false, false, false, false, false, false, false, false, false, false, false, false, false, false, false, false, false, false, false, false, false, false, false, false, false, false, false, false, false, false, false, false, false, false, false, false, false, false, false, false, false, false, false, false, false, false, false, false, false, false, false, false], [true, true, true, true]) (ai (dt h0) (ai ((df (by first | exact Int.not_lt.2 (Int.tmod_nonneg _ (by assumption)) | exact Int.not_lt.2 (Int.tmod_nonneg _ wrapu_nonneg) | exact Int.not_lt.2 bits_nonneg | omega | (rw [wrap_i64_id (by omega) (by omega)]; omega))) : decide (v0 < 0) = false) (ai ((df (by first | exact Int.not_lt.2 (Int.tmod_nonneg _ (by assumption)) | exact Int.not_lt.2 (Int.tmod_nonneg _ wrapu_nonneg) | exact Int.not_lt.2 bits_nonneg | omega | (rw [wrap_i64_id (by omega) (by omega)]; omega))) : decide (v0 < 0) = false) (ai (bn h1) (ai (bn h1) (ai (cn (bn h1)) (ai (cn (bn h1)) (ai (cn (bn h1)) (ai (cn (be h2)) (ai ((df (by first | exact Int.not_lt.2 (Int.tmod_nonneg _ (by assumption)) | exact Int.not_lt.2 (Int.tmod_nonneg _ wrapu_nonneg) | exact Int.not_lt.2 bits_nonneg | omega | (rw [wrap_i64_id (by omega) (by omega)]; omega))) : decide (v0 < 0) = false) (ai ((df (by first | exact Int.not_lt.2 (Int.tmod_nonneg _ (by assumption)) | exact Int.not_lt.2 (Int.tmod_nonneg _ wrapu_nonneg) | exact Int.not_lt.2 bits_nonneg | omega | (rw [wrap_i64_id (by omega) (by omega)]; omega))) : decide (v0 < 0) = false) trivial))))))))))) (by kernel_rfl)) H.2⟩
          | ret r => exact lg_next (cg_of mix O_ 400 [t0, f0, (1, false), (1, false), f0, (13, true), t0, t0, f0, f0, (1, false)] ([true, true, true, true, true, true, true, true, false, false, false, false, false, false, false, false, false, false, false, false, false, false, false, false, false, false, false, false, false, false, false, false, false, false, false, false, false, false, false, false, false, false, false, false, false, false, false, false, false, false, false, false, false, false, false, false, false, false, false, false, false, false, false, false, false, false, false, false, false, false, false], [true, true, true, true]) (ai (dt h0) (ai ((df (by first | exact Int.not_lt.2 (Int.tmod_nonneg _ (by assumption)) | exact Int.not_lt.2 (Int.tmod_nonneg _ wrapu_nonneg) | exact Int.not_lt.2 bits_nonneg | omega | (rw [wrap_i64_id (by omega) (by omega)]; omega))) : decide (v0 < 0) = false) (ai ((df (by first | exact Int.not_lt.2 (Int.tmod_nonneg _ (by assumption)) | exact Int.not_lt.2 (Int.tmod_nonneg _ wrapu_nonneg) | exact Int.not_lt.2 bits_nonneg | omega | (rw [wrap_i64_id (by omega) (by omega)]; omega))) : decide (v0 < 0) = false) (ai (bn h1) (ai (bn h1) (ai (cn (bn h1)) (ai (cn (bn h1)) (ai (cn (bn h1)) (ai (cn (be h2)) (ai ((df (by first | exact Int.not_lt.2 (Int.tmod_nonneg _ (by assumption)) | exact Int.not_lt.2 (Int.tmod_nonneg _ wrapu_nonneg) | exact Int.not_lt.2 bits_nonneg | omega | (rw [wrap_i64_id (by omega) (by omega)]; omega))) : decide (v0 < 0) = false) (ai ((df (by first | exact Int.not_lt.2 (Int.tmod_nonneg _ (by assumption)) | exact Int.not_lt.2 (Int.tmod_nonneg _ wrapu_nonneg) | exact Int.not_lt.2 bits_nonneg | omega | (rw [wrap_i64_id (by omega) (by omega)]; omega))) : decide (v0 < 0) = false) trivial))))))))))) (by kernel_rfl)) H
        · rw [if_neg h2] at h
          have H := ih a b (IntKind.u64.wrap (v0 + 1)) (Go.bits .or .u64 v1 (shl .u64 (Int.tmod (shr .u64 (Go.bits .or .u64 a.v b.v) v0) 2) v0)) (Go.bits .or .u64 v2 (shl .u64 1 v0)) (by exact wrapu_nonneg) o h
          cases o with
          | brk z => exact ⟨H.1, lg_next (cg_of mix O_ 400 [t0, f0, (1, false), (1, false), f0, (13, true), t0, t0, t0, f0, f0, (1, false)] ([true, true, true, true, true, true, true, true, false, false, false, false, false, false, false, false, false, false, false, false, false, false, false, false, false, false, false, false, false, false, false, false, false, false, false, false, false, false, false, false, false, false, false, false, false, false, false, false, false, false, false, false, false, false, false, false, false, false, false, false, false, false, false, false, false, false, false, false, false, false, false], [true, true, true, true]) (ai (dt h0) (ai ((df (by first | exact Int.not_lt.2 (Int.tmod_nonneg _ (by assumption)) | exact Int.not_lt.2 (Int.tmod_nonneg _ wrapu_nonneg) | exact Int.not_lt.2 bits_nonneg | omega | (rw [wrap_i64_id (by omega) (by omega)]; omega))) : decide (v0 < 0) = false) (ai ((df (by first | exact Int.not_lt.2 (Int.tmod_nonneg _ (by assumption)) | exact Int.not_lt.2 (Int.tmod_nonneg _ wrapu_nonneg) | exact Int.not_lt.2 bits_nonneg | omega | (rw [wrap_i64_id (by omega) (by omega)]; omega))) : decide (v0 < 0) = false) (ai (bn h1) (ai (bn h1) (ai (cn (bn h1)) (ai (cn (bn h1)) (ai (cn (bn h1)) (ai (cn (bn h2)) (ai ((df (by first | exact Int.not_lt.2 (Int.tmod_nonneg _ (by assumption)) | exact Int.not_lt.2 (Int.tmod_nonneg _ wrapu_nonneg) | exact Int.not_lt.2 bits_nonneg | omega | (rw [wrap_i64_id (by omega) (by omega)]; omega))) : decide (v0 < 0) = false) (ai ((df (by first | exact Int.not_lt.2 (Int.tmod_nonneg _ (by assumption)) | exact Int.not_lt.2 (Int.tmod_nonneg _ wrapu_nonneg) | exact Int.not_lt.2 bits_nonneg | omega | (rw [wrap_i64_id (by omega) (by omega)]; omega))) : decide (v0 < 0) = false) (ai ((df (by first | exact Int.not_lt.2 (Int.tmod_nonneg _ (by assumption)) | exact Int.not_lt.2 (Int.tmod_nonneg _ wrapu_nonneg) | exact Int.not_lt.2 bits_nonneg | omega | (rw [wrap_i64_id (by omega) (by omega)]; omega))) : decide (v0 < 0) = false) trivial)))))))))))) (by kernel_rfl)) H.2⟩
          | ret r => exact lg_next (cg_of mix O_ 400 [t0, f0, (1, false), (1, false), f0, (13, true), t0, t0, t0, f0, f0, (1, false)] ([true, true, true, true, true, true, true, true, false, false, false, false, false, false, false, false, false, false, false, false, false, false, false, false, false, false, false, false, false, false, false, false, false, false, false, false, false, false, false, false, false, false, false, false, false, false, false, false, false, false, false, false, false, false, false, false, false, false, false, false, false, false, false, false, false, false, false, false, false, false, false], [true, true, true, true]) (ai (dt h0) (ai ((df (by first | exact Int.not_lt.2 (Int.tmod_nonneg _ (by assumption)) | exact Int.not_lt.2 (Int.tmod_nonneg _ wrapu_nonneg) | exact Int.not_lt.2 bits_nonneg | omega | (rw [wrap_i64_id (by omega) (by omega)]; omega))) : decide (v0 < 0) = false) (ai ((df (by first | exact Int.not_lt.2 (Int.tmod_nonneg _ (by assumption)) | exact Int.not_lt.2 (Int.tmod_nonneg _ wrapu_nonneg) | exact Int.not_lt.2 bits_nonneg | omega | (rw [wrap_i64_id (by omega) (by omega)]; omega))) : decide (v0 < 0) = false) (ai (bn h1) (ai (bn h1) (ai (cn (bn h1)) (ai (cn (bn h1)) (ai (cn (bn h1)) (ai (cn (bn h2)) (ai ((df (by first | exact Int.not_lt.2 (Int.tmod_nonneg _ (by assumption)) | exact Int.not_lt.2 (Int.tmod_nonneg _ wrapu_nonneg) | exact Int.not_lt.2 bits_nonneg | omega | (rw [wrap_i64_id (by omega) (by omega)]; omega))) : decide (v0 < 0) = false) (ai ((df (by first | exact Int.not_lt.2 (Int.tmod_nonneg _ (by assumption)) | exact Int.not_lt.2 (Int.tmod_nonneg _ wrapu_nonneg) | exact Int.not_lt.2 bits_nonneg | omega | (rw [wrap_i64_id (by omega) (by omega)]; omega))) : decide (v0 < 0) = false) (ai ((df (by first | exact Int.not_lt.2 (Int.tmod_nonneg _ (by assumption)) | exact Int.not_lt.2 (Int.tmod_nonneg _ wrapu_nonneg) | exact Int.not_lt.2 bits_nonneg | omega | (rw [wrap_i64_id (by omega) (by omega)]; omega))) : decide (v0 < 0) = false) trivial)))))))))))) (by kernel_rfl)) H
    · rw [if_neg h0] at h
      cases h
      exact ⟨(by first | assumption | (exact wrapu_nonneg)), lg_exit (cg_of mix O_ 400 [f0] ([true, true, true, true, true, true, true, true, false, false, false, false, false, false, false, false, false, false, false, false, false, false, false, false, false, false, false, false, false, false, false, false, false, false, false, false, false, false, false, false, false, false, false, false, false, false, false, false, false, false, false, false, false, false, false, false, false, false, false, false, false, false, false, false, false, false, false, false, false, false, false], [true, true, true, true]) (ai (df h0) trivial) (by kernel_rfl))⟩
theorem K_lockgateref03_Meet : Keeps Try.prog 128 (F2 cTn cTn (cP cTn cB) (fun _ _ => []) lockgateref03_Meet) := by
  refine keeps2 _ _ _ (enters_of Try.func128 (by kernel_rfl)) fun a b hp_ => ?_
  unfold lockgateref03_Meet
  cases hL : lockgateref03_Meet_L a b 65 0 0 0 with
  | none => exact absurd hL (T_lockgateref03_Meet a b)
  | some o =>
    have H := L_lockgateref03_Meet 65 a b 0 0 0 (by decide) o hL
    cases o with
    | ret r => exact gives_cg (s' := lockgateref03_Meet_F r) Try.func128 rfl rfl (cg_seq (s1 := ⟨[.agg [.int .u64 a.v, .int .u64 a.m], .agg [.int .u64 b.v, .int .u64 b.m], .ptr 0 0, .ptr 1 0, .ptr 2 0, .bool false, .tup [], .tup [], .tup [], .tup [], .tup [], .tup [], .tup [], .tup [], .tup [], .tup [], .tup [], .tup [], .tup [], .tup [], .tup [], .tup [], .tup [], .tup [], .tup [], .tup [], .tup [], .tup [], .tup [], .tup [], .tup [], .tup [], .tup [], .tup [], .tup [], .tup [], .tup [], .tup [], .tup [], .tup [], .tup [], .tup [], .tup [], .tup [], .tup [], .tup [], .tup [], .tup [], .tup [], .tup [], .tup [], .tup [], .tup [], .tup [], .tup [], .tup [], .tup [], .tup [], .tup [], .tup [], .tup [], .tup [], .tup [], .tup [], .tup [], .tup [], .tup [], .tup [], .tup [], .tup [], .tup []], [.cells [.int .u64 a.v, .int .u64 a.m], .cells [.int .u64 b.v, .int .u64 b.m], .cells [.int .u64 0, .int .u64 0]]⟩) (cg_of mix on_ 400 [] ([true, true, true, true, true, true, true, true, true, true, true, true, true, true, true, true, true, true, true, true, true, true, true, true, true, true, true, true, true, true, true, true, true, true, true, true, true, true, true, true, true, true, true, true, true, true, true, true, true, true, true, true, true, true, true, true, true, true, true, true, true, true, true, true, true, true, true, true, true, true, true], []) trivial (by kernel_rfl)) (cg_seq (s1 := ⟨[.agg [.int .u64 a.v, .int .u64 a.m], .agg [.int .u64 b.v, .int .u64 b.m], .ptr 0 0, .ptr 1 0, .ptr 2 0, .bool false, .ptr 3 0, .tup [], .tup [], .tup [], .tup [], .tup [], .tup [], .tup [], .tup [], .tup [], .tup [], .tup [], .tup [], .tup [], .tup [], .tup [], .tup [], .tup [], .tup [], .tup [], .tup [], .tup [], .tup [], .tup [], .tup [], .tup [], .tup [], .tup [], .tup [], .tup [], .tup [], .tup [], .tup [], .tup [], .tup [], .tup [], .tup [], .tup [], .tup [], .tup [], .tup [], .tup [], .tup [], .tup [], .tup [], .tup [], .tup [], .tup [], .tup [], .tup [], .tup [], .tup [], .tup [], .tup [], .tup [], .tup [], .tup [], .tup [], .tup [], .tup [], .tup [], .tup [], .tup [], .tup [], .tup []], [.cells [.int .u64 a.v, .int .u64 a.m], .cells [.int .u64 b.v, .int .u64 b.m], .cells [.int .u64 0, .int .u64 0], .cells [.int .u64 0, .int .u64 0]]⟩) (cg_of mix on_ 400 [] ([true, true, true, true, true, true, true, true, true, true, true, true, true, true, true, true, true, true, true, true, true, true, true, true, true, true, true, true, true, true, true, true, true, true, true, true, true, true, true, true, true, true, true, true, true, true, true, true, true, true, true, true, true, true, true, true, true, true, true, true, true, true, true, true, true, true, true, true, true, true, true], []) trivial (by kernel_rfl)) (cg_seq_ret (cg_seq (cg_of mix on_ 400 [] ([true, true, true, true, true, true, true, true, false, false, false, false, false, false, false, false, false, false, false, false, false, false, false, false, false, false, false, false, false, false, false, false, false, false, false, false, false, false, false, false, false, false, false, false, false, false, false, false, false, false, false, false, false, false, false, false, false, false, false, false, false, false, false, false, false, false, false, false, false, false, false], [true, true, true, true]) trivial (by kernel_rfl)) (cg_block_ret (cg_loop H)))))) rfl (by kernel_rfl)
    | brk z =>
      obtain ⟨e0, H⟩ := H
      exact gives_cg (s' := lockgateref03_Meet_F ((⟨z.2.1, z.2.2⟩ : Tn), true)) Try.func128 rfl rfl (cg_seq (s1 := ⟨[.agg [.int .u64 a.v, .int .u64 a.m], .agg [.int .u64 b.v, .int .u64 b.m], .ptr 0 0, .ptr 1 0, .ptr 2 0, .bool false, .tup [], .tup [], .tup [], .tup [], .tup [], .tup [], .tup [], .tup [], .tup [], .tup [], .tup [], .tup [], .tup [], .tup [], .tup [], .tup [], .tup [], .tup [], .tup [], .tup [], .tup [], .tup [], .tup [], .tup [], .tup [], .tup [], .tup [], .tup [], .tup [], .tup [], .tup [], .tup [], .tup [], .tup [], .tup [], .tup [], .tup [], .tup [], .tup [], .tup [], .tup [], .tup [], .tup [], .tup [], .tup [], .tup [], .tup [], .tup [], .tup [], .tup [], .tup [], .tup [], .tup [], .tup [], .tup [], .tup [], .tup [], .tup [], .tup [], .tup [], .tup [], .tup [], .tup [], .tup [], .tup []], [.cells [.int .u64 a.v, .int .u64 a.m], .cells [.int .u64 b.v, .int .u64 b.m], .cells [.int .u64 0, .int .u64 0]]⟩) (cg_of mix on_ 400 [] ([true, true, true, true, true, true, true, true, true, true, true, true, true, true, true, true, true, true, true, true, true, true, true, true, true, true, true, true, true, true, true, true, true, true, true, true, true, true, true, true, true, true, true, true, true, true, true, true, true, true, true, true, true, true, true, true, true, true, true, true, true, true, true, true, true, true, true, true, true, true, true], []) trivial (by kernel_rfl)) (cg_seq (s1 := ⟨[.agg [.int .u64 a.v, .int .u64 a.m], .agg [.int .u64 b.v, .int .u64 b.m], .ptr 0 0, .ptr 1 0, .ptr 2 0, .bool false, .ptr 3 0, .tup [], .tup [], .tup [], .tup [], .tup [], .tup [], .tup [], .tup [], .tup [], .tup [], .tup [], .tup [], .tup [], .tup [], .tup [], .tup [], .tup [], .tup [], .tup [], .tup [], .tup [], .tup [], .tup [], .tup [], .tup [], .tup [], .tup [], .tup [], .tup [], .tup [], .tup [], .tup [], .tup [], .tup [], .tup [], .tup [], .tup [], .tup [], .tup [], .tup [], .tup [], .tup [], .tup [], .tup [], .tup [], .tup [], .tup [], .tup [], .tup [], .tup [], .tup [], .tup [], .tup [], .tup [], .tup [], .tup [], .tup [], .tup [], .tup [], .tup [], .tup [], .tup [], .tup [], .tup []], [.cells [.int .u64 a.v, .int .u64 a.m], .cells [.int .u64 b.v, .int .u64 b.m], .cells [.int .u64 0, .int .u64 0], .cells [.int .u64 0, .int .u64 0]]⟩) (cg_of mix on_ 400 [] ([true, true, true, true, true, true, true, true, true, true, true, true, true, true, true, true, true, true, true, true, true, true, true, true, true, true, true, true, true, true, true, true, true, true, true, true, true, true, true, true, true, true, true, true, true, true, true, true, true, true, true, true, true, true, true, true, true, true, true, true, true, true, true, true, true, true, true, true, true, true, true], []) trivial (by kernel_rfl)) (cg_seq (cg_seq (cg_of mix on_ 400 [] ([true, true, true, true, true, true, true, true, false, false, false, false, false, false, false, false, false, false, false, false, false, false, false, false, false, false, false, false, false, false, false, false, false, false, false, false, false, false, false, false, false, false, false, false, false, false, false, false, false, false, false, false, false, false, false, false, false, false, false, false, false, false, false, false, false, false, false, false, false, false, false], [true, true, true, true]) trivial (by kernel_rfl)) (cg_block (cg_loop H))) (cg_of mix on_ 400 [] ([false, false, false, false, true, true, false, false, false, false, false, false, false, false, false, false, false, false, false, false, false, false, false, false, false, false, false, false, false, false, false, false, false, false, false, false, false, false, false, false, false, false, false, false, false, false, false, false, false, false, false, false, false, false, false, false, false, false, false, false, false, false, false, false, false, false, false, false, false, false, false], [false, false, true, false]) trivial (by kernel_rfl))))) rfl (by kernel_rfl)
theorem K_lockgateref04_top : Keeps Try.prog 139 (F0 (cI .u64) [] lockgateref04_top) := by
  refine keeps0  _ (enters_of Try.func139 (by kernel_rfl)) fun _ => ?_
  unfold lockgateref04_top
  have O_ := on_
  exact gv mix O_ 400 [] trivial (by kernel_rfl) rfl rfl
theorem K_lockgateref04_UAll : Keeps Try.prog 138 (F0 cUs [] lockgateref04_UAll) := by
  refine keeps0  _ (enters_of Try.func138 (by kernel_rfl)) fun _ => ?_
  unfold lockgateref04_UAll
  have O_ := (orc_cons K_lockgateref04_top on_)
  exact gv mix O_ 400 [] trivial (by kernel_rfl) rfl rfl
theorem L_lockgateref04_ToT : ∀ (n : Nat) (a : Us) (v0 : Int) (q0 : 0 ≤ v0) (q1 : v0 < 18446744073709551616) (o : Out (Int) Tn), lockgateref04_ToT_L a n v0 = some o → (match o with
  | .brk z => (0 ≤ z) ∧ (z < 18446744073709551616) ∧ LG Try.prog (inn (inn (fst (snd (snd (bodyOf Try.f129)))))) n (lockgateref04_ToT_I a v0) (.exit 0) (lockgateref04_ToT_I a z)
  | .ret r => LG Try.prog (inn (inn (fst (snd (snd (bodyOf Try.f129)))))) n (lockgateref04_ToT_I a v0) .ret (lockgateref04_ToT_F r)) := by
  intro n
  have O_ := (orc_cons K_lockgateref04_UAll on_)
  induction n with
  | zero => intro a v0 q0 q1 o h; simp only [lockgateref04_ToT_L] at h; cases h
  | succ n ih =>
    intro a v0 q0 q1 o h
    rw [lockgateref04_ToT_L] at h
    by_cases h0 : v0 < lockgateref04_UAll.hi
    · rw [if_pos h0] at h
      by_cases h1 : (IntKind.u64.wrap (a.lo - (Int.tmod a.lo (IntKind.u64.wrap (v0 + 1))))) = (IntKind.u64.wrap (a.hi - (Int.tmod a.hi (IntKind.u64.wrap (v0 + 1)))))
      · rw [if_pos h1] at h
        cases h
        exact ⟨(by first | assumption | (exact wrapu_nonneg)), (by first | assumption | (exact wrapu_lt)), lg_exit (cg_of mix O_ 400 [t0, t0, t0, t0, t0, t0, t0, f0, t0, t0, t0, t0, t0, t0, t0, t0, f0, t0, t0, t0, f0] ([true, true, true, true, false, false, false, false, false, false, false, false, false, false, false, false, false, false, false, false, false, false, false, false, false, false, false, false, false, false, false, false, false, false, false, false, false, false, false, false, false, false, false, false, false, false], [true, true]) (ai (dt h0) (ai (dt h0) (ai (dt h0) (ai (dt h0) (ai (dt h0) (ai (dt h0) (ai (dt h0) (ai ((df (by first | exact nz1 (by assumption) (by assumption) | exact nz2 (by assumption) (by assumption) (by assumption) | exact Int.not_lt.2 (Int.tmod_nonneg _ (by assumption)) | exact Int.not_lt.2 (Int.tmod_nonneg _ wrapu_nonneg) | exact Int.not_lt.2 bits_nonneg | omega | (rw [wrap_i64_id (by omega) (by omega)]; omega))) : decide ((IntKind.u64.wrap (v0 + 1)) = 0) = false) (ai (dt h0) (ai (dt h0) (ai (dt h0) (ai (dt h0) (ai (dt h0) (ai (dt h0) (ai (dt h0) (ai (dt h0) (ai ((df (by first | exact nz1 (by assumption) (by assumption) | exact nz2 (by assumption) (by assumption) (by assumption) | exact Int.not_lt.2 (Int.tmod_nonneg _ (by assumption)) | exact Int.not_lt.2 (Int.tmod_nonneg _ wrapu_nonneg) | exact Int.not_lt.2 bits_nonneg | omega | (rw [wrap_i64_id (by omega) (by omega)]; omega))) : decide ((IntKind.u64.wrap (v0 + 1)) = 0) = false) (ai (dt h0) (ai (dt h0) (ai (dt h0) (ai (bne_eq_false_iff_eq.2 h1) trivial))))))))))))))))))))) (by kernel_rfl))⟩
      · rw [if_neg h1] at h
        have H := ih a (IntKind.u64.wrap ((IntKind.u64.wrap (2 * v0)) + 1)) (by exact wrapu_nonneg) (by exact wrapu_lt) o h
        cases o with
        | brk z => exact ⟨H.1, H.2.1, lg_next (cg_of mix O_ 400 [t0, t0, t0, t0, t0, t0, t0, f0, t0, t0, t0, t0, t0, t0, t0, t0, f0, t0, t0, t0, t0] ([true, true, true, true, false, false, false, false, false, false, false, false, false, false, false, false, false, false, false, false, false, false, false, false, false, false, false, false, false, false, false, false, false, false, false, false, false, false, false, false, false, false, false, false, false, false], [true, true]) (ai (dt h0) (ai (dt h0) (ai (dt h0) (ai (dt h0) (ai (dt h0) (ai (dt h0) (ai (dt h0) (ai ((df (by first | exact nz1 (by assumption) (by assumption) | exact nz2 (by assumption) (by assumption) (by assumption) | exact Int.not_lt.2 (Int.tmod_nonneg _ (by assumption)) | exact Int.not_lt.2 (Int.tmod_nonneg _ wrapu_nonneg) | exact Int.not_lt.2 bits_nonneg | omega | (rw [wrap_i64_id (by omega) (by omega)]; omega))) : decide ((IntKind.u64.wrap (v0 + 1)) = 0) = false) (ai (dt h0) (ai (dt h0) (ai (dt h0) (ai (dt h0) (ai (dt h0) (ai (dt h0) (ai (dt h0) (ai (dt h0) (ai ((df (by first | exact nz1 (by assumption) (by assumption) | exact nz2 (by assumption) (by assumption) (by assumption) | exact Int.not_lt.2 (Int.tmod_nonneg _ (by assumption)) | exact Int.not_lt.2 (Int.tmod_nonneg _ wrapu_nonneg) | exact Int.not_lt.2 bits_nonneg | omega | (rw [wrap_i64_id (by omega) (by omega)]; omega))) : decide ((IntKind.u64.wrap (v0 + 1)) = 0) = false) (ai (dt h0) (ai (dt h0) (ai (dt h0) (ai (bne_iff_ne.2 h1) trivial))))))))))))))))))))) (by kernel_rfl)) H.2.2⟩
        | ret r => exact lg_next (cg_of mix O_ 400 [t0, t0, t0, t0, t0, t0, t0, f0, t0, t0, t0, t0, t0, t0, t0, t0, f0, t0, t0, t0, t0] ([true, true, true, true, false, false, false, false, false, false, false, false, false, false, false, false, false, false, false, false, false, false, false, false, false, false, false, false, false, false, false, false, false, false, false, false, false, false, false, false, false, false, false, false, false, false], [true, true]) (ai (dt h0) (ai (dt h0) (ai (dt h0) (ai (dt h0) (ai (dt h0) (ai (dt h0) (ai (dt h0) (ai ((df (by first | exact nz1 (by assumption) (by assumption) | exact nz2 (by assumption) (by assumption) (by assumption) | exact Int.not_lt.2 (Int.tmod_nonneg _ (by assumption)) | exact Int.not_lt.2 (Int.tmod_nonneg _ wrapu_nonneg) | exact Int.not_lt.2 bits_nonneg | omega | (rw [wrap_i64_id (by omega) (by omega)]; omega))) : decide ((IntKind.u64.wrap (v0 + 1)) = 0) = false) (ai (dt h0) (ai (dt h0) (ai (dt h0) (ai (dt h0) (ai (dt h0) (ai (dt h0) (ai (dt h0) (ai (dt h0) (ai ((df (by first | exact nz1 (by assumption) (by assumption) | exact nz2 (by assumption) (by assumption) (by assumption) | exact Int.not_lt.2 (Int.tmod_nonneg _ (by assumption)) | exact Int.not_lt.2 (Int.tmod_nonneg _ wrapu_nonneg) | exact Int.not_lt.2 bits_nonneg | omega | (rw [wrap_i64_id (by omega) (by omega)]; omega))) : decide ((IntKind.u64.wrap (v0 + 1)) = 0) = false) (ai (dt h0) (ai (dt h0) (ai (dt h0) (ai (bne_iff_ne.2 h1) trivial))))))))))))))))))))) (by kernel_rfl)) H
    · rw [if_neg h0] at h
      cases h
      exact ⟨(by first | assumption | (exact wrapu_nonneg)), (by first | assumption | (exact wrapu_lt)), lg_exit (cg_of mix O_ 400 [f0, f0, f0, f0, f0, f0, f0, f0, f0, f0, f0, f0, f0, f0, f0, f0, f0, f0] ([true, true, true, true, false, false, false, false, false, false, false, false, false, false, false, false, false, false, false, false, false, false, false, false, false, false, false, false, false, false, false, false, false, false, false, false, false, false, false, false, false, false, false, false, false, false], [true, true]) (ai (df h0) (ai (df h0) (ai (df h0) (ai (df h0) (ai (df h0) (ai (df h0) (ai (df h0) (ai (df h0) (ai (df h0) (ai (df h0) (ai (df h0) (ai (df h0) (ai (df h0) (ai (df h0) (ai (df h0) (ai (df h0) (ai (df h0) (ai (df h0) trivial)))))))))))))))))) (by kernel_rfl))⟩
theorem K_lockgateref04_ToT : Keeps Try.prog 129 (F1 cUs cTn (fun _ => []) lockgateref04_ToT) := by
  refine keeps1 _ _ (enters_of Try.func129 (by kernel_rfl)) fun a hp_ => ?_
  unfold lockgateref04_ToT
  cases hL : lockgateref04_ToT_L a 65 0 with
  | none => exact absurd hL (T_lockgateref04_ToT a)
  | some o =>
    have H := L_lockgateref04_ToT 65 a 0 (by decide) (by decide) o hL
    cases o with
    | ret r => exact gives_cg (s' := lockgateref04_ToT_F r) Try.func129 rfl rfl (cg_seq (s1 := ⟨[.agg [.int .u64 a.lo, .int .u64 a.hi], .ptr 0 0, .ptr 1 0, .tup [], .tup [], .tup [], .tup [], .tup [], .tup [], .tup [], .tup [], .tup [], .tup [], .tup [], .tup [], .tup [], .tup [], .tup [], .tup [], .tup [], .tup [], .tup [], .tup [], .tup [], .tup [], .tup [], .tup [], .tup [], .tup [], .tup [], .tup [], .tup [], .tup [], .tup [], .tup [], .tup [], .tup [], .tup [], .tup [], .tup [], .tup [], .tup [], .tup [], .tup [], .tup [], .tup []], [.cells [.int .u64 a.lo, .int .u64 a.hi], .cells [.int .u64 0, .int .u64 0]]⟩) (cg_of mix on_ 400 [] ([true, true, true, true, true, true, true, true, true, true, true, true, true, true, true, true, true, true, true, true, true, true, true, true, true, true, true, true, true, true, true, true, true, true, true, true, true, true, true, true, true, true, true, true, true, true], []) trivial (by kernel_rfl)) (cg_seq (cg_of mix on_ 400 [] ([true, true, true, true, false, false, false, false, false, false, false, false, false, false, false, false, false, false, false, false, false, false, false, false, false, false, false, false, false, false, false, false, false, false, false, false, false, false, false, false, false, false, false, false, false, false], [true, true]) trivial (by kernel_rfl)) (cg_seq_ret (cg_block_ret (cg_loop H))))) rfl (by kernel_rfl)
    | brk z =>
      obtain ⟨e0, e1, H⟩ := H
      refine gite (fun h0 => ?_) (fun h0 => ?_)
      · exact gives_cg (s' := lockgateref04_ToT_F (⟨0, z⟩ : Tn)) Try.func129 rfl rfl (cg_seq (s1 := ⟨[.agg [.int .u64 a.lo, .int .u64 a.hi], .ptr 0 0, .ptr 1 0, .tup [], .tup [], .tup [], .tup [], .tup [], .tup [], .tup [], .tup [], .tup [], .tup [], .tup [], .tup [], .tup [], .tup [], .tup [], .tup [], .tup [], .tup [], .tup [], .tup [], .tup [], .tup [], .tup [], .tup [], .tup [], .tup [], .tup [], .tup [], .tup [], .tup [], .tup [], .tup [], .tup [], .tup [], .tup [], .tup [], .tup [], .tup [], .tup [], .tup [], .tup [], .tup [], .tup []], [.cells [.int .u64 a.lo, .int .u64 a.hi], .cells [.int .u64 0, .int .u64 0]]⟩) (cg_of mix on_ 400 [] ([true, true, true, true, true, true, true, true, true, true, true, true, true, true, true, true, true, true, true, true, true, true, true, true, true, true, true, true, true, true, true, true, true, true, true, true, true, true, true, true, true, true, true, true, true, true], []) trivial (by kernel_rfl)) (cg_seq (cg_of mix on_ 400 [] ([true, true, true, true, false, false, false, false, false, false, false, false, false, false, false, false, false, false, false, false, false, false, false, false, false, false, false, false, false, false, false, false, false, false, false, false, false, false, false, false, false, false, false, false, false, false], [true, true]) trivial (by kernel_rfl)) (cg_seq (cg_block (cg_loop H)) (cg_of mix (orc_cons K_lockgateref04_UAll on_) 400 [t0] ([false, false, true, false, false, false, false, false, false, false, false, false, false, false, false, false, false, false, false, false, false, false, false, false, false, false, false, false, false, false, false, false, false, false, false, false, false, false, false, false, false, false, false, false, false, false], [false, true]) (ai (be h0) trivial) (by kernel_rfl))))) rfl (by kernel_rfl)
      · exact gives_cg (s' := lockgateref04_ToT_F (⟨(IntKind.u64.wrap (a.lo - (Int.tmod a.lo (IntKind.u64.wrap (z + 1))))), z⟩ : Tn)) Try.func129 rfl rfl (cg_seq (s1 := ⟨[.agg [.int .u64 a.lo, .int .u64 a.hi], .ptr 0 0, .ptr 1 0, .tup [], .tup [], .tup [], .tup [], .tup [], .tup [], .tup [], .tup [], .tup [], .tup [], .tup [], .tup [], .tup [], .tup [], .tup [], .tup [], .tup [], .tup [], .tup [], .tup [], .tup [], .tup [], .tup [], .tup [], .tup [], .tup [], .tup [], .tup [], .tup [], .tup [], .tup [], .tup [], .tup [], .tup [], .tup [], .tup [], .tup [], .tup [], .tup [], .tup [], .tup [], .tup [], .tup []], [.cells [.int .u64 a.lo, .int .u64 a.hi], .cells [.int .u64 0, .int .u64 0]]⟩) (cg_of mix on_ 400 [] ([true, true, true, true, true, true, true, true, true, true, true, true, true, true, true, true, true, true, true, true, true, true, true, true, true, true, true, true, true, true, true, true, true, true, true, true, true, true, true, true, true, true, true, true, true, true], []) trivial (by kernel_rfl)) (cg_seq (cg_of mix on_ 400 [] ([true, true, true, true, false, false, false, false, false, false, false, false, false, false, false, false, false, false, false, false, false, false, false, false, false, false, false, false, false, false, false, false, false, false, false, false, false, false, false, false, false, false, false, false, false, false], [true, true]) trivial (by kernel_rfl)) (cg_seq (cg_block (cg_loop H)) (cg_of mix (orc_cons K_lockgateref04_UAll on_) 400 [f0, f0] ([false, false, true, false, false, false, false, false, false, false, false, false, false, false, false, false, false, false, false, false, false, false, false, false, false, false, false, false, false, false, false, false, false, false, false, false, false, false, false, false, false, false, false, false, false, false], [false, true]) (ai (bn h0) (ai ((df (by first | exact nz1 (by assumption) (by assumption) | exact nz2 (by assumption) (by assumption) (by assumption) | exact Int.not_lt.2 (Int.tmod_nonneg _ (by assumption)) | exact Int.not_lt.2 (Int.tmod_nonneg _ wrapu_nonneg) | exact Int.not_lt.2 bits_nonneg | omega | (rw [wrap_i64_id (by omega) (by omega)]; omega))) : decide ((IntKind.u64.wrap (z + 1)) = 0) = false) trivial)) (by kernel_rfl))))) rfl (by kernel_rfl)
theorem K_bits_Len64 : Keeps Try.prog 137 (F1 (cI .u64) (cI .i64) (fun _ => []) bits_Len64) := by
  refine keeps1 _ _ (enters_of Try.func137 (by kernel_rfl)) fun a hp_ => ?_
  unfold bits_Len64
  have O_ := on_
  refine gite (fun h0 => ?_) (fun h0 => ?_)
  · refine gite (fun h1 => ?_) (fun h1 => ?_)
    · refine gite (fun h2 => ?_) (fun h2 => ?_)
      · exact gv mix O_ 400 [t0, (1, true), (1, true), (1, true)] (ai (dt h0) (ai (dt h1) (ai (dt h2) (ai ((dt (by first | (rw [tab_size]; exact u8_in) | exact nz1 (by assumption) (by assumption) | exact nz2 (by assumption) (by assumption) (by assumption) | exact Int.not_lt.2 (Int.tmod_nonneg _ (by assumption)) | exact Int.not_lt.2 (Int.tmod_nonneg _ wrapu_nonneg) | exact Int.not_lt.2 bits_nonneg | omega | (rw [wrap_i64_id (by omega) (by omega)]; omega))) : decide (0 ≤ (IntKind.u8.wrap (shr .u64 (shr .u64 (shr .u64 a 32) 16) 8)) ∧ (IntKind.u8.wrap (shr .u64 (shr .u64 (shr .u64 a 32) 16) 8)) < (tab0.size : Int)) = true) trivial)))) (by kernel_rfl) rfl rfl
      · exact gv mix O_ 400 [t0, (1, true), (1, false), t0] (ai (dt h0) (ai (dt h1) (ai (df h2) (ai ((dt (by first | (rw [tab_size]; exact u8_in) | exact nz1 (by assumption) (by assumption) | exact nz2 (by assumption) (by assumption) (by assumption) | exact Int.not_lt.2 (Int.tmod_nonneg _ (by assumption)) | exact Int.not_lt.2 (Int.tmod_nonneg _ wrapu_nonneg) | exact Int.not_lt.2 bits_nonneg | omega | (rw [wrap_i64_id (by omega) (by omega)]; omega))) : decide (0 ≤ (IntKind.u8.wrap (shr .u64 (shr .u64 a 32) 16)) ∧ (IntKind.u8.wrap (shr .u64 (shr .u64 a 32) 16)) < (tab0.size : Int)) = true) trivial)))) (by kernel_rfl) rfl rfl
    · refine gite (fun h2 => ?_) (fun h2 => ?_)
      · exact gv mix O_ 400 [t0, (1, false), t0, (1, true)] (ai (dt h0) (ai (df h1) (ai (dt h2) (ai ((dt (by first | (rw [tab_size]; exact u8_in) | exact nz1 (by assumption) (by assumption) | exact nz2 (by assumption) (by assumption) (by assumption) | exact Int.not_lt.2 (Int.tmod_nonneg _ (by assumption)) | exact Int.not_lt.2 (Int.tmod_nonneg _ wrapu_nonneg) | exact Int.not_lt.2 bits_nonneg | omega | (rw [wrap_i64_id (by omega) (by omega)]; omega))) : decide (0 ≤ (IntKind.u8.wrap (shr .u64 (shr .u64 a 32) 8)) ∧ (IntKind.u8.wrap (shr .u64 (shr .u64 a 32) 8)) < (tab0.size : Int)) = true) trivial)))) (by kernel_rfl) rfl rfl
      · exact gv mix O_ 400 [t0, (1, false), f0, t0] (ai (dt h0) (ai (df h1) (ai (df h2) (ai ((dt (by first | (rw [tab_size]; exact u8_in) | exact nz1 (by assumption) (by assumption) | exact nz2 (by assumption) (by assumption) (by assumption) | exact Int.not_lt.2 (Int.tmod_nonneg _ (by assumption)) | exact Int.not_lt.2 (Int.tmod_nonneg _ wrapu_nonneg) | exact Int.not_lt.2 bits_nonneg | omega | (rw [wrap_i64_id (by omega) (by omega)]; omega))) : decide (0 ≤ (IntKind.u8.wrap (shr .u64 a 32)) ∧ (IntKind.u8.wrap (shr .u64 a 32)) < (tab0.size : Int)) = true) trivial)))) (by kernel_rfl) rfl rfl
  · refine gite (fun h1 => ?_) (fun h1 => ?_)
    · refine gite (fun h2 => ?_) (fun h2 => ?_)
      · exact gv mix O_ 400 [f0, t0, (1, true), (1, true)] (ai (df h0) (ai (dt h1) (ai (dt h2) (ai ((dt (by first | (rw [tab_size]; exact u8_in) | exact nz1 (by assumption) (by assumption) | exact nz2 (by assumption) (by assumption) (by assumption) | exact Int.not_lt.2 (Int.tmod_nonneg _ (by assumption)) | exact Int.not_lt.2 (Int.tmod_nonneg _ wrapu_nonneg) | exact Int.not_lt.2 bits_nonneg | omega | (rw [wrap_i64_id (by omega) (by omega)]; omega))) : decide (0 ≤ (IntKind.u8.wrap (shr .u64 (shr .u64 a 16) 8)) ∧ (IntKind.u8.wrap (shr .u64 (shr .u64 a 16) 8)) < (tab0.size : Int)) = true) trivial)))) (by kernel_rfl) rfl rfl
      · exact gv mix O_ 400 [f0, t0, (1, false), t0] (ai (df h0) (ai (dt h1) (ai (df h2) (ai ((dt (by first | (rw [tab_size]; exact u8_in) | exact nz1 (by assumption) (by assumption) | exact nz2 (by assumption) (by assumption) (by assumption) | exact Int.not_lt.2 (Int.tmod_nonneg _ (by assumption)) | exact Int.not_lt.2 (Int.tmod_nonneg _ wrapu_nonneg) | exact Int.not_lt.2 bits_nonneg | omega | (rw [wrap_i64_id (by omega) (by omega)]; omega))) : decide (0 ≤ (IntKind.u8.wrap (shr .u64 a 16)) ∧ (IntKind.u8.wrap (shr .u64 a 16)) < (tab0.size : Int)) = true) trivial)))) (by kernel_rfl) rfl rfl
    · refine gite (fun h2 => ?_) (fun h2 => ?_)
      · exact gv mix O_ 400 [f0, f0, t0, (1, true)] (ai (df h0) (ai (df h1) (ai (dt h2) (ai ((dt (by first | (rw [tab_size]; exact u8_in) | exact nz1 (by assumption) (by assumption) | exact nz2 (by assumption) (by assumption) (by assumption) | exact Int.not_lt.2 (Int.tmod_nonneg _ (by assumption)) | exact Int.not_lt.2 (Int.tmod_nonneg _ wrapu_nonneg) | exact Int.not_lt.2 bits_nonneg | omega | (rw [wrap_i64_id (by omega) (by omega)]; omega))) : decide (0 ≤ (IntKind.u8.wrap (shr .u64 a 8)) ∧ (IntKind.u8.wrap (shr .u64 a 8)) < (tab0.size : Int)) = true) trivial)))) (by kernel_rfl) rfl rfl
      · exact gv mix O_ 400 [f0, f0, f0, t0] (ai (df h0) (ai (df h1) (ai (df h2) (ai ((dt (by first | (rw [tab_size]; exact u8_in) | exact nz1 (by assumption) (by assumption) | exact nz2 (by assumption) (by assumption) (by assumption) | exact Int.not_lt.2 (Int.tmod_nonneg _ (by assumption)) | exact Int.not_lt.2 (Int.tmod_nonneg _ wrapu_nonneg) | exact Int.not_lt.2 bits_nonneg | omega | (rw [wrap_i64_id (by omega) (by omega)]; omega))) : decide (0 ≤ (IntKind.u8.wrap a) ∧ (IntKind.u8.wrap a) < (tab0.size : Int)) = true) trivial)))) (by kernel_rfl) rfl rfl
theorem K_lockgatekit_KeptDecls : Keeps Try.prog 15 (F2 cNil cNil cB (fun _ _ => []) lockgatekit_KeptDecls) := by
  refine keeps2 _ _ _ (enters_of Try.func15 (by kernel_rfl)) fun a b hp_ => ?_
  unfold lockgatekit_KeptDecls
  have O_ := on_
  exact gv mix O_ 400 [] trivial (by kernel_rfl) rfl rfl
theorem K_lockgatelaw05_may : Keeps Try.prog 21 (F1 cSc cB (fun _ => []) lockgatelaw05_may) := by
  refine keeps1 _ _ (enters_of Try.func21 (by kernel_rfl)) fun a hp_ => ?_
  unfold lockgatelaw05_may
  have O_ := on_
  refine gite (fun h0 => ?_) (fun h0 => ?_)
  · refine gite (fun h1 => ?_) (fun h1 => ?_)
    · exact gv mix O_ 400 [t0, t0, t0, t0, t0, t0, t0, t0, t0, t0, t0, t0, t0, t0, t0, t0] (ai (be h0) (ai (be h0) (ai (be h0) (ai (be h0) (ai (be h0) (ai (be h0) (ai (be h0) (ai (be h0) (ai (dt h1) (ai (dt h1) (ai (dt h1) (ai (dt h1) (ai (dt h1) (ai (dt h1) (ai (dt h1) (ai (dt h1) trivial)))))))))))))))) (by kernel_rfl) rfl rfl
    · exact gv mix O_ 400 [t0, t0, t0, t0, t0, t0, t0, t0, f0, f0, f0, f0, f0, f0, f0, f0] (ai (be h0) (ai (be h0) (ai (be h0) (ai (be h0) (ai (be h0) (ai (be h0) (ai (be h0) (ai (be h0) (ai (df h1) (ai (df h1) (ai (df h1) (ai (df h1) (ai (df h1) (ai (df h1) (ai (df h1) (ai (df h1) trivial)))))))))))))))) (by kernel_rfl) rfl rfl
  · exact gv mix O_ 400 [f0, f0, f0, f0, f0, f0, f0, f0] (ai (bn h0) (ai (bn h0) (ai (bn h0) (ai (bn h0) (ai (bn h0) (ai (bn h0) (ai (bn h0) (ai (bn h0) trivial)))))))) (by kernel_rfl) rfl rfl
theorem K_word_Alu : Keeps Try.prog 28 (F4 (cI .i64) cB (cI .u64) (cI .u64) (cP (cI .u64) cB) (fun _ _ _ d => [(decide (0 ≤ d), true)]) word_Alu) := by
  refine keeps4 _ _ _ _ _ (enters_of Try.func28 (by kernel_rfl)) fun a b c d hp_ => ?_
  have p0 := of_decide_eq_true hp_.1
  unfold word_Alu
  have O_ := on_
  refine gite (fun h0 => ?_) (fun h0 => ?_)
  · refine gite (fun h1 => ?_) (fun h1 => ?_)
    · exact gv mix O_ 400 [t0, t0, t0, (1, false)] (ai (be h0) (ai (be h0) (ai h1 (ai ((df (by first | exact len64_nn | (rw [tab_size]; exact u8_in) | exact nz1 (by assumption) (by assumption) | exact nz2 (by assumption) (by assumption) (by assumption) | exact Int.not_lt.2 (Int.tmod_nonneg _ (by assumption)) | exact Int.not_lt.2 (Int.tmod_nonneg _ wrapu_nonneg) | exact Int.not_lt.2 bits_nonneg | omega | (rw [wrap_i64_id (by omega) (by omega)]; omega))) : decide ((Int.tmod d 64) < 0) = false) trivial)))) (by kernel_rfl) rfl rfl
    · exact gv mix O_ 400 [t0, t0, f0, t0, (1, false)] (ai (be h0) (ai (be h0) (ai (bf h1) (ai (be h0) (ai ((df (by first | exact len64_nn | (rw [tab_size]; exact u8_in) | exact nz1 (by assumption) (by assumption) | exact nz2 (by assumption) (by assumption) (by assumption) | exact Int.not_lt.2 (Int.tmod_nonneg _ (by assumption)) | exact Int.not_lt.2 (Int.tmod_nonneg _ wrapu_nonneg) | exact Int.not_lt.2 bits_nonneg | omega | (rw [wrap_i64_id (by omega) (by omega)]; omega))) : decide ((Int.tmod d 32) < 0) = false) trivial))))) (by kernel_rfl) rfl rfl
  · refine gite (fun h1 => ?_) (fun h1 => ?_)
    · refine gite (fun h2 => ?_) (fun h2 => ?_)
      · exact gv mix O_ 400 [f0, f0, (1, false), t0, t0] (ai (bn h0) (ai (bn h0) (ai (bn h0) (ai h1 (ai (be h2) trivial))))) (by kernel_rfl) rfl rfl
      · refine gite (fun h3 => ?_) (fun h3 => ?_)
        · exact gv mix O_ 400 [f0, f0, (1, false), t0, f0, t0] (ai (bn h0) (ai (bn h0) (ai (bn h0) (ai h1 (ai (bn h2) (ai (be h3) trivial)))))) (by kernel_rfl) rfl rfl
        · refine gite (fun h4 => ?_) (fun h4 => ?_)
          · exact gv mix O_ 400 [f0, f0, (1, false), t0, f0, f0, t0] (ai (bn h0) (ai (bn h0) (ai (bn h0) (ai h1 (ai (bn h2) (ai (bn h3) (ai (be h4) trivial))))))) (by kernel_rfl) rfl rfl
          · refine gite (fun h5 => ?_) (fun h5 => ?_)
            · refine gite (fun h6 => ?_) (fun h6 => ?_)
              · exact gv mix O_ 400 [f0, f0, (1, false), t0, f0, f0, f0, t0, t0] (ai (bn h0) (ai (bn h0) (ai (bn h0) (ai h1 (ai (bn h2) (ai (bn h3) (ai (bn h4) (ai (be h5) (ai (be h6) trivial))))))))) (by kernel_rfl) rfl rfl
              · exact gv mix O_ 400 [f0, f0, (1, false), t0, f0, f0, f0, t0, f0, f0] (ai (bn h0) (ai (bn h0) (ai (bn h0) (ai h1 (ai (bn h2) (ai (bn h3) (ai (bn h4) (ai (be h5) (ai (bn h6) (ai (df h6) trivial)))))))))) (by kernel_rfl) rfl rfl
            · refine gite (fun h6 => ?_) (fun h6 => ?_)
              · refine gite (fun h7 => ?_) (fun h7 => ?_)
                · exact gv mix O_ 400 [f0, f0, (1, false), t0, f0, f0, f0, f0, t0, t0] (ai (bn h0) (ai (bn h0) (ai (bn h0) (ai h1 (ai (bn h2) (ai (bn h3) (ai (bn h4) (ai (bn h5) (ai (be h6) (ai (be h7) trivial)))))))))) (by kernel_rfl) rfl rfl
                · exact gv mix O_ 400 [f0, f0, (1, false), t0, f0, f0, f0, f0, t0, f0, f0] (ai (bn h0) (ai (bn h0) (ai (bn h0) (ai h1 (ai (bn h2) (ai (bn h3) (ai (bn h4) (ai (bn h5) (ai (be h6) (ai (bn h7) (ai (df h7) trivial))))))))))) (by kernel_rfl) rfl rfl
              · refine gite (fun h7 => ?_) (fun h7 => ?_)
                · exact gv mix O_ 400 [f0, f0, (1, false), t0, f0, f0, f0, f0, f0, t0] (ai (bn h0) (ai (bn h0) (ai (bn h0) (ai h1 (ai (bn h2) (ai (bn h3) (ai (bn h4) (ai (bn h5) (ai (bn h6) (ai (be h7) trivial)))))))))) (by kernel_rfl) rfl rfl
                · refine gite (fun h8 => ?_) (fun h8 => ?_)
                  · exact gv mix O_ 400 [f0, f0, (1, false), t0, f0, f0, f0, f0, f0, f0, t0] (ai (bn h0) (ai (bn h0) (ai (bn h0) (ai h1 (ai (bn h2) (ai (bn h3) (ai (bn h4) (ai (bn h5) (ai (bn h6) (ai (bn h7) (ai (be h8) trivial))))))))))) (by kernel_rfl) rfl rfl
                  · refine gite (fun h9 => ?_) (fun h9 => ?_)
                    · exact gv mix O_ 400 [f0, f0, (1, false), t0, f0, f0, f0, f0, f0, f0, f0, t0] (ai (bn h0) (ai (bn h0) (ai (bn h0) (ai h1 (ai (bn h2) (ai (bn h3) (ai (bn h4) (ai (bn h5) (ai (bn h6) (ai (bn h7) (ai (bn h8) (ai (be h9) trivial)))))))))))) (by kernel_rfl) rfl rfl
                    · refine gite (fun h10 => ?_) (fun h10 => ?_)
                      · exact gv mix O_ 400 [f0, f0, (1, false), t0, f0, f0, f0, f0, f0, f0, f0, f0, t0, (1, false)] (ai (bn h0) (ai (bn h0) (ai (bn h0) (ai h1 (ai (bn h2) (ai (bn h3) (ai (bn h4) (ai (bn h5) (ai (bn h6) (ai (bn h7) (ai (bn h8) (ai (bn h9) (ai (be h10) (ai ((df (by first | exact len64_nn | (rw [tab_size]; exact u8_in) | exact nz1 (by assumption) (by assumption) | exact nz2 (by assumption) (by assumption) (by assumption) | exact Int.not_lt.2 (Int.tmod_nonneg _ (by assumption)) | exact Int.not_lt.2 (Int.tmod_nonneg _ wrapu_nonneg) | exact Int.not_lt.2 bits_nonneg | omega | (rw [wrap_i64_id (by omega) (by omega)]; omega))) : decide ((Int.tmod d 64) < 0) = false) trivial)))))))))))))) (by kernel_rfl) rfl rfl
                      · refine gite (fun h11 => ?_) (fun h11 => ?_)
                        · exact gv mix O_ 400 [f0, f0, (1, false), t0, f0, f0, f0, f0, f0, f0, f0, f0, f0, t0, (1, false)] (ai (bn h0) (ai (bn h0) (ai (bn h0) (ai h1 (ai (bn h2) (ai (bn h3) (ai (bn h4) (ai (bn h5) (ai (bn h6) (ai (bn h7) (ai (bn h8) (ai (bn h9) (ai (bn h10) (ai (be h11) (ai ((df (by first | exact len64_nn | (rw [tab_size]; exact u8_in) | exact nz1 (by assumption) (by assumption) | exact nz2 (by assumption) (by assumption) (by assumption) | exact Int.not_lt.2 (Int.tmod_nonneg _ (by assumption)) | exact Int.not_lt.2 (Int.tmod_nonneg _ wrapu_nonneg) | exact Int.not_lt.2 bits_nonneg | omega | (rw [wrap_i64_id (by omega) (by omega)]; omega))) : decide ((Int.tmod d 64) < 0) = false) trivial))))))))))))))) (by kernel_rfl) rfl rfl
                        · refine gite (fun h12 => ?_) (fun h12 => ?_)
                          · exact gv mix O_ 400 [f0, f0, (1, false), t0, f0, f0, f0, f0, f0, f0, f0, f0, f0, f0, t0] (ai (bn h0) (ai (bn h0) (ai (bn h0) (ai h1 (ai (bn h2) (ai (bn h3) (ai (bn h4) (ai (bn h5) (ai (bn h6) (ai (bn h7) (ai (bn h8) (ai (bn h9) (ai (bn h10) (ai (bn h11) (ai (be h12) trivial))))))))))))))) (by kernel_rfl) rfl rfl
                          · refine gite (fun h13 => ?_) (fun h13 => ?_)
                            · exact gv mix O_ 400 [f0, f0, (1, false), t0, f0, f0, f0, f0, f0, f0, f0, f0, f0, f0, f0, t0] (ai (bn h0) (ai (bn h0) (ai (bn h0) (ai h1 (ai (bn h2) (ai (bn h3) (ai (bn h4) (ai (bn h5) (ai (bn h6) (ai (bn h7) (ai (bn h8) (ai (bn h9) (ai (bn h10) (ai (bn h11) (ai (bn h12) (ai (be h13) trivial)))))))))))))))) (by kernel_rfl) rfl rfl
                            · exact gv mix O_ 400 [f0, f0, (1, false), t0, f0, f0, f0, f0, f0, f0, f0, f0, f0, f0, f0, f0] (ai (bn h0) (ai (bn h0) (ai (bn h0) (ai h1 (ai (bn h2) (ai (bn h3) (ai (bn h4) (ai (bn h5) (ai (bn h6) (ai (bn h7) (ai (bn h8) (ai (bn h9) (ai (bn h10) (ai (bn h11) (ai (bn h12) (ai (bn h13) trivial)))))))))))))))) (by kernel_rfl) rfl rfl
    · refine gite (fun h2 => ?_) (fun h2 => ?_)
      · exact gv mix O_ 400 [f0, f0, (1, false), f0, t0] (ai (bn h0) (ai (bn h0) (ai (bn h0) (ai (bf h1) (ai (be h2) trivial))))) (by kernel_rfl) rfl rfl
      · refine gite (fun h3 => ?_) (fun h3 => ?_)
        · exact gv mix O_ 400 [f0, f0, (1, false), f0, f0, t0] (ai (bn h0) (ai (bn h0) (ai (bn h0) (ai (bf h1) (ai (bn h2) (ai (be h3) trivial)))))) (by kernel_rfl) rfl rfl
        · refine gite (fun h4 => ?_) (fun h4 => ?_)
          · exact gv mix O_ 400 [f0, f0, (1, false), f0, f0, f0, t0] (ai (bn h0) (ai (bn h0) (ai (bn h0) (ai (bf h1) (ai (bn h2) (ai (bn h3) (ai (be h4) trivial))))))) (by kernel_rfl) rfl rfl
          · refine gite (fun h5 => ?_) (fun h5 => ?_)
            · refine gite (fun h6 => ?_) (fun h6 => ?_)
              · exact gv mix O_ 400 [f0, f0, (1, false), f0, f0, f0, f0, t0, t0] (ai (bn h0) (ai (bn h0) (ai (bn h0) (ai (bf h1) (ai (bn h2) (ai (bn h3) (ai (bn h4) (ai (be h5) (ai (be h6) trivial))))))))) (by kernel_rfl) rfl rfl
              · exact gv mix O_ 400 [f0, f0, (1, false), f0, f0, f0, f0, t0, f0, f0] (ai (bn h0) (ai (bn h0) (ai (bn h0) (ai (bf h1) (ai (bn h2) (ai (bn h3) (ai (bn h4) (ai (be h5) (ai (bn h6) (ai (df h6) trivial)))))))))) (by kernel_rfl) rfl rfl
            · refine gite (fun h6 => ?_) (fun h6 => ?_)
              · refine gite (fun h7 => ?_) (fun h7 => ?_)
                · exact gv mix O_ 400 [f0, f0, (1, false), f0, f0, f0, f0, f0, t0, t0] (ai (bn h0) (ai (bn h0) (ai (bn h0) (ai (bf h1) (ai (bn h2) (ai (bn h3) (ai (bn h4) (ai (bn h5) (ai (be h6) (ai (be h7) trivial)))))))))) (by kernel_rfl) rfl rfl
                · exact gv mix O_ 400 [f0, f0, (1, false), f0, f0, f0, f0, f0, t0, f0, f0] (ai (bn h0) (ai (bn h0) (ai (bn h0) (ai (bf h1) (ai (bn h2) (ai (bn h3) (ai (bn h4) (ai (bn h5) (ai (be h6) (ai (bn h7) (ai (df h7) trivial))))))))))) (by kernel_rfl) rfl rfl
              · refine gite (fun h7 => ?_) (fun h7 => ?_)
                · exact gv mix O_ 400 [f0, f0, (1, false), f0, f0, f0, f0, f0, f0, t0] (ai (bn h0) (ai (bn h0) (ai (bn h0) (ai (bf h1) (ai (bn h2) (ai (bn h3) (ai (bn h4) (ai (bn h5) (ai (bn h6) (ai (be h7) trivial)))))))))) (by kernel_rfl) rfl rfl
                · refine gite (fun h8 => ?_) (fun h8 => ?_)
                  · exact gv mix O_ 400 [f0, f0, (1, false), f0, f0, f0, f0, f0, f0, f0, t0] (ai (bn h0) (ai (bn h0) (ai (bn h0) (ai (bf h1) (ai (bn h2) (ai (bn h3) (ai (bn h4) (ai (bn h5) (ai (bn h6) (ai (bn h7) (ai (be h8) trivial))))))))))) (by kernel_rfl) rfl rfl
                  · refine gite (fun h9 => ?_) (fun h9 => ?_)
                    · exact gv mix O_ 400 [f0, f0, (1, false), f0, f0, f0, f0, f0, f0, f0, f0, t0] (ai (bn h0) (ai (bn h0) (ai (bn h0) (ai (bf h1) (ai (bn h2) (ai (bn h3) (ai (bn h4) (ai (bn h5) (ai (bn h6) (ai (bn h7) (ai (bn h8) (ai (be h9) trivial)))))))))))) (by kernel_rfl) rfl rfl
                    · refine gite (fun h10 => ?_) (fun h10 => ?_)
                      · exact gv mix O_ 400 [f0, f0, (1, false), f0, f0, f0, f0, f0, f0, f0, f0, f0, t0, (1, false)] (ai (bn h0) (ai (bn h0) (ai (bn h0) (ai (bf h1) (ai (bn h2) (ai (bn h3) (ai (bn h4) (ai (bn h5) (ai (bn h6) (ai (bn h7) (ai (bn h8) (ai (bn h9) (ai (be h10) (ai ((df (by first | exact len64_nn | (rw [tab_size]; exact u8_in) | exact nz1 (by assumption) (by assumption) | exact nz2 (by assumption) (by assumption) (by assumption) | exact Int.not_lt.2 (Int.tmod_nonneg _ (by assumption)) | exact Int.not_lt.2 (Int.tmod_nonneg _ wrapu_nonneg) | exact Int.not_lt.2 bits_nonneg | omega | (rw [wrap_i64_id (by omega) (by omega)]; omega))) : decide ((Int.tmod (IntKind.u32.wrap d) 32) < 0) = false) trivial)))))))))))))) (by kernel_rfl) rfl rfl
                      · refine gite (fun h11 => ?_) (fun h11 => ?_)
                        · exact gv mix O_ 400 [f0, f0, (1, false), f0, f0, f0, f0, f0, f0, f0, f0, f0, f0, t0, (1, false)] (ai (bn h0) (ai (bn h0) (ai (bn h0) (ai (bf h1) (ai (bn h2) (ai (bn h3) (ai (bn h4) (ai (bn h5) (ai (bn h6) (ai (bn h7) (ai (bn h8) (ai (bn h9) (ai (bn h10) (ai (be h11) (ai ((df (by first | exact len64_nn | (rw [tab_size]; exact u8_in) | exact nz1 (by assumption) (by assumption) | exact nz2 (by assumption) (by assumption) (by assumption) | exact Int.not_lt.2 (Int.tmod_nonneg _ (by assumption)) | exact Int.not_lt.2 (Int.tmod_nonneg _ wrapu_nonneg) | exact Int.not_lt.2 bits_nonneg | omega | (rw [wrap_i64_id (by omega) (by omega)]; omega))) : decide ((Int.tmod (IntKind.u32.wrap d) 32) < 0) = false) trivial))))))))))))))) (by kernel_rfl) rfl rfl
                        · refine gite (fun h12 => ?_) (fun h12 => ?_)
                          · exact gv mix O_ 400 [f0, f0, (1, false), f0, f0, f0, f0, f0, f0, f0, f0, f0, f0, f0, t0] (ai (bn h0) (ai (bn h0) (ai (bn h0) (ai (bf h1) (ai (bn h2) (ai (bn h3) (ai (bn h4) (ai (bn h5) (ai (bn h6) (ai (bn h7) (ai (bn h8) (ai (bn h9) (ai (bn h10) (ai (bn h11) (ai (be h12) trivial))))))))))))))) (by kernel_rfl) rfl rfl
                          · refine gite (fun h13 => ?_) (fun h13 => ?_)
                            · exact gv mix O_ 400 [f0, f0, (1, false), f0, f0, f0, f0, f0, f0, f0, f0, f0, f0, f0, f0, t0] (ai (bn h0) (ai (bn h0) (ai (bn h0) (ai (bf h1) (ai (bn h2) (ai (bn h3) (ai (bn h4) (ai (bn h5) (ai (bn h6) (ai (bn h7) (ai (bn h8) (ai (bn h9) (ai (bn h10) (ai (bn h11) (ai (bn h12) (ai (be h13) trivial)))))))))))))))) (by kernel_rfl) rfl rfl
                            · exact gv mix O_ 400 [f0, f0, (1, false), f0, f0, f0, f0, f0, f0, f0, f0, f0, f0, f0, f0, f0] (ai (bn h0) (ai (bn h0) (ai (bn h0) (ai (bf h1) (ai (bn h2) (ai (bn h3) (ai (bn h4) (ai (bn h5) (ai (bn h6) (ai (bn h7) (ai (bn h8) (ai (bn h9) (ai (bn h10) (ai (bn h11) (ai (bn h12) (ai (bn h13) trivial)))))))))))))))) (by kernel_rfl) rfl rfl
theorem K_scalar_Is : Keeps Try.prog 34 (F1 cSc (cP (cI .u64) cB) (fun _ => []) scalar_Is) := by
  refine keeps1 _ _ (enters_of Try.func34 (by kernel_rfl)) fun a hp_ => ?_
  unfold scalar_Is
  have O_ := on_
  refine gite (fun h0 => ?_) (fun h0 => ?_)
  · exact gv mix O_ 400 [t0] (ai (be h0) trivial) (by kernel_rfl) rfl rfl
  · refine gite (fun h1 => ?_) (fun h1 => ?_)
    · exact gv mix O_ 400 [f0, t0] (ai (bn h0) (ai (be h1) trivial)) (by kernel_rfl) rfl rfl
    · refine gite (fun h2 => ?_) (fun h2 => ?_)
      · exact gv mix O_ 400 [f0, f0, t0] (ai (bn h0) (ai (bn h1) (ai (be h2) trivial))) (by kernel_rfl) rfl rfl
      · exact gv mix O_ 400 [f0, f0, f0] (ai (bn h0) (ai (bn h1) (ai (bn h2) trivial))) (by kernel_rfl) rfl rfl
theorem K_kinds_Num : Keeps Try.prog 37 (F1 cSc cAR (fun _ => []) kinds_Num) := by
  refine keeps1 _ _ (enters_of Try.func37 (by kernel_rfl)) fun a hp_ => ?_
  unfold kinds_Num
  have O_ := on_
  exact gv mix O_ 400 [] trivial (by kernel_rfl) rfl rfl
theorem K_lockgatekit_CopyDecls : Keeps Try.prog 38 (F1 cNil cNil (fun _ => []) lockgatekit_CopyDecls) := by
  refine keeps1 _ _ (enters_of Try.func38 (by kernel_rfl)) fun a hp_ => ?_
  unfold lockgatekit_CopyDecls
  have O_ := on_
  exact gv mix O_ 400 [] trivial (by kernel_rfl) rfl rfl
theorem K_lockgatekit_markDecls : Keeps Try.prog 39 (F1 (cI .i64) cDc (fun _ => []) lockgatekit_markDecls) := by
  refine keeps1 _ _ (enters_of Try.func39 (by kernel_rfl)) fun a hp_ => ?_
  unfold lockgatekit_markDecls
  have O_ := on_
  exact gv mix O_ 400 [] trivial (by kernel_rfl) rfl rfl
theorem K_kinds_bounds : Keeps Try.prog 40 (F4 (cI .i64) (cI .i64) (cI .i64) (cI .i64) (cI .i64) (fun _ _ _ _ => []) kinds_bounds) := by
  refine keeps4 _ _ _ _ _ (enters_of Try.func40 (by kernel_rfl)) fun a b c d hp_ => ?_
  unfold kinds_bounds
  have O_ := on_
  refine gite (fun h0 => ?_) (fun h0 => ?_)
  · exact gv mix O_ 400 [t0, t0, t0, t0, t0, t0] (ai (dt h0) (ai (dt h0) (ai (dt h0) (ai (dt h0) (ai (dt h0) (ai (dt h0) trivial)))))) (by kernel_rfl) rfl rfl
  · refine gite (fun h1 => ?_) (fun h1 => ?_)
    · exact gv mix O_ 400 [f0, f0, f0, f0, f0, f0, t0] (ai (df h0) (ai (df h0) (ai (df h0) (ai (df h0) (ai (df h0) (ai (df h0) (ai (dt h1) trivial))))))) (by kernel_rfl) rfl rfl
    · exact gv mix O_ 400 [f0, f0, f0, f0, f0, f0, f0] (ai (df h0) (ai (df h0) (ai (df h0) (ai (df h0) (ai (df h0) (ai (df h0) (ai (df h1) trivial))))))) (by kernel_rfl) rfl rfl
theorem K_lockgateref05_Is : Keeps Try.prog 41 (F1 cSc (cP (cI .u64) cB) (fun _ => []) lockgateref05_Is) := by
  refine keeps1 _ _ (enters_of Try.func41 (by kernel_rfl)) fun a hp_ => ?_
  unfold lockgateref05_Is
  have O_ := on_
  refine gite (fun h0 => ?_) (fun h0 => ?_)
  · exact gv mix O_ 400 [t0] (ai (be h0) trivial) (by kernel_rfl) rfl rfl
  · refine gite (fun h1 => ?_) (fun h1 => ?_)
    · exact gv mix O_ 400 [f0, t0] (ai (bn h0) (ai (be h1) trivial)) (by kernel_rfl) rfl rfl
    · refine gite (fun h2 => ?_) (fun h2 => ?_)
      · exact gv mix O_ 400 [f0, f0, t0] (ai (bn h0) (ai (bn h1) (ai (be h2) trivial))) (by kernel_rfl) rfl rfl
      · exact gv mix O_ 400 [f0, f0, f0] (ai (bn h0) (ai (bn h1) (ai (bn h2) trivial))) (by kernel_rfl) rfl rfl
theorem K_lockgatekit_SameDecls : Keeps Try.prog 42 (F2 cNil cNil cB (fun _ _ => []) lockgatekit_SameDecls) := by
  refine keeps2 _ _ _ (enters_of Try.func42 (by kernel_rfl)) fun a b hp_ => ?_
  unfold lockgatekit_SameDecls
  have O_ := on_
  exact gv mix O_ 400 [] trivial (by kernel_rfl) rfl rfl
theorem K_lockgatelaw05_May : Keeps Try.prog 44 (F1 cSc cSc (fun _ => []) lockgatelaw05_May) := by
  refine keeps1 _ _ (enters_of Try.func44 (by kernel_rfl)) fun a hp_ => ?_
  unfold lockgatelaw05_May
  have O_ := on_
  exact gv mix O_ 400 [] trivial (by kernel_rfl) rfl rfl
theorem K_word_order_uint64 : Keeps Try.prog 45 (F2 (cI .u64) (cI .u64) (cI .i64) (fun _ _ => []) word_order_uint64) := by
  refine keeps2 _ _ _ (enters_of Try.func45 (by kernel_rfl)) fun a b hp_ => ?_
  unfold word_order_uint64
  have O_ := on_
  refine gite (fun h0 => ?_) (fun h0 => ?_)
  · exact gv mix O_ 400 [t0] (ai (dt h0) trivial) (by kernel_rfl) rfl rfl
  · refine gite (fun h1 => ?_) (fun h1 => ?_)
    · exact gv mix O_ 400 [f0, t0] (ai (df h0) (ai (dt h1) trivial)) (by kernel_rfl) rfl rfl
    · exact gv mix O_ 400 [f0, f0] (ai (df h0) (ai (df h1) trivial)) (by kernel_rfl) rfl rfl
theorem K_word_order_int64 : Keeps Try.prog 46 (F2 (cI .i64) (cI .i64) (cI .i64) (fun _ _ => []) word_order_int64) := by
  refine keeps2 _ _ _ (enters_of Try.func46 (by kernel_rfl)) fun a b hp_ => ?_
  unfold word_order_int64
  have O_ := on_
  refine gite (fun h0 => ?_) (fun h0 => ?_)
  · exact gv mix O_ 400 [t0] (ai (dt h0) trivial) (by kernel_rfl) rfl rfl
  · refine gite (fun h1 => ?_) (fun h1 => ?_)
    · exact gv mix O_ 400 [f0, t0] (ai (df h0) (ai (dt h1) trivial)) (by kernel_rfl) rfl rfl
    · exact gv mix O_ 400 [f0, f0] (ai (df h0) (ai (df h1) trivial)) (by kernel_rfl) rfl rfl
theorem K_tnum_In : Keeps Try.prog 48 (F2 cTn (cI .u64) cB (fun _ _ => []) tnum_In) := by
  refine keeps2 _ _ _ (enters_of Try.func48 (by kernel_rfl)) fun a b hp_ => ?_
  unfold tnum_In
  have O_ := on_
  exact gv mix O_ 400 [] trivial (by kernel_rfl) rfl rfl
theorem K_tnum_Within : Keeps Try.prog 51 (F2 cTn cTn cB (fun _ _ => []) tnum_Within) := by
  refine keeps2 _ _ _ (enters_of Try.func51 (by kernel_rfl)) fun a b hp_ => ?_
  unfold tnum_Within
  have O_ := (orc_cons K_tnum_In on_)
  refine gite (fun h0 => ?_) (fun h0 => ?_)
  · exact gv mix O_ 400 [t0, t0, t0, t0, t0] (ai (be h0) (ai (be h0) (ai (be h0) (ai (be h0) (ai (be h0) trivial))))) (by kernel_rfl) rfl rfl
  · exact gv mix O_ 400 [f0, f0, f0, f0, f0] (ai (bn h0) (ai (bn h0) (ai (bn h0) (ai (bn h0) (ai (bn h0) trivial))))) (by kernel_rfl) rfl rfl
theorem K_span_UWithin : Keeps Try.prog 52 (F2 cUs cUs cB (fun _ _ => []) span_UWithin) := by
  refine keeps2 _ _ _ (enters_of Try.func52 (by kernel_rfl)) fun a b hp_ => ?_
  unfold span_UWithin
  have O_ := on_
  refine gite (fun h0 => ?_) (fun h0 => ?_)
  · exact gv mix O_ 400 [t0, t0, t0, t0, t0, t0] (ai (dt h0) (ai (dt h0) (ai (dt h0) (ai (dt h0) (ai (dt h0) (ai (dt h0) trivial)))))) (by kernel_rfl) rfl rfl
  · exact gv mix O_ 400 [f0, f0, f0, f0, f0, f0] (ai (df h0) (ai (df h0) (ai (df h0) (ai (df h0) (ai (df h0) (ai (df h0) trivial)))))) (by kernel_rfl) rfl rfl
theorem K_span_SWithin : Keeps Try.prog 53 (F2 cSs cSs cB (fun _ _ => []) span_SWithin) := by
  refine keeps2 _ _ _ (enters_of Try.func53 (by kernel_rfl)) fun a b hp_ => ?_
  unfold span_SWithin
  have O_ := on_
  refine gite (fun h0 => ?_) (fun h0 => ?_)
  · exact gv mix O_ 400 [t0, t0, t0, t0, t0, t0] (ai (dt h0) (ai (dt h0) (ai (dt h0) (ai (dt h0) (ai (dt h0) (ai (dt h0) trivial)))))) (by kernel_rfl) rfl rfl
  · exact gv mix O_ 400 [f0, f0, f0, f0, f0, f0] (ai (df h0) (ai (df h0) (ai (df h0) (ai (df h0) (ai (df h0) (ai (df h0) trivial)))))) (by kernel_rfl) rfl rfl
theorem K_value_Num : Keeps Try.prog 55 (F1 (cI .u64) cVl (fun _ => []) value_Num) := by
  refine keeps1 _ _ (enters_of Try.func55 (by kernel_rfl)) fun a hp_ => ?_
  unfold value_Num
  have O_ := on_
  exact gv mix O_ 400 [] trivial (by kernel_rfl) rfl rfl
theorem K_tnum_Any : Keeps Try.prog 63 (F0 cTn [] tnum_Any) := by
  refine keeps0  _ (enters_of Try.func63 (by kernel_rfl)) fun _ => ?_
  unfold tnum_Any
  have O_ := on_
  exact gv mix O_ 400 [] trivial (by kernel_rfl) rfl rfl
theorem K_span_UAll : Keeps Try.prog 64 (F0 cUs [] span_UAll) := by
  refine keeps0  _ (enters_of Try.func64 (by kernel_rfl)) fun _ => ?_
  unfold span_UAll
  have O_ := on_
  exact gv mix O_ 400 [] trivial (by kernel_rfl) rfl rfl
theorem K_span_SAll : Keeps Try.prog 65 (F0 cSs [] span_SAll) := by
  refine keeps0  _ (enters_of Try.func65 (by kernel_rfl)) fun _ => ?_
  unfold span_SAll
  have O_ := on_
  exact gv mix O_ 400 [] trivial (by kernel_rfl) rfl rfl
theorem K_span_FromT : Keeps Try.prog 66 (F1 cTn (cP cUs cSs) (fun _ => []) span_FromT) := by
  refine keeps1 _ _ (enters_of Try.func66 (by kernel_rfl)) fun a hp_ => ?_
  unfold span_FromT
  have O_ := on_
  refine gite (fun h0 => ?_) (fun h0 => ?_)
  · exact gv mix O_ 400 [t0] (ai (be h0) trivial) (by kernel_rfl) rfl rfl
  · exact gv mix O_ 400 [f0] (ai (bn h0) trivial) (by kernel_rfl) rfl rfl
theorem K_span_ToU : Keeps Try.prog 69 (F1 cSs cUs (fun _ => []) span_ToU) := by
  refine keeps1 _ _ (enters_of Try.func69 (by kernel_rfl)) fun a hp_ => ?_
  unfold span_ToU
  have O_ := (orc_cons K_span_UAll on_)
  refine gite (fun h0 => ?_) (fun h0 => ?_)
  · exact gv mix O_ 400 [f0] (ai (cn h0) trivial) (by kernel_rfl) rfl rfl
  · exact gv mix O_ 400 [t0] (ai (cn (bf h0)) trivial) (by kernel_rfl) rfl rfl
theorem K_span_ToS : Keeps Try.prog 73 (F1 cUs cSs (fun _ => []) span_ToS) := by
  refine keeps1 _ _ (enters_of Try.func73 (by kernel_rfl)) fun a hp_ => ?_
  unfold span_ToS
  have O_ := (orc_cons K_span_SAll on_)
  refine gite (fun h0 => ?_) (fun h0 => ?_)
  · exact gv mix O_ 400 [(2, false)] (ai (bne_eq_false_iff_eq.2 h0) trivial) (by kernel_rfl) rfl rfl
  · exact gv mix O_ 400 [(2, true)] (ai (bne_iff_ne.2 h0) trivial) (by kernel_rfl) rfl rfl
theorem K_tnum_Of : Keeps Try.prog 78 (F1 (cI .u64) cTn (fun _ => []) tnum_Of) := by
  refine keeps1 _ _ (enters_of Try.func78 (by kernel_rfl)) fun a hp_ => ?_
  unfold tnum_Of
  have O_ := on_
  exact gv mix O_ 400 [] trivial (by kernel_rfl) rfl rfl
theorem K_span_UOf : Keeps Try.prog 79 (F1 (cI .u64) cUs (fun _ => []) span_UOf) := by
  refine keeps1 _ _ (enters_of Try.func79 (by kernel_rfl)) fun a hp_ => ?_
  unfold span_UOf
  have O_ := on_
  exact gv mix O_ 400 [] trivial (by kernel_rfl) rfl rfl
theorem K_span_SOf : Keeps Try.prog 80 (F1 (cI .u64) cSs (fun _ => []) span_SOf) := by
  refine keeps1 _ _ (enters_of Try.func80 (by kernel_rfl)) fun a hp_ => ?_
  unfold span_SOf
  have O_ := on_
  exact gv mix O_ 400 [] trivial (by kernel_rfl) rfl rfl
theorem K_lockgateref04_UIn : Keeps Try.prog 83 (F2 cUs (cI .u64) cB (fun _ _ => []) lockgateref04_UIn) := by
  refine keeps2 _ _ _ (enters_of Try.func83 (by kernel_rfl)) fun a b hp_ => ?_
  unfold lockgateref04_UIn
  have O_ := on_
  refine gite (fun h0 => ?_) (fun h0 => ?_)
  · exact gv mix O_ 400 [t0, t0, t0, t0, t0] (ai (dt h0) (ai (dt h0) (ai (dt h0) (ai (dt h0) (ai (dt h0) trivial))))) (by kernel_rfl) rfl rfl
  · exact gv mix O_ 400 [f0, f0, f0, f0, f0] (ai (df h0) (ai (df h0) (ai (df h0) (ai (df h0) (ai (df h0) trivial))))) (by kernel_rfl) rfl rfl
theorem K_lockgateref04_SIn : Keeps Try.prog 84 (F2 cSs (cI .u64) cB (fun _ _ => []) lockgateref04_SIn) := by
  refine keeps2 _ _ _ (enters_of Try.func84 (by kernel_rfl)) fun a b hp_ => ?_
  unfold lockgateref04_SIn
  have O_ := on_
  refine gite (fun h0 => ?_) (fun h0 => ?_)
  · exact gv mix O_ 400 [t0, t0, t0, t0, t0, t0] (ai (dt h0) (ai (dt h0) (ai (dt h0) (ai (dt h0) (ai (dt h0) (ai (dt h0) trivial)))))) (by kernel_rfl) rfl rfl
  · exact gv mix O_ 400 [f0, f0, f0, f0, f0, f0] (ai (df h0) (ai (df h0) (ai (df h0) (ai (df h0) (ai (df h0) (ai (df h0) trivial)))))) (by kernel_rfl) rfl rfl
theorem K_scalar_without : Keeps Try.prog 87 (F2 cSc (cI .u64) (cP cSc cB) (fun _ _ => []) scalar_without) := by
  refine keeps2 _ _ _ (enters_of Try.func87 (by kernel_rfl)) fun a b hp_ => ?_
  unfold scalar_without
  have O_ := (orc_cons K_span_UOf (orc_cons K_span_SOf on_))
  refine gite (fun h0 => ?_) (fun h0 => ?_)
  · exact gv mix O_ 400 [t0, t0, t0, t0, t0, t0] (ai h0 (ai h0 (ai h0 (ai h0 (ai h0 (ai h0 trivial)))))) (by kernel_rfl) rfl rfl
  · refine gite (fun h1 => ?_) (fun h1 => ?_)
    · exact gv mix O_ 400 [f0, f0, f0, f0, f0, f0, t0] (ai (bf h0) (ai (bf h0) (ai (bf h0) (ai (bf h0) (ai (bf h0) (ai (bf h0) (ai h1 trivial))))))) (by kernel_rfl) rfl rfl
    · refine gite (fun h2 => ?_) (fun h2 => ?_)
      · refine gite (fun h3 => ?_) (fun h3 => ?_)
        · exact gv mix O_ 400 [f0, f0, f0, f0, f0, f0, f0, t0, t0] (ai (bf h0) (ai (bf h0) (ai (bf h0) (ai (bf h0) (ai (bf h0) (ai (bf h0) (ai (bf h1) (ai (be h2) (ai (be h3) trivial))))))))) (by kernel_rfl) rfl rfl
        · refine gite (fun h4 => ?_) (fun h4 => ?_)
          · exact gv mix O_ 400 [f0, f0, f0, f0, f0, f0, f0, t0, f0, t0] (ai (bf h0) (ai (bf h0) (ai (bf h0) (ai (bf h0) (ai (bf h0) (ai (bf h0) (ai (bf h1) (ai (be h2) (ai (bn h3) (ai (be h4) trivial)))))))))) (by kernel_rfl) rfl rfl
          · exact gv mix O_ 400 [f0, f0, f0, f0, f0, f0, f0, t0, f0, f0] (ai (bf h0) (ai (bf h0) (ai (bf h0) (ai (bf h0) (ai (bf h0) (ai (bf h0) (ai (bf h1) (ai (be h2) (ai (bn h3) (ai (bn h4) trivial)))))))))) (by kernel_rfl) rfl rfl
      · refine gite (fun h3 => ?_) (fun h3 => ?_)
        · refine gite (fun h4 => ?_) (fun h4 => ?_)
          · exact gv mix O_ 400 [f0, f0, f0, f0, f0, f0, f0, f0, t0, t0] (ai (bf h0) (ai (bf h0) (ai (bf h0) (ai (bf h0) (ai (bf h0) (ai (bf h0) (ai (bf h1) (ai (bn h2) (ai (be h3) (ai (be h4) trivial)))))))))) (by kernel_rfl) rfl rfl
          · refine gite (fun h5 => ?_) (fun h5 => ?_)
            · exact gv mix O_ 400 [f0, f0, f0, f0, f0, f0, f0, f0, t0, f0, t0] (ai (bf h0) (ai (bf h0) (ai (bf h0) (ai (bf h0) (ai (bf h0) (ai (bf h0) (ai (bf h1) (ai (bn h2) (ai (be h3) (ai (bn h4) (ai (be h5) trivial))))))))))) (by kernel_rfl) rfl rfl
            · exact gv mix O_ 400 [f0, f0, f0, f0, f0, f0, f0, f0, t0, f0, f0] (ai (bf h0) (ai (bf h0) (ai (bf h0) (ai (bf h0) (ai (bf h0) (ai (bf h0) (ai (bf h1) (ai (bn h2) (ai (be h3) (ai (bn h4) (ai (bn h5) trivial))))))))))) (by kernel_rfl) rfl rfl
        · refine gite (fun h4 => ?_) (fun h4 => ?_)
          · exact gv mix O_ 400 [f0, f0, f0, f0, f0, f0, f0, f0, f0, t0] (ai (bf h0) (ai (bf h0) (ai (bf h0) (ai (bf h0) (ai (bf h0) (ai (bf h0) (ai (bf h1) (ai (bn h2) (ai (bn h3) (ai (be h4) trivial)))))))))) (by kernel_rfl) rfl rfl
          · refine gite (fun h5 => ?_) (fun h5 => ?_)
            · exact gv mix O_ 400 [f0, f0, f0, f0, f0, f0, f0, f0, f0, f0, t0] (ai (bf h0) (ai (bf h0) (ai (bf h0) (ai (bf h0) (ai (bf h0) (ai (bf h0) (ai (bf h1) (ai (bn h2) (ai (bn h3) (ai (bn h4) (ai (be h5) trivial))))))))))) (by kernel_rfl) rfl rfl
            · exact gv mix O_ 400 [f0, f0, f0, f0, f0, f0, f0, f0, f0, f0, f0] (ai (bf h0) (ai (bf h0) (ai (bf h0) (ai (bf h0) (ai (bf h0) (ai (bf h0) (ai (bf h1) (ai (bn h2) (ai (bn h3) (ai (bn h4) (ai (bn h5) trivial))))))))))) (by kernel_rfl) rfl rfl
theorem K_span_between_uint64 : Keeps Try.prog 90 (F3 (cI .u64) (cI .u64) (cI .u64) cB (fun _ _ _ => []) span_between_uint64) := by
  refine keeps3 _ _ _ _ (enters_of Try.func90 (by kernel_rfl)) fun a b c hp_ => ?_
  unfold span_between_uint64
  have O_ := on_
  refine gite (fun h0 => ?_) (fun h0 => ?_)
  · exact gv mix O_ 400 [t0, t0, t0, t0] (ai (dt h0) (ai (dt h0) (ai (dt h0) (ai (dt h0) trivial)))) (by kernel_rfl) rfl rfl
  · exact gv mix O_ 400 [f0, f0, f0, f0] (ai (df h0) (ai (df h0) (ai (df h0) (ai (df h0) trivial)))) (by kernel_rfl) rfl rfl
theorem K_span_between_int64 : Keeps Try.prog 91 (F3 (cI .i64) (cI .i64) (cI .i64) cB (fun _ _ _ => []) span_between_int64) := by
  refine keeps3 _ _ _ _ (enters_of Try.func91 (by kernel_rfl)) fun a b c hp_ => ?_
  unfold span_between_int64
  have O_ := on_
  refine gite (fun h0 => ?_) (fun h0 => ?_)
  · exact gv mix O_ 400 [t0, t0, t0, t0] (ai (dt h0) (ai (dt h0) (ai (dt h0) (ai (dt h0) trivial)))) (by kernel_rfl) rfl rfl
  · exact gv mix O_ 400 [f0, f0, f0, f0] (ai (df h0) (ai (df h0) (ai (df h0) (ai (df h0) trivial)))) (by kernel_rfl) rfl rfl
theorem K_kinds_place : Keeps Try.prog 92 (F1 cAR cB (fun _ => []) kinds_place) := by
  refine keeps1 _ _ (enters_of Try.func92 (by kernel_rfl)) fun a hp_ => ?_
  unfold kinds_place
  have O_ := on_
  refine gite (fun h0 => ?_) (fun h0 => ?_)
  · exact gv mix O_ 400 [t0, t0, t0, t0] (ai (be h0) (ai (be h0) (ai (be h0) (ai (be h0) trivial)))) (by kernel_rfl) rfl rfl
  · refine gite (fun h1 => ?_) (fun h1 => ?_)
    · exact gv mix O_ 400 [f0, f0, f0, f0, t0, t0, t0, t0] (ai (bn h0) (ai (bn h0) (ai (bn h0) (ai (bn h0) (ai (be h1) (ai (be h1) (ai (be h1) (ai (be h1) trivial)))))))) (by kernel_rfl) rfl rfl
    · refine gite (fun h2 => ?_) (fun h2 => ?_)
      · exact gv mix O_ 400 [f0, f0, f0, f0, f0, f0, f0, f0, t0, t0, t0, t0] (ai (bn h0) (ai (bn h0) (ai (bn h0) (ai (bn h0) (ai (bn h1) (ai (bn h1) (ai (bn h1) (ai (bn h1) (ai (be h2) (ai (be h2) (ai (be h2) (ai (be h2) trivial)))))))))))) (by kernel_rfl) rfl rfl
      · exact gv mix O_ 400 [f0, f0, f0, f0, f0, f0, f0, f0, f0, f0, f0, f0] (ai (bn h0) (ai (bn h0) (ai (bn h0) (ai (bn h0) (ai (bn h1) (ai (bn h1) (ai (bn h1) (ai (bn h1) (ai (bn h2) (ai (bn h2) (ai (bn h2) (ai (bn h2) trivial)))))))))))) (by kernel_rfl) rfl rfl
theorem K_kinds_within : Keeps Try.prog 93 (F2 (cI .i64) (cI .i64) cB (fun _ _ => []) kinds_within) := by
  refine keeps2 _ _ _ (enters_of Try.func93 (by kernel_rfl)) fun a b hp_ => ?_
  unfold kinds_within
  have O_ := on_
  refine gite (fun h0 => ?_) (fun h0 => ?_)
  · exact gv mix O_ 400 [t0, t0, t0, t0] (ai (dt h0) (ai (dt h0) (ai (dt h0) (ai (dt h0) trivial)))) (by kernel_rfl) rfl rfl
  · exact gv mix O_ 400 [f0, f0, f0, f0] (ai (df h0) (ai (df h0) (ai (df h0) (ai (df h0) trivial)))) (by kernel_rfl) rfl rfl
theorem K_value_Places : Keeps Try.prog 94 (F1 cVl cB (fun _ => []) value_Places) := by
  refine keeps1 _ _ (enters_of Try.func94 (by kernel_rfl)) fun a hp_ => ?_
  unfold value_Places
  have O_ := on_
  refine gite (fun h0 => ?_) (fun h0 => ?_)
  · exact gv mix O_ 400 [t0, t0, t0, t0] (ai (be h0) (ai (be h0) (ai (be h0) (ai (be h0) trivial)))) (by kernel_rfl) rfl rfl
  · refine gite (fun h1 => ?_) (fun h1 => ?_)
    · exact gv mix O_ 400 [f0, f0, f0, f0, t0, t0, t0, t0] (ai (bn h0) (ai (bn h0) (ai (bn h0) (ai (bn h0) (ai (be h1) (ai (be h1) (ai (be h1) (ai (be h1) trivial)))))))) (by kernel_rfl) rfl rfl
    · refine gite (fun h2 => ?_) (fun h2 => ?_)
      · exact gv mix O_ 400 [f0, f0, f0, f0, f0, f0, f0, f0, t0, t0, t0, t0] (ai (bn h0) (ai (bn h0) (ai (bn h0) (ai (bn h0) (ai (bn h1) (ai (bn h1) (ai (bn h1) (ai (bn h1) (ai (be h2) (ai (be h2) (ai (be h2) (ai (be h2) trivial)))))))))))) (by kernel_rfl) rfl rfl
      · exact gv mix O_ 400 [f0, f0, f0, f0, f0, f0, f0, f0, f0, f0, f0, f0] (ai (bn h0) (ai (bn h0) (ai (bn h0) (ai (bn h0) (ai (bn h1) (ai (bn h1) (ai (bn h1) (ai (bn h1) (ai (bn h2) (ai (bn h2) (ai (bn h2) (ai (bn h2) trivial)))))))))))) (by kernel_rfl) rfl rfl
theorem K_value_moved : Keeps Try.prog 95 (F2 cVl (cI .u64) cVl (fun _ _ => []) value_moved) := by
  refine keeps2 _ _ _ (enters_of Try.func95 (by kernel_rfl)) fun a b hp_ => ?_
  unfold value_moved
  have O_ := on_
  exact gv mix O_ 400 [] trivial (by kernel_rfl) rfl rfl
theorem K_tnum_Cut : Keeps Try.prog 96 (F2 cTn (cI .i64) cTn (fun _ _ => []) tnum_Cut) := by
  refine keeps2 _ _ _ (enters_of Try.func96 (by kernel_rfl)) fun a b hp_ => ?_
  unfold tnum_Cut
  have O_ := (orc_cons K_tnum_Of on_)
  refine gite (fun h0 => ?_) (fun h0 => ?_)
  · exact gv mix O_ 400 [t0] (ai (dt h0) trivial) (by kernel_rfl) rfl rfl
  · refine gite (fun h1 => ?_) (fun h1 => ?_)
    · exact gv mix O_ 400 [f0, t0] (ai (df h0) (ai (dt h1) trivial)) (by kernel_rfl) rfl rfl
    · exact gv mix O_ 400 [f0, f0, f0] (ai (df h0) (ai (df h1) (ai ((df (by first | exact len64_nn | (rw [tab_size]; exact u8_in) | exact nz1 (by assumption) (by assumption) | exact nz2 (by assumption) (by assumption) (by assumption) | exact Int.not_lt.2 (Int.tmod_nonneg _ (by assumption)) | exact Int.not_lt.2 (Int.tmod_nonneg _ wrapu_nonneg) | exact Int.not_lt.2 bits_nonneg | omega | (rw [wrap_i64_id (by omega) (by omega)]; omega))) : decide ((IntKind.i64.wrap (8 * b)) < 0) = false) trivial))) (by kernel_rfl) rfl rfl
theorem K_span_UCut : Keeps Try.prog 97 (F1 cUs cUs (fun _ => []) span_UCut) := by
  refine keeps1 _ _ (enters_of Try.func97 (by kernel_rfl)) fun a hp_ => ?_
  unfold span_UCut
  have O_ := on_
  refine gite (fun h0 => ?_) (fun h0 => ?_)
  · exact gv mix O_ 400 [(2, true)] (ai (be h0) trivial) (by kernel_rfl) rfl rfl
  · exact gv mix O_ 400 [(2, false)] (ai (bn h0) trivial) (by kernel_rfl) rfl rfl
theorem K_tnum_Lsh : Keeps Try.prog 98 (F2 cTn (cI .i64) cTn (fun _ _ => []) tnum_Lsh) := by
  refine keeps2 _ _ _ (enters_of Try.func98 (by kernel_rfl)) fun a b hp_ => ?_
  unfold tnum_Lsh
  have O_ := on_
  exact gv mix O_ 400 [(1, false), f0] (ai ((df (by first | exact len64_nn | (rw [tab_size]; exact u8_in) | exact nz1 (by assumption) (by assumption) | exact nz2 (by assumption) (by assumption) (by assumption) | exact Int.not_lt.2 (Int.tmod_nonneg _ (by assumption)) | exact Int.not_lt.2 (Int.tmod_nonneg _ wrapu_nonneg) | exact Int.not_lt.2 bits_nonneg | omega | (rw [wrap_i64_id (by omega) (by omega)]; omega))) : decide ((Int.tmod (IntKind.u64.wrap b) 64) < 0) = false) (ai ((df (by first | exact len64_nn | (rw [tab_size]; exact u8_in) | exact nz1 (by assumption) (by assumption) | exact nz2 (by assumption) (by assumption) (by assumption) | exact Int.not_lt.2 (Int.tmod_nonneg _ (by assumption)) | exact Int.not_lt.2 (Int.tmod_nonneg _ wrapu_nonneg) | exact Int.not_lt.2 bits_nonneg | omega | (rw [wrap_i64_id (by omega) (by omega)]; omega))) : decide ((Int.tmod (IntKind.u64.wrap b) 64) < 0) = false) trivial)) (by kernel_rfl) rfl rfl
theorem K_span_ULsh : Keeps Try.prog 99 (F2 cUs (cI .i64) cUs (fun _ _ => []) span_ULsh) := by
  refine keeps2 _ _ _ (enters_of Try.func99 (by kernel_rfl)) fun a b hp_ => ?_
  unfold span_ULsh
  have O_ := (orc_cons K_span_UAll on_)
  refine gite (fun h0 => ?_) (fun h0 => ?_)
  · exact gv mix O_ 400 [f0, f0, f0, f0, f0] (ai ((df (by first | exact len64_nn | (rw [tab_size]; exact u8_in) | exact nz1 (by assumption) (by assumption) | exact nz2 (by assumption) (by assumption) (by assumption) | exact Int.not_lt.2 (Int.tmod_nonneg _ (by assumption)) | exact Int.not_lt.2 (Int.tmod_nonneg _ wrapu_nonneg) | exact Int.not_lt.2 bits_nonneg | omega | (rw [wrap_i64_id (by omega) (by omega)]; omega))) : decide ((Go.bits .and .i64 b 63) < 0) = false) (ai ((df (by first | exact len64_nn | (rw [tab_size]; exact u8_in) | exact nz1 (by assumption) (by assumption) | exact nz2 (by assumption) (by assumption) (by assumption) | exact Int.not_lt.2 (Int.tmod_nonneg _ (by assumption)) | exact Int.not_lt.2 (Int.tmod_nonneg _ wrapu_nonneg) | exact Int.not_lt.2 bits_nonneg | omega | (rw [wrap_i64_id (by omega) (by omega)]; omega))) : decide ((Go.bits .and .i64 b 63) < 0) = false) (ai (bne_eq_false_iff_eq.2 h0) (ai ((df (by first | exact len64_nn | (rw [tab_size]; exact u8_in) | exact nz1 (by assumption) (by assumption) | exact nz2 (by assumption) (by assumption) (by assumption) | exact Int.not_lt.2 (Int.tmod_nonneg _ (by assumption)) | exact Int.not_lt.2 (Int.tmod_nonneg _ wrapu_nonneg) | exact Int.not_lt.2 bits_nonneg | omega | (rw [wrap_i64_id (by omega) (by omega)]; omega))) : decide ((Go.bits .and .i64 b 63) < 0) = false) (ai ((df (by first | exact len64_nn | (rw [tab_size]; exact u8_in) | exact nz1 (by assumption) (by assumption) | exact nz2 (by assumption) (by assumption) (by assumption) | exact Int.not_lt.2 (Int.tmod_nonneg _ (by assumption)) | exact Int.not_lt.2 (Int.tmod_nonneg _ wrapu_nonneg) | exact Int.not_lt.2 bits_nonneg | omega | (rw [wrap_i64_id (by omega) (by omega)]; omega))) : decide ((Go.bits .and .i64 b 63) < 0) = false) trivial))))) (by kernel_rfl) rfl rfl
  · exact gv mix O_ 400 [f0, f0, t0] (ai ((df (by first | exact len64_nn | (rw [tab_size]; exact u8_in) | exact nz1 (by assumption) (by assumption) | exact nz2 (by assumption) (by assumption) (by assumption) | exact Int.not_lt.2 (Int.tmod_nonneg _ (by assumption)) | exact Int.not_lt.2 (Int.tmod_nonneg _ wrapu_nonneg) | exact Int.not_lt.2 bits_nonneg | omega | (rw [wrap_i64_id (by omega) (by omega)]; omega))) : decide ((Go.bits .and .i64 b 63) < 0) = false) (ai ((df (by first | exact len64_nn | (rw [tab_size]; exact u8_in) | exact nz1 (by assumption) (by assumption) | exact nz2 (by assumption) (by assumption) (by assumption) | exact Int.not_lt.2 (Int.tmod_nonneg _ (by assumption)) | exact Int.not_lt.2 (Int.tmod_nonneg _ wrapu_nonneg) | exact Int.not_lt.2 bits_nonneg | omega | (rw [wrap_i64_id (by omega) (by omega)]; omega))) : decide ((Go.bits .and .i64 b 63) < 0) = false) (ai (bne_iff_ne.2 h0) trivial))) (by kernel_rfl) rfl rfl
theorem K_tnum_Rsh : Keeps Try.prog 100 (F2 cTn (cI .i64) cTn (fun _ _ => []) tnum_Rsh) := by
  refine keeps2 _ _ _ (enters_of Try.func100 (by kernel_rfl)) fun a b hp_ => ?_
  unfold tnum_Rsh
  have O_ := on_
  exact gv mix O_ 400 [(1, false), f0] (ai ((df (by first | exact len64_nn | (rw [tab_size]; exact u8_in) | exact nz1 (by assumption) (by assumption) | exact nz2 (by assumption) (by assumption) (by assumption) | exact Int.not_lt.2 (Int.tmod_nonneg _ (by assumption)) | exact Int.not_lt.2 (Int.tmod_nonneg _ wrapu_nonneg) | exact Int.not_lt.2 bits_nonneg | omega | (rw [wrap_i64_id (by omega) (by omega)]; omega))) : decide ((Int.tmod (IntKind.u64.wrap b) 64) < 0) = false) (ai ((df (by first | exact len64_nn | (rw [tab_size]; exact u8_in) | exact nz1 (by assumption) (by assumption) | exact nz2 (by assumption) (by assumption) (by assumption) | exact Int.not_lt.2 (Int.tmod_nonneg _ (by assumption)) | exact Int.not_lt.2 (Int.tmod_nonneg _ wrapu_nonneg) | exact Int.not_lt.2 bits_nonneg | omega | (rw [wrap_i64_id (by omega) (by omega)]; omega))) : decide ((Int.tmod (IntKind.u64.wrap b) 64) < 0) = false) trivial)) (by kernel_rfl) rfl rfl
theorem K_span_URsh : Keeps Try.prog 101 (F2 cUs (cI .i64) cUs (fun _ _ => []) span_URsh) := by
  refine keeps2 _ _ _ (enters_of Try.func101 (by kernel_rfl)) fun a b hp_ => ?_
  unfold span_URsh
  have O_ := on_
  exact gv mix O_ 400 [f0, f0] (ai ((df (by first | exact len64_nn | (rw [tab_size]; exact u8_in) | exact nz1 (by assumption) (by assumption) | exact nz2 (by assumption) (by assumption) (by assumption) | exact Int.not_lt.2 (Int.tmod_nonneg _ (by assumption)) | exact Int.not_lt.2 (Int.tmod_nonneg _ wrapu_nonneg) | exact Int.not_lt.2 bits_nonneg | omega | (rw [wrap_i64_id (by omega) (by omega)]; omega))) : decide ((Go.bits .and .i64 b 63) < 0) = false) (ai ((df (by first | exact len64_nn | (rw [tab_size]; exact u8_in) | exact nz1 (by assumption) (by assumption) | exact nz2 (by assumption) (by assumption) (by assumption) | exact Int.not_lt.2 (Int.tmod_nonneg _ (by assumption)) | exact Int.not_lt.2 (Int.tmod_nonneg _ wrapu_nonneg) | exact Int.not_lt.2 bits_nonneg | omega | (rw [wrap_i64_id (by omega) (by omega)]; omega))) : decide ((Go.bits .and .i64 b 63) < 0) = false) trivial)) (by kernel_rfl) rfl rfl
theorem K_tnum_Arsh : Keeps Try.prog 102 (F3 cTn (cI .i64) (cI .i64) cTn (fun _ _ _ => []) tnum_Arsh) := by
  refine keeps3 _ _ _ _ (enters_of Try.func102 (by kernel_rfl)) fun a b c hp_ => ?_
  unfold tnum_Arsh
  have O_ := (orc_cons K_tnum_Any on_)
  refine gite (fun h0 => ?_) (fun h0 => ?_)
  · exact gv mix O_ 400 [t0, (1, false), f0] (ai (be h0) (ai ((df (by first | exact len64_nn | (rw [tab_size]; exact u8_in) | exact nz1 (by assumption) (by assumption) | exact nz2 (by assumption) (by assumption) (by assumption) | exact Int.not_lt.2 (Int.tmod_nonneg _ (by assumption)) | exact Int.not_lt.2 (Int.tmod_nonneg _ wrapu_nonneg) | exact Int.not_lt.2 bits_nonneg | omega | (rw [wrap_i64_id (by omega) (by omega)]; omega))) : decide ((Int.tmod (IntKind.u64.wrap b) 64) < 0) = false) (ai ((df (by first | exact len64_nn | (rw [tab_size]; exact u8_in) | exact nz1 (by assumption) (by assumption) | exact nz2 (by assumption) (by assumption) (by assumption) | exact Int.not_lt.2 (Int.tmod_nonneg _ (by assumption)) | exact Int.not_lt.2 (Int.tmod_nonneg _ wrapu_nonneg) | exact Int.not_lt.2 bits_nonneg | omega | (rw [wrap_i64_id (by omega) (by omega)]; omega))) : decide ((Int.tmod (IntKind.u64.wrap b) 64) < 0) = false) trivial))) (by kernel_rfl) rfl rfl
  · refine gite (fun h1 => ?_) (fun h1 => ?_)
    · exact gv mix O_ 400 [f0, t0, (1, false), f0] (ai (bn h0) (ai (be h1) (ai ((df (by first | exact len64_nn | (rw [tab_size]; exact u8_in) | exact nz1 (by assumption) (by assumption) | exact nz2 (by assumption) (by assumption) (by assumption) | exact Int.not_lt.2 (Int.tmod_nonneg _ (by assumption)) | exact Int.not_lt.2 (Int.tmod_nonneg _ wrapu_nonneg) | exact Int.not_lt.2 bits_nonneg | omega | (rw [wrap_i64_id (by omega) (by omega)]; omega))) : decide ((Int.tmod (IntKind.u64.wrap b) 32) < 0) = false) (ai ((df (by first | exact len64_nn | (rw [tab_size]; exact u8_in) | exact nz1 (by assumption) (by assumption) | exact nz2 (by assumption) (by assumption) (by assumption) | exact Int.not_lt.2 (Int.tmod_nonneg _ (by assumption)) | exact Int.not_lt.2 (Int.tmod_nonneg _ wrapu_nonneg) | exact Int.not_lt.2 bits_nonneg | omega | (rw [wrap_i64_id (by omega) (by omega)]; omega))) : decide ((Int.tmod (IntKind.u64.wrap b) 32) < 0) = false) trivial)))) (by kernel_rfl) rfl rfl
    · exact gv mix O_ 400 [f0, f0] (ai (bn h0) (ai (bn h1) trivial)) (by kernel_rfl) rfl rfl
theorem K_span_SArsh : Keeps Try.prog 103 (F2 cSs (cI .i64) cSs (fun _ _ => []) span_SArsh) := by
  refine keeps2 _ _ _ (enters_of Try.func103 (by kernel_rfl)) fun a b hp_ => ?_
  unfold span_SArsh
  have O_ := on_
  exact gv mix O_ 400 [f0, f0] (ai ((df (by first | exact len64_nn | (rw [tab_size]; exact u8_in) | exact nz1 (by assumption) (by assumption) | exact nz2 (by assumption) (by assumption) (by assumption) | exact Int.not_lt.2 (Int.tmod_nonneg _ (by assumption)) | exact Int.not_lt.2 (Int.tmod_nonneg _ wrapu_nonneg) | exact Int.not_lt.2 bits_nonneg | omega | (rw [wrap_i64_id (by omega) (by omega)]; omega))) : decide ((Go.bits .and .i64 b 63) < 0) = false) (ai ((df (by first | exact len64_nn | (rw [tab_size]; exact u8_in) | exact nz1 (by assumption) (by assumption) | exact nz2 (by assumption) (by assumption) (by assumption) | exact Int.not_lt.2 (Int.tmod_nonneg _ (by assumption)) | exact Int.not_lt.2 (Int.tmod_nonneg _ wrapu_nonneg) | exact Int.not_lt.2 bits_nonneg | omega | (rw [wrap_i64_id (by omega) (by omega)]; omega))) : decide ((Go.bits .and .i64 b 63) < 0) = false) trivial)) (by kernel_rfl) rfl rfl
theorem K_span_UAdd : Keeps Try.prog 105 (F2 cUs cUs cUs (fun _ _ => []) span_UAdd) := by
  refine keeps2 _ _ _ (enters_of Try.func105 (by kernel_rfl)) fun a b hp_ => ?_
  unfold span_UAdd
  have O_ := (orc_cons K_span_UAll on_)
  refine gite (fun h0 => ?_) (fun h0 => ?_)
  · exact gv mix O_ 400 [t0] (ai (dt h0) trivial) (by kernel_rfl) rfl rfl
  · exact gv mix O_ 400 [f0] (ai (df h0) trivial) (by kernel_rfl) rfl rfl
theorem K_span_USub : Keeps Try.prog 108 (F2 cUs cUs cUs (fun _ _ => []) span_USub) := by
  refine keeps2 _ _ _ (enters_of Try.func108 (by kernel_rfl)) fun a b hp_ => ?_
  unfold span_USub
  have O_ := (orc_cons K_span_UAll on_)
  refine gite (fun h0 => ?_) (fun h0 => ?_)
  · exact gv mix O_ 400 [t0] (ai (dt h0) trivial) (by kernel_rfl) rfl rfl
  · exact gv mix O_ 400 [f0] (ai (df h0) trivial) (by kernel_rfl) rfl rfl
theorem K_tnum_Or : Keeps Try.prog 114 (F2 cTn cTn cTn (fun _ _ => []) tnum_Or) := by
  refine keeps2 _ _ _ (enters_of Try.func114 (by kernel_rfl)) fun a b hp_ => ?_
  unfold tnum_Or
  have O_ := on_
  exact gv mix O_ 400 [] trivial (by kernel_rfl) rfl rfl
theorem K_tnum_And : Keeps Try.prog 116 (F2 cTn cTn cTn (fun _ _ => []) tnum_And) := by
  refine keeps2 _ _ _ (enters_of Try.func116 (by kernel_rfl)) fun a b hp_ => ?_
  unfold tnum_And
  have O_ := on_
  exact gv mix O_ 400 [] trivial (by kernel_rfl) rfl rfl
theorem K_span_meet_uint64 : Keeps Try.prog 119 (F4 (cI .u64) (cI .u64) (cI .u64) (cI .u64) (cP3 (cI .u64) (cI .u64) cB) (fun _ _ _ _ => []) span_meet_uint64) := by
  refine keeps4 _ _ _ _ _ (enters_of Try.func119 (by kernel_rfl)) fun a b c d hp_ => ?_
  unfold span_meet_uint64
  have O_ := on_
  exact gv mix O_ 400 [] trivial (by kernel_rfl) rfl rfl
theorem K_span_meet_int64 : Keeps Try.prog 120 (F4 (cI .i64) (cI .i64) (cI .i64) (cI .i64) (cP3 (cI .i64) (cI .i64) cB) (fun _ _ _ _ => []) span_meet_int64) := by
  refine keeps4 _ _ _ _ _ (enters_of Try.func120 (by kernel_rfl)) fun a b c d hp_ => ?_
  unfold span_meet_int64
  have O_ := on_
  exact gv mix O_ 400 [] trivial (by kernel_rfl) rfl rfl
theorem K_tnum_clear : Keeps Try.prog 121 (F2 (cI .u64) (cI .u64) cTn (fun _ _ => []) tnum_clear) := by
  refine keeps2 _ _ _ (enters_of Try.func121 (by kernel_rfl)) fun a b hp_ => ?_
  unfold tnum_clear
  have O_ := on_
  exact gv mix O_ 400 [] trivial (by kernel_rfl) rfl rfl
theorem K_span_below : Keeps Try.prog 122 (F1 (cI .u64) (cI .u64) (fun _ => []) span_below) := by
  refine keeps1 _ _ (enters_of Try.func122 (by kernel_rfl)) fun a hp_ => ?_
  unfold span_below
  have O_ := (orc_cons K_bits_Len64 on_)
  exact gv mix O_ 400 [f0] (ai ((df (by first | exact len64_nn | (rw [tab_size]; exact u8_in) | exact nz1 (by assumption) (by assumption) | exact nz2 (by assumption) (by assumption) (by assumption) | exact Int.not_lt.2 (Int.tmod_nonneg _ (by assumption)) | exact Int.not_lt.2 (Int.tmod_nonneg _ wrapu_nonneg) | exact Int.not_lt.2 bits_nonneg | omega | (rw [wrap_i64_id (by omega) (by omega)]; omega))) : decide ((bits_Len64 a) < 0) = false) trivial) (by kernel_rfl) rfl rfl
theorem K_lockgateref04_UMeet : Keeps Try.prog 123 (F2 cUs cUs (cP cUs cB) (fun _ _ => []) lockgateref04_UMeet) := by
  refine keeps2 _ _ _ (enters_of Try.func123 (by kernel_rfl)) fun a b hp_ => ?_
  unfold lockgateref04_UMeet
  have O_ := on_
  refine gite (fun h0 => ?_) (fun h0 => ?_)
  · refine gite (fun h1 => ?_) (fun h1 => ?_)
    · refine gite (fun h2 => ?_) (fun h2 => ?_)
      · exact gv mix O_ 400 [t0, t0, t0] (ai (dt h0) (ai (dt h1) (ai (dt h2) trivial))) (by kernel_rfl) rfl rfl
      · exact gv mix O_ 400 [t0, t0, f0] (ai (dt h0) (ai (dt h1) (ai (df h2) trivial))) (by kernel_rfl) rfl rfl
    · refine gite (fun h2 => ?_) (fun h2 => ?_)
      · exact gv mix O_ 400 [t0, f0, t0] (ai (dt h0) (ai (df h1) (ai (dt h2) trivial))) (by kernel_rfl) rfl rfl
      · exact gv mix O_ 400 [t0, f0, f0] (ai (dt h0) (ai (df h1) (ai (df h2) trivial))) (by kernel_rfl) rfl rfl
  · refine gite (fun h1 => ?_) (fun h1 => ?_)
    · refine gite (fun h2 => ?_) (fun h2 => ?_)
      · exact gv mix O_ 400 [f0, t0, t0] (ai (df h0) (ai (dt h1) (ai (dt h2) trivial))) (by kernel_rfl) rfl rfl
      · exact gv mix O_ 400 [f0, t0, f0] (ai (df h0) (ai (dt h1) (ai (df h2) trivial))) (by kernel_rfl) rfl rfl
    · refine gite (fun h2 => ?_) (fun h2 => ?_)
      · exact gv mix O_ 400 [f0, f0, t0] (ai (df h0) (ai (df h1) (ai (dt h2) trivial))) (by kernel_rfl) rfl rfl
      · exact gv mix O_ 400 [f0, f0, f0] (ai (df h0) (ai (df h1) (ai (df h2) trivial))) (by kernel_rfl) rfl rfl
theorem K_lockgateref04_ToU : Keeps Try.prog 124 (F1 cSs cUs (fun _ => []) lockgateref04_ToU) := by
  refine keeps1 _ _ (enters_of Try.func124 (by kernel_rfl)) fun a hp_ => ?_
  unfold lockgateref04_ToU
  have O_ := (orc_cons K_lockgateref04_UAll on_)
  refine gite (fun h0 => ?_) (fun h0 => ?_)
  · refine gite (fun h1 => ?_) (fun h1 => ?_)
    · exact gv mix O_ 400 [t0, t0, t0, t0, t0] (ai (dt h0) (ai (dt h0) (ai (dt h0) (ai (dt h0) (ai (dt h1) trivial))))) (by kernel_rfl) rfl rfl
    · exact gv mix O_ 400 [t0, t0, t0, t0, f0] (ai (dt h0) (ai (dt h0) (ai (dt h0) (ai (dt h0) (ai (df h1) trivial))))) (by kernel_rfl) rfl rfl
  · exact gv mix O_ 400 [f0, f0, f0, f0] (ai (df h0) (ai (df h0) (ai (df h0) (ai (df h0) trivial)))) (by kernel_rfl) rfl rfl
theorem K_lockgateref04_FromT : Keeps Try.prog 125 (F1 cTn (cP cUs cSs) (fun _ => []) lockgateref04_FromT) := by
  refine keeps1 _ _ (enters_of Try.func125 (by kernel_rfl)) fun a hp_ => ?_
  unfold lockgateref04_FromT
  have O_ := (orc_cons K_lockgateref04_top on_)
  refine gite (fun h0 => ?_) (fun h0 => ?_)
  · exact gv mix O_ 400 [t0] (ai (dt h0) trivial) (by kernel_rfl) rfl rfl
  · exact gv mix O_ 400 [f0] (ai (df h0) trivial) (by kernel_rfl) rfl rfl
theorem K_lockgateref04_SMeet : Keeps Try.prog 126 (F2 cSs cSs (cP cSs cB) (fun _ _ => []) lockgateref04_SMeet) := by
  refine keeps2 _ _ _ (enters_of Try.func126 (by kernel_rfl)) fun a b hp_ => ?_
  unfold lockgateref04_SMeet
  have O_ := on_
  refine gite (fun h0 => ?_) (fun h0 => ?_)
  · refine gite (fun h1 => ?_) (fun h1 => ?_)
    · refine gite (fun h2 => ?_) (fun h2 => ?_)
      · exact gv mix O_ 400 [t0, t0, t0] (ai (dt h0) (ai (dt h1) (ai (dt h2) trivial))) (by kernel_rfl) rfl rfl
      · exact gv mix O_ 400 [t0, t0, f0] (ai (dt h0) (ai (dt h1) (ai (df h2) trivial))) (by kernel_rfl) rfl rfl
    · refine gite (fun h2 => ?_) (fun h2 => ?_)
      · exact gv mix O_ 400 [t0, f0, t0] (ai (dt h0) (ai (df h1) (ai (dt h2) trivial))) (by kernel_rfl) rfl rfl
      · exact gv mix O_ 400 [t0, f0, f0] (ai (dt h0) (ai (df h1) (ai (df h2) trivial))) (by kernel_rfl) rfl rfl
  · refine gite (fun h1 => ?_) (fun h1 => ?_)
    · refine gite (fun h2 => ?_) (fun h2 => ?_)
      · exact gv mix O_ 400 [f0, t0, t0] (ai (df h0) (ai (dt h1) (ai (dt h2) trivial))) (by kernel_rfl) rfl rfl
      · exact gv mix O_ 400 [f0, t0, f0] (ai (df h0) (ai (dt h1) (ai (df h2) trivial))) (by kernel_rfl) rfl rfl
    · refine gite (fun h2 => ?_) (fun h2 => ?_)
      · exact gv mix O_ 400 [f0, f0, t0] (ai (df h0) (ai (df h1) (ai (dt h2) trivial))) (by kernel_rfl) rfl rfl
      · exact gv mix O_ 400 [f0, f0, f0] (ai (df h0) (ai (df h1) (ai (df h2) trivial))) (by kernel_rfl) rfl rfl
theorem K_scalar_below_int64 : Keeps Try.prog 130 (F7 (cI .i64) (cI .i64) (cI .i64) (cI .i64) (cI .i64) (cI .i64) cB (cP3 (cI .i64) (cI .i64) cB) (fun _ _ _ _ _ _ _ => []) scalar_below_int64) := by
  refine keeps7 _ _ _ _ _ _ _ _ (enters_of Try.func130 (by kernel_rfl)) fun a b c d e g i hp_ => ?_
  unfold scalar_below_int64
  have O_ := on_
  refine gite (fun h0 => ?_) (fun h0 => ?_)
  · exact gv mix O_ 400 [t0] (ai h0 trivial) (by kernel_rfl) rfl rfl
  · refine gite (fun h1 => ?_) (fun h1 => ?_)
    · exact gv mix O_ 400 [f0, t0, t0, t0, t0] (ai (bf h0) (ai (be h1) (ai (be h1) (ai (be h1) (ai (be h1) trivial))))) (by kernel_rfl) rfl rfl
    · refine gite (fun h2 => ?_) (fun h2 => ?_)
      · exact gv mix O_ 400 [f0, f0, f0, f0, f0, t0] (ai (bf h0) (ai (bn h1) (ai (bn h1) (ai (bn h1) (ai (bn h1) (ai (be h2) trivial)))))) (by kernel_rfl) rfl rfl
      · exact gv mix O_ 400 [f0, f0, f0, f0, f0, f0] (ai (bf h0) (ai (bn h1) (ai (bn h1) (ai (bn h1) (ai (bn h1) (ai (bn h2) trivial)))))) (by kernel_rfl) rfl rfl
theorem K_scalar_below_uint64 : Keeps Try.prog 131 (F7 (cI .u64) (cI .u64) (cI .u64) (cI .u64) (cI .u64) (cI .u64) cB (cP3 (cI .u64) (cI .u64) cB) (fun _ _ _ _ _ _ _ => []) scalar_below_uint64) := by
  refine keeps7 _ _ _ _ _ _ _ _ (enters_of Try.func131 (by kernel_rfl)) fun a b c d e g i hp_ => ?_
  unfold scalar_below_uint64
  have O_ := on_
  refine gite (fun h0 => ?_) (fun h0 => ?_)
  · exact gv mix O_ 400 [t0] (ai h0 trivial) (by kernel_rfl) rfl rfl
  · refine gite (fun h1 => ?_) (fun h1 => ?_)
    · exact gv mix O_ 400 [f0, t0, t0, t0, t0] (ai (bf h0) (ai (be h1) (ai (be h1) (ai (be h1) (ai (be h1) trivial))))) (by kernel_rfl) rfl rfl
    · refine gite (fun h2 => ?_) (fun h2 => ?_)
      · exact gv mix O_ 400 [f0, f0, f0, f0, f0, t0] (ai (bf h0) (ai (bn h1) (ai (bn h1) (ai (bn h1) (ai (bn h1) (ai (be h2) trivial)))))) (by kernel_rfl) rfl rfl
      · exact gv mix O_ 400 [f0, f0, f0, f0, f0, f0] (ai (bf h0) (ai (bn h1) (ai (bn h1) (ai (bn h1) (ai (bn h1) (ai (bn h2) trivial)))))) (by kernel_rfl) rfl rfl
theorem K_span_sum : Keeps Try.prog 132 (F2 (cI .i64) (cI .i64) (cP (cI .i64) cB) (fun _ _ => []) span_sum) := by
  refine keeps2 _ _ _ (enters_of Try.func132 (by kernel_rfl)) fun a b hp_ => ?_
  unfold span_sum
  have O_ := on_
  exact gv mix O_ 400 [] trivial (by kernel_rfl) rfl rfl
theorem K_span_ends : Keeps Try.prog 133 (F4 (cI .i64) cB (cI .i64) cB cSs (fun _ _ _ _ => []) span_ends) := by
  refine keeps4 _ _ _ _ _ (enters_of Try.func133 (by kernel_rfl)) fun a b c d hp_ => ?_
  unfold span_ends
  have O_ := (orc_cons K_span_SAll on_)
  refine gite (fun h0 => ?_) (fun h0 => ?_)
  · refine gite (fun h1 => ?_) (fun h1 => ?_)
    · exact gv mix O_ 400 [f0, f0, f0, f0] (ai (cn h0) (ai (cn h0) (ai (cn h0) (ai (cn h1) trivial)))) (by kernel_rfl) rfl rfl
    · exact gv mix O_ 400 [f0, f0, f0, t0] (ai (cn h0) (ai (cn h0) (ai (cn h0) (ai (cn (bf h1)) trivial)))) (by kernel_rfl) rfl rfl
  · exact gv mix O_ 400 [t0, t0, t0] (ai (cn (bf h0)) (ai (cn (bf h0)) (ai (cn (bf h0)) trivial))) (by kernel_rfl) rfl rfl
theorem K_span_less : Keeps Try.prog 134 (F2 (cI .i64) (cI .i64) (cP (cI .i64) cB) (fun _ _ => []) span_less) := by
  refine keeps2 _ _ _ (enters_of Try.func134 (by kernel_rfl)) fun a b hp_ => ?_
  unfold span_less
  have O_ := on_
  exact gv mix O_ 400 [] trivial (by kernel_rfl) rfl rfl
theorem K_bits_Mul64 : Keeps Try.prog 135 (F2 (cI .u64) (cI .u64) (cP (cI .u64) (cI .u64)) (fun _ _ => []) bits_Mul64) := by
  refine keeps2 _ _ _ (enters_of Try.func135 (by kernel_rfl)) fun a b hp_ => ?_
  unfold bits_Mul64
  have O_ := on_
  exact gv mix O_ 400 [] trivial (by kernel_rfl) rfl rfl
theorem K_span_alone : Keeps Try.prog 136 (F1 cUs cB (fun _ => []) span_alone) := by
  refine keeps1 _ _ (enters_of Try.func136 (by kernel_rfl)) fun a hp_ => ?_
  unfold span_alone
  have O_ := on_
  exact gv mix O_ 400 [] trivial (by kernel_rfl) rfl rfl
theorem K_lockgateref04_SAll : Keeps Try.prog 140 (F0 cSs [] lockgateref04_SAll) := by
  refine keeps0  _ (enters_of Try.func140 (by kernel_rfl)) fun _ => ?_
  unfold lockgateref04_SAll
  have O_ := on_
  exact gv mix O_ 400 [] trivial (by kernel_rfl) rfl rfl
theorem K_lockgatelaw05_with : Keeps Try.prog 18 (F2 cSc (cI .u64) cSc (fun _ _ => []) lockgatelaw05_with) := by
  refine keeps2 _ _ _ (enters_of Try.func18 (by kernel_rfl)) fun a b hp_ => ?_
  unfold lockgatelaw05_with
  have O_ := (orc_cons K_lockgatelaw05_May on_)
  exact gv mix O_ 400 [] trivial (by kernel_rfl) rfl rfl
theorem K_word_Jump : Keeps Try.prog 19 (F4 (cI .i64) cB (cI .u64) (cI .u64) (cP cB cB) (fun _ _ _ _ => []) word_Jump) := by
  refine keeps4 _ _ _ _ _ (enters_of Try.func19 (by kernel_rfl)) fun a b c d hp_ => ?_
  unfold word_Jump
  have O_ := (orc_cons K_word_order_uint64 (orc_cons K_word_order_int64 on_))
  refine gite (fun h0 => ?_) (fun h0 => ?_)
  · refine gite (fun h1 => ?_) (fun h1 => ?_)
    · exact gv mix O_ 400 [f0, t0] (ai (cn h0) (ai (be h1) trivial)) (by kernel_rfl) rfl rfl
    · refine gite (fun h2 => ?_) (fun h2 => ?_)
      · exact gv mix O_ 400 [f0, f0, t0] (ai (cn h0) (ai (bn h1) (ai (be h2) trivial))) (by kernel_rfl) rfl rfl
      · refine gite (fun h3 => ?_) (fun h3 => ?_)
        · exact gv mix O_ 400 [f0, f0, f0, t0] (ai (cn h0) (ai (bn h1) (ai (bn h2) (ai (be h3) trivial)))) (by kernel_rfl) rfl rfl
        · refine gite (fun h4 => ?_) (fun h4 => ?_)
          · exact gv mix O_ 400 [f0, f0, f0, f0, t0] (ai (cn h0) (ai (bn h1) (ai (bn h2) (ai (bn h3) (ai (be h4) trivial))))) (by kernel_rfl) rfl rfl
          · refine gite (fun h5 => ?_) (fun h5 => ?_)
            · exact gv mix O_ 400 [f0, f0, f0, f0, f0, t0] (ai (cn h0) (ai (bn h1) (ai (bn h2) (ai (bn h3) (ai (bn h4) (ai (be h5) trivial)))))) (by kernel_rfl) rfl rfl
            · refine gite (fun h6 => ?_) (fun h6 => ?_)
              · exact gv mix O_ 400 [f0, f0, f0, f0, f0, f0, t0] (ai (cn h0) (ai (bn h1) (ai (bn h2) (ai (bn h3) (ai (bn h4) (ai (bn h5) (ai (be h6) trivial))))))) (by kernel_rfl) rfl rfl
              · refine gite (fun h7 => ?_) (fun h7 => ?_)
                · exact gv mix O_ 400 [f0, f0, f0, f0, f0, f0, f0, t0] (ai (cn h0) (ai (bn h1) (ai (bn h2) (ai (bn h3) (ai (bn h4) (ai (bn h5) (ai (bn h6) (ai (be h7) trivial)))))))) (by kernel_rfl) rfl rfl
                · refine gite (fun h8 => ?_) (fun h8 => ?_)
                  · exact gv mix O_ 400 [f0, f0, f0, f0, f0, f0, f0, f0, t0] (ai (cn h0) (ai (bn h1) (ai (bn h2) (ai (bn h3) (ai (bn h4) (ai (bn h5) (ai (bn h6) (ai (bn h7) (ai (be h8) trivial))))))))) (by kernel_rfl) rfl rfl
                  · refine gite (fun h9 => ?_) (fun h9 => ?_)
                    · exact gv mix O_ 400 [f0, f0, f0, f0, f0, f0, f0, f0, f0, t0] (ai (cn h0) (ai (bn h1) (ai (bn h2) (ai (bn h3) (ai (bn h4) (ai (bn h5) (ai (bn h6) (ai (bn h7) (ai (bn h8) (ai (be h9) trivial)))))))))) (by kernel_rfl) rfl rfl
                    · refine gite (fun h10 => ?_) (fun h10 => ?_)
                      · exact gv mix O_ 400 [f0, f0, f0, f0, f0, f0, f0, f0, f0, f0, t0] (ai (cn h0) (ai (bn h1) (ai (bn h2) (ai (bn h3) (ai (bn h4) (ai (bn h5) (ai (bn h6) (ai (bn h7) (ai (bn h8) (ai (bn h9) (ai (be h10) trivial))))))))))) (by kernel_rfl) rfl rfl
                      · refine gite (fun h11 => ?_) (fun h11 => ?_)
                        · exact gv mix O_ 400 [f0, f0, f0, f0, f0, f0, f0, f0, f0, f0, f0, t0] (ai (cn h0) (ai (bn h1) (ai (bn h2) (ai (bn h3) (ai (bn h4) (ai (bn h5) (ai (bn h6) (ai (bn h7) (ai (bn h8) (ai (bn h9) (ai (bn h10) (ai (be h11) trivial)))))))))))) (by kernel_rfl) rfl rfl
                        · exact gv mix O_ 400 [f0, f0, f0, f0, f0, f0, f0, f0, f0, f0, f0, f0] (ai (cn h0) (ai (bn h1) (ai (bn h2) (ai (bn h3) (ai (bn h4) (ai (bn h5) (ai (bn h6) (ai (bn h7) (ai (bn h8) (ai (bn h9) (ai (bn h10) (ai (bn h11) trivial)))))))))))) (by kernel_rfl) rfl rfl
  · refine gite (fun h1 => ?_) (fun h1 => ?_)
    · exact gv mix O_ 400 [t0, t0] (ai (cn (bf h0)) (ai (be h1) trivial)) (by kernel_rfl) rfl rfl
    · refine gite (fun h2 => ?_) (fun h2 => ?_)
      · exact gv mix O_ 400 [t0, f0, t0] (ai (cn (bf h0)) (ai (bn h1) (ai (be h2) trivial))) (by kernel_rfl) rfl rfl
      · refine gite (fun h3 => ?_) (fun h3 => ?_)
        · exact gv mix O_ 400 [t0, f0, f0, t0] (ai (cn (bf h0)) (ai (bn h1) (ai (bn h2) (ai (be h3) trivial)))) (by kernel_rfl) rfl rfl
        · refine gite (fun h4 => ?_) (fun h4 => ?_)
          · exact gv mix O_ 400 [t0, f0, f0, f0, t0] (ai (cn (bf h0)) (ai (bn h1) (ai (bn h2) (ai (bn h3) (ai (be h4) trivial))))) (by kernel_rfl) rfl rfl
          · refine gite (fun h5 => ?_) (fun h5 => ?_)
            · exact gv mix O_ 400 [t0, f0, f0, f0, f0, t0] (ai (cn (bf h0)) (ai (bn h1) (ai (bn h2) (ai (bn h3) (ai (bn h4) (ai (be h5) trivial)))))) (by kernel_rfl) rfl rfl
            · refine gite (fun h6 => ?_) (fun h6 => ?_)
              · exact gv mix O_ 400 [t0, f0, f0, f0, f0, f0, t0] (ai (cn (bf h0)) (ai (bn h1) (ai (bn h2) (ai (bn h3) (ai (bn h4) (ai (bn h5) (ai (be h6) trivial))))))) (by kernel_rfl) rfl rfl
              · refine gite (fun h7 => ?_) (fun h7 => ?_)
                · exact gv mix O_ 400 [t0, f0, f0, f0, f0, f0, f0, t0] (ai (cn (bf h0)) (ai (bn h1) (ai (bn h2) (ai (bn h3) (ai (bn h4) (ai (bn h5) (ai (bn h6) (ai (be h7) trivial)))))))) (by kernel_rfl) rfl rfl
                · refine gite (fun h8 => ?_) (fun h8 => ?_)
                  · exact gv mix O_ 400 [t0, f0, f0, f0, f0, f0, f0, f0, t0] (ai (cn (bf h0)) (ai (bn h1) (ai (bn h2) (ai (bn h3) (ai (bn h4) (ai (bn h5) (ai (bn h6) (ai (bn h7) (ai (be h8) trivial))))))))) (by kernel_rfl) rfl rfl
                  · refine gite (fun h9 => ?_) (fun h9 => ?_)
                    · exact gv mix O_ 400 [t0, f0, f0, f0, f0, f0, f0, f0, f0, t0] (ai (cn (bf h0)) (ai (bn h1) (ai (bn h2) (ai (bn h3) (ai (bn h4) (ai (bn h5) (ai (bn h6) (ai (bn h7) (ai (bn h8) (ai (be h9) trivial)))))))))) (by kernel_rfl) rfl rfl
                    · refine gite (fun h10 => ?_) (fun h10 => ?_)
                      · exact gv mix O_ 400 [t0, f0, f0, f0, f0, f0, f0, f0, f0, f0, t0] (ai (cn (bf h0)) (ai (bn h1) (ai (bn h2) (ai (bn h3) (ai (bn h4) (ai (bn h5) (ai (bn h6) (ai (bn h7) (ai (bn h8) (ai (bn h9) (ai (be h10) trivial))))))))))) (by kernel_rfl) rfl rfl
                      · refine gite (fun h11 => ?_) (fun h11 => ?_)
                        · exact gv mix O_ 400 [t0, f0, f0, f0, f0, f0, f0, f0, f0, f0, f0, t0] (ai (cn (bf h0)) (ai (bn h1) (ai (bn h2) (ai (bn h3) (ai (bn h4) (ai (bn h5) (ai (bn h6) (ai (bn h7) (ai (bn h8) (ai (bn h9) (ai (bn h10) (ai (be h11) trivial)))))))))))) (by kernel_rfl) rfl rfl
                        · exact gv mix O_ 400 [t0, f0, f0, f0, f0, f0, f0, f0, f0, f0, f0, f0] (ai (cn (bf h0)) (ai (bn h1) (ai (bn h2) (ai (bn h3) (ai (bn h4) (ai (bn h5) (ai (bn h6) (ai (bn h7) (ai (bn h8) (ai (bn h9) (ai (bn h10) (ai (bn h11) trivial)))))))))))) (by kernel_rfl) rfl rfl
theorem K_scalar_Within : Keeps Try.prog 23 (F2 cSc cSc cB (fun _ _ => []) scalar_Within) := by
  refine keeps2 _ _ _ (enters_of Try.func23 (by kernel_rfl)) fun a b hp_ => ?_
  unfold scalar_Within
  have O_ := (orc_cons K_tnum_Within (orc_cons K_span_UWithin (orc_cons K_span_SWithin on_)))
  refine gite (fun h0 => ?_) (fun h0 => ?_)
  · refine gite (fun h1 => ?_) (fun h1 => ?_)
    · exact gv mix O_ 400 [t0, t0, t0, t0, t0, t0, t0, t0, t0, t0, t0, t0] (ai h0 (ai h0 (ai h0 (ai h0 (ai h0 (ai h0 (ai h1 (ai h1 (ai h1 (ai h1 (ai h1 (ai h1 trivial)))))))))))) (by kernel_rfl) rfl rfl
    · exact gv mix O_ 400 [t0, t0, t0, t0, t0, t0, f0, f0, f0, f0, f0, f0] (ai h0 (ai h0 (ai h0 (ai h0 (ai h0 (ai h0 (ai (bf h1) (ai (bf h1) (ai (bf h1) (ai (bf h1) (ai (bf h1) (ai (bf h1) trivial)))))))))))) (by kernel_rfl) rfl rfl
  · exact gv mix O_ 400 [f0, f0, f0, f0, f0, f0] (ai (bf h0) (ai (bf h0) (ai (bf h0) (ai (bf h0) (ai (bf h0) (ai (bf h0) trivial)))))) (by kernel_rfl) rfl rfl
theorem K_scalar_Any : Keeps Try.prog 29 (F0 cSc [] scalar_Any) := by
  refine keeps0  _ (enters_of Try.func29 (by kernel_rfl)) fun _ => ?_
  unfold scalar_Any
  have O_ := (orc_cons K_tnum_Any (orc_cons K_span_UAll (orc_cons K_span_SAll on_)))
  exact gv mix O_ 400 [] trivial (by kernel_rfl) rfl rfl
theorem K_scalar_Of : Keeps Try.prog 33 (F1 (cI .u64) cSc (fun _ => []) scalar_Of) := by
  refine keeps1 _ _ (enters_of Try.func33 (by kernel_rfl)) fun a hp_ => ?_
  unfold scalar_Of
  have O_ := (orc_cons K_tnum_Of (orc_cons K_span_UOf (orc_cons K_span_SOf on_)))
  exact gv mix O_ 400 [] trivial (by kernel_rfl) rfl rfl
theorem K_scalar_Upto : Keeps Try.prog 35 (F1 (cI .i64) cSc (fun _ => []) scalar_Upto) := by
  refine keeps1 _ _ (enters_of Try.func35 (by kernel_rfl)) fun a hp_ => ?_
  unfold scalar_Upto
  have O_ := (orc_cons K_scalar_Any (orc_cons K_scalar_Of on_))
  refine gite (fun h0 => ?_) (fun h0 => ?_)
  · exact gv mix O_ 400 [t0] (ai (dt h0) trivial) (by kernel_rfl) rfl rfl
  · refine gite (fun h1 => ?_) (fun h1 => ?_)
    · exact gv mix O_ 400 [f0, t0] (ai (df h0) (ai (dt h1) trivial)) (by kernel_rfl) rfl rfl
    · exact gv mix O_ 400 [f0, f0, f0] (ai (df h0) (ai (df h1) (ai ((df (by first | exact len64_nn | (rw [tab_size]; exact u8_in) | exact nz1 (by assumption) (by assumption) | exact nz2 (by assumption) (by assumption) (by assumption) | exact Int.not_lt.2 (Int.tmod_nonneg _ (by assumption)) | exact Int.not_lt.2 (Int.tmod_nonneg _ wrapu_nonneg) | exact Int.not_lt.2 bits_nonneg | omega | (rw [wrap_i64_id (by omega) (by omega)]; omega))) : decide ((IntKind.i64.wrap (8 * a)) < 0) = false) trivial))) (by kernel_rfl) rfl rfl
theorem K_lockgateref05_In : Keeps Try.prog 43 (F2 cSc (cI .u64) cB (fun _ _ => []) lockgateref05_In) := by
  refine keeps2 _ _ _ (enters_of Try.func43 (by kernel_rfl)) fun a b hp_ => ?_
  unfold lockgateref05_In
  have O_ := (orc_cons K_lockgateref03_In (orc_cons K_lockgateref04_UIn (orc_cons K_lockgateref04_SIn on_)))
  refine gite (fun h0 => ?_) (fun h0 => ?_)
  · refine gite (fun h1 => ?_) (fun h1 => ?_)
    · exact gv mix O_ 400 [t0, t0, t0, t0, t0, t0, t0, t0, t0, t0] (ai h0 (ai h0 (ai h0 (ai h0 (ai h0 (ai h1 (ai h1 (ai h1 (ai h1 (ai h1 trivial)))))))))) (by kernel_rfl) rfl rfl
    · exact gv mix O_ 400 [t0, t0, t0, t0, t0, f0, f0, f0, f0, f0] (ai h0 (ai h0 (ai h0 (ai h0 (ai h0 (ai (bf h1) (ai (bf h1) (ai (bf h1) (ai (bf h1) (ai (bf h1) trivial)))))))))) (by kernel_rfl) rfl rfl
  · exact gv mix O_ 400 [f0, f0, f0, f0, f0] (ai (bf h0) (ai (bf h0) (ai (bf h0) (ai (bf h0) (ai (bf h0) trivial))))) (by kernel_rfl) rfl rfl
theorem K_span_UIn : Keeps Try.prog 49 (F2 cUs (cI .u64) cB (fun _ _ => []) span_UIn) := by
  refine keeps2 _ _ _ (enters_of Try.func49 (by kernel_rfl)) fun a b hp_ => ?_
  unfold span_UIn
  have O_ := (orc_cons K_span_between_uint64 on_)
  exact gv mix O_ 400 [] trivial (by kernel_rfl) rfl rfl
theorem K_span_SIn : Keeps Try.prog 50 (F2 cSs (cI .u64) cB (fun _ _ => []) span_SIn) := by
  refine keeps2 _ _ _ (enters_of Try.func50 (by kernel_rfl)) fun a b hp_ => ?_
  unfold span_SIn
  have O_ := (orc_cons K_span_between_int64 on_)
  exact gv mix O_ 400 [] trivial (by kernel_rfl) rfl rfl
theorem K_value_side : Keeps Try.prog 56 (F1 cVl (cI .i64) (fun _ => []) value_side) := by
  refine keeps1 _ _ (enters_of Try.func56 (by kernel_rfl)) fun a hp_ => ?_
  unfold value_side
  have O_ := (orc_cons K_value_Places on_)
  refine gite (fun h0 => ?_) (fun h0 => ?_)
  · exact gv mix O_ 400 [t0] (ai (be h0) trivial) (by kernel_rfl) rfl rfl
  · refine gite (fun h1 => ?_) (fun h1 => ?_)
    · exact gv mix O_ 400 [f0, t0] (ai (bn h0) (ai h1 trivial)) (by kernel_rfl) rfl rfl
    · exact gv mix O_ 400 [f0, f0] (ai (bn h0) (ai (bf h1) trivial)) (by kernel_rfl) rfl rfl
theorem K_value_pointers : Keeps Try.prog 57 (F3 (cI .i64) cVl cVl (cP cVl (cI .i64)) (fun _ _ _ => []) value_pointers) := by
  refine keeps3 _ _ _ _ (enters_of Try.func57 (by kernel_rfl)) fun a b c hp_ => ?_
  unfold value_pointers
  have O_ := (orc_cons K_value_side (orc_cons K_value_moved on_))
  refine gite (fun h0 => ?_) (fun h0 => ?_)
  · refine gite (fun h1 => ?_) (fun h1 => ?_)
    · exact gv mix O_ 400 [t0, t0, t0, t0, t0] (ai (be h0) (ai (be h0) (ai (be h0) (ai (be h0) (ai h1 trivial))))) (by kernel_rfl) rfl rfl
    · refine gite (fun h2 => ?_) (fun h2 => ?_)
      · exact gv mix O_ 400 [t0, t0, t0, t0, f0, t0, t0, t0, t0, t0] (ai (be h0) (ai (be h0) (ai (be h0) (ai (be h0) (ai (bf h1) (ai (be h0) (ai (be h0) (ai (be h0) (ai (be h0) (ai h2 trivial)))))))))) (by kernel_rfl) rfl rfl
      · refine gite (fun h3 => ?_) (fun h3 => ?_)
        · exact gv mix O_ 400 [t0, t0, t0, t0, f0, t0, t0, t0, t0, f0, t0, t0, t0, t0, f0] (ai (be h0) (ai (be h0) (ai (be h0) (ai (be h0) (ai (bf h1) (ai (be h0) (ai (be h0) (ai (be h0) (ai (be h0) (ai (bf h2) (ai (be h3) (ai (be h3) (ai (be h3) (ai (be h3) (ai (bf h1) trivial))))))))))))))) (by kernel_rfl) rfl rfl
        · exact gv mix O_ 400 [t0, t0, t0, t0, f0, t0, t0, t0, t0, f0, f0, f0, f0, f0] (ai (be h0) (ai (be h0) (ai (be h0) (ai (be h0) (ai (bf h1) (ai (be h0) (ai (be h0) (ai (be h0) (ai (be h0) (ai (bf h2) (ai (bn h3) (ai (bn h3) (ai (bn h3) (ai (bn h3) trivial)))))))))))))) (by kernel_rfl) rfl rfl
  · refine gite (fun h1 => ?_) (fun h1 => ?_)
    · refine gite (fun h2 => ?_) (fun h2 => ?_)
      · exact gv mix O_ 400 [f0, f0, f0, f0, (1, false), f0, f0, f0, (1, true), t0, t0, t0, t0] (ai (bn h0) (ai (bn h0) (ai (bn h0) (ai (bn h0) (ai (bn h0) (ai (bn h0) (ai (bn h0) (ai (bn h0) (ai (be h1) (ai (be h1) (ai (be h1) (ai (be h1) (ai h2 trivial))))))))))))) (by kernel_rfl) rfl rfl
      · exact gv mix O_ 400 [f0, f0, f0, f0, (1, false), f0, f0, f0, (1, true), t0, t0, t0, f0] (ai (bn h0) (ai (bn h0) (ai (bn h0) (ai (bn h0) (ai (bn h0) (ai (bn h0) (ai (bn h0) (ai (bn h0) (ai (be h1) (ai (be h1) (ai (be h1) (ai (be h1) (ai (bf h2) trivial))))))))))))) (by kernel_rfl) rfl rfl
    · exact gv mix O_ 400 [f0, f0, f0, f0, (1, false), f0, f0, f0, (1, false), f0, f0, f0] (ai (bn h0) (ai (bn h0) (ai (bn h0) (ai (bn h0) (ai (bn h0) (ai (bn h0) (ai (bn h0) (ai (bn h0) (ai (bn h1) (ai (bn h1) (ai (bn h1) (ai (bn h1) trivial)))))))))))) (by kernel_rfl) rfl rfl
theorem K_scalar_shift : Keeps Try.prog 59 (F4 (cI .i64) cB cSc (cI .i64) cSc (fun _ _ _ _ => []) scalar_shift) := by
  refine keeps4 _ _ _ _ _ (enters_of Try.func59 (by kernel_rfl)) fun a b c d hp_ => ?_
  unfold scalar_shift
  have O_ := (orc_cons K_scalar_Any (orc_cons K_tnum_Lsh (orc_cons K_span_ULsh (orc_cons K_tnum_Rsh (orc_cons K_span_URsh (orc_cons K_tnum_Arsh (orc_cons K_span_SArsh on_)))))))
  refine gite (fun h0 => ?_) (fun h0 => ?_)
  · exact gv mix O_ 400 [t0] (ai (be h0) trivial) (by kernel_rfl) rfl rfl
  · refine gite (fun h1 => ?_) (fun h1 => ?_)
    · exact gv mix O_ 400 [f0, t0] (ai (bn h0) (ai (be h1) trivial)) (by kernel_rfl) rfl rfl
    · refine gite (fun h2 => ?_) (fun h2 => ?_)
      · exact gv mix O_ 400 [f0, f0, t0] (ai (bn h0) (ai (bn h1) (ai h2 trivial))) (by kernel_rfl) rfl rfl
      · refine gite (fun h3 => ?_) (fun h3 => ?_)
        · exact gv mix O_ 400 [f0, f0, f0, t0] (ai (bn h0) (ai (bn h1) (ai (bf h2) (ai (dt h3) trivial)))) (by kernel_rfl) rfl rfl
        · exact gv mix O_ 400 [f0, f0, f0, f0] (ai (bn h0) (ai (bn h1) (ai (bf h2) (ai (df h3) trivial)))) (by kernel_rfl) rfl rfl
theorem K_span_UMeet : Keeps Try.prog 68 (F2 cUs cUs (cP cUs cB) (fun _ _ => []) span_UMeet) := by
  refine keeps2 _ _ _ (enters_of Try.func68 (by kernel_rfl)) fun a b hp_ => ?_
  unfold span_UMeet
  have O_ := (orc_cons K_span_meet_uint64 on_)
  refine gite (fun h0 => ?_) (fun h0 => ?_)
  · exact gv mix O_ 400 [f0] (ai (cn h0) trivial) (by kernel_rfl) rfl rfl
  · exact gv mix O_ 400 [t0] (ai (cn (bf h0)) trivial) (by kernel_rfl) rfl rfl
theorem K_span_SMeet : Keeps Try.prog 72 (F2 cSs cSs (cP cSs cB) (fun _ _ => []) span_SMeet) := by
  refine keeps2 _ _ _ (enters_of Try.func72 (by kernel_rfl)) fun a b hp_ => ?_
  unfold span_SMeet
  have O_ := (orc_cons K_span_meet_int64 on_)
  refine gite (fun h0 => ?_) (fun h0 => ?_)
  · exact gv mix O_ 400 [f0] (ai (cn h0) trivial) (by kernel_rfl) rfl rfl
  · exact gv mix O_ 400 [t0] (ai (cn (bf h0)) trivial) (by kernel_rfl) rfl rfl
theorem K_tnum_Meet : Keeps Try.prog 76 (F2 cTn cTn (cP cTn cB) (fun _ _ => []) tnum_Meet) := by
  refine keeps2 _ _ _ (enters_of Try.func76 (by kernel_rfl)) fun a b hp_ => ?_
  unfold tnum_Meet
  have O_ := (orc_cons K_tnum_clear on_)
  refine gite (fun h0 => ?_) (fun h0 => ?_)
  · exact gv mix O_ 400 [f0] (ai (bne_eq_false_iff_eq.2 h0) trivial) (by kernel_rfl) rfl rfl
  · exact gv mix O_ 400 [t0] (ai (bne_iff_ne.2 h0) trivial) (by kernel_rfl) rfl rfl
theorem K_span_ToT : Keeps Try.prog 77 (F1 cUs cTn (fun _ => []) span_ToT) := by
  refine keeps1 _ _ (enters_of Try.func77 (by kernel_rfl)) fun a hp_ => ?_
  unfold span_ToT
  have O_ := (orc_cons K_span_below on_)
  exact gv mix O_ 400 [] trivial (by kernel_rfl) rfl rfl
theorem K_scalar_clear : Keeps Try.prog 86 (F2 cSc (cI .u64) (cP cSc cB) (fun _ _ => []) scalar_clear) := by
  refine keeps2 _ _ _ (enters_of Try.func86 (by kernel_rfl)) fun a b hp_ => ?_
  unfold scalar_clear
  have O_ := (orc_cons K_tnum_Meet on_)
  exact gv mix O_ 400 [] trivial (by kernel_rfl) rfl rfl
theorem K_scalar_meet : Keeps Try.prog 88 (F2 cSc cSc (cP cSc cB) (fun _ _ => []) scalar_meet) := by
  refine keeps2 _ _ _ (enters_of Try.func88 (by kernel_rfl)) fun a b hp_ => ?_
  unfold scalar_meet
  have O_ := (orc_cons K_tnum_Meet (orc_cons K_span_UMeet (orc_cons K_span_SMeet on_)))
  exact gv mix O_ 400 [] trivial (by kernel_rfl) rfl rfl
theorem K_scalar_less : Keeps Try.prog 89 (F4 cSc cSc cB cB (cP3 cSc cSc cB) (fun _ _ _ _ => []) scalar_less) := by
  refine keeps4 _ _ _ _ _ (enters_of Try.func89 (by kernel_rfl)) fun a b c d hp_ => ?_
  unfold scalar_less
  have O_ := (orc_cons K_scalar_below_int64 (orc_cons K_scalar_below_uint64 on_))
  refine gite (fun h0 => ?_) (fun h0 => ?_)
  · exact gv mix O_ 400 [t0] (ai h0 trivial) (by kernel_rfl) rfl rfl
  · exact gv mix O_ 400 [f0] (ai (bf h0) trivial) (by kernel_rfl) rfl rfl
theorem K_tnum_Add : Keeps Try.prog 104 (F2 cTn cTn cTn (fun _ _ => []) tnum_Add) := by
  refine keeps2 _ _ _ (enters_of Try.func104 (by kernel_rfl)) fun a b hp_ => ?_
  unfold tnum_Add
  have O_ := (orc_cons K_tnum_clear on_)
  exact gv mix O_ 400 [] trivial (by kernel_rfl) rfl rfl
theorem K_span_SAdd : Keeps Try.prog 106 (F2 cSs cSs cSs (fun _ _ => []) span_SAdd) := by
  refine keeps2 _ _ _ (enters_of Try.func106 (by kernel_rfl)) fun a b hp_ => ?_
  unfold span_SAdd
  have O_ := (orc_cons K_span_sum (orc_cons K_span_ends on_))
  exact gv mix O_ 400 [] trivial (by kernel_rfl) rfl rfl
theorem K_tnum_Sub : Keeps Try.prog 107 (F2 cTn cTn cTn (fun _ _ => []) tnum_Sub) := by
  refine keeps2 _ _ _ (enters_of Try.func107 (by kernel_rfl)) fun a b hp_ => ?_
  unfold tnum_Sub
  have O_ := (orc_cons K_tnum_clear on_)
  exact gv mix O_ 400 [] trivial (by kernel_rfl) rfl rfl
theorem K_span_SSub : Keeps Try.prog 109 (F2 cSs cSs cSs (fun _ _ => []) span_SSub) := by
  refine keeps2 _ _ _ (enters_of Try.func109 (by kernel_rfl)) fun a b hp_ => ?_
  unfold span_SSub
  have O_ := (orc_cons K_span_less (orc_cons K_span_ends on_))
  exact gv mix O_ 400 [] trivial (by kernel_rfl) rfl rfl
theorem K_span_UMul : Keeps Try.prog 111 (F2 cUs cUs cUs (fun _ _ => []) span_UMul) := by
  refine keeps2 _ _ _ (enters_of Try.func111 (by kernel_rfl)) fun a b hp_ => ?_
  unfold span_UMul
  have O_ := (orc_cons K_bits_Mul64 (orc_cons K_span_UAll on_))
  refine gite (fun h0 => ?_) (fun h0 => ?_)
  · exact gv mix O_ 400 [f0] (ai (bne_eq_false_iff_eq.2 h0) trivial) (by kernel_rfl) rfl rfl
  · exact gv mix O_ 400 [t0] (ai (bne_iff_ne.2 h0) trivial) (by kernel_rfl) rfl rfl
theorem K_span_UDiv : Keeps Try.prog 112 (F2 cUs cUs cUs (fun _ _ => []) span_UDiv) := by
  refine keeps2 _ _ _ (enters_of Try.func112 (by kernel_rfl)) fun a b hp_ => ?_
  unfold span_UDiv
  have O_ := (orc_cons K_span_alone on_)
  refine gite (fun h0 => ?_) (fun h0 => ?_)
  · refine gite (fun h1 => ?_) (fun h1 => ?_)
    · exact gv mix O_ 400 [t0, t0, t0, t0, f0] (ai h0 (ai h0 (ai h0 (ai h0 (ai (bne_eq_false_iff_eq.2 h1) trivial))))) (by kernel_rfl) rfl rfl
    · exact gv mix O_ 400 [t0, t0, t0, t0, t0, f0, f0] (ai h0 (ai h0 (ai h0 (ai h0 (ai (bne_iff_ne.2 h1) (ai (df h1) (ai (df h1) trivial))))))) (by kernel_rfl) rfl rfl
  · exact gv mix O_ 400 [f0, f0, f0, f0] (ai (bf h0) (ai (bf h0) (ai (bf h0) (ai (bf h0) trivial)))) (by kernel_rfl) rfl rfl
theorem K_span_UMod : Keeps Try.prog 113 (F2 cUs cUs cUs (fun _ _ => []) span_UMod) := by
  refine keeps2 _ _ _ (enters_of Try.func113 (by kernel_rfl)) fun a b hp_ => ?_
  unfold span_UMod
  have O_ := (orc_cons K_span_alone (orc_cons K_span_UOf on_))
  refine gite (fun h0 => ?_) (fun h0 => ?_)
  · refine gite (fun h1 => ?_) (fun h1 => ?_)
    · exact gv mix O_ 400 [f0, f0, f0, f0, t0] (ai (cn h0) (ai (cn h0) (ai (cn h0) (ai (cn h0) (ai (be h1) trivial))))) (by kernel_rfl) rfl rfl
    · refine gite (fun h2 => ?_) (fun h2 => ?_)
      · exact gv mix O_ 400 [f0, f0, f0, f0, f0, t0] (ai (cn h0) (ai (cn h0) (ai (cn h0) (ai (cn h0) (ai (bn h1) (ai (dt h2) trivial)))))) (by kernel_rfl) rfl rfl
      · refine gite (fun h3 => ?_) (fun h3 => ?_)
        · exact gv mix O_ 400 [f0, f0, f0, f0, f0, f0, t0, f0] (ai (cn h0) (ai (cn h0) (ai (cn h0) (ai (cn h0) (ai (bn h1) (ai (df h2) (ai h3 (ai (df h1) trivial)))))))) (by kernel_rfl) rfl rfl
        · exact gv mix O_ 400 [f0, f0, f0, f0, f0, f0, f0] (ai (cn h0) (ai (cn h0) (ai (cn h0) (ai (cn h0) (ai (bn h1) (ai (df h2) (ai (bf h3) trivial))))))) (by kernel_rfl) rfl rfl
  · exact gv mix O_ 400 [t0, t0, t0, t0] (ai (cn (bf h0)) (ai (cn (bf h0)) (ai (cn (bf h0)) (ai (cn (bf h0)) trivial)))) (by kernel_rfl) rfl rfl
theorem K_span_UOr : Keeps Try.prog 115 (F2 cUs cUs cUs (fun _ _ => []) span_UOr) := by
  refine keeps2 _ _ _ (enters_of Try.func115 (by kernel_rfl)) fun a b hp_ => ?_
  unfold span_UOr
  have O_ := (orc_cons K_span_alone (orc_cons K_span_UOf (orc_cons K_span_below on_)))
  refine gite (fun h0 => ?_) (fun h0 => ?_)
  · refine gite (fun h1 => ?_) (fun h1 => ?_)
    · exact gv mix O_ 400 [t0, t0, t0, t0] (ai h0 (ai h0 (ai h0 (ai h1 trivial)))) (by kernel_rfl) rfl rfl
    · exact gv mix O_ 400 [t0, t0, t0, f0] (ai h0 (ai h0 (ai h0 (ai (bf h1) trivial)))) (by kernel_rfl) rfl rfl
  · exact gv mix O_ 400 [f0, f0, f0] (ai (bf h0) (ai (bf h0) (ai (bf h0) trivial))) (by kernel_rfl) rfl rfl
theorem K_span_UAnd : Keeps Try.prog 117 (F2 cUs cUs cUs (fun _ _ => []) span_UAnd) := by
  refine keeps2 _ _ _ (enters_of Try.func117 (by kernel_rfl)) fun a b hp_ => ?_
  unfold span_UAnd
  have O_ := (orc_cons K_span_alone (orc_cons K_span_UOf on_))
  refine gite (fun h0 => ?_) (fun h0 => ?_)
  · refine gite (fun h1 => ?_) (fun h1 => ?_)
    · exact gv mix O_ 400 [t0, t0, t0, t0] (ai h0 (ai h0 (ai h0 (ai h1 trivial)))) (by kernel_rfl) rfl rfl
    · exact gv mix O_ 400 [t0, t0, t0, f0] (ai h0 (ai h0 (ai h0 (ai (bf h1) trivial)))) (by kernel_rfl) rfl rfl
  · exact gv mix O_ 400 [f0, f0, f0] (ai (bf h0) (ai (bf h0) (ai (bf h0) trivial))) (by kernel_rfl) rfl rfl
theorem K_tnum_Xor : Keeps Try.prog 118 (F2 cTn cTn cTn (fun _ _ => []) tnum_Xor) := by
  refine keeps2 _ _ _ (enters_of Try.func118 (by kernel_rfl)) fun a b hp_ => ?_
  unfold tnum_Xor
  have O_ := (orc_cons K_tnum_clear on_)
  exact gv mix O_ 400 [] trivial (by kernel_rfl) rfl rfl
theorem K_lockgateref04_ToS : Keeps Try.prog 127 (F1 cUs cSs (fun _ => []) lockgateref04_ToS) := by
  refine keeps1 _ _ (enters_of Try.func127 (by kernel_rfl)) fun a hp_ => ?_
  unfold lockgateref04_ToS
  have O_ := (orc_cons K_lockgateref04_top (orc_cons K_lockgateref04_SAll on_))
  refine gite (fun h0 => ?_) (fun h0 => ?_)
  · exact gv mix O_ 400 [f0] (ai (cn h0) trivial) (by kernel_rfl) rfl rfl
  · exact gv mix O_ 400 [t0] (ai (cn (bf h0)) trivial) (by kernel_rfl) rfl rfl
theorem K_scalar_In : Keeps Try.prog 22 (F2 cSc (cI .u64) cB (fun _ _ => []) scalar_In) := by
  refine keeps2 _ _ _ (enters_of Try.func22 (by kernel_rfl)) fun a b hp_ => ?_
  unfold scalar_In
  have O_ := (orc_cons K_tnum_In (orc_cons K_span_UIn (orc_cons K_span_SIn on_)))
  refine gite (fun h0 => ?_) (fun h0 => ?_)
  · refine gite (fun h1 => ?_) (fun h1 => ?_)
    · exact gv mix O_ 400 [t0, t0, t0, t0, t0, t0, t0, t0, t0, t0] (ai h0 (ai h0 (ai h0 (ai h0 (ai h0 (ai h1 (ai h1 (ai h1 (ai h1 (ai h1 trivial)))))))))) (by kernel_rfl) rfl rfl
    · exact gv mix O_ 400 [t0, t0, t0, t0, t0, f0, f0, f0, f0, f0] (ai h0 (ai h0 (ai h0 (ai h0 (ai h0 (ai (bf h1) (ai (bf h1) (ai (bf h1) (ai (bf h1) (ai (bf h1) trivial)))))))))) (by kernel_rfl) rfl rfl
  · exact gv mix O_ 400 [f0, f0, f0, f0, f0] (ai (bf h0) (ai (bf h0) (ai (bf h0) (ai (bf h0) (ai (bf h0) trivial))))) (by kernel_rfl) rfl rfl
theorem K_value_Alu : Keeps Try.prog 26 (F4 (cI .i64) cB cVl cVl (cP cVl (cI .i64)) (fun _ _ _ d => [(decide (0 ≤ d.n), true)]) value_Alu) := by
  refine keeps4 _ _ _ _ _ (enters_of Try.func26 (by kernel_rfl)) fun a b c d hp_ => ?_
  have p0 := of_decide_eq_true hp_.1
  unfold value_Alu
  have O_ := (orc_cons K_value_Num (orc_cons K_value_side (orc_cons K_word_Alu (orc_cons K_value_pointers on_))))
  refine gite (fun h0 => ?_) (fun h0 => ?_)
  · refine gite (fun h1 => ?_) (fun h1 => ?_)
    · exact gv mix O_ 400 [t0, t0, t0, t0] (ai (be h0) (ai (dt h1) (ai (dt h1) (ai (dt h1) trivial)))) (by kernel_rfl) rfl rfl
    · refine gite (fun h2 => ?_) (fun h2 => ?_)
      · exact gv mix O_ 400 [t0, f0, f0, f0, t0] (ai (be h0) (ai (df h1) (ai (df h1) (ai (df h1) (ai (dt h2) trivial))))) (by kernel_rfl) rfl rfl
      · refine gite (fun h3 => ?_) (fun h3 => ?_)
        · exact gv mix O_ 400 [t0, f0, f0, f0, f0, t0, t0, t0, t0] (ai (be h0) (ai (df h1) (ai (df h1) (ai (df h1) (ai (df h2) (ai (be h3) (ai (be h3) (ai (be h3) (ai (be h3) trivial))))))))) (by kernel_rfl) rfl rfl
        · refine gite (fun h4 => ?_) (fun h4 => ?_)
          · exact gv mix O_ 400 [t0, f0, f0, f0, f0, f0, f0, f0, f0, t0] (ai (be h0) (ai (df h1) (ai (df h1) (ai (df h1) (ai (df h2) (ai (bn h3) (ai (bn h3) (ai (bn h3) (ai (bn h3) (ai (be h4) trivial)))))))))) (by kernel_rfl) rfl rfl
          · refine gite (fun h5 => ?_) (fun h5 => ?_)
            · exact gv mix O_ 400 [t0, f0, f0, f0, f0, f0, f0, f0, f0, f0, t0] (ai (be h0) (ai (df h1) (ai (df h1) (ai (df h1) (ai (df h2) (ai (bn h3) (ai (bn h3) (ai (bn h3) (ai (bn h3) (ai (bn h4) (ai h5 (ai ((by first | assumption | decide | (simp_all; done)) : decide (0 ≤ (value_Num 0).n) = true) trivial)))))))))))) (by kernel_rfl) rfl rfl
            · refine gite (fun h6 => ?_) (fun h6 => ?_)
              · refine gite (fun h7 => ?_) (fun h7 => ?_)
                · exact gv mix O_ 400 [t0, f0, f0, f0, f0, f0, f0, f0, f0, f0, f0, f0, t0] (ai (be h0) (ai (df h1) (ai (df h1) (ai (df h1) (ai (df h2) (ai (bn h3) (ai (bn h3) (ai (bn h3) (ai (bn h3) (ai (bn h4) (ai (bf h5) (ai (cn h6) (ai (be h7) trivial))))))))))))) (by kernel_rfl) rfl rfl
                · exact gv mix O_ 400 [t0, f0, f0, f0, f0, f0, f0, f0, f0, f0, f0, f0, f0] (ai (be h0) (ai (df h1) (ai (df h1) (ai (df h1) (ai (df h2) (ai (bn h3) (ai (bn h3) (ai (bn h3) (ai (bn h3) (ai (bn h4) (ai (bf h5) (ai (cn h6) (ai (bn h7) trivial))))))))))))) (by kernel_rfl) rfl rfl
              · exact gv mix O_ 400 [t0, f0, f0, f0, f0, f0, f0, f0, f0, f0, f0, t0] (ai (be h0) (ai (df h1) (ai (df h1) (ai (df h1) (ai (df h2) (ai (bn h3) (ai (bn h3) (ai (bn h3) (ai (bn h3) (ai (bn h4) (ai (bf h5) (ai (cn (bf h6)) trivial)))))))))))) (by kernel_rfl) rfl rfl
  · refine gite (fun h1 => ?_) (fun h1 => ?_)
    · refine gite (fun h2 => ?_) (fun h2 => ?_)
      · exact gv mix O_ 400 [f0, t0, t0, t0, t0] (ai (bn h0) (ai (be h1) (ai (dt h2) (ai (dt h2) (ai (dt h2) trivial))))) (by kernel_rfl) rfl rfl
      · refine gite (fun h3 => ?_) (fun h3 => ?_)
        · exact gv mix O_ 400 [f0, t0, f0, f0, f0, t0] (ai (bn h0) (ai (be h1) (ai (df h2) (ai (df h2) (ai (df h2) (ai (dt h3) trivial)))))) (by kernel_rfl) rfl rfl
        · refine gite (fun h4 => ?_) (fun h4 => ?_)
          · exact gv mix O_ 400 [f0, t0, f0, f0, f0, f0, t0, t0, t0, t0] (ai (bn h0) (ai (be h1) (ai (df h2) (ai (df h2) (ai (df h2) (ai (df h3) (ai (be h4) (ai (be h4) (ai (be h4) (ai (be h4) trivial)))))))))) (by kernel_rfl) rfl rfl
          · refine gite (fun h5 => ?_) (fun h5 => ?_)
            · exact gv mix O_ 400 [f0, t0, f0, f0, f0, f0, f0, f0, f0, f0, t0] (ai (bn h0) (ai (be h1) (ai (df h2) (ai (df h2) (ai (df h2) (ai (df h3) (ai (bn h4) (ai (bn h4) (ai (bn h4) (ai (bn h4) (ai (be h5) trivial))))))))))) (by kernel_rfl) rfl rfl
            · refine gite (fun h6 => ?_) (fun h6 => ?_)
              · exact gv mix O_ 400 [f0, t0, f0, f0, f0, f0, f0, f0, f0, f0, f0, t0] (ai (bn h0) (ai (be h1) (ai (df h2) (ai (df h2) (ai (df h2) (ai (df h3) (ai (bn h4) (ai (bn h4) (ai (bn h4) (ai (bn h4) (ai (bn h5) (ai h6 (ai ((by first | assumption | decide | (simp_all; done)) : decide (0 ≤ d.n) = true) trivial))))))))))))) (by kernel_rfl) rfl rfl
              · refine gite (fun h7 => ?_) (fun h7 => ?_)
                · exact gv mix O_ 400 [f0, t0, f0, f0, f0, f0, f0, f0, f0, f0, f0, f0, f0, t0] (ai (bn h0) (ai (be h1) (ai (df h2) (ai (df h2) (ai (df h2) (ai (df h3) (ai (bn h4) (ai (bn h4) (ai (bn h4) (ai (bn h4) (ai (bn h5) (ai (bf h6) (ai (cn h7) (ai (be h1) trivial)))))))))))))) (by kernel_rfl) rfl rfl
                · exact gv mix O_ 400 [f0, t0, f0, f0, f0, f0, f0, f0, f0, f0, f0, f0, t0] (ai (bn h0) (ai (be h1) (ai (df h2) (ai (df h2) (ai (df h2) (ai (df h3) (ai (bn h4) (ai (bn h4) (ai (bn h4) (ai (bn h4) (ai (bn h5) (ai (bf h6) (ai (cn (bf h7)) trivial))))))))))))) (by kernel_rfl) rfl rfl
    · refine gite (fun h2 => ?_) (fun h2 => ?_)
      · exact gv mix O_ 400 [f0, f0, t0, t0, t0] (ai (bn h0) (ai (bn h1) (ai (dt h2) (ai (dt h2) (ai (dt h2) trivial))))) (by kernel_rfl) rfl rfl
      · refine gite (fun h3 => ?_) (fun h3 => ?_)
        · exact gv mix O_ 400 [f0, f0, f0, f0, f0, t0] (ai (bn h0) (ai (bn h1) (ai (df h2) (ai (df h2) (ai (df h2) (ai (dt h3) trivial)))))) (by kernel_rfl) rfl rfl
        · refine gite (fun h4 => ?_) (fun h4 => ?_)
          · exact gv mix O_ 400 [f0, f0, f0, f0, f0, f0, t0, t0, t0, t0] (ai (bn h0) (ai (bn h1) (ai (df h2) (ai (df h2) (ai (df h2) (ai (df h3) (ai (be h4) (ai (be h4) (ai (be h4) (ai (be h4) trivial)))))))))) (by kernel_rfl) rfl rfl
          · refine gite (fun h5 => ?_) (fun h5 => ?_)
            · exact gv mix O_ 400 [f0, f0, f0, f0, f0, f0, f0, f0, f0, f0, t0] (ai (bn h0) (ai (bn h1) (ai (df h2) (ai (df h2) (ai (df h2) (ai (df h3) (ai (bn h4) (ai (bn h4) (ai (bn h4) (ai (bn h4) (ai (be h5) trivial))))))))))) (by kernel_rfl) rfl rfl
            · refine gite (fun h6 => ?_) (fun h6 => ?_)
              · exact gv mix O_ 400 [f0, f0, f0, f0, f0, f0, f0, f0, f0, f0, f0, t0] (ai (bn h0) (ai (bn h1) (ai (df h2) (ai (df h2) (ai (df h2) (ai (df h3) (ai (bn h4) (ai (bn h4) (ai (bn h4) (ai (bn h4) (ai (bn h5) (ai h6 (ai ((by first | assumption | decide | (simp_all; done)) : decide (0 ≤ d.n) = true) trivial))))))))))))) (by kernel_rfl) rfl rfl
              · refine gite (fun h7 => ?_) (fun h7 => ?_)
                · exact gv mix O_ 400 [f0, f0, f0, f0, f0, f0, f0, f0, f0, f0, f0, f0, f0, f0] (ai (bn h0) (ai (bn h1) (ai (df h2) (ai (df h2) (ai (df h2) (ai (df h3) (ai (bn h4) (ai (bn h4) (ai (bn h4) (ai (bn h4) (ai (bn h5) (ai (bf h6) (ai (cn h7) (ai (bn h1) trivial)))))))))))))) (by kernel_rfl) rfl rfl
                · exact gv mix O_ 400 [f0, f0, f0, f0, f0, f0, f0, f0, f0, f0, f0, f0, t0] (ai (bn h0) (ai (bn h1) (ai (df h2) (ai (df h2) (ai (df h2) (ai (df h3) (ai (bn h4) (ai (bn h4) (ai (bn h4) (ai (bn h4) (ai (bn h5) (ai (bf h6) (ai (cn (bf h7)) trivial))))))))))))) (by kernel_rfl) rfl rfl
theorem K_scalar_Norm : Keeps Try.prog 32 (F1 cSc (cP cSc cB) (fun _ => []) scalar_Norm) := by
  refine keeps1 _ _ (enters_of Try.func32 (by kernel_rfl)) fun a hp_ => ?_
  unfold scalar_Norm
  have O_ := (orc_cons K_span_FromT (orc_cons K_span_ToU (orc_cons K_span_UMeet (orc_cons K_span_ToS (orc_cons K_span_SMeet (orc_cons K_span_ToT (orc_cons K_tnum_Meet on_)))))))
  refine gite (fun h0 => ?_) (fun h0 => ?_)
  · refine gite (fun h1 => ?_) (fun h1 => ?_)
    · refine gite (fun h2 => ?_) (fun h2 => ?_)
      · refine gite (fun h3 => ?_) (fun h3 => ?_)
        · refine gite (fun h4 => ?_) (fun h4 => ?_)
          · refine gite (fun h5 => ?_) (fun h5 => ?_)
            · refine gite (fun h6 => ?_) (fun h6 => ?_)
              · refine gite (fun h7 => ?_) (fun h7 => ?_)
                · refine gite (fun h8 => ?_) (fun h8 => ?_)
                  · refine gite (fun h9 => ?_) (fun h9 => ?_)
                    · exact gv mix O_ 400 [(3, false), (2, false), (2, false), (2, false), (2, false), (4, false), (2, false), (2, false), (2, false), (2, false)] (ai (cn h0) (ai (cn h1) (ai (cn h2) (ai (cn h3) (ai (cn h4) (ai (cn h5) (ai (cn h6) (ai (cn h7) (ai (cn h8) (ai (cn h9) trivial)))))))))) (by kernel_rfl) rfl rfl
                    · exact gv mix O_ 400 [(3, false), (2, false), (2, false), (2, false), (2, false), (4, false), (2, false), (2, false), (2, false), (2, true)] (ai (cn h0) (ai (cn h1) (ai (cn h2) (ai (cn h3) (ai (cn h4) (ai (cn h5) (ai (cn h6) (ai (cn h7) (ai (cn h8) (ai (cn (bf h9)) trivial)))))))))) (by kernel_rfl) rfl rfl
                  · exact gv mix O_ 400 [(3, false), (2, false), (2, false), (2, false), (2, false), (4, false), (2, false), (2, false), (2, true)] (ai (cn h0) (ai (cn h1) (ai (cn h2) (ai (cn h3) (ai (cn h4) (ai (cn h5) (ai (cn h6) (ai (cn h7) (ai (cn (bf h8)) trivial))))))))) (by kernel_rfl) rfl rfl
                · exact gv mix O_ 400 [(3, false), (2, false), (2, false), (2, false), (2, false), (4, false), (2, false), (2, true)] (ai (cn h0) (ai (cn h1) (ai (cn h2) (ai (cn h3) (ai (cn h4) (ai (cn h5) (ai (cn h6) (ai (cn (bf h7)) trivial)))))))) (by kernel_rfl) rfl rfl
              · exact gv mix O_ 400 [(3, false), (2, false), (2, false), (2, false), (2, false), (4, false), (2, true)] (ai (cn h0) (ai (cn h1) (ai (cn h2) (ai (cn h3) (ai (cn h4) (ai (cn h5) (ai (cn (bf h6)) trivial))))))) (by kernel_rfl) rfl rfl
            · exact gv mix O_ 400 [(3, false), (2, false), (2, false), (2, false), (2, false), (4, true)] (ai (cn h0) (ai (cn h1) (ai (cn h2) (ai (cn h3) (ai (cn h4) (ai (cn (bf h5)) trivial)))))) (by kernel_rfl) rfl rfl
          · exact gv mix O_ 400 [(3, false), (2, false), (2, false), (2, false), (2, true)] (ai (cn h0) (ai (cn h1) (ai (cn h2) (ai (cn h3) (ai (cn (bf h4)) trivial))))) (by kernel_rfl) rfl rfl
        · exact gv mix O_ 400 [(3, false), (2, false), (2, false), (2, true)] (ai (cn h0) (ai (cn h1) (ai (cn h2) (ai (cn (bf h3)) trivial)))) (by kernel_rfl) rfl rfl
      · exact gv mix O_ 400 [(3, false), (2, false), (2, true)] (ai (cn h0) (ai (cn h1) (ai (cn (bf h2)) trivial))) (by kernel_rfl) rfl rfl
    · exact gv mix O_ 400 [(3, false), (2, true)] (ai (cn h0) (ai (cn (bf h1)) trivial)) (by kernel_rfl) rfl rfl
  · exact gv mix O_ 400 [(3, true)] (ai (cn (bf h0)) trivial) (by kernel_rfl) rfl rfl
theorem K_scalar_settle : Keeps Try.prog 58 (F2 cSc cB cSc (fun _ _ => []) scalar_settle) := by
  refine keeps2 _ _ _ (enters_of Try.func58 (by kernel_rfl)) fun a b hp_ => ?_
  unfold scalar_settle
  have O_ := (orc_cons K_scalar_Norm (orc_cons K_scalar_Upto (orc_cons K_tnum_Cut (orc_cons K_span_UCut (orc_cons K_span_SAll on_)))))
  refine gite (fun h0 => ?_) (fun h0 => ?_)
  · refine gite (fun h1 => ?_) (fun h1 => ?_)
    · exact gv mix O_ 400 [f0, t0] (ai (cn h0) (ai h1 trivial)) (by kernel_rfl) rfl rfl
    · exact gv mix O_ 400 [f0, f0] (ai (cn h0) (ai (bf h1) trivial)) (by kernel_rfl) rfl rfl
  · refine gite (fun h1 => ?_) (fun h1 => ?_)
    · exact gv mix O_ 400 [t0, t0] (ai (cn (bf h0)) (ai h1 trivial)) (by kernel_rfl) rfl rfl
    · exact gv mix O_ 400 [t0, f0] (ai (cn (bf h0)) (ai (bf h1) trivial)) (by kernel_rfl) rfl rfl
theorem K_lockgateref05_once : Keeps Try.prog 81 (F1 cSc (cP cSc cB) (fun _ => []) lockgateref05_once) := by
  refine keeps1 _ _ (enters_of Try.func81 (by kernel_rfl)) fun a hp_ => ?_
  unfold lockgateref05_once
  have O_ := (orc_cons K_lockgateref04_ToU (orc_cons K_lockgateref04_UMeet (orc_cons K_lockgateref04_FromT (orc_cons K_lockgateref04_ToS (orc_cons K_lockgateref04_SMeet (orc_cons K_lockgateref04_ToT (orc_cons K_lockgateref03_Meet on_)))))))
  refine gite (fun h0 => ?_) (fun h0 => ?_)
  · refine gite (fun h1 => ?_) (fun h1 => ?_)
    · refine gite (fun h2 => ?_) (fun h2 => ?_)
      · refine gite (fun h3 => ?_) (fun h3 => ?_)
        · refine gite (fun h4 => ?_) (fun h4 => ?_)
          · exact gv mix O_ 400 [f0, f0, f0, f0, f0] (ai (cn h0) (ai (cn h1) (ai (cn h2) (ai (cn h3) (ai (cn h4) trivial))))) (by kernel_rfl) rfl rfl
          · exact gv mix O_ 400 [f0, f0, f0, f0, t0] (ai (cn h0) (ai (cn h1) (ai (cn h2) (ai (cn h3) (ai (cn (bf h4)) trivial))))) (by kernel_rfl) rfl rfl
        · exact gv mix O_ 400 [f0, f0, f0, t0] (ai (cn h0) (ai (cn h1) (ai (cn h2) (ai (cn (bf h3)) trivial)))) (by kernel_rfl) rfl rfl
      · exact gv mix O_ 400 [f0, f0, t0] (ai (cn h0) (ai (cn h1) (ai (cn (bf h2)) trivial))) (by kernel_rfl) rfl rfl
    · exact gv mix O_ 400 [f0, t0] (ai (cn h0) (ai (cn (bf h1)) trivial)) (by kernel_rfl) rfl rfl
  · exact gv mix O_ 400 [t0] (ai (cn (bf h0)) trivial) (by kernel_rfl) rfl rfl
theorem K_lockgateref05_Norm : Keeps Try.prog 36 (F1 cSc (cP cSc cB) (fun _ => []) lockgateref05_Norm) := by
  refine keeps1 _ _ (enters_of Try.func36 (by kernel_rfl)) fun a hp_ => ?_
  unfold lockgateref05_Norm
  have O_ := (orc_cons K_lockgateref05_once on_)
  refine gite (fun h0 => ?_) (fun h0 => ?_)
  · exact gv mix O_ 400 [f0] (ai (cn h0) trivial) (by kernel_rfl) rfl rfl
  · exact gv mix O_ 400 [t0] (ai (cn (bf h0)) trivial) (by kernel_rfl) rfl rfl
end Go.Proofs.T
