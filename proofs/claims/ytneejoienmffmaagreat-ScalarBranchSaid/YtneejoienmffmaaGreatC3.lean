/-
  The functions of the program keep their contracts: what they make is what the functions of plain data say.
-/
import Derived.Test.YtneejoienmffmaaGreatD
import Derived.Test.YtneejoienmffmaaGreatMT
import Derived.Test.YtneejoienmffmaaGreatProg
import Derived.KernelRfl
set_option linter.unusedVariables false
set_option maxRecDepth 100000
namespace Go.Proofs.T
open Go Go.Proofs Go.Proofs.SX
theorem mix : Tryz.prog.follows .mixedOrders = true := by kernel_rfl
theorem on_ : OrcOk Tryz.prog ⟨[], []⟩ := orc_nil
theorem a2 {a b : Prop} (h : a) (k : b) : a ∧ a ∧ b := ⟨h, ⟨h, k⟩⟩
theorem a3 {a b : Prop} (h : a) (k : b) : a ∧ a ∧ a ∧ b := ⟨h, ⟨h, ⟨h, k⟩⟩⟩
theorem a4 {a b : Prop} (h : a) (k : b) : a ∧ a ∧ a ∧ a ∧ b := ⟨h, ⟨h, ⟨h, ⟨h, k⟩⟩⟩⟩
theorem a5 {a b : Prop} (h : a) (k : b) : a ∧ a ∧ a ∧ a ∧ a ∧ b := ⟨h, ⟨h, ⟨h, ⟨h, ⟨h, k⟩⟩⟩⟩⟩
theorem a6 {a b : Prop} (h : a) (k : b) : a ∧ a ∧ a ∧ a ∧ a ∧ a ∧ b := ⟨h, ⟨h, ⟨h, ⟨h, ⟨h, ⟨h, k⟩⟩⟩⟩⟩⟩
theorem a7 {a b : Prop} (h : a) (k : b) : a ∧ a ∧ a ∧ a ∧ a ∧ a ∧ a ∧ b := ⟨h, ⟨h, ⟨h, ⟨h, ⟨h, ⟨h, ⟨h, k⟩⟩⟩⟩⟩⟩⟩
theorem a8 {a b : Prop} (h : a) (k : b) : a ∧ a ∧ a ∧ a ∧ a ∧ a ∧ a ∧ a ∧ b := ⟨h, ⟨h, ⟨h, ⟨h, ⟨h, ⟨h, ⟨h, ⟨h, k⟩⟩⟩⟩⟩⟩⟩⟩
theorem a9 {a b : Prop} (h : a) (k : b) : a ∧ a ∧ a ∧ a ∧ a ∧ a ∧ a ∧ a ∧ a ∧ b := ⟨h, ⟨h, ⟨h, ⟨h, ⟨h, ⟨h, ⟨h, ⟨h, ⟨h, k⟩⟩⟩⟩⟩⟩⟩⟩⟩
theorem L_lockgateref03_In : ∀ (n : Nat) (a : Tn) (b : Int) (v0 : Int) (q0 : 0 ≤ v0) (o : Out (Int) Bool), lockgateref03_In_L a b n v0 = some o → (match o with
  | .brk z => (0 ≤ z) ∧ LG Tryz.prog (inn (inn (snd (fst (snd (bodyOf Tryz.f73)))))) n (lockgateref03_In_I a b v0) (.exit 0) (lockgateref03_In_I a b z)
  | .ret r => LG Tryz.prog (inn (inn (snd (fst (snd (bodyOf Tryz.f73)))))) n (lockgateref03_In_I a b v0) .ret (lockgateref03_In_F r)) := by
  intro n
  have O_ := on_
  induction n with
  | zero => intro a b v0 q0 o h; simp only [lockgateref03_In_L] at h; cases h
  | succ n ih =>
    intro a b v0 q0 o h
    rw [lockgateref03_In_L] at h
    by_cases h0 : v0 < 64
    · rw [if_pos h0] at h
      by_cases h1 : (Int.tmod (shr .u64 a.m v0) 2) = 0
      · rw [if_pos h1] at h
        by_cases h2 : (Int.tmod (shr .u64 a.v v0) 2) = (Int.tmod (shr .u64 b v0) 2)
        · rw [if_pos h2] at h
          have H := ih a b (IntKind.u64.wrap (v0 + 1)) (by exact wrapu_nonneg) o h
          cases o with
          | brk z => exact ⟨H.1, lg_next (cg_of mix O_ 400 [t0, f0, (1, true), t0, t0, t0, f0, t0, (1, true), t0, t0, f0, t0, (1, true), t0, f0] ([true, true, true, false, true, true], [true]) (ai (dt h0) (ai ((df (Int.not_lt.2 (by assumption))) : decide (v0 < 0) = false) (a4 (be h1) (ai ((df (Int.not_lt.2 (by assumption))) : decide (v0 < 0) = false) (a4 (be h1) (ai ((df (Int.not_lt.2 (by assumption))) : decide (v0 < 0) = false) (a3 (be h1) (ai (bne_eq_false_iff_eq.2 h2) trivial)))))))) (by kernel_rfl)) H.2⟩
          | ret r => exact lg_next (cg_of mix O_ 400 [t0, f0, (1, true), t0, t0, t0, f0, t0, (1, true), t0, t0, f0, t0, (1, true), t0, f0] ([true, true, true, false, true, true], [true]) (ai (dt h0) (ai ((df (Int.not_lt.2 (by assumption))) : decide (v0 < 0) = false) (a4 (be h1) (ai ((df (Int.not_lt.2 (by assumption))) : decide (v0 < 0) = false) (a4 (be h1) (ai ((df (Int.not_lt.2 (by assumption))) : decide (v0 < 0) = false) (a3 (be h1) (ai (bne_eq_false_iff_eq.2 h2) trivial)))))))) (by kernel_rfl)) H
        · rw [if_neg h2] at h
          cases h
          exact lg_ret (cg_of mix O_ 400 [t0, f0, (1, true), t0, t0, t0, f0, t0, (1, true), t0, t0, f0, t0, (1, true), t0, t0] ([false, false, false, false, true], [false]) (ai (dt h0) (ai ((df (Int.not_lt.2 (by assumption))) : decide (v0 < 0) = false) (a4 (be h1) (ai ((df (Int.not_lt.2 (by assumption))) : decide (v0 < 0) = false) (a4 (be h1) (ai ((df (Int.not_lt.2 (by assumption))) : decide (v0 < 0) = false) (a3 (be h1) (ai (bne_iff_ne.2 h2) trivial)))))))) (by kernel_rfl))
      · rw [if_neg h1] at h
        have H := ih a b (IntKind.u64.wrap (v0 + 1)) (by exact wrapu_nonneg) o h
        cases o with
        | brk z => exact ⟨H.1, lg_next (cg_of mix O_ 400 [t0, f0, (1, false), f0, f0, f0, f0, f0, f0, f0, f0, f0, f0] ([true, true, true, false, true, true], [true]) (ai (dt h0) (ai ((df (Int.not_lt.2 (by assumption))) : decide (v0 < 0) = false) (a2 (bn h1) (a9 (bn h1) trivial)))) (by kernel_rfl)) H.2⟩
        | ret r => exact lg_next (cg_of mix O_ 400 [t0, f0, (1, false), f0, f0, f0, f0, f0, f0, f0, f0, f0, f0] ([true, true, true, false, true, true], [true]) (ai (dt h0) (ai ((df (Int.not_lt.2 (by assumption))) : decide (v0 < 0) = false) (a2 (bn h1) (a9 (bn h1) trivial)))) (by kernel_rfl)) H
    · rw [if_neg h0] at h
      cases h
      exact ⟨(by first | assumption | (exact wrapu_nonneg)), lg_exit (cg_of mix O_ 400 [f0] ([true, true, true, false, true, true], [true]) (ai (df h0) trivial) (by kernel_rfl))⟩
theorem K_lockgateref03_In : Keeps Tryz.prog 73 (F2 cTn (cI .u64) cB (fun _ _ => []) lockgateref03_In) := by
  refine keeps2 _ _ _ (enters_of Tryz.func73 (by kernel_rfl)) fun a b hp_ => ?_
  unfold lockgateref03_In
  cases hL : lockgateref03_In_L a b 65 0 with
  | none => exact absurd hL (T_lockgateref03_In a b)
  | some o =>
    have H := L_lockgateref03_In 65 a b 0 (by decide) o hL
    cases o with
    | ret r => exact gives_cg (s' := lockgateref03_In_F r) Tryz.func73 rfl rfl (cg_seq (s1 := ⟨[.agg [.int .u64 a.v, .int .u64 a.m], .int .u64 b, .ptr 0 0, .tup [], .bool false, .tup [], .tup [], .tup [], .tup [], .tup [], .tup [], .tup [], .tup [], .tup [], .tup [], .tup [], .tup [], .tup [], .tup [], .tup [], .tup [], .tup [], .tup [], .tup [], .tup [], .tup [], .tup [], .tup []], [.cells [.int .u64 a.v, .int .u64 a.m]]⟩) (cg_of mix on_ 400 [] ([true, true, true, true, true, true, true, true, true, true, true, true, true, true, true, true, true, true, true, true, true, true, true, true, true, true, true, true], []) trivial (by kernel_rfl)) (cg_seq_ret (cg_seq (cg_of mix on_ 400 [] ([true, true, true, false, true, true], [true]) trivial (by kernel_rfl)) (cg_block_ret (cg_loop H))))) rfl (by kernel_rfl)
    | brk z =>
      obtain ⟨e0, H⟩ := H
      exact gives_cg (s' := lockgateref03_In_F true) Tryz.func73 rfl rfl (cg_seq (s1 := ⟨[.agg [.int .u64 a.v, .int .u64 a.m], .int .u64 b, .ptr 0 0, .tup [], .bool false, .tup [], .tup [], .tup [], .tup [], .tup [], .tup [], .tup [], .tup [], .tup [], .tup [], .tup [], .tup [], .tup [], .tup [], .tup [], .tup [], .tup [], .tup [], .tup [], .tup [], .tup [], .tup [], .tup []], [.cells [.int .u64 a.v, .int .u64 a.m]]⟩) (cg_of mix on_ 400 [] ([true, true, true, true, true, true, true, true, true, true, true, true, true, true, true, true, true, true, true, true, true, true, true, true, true, true, true, true], []) trivial (by kernel_rfl)) (cg_seq (cg_seq (cg_of mix on_ 400 [] ([true, true, true, false, true, true], [true]) trivial (by kernel_rfl)) (cg_block (cg_loop H))) (cg_of mix on_ 400 [] ([false, false, false, false, true], [false]) trivial (by kernel_rfl)))) rfl (by kernel_rfl)
theorem L_lockgateref03_Meet : ∀ (n : Nat) (a : Tn) (b : Tn) (v0 : Int) (v1 : Int) (v2 : Int) (q0 : 0 ≤ v0) (o : Out (Int × Int × Int) (Tn × Bool)), lockgateref03_Meet_L a b n v0 v1 v2 = some o → (match o with
  | .brk z => (0 ≤ z.1) ∧ LG Tryz.prog (inn (inn (snd (fst (snd (snd (bodyOf Tryz.f154))))))) n (lockgateref03_Meet_I a b v0 v1 v2) (.exit 0) (lockgateref03_Meet_I a b z.1 z.2.1 z.2.2)
  | .ret r => LG Tryz.prog (inn (inn (snd (fst (snd (snd (bodyOf Tryz.f154))))))) n (lockgateref03_Meet_I a b v0 v1 v2) .ret (lockgateref03_Meet_F r)) := by
  intro n
  have O_ := on_
  induction n with
  | zero => intro a b v0 v1 v2 q0 o h; simp only [lockgateref03_Meet_L] at h; cases h
  | succ n ih =>
    intro a b v0 v1 v2 q0 o h
    rw [lockgateref03_Meet_L] at h
    by_cases h0 : v0 < 64
    · rw [if_pos h0] at h
      by_cases h1 : (Int.tmod (shr .u64 a.m v0) 2) = 0
      · rw [if_pos h1] at h
        by_cases h2 : (Int.tmod (shr .u64 b.m v0) 2) = 0
        · rw [if_pos h2] at h
          by_cases h3 : (Int.tmod (shr .u64 a.v v0) 2) = (Int.tmod (shr .u64 b.v v0) 2)
          · rw [if_pos h3] at h
            have H := ih a b (IntKind.u64.wrap (v0 + 1)) (Go.bits .or .u64 v1 (shl .u64 (Int.tmod (shr .u64 (Go.bits .or .u64 a.v b.v) v0) 2) v0)) v2 (by exact wrapu_nonneg) o h
            cases o with
            | brk z => exact ⟨H.1, lg_next (cg_of mix O_ 400 [t0, f0, (1, false), (1, true), t0, t0, t0, t0, t0, f0, t0, (1, true), t0, t0, t0, f0, t0, (1, true), t0, f0, f0, f0, f0, (1, false), (1, false)] ([true, true, true, true, true, true, true, true], [true, true, true, true]) (ai (dt h0) (a2 ((df (Int.not_lt.2 (by assumption))) : decide (v0 < 0) = false) (a2 (be h1) (a4 (be h2) (ai ((df (Int.not_lt.2 (by assumption))) : decide (v0 < 0) = false) (a5 (be h2) (ai ((df (Int.not_lt.2 (by assumption))) : decide (v0 < 0) = false) (a3 (be h2) (ai (bne_eq_false_iff_eq.2 h3) (a3 (cn (be h1)) (a2 ((df (Int.not_lt.2 (by assumption))) : decide (v0 < 0) = false) trivial))))))))))) (by kernel_rfl)) H.2⟩
            | ret r => exact lg_next (cg_of mix O_ 400 [t0, f0, (1, false), (1, true), t0, t0, t0, t0, t0, f0, t0, (1, true), t0, t0, t0, f0, t0, (1, true), t0, f0, f0, f0, f0, (1, false), (1, false)] ([true, true, true, true, true, true, true, true], [true, true, true, true]) (ai (dt h0) (a2 ((df (Int.not_lt.2 (by assumption))) : decide (v0 < 0) = false) (a2 (be h1) (a4 (be h2) (ai ((df (Int.not_lt.2 (by assumption))) : decide (v0 < 0) = false) (a5 (be h2) (ai ((df (Int.not_lt.2 (by assumption))) : decide (v0 < 0) = false) (a3 (be h2) (ai (bne_eq_false_iff_eq.2 h3) (a3 (cn (be h1)) (a2 ((df (Int.not_lt.2 (by assumption))) : decide (v0 < 0) = false) trivial))))))))))) (by kernel_rfl)) H
          · rw [if_neg h3] at h
            cases h
            exact lg_ret (cg_of mix O_ 400 [t0, f0, (1, false), (1, true), t0, t0, t0, t0, t0, f0, t0, (1, true), t0, t0, t0, f0, t0, (1, true), t0, t0] ([false, false, false, false, true, true], [false, false, true, false]) (ai (dt h0) (a2 ((df (Int.not_lt.2 (by assumption))) : decide (v0 < 0) = false) (a2 (be h1) (a4 (be h2) (ai ((df (Int.not_lt.2 (by assumption))) : decide (v0 < 0) = false) (a5 (be h2) (ai ((df (Int.not_lt.2 (by assumption))) : decide (v0 < 0) = false) (a3 (be h2) (ai (bne_iff_ne.2 h3) trivial))))))))) (by kernel_rfl))
        · rw [if_neg h2] at h
          have H := ih a b (IntKind.u64.wrap (v0 + 1)) (Go.bits .or .u64 v1 (shl .u64 (Int.tmod (shr .u64 (Go.bits .or .u64 a.v b.v) v0) 2) v0)) v2 (by exact wrapu_nonneg) o h
          cases o with
          | brk z => exact ⟨H.1, lg_next (cg_of mix O_ 400 [t0, f0, (1, false), (1, true), t0, f0, f0, f0, f0, f0, f0, f0, f0, f0, f0, f0, f0, (1, false), f0, f0, (1, false), (1, false)] ([true, true, true, true, true, true, true, true], [true, true, true, true]) (ai (dt h0) (a2 ((df (Int.not_lt.2 (by assumption))) : decide (v0 < 0) = false) (a2 (be h1) (a3 (bn h2) (a9 (bn h2) (a3 (cn (be h1)) (a2 ((df (Int.not_lt.2 (by assumption))) : decide (v0 < 0) = false) trivial))))))) (by kernel_rfl)) H.2⟩
          | ret r => exact lg_next (cg_of mix O_ 400 [t0, f0, (1, false), (1, true), t0, f0, f0, f0, f0, f0, f0, f0, f0, f0, f0, f0, f0, (1, false), f0, f0, (1, false), (1, false)] ([true, true, true, true, true, true, true, true], [true, true, true, true]) (ai (dt h0) (a2 ((df (Int.not_lt.2 (by assumption))) : decide (v0 < 0) = false) (a2 (be h1) (a3 (bn h2) (a9 (bn h2) (a3 (cn (be h1)) (a2 ((df (Int.not_lt.2 (by assumption))) : decide (v0 < 0) = false) trivial))))))) (by kernel_rfl)) H
      · rw [if_neg h1] at h
        by_cases h2 : (Int.tmod (shr .u64 b.m v0) 2) = 0
        · rw [if_pos h2] at h
          have H := ih a b (IntKind.u64.wrap (v0 + 1)) (Go.bits .or .u64 v1 (shl .u64 (Int.tmod (shr .u64 (Go.bits .or .u64 a.v b.v) v0) 2) v0)) v2 (by exact wrapu_nonneg) o h
          cases o with
          | brk z => exact ⟨H.1, lg_next (cg_of mix O_ 400 [t0, f0, (1, false), (1, false), f0, (13, true), t0, t0, f0, f0, (1, false)] ([true, true, true, true, true, true, true, true], [true, true, true, true]) (ai (dt h0) (a2 ((df (Int.not_lt.2 (by assumption))) : decide (v0 < 0) = false) (a2 (bn h1) (a3 (cn (bn h1)) (ai (cn (be h2)) (a2 ((df (Int.not_lt.2 (by assumption))) : decide (v0 < 0) = false) trivial)))))) (by kernel_rfl)) H.2⟩
          | ret r => exact lg_next (cg_of mix O_ 400 [t0, f0, (1, false), (1, false), f0, (13, true), t0, t0, f0, f0, (1, false)] ([true, true, true, true, true, true, true, true], [true, true, true, true]) (ai (dt h0) (a2 ((df (Int.not_lt.2 (by assumption))) : decide (v0 < 0) = false) (a2 (bn h1) (a3 (cn (bn h1)) (ai (cn (be h2)) (a2 ((df (Int.not_lt.2 (by assumption))) : decide (v0 < 0) = false) trivial)))))) (by kernel_rfl)) H
        · rw [if_neg h2] at h
          have H := ih a b (IntKind.u64.wrap (v0 + 1)) (Go.bits .or .u64 v1 (shl .u64 (Int.tmod (shr .u64 (Go.bits .or .u64 a.v b.v) v0) 2) v0)) (Go.bits .or .u64 v2 (shl .u64 1 v0)) (by exact wrapu_nonneg) o h
          cases o with
          | brk z => exact ⟨H.1, lg_next (cg_of mix O_ 400 [t0, f0, (1, false), (1, false), f0, (13, true), t0, t0, t0, f0, f0, (1, false)] ([true, true, true, true, true, true, true, true], [true, true, true, true]) (ai (dt h0) (a2 ((df (Int.not_lt.2 (by assumption))) : decide (v0 < 0) = false) (a2 (bn h1) (a3 (cn (bn h1)) (ai (cn (bn h2)) (a3 ((df (Int.not_lt.2 (by assumption))) : decide (v0 < 0) = false) trivial)))))) (by kernel_rfl)) H.2⟩
          | ret r => exact lg_next (cg_of mix O_ 400 [t0, f0, (1, false), (1, false), f0, (13, true), t0, t0, t0, f0, f0, (1, false)] ([true, true, true, true, true, true, true, true], [true, true, true, true]) (ai (dt h0) (a2 ((df (Int.not_lt.2 (by assumption))) : decide (v0 < 0) = false) (a2 (bn h1) (a3 (cn (bn h1)) (ai (cn (bn h2)) (a3 ((df (Int.not_lt.2 (by assumption))) : decide (v0 < 0) = false) trivial)))))) (by kernel_rfl)) H
    · rw [if_neg h0] at h
      cases h
      exact ⟨(by first | assumption | (exact wrapu_nonneg)), lg_exit (cg_of mix O_ 400 [f0] ([true, true, true, true, true, true, true, true], [true, true, true, true]) (ai (df h0) trivial) (by kernel_rfl))⟩
theorem K_lockgateref03_Meet : Keeps Tryz.prog 154 (F2 cTn cTn (cP cTn cB) (fun _ _ => []) lockgateref03_Meet) := by
  refine keeps2 _ _ _ (enters_of Tryz.func154 (by kernel_rfl)) fun a b hp_ => ?_
  unfold lockgateref03_Meet
  cases hL : lockgateref03_Meet_L a b 65 0 0 0 with
  | none => exact absurd hL (T_lockgateref03_Meet a b)
  | some o =>
    have H := L_lockgateref03_Meet 65 a b 0 0 0 (by decide) o hL
    cases o with
    | ret r => exact gives_cg (s' := lockgateref03_Meet_F r) Tryz.func154 rfl rfl (cg_seq (s1 := ⟨[.agg [.int .u64 a.v, .int .u64 a.m], .agg [.int .u64 b.v, .int .u64 b.m], .ptr 0 0, .ptr 1 0, .ptr 2 0, .bool false, .tup [], .tup [], .tup [], .tup [], .tup [], .tup [], .tup [], .tup [], .tup [], .tup [], .tup [], .tup [], .tup [], .tup [], .tup [], .tup [], .tup [], .tup [], .tup [], .tup [], .tup [], .tup [], .tup [], .tup [], .tup [], .tup [], .tup [], .tup [], .tup [], .tup [], .tup [], .tup [], .tup [], .tup [], .tup [], .tup [], .tup [], .tup [], .tup [], .tup [], .tup [], .tup [], .tup [], .tup [], .tup [], .tup [], .tup [], .tup [], .tup [], .tup [], .tup [], .tup [], .tup [], .tup [], .tup [], .tup [], .tup [], .tup [], .tup [], .tup [], .tup [], .tup [], .tup [], .tup [], .tup []], [.cells [.int .u64 a.v, .int .u64 a.m], .cells [.int .u64 b.v, .int .u64 b.m], .cells [.int .u64 0, .int .u64 0]]⟩) (cg_of mix on_ 400 [] ([true, true, true, true, true, true, true, true, true, true, true, true, true, true, true, true, true, true, true, true, true, true, true, true, true, true, true, true, true, true, true, true, true, true, true, true, true, true, true, true, true, true, true, true, true, true, true, true, true, true, true, true, true, true, true, true, true, true, true, true, true, true, true, true, true, true, true, true, true, true, true], []) trivial (by kernel_rfl)) (cg_seq (s1 := ⟨[.agg [.int .u64 a.v, .int .u64 a.m], .agg [.int .u64 b.v, .int .u64 b.m], .ptr 0 0, .ptr 1 0, .ptr 2 0, .bool false, .ptr 3 0, .tup [], .tup [], .tup [], .tup [], .tup [], .tup [], .tup [], .tup [], .tup [], .tup [], .tup [], .tup [], .tup [], .tup [], .tup [], .tup [], .tup [], .tup [], .tup [], .tup [], .tup [], .tup [], .tup [], .tup [], .tup [], .tup [], .tup [], .tup [], .tup [], .tup [], .tup [], .tup [], .tup [], .tup [], .tup [], .tup [], .tup [], .tup [], .tup [], .tup [], .tup [], .tup [], .tup [], .tup [], .tup [], .tup [], .tup [], .tup [], .tup [], .tup [], .tup [], .tup [], .tup [], .tup [], .tup [], .tup [], .tup [], .tup [], .tup [], .tup [], .tup [], .tup [], .tup [], .tup []], [.cells [.int .u64 a.v, .int .u64 a.m], .cells [.int .u64 b.v, .int .u64 b.m], .cells [.int .u64 0, .int .u64 0], .cells [.int .u64 0, .int .u64 0]]⟩) (cg_of mix on_ 400 [] ([true, true, true, true, true, true, true, true, true, true, true, true, true, true, true, true, true, true, true, true, true, true, true, true, true, true, true, true, true, true, true, true, true, true, true, true, true, true, true, true, true, true, true, true, true, true, true, true, true, true, true, true, true, true, true, true, true, true, true, true, true, true, true, true, true, true, true, true, true, true, true], []) trivial (by kernel_rfl)) (cg_seq_ret (cg_seq (cg_of mix on_ 400 [] ([true, true, true, true, true, true, true, true], [true, true, true, true]) trivial (by kernel_rfl)) (cg_block_ret (cg_loop H)))))) rfl (by kernel_rfl)
    | brk z =>
      obtain ⟨e0, H⟩ := H
      exact gives_cg (s' := lockgateref03_Meet_F ((⟨z.2.1, z.2.2⟩ : Tn), true)) Tryz.func154 rfl rfl (cg_seq (s1 := ⟨[.agg [.int .u64 a.v, .int .u64 a.m], .agg [.int .u64 b.v, .int .u64 b.m], .ptr 0 0, .ptr 1 0, .ptr 2 0, .bool false, .tup [], .tup [], .tup [], .tup [], .tup [], .tup [], .tup [], .tup [], .tup [], .tup [], .tup [], .tup [], .tup [], .tup [], .tup [], .tup [], .tup [], .tup [], .tup [], .tup [], .tup [], .tup [], .tup [], .tup [], .tup [], .tup [], .tup [], .tup [], .tup [], .tup [], .tup [], .tup [], .tup [], .tup [], .tup [], .tup [], .tup [], .tup [], .tup [], .tup [], .tup [], .tup [], .tup [], .tup [], .tup [], .tup [], .tup [], .tup [], .tup [], .tup [], .tup [], .tup [], .tup [], .tup [], .tup [], .tup [], .tup [], .tup [], .tup [], .tup [], .tup [], .tup [], .tup [], .tup [], .tup []], [.cells [.int .u64 a.v, .int .u64 a.m], .cells [.int .u64 b.v, .int .u64 b.m], .cells [.int .u64 0, .int .u64 0]]⟩) (cg_of mix on_ 400 [] ([true, true, true, true, true, true, true, true, true, true, true, true, true, true, true, true, true, true, true, true, true, true, true, true, true, true, true, true, true, true, true, true, true, true, true, true, true, true, true, true, true, true, true, true, true, true, true, true, true, true, true, true, true, true, true, true, true, true, true, true, true, true, true, true, true, true, true, true, true, true, true], []) trivial (by kernel_rfl)) (cg_seq (s1 := ⟨[.agg [.int .u64 a.v, .int .u64 a.m], .agg [.int .u64 b.v, .int .u64 b.m], .ptr 0 0, .ptr 1 0, .ptr 2 0, .bool false, .ptr 3 0, .tup [], .tup [], .tup [], .tup [], .tup [], .tup [], .tup [], .tup [], .tup [], .tup [], .tup [], .tup [], .tup [], .tup [], .tup [], .tup [], .tup [], .tup [], .tup [], .tup [], .tup [], .tup [], .tup [], .tup [], .tup [], .tup [], .tup [], .tup [], .tup [], .tup [], .tup [], .tup [], .tup [], .tup [], .tup [], .tup [], .tup [], .tup [], .tup [], .tup [], .tup [], .tup [], .tup [], .tup [], .tup [], .tup [], .tup [], .tup [], .tup [], .tup [], .tup [], .tup [], .tup [], .tup [], .tup [], .tup [], .tup [], .tup [], .tup [], .tup [], .tup [], .tup [], .tup [], .tup []], [.cells [.int .u64 a.v, .int .u64 a.m], .cells [.int .u64 b.v, .int .u64 b.m], .cells [.int .u64 0, .int .u64 0], .cells [.int .u64 0, .int .u64 0]]⟩) (cg_of mix on_ 400 [] ([true, true, true, true, true, true, true, true, true, true, true, true, true, true, true, true, true, true, true, true, true, true, true, true, true, true, true, true, true, true, true, true, true, true, true, true, true, true, true, true, true, true, true, true, true, true, true, true, true, true, true, true, true, true, true, true, true, true, true, true, true, true, true, true, true, true, true, true, true, true, true], []) trivial (by kernel_rfl)) (cg_seq (cg_seq (cg_of mix on_ 400 [] ([true, true, true, true, true, true, true, true], [true, true, true, true]) trivial (by kernel_rfl)) (cg_block (cg_loop H))) (cg_of mix on_ 400 [] ([false, false, false, false, true, true], [false, false, true, false]) trivial (by kernel_rfl))))) rfl (by kernel_rfl)
theorem K_lockgateref04_top : Keeps Tryz.prog 169 (F0 (cI .u64) [] lockgateref04_top) := by
  refine keeps0  _ (enters_of Tryz.func169 (by kernel_rfl)) fun _ => ?_
  unfold lockgateref04_top
  have O_ := on_
  exact gv mix O_ 400 [] trivial (by kernel_rfl) rfl rfl
theorem K_lockgateref04_UAll : Keeps Tryz.prog 68 (F0 cUs [] lockgateref04_UAll) := by
  refine keeps0  _ (enters_of Tryz.func68 (by kernel_rfl)) fun _ => ?_
  unfold lockgateref04_UAll
  have O_ := (orc_cons K_lockgateref04_top on_)
  exact gv mix O_ 400 [] trivial (by kernel_rfl) rfl rfl
theorem L_lockgateref04_ToT : ∀ (n : Nat) (a : Us) (v0 : Int) (q0 : 0 ≤ v0) (q1 : v0 < 18446744073709551616) (o : Out (Int) Tn), lockgateref04_ToT_L a n v0 = some o → (match o with
  | .brk z => (0 ≤ z) ∧ (z < 18446744073709551616) ∧ LG Tryz.prog (inn (inn (fst (snd (snd (bodyOf Tryz.f168)))))) n (lockgateref04_ToT_I a v0) (.exit 0) (lockgateref04_ToT_I a z)
  | .ret r => LG Tryz.prog (inn (inn (fst (snd (snd (bodyOf Tryz.f168)))))) n (lockgateref04_ToT_I a v0) .ret (lockgateref04_ToT_F r)) := by
  intro n
  have O_ := (orc_cons K_lockgateref04_UAll on_)
  induction n with
  | zero => intro a v0 q0 q1 o h; simp only [lockgateref04_ToT_L] at h; cases h
  | succ n ih =>
    intro a v0 q0 q1 o h
    rw [lockgateref04_ToT_L] at h
    by_cases h0 : v0 < lockgateref04_UAll.hi
    · rw [if_pos h0] at h
      by_cases h1 : (IntKind.u64.wrap (a.lo - (Int.tmod a.lo (IntKind.u64.wrap (v0 + 1))))) = (IntKind.u64.wrap (a.hi - (Int.tmod a.hi (IntKind.u64.wrap (v0 + 1)))))
      · rw [if_pos h1] at h
        cases h
        exact ⟨(by first | assumption | (exact wrapu_nonneg)), (by first | assumption | (exact wrapu_lt)), lg_exit (cg_of mix O_ 400 [t0, t0, t0, t0, t0, t0, t0, f0, t0, t0, t0, t0, t0, t0, t0, t0, f0, t0, t0, t0, f0] ([true, true, true, true], [true, true]) (a7 (dt h0) (ai ((df (by first | exact nz1 (by assumption) (by assumption) | exact nz2 (by assumption) (by assumption) (by assumption) | exact Int.not_lt.2 wrapu_nonneg | exact Int.not_lt.2 wrapu_nn | (split <;> exact Int.not_lt.2 wrapu_nonneg) | exact Int.not_lt.2 (Int.tmod_nonneg _ (by assumption)) | exact Int.not_lt.2 (Int.tmod_nonneg _ wrapu_nonneg) | exact Int.not_lt.2 bits_nonneg | omega | (rw [wrap_i64_id (by omega) (by omega)]; omega))) : decide ((IntKind.u64.wrap (v0 + 1)) = 0) = false) (a8 (dt h0) (ai ((df (by first | exact nz1 (by assumption) (by assumption) | exact nz2 (by assumption) (by assumption) (by assumption) | exact Int.not_lt.2 wrapu_nonneg | exact Int.not_lt.2 wrapu_nn | (split <;> exact Int.not_lt.2 wrapu_nonneg) | exact Int.not_lt.2 (Int.tmod_nonneg _ (by assumption)) | exact Int.not_lt.2 (Int.tmod_nonneg _ wrapu_nonneg) | exact Int.not_lt.2 bits_nonneg | omega | (rw [wrap_i64_id (by omega) (by omega)]; omega))) : decide ((IntKind.u64.wrap (v0 + 1)) = 0) = false) (a3 (dt h0) (ai (bne_eq_false_iff_eq.2 h1) trivial)))))) (by kernel_rfl))⟩
      · rw [if_neg h1] at h
        have H := ih a (IntKind.u64.wrap ((IntKind.u64.wrap (2 * v0)) + 1)) (by exact wrapu_nonneg) (by exact wrapu_lt) o h
        cases o with
        | brk z => exact ⟨H.1, H.2.1, lg_next (cg_of mix O_ 400 [t0, t0, t0, t0, t0, t0, t0, f0, t0, t0, t0, t0, t0, t0, t0, t0, f0, t0, t0, t0, t0] ([true, true, true, true], [true, true]) (a7 (dt h0) (ai ((df (by first | exact nz1 (by assumption) (by assumption) | exact nz2 (by assumption) (by assumption) (by assumption) | exact Int.not_lt.2 wrapu_nonneg | exact Int.not_lt.2 wrapu_nn | (split <;> exact Int.not_lt.2 wrapu_nonneg) | exact Int.not_lt.2 (Int.tmod_nonneg _ (by assumption)) | exact Int.not_lt.2 (Int.tmod_nonneg _ wrapu_nonneg) | exact Int.not_lt.2 bits_nonneg | omega | (rw [wrap_i64_id (by omega) (by omega)]; omega))) : decide ((IntKind.u64.wrap (v0 + 1)) = 0) = false) (a8 (dt h0) (ai ((df (by first | exact nz1 (by assumption) (by assumption) | exact nz2 (by assumption) (by assumption) (by assumption) | exact Int.not_lt.2 wrapu_nonneg | exact Int.not_lt.2 wrapu_nn | (split <;> exact Int.not_lt.2 wrapu_nonneg) | exact Int.not_lt.2 (Int.tmod_nonneg _ (by assumption)) | exact Int.not_lt.2 (Int.tmod_nonneg _ wrapu_nonneg) | exact Int.not_lt.2 bits_nonneg | omega | (rw [wrap_i64_id (by omega) (by omega)]; omega))) : decide ((IntKind.u64.wrap (v0 + 1)) = 0) = false) (a3 (dt h0) (ai (bne_iff_ne.2 h1) trivial)))))) (by kernel_rfl)) H.2.2⟩
        | ret r => exact lg_next (cg_of mix O_ 400 [t0, t0, t0, t0, t0, t0, t0, f0, t0, t0, t0, t0, t0, t0, t0, t0, f0, t0, t0, t0, t0] ([true, true, true, true], [true, true]) (a7 (dt h0) (ai ((df (by first | exact nz1 (by assumption) (by assumption) | exact nz2 (by assumption) (by assumption) (by assumption) | exact Int.not_lt.2 wrapu_nonneg | exact Int.not_lt.2 wrapu_nn | (split <;> exact Int.not_lt.2 wrapu_nonneg) | exact Int.not_lt.2 (Int.tmod_nonneg _ (by assumption)) | exact Int.not_lt.2 (Int.tmod_nonneg _ wrapu_nonneg) | exact Int.not_lt.2 bits_nonneg | omega | (rw [wrap_i64_id (by omega) (by omega)]; omega))) : decide ((IntKind.u64.wrap (v0 + 1)) = 0) = false) (a8 (dt h0) (ai ((df (by first | exact nz1 (by assumption) (by assumption) | exact nz2 (by assumption) (by assumption) (by assumption) | exact Int.not_lt.2 wrapu_nonneg | exact Int.not_lt.2 wrapu_nn | (split <;> exact Int.not_lt.2 wrapu_nonneg) | exact Int.not_lt.2 (Int.tmod_nonneg _ (by assumption)) | exact Int.not_lt.2 (Int.tmod_nonneg _ wrapu_nonneg) | exact Int.not_lt.2 bits_nonneg | omega | (rw [wrap_i64_id (by omega) (by omega)]; omega))) : decide ((IntKind.u64.wrap (v0 + 1)) = 0) = false) (a3 (dt h0) (ai (bne_iff_ne.2 h1) trivial)))))) (by kernel_rfl)) H
    · rw [if_neg h0] at h
      cases h
      exact ⟨(by first | assumption | (exact wrapu_nonneg)), (by first | assumption | (exact wrapu_lt)), lg_exit (cg_of mix O_ 400 [f0, f0, f0, f0, f0, f0, f0, f0, f0, f0, f0, f0, f0, f0, f0, f0, f0, f0] ([true, true, true, true], [true, true]) (a9 (df h0) (a9 (df h0) trivial)) (by kernel_rfl))⟩
theorem K_lockgateref04_ToT : Keeps Tryz.prog 168 (F1 cUs cTn (fun _ => []) lockgateref04_ToT) := by
  refine keeps1 _ _ (enters_of Tryz.func168 (by kernel_rfl)) fun a hp_ => ?_
  unfold lockgateref04_ToT
  cases hL : lockgateref04_ToT_L a 65 0 with
  | none => exact absurd hL (T_lockgateref04_ToT a)
  | some o =>
    have H := L_lockgateref04_ToT 65 a 0 (by decide) (by decide) o hL
    cases o with
    | ret r => exact gives_cg (s' := lockgateref04_ToT_F r) Tryz.func168 rfl rfl (cg_seq (s1 := ⟨[.agg [.int .u64 a.lo, .int .u64 a.hi], .ptr 0 0, .ptr 1 0, .tup [], .tup [], .tup [], .tup [], .tup [], .tup [], .tup [], .tup [], .tup [], .tup [], .tup [], .tup [], .tup [], .tup [], .tup [], .tup [], .tup [], .tup [], .tup [], .tup [], .tup [], .tup [], .tup [], .tup [], .tup [], .tup [], .tup [], .tup [], .tup [], .tup [], .tup [], .tup [], .tup [], .tup [], .tup [], .tup [], .tup [], .tup [], .tup [], .tup [], .tup [], .tup [], .tup []], [.cells [.int .u64 a.lo, .int .u64 a.hi], .cells [.int .u64 0, .int .u64 0]]⟩) (cg_of mix on_ 400 [] ([true, true, true, true, true, true, true, true, true, true, true, true, true, true, true, true, true, true, true, true, true, true, true, true, true, true, true, true, true, true, true, true, true, true, true, true, true, true, true, true, true, true, true, true, true, true], []) trivial (by kernel_rfl)) (cg_seq (cg_of mix on_ 400 [] ([true, true, true, true], [true, true]) trivial (by kernel_rfl)) (cg_seq_ret (cg_block_ret (cg_loop H))))) rfl (by kernel_rfl)
    | brk z =>
      obtain ⟨e0, e1, H⟩ := H
      refine gite (fun h0 => ?_) (fun h0 => ?_)
      · exact gives_cg (s' := lockgateref04_ToT_F (⟨0, z⟩ : Tn)) Tryz.func168 rfl rfl (cg_seq (s1 := ⟨[.agg [.int .u64 a.lo, .int .u64 a.hi], .ptr 0 0, .ptr 1 0, .tup [], .tup [], .tup [], .tup [], .tup [], .tup [], .tup [], .tup [], .tup [], .tup [], .tup [], .tup [], .tup [], .tup [], .tup [], .tup [], .tup [], .tup [], .tup [], .tup [], .tup [], .tup [], .tup [], .tup [], .tup [], .tup [], .tup [], .tup [], .tup [], .tup [], .tup [], .tup [], .tup [], .tup [], .tup [], .tup [], .tup [], .tup [], .tup [], .tup [], .tup [], .tup [], .tup []], [.cells [.int .u64 a.lo, .int .u64 a.hi], .cells [.int .u64 0, .int .u64 0]]⟩) (cg_of mix on_ 400 [] ([true, true, true, true, true, true, true, true, true, true, true, true, true, true, true, true, true, true, true, true, true, true, true, true, true, true, true, true, true, true, true, true, true, true, true, true, true, true, true, true, true, true, true, true, true, true], []) trivial (by kernel_rfl)) (cg_seq (cg_of mix on_ 400 [] ([true, true, true, true], [true, true]) trivial (by kernel_rfl)) (cg_seq (cg_block (cg_loop H)) (cg_of mix (orc_cons K_lockgateref04_UAll on_) 400 [t0] ([false, false, true], [false, true]) (ai (be h0) trivial) (by kernel_rfl))))) rfl (by kernel_rfl)
      · exact gives_cg (s' := lockgateref04_ToT_F (⟨(IntKind.u64.wrap (a.lo - (Int.tmod a.lo (IntKind.u64.wrap (z + 1))))), z⟩ : Tn)) Tryz.func168 rfl rfl (cg_seq (s1 := ⟨[.agg [.int .u64 a.lo, .int .u64 a.hi], .ptr 0 0, .ptr 1 0, .tup [], .tup [], .tup [], .tup [], .tup [], .tup [], .tup [], .tup [], .tup [], .tup [], .tup [], .tup [], .tup [], .tup [], .tup [], .tup [], .tup [], .tup [], .tup [], .tup [], .tup [], .tup [], .tup [], .tup [], .tup [], .tup [], .tup [], .tup [], .tup [], .tup [], .tup [], .tup [], .tup [], .tup [], .tup [], .tup [], .tup [], .tup [], .tup [], .tup [], .tup [], .tup [], .tup []], [.cells [.int .u64 a.lo, .int .u64 a.hi], .cells [.int .u64 0, .int .u64 0]]⟩) (cg_of mix on_ 400 [] ([true, true, true, true, true, true, true, true, true, true, true, true, true, true, true, true, true, true, true, true, true, true, true, true, true, true, true, true, true, true, true, true, true, true, true, true, true, true, true, true, true, true, true, true, true, true], []) trivial (by kernel_rfl)) (cg_seq (cg_of mix on_ 400 [] ([true, true, true, true], [true, true]) trivial (by kernel_rfl)) (cg_seq (cg_block (cg_loop H)) (cg_of mix (orc_cons K_lockgateref04_UAll on_) 400 [f0, f0] ([false, false, true], [false, true]) (ai (bn h0) (ai ((df (by first | exact nz1 (by assumption) (by assumption) | exact nz2 (by assumption) (by assumption) (by assumption) | exact Int.not_lt.2 wrapu_nonneg | exact Int.not_lt.2 wrapu_nn | (split <;> exact Int.not_lt.2 wrapu_nonneg) | exact Int.not_lt.2 (Int.tmod_nonneg _ (by assumption)) | exact Int.not_lt.2 (Int.tmod_nonneg _ wrapu_nonneg) | exact Int.not_lt.2 bits_nonneg | omega | (rw [wrap_i64_id (by omega) (by omega)]; omega))) : decide ((IntKind.u64.wrap (z + 1)) = 0) = false) trivial)) (by kernel_rfl))))) rfl (by kernel_rfl)
theorem K_bits_Len64 : Keeps Tryz.prog 190 (F1 (cI .u64) (cI .i64) (fun _ => []) bits_Len64) := by
  refine keeps1 _ _ (enters_of Tryz.func190 (by kernel_rfl)) fun a hp_ => ?_
  unfold bits_Len64
  have O_ := on_
  refine gite (fun h0 => ?_) (fun h0 => ?_)
  · refine gite (fun h1 => ?_) (fun h1 => ?_)
    · refine gite (fun h2 => ?_) (fun h2 => ?_)
      · exact gv mix O_ 400 [t0, (1, true), (1, true), (1, true)] (ai (dt h0) (ai (dt h1) (ai (dt h2) (ai ((dt (by first | (rw [tab_size]; exact u8_in) | exact nz1 (by assumption) (by assumption) | exact nz2 (by assumption) (by assumption) (by assumption) | exact Int.not_lt.2 wrapu_nonneg | exact Int.not_lt.2 wrapu_nn | (split <;> exact Int.not_lt.2 wrapu_nonneg) | exact Int.not_lt.2 (Int.tmod_nonneg _ (by assumption)) | exact Int.not_lt.2 (Int.tmod_nonneg _ wrapu_nonneg) | exact Int.not_lt.2 bits_nonneg | omega | (rw [wrap_i64_id (by omega) (by omega)]; omega))) : decide (0 ≤ (IntKind.u8.wrap (shr .u64 (shr .u64 (shr .u64 a 32) 16) 8)) ∧ (IntKind.u8.wrap (shr .u64 (shr .u64 (shr .u64 a 32) 16) 8)) < (tab0.size : Int)) = true) trivial)))) (by kernel_rfl) rfl rfl
      · exact gv mix O_ 400 [t0, (1, true), (1, false), t0] (ai (dt h0) (ai (dt h1) (ai (df h2) (ai ((dt (by first | (rw [tab_size]; exact u8_in) | exact nz1 (by assumption) (by assumption) | exact nz2 (by assumption) (by assumption) (by assumption) | exact Int.not_lt.2 wrapu_nonneg | exact Int.not_lt.2 wrapu_nn | (split <;> exact Int.not_lt.2 wrapu_nonneg) | exact Int.not_lt.2 (Int.tmod_nonneg _ (by assumption)) | exact Int.not_lt.2 (Int.tmod_nonneg _ wrapu_nonneg) | exact Int.not_lt.2 bits_nonneg | omega | (rw [wrap_i64_id (by omega) (by omega)]; omega))) : decide (0 ≤ (IntKind.u8.wrap (shr .u64 (shr .u64 a 32) 16)) ∧ (IntKind.u8.wrap (shr .u64 (shr .u64 a 32) 16)) < (tab0.size : Int)) = true) trivial)))) (by kernel_rfl) rfl rfl
    · refine gite (fun h2 => ?_) (fun h2 => ?_)
      · exact gv mix O_ 400 [t0, (1, false), t0, (1, true)] (ai (dt h0) (ai (df h1) (ai (dt h2) (ai ((dt (by first | (rw [tab_size]; exact u8_in) | exact nz1 (by assumption) (by assumption) | exact nz2 (by assumption) (by assumption) (by assumption) | exact Int.not_lt.2 wrapu_nonneg | exact Int.not_lt.2 wrapu_nn | (split <;> exact Int.not_lt.2 wrapu_nonneg) | exact Int.not_lt.2 (Int.tmod_nonneg _ (by assumption)) | exact Int.not_lt.2 (Int.tmod_nonneg _ wrapu_nonneg) | exact Int.not_lt.2 bits_nonneg | omega | (rw [wrap_i64_id (by omega) (by omega)]; omega))) : decide (0 ≤ (IntKind.u8.wrap (shr .u64 (shr .u64 a 32) 8)) ∧ (IntKind.u8.wrap (shr .u64 (shr .u64 a 32) 8)) < (tab0.size : Int)) = true) trivial)))) (by kernel_rfl) rfl rfl
      · exact gv mix O_ 400 [t0, (1, false), f0, t0] (ai (dt h0) (ai (df h1) (ai (df h2) (ai ((dt (by first | (rw [tab_size]; exact u8_in) | exact nz1 (by assumption) (by assumption) | exact nz2 (by assumption) (by assumption) (by assumption) | exact Int.not_lt.2 wrapu_nonneg | exact Int.not_lt.2 wrapu_nn | (split <;> exact Int.not_lt.2 wrapu_nonneg) | exact Int.not_lt.2 (Int.tmod_nonneg _ (by assumption)) | exact Int.not_lt.2 (Int.tmod_nonneg _ wrapu_nonneg) | exact Int.not_lt.2 bits_nonneg | omega | (rw [wrap_i64_id (by omega) (by omega)]; omega))) : decide (0 ≤ (IntKind.u8.wrap (shr .u64 a 32)) ∧ (IntKind.u8.wrap (shr .u64 a 32)) < (tab0.size : Int)) = true) trivial)))) (by kernel_rfl) rfl rfl
  · refine gite (fun h1 => ?_) (fun h1 => ?_)
    · refine gite (fun h2 => ?_) (fun h2 => ?_)
      · exact gv mix O_ 400 [f0, t0, (1, true), (1, true)] (ai (df h0) (ai (dt h1) (ai (dt h2) (ai ((dt (by first | (rw [tab_size]; exact u8_in) | exact nz1 (by assumption) (by assumption) | exact nz2 (by assumption) (by assumption) (by assumption) | exact Int.not_lt.2 wrapu_nonneg | exact Int.not_lt.2 wrapu_nn | (split <;> exact Int.not_lt.2 wrapu_nonneg) | exact Int.not_lt.2 (Int.tmod_nonneg _ (by assumption)) | exact Int.not_lt.2 (Int.tmod_nonneg _ wrapu_nonneg) | exact Int.not_lt.2 bits_nonneg | omega | (rw [wrap_i64_id (by omega) (by omega)]; omega))) : decide (0 ≤ (IntKind.u8.wrap (shr .u64 (shr .u64 a 16) 8)) ∧ (IntKind.u8.wrap (shr .u64 (shr .u64 a 16) 8)) < (tab0.size : Int)) = true) trivial)))) (by kernel_rfl) rfl rfl
      · exact gv mix O_ 400 [f0, t0, (1, false), t0] (ai (df h0) (ai (dt h1) (ai (df h2) (ai ((dt (by first | (rw [tab_size]; exact u8_in) | exact nz1 (by assumption) (by assumption) | exact nz2 (by assumption) (by assumption) (by assumption) | exact Int.not_lt.2 wrapu_nonneg | exact Int.not_lt.2 wrapu_nn | (split <;> exact Int.not_lt.2 wrapu_nonneg) | exact Int.not_lt.2 (Int.tmod_nonneg _ (by assumption)) | exact Int.not_lt.2 (Int.tmod_nonneg _ wrapu_nonneg) | exact Int.not_lt.2 bits_nonneg | omega | (rw [wrap_i64_id (by omega) (by omega)]; omega))) : decide (0 ≤ (IntKind.u8.wrap (shr .u64 a 16)) ∧ (IntKind.u8.wrap (shr .u64 a 16)) < (tab0.size : Int)) = true) trivial)))) (by kernel_rfl) rfl rfl
    · refine gite (fun h2 => ?_) (fun h2 => ?_)
      · exact gv mix O_ 400 [f0, f0, t0, (1, true)] (ai (df h0) (ai (df h1) (ai (dt h2) (ai ((dt (by first | (rw [tab_size]; exact u8_in) | exact nz1 (by assumption) (by assumption) | exact nz2 (by assumption) (by assumption) (by assumption) | exact Int.not_lt.2 wrapu_nonneg | exact Int.not_lt.2 wrapu_nn | (split <;> exact Int.not_lt.2 wrapu_nonneg) | exact Int.not_lt.2 (Int.tmod_nonneg _ (by assumption)) | exact Int.not_lt.2 (Int.tmod_nonneg _ wrapu_nonneg) | exact Int.not_lt.2 bits_nonneg | omega | (rw [wrap_i64_id (by omega) (by omega)]; omega))) : decide (0 ≤ (IntKind.u8.wrap (shr .u64 a 8)) ∧ (IntKind.u8.wrap (shr .u64 a 8)) < (tab0.size : Int)) = true) trivial)))) (by kernel_rfl) rfl rfl
      · exact gv mix O_ 400 [f0, f0, f0, t0] (ai (df h0) (ai (df h1) (ai (df h2) (ai ((dt (by first | (rw [tab_size]; exact u8_in) | exact nz1 (by assumption) (by assumption) | exact nz2 (by assumption) (by assumption) (by assumption) | exact Int.not_lt.2 wrapu_nonneg | exact Int.not_lt.2 wrapu_nn | (split <;> exact Int.not_lt.2 wrapu_nonneg) | exact Int.not_lt.2 (Int.tmod_nonneg _ (by assumption)) | exact Int.not_lt.2 (Int.tmod_nonneg _ wrapu_nonneg) | exact Int.not_lt.2 bits_nonneg | omega | (rw [wrap_i64_id (by omega) (by omega)]; omega))) : decide (0 ≤ (IntKind.u8.wrap a) ∧ (IntKind.u8.wrap a) < (tab0.size : Int)) = true) trivial)))) (by kernel_rfl) rfl rfl
theorem K_lockgateref01_bit : Keeps Tryz.prog 122 (F2 (cI .u64) (cI .i64) (cI .u64) (fun _ _ => []) lockgateref01_bit) := by
  refine keeps2 _ _ _ (enters_of Tryz.func122 (by kernel_rfl)) fun a b hp_ => ?_
  unfold lockgateref01_bit
  have O_ := on_
  exact gv mix O_ 400 [f0] (ai ((df (Int.not_lt.2 wrapu_nonneg)) : decide ((IntKind.u64.wrap b) < 0) = false) trivial) (by kernel_rfl) rfl rfl
theorem L_lockgateref01_add : ∀ (n : Nat) (a : Int) (b : Int) (c : Int) (v0 : Int) (v1 : Int) (v2 : Int) (o : Out (Int × Int × Int) Int), lockgateref01_add_L a b c n v0 v1 v2 = some o → (match o with
  | .brk z => LG Tryz.prog (inn (inn (snd (fst (snd (snd (bodyOf Tryz.f116))))))) n (lockgateref01_add_I a b c v0 v1 v2) (.exit 0) (lockgateref01_add_I a b c z.1 z.2.1 z.2.2)
  | .ret r => LG Tryz.prog (inn (inn (snd (fst (snd (snd (bodyOf Tryz.f116))))))) n (lockgateref01_add_I a b c v0 v1 v2) .ret (lockgateref01_add_F r)) := by
  intro n
  have O_ := (orc_cons K_lockgateref01_bit on_)
  induction n with
  | zero => intro a b c v0 v1 v2 o h; simp only [lockgateref01_add_L] at h; cases h
  | succ n ih =>
    intro a b c v0 v1 v2 o h
    rw [lockgateref01_add_L] at h
    by_cases h0 : v2 < 64
    · rw [if_pos h0] at h
      have H := ih a b c (IntKind.u64.wrap (Int.tdiv (IntKind.u64.wrap ((IntKind.u64.wrap ((lockgateref01_bit a v2) + (lockgateref01_bit b v2))) + v0)) 2)) (Go.bits .or .u64 v1 (shl .u64 (Int.tmod (IntKind.u64.wrap ((IntKind.u64.wrap ((lockgateref01_bit a v2) + (lockgateref01_bit b v2))) + v0)) 2) (IntKind.u64.wrap v2))) (IntKind.i64.wrap (v2 + 1)) o h
      cases o with
      | brk z => exact lg_next (cg_of mix O_ 400 [t0, (1, false)] ([true, true, true, false, false, false, true, true, true], []) (ai (dt h0) (ai ((df (Int.not_lt.2 wrapu_nonneg)) : decide ((IntKind.u64.wrap v2) < 0) = false) trivial)) (by kernel_rfl)) H
      | ret r => exact lg_next (cg_of mix O_ 400 [t0, (1, false)] ([true, true, true, false, false, false, true, true, true], []) (ai (dt h0) (ai ((df (Int.not_lt.2 wrapu_nonneg)) : decide ((IntKind.u64.wrap v2) < 0) = false) trivial)) (by kernel_rfl)) H
    · rw [if_neg h0] at h
      cases h
      exact lg_exit (cg_of mix O_ 400 [f0] ([true, true, true, false, false, false, true, true, true], []) (ai (df h0) trivial) (by kernel_rfl))
theorem K_lockgateref01_add : Keeps Tryz.prog 116 (F3 (cI .u64) (cI .u64) (cI .u64) (cI .u64) (fun _ _ _ => []) lockgateref01_add) := by
  refine keeps3 _ _ _ _ (enters_of Tryz.func116 (by kernel_rfl)) fun a b c hp_ => ?_
  unfold lockgateref01_add
  cases hL : lockgateref01_add_L a b c 65 c 0 0 with
  | none => exact absurd hL (T_lockgateref01_add a b c)
  | some o =>
    have H := L_lockgateref01_add 65 a b c c 0 0 o hL
    cases o with
    | ret r => exact gives_cg (s' := lockgateref01_add_F r) Tryz.func116 rfl rfl (cg_seq (s1 := ⟨[.int .u64 a, .int .u64 b, .int .u64 c, .tup [], .tup [], .tup [], .int .u64 0, .tup [], .tup [], .tup [], .tup [], .tup [], .tup [], .tup [], .tup [], .tup [], .tup [], .tup [], .tup [], .tup [], .tup [], .tup [], .tup [], .tup [], .tup [], .tup [], .tup [], .tup [], .tup [], .tup [], .tup [], .tup [], .tup []], []⟩) (cg_of mix on_ 400 [] ([true, true, true, true, true, true, true, true, true, true, true, true, true, true, true, true, true, true, true, true, true, true, true, true, true, true, true, true, true, true, true, true, true], []) trivial (by kernel_rfl)) (cg_seq (s1 := ⟨[.int .u64 a, .int .u64 b, .int .u64 c, .tup [], .tup [], .tup [], .int .u64 0, .int .u64 0, .tup [], .tup [], .tup [], .tup [], .tup [], .tup [], .tup [], .tup [], .tup [], .tup [], .tup [], .tup [], .tup [], .tup [], .tup [], .tup [], .tup [], .tup [], .tup [], .tup [], .tup [], .tup [], .tup [], .tup [], .tup []], []⟩) (cg_of mix on_ 400 [] ([true, true, true, true, true, true, true, true, true, true, true, true, true, true, true, true, true, true, true, true, true, true, true, true, true, true, true, true, true, true, true, true, true], []) trivial (by kernel_rfl)) (cg_seq_ret (cg_seq (cg_of mix on_ 400 [] ([true, true, true, false, false, false, true, true, true], []) trivial (by kernel_rfl)) (cg_block_ret (cg_loop H)))))) rfl (by kernel_rfl)
    | brk z =>
      exact gives_cg (s' := lockgateref01_add_F z.2.1) Tryz.func116 rfl rfl (cg_seq (s1 := ⟨[.int .u64 a, .int .u64 b, .int .u64 c, .tup [], .tup [], .tup [], .int .u64 0, .tup [], .tup [], .tup [], .tup [], .tup [], .tup [], .tup [], .tup [], .tup [], .tup [], .tup [], .tup [], .tup [], .tup [], .tup [], .tup [], .tup [], .tup [], .tup [], .tup [], .tup [], .tup [], .tup [], .tup [], .tup [], .tup []], []⟩) (cg_of mix on_ 400 [] ([true, true, true, true, true, true, true, true, true, true, true, true, true, true, true, true, true, true, true, true, true, true, true, true, true, true, true, true, true, true, true, true, true], []) trivial (by kernel_rfl)) (cg_seq (s1 := ⟨[.int .u64 a, .int .u64 b, .int .u64 c, .tup [], .tup [], .tup [], .int .u64 0, .int .u64 0, .tup [], .tup [], .tup [], .tup [], .tup [], .tup [], .tup [], .tup [], .tup [], .tup [], .tup [], .tup [], .tup [], .tup [], .tup [], .tup [], .tup [], .tup [], .tup [], .tup [], .tup [], .tup [], .tup [], .tup [], .tup []], []⟩) (cg_of mix on_ 400 [] ([true, true, true, true, true, true, true, true, true, true, true, true, true, true, true, true, true, true, true, true, true, true, true, true, true, true, true, true, true, true, true, true, true], []) trivial (by kernel_rfl)) (cg_seq (cg_seq (cg_of mix on_ 400 [] ([true, true, true, false, false, false, true, true, true], []) trivial (by kernel_rfl)) (cg_block (cg_loop H))) (cg_of mix on_ 400 [] ([false, false, false, false, false, false, true], []) trivial (by kernel_rfl))))) rfl (by kernel_rfl)
theorem L_lockgateref01_not : ∀ (n : Nat) (a : Int) (v0 : Int) (v1 : Int) (o : Out (Int × Int) Int), lockgateref01_not_L a n v0 v1 = some o → (match o with
  | .brk z => LG Tryz.prog (inn (inn (snd (fst (snd (snd (bodyOf Tryz.f117))))))) n (lockgateref01_not_I a v0 v1) (.exit 0) (lockgateref01_not_I a z.1 z.2)
  | .ret r => LG Tryz.prog (inn (inn (snd (fst (snd (snd (bodyOf Tryz.f117))))))) n (lockgateref01_not_I a v0 v1) .ret (lockgateref01_not_F r)) := by
  intro n
  have O_ := (orc_cons K_lockgateref01_bit on_)
  induction n with
  | zero => intro a v0 v1 o h; simp only [lockgateref01_not_L] at h; cases h
  | succ n ih =>
    intro a v0 v1 o h
    rw [lockgateref01_not_L] at h
    by_cases h0 : v1 < 64
    · rw [if_pos h0] at h
      have H := ih a (Go.bits .or .u64 v0 (shl .u64 (IntKind.u64.wrap (1 - (lockgateref01_bit a v1))) (IntKind.u64.wrap v1))) (IntKind.i64.wrap (v1 + 1)) o h
      cases o with
      | brk z => exact lg_next (cg_of mix O_ 400 [t0, f0] ([true, false, true, true, true], []) (ai (dt h0) (ai ((df (Int.not_lt.2 wrapu_nonneg)) : decide ((IntKind.u64.wrap v1) < 0) = false) trivial)) (by kernel_rfl)) H
      | ret r => exact lg_next (cg_of mix O_ 400 [t0, f0] ([true, false, true, true, true], []) (ai (dt h0) (ai ((df (Int.not_lt.2 wrapu_nonneg)) : decide ((IntKind.u64.wrap v1) < 0) = false) trivial)) (by kernel_rfl)) H
    · rw [if_neg h0] at h
      cases h
      exact lg_exit (cg_of mix O_ 400 [f0] ([true, false, true, true, true], []) (ai (df h0) trivial) (by kernel_rfl))
theorem K_lockgateref01_not : Keeps Tryz.prog 117 (F1 (cI .u64) (cI .u64) (fun _ => []) lockgateref01_not) := by
  refine keeps1 _ _ (enters_of Tryz.func117 (by kernel_rfl)) fun a hp_ => ?_
  unfold lockgateref01_not
  cases hL : lockgateref01_not_L a 65 0 0 with
  | none => exact absurd hL (T_lockgateref01_not a)
  | some o =>
    have H := L_lockgateref01_not 65 a 0 0 o hL
    cases o with
    | ret r => exact gives_cg (s' := lockgateref01_not_F r) Tryz.func117 rfl rfl (cg_seq (s1 := ⟨[.int .u64 a, .tup [], .int .u64 0, .tup [], .tup [], .tup [], .tup [], .tup [], .tup [], .tup [], .tup [], .tup [], .tup [], .tup [], .tup [], .tup [], .tup [], .tup [], .tup []], []⟩) (cg_of mix on_ 400 [] ([true, true, true, true, true, true, true, true, true, true, true, true, true, true, true, true, true, true, true], []) trivial (by kernel_rfl)) (cg_seq (s1 := ⟨[.int .u64 a, .tup [], .int .u64 0, .int .u64 0, .tup [], .tup [], .tup [], .tup [], .tup [], .tup [], .tup [], .tup [], .tup [], .tup [], .tup [], .tup [], .tup [], .tup [], .tup []], []⟩) (cg_of mix on_ 400 [] ([true, true, true, true, true, true, true, true, true, true, true, true, true, true, true, true, true, true, true], []) trivial (by kernel_rfl)) (cg_seq_ret (cg_seq (cg_of mix on_ 400 [] ([true, false, true, true, true], []) trivial (by kernel_rfl)) (cg_block_ret (cg_loop H)))))) rfl (by kernel_rfl)
    | brk z =>
      exact gives_cg (s' := lockgateref01_not_F z.1) Tryz.func117 rfl rfl (cg_seq (s1 := ⟨[.int .u64 a, .tup [], .int .u64 0, .tup [], .tup [], .tup [], .tup [], .tup [], .tup [], .tup [], .tup [], .tup [], .tup [], .tup [], .tup [], .tup [], .tup [], .tup [], .tup []], []⟩) (cg_of mix on_ 400 [] ([true, true, true, true, true, true, true, true, true, true, true, true, true, true, true, true, true, true, true], []) trivial (by kernel_rfl)) (cg_seq (s1 := ⟨[.int .u64 a, .tup [], .int .u64 0, .int .u64 0, .tup [], .tup [], .tup [], .tup [], .tup [], .tup [], .tup [], .tup [], .tup [], .tup [], .tup [], .tup [], .tup [], .tup [], .tup []], []⟩) (cg_of mix on_ 400 [] ([true, true, true, true, true, true, true, true, true, true, true, true, true, true, true, true, true, true, true], []) trivial (by kernel_rfl)) (cg_seq (cg_seq (cg_of mix on_ 400 [] ([true, false, true, true, true], []) trivial (by kernel_rfl)) (cg_block (cg_loop H))) (cg_of mix on_ 400 [] ([false, false, true], []) trivial (by kernel_rfl))))) rfl (by kernel_rfl)
theorem L_lockgateref01_times : ∀ (n : Nat) (a : Int) (b : Int) (v0 : Int) (v1 : Int) (o : Out (Int × Int) Int), lockgateref01_times_L a b n v0 v1 = some o → (match o with
  | .brk z => LG Tryz.prog (inn (inn (snd (fst (snd (snd (bodyOf Tryz.f118))))))) n (lockgateref01_times_I a b v0 v1) (.exit 0) (lockgateref01_times_I a b z.1 z.2)
  | .ret r => LG Tryz.prog (inn (inn (snd (fst (snd (snd (bodyOf Tryz.f118))))))) n (lockgateref01_times_I a b v0 v1) .ret (lockgateref01_times_F r)) := by
  intro n
  have O_ := (orc_cons K_lockgateref01_bit (orc_cons K_lockgateref01_add on_))
  induction n with
  | zero => intro a b v0 v1 o h; simp only [lockgateref01_times_L] at h; cases h
  | succ n ih =>
    intro a b v0 v1 o h
    rw [lockgateref01_times_L] at h
    by_cases h0 : v1 < 64
    · rw [if_pos h0] at h
      by_cases h1 : (lockgateref01_bit a v1) = 1
      · rw [if_pos h1] at h
        have H := ih a b (lockgateref01_add v0 (shl .u64 b (IntKind.u64.wrap v1)) 0) (IntKind.i64.wrap (v1 + 1)) o h
        cases o with
        | brk z => exact lg_next (cg_of mix O_ 400 [t0, t0, f0] ([true, true, false, false, true, true, true], []) (ai (dt h0) (ai (be h1) (ai ((df (Int.not_lt.2 wrapu_nonneg)) : decide ((IntKind.u64.wrap v1) < 0) = false) trivial))) (by kernel_rfl)) H
        | ret r => exact lg_next (cg_of mix O_ 400 [t0, t0, f0] ([true, true, false, false, true, true, true], []) (ai (dt h0) (ai (be h1) (ai ((df (Int.not_lt.2 wrapu_nonneg)) : decide ((IntKind.u64.wrap v1) < 0) = false) trivial))) (by kernel_rfl)) H
      · rw [if_neg h1] at h
        have H := ih a b v0 (IntKind.i64.wrap (v1 + 1)) o h
        cases o with
        | brk z => exact lg_next (cg_of mix O_ 400 [t0, f0] ([true, true, false, false, true, true, true], []) (ai (dt h0) (ai (bn h1) trivial)) (by kernel_rfl)) H
        | ret r => exact lg_next (cg_of mix O_ 400 [t0, f0] ([true, true, false, false, true, true, true], []) (ai (dt h0) (ai (bn h1) trivial)) (by kernel_rfl)) H
    · rw [if_neg h0] at h
      cases h
      exact lg_exit (cg_of mix O_ 400 [f0] ([true, true, false, false, true, true, true], []) (ai (df h0) trivial) (by kernel_rfl))
theorem K_lockgateref01_times : Keeps Tryz.prog 118 (F2 (cI .u64) (cI .u64) (cI .u64) (fun _ _ => []) lockgateref01_times) := by
  refine keeps2 _ _ _ (enters_of Tryz.func118 (by kernel_rfl)) fun a b hp_ => ?_
  unfold lockgateref01_times
  cases hL : lockgateref01_times_L a b 65 0 0 with
  | none => exact absurd hL (T_lockgateref01_times a b)
  | some o =>
    have H := L_lockgateref01_times 65 a b 0 0 o hL
    cases o with
    | ret r => exact gives_cg (s' := lockgateref01_times_F r) Tryz.func118 rfl rfl (cg_seq (s1 := ⟨[.int .u64 a, .int .u64 b, .tup [], .tup [], .int .u64 0, .tup [], .tup [], .tup [], .tup [], .tup [], .tup [], .tup [], .tup [], .tup [], .tup [], .tup [], .tup [], .tup [], .tup [], .tup [], .tup [], .tup []], []⟩) (cg_of mix on_ 400 [] ([true, true, true, true, true, true, true, true, true, true, true, true, true, true, true, true, true, true, true, true, true, true], []) trivial (by kernel_rfl)) (cg_seq (s1 := ⟨[.int .u64 a, .int .u64 b, .tup [], .tup [], .int .u64 0, .int .u64 0, .tup [], .tup [], .tup [], .tup [], .tup [], .tup [], .tup [], .tup [], .tup [], .tup [], .tup [], .tup [], .tup [], .tup [], .tup [], .tup []], []⟩) (cg_of mix on_ 400 [] ([true, true, true, true, true, true, true, true, true, true, true, true, true, true, true, true, true, true, true, true, true, true], []) trivial (by kernel_rfl)) (cg_seq_ret (cg_seq (cg_of mix on_ 400 [] ([true, true, false, false, true, true, true], []) trivial (by kernel_rfl)) (cg_block_ret (cg_loop H)))))) rfl (by kernel_rfl)
    | brk z =>
      exact gives_cg (s' := lockgateref01_times_F z.1) Tryz.func118 rfl rfl (cg_seq (s1 := ⟨[.int .u64 a, .int .u64 b, .tup [], .tup [], .int .u64 0, .tup [], .tup [], .tup [], .tup [], .tup [], .tup [], .tup [], .tup [], .tup [], .tup [], .tup [], .tup [], .tup [], .tup [], .tup [], .tup [], .tup []], []⟩) (cg_of mix on_ 400 [] ([true, true, true, true, true, true, true, true, true, true, true, true, true, true, true, true, true, true, true, true, true, true], []) trivial (by kernel_rfl)) (cg_seq (s1 := ⟨[.int .u64 a, .int .u64 b, .tup [], .tup [], .int .u64 0, .int .u64 0, .tup [], .tup [], .tup [], .tup [], .tup [], .tup [], .tup [], .tup [], .tup [], .tup [], .tup [], .tup [], .tup [], .tup [], .tup [], .tup []], []⟩) (cg_of mix on_ 400 [] ([true, true, true, true, true, true, true, true, true, true, true, true, true, true, true, true, true, true, true, true, true, true], []) trivial (by kernel_rfl)) (cg_seq (cg_seq (cg_of mix on_ 400 [] ([true, true, false, false, true, true, true], []) trivial (by kernel_rfl)) (cg_block (cg_loop H))) (cg_of mix on_ 400 [] ([false, false, false, false, true], []) trivial (by kernel_rfl))))) rfl (by kernel_rfl)
theorem L_lockgateref01_divide : ∀ (n : Nat) (a : Int) (b : Int) (v0 : Int) (v1 : Int) (v2 : Int) (o : Out (Int × Int × Int) (Int × Int)), lockgateref01_divide_L a b n v0 v1 v2 = some o → (match o with
  | .brk z => LG Tryz.prog (inn (inn (snd (fst (snd (snd (snd (bodyOf Tryz.f119)))))))) n (lockgateref01_divide_I a b v0 v1 v2) (.exit 0) (lockgateref01_divide_I a b z.1 z.2.1 z.2.2)
  | .ret r => LG Tryz.prog (inn (inn (snd (fst (snd (snd (snd (bodyOf Tryz.f119)))))))) n (lockgateref01_divide_I a b v0 v1 v2) .ret (lockgateref01_divide_F r)) := by
  intro n
  have O_ := (orc_cons K_lockgateref01_bit (orc_cons K_lockgateref01_not (orc_cons K_lockgateref01_add on_)))
  induction n with
  | zero => intro a b v0 v1 v2 o h; simp only [lockgateref01_divide_L] at h; cases h
  | succ n ih =>
    intro a b v0 v1 v2 o h
    rw [lockgateref01_divide_L] at h
    by_cases h0 : 0 ≤ v2
    · rw [if_pos h0] at h
      by_cases h1 : (lockgateref01_bit v1 63) = 1
      · rw [if_pos h1] at h
        have H := ih a b (Go.bits .or .u64 v0 (shl .u64 1 (IntKind.u64.wrap v2))) (lockgateref01_add (IntKind.u64.wrap ((IntKind.u64.wrap (v1 * 2)) + (lockgateref01_bit a v2))) (lockgateref01_not b) 1) (IntKind.i64.wrap (v2 - 1)) o h
        cases o with
        | brk z => exact lg_next (cg_of mix O_ 400 [t0, t0, t0, t0, t0, (1, false)] ([true, true, false, false, true, true, true, true, true], []) (ai (dt h0) (a4 (be h1) (ai ((df (Int.not_lt.2 wrapu_nonneg)) : decide ((IntKind.u64.wrap v2) < 0) = false) trivial))) (by kernel_rfl)) H
        | ret r => exact lg_next (cg_of mix O_ 400 [t0, t0, t0, t0, t0, (1, false)] ([true, true, false, false, true, true, true, true, true], []) (ai (dt h0) (a4 (be h1) (ai ((df (Int.not_lt.2 wrapu_nonneg)) : decide ((IntKind.u64.wrap v2) < 0) = false) trivial))) (by kernel_rfl)) H
      · rw [if_neg h1] at h
        by_cases h2 : b ≤ (IntKind.u64.wrap ((IntKind.u64.wrap (v1 * 2)) + (lockgateref01_bit a v2)))
        · rw [if_pos h2] at h
          have H := ih a b (Go.bits .or .u64 v0 (shl .u64 1 (IntKind.u64.wrap v2))) (lockgateref01_add (IntKind.u64.wrap ((IntKind.u64.wrap (v1 * 2)) + (lockgateref01_bit a v2))) (lockgateref01_not b) 1) (IntKind.i64.wrap (v2 - 1)) o h
          cases o with
          | brk z => exact lg_next (cg_of mix O_ 400 [t0, f0, f0, f0, f0, t0, f0] ([true, true, false, false, true, true, true, true, true], []) (ai (dt h0) (a4 (bn h1) (ai (dt h2) (ai ((df (Int.not_lt.2 wrapu_nonneg)) : decide ((IntKind.u64.wrap v2) < 0) = false) trivial)))) (by kernel_rfl)) H
          | ret r => exact lg_next (cg_of mix O_ 400 [t0, f0, f0, f0, f0, t0, f0] ([true, true, false, false, true, true, true, true, true], []) (ai (dt h0) (a4 (bn h1) (ai (dt h2) (ai ((df (Int.not_lt.2 wrapu_nonneg)) : decide ((IntKind.u64.wrap v2) < 0) = false) trivial)))) (by kernel_rfl)) H
        · rw [if_neg h2] at h
          have H := ih a b v0 (IntKind.u64.wrap ((IntKind.u64.wrap (v1 * 2)) + (lockgateref01_bit a v2))) (IntKind.i64.wrap (v2 - 1)) o h
          cases o with
          | brk z => exact lg_next (cg_of mix O_ 400 [t0, f0, f0, f0, f0, f0] ([true, true, false, false, true, true, true, true, true], []) (ai (dt h0) (a4 (bn h1) (ai (df h2) trivial))) (by kernel_rfl)) H
          | ret r => exact lg_next (cg_of mix O_ 400 [t0, f0, f0, f0, f0, f0] ([true, true, false, false, true, true, true, true, true], []) (ai (dt h0) (a4 (bn h1) (ai (df h2) trivial))) (by kernel_rfl)) H
    · rw [if_neg h0] at h
      cases h
      exact lg_exit (cg_of mix O_ 400 [f0] ([true, true, false, false, true, true, true, true, true], []) (ai (df h0) trivial) (by kernel_rfl))
theorem K_lockgateref01_divide : Keeps Tryz.prog 119 (F2 (cI .u64) (cI .u64) (cP (cI .u64) (cI .u64)) (fun _ _ => []) lockgateref01_divide) := by
  refine keeps2 _ _ _ (enters_of Tryz.func119 (by kernel_rfl)) fun a b hp_ => ?_
  unfold lockgateref01_divide
  cases hL : lockgateref01_divide_L a b 65 0 0 63 with
  | none => exact absurd hL (T_lockgateref01_divide a b)
  | some o =>
    have H := L_lockgateref01_divide 65 a b 0 0 63 o hL
    cases o with
    | ret r => exact gives_cg (s' := lockgateref01_divide_F r) Tryz.func119 rfl rfl (cg_seq (s1 := ⟨[.int .u64 a, .int .u64 b, .tup [], .tup [], .int .u64 0, .int .u64 0, .tup [], .tup [], .tup [], .tup [], .tup [], .tup [], .tup [], .tup [], .tup [], .tup [], .tup [], .tup [], .tup [], .tup [], .tup [], .tup [], .tup [], .tup [], .tup [], .tup [], .tup [], .tup [], .tup [], .tup [], .tup [], .tup [], .tup [], .tup [], .tup [], .tup [], .tup [], .tup [], .tup [], .tup []], []⟩) (cg_of mix on_ 400 [] ([true, true, true, true, true, true, true, true, true, true, true, true, true, true, true, true, true, true, true, true, true, true, true, true, true, true, true, true, true, true, true, true, true, true, true, true, true, true, true, true], []) trivial (by kernel_rfl)) (cg_seq (s1 := ⟨[.int .u64 a, .int .u64 b, .tup [], .tup [], .int .u64 0, .int .u64 0, .int .u64 0, .tup [], .tup [], .tup [], .tup [], .tup [], .tup [], .tup [], .tup [], .tup [], .tup [], .tup [], .tup [], .tup [], .tup [], .tup [], .tup [], .tup [], .tup [], .tup [], .tup [], .tup [], .tup [], .tup [], .tup [], .tup [], .tup [], .tup [], .tup [], .tup [], .tup [], .tup [], .tup [], .tup []], []⟩) (cg_of mix on_ 400 [] ([true, true, true, true, true, true, true, true, true, true, true, true, true, true, true, true, true, true, true, true, true, true, true, true, true, true, true, true, true, true, true, true, true, true, true, true, true, true, true, true], []) trivial (by kernel_rfl)) (cg_seq (s1 := ⟨[.int .u64 a, .int .u64 b, .tup [], .tup [], .int .u64 0, .int .u64 0, .int .u64 0, .int .u64 0, .tup [], .tup [], .tup [], .tup [], .tup [], .tup [], .tup [], .tup [], .tup [], .tup [], .tup [], .tup [], .tup [], .tup [], .tup [], .tup [], .tup [], .tup [], .tup [], .tup [], .tup [], .tup [], .tup [], .tup [], .tup [], .tup [], .tup [], .tup [], .tup [], .tup [], .tup [], .tup []], []⟩) (cg_of mix on_ 400 [] ([true, true, true, true, true, true, true, true, true, true, true, true, true, true, true, true, true, true, true, true, true, true, true, true, true, true, true, true, true, true, true, true, true, true, true, true, true, true, true, true], []) trivial (by kernel_rfl)) (cg_seq_ret (cg_seq (cg_of mix on_ 400 [] ([true, true, false, false, true, true, true, true, true], []) trivial (by kernel_rfl)) (cg_block_ret (cg_loop H))))))) rfl (by kernel_rfl)
    | brk z =>
      exact gives_cg (s' := lockgateref01_divide_F (z.1, z.2.1)) Tryz.func119 rfl rfl (cg_seq (s1 := ⟨[.int .u64 a, .int .u64 b, .tup [], .tup [], .int .u64 0, .int .u64 0, .tup [], .tup [], .tup [], .tup [], .tup [], .tup [], .tup [], .tup [], .tup [], .tup [], .tup [], .tup [], .tup [], .tup [], .tup [], .tup [], .tup [], .tup [], .tup [], .tup [], .tup [], .tup [], .tup [], .tup [], .tup [], .tup [], .tup [], .tup [], .tup [], .tup [], .tup [], .tup [], .tup [], .tup []], []⟩) (cg_of mix on_ 400 [] ([true, true, true, true, true, true, true, true, true, true, true, true, true, true, true, true, true, true, true, true, true, true, true, true, true, true, true, true, true, true, true, true, true, true, true, true, true, true, true, true], []) trivial (by kernel_rfl)) (cg_seq (s1 := ⟨[.int .u64 a, .int .u64 b, .tup [], .tup [], .int .u64 0, .int .u64 0, .int .u64 0, .tup [], .tup [], .tup [], .tup [], .tup [], .tup [], .tup [], .tup [], .tup [], .tup [], .tup [], .tup [], .tup [], .tup [], .tup [], .tup [], .tup [], .tup [], .tup [], .tup [], .tup [], .tup [], .tup [], .tup [], .tup [], .tup [], .tup [], .tup [], .tup [], .tup [], .tup [], .tup [], .tup []], []⟩) (cg_of mix on_ 400 [] ([true, true, true, true, true, true, true, true, true, true, true, true, true, true, true, true, true, true, true, true, true, true, true, true, true, true, true, true, true, true, true, true, true, true, true, true, true, true, true, true], []) trivial (by kernel_rfl)) (cg_seq (s1 := ⟨[.int .u64 a, .int .u64 b, .tup [], .tup [], .int .u64 0, .int .u64 0, .int .u64 0, .int .u64 0, .tup [], .tup [], .tup [], .tup [], .tup [], .tup [], .tup [], .tup [], .tup [], .tup [], .tup [], .tup [], .tup [], .tup [], .tup [], .tup [], .tup [], .tup [], .tup [], .tup [], .tup [], .tup [], .tup [], .tup [], .tup [], .tup [], .tup [], .tup [], .tup [], .tup [], .tup [], .tup []], []⟩) (cg_of mix on_ 400 [] ([true, true, true, true, true, true, true, true, true, true, true, true, true, true, true, true, true, true, true, true, true, true, true, true, true, true, true, true, true, true, true, true, true, true, true, true, true, true, true, true], []) trivial (by kernel_rfl)) (cg_seq (cg_seq (cg_of mix on_ 400 [] ([true, true, false, false, true, true, true, true, true], []) trivial (by kernel_rfl)) (cg_block (cg_loop H))) (cg_of mix on_ 400 [] ([false, false, false, false, true, true], []) trivial (by kernel_rfl)))))) rfl (by kernel_rfl)
theorem L_lockgateref01_bits : ∀ (n : Nat) (a : Int) (b : Int) (c : Int) (v0 : Int) (v1 : Int) (o : Out (Int × Int) Int), lockgateref01_bits_L a b c n v0 v1 = some o → (match o with
  | .brk z => LG Tryz.prog (inn (inn (snd (fst (snd (snd (bodyOf Tryz.f120))))))) n (lockgateref01_bits_I a b c v0 v1) (.exit 0) (lockgateref01_bits_I a b c z.1 z.2)
  | .ret r => LG Tryz.prog (inn (inn (snd (fst (snd (snd (bodyOf Tryz.f120))))))) n (lockgateref01_bits_I a b c v0 v1) .ret (lockgateref01_bits_F r)) := by
  intro n
  have O_ := (orc_cons K_lockgateref01_bit on_)
  induction n with
  | zero => intro a b c v0 v1 o h; simp only [lockgateref01_bits_L] at h; cases h
  | succ n ih =>
    intro a b c v0 v1 o h
    rw [lockgateref01_bits_L] at h
    by_cases h0 : v1 < 64
    · rw [if_pos h0] at h
      by_cases h1 : a = 4
      · rw [if_pos h1] at h
        by_cases h2 : 0 < (IntKind.u64.wrap ((lockgateref01_bit b v1) + (lockgateref01_bit c v1)))
        · rw [if_pos h2] at h
          have H := ih a b c (Go.bits .or .u64 v0 (shl .u64 1 (IntKind.u64.wrap v1))) (IntKind.i64.wrap (v1 + 1)) o h
          cases o with
          | brk z => exact lg_next (cg_of mix O_ 400 [t0, t0, t0, t0, t0, t0, t0, t0, t0, (6, false)] ([true, true, true, false, false, false, true, true, true], []) (ai (dt h0) (a3 (be h1) (a5 (dt h2) (ai ((df (Int.not_lt.2 wrapu_nonneg)) : decide ((IntKind.u64.wrap v1) < 0) = false) trivial)))) (by kernel_rfl)) H
          | ret r => exact lg_next (cg_of mix O_ 400 [t0, t0, t0, t0, t0, t0, t0, t0, t0, (6, false)] ([true, true, true, false, false, false, true, true, true], []) (ai (dt h0) (a3 (be h1) (a5 (dt h2) (ai ((df (Int.not_lt.2 wrapu_nonneg)) : decide ((IntKind.u64.wrap v1) < 0) = false) trivial)))) (by kernel_rfl)) H
        · rw [if_neg h2] at h
          by_cases h3 : a = 5
          · rw [if_pos h3] at h
            by_cases h4 : (IntKind.u64.wrap ((lockgateref01_bit b v1) + (lockgateref01_bit c v1))) = 2
            · rw [if_pos h4] at h
              have H := ih a b c (Go.bits .or .u64 v0 (shl .u64 1 (IntKind.u64.wrap v1))) (IntKind.i64.wrap (v1 + 1)) o h
              cases o with
              | brk z => exact lg_next (cg_of mix O_ 400 [t0, t0, t0, t0, f0, f0, f0, t0, t0, f0, t0, f0, t0, t0, t0, t0, t0, (1, false)] ([true, true, true, false, false, false, true, true, true], []) (ai (dt h0) (a3 (be h1) (a3 (df h2) (a2 (be h3) (ai (df h2) (ai (be h3) (ai (df h2) (a5 (be h4) (ai ((df (Int.not_lt.2 wrapu_nonneg)) : decide ((IntKind.u64.wrap v1) < 0) = false) trivial))))))))) (by kernel_rfl)) H
              | ret r => exact lg_next (cg_of mix O_ 400 [t0, t0, t0, t0, f0, f0, f0, t0, t0, f0, t0, f0, t0, t0, t0, t0, t0, (1, false)] ([true, true, true, false, false, false, true, true, true], []) (ai (dt h0) (a3 (be h1) (a3 (df h2) (a2 (be h3) (ai (df h2) (ai (be h3) (ai (df h2) (a5 (be h4) (ai ((df (Int.not_lt.2 wrapu_nonneg)) : decide ((IntKind.u64.wrap v1) < 0) = false) trivial))))))))) (by kernel_rfl)) H
            · rw [if_neg h4] at h
              by_cases h5 : a = 10
              · rw [if_pos h5] at h
                by_cases h6 : (IntKind.u64.wrap ((lockgateref01_bit b v1) + (lockgateref01_bit c v1))) = 1
                · rw [if_pos h6] at h
                  have H := ih a b c (Go.bits .or .u64 v0 (shl .u64 1 (IntKind.u64.wrap v1))) (IntKind.i64.wrap (v1 + 1)) o h
                  cases o with
                  | brk z => exact lg_next (cg_of mix O_ 400 [t0, t0, t0, t0, f0, f0, f0, t0, t0, f0, t0, f0, f0, f0, f0, t0, t0, f0, t0, f0, t0, f0] ([true, true, true, false, false, false, true, true, true], []) (ai (dt h0) (a3 (be h1) (a3 (df h2) (a2 (be h3) (ai (df h2) (ai (be h3) (ai (df h2) (a3 (bn h4) (a2 (be h5) (ai (bn h4) (ai (be h5) (ai (bn h4) (ai (be h6) (ai ((df (Int.not_lt.2 wrapu_nonneg)) : decide ((IntKind.u64.wrap v1) < 0) = false) trivial)))))))))))))) (by kernel_rfl)) H
                  | ret r => exact lg_next (cg_of mix O_ 400 [t0, t0, t0, t0, f0, f0, f0, t0, t0, f0, t0, f0, f0, f0, f0, t0, t0, f0, t0, f0, t0, f0] ([true, true, true, false, false, false, true, true, true], []) (ai (dt h0) (a3 (be h1) (a3 (df h2) (a2 (be h3) (ai (df h2) (ai (be h3) (ai (df h2) (a3 (bn h4) (a2 (be h5) (ai (bn h4) (ai (be h5) (ai (bn h4) (ai (be h6) (ai ((df (Int.not_lt.2 wrapu_nonneg)) : decide ((IntKind.u64.wrap v1) < 0) = false) trivial)))))))))))))) (by kernel_rfl)) H
                · rw [if_neg h6] at h
                  have H := ih a b c v0 (IntKind.i64.wrap (v1 + 1)) o h
                  cases o with
                  | brk z => exact lg_next (cg_of mix O_ 400 [t0, t0, t0, t0, f0, f0, f0, t0, t0, f0, t0, f0, f0, f0, f0, t0, t0, f0, t0, f0, f0] ([true, true, true, false, false, false, true, true, true], []) (ai (dt h0) (a3 (be h1) (a3 (df h2) (a2 (be h3) (ai (df h2) (ai (be h3) (ai (df h2) (a3 (bn h4) (a2 (be h5) (ai (bn h4) (ai (be h5) (ai (bn h4) (ai (bn h6) trivial))))))))))))) (by kernel_rfl)) H
                  | ret r => exact lg_next (cg_of mix O_ 400 [t0, t0, t0, t0, f0, f0, f0, t0, t0, f0, t0, f0, f0, f0, f0, t0, t0, f0, t0, f0, f0] ([true, true, true, false, false, false, true, true, true], []) (ai (dt h0) (a3 (be h1) (a3 (df h2) (a2 (be h3) (ai (df h2) (ai (be h3) (ai (df h2) (a3 (bn h4) (a2 (be h5) (ai (bn h4) (ai (be h5) (ai (bn h4) (ai (bn h6) trivial))))))))))))) (by kernel_rfl)) H
              · rw [if_neg h5] at h
                have H := ih a b c v0 (IntKind.i64.wrap (v1 + 1)) o h
                cases o with
                | brk z => exact lg_next (cg_of mix O_ 400 [t0, t0, t0, t0, f0, f0, f0, t0, t0, f0, t0, f0, f0, f0, f0, f0, f0, f0, f0, f0] ([true, true, true, false, false, false, true, true, true], []) (ai (dt h0) (a3 (be h1) (a3 (df h2) (a2 (be h3) (ai (df h2) (ai (be h3) (ai (df h2) (a3 (bn h4) (a2 (bn h5) (ai (bn h4) (ai (bn h5) (ai (bn h4) trivial)))))))))))) (by kernel_rfl)) H
                | ret r => exact lg_next (cg_of mix O_ 400 [t0, t0, t0, t0, f0, f0, f0, t0, t0, f0, t0, f0, f0, f0, f0, f0, f0, f0, f0, f0] ([true, true, true, false, false, false, true, true, true], []) (ai (dt h0) (a3 (be h1) (a3 (df h2) (a2 (be h3) (ai (df h2) (ai (be h3) (ai (df h2) (a3 (bn h4) (a2 (bn h5) (ai (bn h4) (ai (bn h5) (ai (bn h4) trivial)))))))))))) (by kernel_rfl)) H
          · rw [if_neg h3] at h
            by_cases h4 : a = 10
            · rw [if_pos h4] at h
              by_cases h5 : (IntKind.u64.wrap ((lockgateref01_bit b v1) + (lockgateref01_bit c v1))) = 1
              · rw [if_pos h5] at h
                have H := ih a b c (Go.bits .or .u64 v0 (shl .u64 1 (IntKind.u64.wrap v1))) (IntKind.i64.wrap (v1 + 1)) o h
                cases o with
                | brk z => exact lg_next (cg_of mix O_ 400 [t0, t0, t0, t0, f0, f0, f0, f0, f0, f0, f0, f0, (3, true), t0, (1, true), (1, true), f0] ([true, true, true, false, false, false, true, true, true], []) (ai (dt h0) (a3 (be h1) (a3 (df h2) (a2 (bn h3) (ai (df h2) (ai (bn h3) (ai (df h2) (a3 (be h4) (ai (be h5) (ai ((df (Int.not_lt.2 wrapu_nonneg)) : decide ((IntKind.u64.wrap v1) < 0) = false) trivial)))))))))) (by kernel_rfl)) H
                | ret r => exact lg_next (cg_of mix O_ 400 [t0, t0, t0, t0, f0, f0, f0, f0, f0, f0, f0, f0, (3, true), t0, (1, true), (1, true), f0] ([true, true, true, false, false, false, true, true, true], []) (ai (dt h0) (a3 (be h1) (a3 (df h2) (a2 (bn h3) (ai (df h2) (ai (bn h3) (ai (df h2) (a3 (be h4) (ai (be h5) (ai ((df (Int.not_lt.2 wrapu_nonneg)) : decide ((IntKind.u64.wrap v1) < 0) = false) trivial)))))))))) (by kernel_rfl)) H
              · rw [if_neg h5] at h
                have H := ih a b c v0 (IntKind.i64.wrap (v1 + 1)) o h
                cases o with
                | brk z => exact lg_next (cg_of mix O_ 400 [t0, t0, t0, t0, f0, f0, f0, f0, f0, f0, f0, f0, (3, true), t0, (1, true), (1, false)] ([true, true, true, false, false, false, true, true, true], []) (ai (dt h0) (a3 (be h1) (a3 (df h2) (a2 (bn h3) (ai (df h2) (ai (bn h3) (ai (df h2) (a3 (be h4) (ai (bn h5) trivial))))))))) (by kernel_rfl)) H
                | ret r => exact lg_next (cg_of mix O_ 400 [t0, t0, t0, t0, f0, f0, f0, f0, f0, f0, f0, f0, (3, true), t0, (1, true), (1, false)] ([true, true, true, false, false, false, true, true, true], []) (ai (dt h0) (a3 (be h1) (a3 (df h2) (a2 (bn h3) (ai (df h2) (ai (bn h3) (ai (df h2) (a3 (be h4) (ai (bn h5) trivial))))))))) (by kernel_rfl)) H
            · rw [if_neg h4] at h
              have H := ih a b c v0 (IntKind.i64.wrap (v1 + 1)) o h
              cases o with
              | brk z => exact lg_next (cg_of mix O_ 400 [t0, t0, t0, t0, f0, f0, f0, f0, f0, f0, f0, f0, (3, false), f0, (1, false)] ([true, true, true, false, false, false, true, true, true], []) (ai (dt h0) (a3 (be h1) (a3 (df h2) (a2 (bn h3) (ai (df h2) (ai (bn h3) (ai (df h2) (a3 (bn h4) trivial)))))))) (by kernel_rfl)) H
              | ret r => exact lg_next (cg_of mix O_ 400 [t0, t0, t0, t0, f0, f0, f0, f0, f0, f0, f0, f0, (3, false), f0, (1, false)] ([true, true, true, false, false, false, true, true, true], []) (ai (dt h0) (a3 (be h1) (a3 (df h2) (a2 (bn h3) (ai (df h2) (ai (bn h3) (ai (df h2) (a3 (bn h4) trivial)))))))) (by kernel_rfl)) H
      · rw [if_neg h1] at h
        by_cases h2 : a = 5
        · rw [if_pos h2] at h
          by_cases h3 : (IntKind.u64.wrap ((lockgateref01_bit b v1) + (lockgateref01_bit c v1))) = 2
          · rw [if_pos h3] at h
            have H := ih a b c (Go.bits .or .u64 v0 (shl .u64 1 (IntKind.u64.wrap v1))) (IntKind.i64.wrap (v1 + 1)) o h
            cases o with
            | brk z => exact lg_next (cg_of mix O_ 400 [t0, f0, f0, f0, (3, true), t0, (1, true), (1, true), t0, t0, t0, t0, (1, false)] ([true, true, true, false, false, false, true, true, true], []) (ai (dt h0) (a3 (bn h1) (a3 (be h2) (a5 (be h3) (ai ((df (Int.not_lt.2 wrapu_nonneg)) : decide ((IntKind.u64.wrap v1) < 0) = false) trivial))))) (by kernel_rfl)) H
            | ret r => exact lg_next (cg_of mix O_ 400 [t0, f0, f0, f0, (3, true), t0, (1, true), (1, true), t0, t0, t0, t0, (1, false)] ([true, true, true, false, false, false, true, true, true], []) (ai (dt h0) (a3 (bn h1) (a3 (be h2) (a5 (be h3) (ai ((df (Int.not_lt.2 wrapu_nonneg)) : decide ((IntKind.u64.wrap v1) < 0) = false) trivial))))) (by kernel_rfl)) H
          · rw [if_neg h3] at h
            by_cases h4 : a = 10
            · rw [if_pos h4] at h
              by_cases h5 : (IntKind.u64.wrap ((lockgateref01_bit b v1) + (lockgateref01_bit c v1))) = 1
              · rw [if_pos h5] at h
                have H := ih a b c (Go.bits .or .u64 v0 (shl .u64 1 (IntKind.u64.wrap v1))) (IntKind.i64.wrap (v1 + 1)) o h
                cases o with
                | brk z => exact lg_next (cg_of mix O_ 400 [t0, f0, f0, f0, (3, true), t0, (1, true), (1, false), f0, f0, t0, t0, f0, t0, f0, t0, f0] ([true, true, true, false, false, false, true, true, true], []) (ai (dt h0) (a3 (bn h1) (a3 (be h2) (a3 (bn h3) (a2 (be h4) (ai (bn h3) (ai (be h4) (ai (bn h3) (ai (be h5) (ai ((df (Int.not_lt.2 wrapu_nonneg)) : decide ((IntKind.u64.wrap v1) < 0) = false) trivial)))))))))) (by kernel_rfl)) H
                | ret r => exact lg_next (cg_of mix O_ 400 [t0, f0, f0, f0, (3, true), t0, (1, true), (1, false), f0, f0, t0, t0, f0, t0, f0, t0, f0] ([true, true, true, false, false, false, true, true, true], []) (ai (dt h0) (a3 (bn h1) (a3 (be h2) (a3 (bn h3) (a2 (be h4) (ai (bn h3) (ai (be h4) (ai (bn h3) (ai (be h5) (ai ((df (Int.not_lt.2 wrapu_nonneg)) : decide ((IntKind.u64.wrap v1) < 0) = false) trivial)))))))))) (by kernel_rfl)) H
              · rw [if_neg h5] at h
                have H := ih a b c v0 (IntKind.i64.wrap (v1 + 1)) o h
                cases o with
                | brk z => exact lg_next (cg_of mix O_ 400 [t0, f0, f0, f0, (3, true), t0, (1, true), (1, false), f0, f0, t0, t0, f0, t0, f0, f0] ([true, true, true, false, false, false, true, true, true], []) (ai (dt h0) (a3 (bn h1) (a3 (be h2) (a3 (bn h3) (a2 (be h4) (ai (bn h3) (ai (be h4) (ai (bn h3) (ai (bn h5) trivial))))))))) (by kernel_rfl)) H
                | ret r => exact lg_next (cg_of mix O_ 400 [t0, f0, f0, f0, (3, true), t0, (1, true), (1, false), f0, f0, t0, t0, f0, t0, f0, f0] ([true, true, true, false, false, false, true, true, true], []) (ai (dt h0) (a3 (bn h1) (a3 (be h2) (a3 (bn h3) (a2 (be h4) (ai (bn h3) (ai (be h4) (ai (bn h3) (ai (bn h5) trivial))))))))) (by kernel_rfl)) H
            · rw [if_neg h4] at h
              have H := ih a b c v0 (IntKind.i64.wrap (v1 + 1)) o h
              cases o with
              | brk z => exact lg_next (cg_of mix O_ 400 [t0, f0, f0, f0, (3, true), t0, (1, true), (1, false), f0, f0, f0, f0, f0, f0, f0] ([true, true, true, false, false, false, true, true, true], []) (ai (dt h0) (a3 (bn h1) (a3 (be h2) (a3 (bn h3) (a2 (bn h4) (ai (bn h3) (ai (bn h4) (ai (bn h3) trivial)))))))) (by kernel_rfl)) H
              | ret r => exact lg_next (cg_of mix O_ 400 [t0, f0, f0, f0, (3, true), t0, (1, true), (1, false), f0, f0, f0, f0, f0, f0, f0] ([true, true, true, false, false, false, true, true, true], []) (ai (dt h0) (a3 (bn h1) (a3 (be h2) (a3 (bn h3) (a2 (bn h4) (ai (bn h3) (ai (bn h4) (ai (bn h3) trivial)))))))) (by kernel_rfl)) H
        · rw [if_neg h2] at h
          by_cases h3 : a = 10
          · rw [if_pos h3] at h
            by_cases h4 : (IntKind.u64.wrap ((lockgateref01_bit b v1) + (lockgateref01_bit c v1))) = 1
            · rw [if_pos h4] at h
              have H := ih a b c (Go.bits .or .u64 v0 (shl .u64 1 (IntKind.u64.wrap v1))) (IntKind.i64.wrap (v1 + 1)) o h
              cases o with
              | brk z => exact lg_next (cg_of mix O_ 400 [t0, f0, f0, f0, (3, false), f0, (1, false), (4, true), t0, (1, true), (1, true), f0] ([true, true, true, false, false, false, true, true, true], []) (ai (dt h0) (a3 (bn h1) (a3 (bn h2) (a3 (be h3) (ai (be h4) (ai ((df (Int.not_lt.2 wrapu_nonneg)) : decide ((IntKind.u64.wrap v1) < 0) = false) trivial)))))) (by kernel_rfl)) H
              | ret r => exact lg_next (cg_of mix O_ 400 [t0, f0, f0, f0, (3, false), f0, (1, false), (4, true), t0, (1, true), (1, true), f0] ([true, true, true, false, false, false, true, true, true], []) (ai (dt h0) (a3 (bn h1) (a3 (bn h2) (a3 (be h3) (ai (be h4) (ai ((df (Int.not_lt.2 wrapu_nonneg)) : decide ((IntKind.u64.wrap v1) < 0) = false) trivial)))))) (by kernel_rfl)) H
            · rw [if_neg h4] at h
              have H := ih a b c v0 (IntKind.i64.wrap (v1 + 1)) o h
              cases o with
              | brk z => exact lg_next (cg_of mix O_ 400 [t0, f0, f0, f0, (3, false), f0, (1, false), (4, true), t0, (1, true), (1, false)] ([true, true, true, false, false, false, true, true, true], []) (ai (dt h0) (a3 (bn h1) (a3 (bn h2) (a3 (be h3) (ai (bn h4) trivial))))) (by kernel_rfl)) H
              | ret r => exact lg_next (cg_of mix O_ 400 [t0, f0, f0, f0, (3, false), f0, (1, false), (4, true), t0, (1, true), (1, false)] ([true, true, true, false, false, false, true, true, true], []) (ai (dt h0) (a3 (bn h1) (a3 (bn h2) (a3 (be h3) (ai (bn h4) trivial))))) (by kernel_rfl)) H
          · rw [if_neg h3] at h
            have H := ih a b c v0 (IntKind.i64.wrap (v1 + 1)) o h
            cases o with
            | brk z => exact lg_next (cg_of mix O_ 400 [t0, f0, f0, f0, (3, false), f0, (1, false), (4, false), f0, (1, false)] ([true, true, true, false, false, false, true, true, true], []) (ai (dt h0) (a3 (bn h1) (a3 (bn h2) (a3 (bn h3) trivial)))) (by kernel_rfl)) H
            | ret r => exact lg_next (cg_of mix O_ 400 [t0, f0, f0, f0, (3, false), f0, (1, false), (4, false), f0, (1, false)] ([true, true, true, false, false, false, true, true, true], []) (ai (dt h0) (a3 (bn h1) (a3 (bn h2) (a3 (bn h3) trivial)))) (by kernel_rfl)) H
    · rw [if_neg h0] at h
      cases h
      exact lg_exit (cg_of mix O_ 400 [f0] ([true, true, true, false, false, false, true, true, true], []) (ai (df h0) trivial) (by kernel_rfl))
theorem K_lockgateref01_bits : Keeps Tryz.prog 120 (F3 (cI .i64) (cI .u64) (cI .u64) (cI .u64) (fun _ _ _ => []) lockgateref01_bits) := by
  refine keeps3 _ _ _ _ (enters_of Tryz.func120 (by kernel_rfl)) fun a b c hp_ => ?_
  unfold lockgateref01_bits
  cases hL : lockgateref01_bits_L a b c 65 0 0 with
  | none => exact absurd hL (T_lockgateref01_bits a b c)
  | some o =>
    have H := L_lockgateref01_bits 65 a b c 0 0 o hL
    cases o with
    | ret r => exact gives_cg (s' := lockgateref01_bits_F r) Tryz.func120 rfl rfl (cg_seq (s1 := ⟨[.int .i64 a, .int .u64 b, .int .u64 c, .tup [], .tup [], .tup [], .int .u64 0, .tup [], .tup [], .tup [], .tup [], .tup [], .tup [], .tup [], .tup [], .tup [], .tup [], .tup [], .tup [], .tup [], .tup [], .tup [], .tup [], .tup [], .tup [], .tup [], .tup [], .tup [], .tup [], .tup [], .tup [], .tup [], .tup [], .tup [], .tup [], .tup [], .tup [], .tup [], .tup [], .tup [], .tup [], .tup [], .tup [], .tup [], .tup [], .tup [], .tup [], .tup [], .tup []], []⟩) (cg_of mix on_ 400 [] ([true, true, true, true, true, true, true, true, true, true, true, true, true, true, true, true, true, true, true, true, true, true, true, true, true, true, true, true, true, true, true, true, true, true, true, true, true, true, true, true, true, true, true, true, true, true, true, true, true], []) trivial (by kernel_rfl)) (cg_seq (s1 := ⟨[.int .i64 a, .int .u64 b, .int .u64 c, .tup [], .tup [], .tup [], .int .u64 0, .int .u64 0, .tup [], .tup [], .tup [], .tup [], .tup [], .tup [], .tup [], .tup [], .tup [], .tup [], .tup [], .tup [], .tup [], .tup [], .tup [], .tup [], .tup [], .tup [], .tup [], .tup [], .tup [], .tup [], .tup [], .tup [], .tup [], .tup [], .tup [], .tup [], .tup [], .tup [], .tup [], .tup [], .tup [], .tup [], .tup [], .tup [], .tup [], .tup [], .tup [], .tup [], .tup []], []⟩) (cg_of mix on_ 400 [] ([true, true, true, true, true, true, true, true, true, true, true, true, true, true, true, true, true, true, true, true, true, true, true, true, true, true, true, true, true, true, true, true, true, true, true, true, true, true, true, true, true, true, true, true, true, true, true, true, true], []) trivial (by kernel_rfl)) (cg_seq_ret (cg_seq (cg_of mix on_ 400 [] ([true, true, true, false, false, false, true, true, true], []) trivial (by kernel_rfl)) (cg_block_ret (cg_loop H)))))) rfl (by kernel_rfl)
    | brk z =>
      exact gives_cg (s' := lockgateref01_bits_F z.1) Tryz.func120 rfl rfl (cg_seq (s1 := ⟨[.int .i64 a, .int .u64 b, .int .u64 c, .tup [], .tup [], .tup [], .int .u64 0, .tup [], .tup [], .tup [], .tup [], .tup [], .tup [], .tup [], .tup [], .tup [], .tup [], .tup [], .tup [], .tup [], .tup [], .tup [], .tup [], .tup [], .tup [], .tup [], .tup [], .tup [], .tup [], .tup [], .tup [], .tup [], .tup [], .tup [], .tup [], .tup [], .tup [], .tup [], .tup [], .tup [], .tup [], .tup [], .tup [], .tup [], .tup [], .tup [], .tup [], .tup [], .tup []], []⟩) (cg_of mix on_ 400 [] ([true, true, true, true, true, true, true, true, true, true, true, true, true, true, true, true, true, true, true, true, true, true, true, true, true, true, true, true, true, true, true, true, true, true, true, true, true, true, true, true, true, true, true, true, true, true, true, true, true], []) trivial (by kernel_rfl)) (cg_seq (s1 := ⟨[.int .i64 a, .int .u64 b, .int .u64 c, .tup [], .tup [], .tup [], .int .u64 0, .int .u64 0, .tup [], .tup [], .tup [], .tup [], .tup [], .tup [], .tup [], .tup [], .tup [], .tup [], .tup [], .tup [], .tup [], .tup [], .tup [], .tup [], .tup [], .tup [], .tup [], .tup [], .tup [], .tup [], .tup [], .tup [], .tup [], .tup [], .tup [], .tup [], .tup [], .tup [], .tup [], .tup [], .tup [], .tup [], .tup [], .tup [], .tup [], .tup [], .tup [], .tup [], .tup []], []⟩) (cg_of mix on_ 400 [] ([true, true, true, true, true, true, true, true, true, true, true, true, true, true, true, true, true, true, true, true, true, true, true, true, true, true, true, true, true, true, true, true, true, true, true, true, true, true, true, true, true, true, true, true, true, true, true, true, true], []) trivial (by kernel_rfl)) (cg_seq (cg_seq (cg_of mix on_ 400 [] ([true, true, true, false, false, false, true, true, true], []) trivial (by kernel_rfl)) (cg_block (cg_loop H))) (cg_of mix on_ 400 [] ([false, false, false, false, false, false, true], []) trivial (by kernel_rfl))))) rfl (by kernel_rfl)
theorem L_lockgateref01_down : ∀ (n : Nat) (a : Int) (b : Int) (c : Int) (d : Int) (v0 : Int) (v1 : Int) (o : Out (Int × Int) Int), lockgateref01_down_L a b c d n v0 v1 = some o → (match o with
  | .brk z => LG Tryz.prog (inn (inn (snd (fst (snd (snd (bodyOf Tryz.f121))))))) n (lockgateref01_down_I a b c d v0 v1) (.exit 0) (lockgateref01_down_I a b c d z.1 z.2)
  | .ret r => LG Tryz.prog (inn (inn (snd (fst (snd (snd (bodyOf Tryz.f121))))))) n (lockgateref01_down_I a b c d v0 v1) .ret (lockgateref01_down_F r)) := by
  intro n
  have O_ := (orc_cons K_lockgateref01_bit on_)
  induction n with
  | zero => intro a b c d v0 v1 o h; simp only [lockgateref01_down_L] at h; cases h
  | succ n ih =>
    intro a b c d v0 v1 o h
    rw [lockgateref01_down_L] at h
    by_cases h0 : v1 < c
    · rw [if_pos h0] at h
      by_cases h1 : (IntKind.i64.wrap (v1 + b)) < c
      · rw [if_pos h1] at h
        have H := ih a b c d (Go.bits .or .u64 v0 (shl .u64 (lockgateref01_bit a (IntKind.i64.wrap (v1 + b))) (IntKind.u64.wrap v1))) (IntKind.i64.wrap (v1 + 1)) o h
        cases o with
        | brk z => exact lg_next (cg_of mix O_ 400 [t0, t0, f0] ([true, true, true, true, false, false, false, false, true, true, true], []) (ai (dt h0) (ai (dt h1) (ai ((df (Int.not_lt.2 wrapu_nonneg)) : decide ((IntKind.u64.wrap v1) < 0) = false) trivial))) (by kernel_rfl)) H
        | ret r => exact lg_next (cg_of mix O_ 400 [t0, t0, f0] ([true, true, true, true, false, false, false, false, true, true, true], []) (ai (dt h0) (ai (dt h1) (ai ((df (Int.not_lt.2 wrapu_nonneg)) : decide ((IntKind.u64.wrap v1) < 0) = false) trivial))) (by kernel_rfl)) H
      · rw [if_neg h1] at h
        have H := ih a b c d (Go.bits .or .u64 v0 (shl .u64 d (IntKind.u64.wrap v1))) (IntKind.i64.wrap (v1 + 1)) o h
        cases o with
        | brk z => exact lg_next (cg_of mix O_ 400 [t0, f0, f0] ([true, true, true, true, false, false, false, false, true, true, true], []) (ai (dt h0) (ai (df h1) (ai ((df (Int.not_lt.2 wrapu_nonneg)) : decide ((IntKind.u64.wrap v1) < 0) = false) trivial))) (by kernel_rfl)) H
        | ret r => exact lg_next (cg_of mix O_ 400 [t0, f0, f0] ([true, true, true, true, false, false, false, false, true, true, true], []) (ai (dt h0) (ai (df h1) (ai ((df (Int.not_lt.2 wrapu_nonneg)) : decide ((IntKind.u64.wrap v1) < 0) = false) trivial))) (by kernel_rfl)) H
    · rw [if_neg h0] at h
      cases h
      exact lg_exit (cg_of mix O_ 400 [f0] ([true, true, true, true, false, false, false, false, true, true, true], []) (ai (df h0) trivial) (by kernel_rfl))
theorem K_lockgateref01_down : Keeps Tryz.prog 121 (F4 (cI .u64) (cI .i64) (cI .i64) (cI .u64) (cI .u64) (fun _ _ c _ => [(decide (c ≤ 64), true)]) lockgateref01_down) := by
  refine keeps4 _ _ _ _ _ (enters_of Tryz.func121 (by kernel_rfl)) fun a b c d hp_ => ?_
  have p0 := of_decide_eq_true hp_.1
  unfold lockgateref01_down
  cases hL : lockgateref01_down_L a b c d 65 0 0 with
  | none => exact absurd hL (T_lockgateref01_down a b c d p0)
  | some o =>
    have H := L_lockgateref01_down 65 a b c d 0 0 o hL
    cases o with
    | ret r => exact gives_cg (s' := lockgateref01_down_F r) Tryz.func121 rfl rfl (cg_seq (s1 := ⟨[.int .u64 a, .int .i64 b, .int .i64 c, .int .u64 d, .tup [], .tup [], .tup [], .tup [], .int .u64 0, .tup [], .tup [], .tup [], .tup [], .tup [], .tup [], .tup [], .tup [], .tup [], .tup [], .tup [], .tup [], .tup [], .tup [], .tup [], .tup [], .tup [], .tup [], .tup [], .tup [], .tup [], .tup [], .tup [], .tup [], .tup [], .tup []], []⟩) (cg_of mix on_ 400 [] ([true, true, true, true, true, true, true, true, true, true, true, true, true, true, true, true, true, true, true, true, true, true, true, true, true, true, true, true, true, true, true, true, true, true, true], []) trivial (by kernel_rfl)) (cg_seq (s1 := ⟨[.int .u64 a, .int .i64 b, .int .i64 c, .int .u64 d, .tup [], .tup [], .tup [], .tup [], .int .u64 0, .int .u64 0, .tup [], .tup [], .tup [], .tup [], .tup [], .tup [], .tup [], .tup [], .tup [], .tup [], .tup [], .tup [], .tup [], .tup [], .tup [], .tup [], .tup [], .tup [], .tup [], .tup [], .tup [], .tup [], .tup [], .tup [], .tup []], []⟩) (cg_of mix on_ 400 [] ([true, true, true, true, true, true, true, true, true, true, true, true, true, true, true, true, true, true, true, true, true, true, true, true, true, true, true, true, true, true, true, true, true, true, true], []) trivial (by kernel_rfl)) (cg_seq_ret (cg_seq (cg_of mix on_ 400 [] ([true, true, true, true, false, false, false, false, true, true, true], []) trivial (by kernel_rfl)) (cg_block_ret (cg_loop H)))))) rfl (by kernel_rfl)
    | brk z =>
      exact gives_cg (s' := lockgateref01_down_F z.1) Tryz.func121 rfl rfl (cg_seq (s1 := ⟨[.int .u64 a, .int .i64 b, .int .i64 c, .int .u64 d, .tup [], .tup [], .tup [], .tup [], .int .u64 0, .tup [], .tup [], .tup [], .tup [], .tup [], .tup [], .tup [], .tup [], .tup [], .tup [], .tup [], .tup [], .tup [], .tup [], .tup [], .tup [], .tup [], .tup [], .tup [], .tup [], .tup [], .tup [], .tup [], .tup [], .tup [], .tup []], []⟩) (cg_of mix on_ 400 [] ([true, true, true, true, true, true, true, true, true, true, true, true, true, true, true, true, true, true, true, true, true, true, true, true, true, true, true, true, true, true, true, true, true, true, true], []) trivial (by kernel_rfl)) (cg_seq (s1 := ⟨[.int .u64 a, .int .i64 b, .int .i64 c, .int .u64 d, .tup [], .tup [], .tup [], .tup [], .int .u64 0, .int .u64 0, .tup [], .tup [], .tup [], .tup [], .tup [], .tup [], .tup [], .tup [], .tup [], .tup [], .tup [], .tup [], .tup [], .tup [], .tup [], .tup [], .tup [], .tup [], .tup [], .tup [], .tup [], .tup [], .tup [], .tup [], .tup []], []⟩) (cg_of mix on_ 400 [] ([true, true, true, true, true, true, true, true, true, true, true, true, true, true, true, true, true, true, true, true, true, true, true, true, true, true, true, true, true, true, true, true, true, true, true], []) trivial (by kernel_rfl)) (cg_seq (cg_seq (cg_of mix on_ 400 [] ([true, true, true, true, false, false, false, false, true, true, true], []) trivial (by kernel_rfl)) (cg_block (cg_loop H))) (cg_of mix on_ 400 [] ([false, false, false, false, false, false, false, false, true], []) trivial (by kernel_rfl))))) rfl (by kernel_rfl)
theorem L_lockgateref01_order : ∀ (n : Nat) (a : Int) (b : Int) (c : Int) (d : Bool) (v0 : Int) (o : Out (Int) Int), lockgateref01_order_L a b c d n v0 = some o → (match o with
  | .brk z => LG Tryz.prog (inn (inn (snd (fst (snd (bodyOf Tryz.f153)))))) n (lockgateref01_order_I a b c d v0) (.exit 0) (lockgateref01_order_I a b c d z)
  | .ret r => LG Tryz.prog (inn (inn (snd (fst (snd (bodyOf Tryz.f153)))))) n (lockgateref01_order_I a b c d v0) .ret (lockgateref01_order_F r)) := by
  intro n
  have O_ := (orc_cons K_lockgateref01_bit on_)
  induction n with
  | zero => intro a b c d v0 o h; simp only [lockgateref01_order_L] at h; cases h
  | succ n ih =>
    intro a b c d v0 o h
    rw [lockgateref01_order_L] at h
    by_cases h0 : 0 ≤ v0
    · rw [if_pos h0] at h
      by_cases h1 : (lockgateref01_bit a v0) = (lockgateref01_bit b v0)
      · rw [if_pos h1] at h
        have H := ih a b c d (IntKind.i64.wrap (v0 - 1)) o h
        cases o with
        | brk z => exact lg_next (cg_of mix O_ 400 [t0, t0] ([true, true, true, true, false, false, false, false, true, true, false, false, false, true, true], []) (ai (dt h0) (ai (be h1) trivial)) (by kernel_rfl)) H
        | ret r => exact lg_next (cg_of mix O_ 400 [t0, t0] ([true, true, true, true, false, false, false, false, true, true, false, false, false, true, true], []) (ai (dt h0) (ai (be h1) trivial)) (by kernel_rfl)) H
      · rw [if_neg h1] at h
        by_cases h2 : d = true
        · rw [if_pos h2] at h
          by_cases h3 : v0 = (IntKind.i64.wrap (c - 1))
          · rw [if_pos h3] at h
            by_cases h4 : (lockgateref01_bit b v0) < (lockgateref01_bit a v0)
            · rw [if_pos h4] at h
              cases h
              exact lg_ret (cg_of mix O_ 400 [t0, f0, t0, t0, t0, t0, t0, t0, f0] ([false, false, false, false, false, false, false, false, true], []) (ai (dt h0) (ai (bn h1) (a5 h2 (ai (be h3) (ai (cn (dt h4)) trivial))))) (by kernel_rfl))
            · rw [if_neg h4] at h
              cases h
              exact lg_ret (cg_of mix O_ 400 [t0, f0, t0, t0, t0, t0, t0, t0, t0] ([false, false, false, false, false, false, false, false, true], []) (ai (dt h0) (ai (bn h1) (a5 h2 (ai (be h3) (ai (cn (df h4)) trivial))))) (by kernel_rfl))
          · rw [if_neg h3] at h
            by_cases h4 : (lockgateref01_bit b v0) < (lockgateref01_bit a v0)
            · rw [if_pos h4] at h
              cases h
              exact lg_ret (cg_of mix O_ 400 [t0, f0, t0, t0, t0, t0, t0, f0, t0] ([false, false, false, false, false, false, false, false, true], []) (ai (dt h0) (ai (bn h1) (a5 h2 (ai (bn h3) (ai (dt h4) trivial))))) (by kernel_rfl))
            · rw [if_neg h4] at h
              cases h
              exact lg_ret (cg_of mix O_ 400 [t0, f0, t0, t0, t0, t0, t0, f0, f0] ([false, false, false, false, false, false, false, false, true], []) (ai (dt h0) (ai (bn h1) (a5 h2 (ai (bn h3) (ai (df h4) trivial))))) (by kernel_rfl))
        · rw [if_neg h2] at h
          by_cases h3 : (lockgateref01_bit b v0) < (lockgateref01_bit a v0)
          · rw [if_pos h3] at h
            cases h
            exact lg_ret (cg_of mix O_ 400 [t0, f0, f0, f0, f0, f0, f0, (1, true)] ([false, false, false, false, false, false, false, false, true], []) (ai (dt h0) (ai (bn h1) (a5 (bf h2) (ai (dt h3) trivial)))) (by kernel_rfl))
          · rw [if_neg h3] at h
            cases h
            exact lg_ret (cg_of mix O_ 400 [t0, f0, f0, f0, f0, f0, f0, (1, false)] ([false, false, false, false, false, false, false, false, true], []) (ai (dt h0) (ai (bn h1) (a5 (bf h2) (ai (df h3) trivial)))) (by kernel_rfl))
    · rw [if_neg h0] at h
      cases h
      exact lg_exit (cg_of mix O_ 400 [f0] ([true, true, true, true, false, false, false, false, true, true, false, false, false, true, true], []) (ai (df h0) trivial) (by kernel_rfl))
theorem K_lockgateref01_order : Keeps Tryz.prog 153 (F4 (cI .u64) (cI .u64) (cI .i64) cB (cI .i64) (fun _ _ c _ => [(decide (0 ≤ c ∧ c ≤ 64), true)]) lockgateref01_order) := by
  refine keeps4 _ _ _ _ _ (enters_of Tryz.func153 (by kernel_rfl)) fun a b c d hp_ => ?_
  have p0 := of_decide_eq_true hp_.1
  unfold lockgateref01_order
  cases hL : lockgateref01_order_L a b c d 65 (IntKind.i64.wrap (c - 1)) with
  | none => exact absurd hL (T_lockgateref01_order a b c d p0)
  | some o =>
    have H := L_lockgateref01_order 65 a b c d (IntKind.i64.wrap (c - 1)) o hL
    cases o with
    | ret r => exact gives_cg (s' := lockgateref01_order_F r) Tryz.func153 rfl rfl (cg_seq (s1 := ⟨[.int .u64 a, .int .u64 b, .int .i64 c, .bool d, .tup [], .tup [], .tup [], .tup [], .int .i64 0, .tup [], .tup [], .tup [], .tup [], .tup [], .tup [], .tup [], .tup [], .tup [], .tup [], .tup [], .tup [], .tup [], .tup [], .tup [], .tup [], .tup [], .tup [], .tup [], .tup [], .tup [], .tup [], .tup [], .tup [], .tup [], .tup [], .tup [], .tup [], .tup [], .tup [], .tup [], .tup []], []⟩) (cg_of mix on_ 400 [] ([true, true, true, true, true, true, true, true, true, true, true, true, true, true, true, true, true, true, true, true, true, true, true, true, true, true, true, true, true, true, true, true, true, true, true, true, true, true, true, true, true], []) trivial (by kernel_rfl)) (cg_seq_ret (cg_seq (cg_of mix on_ 400 [] ([true, true, true, true, false, false, false, false, true, true, false, false, false, true, true], []) trivial (by kernel_rfl)) (cg_block_ret (cg_loop H))))) rfl (by kernel_rfl)
    | brk z =>
      exact gives_cg (s' := lockgateref01_order_F 0) Tryz.func153 rfl rfl (cg_seq (s1 := ⟨[.int .u64 a, .int .u64 b, .int .i64 c, .bool d, .tup [], .tup [], .tup [], .tup [], .int .i64 0, .tup [], .tup [], .tup [], .tup [], .tup [], .tup [], .tup [], .tup [], .tup [], .tup [], .tup [], .tup [], .tup [], .tup [], .tup [], .tup [], .tup [], .tup [], .tup [], .tup [], .tup [], .tup [], .tup [], .tup [], .tup [], .tup [], .tup [], .tup [], .tup [], .tup [], .tup [], .tup []], []⟩) (cg_of mix on_ 400 [] ([true, true, true, true, true, true, true, true, true, true, true, true, true, true, true, true, true, true, true, true, true, true, true, true, true, true, true, true, true, true, true, true, true, true, true, true, true, true, true, true, true], []) trivial (by kernel_rfl)) (cg_seq (cg_seq (cg_of mix on_ 400 [] ([true, true, true, true, false, false, false, false, true, true, false, false, false, true, true], []) trivial (by kernel_rfl)) (cg_block (cg_loop H))) (cg_of mix on_ 400 [] ([false, false, false, false, false, false, false, false, true], []) trivial (by kernel_rfl)))) rfl (by kernel_rfl)
theorem L_lockgateref03_Within : ∀ (n : Nat) (a : Tn) (b : Tn) (v0 : Int) (q0 : 0 ≤ v0) (o : Out (Int) Bool), lockgateref03_Within_L a b n v0 = some o → (match o with
  | .brk z => (0 ≤ z) ∧ LG Tryz.prog (inn (inn (snd (fst (snd (bodyOf Tryz.f79)))))) n (lockgateref03_Within_I a b v0) (.exit 0) (lockgateref03_Within_I a b z)
  | .ret r => LG Tryz.prog (inn (inn (snd (fst (snd (bodyOf Tryz.f79)))))) n (lockgateref03_Within_I a b v0) .ret (lockgateref03_Within_F r)) := by
  intro n
  have O_ := on_
  induction n with
  | zero => intro a b v0 q0 o h; simp only [lockgateref03_Within_L] at h; cases h
  | succ n ih =>
    intro a b v0 q0 o h
    rw [lockgateref03_Within_L] at h
    by_cases h0 : v0 < 64
    · rw [if_pos h0] at h
      by_cases h1 : (Int.tmod (shr .u64 b.m v0) 2) = 0
      · rw [if_pos h1] at h
        by_cases h2 : (Int.tmod (shr .u64 a.m v0) 2) = 1
        · rw [if_pos h2] at h
          cases h
          exact lg_ret (cg_of mix O_ 400 [t0, f0, (1, true), t0, t0, t0, f0, t0, (1, true), t0, t0, t0, t0, t0, t0, t0, t0, t0, t0, t0, t0, t0, t0, t0] ([false, false, false, false, true], [false, false]) (ai (dt h0) (ai ((df (Int.not_lt.2 (by assumption))) : decide (v0 < 0) = false) (a4 (be h1) (ai ((df (Int.not_lt.2 (by assumption))) : decide (v0 < 0) = false) (a3 (be h1) (a2 (be h2) (a9 (be h2) (ai (be h1) (ai (be h2) (ai (be h1) trivial)))))))))) (by kernel_rfl))
        · rw [if_neg h2] at h
          by_cases h3 : (Int.tmod (shr .u64 a.v v0) 2) = (Int.tmod (shr .u64 b.v v0) 2)
          · rw [if_pos h3] at h
            have H := ih a b (IntKind.u64.wrap (v0 + 1)) (by exact wrapu_nonneg) o h
            cases o with
            | brk z => exact ⟨H.1, lg_next (cg_of mix O_ 400 [t0, f0, (1, true), t0, t0, t0, f0, t0, (1, true), t0, f0, f0, f0, f0, f0, f0, (1, false), f0, f0, f0, f0, f0, (1, false), t0, f0, t0, f0] ([true, true, true, true, true, true], [true, true]) (ai (dt h0) (ai ((df (Int.not_lt.2 (by assumption))) : decide (v0 < 0) = false) (a4 (be h1) (ai ((df (Int.not_lt.2 (by assumption))) : decide (v0 < 0) = false) (a3 (be h1) (a4 (bn h2) (ai ((df (Int.not_lt.2 (by assumption))) : decide (v0 < 0) = false) (a5 (bn h2) (ai ((df (Int.not_lt.2 (by assumption))) : decide (v0 < 0) = false) (a2 (bn h2) (ai (be h1) (ai (bn h2) (ai (be h1) (ai (bne_eq_false_iff_eq.2 h3) trivial)))))))))))))) (by kernel_rfl)) H.2⟩
            | ret r => exact lg_next (cg_of mix O_ 400 [t0, f0, (1, true), t0, t0, t0, f0, t0, (1, true), t0, f0, f0, f0, f0, f0, f0, (1, false), f0, f0, f0, f0, f0, (1, false), t0, f0, t0, f0] ([true, true, true, true, true, true], [true, true]) (ai (dt h0) (ai ((df (Int.not_lt.2 (by assumption))) : decide (v0 < 0) = false) (a4 (be h1) (ai ((df (Int.not_lt.2 (by assumption))) : decide (v0 < 0) = false) (a3 (be h1) (a4 (bn h2) (ai ((df (Int.not_lt.2 (by assumption))) : decide (v0 < 0) = false) (a5 (bn h2) (ai ((df (Int.not_lt.2 (by assumption))) : decide (v0 < 0) = false) (a2 (bn h2) (ai (be h1) (ai (bn h2) (ai (be h1) (ai (bne_eq_false_iff_eq.2 h3) trivial)))))))))))))) (by kernel_rfl)) H
          · rw [if_neg h3] at h
            cases h
            exact lg_ret (cg_of mix O_ 400 [t0, f0, (1, true), t0, t0, t0, f0, t0, (1, true), t0, f0, f0, f0, f0, f0, f0, (1, false), f0, f0, f0, f0, f0, (1, false), t0, f0, t0, t0] ([false, false, false, false, true], [false, false]) (ai (dt h0) (ai ((df (Int.not_lt.2 (by assumption))) : decide (v0 < 0) = false) (a4 (be h1) (ai ((df (Int.not_lt.2 (by assumption))) : decide (v0 < 0) = false) (a3 (be h1) (a4 (bn h2) (ai ((df (Int.not_lt.2 (by assumption))) : decide (v0 < 0) = false) (a5 (bn h2) (ai ((df (Int.not_lt.2 (by assumption))) : decide (v0 < 0) = false) (a2 (bn h2) (ai (be h1) (ai (bn h2) (ai (be h1) (ai (bne_iff_ne.2 h3) trivial)))))))))))))) (by kernel_rfl))
      · rw [if_neg h1] at h
        have H := ih a b (IntKind.u64.wrap (v0 + 1)) (by exact wrapu_nonneg) o h
        cases o with
        | brk z => exact ⟨H.1, lg_next (cg_of mix O_ 400 [t0, f0, (1, false), f0, f0, f0, f0, f0, f0, f0, f0] ([true, true, true, true, true, true], [true, true]) (ai (dt h0) (ai ((df (Int.not_lt.2 (by assumption))) : decide (v0 < 0) = false) (a9 (bn h1) trivial))) (by kernel_rfl)) H.2⟩
        | ret r => exact lg_next (cg_of mix O_ 400 [t0, f0, (1, false), f0, f0, f0, f0, f0, f0, f0, f0] ([true, true, true, true, true, true], [true, true]) (ai (dt h0) (ai ((df (Int.not_lt.2 (by assumption))) : decide (v0 < 0) = false) (a9 (bn h1) trivial))) (by kernel_rfl)) H
    · rw [if_neg h0] at h
      cases h
      exact ⟨(by first | assumption | (exact wrapu_nonneg)), lg_exit (cg_of mix O_ 400 [f0] ([true, true, true, true, true, true], [true, true]) (ai (df h0) trivial) (by kernel_rfl))⟩
theorem K_lockgateref03_Within : Keeps Tryz.prog 79 (F2 cTn cTn cB (fun _ _ => []) lockgateref03_Within) := by
  refine keeps2 _ _ _ (enters_of Tryz.func79 (by kernel_rfl)) fun a b hp_ => ?_
  unfold lockgateref03_Within
  cases hL : lockgateref03_Within_L a b 65 0 with
  | none => exact absurd hL (T_lockgateref03_Within a b)
  | some o =>
    have H := L_lockgateref03_Within 65 a b 0 (by decide) o hL
    cases o with
    | ret r => exact gives_cg (s' := lockgateref03_Within_F r) Tryz.func79 rfl rfl (cg_seq (s1 := ⟨[.agg [.int .u64 a.v, .int .u64 a.m], .agg [.int .u64 b.v, .int .u64 b.m], .ptr 0 0, .ptr 1 0, .bool false, .tup [], .tup [], .tup [], .tup [], .tup [], .tup [], .tup [], .tup [], .tup [], .tup [], .tup [], .tup [], .tup [], .tup [], .tup [], .tup [], .tup [], .tup [], .tup [], .tup [], .tup [], .tup [], .tup [], .tup [], .tup [], .tup [], .tup [], .tup [], .tup [], .tup [], .tup [], .tup []], [.cells [.int .u64 a.v, .int .u64 a.m], .cells [.int .u64 b.v, .int .u64 b.m]]⟩) (cg_of mix on_ 400 [] ([true, true, true, true, true, true, true, true, true, true, true, true, true, true, true, true, true, true, true, true, true, true, true, true, true, true, true, true, true, true, true, true, true, true, true, true, true], []) trivial (by kernel_rfl)) (cg_seq_ret (cg_seq (cg_of mix on_ 400 [] ([true, true, true, true, true, true], [true, true]) trivial (by kernel_rfl)) (cg_block_ret (cg_loop H))))) rfl (by kernel_rfl)
    | brk z =>
      obtain ⟨e0, H⟩ := H
      exact gives_cg (s' := lockgateref03_Within_F true) Tryz.func79 rfl rfl (cg_seq (s1 := ⟨[.agg [.int .u64 a.v, .int .u64 a.m], .agg [.int .u64 b.v, .int .u64 b.m], .ptr 0 0, .ptr 1 0, .bool false, .tup [], .tup [], .tup [], .tup [], .tup [], .tup [], .tup [], .tup [], .tup [], .tup [], .tup [], .tup [], .tup [], .tup [], .tup [], .tup [], .tup [], .tup [], .tup [], .tup [], .tup [], .tup [], .tup [], .tup [], .tup [], .tup [], .tup [], .tup [], .tup [], .tup [], .tup [], .tup []], [.cells [.int .u64 a.v, .int .u64 a.m], .cells [.int .u64 b.v, .int .u64 b.m]]⟩) (cg_of mix on_ 400 [] ([true, true, true, true, true, true, true, true, true, true, true, true, true, true, true, true, true, true, true, true, true, true, true, true, true, true, true, true, true, true, true, true, true, true, true, true, true], []) trivial (by kernel_rfl)) (cg_seq (cg_seq (cg_of mix on_ 400 [] ([true, true, true, true, true, true], [true, true]) trivial (by kernel_rfl)) (cg_block (cg_loop H))) (cg_of mix on_ 400 [] ([false, false, false, false, true], [false, false]) trivial (by kernel_rfl)))) rfl (by kernel_rfl)
theorem L_lockgateref03_Join : ∀ (n : Nat) (a : Tn) (b : Tn) (v0 : Int) (v1 : Int) (v2 : Int) (q0 : 0 ≤ v0) (o : Out (Int × Int × Int) Tn), lockgateref03_Join_L a b n v0 v1 v2 = some o → (match o with
  | .brk z => (0 ≤ z.1) ∧ LG Tryz.prog (inn (inn (snd (fst (snd (snd (bodyOf Tryz.f85))))))) n (lockgateref03_Join_I a b v0 v1 v2) (.exit 0) (lockgateref03_Join_I a b z.1 z.2.1 z.2.2)
  | .ret r => LG Tryz.prog (inn (inn (snd (fst (snd (snd (bodyOf Tryz.f85))))))) n (lockgateref03_Join_I a b v0 v1 v2) .ret (lockgateref03_Join_F r)) := by
  intro n
  have O_ := on_
  induction n with
  | zero => intro a b v0 v1 v2 q0 o h; simp only [lockgateref03_Join_L] at h; cases h
  | succ n ih =>
    intro a b v0 v1 v2 q0 o h
    rw [lockgateref03_Join_L] at h
    by_cases h0 : v0 < 64
    · rw [if_pos h0] at h
      by_cases h1 : (Int.tmod (shr .u64 a.m v0) 2) = 1
      · rw [if_pos h1] at h
        have H := ih a b (IntKind.u64.wrap (v0 + 1)) v1 (Go.bits .or .u64 v2 (shl .u64 1 v0)) (by exact wrapu_nonneg) o h
        cases o with
        | brk z => exact ⟨H.1, lg_next (cg_of mix O_ 400 [t0, f0, (1, true), t0, t0, t0, t0, t0, t0, (13, false)] ([true, true, true, true, true, true, true], [true, true, true, true]) (ai (dt h0) (ai ((df (Int.not_lt.2 (by assumption))) : decide (v0 < 0) = false) (a7 (be h1) (ai ((df (Int.not_lt.2 (by assumption))) : decide (v0 < 0) = false) trivial)))) (by kernel_rfl)) H.2⟩
        | ret r => exact lg_next (cg_of mix O_ 400 [t0, f0, (1, true), t0, t0, t0, t0, t0, t0, (13, false)] ([true, true, true, true, true, true, true], [true, true, true, true]) (ai (dt h0) (ai ((df (Int.not_lt.2 (by assumption))) : decide (v0 < 0) = false) (a7 (be h1) (ai ((df (Int.not_lt.2 (by assumption))) : decide (v0 < 0) = false) trivial)))) (by kernel_rfl)) H
      · rw [if_neg h1] at h
        by_cases h2 : (Int.tmod (shr .u64 b.m v0) 2) = 1
        · rw [if_pos h2] at h
          have H := ih a b (IntKind.u64.wrap (v0 + 1)) v1 (Go.bits .or .u64 v2 (shl .u64 1 v0)) (by exact wrapu_nonneg) o h
          cases o with
          | brk z => exact ⟨H.1, lg_next (cg_of mix O_ 400 [t0, f0, (1, false), f0, f0, f0, f0, f0, (1, false), f0, t0, t0, t0, t0, t0, t0, t0, t0, t0, t0, t0, t0, (1, false)] ([true, true, true, true, true, true, true], [true, true, true, true]) (ai (dt h0) (ai ((df (Int.not_lt.2 (by assumption))) : decide (v0 < 0) = false) (a4 (bn h1) (ai ((df (Int.not_lt.2 (by assumption))) : decide (v0 < 0) = false) (a3 (bn h1) (a3 (be h2) (a9 (be h2) (ai ((df (Int.not_lt.2 (by assumption))) : decide (v0 < 0) = false) trivial)))))))) (by kernel_rfl)) H.2⟩
          | ret r => exact lg_next (cg_of mix O_ 400 [t0, f0, (1, false), f0, f0, f0, f0, f0, (1, false), f0, t0, t0, t0, t0, t0, t0, t0, t0, t0, t0, t0, t0, (1, false)] ([true, true, true, true, true, true, true], [true, true, true, true]) (ai (dt h0) (ai ((df (Int.not_lt.2 (by assumption))) : decide (v0 < 0) = false) (a4 (bn h1) (ai ((df (Int.not_lt.2 (by assumption))) : decide (v0 < 0) = false) (a3 (bn h1) (a3 (be h2) (a9 (be h2) (ai ((df (Int.not_lt.2 (by assumption))) : decide (v0 < 0) = false) trivial)))))))) (by kernel_rfl)) H
        · rw [if_neg h2] at h
          by_cases h3 : (Int.tmod (shr .u64 a.v v0) 2) = (Int.tmod (shr .u64 b.v v0) 2)
          · rw [if_pos h3] at h
            have H := ih a b (IntKind.u64.wrap (v0 + 1)) (Go.bits .or .u64 v1 (shl .u64 (Int.tmod (shr .u64 a.v v0) 2) v0)) v2 (by exact wrapu_nonneg) o h
            cases o with
            | brk z => exact ⟨H.1, lg_next (cg_of mix O_ 400 [t0, f0, (1, false), f0, f0, f0, f0, f0, (1, false), f0, f0, f0, f0, f0, f0, f0, (1, false), f0, f0, f0, f0, f0, (1, false), f0, f0, f0, (1, false)] ([true, true, true, true, true, true, true], [true, true, true, true]) (ai (dt h0) (ai ((df (Int.not_lt.2 (by assumption))) : decide (v0 < 0) = false) (a4 (bn h1) (ai ((df (Int.not_lt.2 (by assumption))) : decide (v0 < 0) = false) (a3 (bn h1) (a4 (bn h2) (ai ((df (Int.not_lt.2 (by assumption))) : decide (v0 < 0) = false) (a5 (bn h2) (ai ((df (Int.not_lt.2 (by assumption))) : decide (v0 < 0) = false) (a3 (bn h2) (ai (bne_eq_false_iff_eq.2 h3) (a2 ((df (Int.not_lt.2 (by assumption))) : decide (v0 < 0) = false) trivial)))))))))))) (by kernel_rfl)) H.2⟩
            | ret r => exact lg_next (cg_of mix O_ 400 [t0, f0, (1, false), f0, f0, f0, f0, f0, (1, false), f0, f0, f0, f0, f0, f0, f0, (1, false), f0, f0, f0, f0, f0, (1, false), f0, f0, f0, (1, false)] ([true, true, true, true, true, true, true], [true, true, true, true]) (ai (dt h0) (ai ((df (Int.not_lt.2 (by assumption))) : decide (v0 < 0) = false) (a4 (bn h1) (ai ((df (Int.not_lt.2 (by assumption))) : decide (v0 < 0) = false) (a3 (bn h1) (a4 (bn h2) (ai ((df (Int.not_lt.2 (by assumption))) : decide (v0 < 0) = false) (a5 (bn h2) (ai ((df (Int.not_lt.2 (by assumption))) : decide (v0 < 0) = false) (a3 (bn h2) (ai (bne_eq_false_iff_eq.2 h3) (a2 ((df (Int.not_lt.2 (by assumption))) : decide (v0 < 0) = false) trivial)))))))))))) (by kernel_rfl)) H
          · rw [if_neg h3] at h
            have H := ih a b (IntKind.u64.wrap (v0 + 1)) v1 (Go.bits .or .u64 v2 (shl .u64 1 v0)) (by exact wrapu_nonneg) o h
            cases o with
            | brk z => exact ⟨H.1, lg_next (cg_of mix O_ 400 [t0, f0, (1, false), f0, f0, f0, f0, f0, (1, false), f0, f0, f0, f0, f0, f0, f0, (1, false), f0, f0, f0, f0, f0, (1, false), f0, t0, f0] ([true, true, true, true, true, true, true], [true, true, true, true]) (ai (dt h0) (ai ((df (Int.not_lt.2 (by assumption))) : decide (v0 < 0) = false) (a4 (bn h1) (ai ((df (Int.not_lt.2 (by assumption))) : decide (v0 < 0) = false) (a3 (bn h1) (a4 (bn h2) (ai ((df (Int.not_lt.2 (by assumption))) : decide (v0 < 0) = false) (a5 (bn h2) (ai ((df (Int.not_lt.2 (by assumption))) : decide (v0 < 0) = false) (a3 (bn h2) (ai (bne_iff_ne.2 h3) (ai ((df (Int.not_lt.2 (by assumption))) : decide (v0 < 0) = false) trivial)))))))))))) (by kernel_rfl)) H.2⟩
            | ret r => exact lg_next (cg_of mix O_ 400 [t0, f0, (1, false), f0, f0, f0, f0, f0, (1, false), f0, f0, f0, f0, f0, f0, f0, (1, false), f0, f0, f0, f0, f0, (1, false), f0, t0, f0] ([true, true, true, true, true, true, true], [true, true, true, true]) (ai (dt h0) (ai ((df (Int.not_lt.2 (by assumption))) : decide (v0 < 0) = false) (a4 (bn h1) (ai ((df (Int.not_lt.2 (by assumption))) : decide (v0 < 0) = false) (a3 (bn h1) (a4 (bn h2) (ai ((df (Int.not_lt.2 (by assumption))) : decide (v0 < 0) = false) (a5 (bn h2) (ai ((df (Int.not_lt.2 (by assumption))) : decide (v0 < 0) = false) (a3 (bn h2) (ai (bne_iff_ne.2 h3) (ai ((df (Int.not_lt.2 (by assumption))) : decide (v0 < 0) = false) trivial)))))))))))) (by kernel_rfl)) H
    · rw [if_neg h0] at h
      cases h
      exact ⟨(by first | assumption | (exact wrapu_nonneg)), lg_exit (cg_of mix O_ 400 [f0] ([true, true, true, true, true, true, true], [true, true, true, true]) (ai (df h0) trivial) (by kernel_rfl))⟩
theorem K_lockgateref03_Join : Keeps Tryz.prog 85 (F2 cTn cTn cTn (fun _ _ => []) lockgateref03_Join) := by
  refine keeps2 _ _ _ (enters_of Tryz.func85 (by kernel_rfl)) fun a b hp_ => ?_
  unfold lockgateref03_Join
  cases hL : lockgateref03_Join_L a b 65 0 0 0 with
  | none => exact absurd hL (T_lockgateref03_Join a b)
  | some o =>
    have H := L_lockgateref03_Join 65 a b 0 0 0 (by decide) o hL
    cases o with
    | ret r => exact gives_cg (s' := lockgateref03_Join_F r) Tryz.func85 rfl rfl (cg_seq (s1 := ⟨[.agg [.int .u64 a.v, .int .u64 a.m], .agg [.int .u64 b.v, .int .u64 b.m], .ptr 0 0, .ptr 1 0, .ptr 2 0, .tup [], .tup [], .tup [], .tup [], .tup [], .tup [], .tup [], .tup [], .tup [], .tup [], .tup [], .tup [], .tup [], .tup [], .tup [], .tup [], .tup [], .tup [], .tup [], .tup [], .tup [], .tup [], .tup [], .tup [], .tup [], .tup [], .tup [], .tup [], .tup [], .tup [], .tup [], .tup [], .tup [], .tup [], .tup [], .tup [], .tup [], .tup [], .tup [], .tup [], .tup [], .tup [], .tup [], .tup [], .tup [], .tup [], .tup [], .tup [], .tup [], .tup [], .tup []], [.cells [.int .u64 a.v, .int .u64 a.m], .cells [.int .u64 b.v, .int .u64 b.m], .cells [.int .u64 0, .int .u64 0]]⟩) (cg_of mix on_ 400 [] ([true, true, true, true, true, true, true, true, true, true, true, true, true, true, true, true, true, true, true, true, true, true, true, true, true, true, true, true, true, true, true, true, true, true, true, true, true, true, true, true, true, true, true, true, true, true, true, true, true, true, true, true, true, true, true, true], []) trivial (by kernel_rfl)) (cg_seq (s1 := ⟨[.agg [.int .u64 a.v, .int .u64 a.m], .agg [.int .u64 b.v, .int .u64 b.m], .ptr 0 0, .ptr 1 0, .ptr 2 0, .ptr 3 0, .tup [], .tup [], .tup [], .tup [], .tup [], .tup [], .tup [], .tup [], .tup [], .tup [], .tup [], .tup [], .tup [], .tup [], .tup [], .tup [], .tup [], .tup [], .tup [], .tup [], .tup [], .tup [], .tup [], .tup [], .tup [], .tup [], .tup [], .tup [], .tup [], .tup [], .tup [], .tup [], .tup [], .tup [], .tup [], .tup [], .tup [], .tup [], .tup [], .tup [], .tup [], .tup [], .tup [], .tup [], .tup [], .tup [], .tup [], .tup [], .tup [], .tup []], [.cells [.int .u64 a.v, .int .u64 a.m], .cells [.int .u64 b.v, .int .u64 b.m], .cells [.int .u64 0, .int .u64 0], .cells [.int .u64 0, .int .u64 0]]⟩) (cg_of mix on_ 400 [] ([true, true, true, true, true, true, true, true, true, true, true, true, true, true, true, true, true, true, true, true, true, true, true, true, true, true, true, true, true, true, true, true, true, true, true, true, true, true, true, true, true, true, true, true, true, true, true, true, true, true, true, true, true, true, true, true], []) trivial (by kernel_rfl)) (cg_seq_ret (cg_seq (cg_of mix on_ 400 [] ([true, true, true, true, true, true, true], [true, true, true, true]) trivial (by kernel_rfl)) (cg_block_ret (cg_loop H)))))) rfl (by kernel_rfl)
    | brk z =>
      obtain ⟨e0, H⟩ := H
      exact gives_cg (s' := lockgateref03_Join_F (⟨z.2.1, z.2.2⟩ : Tn)) Tryz.func85 rfl rfl (cg_seq (s1 := ⟨[.agg [.int .u64 a.v, .int .u64 a.m], .agg [.int .u64 b.v, .int .u64 b.m], .ptr 0 0, .ptr 1 0, .ptr 2 0, .tup [], .tup [], .tup [], .tup [], .tup [], .tup [], .tup [], .tup [], .tup [], .tup [], .tup [], .tup [], .tup [], .tup [], .tup [], .tup [], .tup [], .tup [], .tup [], .tup [], .tup [], .tup [], .tup [], .tup [], .tup [], .tup [], .tup [], .tup [], .tup [], .tup [], .tup [], .tup [], .tup [], .tup [], .tup [], .tup [], .tup [], .tup [], .tup [], .tup [], .tup [], .tup [], .tup [], .tup [], .tup [], .tup [], .tup [], .tup [], .tup [], .tup [], .tup []], [.cells [.int .u64 a.v, .int .u64 a.m], .cells [.int .u64 b.v, .int .u64 b.m], .cells [.int .u64 0, .int .u64 0]]⟩) (cg_of mix on_ 400 [] ([true, true, true, true, true, true, true, true, true, true, true, true, true, true, true, true, true, true, true, true, true, true, true, true, true, true, true, true, true, true, true, true, true, true, true, true, true, true, true, true, true, true, true, true, true, true, true, true, true, true, true, true, true, true, true, true], []) trivial (by kernel_rfl)) (cg_seq (s1 := ⟨[.agg [.int .u64 a.v, .int .u64 a.m], .agg [.int .u64 b.v, .int .u64 b.m], .ptr 0 0, .ptr 1 0, .ptr 2 0, .ptr 3 0, .tup [], .tup [], .tup [], .tup [], .tup [], .tup [], .tup [], .tup [], .tup [], .tup [], .tup [], .tup [], .tup [], .tup [], .tup [], .tup [], .tup [], .tup [], .tup [], .tup [], .tup [], .tup [], .tup [], .tup [], .tup [], .tup [], .tup [], .tup [], .tup [], .tup [], .tup [], .tup [], .tup [], .tup [], .tup [], .tup [], .tup [], .tup [], .tup [], .tup [], .tup [], .tup [], .tup [], .tup [], .tup [], .tup [], .tup [], .tup [], .tup [], .tup []], [.cells [.int .u64 a.v, .int .u64 a.m], .cells [.int .u64 b.v, .int .u64 b.m], .cells [.int .u64 0, .int .u64 0], .cells [.int .u64 0, .int .u64 0]]⟩) (cg_of mix on_ 400 [] ([true, true, true, true, true, true, true, true, true, true, true, true, true, true, true, true, true, true, true, true, true, true, true, true, true, true, true, true, true, true, true, true, true, true, true, true, true, true, true, true, true, true, true, true, true, true, true, true, true, true, true, true, true, true, true, true], []) trivial (by kernel_rfl)) (cg_seq (cg_seq (cg_of mix on_ 400 [] ([true, true, true, true, true, true, true], [true, true, true, true]) trivial (by kernel_rfl)) (cg_block (cg_loop H))) (cg_of mix on_ 400 [] ([false, false, false, false, true], [false, false, true, false]) trivial (by kernel_rfl))))) rfl (by kernel_rfl)
theorem K_lockgateref04_round : Keeps Tryz.prog 180 (F1 (cI .i64) (cI .i64) (fun _ => []) lockgateref04_round) := by
  refine keeps1 _ _ (enters_of Tryz.func180 (by kernel_rfl)) fun a hp_ => ?_
  unfold lockgateref04_round
  have O_ := on_
  refine gite (fun h0 => ?_) (fun h0 => ?_)
  · exact gv mix O_ 400 [(1, true)] (ai (dt h0) trivial) (by kernel_rfl) rfl rfl
  · exact gv mix O_ 400 [(1, false)] (ai (df h0) trivial) (by kernel_rfl) rfl rfl
theorem L_lockgateref04_ULsh : ∀ (n : Nat) (a : Us) (b : Int) (v0 : Int) (v1 : Int) (v2 : Int) (o : Out (Int × Int × Int) Us), lockgateref04_ULsh_L a b n v0 v1 v2 = some o → (match o with
  | .brk z => LG Tryz.prog (inn (inn (snd (fst (snd (bodyOf Tryz.f126)))))) n (lockgateref04_ULsh_I a b v0 v1 v2) (.exit 0) (lockgateref04_ULsh_I a b z.1 z.2.1 z.2.2)
  | .ret r => LG Tryz.prog (inn (inn (snd (fst (snd (bodyOf Tryz.f126)))))) n (lockgateref04_ULsh_I a b v0 v1 v2) .ret (lockgateref04_ULsh_F r)) := by
  intro n
  have O_ := (orc_cons K_lockgateref04_round (orc_cons K_lockgateref04_top (orc_cons K_lockgateref04_UAll on_)))
  induction n with
  | zero => intro a b v0 v1 v2 o h; simp only [lockgateref04_ULsh_L] at h; cases h
  | succ n ih =>
    intro a b v0 v1 v2 o h
    rw [lockgateref04_ULsh_L] at h
    by_cases h0 : v0 < (lockgateref04_round b)
    · rw [if_pos h0] at h
      by_cases h1 : lockgateref04_top ≤ v2
      · rw [if_pos h1] at h
        cases h
        exact lg_ret (cg_of mix O_ 400 [t0, t0] ([false, false, false, false, true], [false, true]) (ai (dt h0) (ai (dt h1) trivial)) (by kernel_rfl))
      · rw [if_neg h1] at h
        have H := ih a b (IntKind.i64.wrap (v0 + 1)) (IntKind.u64.wrap (2 * v1)) (IntKind.u64.wrap (2 * v2)) o h
        cases o with
        | brk z => exact lg_next (cg_of mix O_ 400 [t0, f0] ([true, true, true, false, true, true], [true, true]) (ai (dt h0) (ai (df h1) trivial)) (by kernel_rfl)) H
        | ret r => exact lg_next (cg_of mix O_ 400 [t0, f0] ([true, true, true, false, true, true], [true, true]) (ai (dt h0) (ai (df h1) trivial)) (by kernel_rfl)) H
    · rw [if_neg h0] at h
      cases h
      exact lg_exit (cg_of mix O_ 400 [f0] ([true, true, true, false, true, true], [true, true]) (ai (df h0) trivial) (by kernel_rfl))
theorem K_lockgateref04_ULsh : Keeps Tryz.prog 126 (F2 cUs (cI .i64) cUs (fun _ _ => []) lockgateref04_ULsh) := by
  refine keeps2 _ _ _ (enters_of Tryz.func126 (by kernel_rfl)) fun a b hp_ => ?_
  unfold lockgateref04_ULsh
  cases hL : lockgateref04_ULsh_L a b 65 0 a.lo a.hi with
  | none => exact absurd hL (T_lockgateref04_ULsh a b)
  | some o =>
    have H := L_lockgateref04_ULsh 65 a b 0 a.lo a.hi o hL
    cases o with
    | ret r => exact gives_cg (s' := lockgateref04_ULsh_F r) Tryz.func126 rfl rfl (cg_seq (s1 := ⟨[.agg [.int .u64 a.lo, .int .u64 a.hi], .int .i64 b, .ptr 0 0, .tup [], .ptr 1 0, .tup [], .tup [], .tup [], .tup [], .tup [], .tup [], .tup [], .tup [], .tup [], .tup [], .tup [], .tup [], .tup [], .tup [], .tup [], .tup [], .tup [], .tup [], .tup [], .tup []], [.cells [.int .u64 a.lo, .int .u64 a.hi], .cells [.int .u64 0, .int .u64 0]]⟩) (cg_of mix on_ 400 [] ([true, true, true, true, true, true, true, true, true, true, true, true, true, true, true, true, true, true, true, true, true, true, true, true, true], []) trivial (by kernel_rfl)) (cg_seq_ret (cg_seq (cg_of mix on_ 400 [] ([true, true, true, false, true, true], [true, true]) trivial (by kernel_rfl)) (cg_block_ret (cg_loop H))))) rfl (by kernel_rfl)
    | brk z =>
      exact gives_cg (s' := lockgateref04_ULsh_F (⟨z.2.1, z.2.2⟩ : Us)) Tryz.func126 rfl rfl (cg_seq (s1 := ⟨[.agg [.int .u64 a.lo, .int .u64 a.hi], .int .i64 b, .ptr 0 0, .tup [], .ptr 1 0, .tup [], .tup [], .tup [], .tup [], .tup [], .tup [], .tup [], .tup [], .tup [], .tup [], .tup [], .tup [], .tup [], .tup [], .tup [], .tup [], .tup [], .tup [], .tup [], .tup []], [.cells [.int .u64 a.lo, .int .u64 a.hi], .cells [.int .u64 0, .int .u64 0]]⟩) (cg_of mix on_ 400 [] ([true, true, true, true, true, true, true, true, true, true, true, true, true, true, true, true, true, true, true, true, true, true, true, true, true], []) trivial (by kernel_rfl)) (cg_seq (cg_seq (cg_of mix on_ 400 [] ([true, true, true, false, true, true], [true, true]) trivial (by kernel_rfl)) (cg_block (cg_loop H))) (cg_of mix on_ 400 [] ([false, false, false, false, true], [false, true]) trivial (by kernel_rfl)))) rfl (by kernel_rfl)
theorem L_lockgateref04_URsh : ∀ (n : Nat) (a : Us) (b : Int) (v0 : Int) (v1 : Int) (v2 : Int) (o : Out (Int × Int × Int) Us), lockgateref04_URsh_L a b n v0 v1 v2 = some o → (match o with
  | .brk z => LG Tryz.prog (inn (inn (snd (fst (snd (bodyOf Tryz.f128)))))) n (lockgateref04_URsh_I a b v0 v1 v2) (.exit 0) (lockgateref04_URsh_I a b z.1 z.2.1 z.2.2)
  | .ret r => LG Tryz.prog (inn (inn (snd (fst (snd (bodyOf Tryz.f128)))))) n (lockgateref04_URsh_I a b v0 v1 v2) .ret (lockgateref04_URsh_F r)) := by
  intro n
  have O_ := (orc_cons K_lockgateref04_round on_)
  induction n with
  | zero => intro a b v0 v1 v2 o h; simp only [lockgateref04_URsh_L] at h; cases h
  | succ n ih =>
    intro a b v0 v1 v2 o h
    rw [lockgateref04_URsh_L] at h
    by_cases h0 : v0 < (lockgateref04_round b)
    · rw [if_pos h0] at h
      have H := ih a b (IntKind.i64.wrap (v0 + 1)) (IntKind.u64.wrap (Int.tdiv v1 2)) (IntKind.u64.wrap (Int.tdiv v2 2)) o h
      cases o with
      | brk z => exact lg_next (cg_of mix O_ 400 [t0] ([true, true, true, false, true, true], [true, true]) (ai (dt h0) trivial) (by kernel_rfl)) H
      | ret r => exact lg_next (cg_of mix O_ 400 [t0] ([true, true, true, false, true, true], [true, true]) (ai (dt h0) trivial) (by kernel_rfl)) H
    · rw [if_neg h0] at h
      cases h
      exact lg_exit (cg_of mix O_ 400 [f0] ([true, true, true, false, true, true], [true, true]) (ai (df h0) trivial) (by kernel_rfl))
theorem K_lockgateref04_URsh : Keeps Tryz.prog 128 (F2 cUs (cI .i64) cUs (fun _ _ => []) lockgateref04_URsh) := by
  refine keeps2 _ _ _ (enters_of Tryz.func128 (by kernel_rfl)) fun a b hp_ => ?_
  unfold lockgateref04_URsh
  cases hL : lockgateref04_URsh_L a b 65 0 a.lo a.hi with
  | none => exact absurd hL (T_lockgateref04_URsh a b)
  | some o =>
    have H := L_lockgateref04_URsh 65 a b 0 a.lo a.hi o hL
    cases o with
    | ret r => exact gives_cg (s' := lockgateref04_URsh_F r) Tryz.func128 rfl rfl (cg_seq (s1 := ⟨[.agg [.int .u64 a.lo, .int .u64 a.hi], .int .i64 b, .ptr 0 0, .tup [], .ptr 1 0, .tup [], .tup [], .tup [], .tup [], .tup [], .tup [], .tup [], .tup [], .tup [], .tup [], .tup [], .tup [], .tup [], .tup [], .tup []], [.cells [.int .u64 a.lo, .int .u64 a.hi], .cells [.int .u64 0, .int .u64 0]]⟩) (cg_of mix on_ 400 [] ([true, true, true, true, true, true, true, true, true, true, true, true, true, true, true, true, true, true, true, true], []) trivial (by kernel_rfl)) (cg_seq_ret (cg_seq (cg_of mix on_ 400 [] ([true, true, true, false, true, true], [true, true]) trivial (by kernel_rfl)) (cg_block_ret (cg_loop H))))) rfl (by kernel_rfl)
    | brk z =>
      exact gives_cg (s' := lockgateref04_URsh_F (⟨z.2.1, z.2.2⟩ : Us)) Tryz.func128 rfl rfl (cg_seq (s1 := ⟨[.agg [.int .u64 a.lo, .int .u64 a.hi], .int .i64 b, .ptr 0 0, .tup [], .ptr 1 0, .tup [], .tup [], .tup [], .tup [], .tup [], .tup [], .tup [], .tup [], .tup [], .tup [], .tup [], .tup [], .tup [], .tup [], .tup []], [.cells [.int .u64 a.lo, .int .u64 a.hi], .cells [.int .u64 0, .int .u64 0]]⟩) (cg_of mix on_ 400 [] ([true, true, true, true, true, true, true, true, true, true, true, true, true, true, true, true, true, true, true, true], []) trivial (by kernel_rfl)) (cg_seq (cg_seq (cg_of mix on_ 400 [] ([true, true, true, false, true, true], [true, true]) trivial (by kernel_rfl)) (cg_block (cg_loop H))) (cg_of mix on_ 400 [] ([false, false, false, false, true], [false, true]) trivial (by kernel_rfl)))) rfl (by kernel_rfl)
theorem K_lockgateref04_half : Keeps Tryz.prog 182 (F1 (cI .i64) (cI .i64) (fun _ => []) lockgateref04_half) := by
  refine keeps1 _ _ (enters_of Tryz.func182 (by kernel_rfl)) fun a hp_ => ?_
  unfold lockgateref04_half
  have O_ := on_
  refine gite (fun h0 => ?_) (fun h0 => ?_)
  · exact gv mix O_ 400 [(1, true)] (ai (dt h0) trivial) (by kernel_rfl) rfl rfl
  · exact gv mix O_ 400 [(1, false)] (ai (df h0) trivial) (by kernel_rfl) rfl rfl
theorem L_lockgateref04_SArsh : ∀ (n : Nat) (a : Ss) (b : Int) (v0 : Int) (v1 : Int) (v2 : Int) (o : Out (Int × Int × Int) Ss), lockgateref04_SArsh_L a b n v0 v1 v2 = some o → (match o with
  | .brk z => LG Tryz.prog (inn (inn (snd (fst (snd (bodyOf Tryz.f130)))))) n (lockgateref04_SArsh_I a b v0 v1 v2) (.exit 0) (lockgateref04_SArsh_I a b z.1 z.2.1 z.2.2)
  | .ret r => LG Tryz.prog (inn (inn (snd (fst (snd (bodyOf Tryz.f130)))))) n (lockgateref04_SArsh_I a b v0 v1 v2) .ret (lockgateref04_SArsh_F r)) := by
  intro n
  have O_ := (orc_cons K_lockgateref04_round (orc_cons K_lockgateref04_half on_))
  induction n with
  | zero => intro a b v0 v1 v2 o h; simp only [lockgateref04_SArsh_L] at h; cases h
  | succ n ih =>
    intro a b v0 v1 v2 o h
    rw [lockgateref04_SArsh_L] at h
    by_cases h0 : v0 < (lockgateref04_round b)
    · rw [if_pos h0] at h
      have H := ih a b (IntKind.i64.wrap (v0 + 1)) (lockgateref04_half v1) (lockgateref04_half v2) o h
      cases o with
      | brk z => exact lg_next (cg_of mix O_ 400 [t0] ([true, true, true, false, true, true], [true, true]) (ai (dt h0) trivial) (by kernel_rfl)) H
      | ret r => exact lg_next (cg_of mix O_ 400 [t0] ([true, true, true, false, true, true], [true, true]) (ai (dt h0) trivial) (by kernel_rfl)) H
    · rw [if_neg h0] at h
      cases h
      exact lg_exit (cg_of mix O_ 400 [f0] ([true, true, true, false, true, true], [true, true]) (ai (df h0) trivial) (by kernel_rfl))
theorem K_lockgateref04_SArsh : Keeps Tryz.prog 130 (F2 cSs (cI .i64) cSs (fun _ _ => []) lockgateref04_SArsh) := by
  refine keeps2 _ _ _ (enters_of Tryz.func130 (by kernel_rfl)) fun a b hp_ => ?_
  unfold lockgateref04_SArsh
  cases hL : lockgateref04_SArsh_L a b 65 0 a.lo a.hi with
  | none => exact absurd hL (T_lockgateref04_SArsh a b)
  | some o =>
    have H := L_lockgateref04_SArsh 65 a b 0 a.lo a.hi o hL
    cases o with
    | ret r => exact gives_cg (s' := lockgateref04_SArsh_F r) Tryz.func130 rfl rfl (cg_seq (s1 := ⟨[.agg [.int .i64 a.lo, .int .i64 a.hi], .int .i64 b, .ptr 0 0, .tup [], .ptr 1 0, .tup [], .tup [], .tup [], .tup [], .tup [], .tup [], .tup [], .tup [], .tup [], .tup [], .tup [], .tup [], .tup [], .tup [], .tup []], [.cells [.int .i64 a.lo, .int .i64 a.hi], .cells [.int .i64 0, .int .i64 0]]⟩) (cg_of mix on_ 400 [] ([true, true, true, true, true, true, true, true, true, true, true, true, true, true, true, true, true, true, true, true], []) trivial (by kernel_rfl)) (cg_seq_ret (cg_seq (cg_of mix on_ 400 [] ([true, true, true, false, true, true], [true, true]) trivial (by kernel_rfl)) (cg_block_ret (cg_loop H))))) rfl (by kernel_rfl)
    | brk z =>
      exact gives_cg (s' := lockgateref04_SArsh_F (⟨z.2.1, z.2.2⟩ : Ss)) Tryz.func130 rfl rfl (cg_seq (s1 := ⟨[.agg [.int .i64 a.lo, .int .i64 a.hi], .int .i64 b, .ptr 0 0, .tup [], .ptr 1 0, .tup [], .tup [], .tup [], .tup [], .tup [], .tup [], .tup [], .tup [], .tup [], .tup [], .tup [], .tup [], .tup [], .tup [], .tup []], [.cells [.int .i64 a.lo, .int .i64 a.hi], .cells [.int .i64 0, .int .i64 0]]⟩) (cg_of mix on_ 400 [] ([true, true, true, true, true, true, true, true, true, true, true, true, true, true, true, true, true, true, true, true], []) trivial (by kernel_rfl)) (cg_seq (cg_seq (cg_of mix on_ 400 [] ([true, true, true, false, true, true], [true, true]) trivial (by kernel_rfl)) (cg_block (cg_loop H))) (cg_of mix on_ 400 [] ([false, false, false, false, true], [false, true]) trivial (by kernel_rfl)))) rfl (by kernel_rfl)
theorem K_lockgateref03_without : Keeps Tryz.prog 183 (F2 (cI .u64) (cI .u64) cTn (fun _ _ => []) lockgateref03_without) := by
  refine keeps2 _ _ _ (enters_of Tryz.func183 (by kernel_rfl)) fun a b hp_ => ?_
  unfold lockgateref03_without
  have O_ := on_
  exact gv mix O_ 400 [] trivial (by kernel_rfl) rfl rfl
theorem K_lockgateref03_Of : Keeps Tryz.prog 61 (F1 (cI .u64) cTn (fun _ => []) lockgateref03_Of) := by
  refine keeps1 _ _ (enters_of Tryz.func61 (by kernel_rfl)) fun a hp_ => ?_
  unfold lockgateref03_Of
  have O_ := on_
  exact gv mix O_ 400 [] trivial (by kernel_rfl) rfl rfl
theorem K_lockgateref03_Add : Keeps Tryz.prog 131 (F2 cTn cTn cTn (fun _ _ => []) lockgateref03_Add) := by
  refine keeps2 _ _ _ (enters_of Tryz.func131 (by kernel_rfl)) fun a b hp_ => ?_
  unfold lockgateref03_Add
  have O_ := (orc_cons K_lockgateref03_without on_)
  exact gv mix O_ 400 [] trivial (by kernel_rfl) rfl rfl
theorem L_lockgateref03_Mul : ∀ (n : Nat) (a : Tn) (b : Tn) (v0 : Int) (v1 : Int) (v2 : Int) (q0 : 0 ≤ v0) (o : Out (Int × Int × Int) Tn), lockgateref03_Mul_L a b n v0 v1 v2 = some o → (match o with
  | .brk z => (0 ≤ z.1) ∧ LG Tryz.prog (inn (inn (snd (fst (snd (snd (bodyOf Tryz.f137))))))) n (lockgateref03_Mul_I a b v0 v1 v2) (.exit 0) (lockgateref03_Mul_I a b z.1 z.2.1 z.2.2)
  | .ret r => LG Tryz.prog (inn (inn (snd (fst (snd (snd (bodyOf Tryz.f137))))))) n (lockgateref03_Mul_I a b v0 v1 v2) .ret (lockgateref03_Mul_F r)) := by
  intro n
  have O_ := (orc_cons K_lockgateref03_Add on_)
  induction n with
  | zero => intro a b v0 v1 v2 q0 o h; simp only [lockgateref03_Mul_L] at h; cases h
  | succ n ih =>
    intro a b v0 v1 v2 q0 o h
    rw [lockgateref03_Mul_L] at h
    by_cases h0 : v0 < 64
    · rw [if_pos h0] at h
      by_cases h1 : (Int.tmod (shr .u64 a.v v0) 2) = 1
      · rw [if_pos h1] at h
        have H := ih a b (IntKind.u64.wrap (v0 + 1)) ((lockgateref03_Add (⟨v1, v2⟩ : Tn) (⟨0, (shl .u64 b.m v0)⟩ : Tn)).v) ((lockgateref03_Add (⟨v1, v2⟩ : Tn) (⟨0, (shl .u64 b.m v0)⟩ : Tn)).m) (by exact wrapu_nonneg) o h
        cases o with
        | brk z => exact ⟨H.1, lg_next (cg_of mix O_ 400 [t0, f0, (1, true), f0] ([true, true, true, true, true, true, true, true], [true, true, true, true]) (ai (dt h0) (ai ((df (Int.not_lt.2 (by assumption))) : decide (v0 < 0) = false) (ai (be h1) (ai ((df (Int.not_lt.2 (by assumption))) : decide (v0 < 0) = false) trivial)))) (by kernel_rfl)) H.2⟩
        | ret r => exact lg_next (cg_of mix O_ 400 [t0, f0, (1, true), f0] ([true, true, true, true, true, true, true, true], [true, true, true, true]) (ai (dt h0) (ai ((df (Int.not_lt.2 (by assumption))) : decide (v0 < 0) = false) (ai (be h1) (ai ((df (Int.not_lt.2 (by assumption))) : decide (v0 < 0) = false) trivial)))) (by kernel_rfl)) H
      · rw [if_neg h1] at h
        by_cases h2 : (Int.tmod (shr .u64 a.m v0) 2) = 1
        · rw [if_pos h2] at h
          have H := ih a b (IntKind.u64.wrap (v0 + 1)) ((lockgateref03_Add (⟨v1, v2⟩ : Tn) (⟨0, (shl .u64 (Go.bits .or .u64 b.v b.m) v0)⟩ : Tn)).v) ((lockgateref03_Add (⟨v1, v2⟩ : Tn) (⟨0, (shl .u64 (Go.bits .or .u64 b.v b.m) v0)⟩ : Tn)).m) (by exact wrapu_nonneg) o h
          cases o with
          | brk z => exact ⟨H.1, lg_next (cg_of mix O_ 400 [t0, f0, (1, false), f0, (1, true), f0] ([true, true, true, true, true, true, true, true], [true, true, true, true]) (ai (dt h0) (ai ((df (Int.not_lt.2 (by assumption))) : decide (v0 < 0) = false) (ai (bn h1) (ai ((df (Int.not_lt.2 (by assumption))) : decide (v0 < 0) = false) (ai (be h2) (ai ((df (Int.not_lt.2 (by assumption))) : decide (v0 < 0) = false) trivial)))))) (by kernel_rfl)) H.2⟩
          | ret r => exact lg_next (cg_of mix O_ 400 [t0, f0, (1, false), f0, (1, true), f0] ([true, true, true, true, true, true, true, true], [true, true, true, true]) (ai (dt h0) (ai ((df (Int.not_lt.2 (by assumption))) : decide (v0 < 0) = false) (ai (bn h1) (ai ((df (Int.not_lt.2 (by assumption))) : decide (v0 < 0) = false) (ai (be h2) (ai ((df (Int.not_lt.2 (by assumption))) : decide (v0 < 0) = false) trivial)))))) (by kernel_rfl)) H
        · rw [if_neg h2] at h
          have H := ih a b (IntKind.u64.wrap (v0 + 1)) v1 v2 (by exact wrapu_nonneg) o h
          cases o with
          | brk z => exact ⟨H.1, lg_next (cg_of mix O_ 400 [t0, f0, (1, false), f0, (1, false)] ([true, true, true, true, true, true, true, true], [true, true, true, true]) (ai (dt h0) (ai ((df (Int.not_lt.2 (by assumption))) : decide (v0 < 0) = false) (ai (bn h1) (ai ((df (Int.not_lt.2 (by assumption))) : decide (v0 < 0) = false) (ai (bn h2) trivial))))) (by kernel_rfl)) H.2⟩
          | ret r => exact lg_next (cg_of mix O_ 400 [t0, f0, (1, false), f0, (1, false)] ([true, true, true, true, true, true, true, true], [true, true, true, true]) (ai (dt h0) (ai ((df (Int.not_lt.2 (by assumption))) : decide (v0 < 0) = false) (ai (bn h1) (ai ((df (Int.not_lt.2 (by assumption))) : decide (v0 < 0) = false) (ai (bn h2) trivial))))) (by kernel_rfl)) H
    · rw [if_neg h0] at h
      cases h
      exact ⟨(by first | assumption | (exact wrapu_nonneg)), lg_exit (cg_of mix O_ 400 [f0] ([true, true, true, true, true, true, true, true], [true, true, true, true]) (ai (df h0) trivial) (by kernel_rfl))⟩
theorem K_lockgateref03_Mul : Keeps Tryz.prog 137 (F2 cTn cTn cTn (fun _ _ => []) lockgateref03_Mul) := by
  refine keeps2 _ _ _ (enters_of Tryz.func137 (by kernel_rfl)) fun a b hp_ => ?_
  unfold lockgateref03_Mul
  cases hL : lockgateref03_Mul_L a b 65 0 ((lockgateref03_Of 0).v) ((lockgateref03_Of 0).m) with
  | none => exact absurd hL (T_lockgateref03_Mul a b)
  | some o =>
    have H := L_lockgateref03_Mul 65 a b 0 ((lockgateref03_Of 0).v) ((lockgateref03_Of 0).m) (by decide) o hL
    cases o with
    | ret r => exact gives_cg (s' := lockgateref03_Mul_F r) Tryz.func137 rfl rfl (cg_seq (s1 := ⟨[.agg [.int .u64 a.v, .int .u64 a.m], .agg [.int .u64 b.v, .int .u64 b.m], .ptr 0 0, .ptr 1 0, .ptr 2 0, .tup [], .tup [], .tup [], .tup [], .tup [], .tup [], .tup [], .tup [], .tup [], .tup [], .tup [], .tup [], .tup [], .tup [], .tup [], .tup [], .tup [], .tup [], .tup [], .tup [], .tup [], .tup [], .tup [], .tup [], .tup [], .tup [], .tup [], .tup [], .tup [], .tup [], .tup [], .tup [], .tup [], .tup [], .tup [], .tup [], .tup [], .tup [], .tup [], .tup [], .tup [], .tup [], .tup [], .tup []], [.cells [.int .u64 a.v, .int .u64 a.m], .cells [.int .u64 b.v, .int .u64 b.m], .cells [.int .u64 0, .int .u64 0]]⟩) (cg_of mix (orc_cons K_lockgateref03_Of on_) 400 [] ([true, true, true, true, true, true, true, true, true, true, true, true, true, true, true, true, true, true, true, true, true, true, true, true, true, true, true, true, true, true, true, true, true, true, true, true, true, true, true, true, true, true, true, true, true, true, true, true, true], []) trivial (by kernel_rfl)) (cg_seq (s1 := ⟨[.agg [.int .u64 a.v, .int .u64 a.m], .agg [.int .u64 b.v, .int .u64 b.m], .ptr 0 0, .ptr 1 0, .ptr 2 0, .ptr 3 0, .tup [], .agg [.int .u64 ((lockgateref03_Of 0).v), .int .u64 ((lockgateref03_Of 0).m)], .tup [], .tup [], .tup [], .tup [], .tup [], .tup [], .tup [], .tup [], .tup [], .tup [], .tup [], .tup [], .tup [], .tup [], .tup [], .tup [], .tup [], .tup [], .tup [], .tup [], .tup [], .tup [], .tup [], .tup [], .tup [], .tup [], .tup [], .tup [], .tup [], .tup [], .tup [], .tup [], .tup [], .tup [], .tup [], .tup [], .tup [], .tup [], .tup [], .tup [], .tup []], [.cells [.int .u64 a.v, .int .u64 a.m], .cells [.int .u64 b.v, .int .u64 b.m], .cells [.int .u64 0, .int .u64 0], .cells [.int .u64 ((lockgateref03_Of 0).v), .int .u64 ((lockgateref03_Of 0).m)]]⟩) (cg_of mix (orc_cons K_lockgateref03_Of on_) 400 [] ([true, true, true, true, true, true, true, true, true, true, true, true, true, true, true, true, true, true, true, true, true, true, true, true, true, true, true, true, true, true, true, true, true, true, true, true, true, true, true, true, true, true, true, true, true, true, true, true, true], []) trivial (by kernel_rfl)) (cg_seq_ret (cg_seq (cg_of mix (orc_cons K_lockgateref03_Of on_) 400 [] ([true, true, true, true, true, true, true, true], [true, true, true, true]) trivial (by kernel_rfl)) (cg_block_ret (cg_loop H)))))) rfl (by kernel_rfl)
    | brk z =>
      obtain ⟨e0, H⟩ := H
      exact gives_cg (s' := lockgateref03_Mul_F (lockgateref03_Add (lockgateref03_Of (IntKind.u64.wrap (a.v * b.v))) (⟨z.2.1, z.2.2⟩ : Tn))) Tryz.func137 rfl rfl (cg_seq (s1 := ⟨[.agg [.int .u64 a.v, .int .u64 a.m], .agg [.int .u64 b.v, .int .u64 b.m], .ptr 0 0, .ptr 1 0, .ptr 2 0, .tup [], .tup [], .tup [], .tup [], .tup [], .tup [], .tup [], .tup [], .tup [], .tup [], .tup [], .tup [], .tup [], .tup [], .tup [], .tup [], .tup [], .tup [], .tup [], .tup [], .tup [], .tup [], .tup [], .tup [], .tup [], .tup [], .tup [], .tup [], .tup [], .tup [], .tup [], .tup [], .tup [], .tup [], .tup [], .tup [], .tup [], .tup [], .tup [], .tup [], .tup [], .tup [], .tup [], .tup []], [.cells [.int .u64 a.v, .int .u64 a.m], .cells [.int .u64 b.v, .int .u64 b.m], .cells [.int .u64 0, .int .u64 0]]⟩) (cg_of mix (orc_cons K_lockgateref03_Of on_) 400 [] ([true, true, true, true, true, true, true, true, true, true, true, true, true, true, true, true, true, true, true, true, true, true, true, true, true, true, true, true, true, true, true, true, true, true, true, true, true, true, true, true, true, true, true, true, true, true, true, true, true], []) trivial (by kernel_rfl)) (cg_seq (s1 := ⟨[.agg [.int .u64 a.v, .int .u64 a.m], .agg [.int .u64 b.v, .int .u64 b.m], .ptr 0 0, .ptr 1 0, .ptr 2 0, .ptr 3 0, .tup [], .agg [.int .u64 ((lockgateref03_Of 0).v), .int .u64 ((lockgateref03_Of 0).m)], .tup [], .tup [], .tup [], .tup [], .tup [], .tup [], .tup [], .tup [], .tup [], .tup [], .tup [], .tup [], .tup [], .tup [], .tup [], .tup [], .tup [], .tup [], .tup [], .tup [], .tup [], .tup [], .tup [], .tup [], .tup [], .tup [], .tup [], .tup [], .tup [], .tup [], .tup [], .tup [], .tup [], .tup [], .tup [], .tup [], .tup [], .tup [], .tup [], .tup [], .tup []], [.cells [.int .u64 a.v, .int .u64 a.m], .cells [.int .u64 b.v, .int .u64 b.m], .cells [.int .u64 0, .int .u64 0], .cells [.int .u64 ((lockgateref03_Of 0).v), .int .u64 ((lockgateref03_Of 0).m)]]⟩) (cg_of mix (orc_cons K_lockgateref03_Of on_) 400 [] ([true, true, true, true, true, true, true, true, true, true, true, true, true, true, true, true, true, true, true, true, true, true, true, true, true, true, true, true, true, true, true, true, true, true, true, true, true, true, true, true, true, true, true, true, true, true, true, true, true], []) trivial (by kernel_rfl)) (cg_seq (cg_seq (cg_of mix (orc_cons K_lockgateref03_Of on_) 400 [] ([true, true, true, true, true, true, true, true], [true, true, true, true]) trivial (by kernel_rfl)) (cg_block (cg_loop H))) (cg_of mix (orc_cons K_lockgateref03_Of (orc_cons K_lockgateref03_Add on_)) 400 [] ([false, false, false, false, true], [false, false, true, false]) trivial (by kernel_rfl))))) rfl (by kernel_rfl)
theorem L_lockgateref03_down : ∀ (n : Nat) (a : Int) (b : Int) (c : Int) (v0 : Int) (v1 : Int) (q0 : 0 ≤ v1) (o : Out (Int × Int) Int), lockgateref03_down_L a b c n v0 v1 = some o → (match o with
  | .brk z => (0 ≤ z.2) ∧ LG Tryz.prog (inn (inn (snd (fst (snd (snd (bodyOf Tryz.f181))))))) n (lockgateref03_down_I a b c v0 v1) (.exit 0) (lockgateref03_down_I a b c z.1 z.2)
  | .ret r => LG Tryz.prog (inn (inn (snd (fst (snd (snd (bodyOf Tryz.f181))))))) n (lockgateref03_down_I a b c v0 v1) .ret (lockgateref03_down_F r)) := by
  intro n
  have O_ := on_
  induction n with
  | zero => intro a b c v0 v1 q0 o h; simp only [lockgateref03_down_L] at h; cases h
  | succ n ih =>
    intro a b c v0 v1 q0 o h
    rw [lockgateref03_down_L] at h
    by_cases h0 : v1 < c
    · rw [if_pos h0] at h
      have H := ih a b c (Go.bits .or .u64 v0 (shl .u64 (Int.tmod (shr .u64 a (if (IntKind.u64.wrap (c - 1)) < (IntKind.u64.wrap (v1 + b)) then (IntKind.u64.wrap (c - 1)) else (IntKind.u64.wrap (v1 + b)))) 2) v1)) (IntKind.u64.wrap (v1 + 1)) (by exact wrapu_nonneg) o h
      cases o with
      | brk z => exact ⟨H.1, lg_next (cg_of mix O_ 400 [t0, f0, (1, false)] ([true, true, true, false, false, false, true, true, true], []) (ai (dt h0) (ai ((df (by first | exact len64_nn | (rw [tab_size]; exact u8_in) | exact nz1 (by assumption) (by assumption) | exact nz2 (by assumption) (by assumption) (by assumption) | exact Int.not_lt.2 wrapu_nonneg | exact Int.not_lt.2 wrapu_nn | (split <;> exact Int.not_lt.2 wrapu_nonneg) | exact Int.not_lt.2 (Int.tmod_nonneg _ (by assumption)) | exact Int.not_lt.2 (Int.tmod_nonneg _ wrapu_nonneg) | exact Int.not_lt.2 bits_nonneg | omega | (rw [wrap_i64_id (by omega) (by omega)]; omega))) : decide ((if (IntKind.u64.wrap (c - 1)) < (IntKind.u64.wrap (v1 + b)) then (IntKind.u64.wrap (c - 1)) else (IntKind.u64.wrap (v1 + b))) < 0) = false) (ai ((df (Int.not_lt.2 (by assumption))) : decide (v1 < 0) = false) trivial))) (by kernel_rfl)) H.2⟩
      | ret r => exact lg_next (cg_of mix O_ 400 [t0, f0, (1, false)] ([true, true, true, false, false, false, true, true, true], []) (ai (dt h0) (ai ((df (by first | exact len64_nn | (rw [tab_size]; exact u8_in) | exact nz1 (by assumption) (by assumption) | exact nz2 (by assumption) (by assumption) (by assumption) | exact Int.not_lt.2 wrapu_nonneg | exact Int.not_lt.2 wrapu_nn | (split <;> exact Int.not_lt.2 wrapu_nonneg) | exact Int.not_lt.2 (Int.tmod_nonneg _ (by assumption)) | exact Int.not_lt.2 (Int.tmod_nonneg _ wrapu_nonneg) | exact Int.not_lt.2 bits_nonneg | omega | (rw [wrap_i64_id (by omega) (by omega)]; omega))) : decide ((if (IntKind.u64.wrap (c - 1)) < (IntKind.u64.wrap (v1 + b)) then (IntKind.u64.wrap (c - 1)) else (IntKind.u64.wrap (v1 + b))) < 0) = false) (ai ((df (Int.not_lt.2 (by assumption))) : decide (v1 < 0) = false) trivial))) (by kernel_rfl)) H
    · rw [if_neg h0] at h
      cases h
      exact ⟨(by first | assumption | (exact wrapu_nonneg)), lg_exit (cg_of mix O_ 400 [f0] ([true, true, true, false, false, false, true, true, true], []) (ai (df h0) trivial) (by kernel_rfl))⟩
theorem K_lockgateref03_down : Keeps Tryz.prog 181 (F3 (cI .u64) (cI .u64) (cI .u64) (cI .u64) (fun _ _ c => [(decide (c ≤ 64), true)]) lockgateref03_down) := by
  refine keeps3 _ _ _ _ (enters_of Tryz.func181 (by kernel_rfl)) fun a b c hp_ => ?_
  have p0 := of_decide_eq_true hp_.1
  unfold lockgateref03_down
  cases hL : lockgateref03_down_L a b c 65 0 0 with
  | none => exact absurd hL (T_lockgateref03_down a b c p0)
  | some o =>
    have H := L_lockgateref03_down 65 a b c 0 0 (by decide) o hL
    cases o with
    | ret r => exact gives_cg (s' := lockgateref03_down_F r) Tryz.func181 rfl rfl (cg_seq (s1 := ⟨[.int .u64 a, .int .u64 b, .int .u64 c, .tup [], .tup [], .tup [], .int .u64 0, .tup [], .tup [], .tup [], .tup [], .tup [], .tup [], .tup [], .tup [], .tup [], .tup [], .tup [], .tup [], .tup [], .tup [], .tup [], .tup [], .tup [], .tup [], .tup [], .tup [], .tup [], .tup [], .tup []], []⟩) (cg_of mix on_ 400 [] ([true, true, true, true, true, true, true, true, true, true, true, true, true, true, true, true, true, true, true, true, true, true, true, true, true, true, true, true, true, true], []) trivial (by kernel_rfl)) (cg_seq (s1 := ⟨[.int .u64 a, .int .u64 b, .int .u64 c, .tup [], .tup [], .tup [], .int .u64 0, .int .u64 0, .tup [], .tup [], .tup [], .tup [], .tup [], .tup [], .tup [], .tup [], .tup [], .tup [], .tup [], .tup [], .tup [], .tup [], .tup [], .tup [], .tup [], .tup [], .tup [], .tup [], .tup [], .tup []], []⟩) (cg_of mix on_ 400 [] ([true, true, true, true, true, true, true, true, true, true, true, true, true, true, true, true, true, true, true, true, true, true, true, true, true, true, true, true, true, true], []) trivial (by kernel_rfl)) (cg_seq_ret (cg_seq (cg_of mix on_ 400 [] ([true, true, true, false, false, false, true, true, true], []) trivial (by kernel_rfl)) (cg_block_ret (cg_loop H)))))) rfl (by kernel_rfl)
    | brk z =>
      obtain ⟨e0, H⟩ := H
      exact gives_cg (s' := lockgateref03_down_F z.1) Tryz.func181 rfl rfl (cg_seq (s1 := ⟨[.int .u64 a, .int .u64 b, .int .u64 c, .tup [], .tup [], .tup [], .int .u64 0, .tup [], .tup [], .tup [], .tup [], .tup [], .tup [], .tup [], .tup [], .tup [], .tup [], .tup [], .tup [], .tup [], .tup [], .tup [], .tup [], .tup [], .tup [], .tup [], .tup [], .tup [], .tup [], .tup []], []⟩) (cg_of mix on_ 400 [] ([true, true, true, true, true, true, true, true, true, true, true, true, true, true, true, true, true, true, true, true, true, true, true, true, true, true, true, true, true, true], []) trivial (by kernel_rfl)) (cg_seq (s1 := ⟨[.int .u64 a, .int .u64 b, .int .u64 c, .tup [], .tup [], .tup [], .int .u64 0, .int .u64 0, .tup [], .tup [], .tup [], .tup [], .tup [], .tup [], .tup [], .tup [], .tup [], .tup [], .tup [], .tup [], .tup [], .tup [], .tup [], .tup [], .tup [], .tup [], .tup [], .tup [], .tup [], .tup []], []⟩) (cg_of mix on_ 400 [] ([true, true, true, true, true, true, true, true, true, true, true, true, true, true, true, true, true, true, true, true, true, true, true, true, true, true, true, true, true, true], []) trivial (by kernel_rfl)) (cg_seq (cg_seq (cg_of mix on_ 400 [] ([true, true, true, false, false, false, true, true, true], []) trivial (by kernel_rfl)) (cg_block (cg_loop H))) (cg_of mix on_ 400 [] ([false, false, false, false, false, false, true], []) trivial (by kernel_rfl))))) rfl (by kernel_rfl)
theorem L_lockgateref04_full : ∀ (n : Nat) (a : Int) (v0 : Int) (o : Out (Int) Int), lockgateref04_full_L a n v0 = some o → (match o with
  | .brk z => LG Tryz.prog (inn (inn (fst (snd (snd (bodyOf Tryz.f187)))))) n (lockgateref04_full_I a v0) (.exit 0) (lockgateref04_full_I a z)
  | .ret r => LG Tryz.prog (inn (inn (fst (snd (snd (bodyOf Tryz.f187)))))) n (lockgateref04_full_I a v0) .ret (lockgateref04_full_F r)) := by
  intro n
  have O_ := on_
  induction n with
  | zero => intro a v0 o h; simp only [lockgateref04_full_L] at h; cases h
  | succ n ih =>
    intro a v0 o h
    rw [lockgateref04_full_L] at h
    by_cases h0 : v0 < a
    · rw [if_pos h0] at h
      have H := ih a (IntKind.u64.wrap ((IntKind.u64.wrap (2 * v0)) + 1)) o h
      cases o with
      | brk z => exact lg_next (cg_of mix O_ 400 [t0] ([true, false, true, true], []) (ai (dt h0) trivial) (by kernel_rfl)) H
      | ret r => exact lg_next (cg_of mix O_ 400 [t0] ([true, false, true, true], []) (ai (dt h0) trivial) (by kernel_rfl)) H
    · rw [if_neg h0] at h
      cases h
      exact lg_exit (cg_of mix O_ 400 [f0] ([true, false, true, true], []) (ai (df h0) trivial) (by kernel_rfl))
theorem K_lockgateref04_full : Keeps Tryz.prog 187 (F1 (cI .u64) (cI .u64) (fun a => [(decide (a < 18446744073709551616), true)]) lockgateref04_full) := by
  refine keeps1 _ _ (enters_of Tryz.func187 (by kernel_rfl)) fun a hp_ => ?_
  have p0 := of_decide_eq_true hp_.1
  unfold lockgateref04_full
  cases hL : lockgateref04_full_L a 66 0 with
  | none => exact absurd hL (T_lockgateref04_full a p0)
  | some o =>
    have H := L_lockgateref04_full 66 a 0 o hL
    cases o with
    | ret r => exact gives_cg (s' := lockgateref04_full_F r) Tryz.func187 rfl rfl (cg_seq (s1 := ⟨[.int .u64 a, .tup [], .int .u64 0, .tup [], .tup [], .tup [], .tup [], .tup [], .tup [], .tup [], .tup []], []⟩) (cg_of mix on_ 400 [] ([true, true, true, true, true, true, true, true, true, true, true], []) trivial (by kernel_rfl)) (cg_seq (cg_of mix on_ 400 [] ([true, false, true, true], []) trivial (by kernel_rfl)) (cg_seq_ret (cg_block_ret (cg_loop H))))) rfl (by kernel_rfl)
    | brk z =>
      exact gives_cg (s' := lockgateref04_full_F z) Tryz.func187 rfl rfl (cg_seq (s1 := ⟨[.int .u64 a, .tup [], .int .u64 0, .tup [], .tup [], .tup [], .tup [], .tup [], .tup [], .tup [], .tup []], []⟩) (cg_of mix on_ 400 [] ([true, true, true, true, true, true, true, true, true, true, true], []) trivial (by kernel_rfl)) (cg_seq (cg_of mix on_ 400 [] ([true, false, true, true], []) trivial (by kernel_rfl)) (cg_seq (cg_block (cg_loop H)) (cg_of mix on_ 400 [] ([false, false, true], []) trivial (by kernel_rfl))))) rfl (by kernel_rfl)
end Go.Proofs.T
