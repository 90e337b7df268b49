/-
  The functions of the program keep their contracts: what they make is what the functions of plain data say.
-/
import Derived.Test.YtneejoienmffmaaGreatD
import Derived.Test.YtneejoienmffmaaGreatMT2
import Derived.Test.YtneejoienmffmaaGreatC3b
import Derived.KernelRfl
set_option linter.unusedVariables false
set_option maxRecDepth 100000
namespace Go.Proofs.T
open Go Go.Proofs Go.Proofs.SX
theorem L_tnum_Mul : ∀ (n : Nat) (a : Tn) (b : Tn) (v0 : Int) (v1 : Int) (v2 : Int) (v3 : Int) (v4 : Int) (v5 : Int) (o : Out (Int × Int × Int × Int × Int × Int) Tn), tnum_Mul_L a b n v0 v1 v2 v3 v4 v5 = some o → (match o with
  | .brk z => LG Tryz.prog (inn (inn (fst (snd (snd (bodyOf Tryz.f106)))))) n (tnum_Mul_I a b v0 v1 v2 v3 v4 v5) (.exit 0) (tnum_Mul_I a b z.1 z.2.1 z.2.2.1 z.2.2.2.1 z.2.2.2.2.1 z.2.2.2.2.2)
  | .ret r => LG Tryz.prog (inn (inn (fst (snd (snd (bodyOf Tryz.f106)))))) n (tnum_Mul_I a b v0 v1 v2 v3 v4 v5) .ret (tnum_Mul_F r)) := by
  intro n
  have O_ := (orc_cons K_tnum_Rsh (orc_cons K_tnum_Lsh (orc_cons K_tnum_Add on_)))
  induction n with
  | zero => intro a b v0 v1 v2 v3 v4 v5 o h; simp only [tnum_Mul_L] at h; cases h
  | succ n ih =>
    intro a b v0 v1 v2 v3 v4 v5 o h
    rw [tnum_Mul_L] at h
    by_cases h0 : ((v0 == 0) && (v1 == 0)) = true
    · rw [if_pos h0] at h
      cases h
      exact lg_exit (cg_of mix O_ 400 [f0] ([true, true, true, true, true, true, true, true, true, true, true, true, true, true], [true, true, true, true, true]) (ai (cn h0) trivial) (by kernel_rfl))
    · rw [if_neg h0] at h
      by_cases h1 : (Go.bits .and .u64 v0 1) = 0
      · rw [if_pos h1] at h
        by_cases h2 : (Go.bits .and .u64 v1 1) = 0
        · rw [if_pos h2] at h
          have H := ih a b ((tnum_Rsh (⟨v0, v1⟩ : Tn) 1).v) ((tnum_Rsh (⟨v0, v1⟩ : Tn) 1).m) ((tnum_Lsh (⟨v2, v3⟩ : Tn) 1).v) ((tnum_Lsh (⟨v2, v3⟩ : Tn) 1).m) v4 v5 o h
          cases o with
          | brk z => exact lg_next (cg_of mix O_ 400 [t0, f0, f0] ([true, true, true, true, true, true, true, true, true, true, true, true, true, true], [true, true, true, true, true]) (ai (cn (bf h0)) (ai (bne_eq_false_iff_eq.2 h1) (ai (bne_eq_false_iff_eq.2 h2) trivial))) (by kernel_rfl)) H
          | ret r => exact lg_next (cg_of mix O_ 400 [t0, f0, f0] ([true, true, true, true, true, true, true, true, true, true, true, true, true, true], [true, true, true, true, true]) (ai (cn (bf h0)) (ai (bne_eq_false_iff_eq.2 h1) (ai (bne_eq_false_iff_eq.2 h2) trivial))) (by kernel_rfl)) H
        · rw [if_neg h2] at h
          have H := ih a b ((tnum_Rsh (⟨v0, v1⟩ : Tn) 1).v) ((tnum_Rsh (⟨v0, v1⟩ : Tn) 1).m) ((tnum_Lsh (⟨v2, v3⟩ : Tn) 1).v) ((tnum_Lsh (⟨v2, v3⟩ : Tn) 1).m) ((tnum_Add (⟨v4, v5⟩ : Tn) (⟨0, (Go.bits .or .u64 v2 v3)⟩ : Tn)).v) ((tnum_Add (⟨v4, v5⟩ : Tn) (⟨0, (Go.bits .or .u64 v2 v3)⟩ : Tn)).m) o h
          cases o with
          | brk z => exact lg_next (cg_of mix O_ 400 [t0, f0, t0] ([true, true, true, true, true, true, true, true, true, true, true, true, true, true], [true, true, true, true, true]) (ai (cn (bf h0)) (ai (bne_eq_false_iff_eq.2 h1) (ai (bne_iff_ne.2 h2) trivial))) (by kernel_rfl)) H
          | ret r => exact lg_next (cg_of mix O_ 400 [t0, f0, t0] ([true, true, true, true, true, true, true, true, true, true, true, true, true, true], [true, true, true, true, true]) (ai (cn (bf h0)) (ai (bne_eq_false_iff_eq.2 h1) (ai (bne_iff_ne.2 h2) trivial))) (by kernel_rfl)) H
      · rw [if_neg h1] at h
        have H := ih a b ((tnum_Rsh (⟨v0, v1⟩ : Tn) 1).v) ((tnum_Rsh (⟨v0, v1⟩ : Tn) 1).m) ((tnum_Lsh (⟨v2, v3⟩ : Tn) 1).v) ((tnum_Lsh (⟨v2, v3⟩ : Tn) 1).m) ((tnum_Add (⟨v4, v5⟩ : Tn) (⟨0, v3⟩ : Tn)).v) ((tnum_Add (⟨v4, v5⟩ : Tn) (⟨0, v3⟩ : Tn)).m) o h
        cases o with
        | brk z => exact lg_next (cg_of mix O_ 400 [t0, t0] ([true, true, true, true, true, true, true, true, true, true, true, true, true, true], [true, true, true, true, true]) (ai (cn (bf h0)) (ai (bne_iff_ne.2 h1) trivial)) (by kernel_rfl)) H
        | ret r => exact lg_next (cg_of mix O_ 400 [t0, t0] ([true, true, true, true, true, true, true, true, true, true, true, true, true, true], [true, true, true, true, true]) (ai (cn (bf h0)) (ai (bne_iff_ne.2 h1) trivial)) (by kernel_rfl)) H
theorem K_tnum_Mul : Keeps Tryz.prog 106 (F2 cTn cTn cTn (fun a _ => [(okTn a, true)]) tnum_Mul) := by
  refine keeps2 _ _ _ (enters_of Tryz.func106 (by kernel_rfl)) fun a b hp_ => ?_
  have p0 := hp_.1
  unfold tnum_Mul
  cases hL : tnum_Mul_L a b 66 a.v a.m b.v b.m ((tnum_Of 0).v) ((tnum_Of 0).m) with
  | none => exact absurd hL (T_tnum_Mul a b p0)
  | some o =>
    have H := L_tnum_Mul 66 a b a.v a.m b.v b.m ((tnum_Of 0).v) ((tnum_Of 0).m) o hL
    cases o with
    | ret r => exact gives_cg (s' := tnum_Mul_F r) Tryz.func106 rfl rfl (cg_seq (s1 := ⟨[.agg [.int .u64 a.v, .int .u64 a.m], .agg [.int .u64 b.v, .int .u64 b.m], .ptr 0 0, .ptr 1 0, .ptr 2 0, .tup [], .tup [], .tup [], .tup [], .tup [], .tup [], .tup [], .tup [], .tup [], .tup [], .tup [], .tup [], .tup [], .tup [], .tup [], .tup [], .tup [], .tup [], .tup [], .tup [], .tup [], .tup [], .tup [], .tup [], .tup [], .tup [], .tup [], .tup [], .tup [], .tup [], .tup [], .tup [], .tup [], .tup [], .tup [], .tup [], .tup [], .tup [], .tup [], .tup [], .tup [], .tup []], [.cells [.int .u64 a.v, .int .u64 a.m], .cells [.int .u64 b.v, .int .u64 b.m], .cells [.int .u64 0, .int .u64 0]]⟩) (cg_of mix (orc_cons K_tnum_Of on_) 400 [] ([true, true, true, true, true, true, true, true, true, true, true, true, true, true, true, true, true, true, true, true, true, true, true, true, true, true, true, true, true, true, true, true, true, true, true, true, true, true, true, true, true, true, true, true, true, true, true], []) trivial (by kernel_rfl)) (cg_seq (cg_of mix (orc_cons K_tnum_Of on_) 400 [] ([true, true, true, true, true, true, true, true, true, true, true, true, true, true], [true, true, true, true, true]) trivial (by kernel_rfl)) (cg_seq_ret (cg_block_ret (cg_loop H))))) rfl (by kernel_rfl)
    | brk z =>
      exact gives_cg (s' := tnum_Mul_F (tnum_Add (tnum_Of (IntKind.u64.wrap (a.v * b.v))) (⟨z.2.2.2.2.1, z.2.2.2.2.2⟩ : Tn))) Tryz.func106 rfl rfl (cg_seq (s1 := ⟨[.agg [.int .u64 a.v, .int .u64 a.m], .agg [.int .u64 b.v, .int .u64 b.m], .ptr 0 0, .ptr 1 0, .ptr 2 0, .tup [], .tup [], .tup [], .tup [], .tup [], .tup [], .tup [], .tup [], .tup [], .tup [], .tup [], .tup [], .tup [], .tup [], .tup [], .tup [], .tup [], .tup [], .tup [], .tup [], .tup [], .tup [], .tup [], .tup [], .tup [], .tup [], .tup [], .tup [], .tup [], .tup [], .tup [], .tup [], .tup [], .tup [], .tup [], .tup [], .tup [], .tup [], .tup [], .tup [], .tup [], .tup []], [.cells [.int .u64 a.v, .int .u64 a.m], .cells [.int .u64 b.v, .int .u64 b.m], .cells [.int .u64 0, .int .u64 0]]⟩) (cg_of mix (orc_cons K_tnum_Of on_) 400 [] ([true, true, true, true, true, true, true, true, true, true, true, true, true, true, true, true, true, true, true, true, true, true, true, true, true, true, true, true, true, true, true, true, true, true, true, true, true, true, true, true, true, true, true, true, true, true, true], []) trivial (by kernel_rfl)) (cg_seq (cg_of mix (orc_cons K_tnum_Of on_) 400 [] ([true, true, true, true, true, true, true, true, true, true, true, true, true, true], [true, true, true, true, true]) trivial (by kernel_rfl)) (cg_seq (cg_block (cg_loop H)) (cg_of mix (orc_cons K_tnum_Add on_) 400 [] ([false, false, false, false, true], [false, false, true, false, false]) trivial (by kernel_rfl))))) rfl (by kernel_rfl)
theorem M_scalar_ways : Makes Tryz.prog 34 [(.int .i64 0, .agg [.func 100 [], .func 101 [], .func 102 []]), (.int .i64 1, .agg [.func 103 [], .func 104 [], .func 105 []]), (.int .i64 2, .agg [.func 106 [], .func 107 [], .nilf]), (.int .i64 3, .agg [.nilf, .func 108 [], .nilf]), (.int .i64 9, .agg [.nilf, .func 109 [], .nilf]), (.int .i64 4, .agg [.func 110 [], .func 111 [], .nilf]), (.int .i64 5, .agg [.func 112 [], .func 113 [], .nilf]), (.int .i64 10, .agg [.func 114 [], .nilf, .nilf])] := makes mix orc_nil 400 (by kernel_rfl)
theorem wnok {a : Int} {b : Bool} (n0 : ¬ a = 0) (n1 : ¬ a = 1) (n2 : ¬ a = 2) (n3 : ¬ a = 3) (n4 : ¬ a = 4) (n5 : ¬ a = 5) (n6 : ¬ a = 6) (n7 : ¬ a = 7) (n8 : ¬ a = 8) (n9 : ¬ a = 9) (n10 : ¬ a = 10) (n11 : ¬ a = 11) (n12 : ¬ a = 12) : (word_Alu a b 0 0).2 = false := by
  unfold word_Alu
  cases b <;> simp [n0, n1, n2, n3, n4, n5, n6, n7, n8, n9, n10, n11, n12]
theorem wok0 (b : Bool) : (word_Alu 0 b 0 0).2 = true := by cases b <;> decide
theorem wok1 (b : Bool) : (word_Alu 1 b 0 0).2 = true := by cases b <;> decide
theorem wok2 (b : Bool) : (word_Alu 2 b 0 0).2 = true := by cases b <;> decide
theorem wok3 (b : Bool) : (word_Alu 3 b 0 0).2 = true := by cases b <;> decide
theorem wok4 (b : Bool) : (word_Alu 4 b 0 0).2 = true := by cases b <;> decide
theorem wok5 (b : Bool) : (word_Alu 5 b 0 0).2 = true := by cases b <;> decide
theorem wok6 (b : Bool) : (word_Alu 6 b 0 0).2 = true := by cases b <;> decide
theorem wok7 (b : Bool) : (word_Alu 7 b 0 0).2 = true := by cases b <;> decide
theorem wok8 (b : Bool) : (word_Alu 8 b 0 0).2 = true := by cases b <;> decide
theorem wok9 (b : Bool) : (word_Alu 9 b 0 0).2 = true := by cases b <;> decide
theorem wok10 (b : Bool) : (word_Alu 10 b 0 0).2 = true := by cases b <;> decide
theorem wok11 (b : Bool) : (word_Alu 11 b 0 0).2 = true := by cases b <;> decide
theorem wok12 (b : Bool) : (word_Alu 12 b 0 0).2 = true := by cases b <;> decide
theorem G_scalar_Alu_0 (b : Bool) (c : Sc) (d : Sc) (p0 : okSc c = true) (p1 : okSc d = true) : Gives Tryz.prog 8 [(cI .i64).enc 0, cB.enc b, cSc.enc c, cSc.enc d] (cSc.enc (scalar_Alu_0 b c d)) := by
  unfold scalar_Alu_0
  have O_ := (orc_cons K_word_Alu (orc_cons K_scalar_Is (orc_cons K_scalar_Of (orc_cons K_scalar_Any (orc_cons K_tnum_Add (orc_cons K_span_UAdd (orc_cons K_span_SAdd (orc_cons K_scalar_settle (orc_map M_scalar_ways on_)))))))))
  refine gite (fun h0 => ?_) (fun h0 => ?_)
  · refine gite (fun h1 => ?_) (fun h1 => ?_)
    · refine gite (fun h2 => ?_) (fun h2 => ?_)
      · exact gv mix O_ 400 [f0, f0, t0, t0, t0, (2, true), t0, (1, true)] (ai ((by decide) : decide (0 ≤ 0) = true) (ai (cn (wok0 b)) (ai (cn h0) (a3 h1 (a3 h2 (ai ((by first | assumption | exact okT_of (by assumption) | exact okT_of (ok_settle (by assumption)) | exact is_nn (by assumption) | exact is_nn (ok_settle (by assumption)) | exact ok_settle (by assumption) | exact w32_le h0 | exact w64_le h0 | exact w64_le h1 | exact w32_le h1 | exact ne32 h0 | exact ne64 h0 | exact ne64 h1 | exact ne32 h1 | decide | (simp_all; done)) : decide (0 ≤ (scalar_Is d).1) = true) trivial)))))) (by kernel_rfl) rfl rfl
      · exact gv mix O_ 400 [f0, f0, t0, t0, t0, (2, false), f0, (1, false)] (ai ((by decide) : decide (0 ≤ 0) = true) (ai (cn (wok0 b)) (ai (cn h0) (a3 h1 (a3 (bf h2) trivial))))) (by kernel_rfl) rfl rfl
    · exact gv mix O_ 400 [f0, f0, f0, f0, f0] (ai ((by decide) : decide (0 ≤ 0) = true) (ai (cn (wok0 b)) (ai (cn h0) (a3 (bf h1) trivial)))) (by kernel_rfl) rfl rfl
  · refine gite (fun h1 => ?_) (fun h1 => ?_)
    · refine gite (fun h2 => ?_) (fun h2 => ?_)
      · exact gv mix O_ 400 [f0, t0, t0, t0, t0, (2, true), t0, (1, true)] (ai ((by decide) : decide (0 ≤ 0) = true) (ai (cn (wok0 b)) (ai (cn (bf h0)) (a3 h1 (a3 h2 (ai ((by first | assumption | exact okT_of (by assumption) | exact okT_of (ok_settle (by assumption)) | exact is_nn (by assumption) | exact is_nn (ok_settle (by assumption)) | exact ok_settle (by assumption) | exact w32_le h0 | exact w64_le h0 | exact w64_le h1 | exact w32_le h1 | exact ne32 h0 | exact ne64 h0 | exact ne64 h1 | exact ne32 h1 | decide | (simp_all; done)) : decide (0 ≤ (scalar_Is (scalar_settle d false)).1) = true) trivial)))))) (by kernel_rfl) rfl rfl
      · exact gv mix O_ 400 [f0, t0, t0, t0, t0, (2, false), f0, (1, false)] (ai ((by decide) : decide (0 ≤ 0) = true) (ai (cn (wok0 b)) (ai (cn (bf h0)) (a3 h1 (a3 (bf h2) trivial))))) (by kernel_rfl) rfl rfl
    · exact gv mix O_ 400 [f0, t0, f0, f0, f0] (ai ((by decide) : decide (0 ≤ 0) = true) (ai (cn (wok0 b)) (ai (cn (bf h0)) (a3 (bf h1) trivial)))) (by kernel_rfl) rfl rfl
theorem G_scalar_Alu_1 (b : Bool) (c : Sc) (d : Sc) (p0 : okSc c = true) (p1 : okSc d = true) : Gives Tryz.prog 8 [(cI .i64).enc 1, cB.enc b, cSc.enc c, cSc.enc d] (cSc.enc (scalar_Alu_1 b c d)) := by
  unfold scalar_Alu_1
  have O_ := (orc_cons K_word_Alu (orc_cons K_scalar_Is (orc_cons K_scalar_Of (orc_cons K_scalar_Any (orc_cons K_tnum_Sub (orc_cons K_span_USub (orc_cons K_span_SSub (orc_cons K_scalar_settle (orc_map M_scalar_ways on_)))))))))
  refine gite (fun h0 => ?_) (fun h0 => ?_)
  · refine gite (fun h1 => ?_) (fun h1 => ?_)
    · refine gite (fun h2 => ?_) (fun h2 => ?_)
      · exact gv mix O_ 400 [f0, f0, t0, t0, t0, (2, true), t0, (1, true)] (ai ((by decide) : decide (0 ≤ 0) = true) (ai (cn (wok1 b)) (ai (cn h0) (a3 h1 (a3 h2 (ai ((by first | assumption | exact okT_of (by assumption) | exact okT_of (ok_settle (by assumption)) | exact is_nn (by assumption) | exact is_nn (ok_settle (by assumption)) | exact ok_settle (by assumption) | exact w32_le h0 | exact w64_le h0 | exact w64_le h1 | exact w32_le h1 | exact ne32 h0 | exact ne64 h0 | exact ne64 h1 | exact ne32 h1 | decide | (simp_all; done)) : decide (0 ≤ (scalar_Is d).1) = true) trivial)))))) (by kernel_rfl) rfl rfl
      · exact gv mix O_ 400 [f0, f0, t0, t0, t0, (2, false), f0, (1, false)] (ai ((by decide) : decide (0 ≤ 0) = true) (ai (cn (wok1 b)) (ai (cn h0) (a3 h1 (a3 (bf h2) trivial))))) (by kernel_rfl) rfl rfl
    · exact gv mix O_ 400 [f0, f0, f0, f0, f0] (ai ((by decide) : decide (0 ≤ 0) = true) (ai (cn (wok1 b)) (ai (cn h0) (a3 (bf h1) trivial)))) (by kernel_rfl) rfl rfl
  · refine gite (fun h1 => ?_) (fun h1 => ?_)
    · refine gite (fun h2 => ?_) (fun h2 => ?_)
      · exact gv mix O_ 400 [f0, t0, t0, t0, t0, (2, true), t0, (1, true)] (ai ((by decide) : decide (0 ≤ 0) = true) (ai (cn (wok1 b)) (ai (cn (bf h0)) (a3 h1 (a3 h2 (ai ((by first | assumption | exact okT_of (by assumption) | exact okT_of (ok_settle (by assumption)) | exact is_nn (by assumption) | exact is_nn (ok_settle (by assumption)) | exact ok_settle (by assumption) | exact w32_le h0 | exact w64_le h0 | exact w64_le h1 | exact w32_le h1 | exact ne32 h0 | exact ne64 h0 | exact ne64 h1 | exact ne32 h1 | decide | (simp_all; done)) : decide (0 ≤ (scalar_Is (scalar_settle d false)).1) = true) trivial)))))) (by kernel_rfl) rfl rfl
      · exact gv mix O_ 400 [f0, t0, t0, t0, t0, (2, false), f0, (1, false)] (ai ((by decide) : decide (0 ≤ 0) = true) (ai (cn (wok1 b)) (ai (cn (bf h0)) (a3 h1 (a3 (bf h2) trivial))))) (by kernel_rfl) rfl rfl
    · exact gv mix O_ 400 [f0, t0, f0, f0, f0] (ai ((by decide) : decide (0 ≤ 0) = true) (ai (cn (wok1 b)) (ai (cn (bf h0)) (a3 (bf h1) trivial)))) (by kernel_rfl) rfl rfl
theorem K_scalar_Alu_1 : Keeps Tryz.prog 8 (F4 (cI .i64) cB cSc cSc cSc (fun a _ c d => [(decide (a = 1), true), (okSc c, true), (okSc d, true)]) (fun _ b c d => scalar_Alu_1 b c d)) := by
  refine keeps4 _ _ _ _ _ (enters_of Tryz.func8 (by kernel_rfl)) fun a b c d hp_ => ?_
  have p0 := of_decide_eq_true hp_.1
  subst p0
  have p1 := hp_.2.1
  have p2 := hp_.2.2.1
  exact G_scalar_Alu_1 b c d p1 p2
theorem G_scalar_Alu_2 (b : Bool) (c : Sc) (d : Sc) (p0 : okSc c = true) (p1 : okSc d = true) : Gives Tryz.prog 8 [(cI .i64).enc 2, cB.enc b, cSc.enc c, cSc.enc d] (cSc.enc (scalar_Alu_2 b c d)) := by
  unfold scalar_Alu_2
  have O_ := (orc_cons K_word_Alu (orc_cons K_scalar_Is (orc_cons K_scalar_Of (orc_cons K_scalar_Any (orc_cons K_tnum_Mul (orc_cons K_span_UMul (orc_cons K_scalar_settle (orc_map M_scalar_ways on_))))))))
  refine gite (fun h0 => ?_) (fun h0 => ?_)
  · refine gite (fun h1 => ?_) (fun h1 => ?_)
    · refine gite (fun h2 => ?_) (fun h2 => ?_)
      · exact gv mix O_ 400 [f0, f0, t0, t0, t0, (2, true), t0, (1, true)] (ai ((by decide) : decide (0 ≤ 0) = true) (ai (cn (wok2 b)) (ai (cn h0) (a3 h1 (a3 h2 (ai ((by first | assumption | exact okT_of (by assumption) | exact okT_of (ok_settle (by assumption)) | exact is_nn (by assumption) | exact is_nn (ok_settle (by assumption)) | exact ok_settle (by assumption) | exact w32_le h0 | exact w64_le h0 | exact w64_le h1 | exact w32_le h1 | exact ne32 h0 | exact ne64 h0 | exact ne64 h1 | exact ne32 h1 | decide | (simp_all; done)) : decide (0 ≤ (scalar_Is d).1) = true) trivial)))))) (by kernel_rfl) rfl rfl
      · exact gv mix O_ 400 [f0, f0, t0, t0, t0, (2, false), f0, (1, false)] (ai ((by decide) : decide (0 ≤ 0) = true) (ai (cn (wok2 b)) (ai (cn h0) (a3 h1 (a3 (bf h2) (ai ((by first | assumption | exact okT_of (by assumption) | exact okT_of (ok_settle (by assumption)) | exact is_nn (by assumption) | exact is_nn (ok_settle (by assumption)) | exact ok_settle (by assumption) | exact w32_le h0 | exact w64_le h0 | exact w64_le h1 | exact w32_le h1 | exact ne32 h0 | exact ne64 h0 | exact ne64 h1 | exact ne32 h1 | decide | (simp_all; done)) : okTn c.t = true) trivial)))))) (by kernel_rfl) rfl rfl
    · exact gv mix O_ 400 [f0, f0, f0, f0, f0] (ai ((by decide) : decide (0 ≤ 0) = true) (ai (cn (wok2 b)) (ai (cn h0) (a3 (bf h1) (ai ((by first | assumption | exact okT_of (by assumption) | exact okT_of (ok_settle (by assumption)) | exact is_nn (by assumption) | exact is_nn (ok_settle (by assumption)) | exact ok_settle (by assumption) | exact w32_le h0 | exact w64_le h0 | exact w64_le h1 | exact w32_le h1 | exact ne32 h0 | exact ne64 h0 | exact ne64 h1 | exact ne32 h1 | decide | (simp_all; done)) : okTn c.t = true) trivial))))) (by kernel_rfl) rfl rfl
  · refine gite (fun h1 => ?_) (fun h1 => ?_)
    · refine gite (fun h2 => ?_) (fun h2 => ?_)
      · exact gv mix O_ 400 [f0, t0, t0, t0, t0, (2, true), t0, (1, true)] (ai ((by decide) : decide (0 ≤ 0) = true) (ai (cn (wok2 b)) (ai (cn (bf h0)) (a3 h1 (a3 h2 (ai ((by first | assumption | exact okT_of (by assumption) | exact okT_of (ok_settle (by assumption)) | exact is_nn (by assumption) | exact is_nn (ok_settle (by assumption)) | exact ok_settle (by assumption) | exact w32_le h0 | exact w64_le h0 | exact w64_le h1 | exact w32_le h1 | exact ne32 h0 | exact ne64 h0 | exact ne64 h1 | exact ne32 h1 | decide | (simp_all; done)) : decide (0 ≤ (scalar_Is (scalar_settle d false)).1) = true) trivial)))))) (by kernel_rfl) rfl rfl
      · exact gv mix O_ 400 [f0, t0, t0, t0, t0, (2, false), f0, (1, false)] (ai ((by decide) : decide (0 ≤ 0) = true) (ai (cn (wok2 b)) (ai (cn (bf h0)) (a3 h1 (a3 (bf h2) (ai ((by first | assumption | exact okT_of (by assumption) | exact okT_of (ok_settle (by assumption)) | exact is_nn (by assumption) | exact is_nn (ok_settle (by assumption)) | exact ok_settle (by assumption) | exact w32_le h0 | exact w64_le h0 | exact w64_le h1 | exact w32_le h1 | exact ne32 h0 | exact ne64 h0 | exact ne64 h1 | exact ne32 h1 | decide | (simp_all; done)) : okTn (scalar_settle c false).t = true) trivial)))))) (by kernel_rfl) rfl rfl
    · exact gv mix O_ 400 [f0, t0, f0, f0, f0] (ai ((by decide) : decide (0 ≤ 0) = true) (ai (cn (wok2 b)) (ai (cn (bf h0)) (a3 (bf h1) (ai ((by first | assumption | exact okT_of (by assumption) | exact okT_of (ok_settle (by assumption)) | exact is_nn (by assumption) | exact is_nn (ok_settle (by assumption)) | exact ok_settle (by assumption) | exact w32_le h0 | exact w64_le h0 | exact w64_le h1 | exact w32_le h1 | exact ne32 h0 | exact ne64 h0 | exact ne64 h1 | exact ne32 h1 | decide | (simp_all; done)) : okTn (scalar_settle c false).t = true) trivial))))) (by kernel_rfl) rfl rfl
theorem G_scalar_Alu_3 (b : Bool) (c : Sc) (d : Sc) (p0 : okSc c = true) (p1 : okSc d = true) : Gives Tryz.prog 8 [(cI .i64).enc 3, cB.enc b, cSc.enc c, cSc.enc d] (cSc.enc (scalar_Alu_3 b c d)) := by
  unfold scalar_Alu_3
  have O_ := (orc_cons K_word_Alu (orc_cons K_scalar_Is (orc_cons K_scalar_Of (orc_cons K_scalar_Any (orc_cons K_span_UDiv (orc_cons K_scalar_settle (orc_map M_scalar_ways on_)))))))
  refine gite (fun h0 => ?_) (fun h0 => ?_)
  · refine gite (fun h1 => ?_) (fun h1 => ?_)
    · refine gite (fun h2 => ?_) (fun h2 => ?_)
      · exact gv mix O_ 400 [f0, f0, t0, t0, t0, (2, true), t0, (1, true)] (ai ((by decide) : decide (0 ≤ 0) = true) (ai (cn (wok3 b)) (ai (cn h0) (a3 h1 (a3 h2 (ai ((by first | assumption | exact okT_of (by assumption) | exact okT_of (ok_settle (by assumption)) | exact is_nn (by assumption) | exact is_nn (ok_settle (by assumption)) | exact ok_settle (by assumption) | exact w32_le h0 | exact w64_le h0 | exact w64_le h1 | exact w32_le h1 | exact ne32 h0 | exact ne64 h0 | exact ne64 h1 | exact ne32 h1 | decide | (simp_all; done)) : decide (0 ≤ (scalar_Is d).1) = true) trivial)))))) (by kernel_rfl) rfl rfl
      · exact gv mix O_ 400 [f0, f0, t0, t0, t0, (2, false), f0, (1, false)] (ai ((by decide) : decide (0 ≤ 0) = true) (ai (cn (wok3 b)) (ai (cn h0) (a3 h1 (a3 (bf h2) trivial))))) (by kernel_rfl) rfl rfl
    · exact gv mix O_ 400 [f0, f0, f0, f0, f0] (ai ((by decide) : decide (0 ≤ 0) = true) (ai (cn (wok3 b)) (ai (cn h0) (a3 (bf h1) trivial)))) (by kernel_rfl) rfl rfl
  · refine gite (fun h1 => ?_) (fun h1 => ?_)
    · refine gite (fun h2 => ?_) (fun h2 => ?_)
      · exact gv mix O_ 400 [f0, t0, t0, t0, t0, (2, true), t0, (1, true)] (ai ((by decide) : decide (0 ≤ 0) = true) (ai (cn (wok3 b)) (ai (cn (bf h0)) (a3 h1 (a3 h2 (ai ((by first | assumption | exact okT_of (by assumption) | exact okT_of (ok_settle (by assumption)) | exact is_nn (by assumption) | exact is_nn (ok_settle (by assumption)) | exact ok_settle (by assumption) | exact w32_le h0 | exact w64_le h0 | exact w64_le h1 | exact w32_le h1 | exact ne32 h0 | exact ne64 h0 | exact ne64 h1 | exact ne32 h1 | decide | (simp_all; done)) : decide (0 ≤ (scalar_Is (scalar_settle d false)).1) = true) trivial)))))) (by kernel_rfl) rfl rfl
      · exact gv mix O_ 400 [f0, t0, t0, t0, t0, (2, false), f0, (1, false)] (ai ((by decide) : decide (0 ≤ 0) = true) (ai (cn (wok3 b)) (ai (cn (bf h0)) (a3 h1 (a3 (bf h2) trivial))))) (by kernel_rfl) rfl rfl
    · exact gv mix O_ 400 [f0, t0, f0, f0, f0] (ai ((by decide) : decide (0 ≤ 0) = true) (ai (cn (wok3 b)) (ai (cn (bf h0)) (a3 (bf h1) trivial)))) (by kernel_rfl) rfl rfl
theorem G_scalar_Alu_4 (b : Bool) (c : Sc) (d : Sc) (p0 : okSc c = true) (p1 : okSc d = true) : Gives Tryz.prog 8 [(cI .i64).enc 4, cB.enc b, cSc.enc c, cSc.enc d] (cSc.enc (scalar_Alu_4 b c d)) := by
  unfold scalar_Alu_4
  have O_ := (orc_cons K_word_Alu (orc_cons K_scalar_Is (orc_cons K_scalar_Of (orc_cons K_scalar_Any (orc_cons K_tnum_Or (orc_cons K_span_UOr (orc_cons K_scalar_settle (orc_map M_scalar_ways on_))))))))
  refine gite (fun h0 => ?_) (fun h0 => ?_)
  · refine gite (fun h1 => ?_) (fun h1 => ?_)
    · refine gite (fun h2 => ?_) (fun h2 => ?_)
      · exact gv mix O_ 400 [f0, f0, t0, t0, t0, (2, true), t0, (1, true)] (ai ((by decide) : decide (0 ≤ 0) = true) (ai (cn (wok4 b)) (ai (cn h0) (a3 h1 (a3 h2 (ai ((by first | assumption | exact okT_of (by assumption) | exact okT_of (ok_settle (by assumption)) | exact is_nn (by assumption) | exact is_nn (ok_settle (by assumption)) | exact ok_settle (by assumption) | exact w32_le h0 | exact w64_le h0 | exact w64_le h1 | exact w32_le h1 | exact ne32 h0 | exact ne64 h0 | exact ne64 h1 | exact ne32 h1 | decide | (simp_all; done)) : decide (0 ≤ (scalar_Is d).1) = true) trivial)))))) (by kernel_rfl) rfl rfl
      · exact gv mix O_ 400 [f0, f0, t0, t0, t0, (2, false), f0, (1, false)] (ai ((by decide) : decide (0 ≤ 0) = true) (ai (cn (wok4 b)) (ai (cn h0) (a3 h1 (a3 (bf h2) trivial))))) (by kernel_rfl) rfl rfl
    · exact gv mix O_ 400 [f0, f0, f0, f0, f0] (ai ((by decide) : decide (0 ≤ 0) = true) (ai (cn (wok4 b)) (ai (cn h0) (a3 (bf h1) trivial)))) (by kernel_rfl) rfl rfl
  · refine gite (fun h1 => ?_) (fun h1 => ?_)
    · refine gite (fun h2 => ?_) (fun h2 => ?_)
      · exact gv mix O_ 400 [f0, t0, t0, t0, t0, (2, true), t0, (1, true)] (ai ((by decide) : decide (0 ≤ 0) = true) (ai (cn (wok4 b)) (ai (cn (bf h0)) (a3 h1 (a3 h2 (ai ((by first | assumption | exact okT_of (by assumption) | exact okT_of (ok_settle (by assumption)) | exact is_nn (by assumption) | exact is_nn (ok_settle (by assumption)) | exact ok_settle (by assumption) | exact w32_le h0 | exact w64_le h0 | exact w64_le h1 | exact w32_le h1 | exact ne32 h0 | exact ne64 h0 | exact ne64 h1 | exact ne32 h1 | decide | (simp_all; done)) : decide (0 ≤ (scalar_Is (scalar_settle d false)).1) = true) trivial)))))) (by kernel_rfl) rfl rfl
      · exact gv mix O_ 400 [f0, t0, t0, t0, t0, (2, false), f0, (1, false)] (ai ((by decide) : decide (0 ≤ 0) = true) (ai (cn (wok4 b)) (ai (cn (bf h0)) (a3 h1 (a3 (bf h2) trivial))))) (by kernel_rfl) rfl rfl
    · exact gv mix O_ 400 [f0, t0, f0, f0, f0] (ai ((by decide) : decide (0 ≤ 0) = true) (ai (cn (wok4 b)) (ai (cn (bf h0)) (a3 (bf h1) trivial)))) (by kernel_rfl) rfl rfl
theorem G_scalar_Alu_5 (b : Bool) (c : Sc) (d : Sc) (p0 : okSc c = true) (p1 : okSc d = true) : Gives Tryz.prog 8 [(cI .i64).enc 5, cB.enc b, cSc.enc c, cSc.enc d] (cSc.enc (scalar_Alu_5 b c d)) := by
  unfold scalar_Alu_5
  have O_ := (orc_cons K_word_Alu (orc_cons K_scalar_Is (orc_cons K_scalar_Of (orc_cons K_scalar_Any (orc_cons K_tnum_And (orc_cons K_span_UAnd (orc_cons K_scalar_settle (orc_map M_scalar_ways on_))))))))
  refine gite (fun h0 => ?_) (fun h0 => ?_)
  · refine gite (fun h1 => ?_) (fun h1 => ?_)
    · refine gite (fun h2 => ?_) (fun h2 => ?_)
      · exact gv mix O_ 400 [f0, f0, t0, t0, t0, (2, true), t0, (1, true)] (ai ((by decide) : decide (0 ≤ 0) = true) (ai (cn (wok5 b)) (ai (cn h0) (a3 h1 (a3 h2 (ai ((by first | assumption | exact okT_of (by assumption) | exact okT_of (ok_settle (by assumption)) | exact is_nn (by assumption) | exact is_nn (ok_settle (by assumption)) | exact ok_settle (by assumption) | exact w32_le h0 | exact w64_le h0 | exact w64_le h1 | exact w32_le h1 | exact ne32 h0 | exact ne64 h0 | exact ne64 h1 | exact ne32 h1 | decide | (simp_all; done)) : decide (0 ≤ (scalar_Is d).1) = true) trivial)))))) (by kernel_rfl) rfl rfl
      · exact gv mix O_ 400 [f0, f0, t0, t0, t0, (2, false), f0, (1, false)] (ai ((by decide) : decide (0 ≤ 0) = true) (ai (cn (wok5 b)) (ai (cn h0) (a3 h1 (a3 (bf h2) trivial))))) (by kernel_rfl) rfl rfl
    · exact gv mix O_ 400 [f0, f0, f0, f0, f0] (ai ((by decide) : decide (0 ≤ 0) = true) (ai (cn (wok5 b)) (ai (cn h0) (a3 (bf h1) trivial)))) (by kernel_rfl) rfl rfl
  · refine gite (fun h1 => ?_) (fun h1 => ?_)
    · refine gite (fun h2 => ?_) (fun h2 => ?_)
      · exact gv mix O_ 400 [f0, t0, t0, t0, t0, (2, true), t0, (1, true)] (ai ((by decide) : decide (0 ≤ 0) = true) (ai (cn (wok5 b)) (ai (cn (bf h0)) (a3 h1 (a3 h2 (ai ((by first | assumption | exact okT_of (by assumption) | exact okT_of (ok_settle (by assumption)) | exact is_nn (by assumption) | exact is_nn (ok_settle (by assumption)) | exact ok_settle (by assumption) | exact w32_le h0 | exact w64_le h0 | exact w64_le h1 | exact w32_le h1 | exact ne32 h0 | exact ne64 h0 | exact ne64 h1 | exact ne32 h1 | decide | (simp_all; done)) : decide (0 ≤ (scalar_Is (scalar_settle d false)).1) = true) trivial)))))) (by kernel_rfl) rfl rfl
      · exact gv mix O_ 400 [f0, t0, t0, t0, t0, (2, false), f0, (1, false)] (ai ((by decide) : decide (0 ≤ 0) = true) (ai (cn (wok5 b)) (ai (cn (bf h0)) (a3 h1 (a3 (bf h2) trivial))))) (by kernel_rfl) rfl rfl
    · exact gv mix O_ 400 [f0, t0, f0, f0, f0] (ai ((by decide) : decide (0 ≤ 0) = true) (ai (cn (wok5 b)) (ai (cn (bf h0)) (a3 (bf h1) trivial)))) (by kernel_rfl) rfl rfl
theorem G_scalar_Alu_6 (b : Bool) (c : Sc) (d : Sc) (p0 : okSc c = true) (p1 : okSc d = true) : Gives Tryz.prog 8 [(cI .i64).enc 6, cB.enc b, cSc.enc c, cSc.enc d] (cSc.enc (scalar_Alu_6 b c d)) := by
  unfold scalar_Alu_6
  have O_ := (orc_cons K_word_Alu (orc_cons K_scalar_Is (orc_cons K_scalar_Of (orc_cons K_scalar_Any (orc_cons K_scalar_settle (orc_cons K_scalar_shift on_))))))
  refine gite (fun h0 => ?_) (fun h0 => ?_)
  · refine gite (fun h1 => ?_) (fun h1 => ?_)
    · refine gite (fun h2 => ?_) (fun h2 => ?_)
      · exact gv mix O_ 400 [f0, f0, t0, t0, t0, (2, true), t0, (1, true)] (ai ((by decide) : decide (0 ≤ 0) = true) (ai (cn (wok6 b)) (ai (cn h0) (a3 h1 (a3 h2 (ai ((by first | assumption | exact okT_of (by assumption) | exact okT_of (ok_settle (by assumption)) | exact is_nn (by assumption) | exact is_nn (ok_settle (by assumption)) | exact ok_settle (by assumption) | exact w32_le h0 | exact w64_le h0 | exact w64_le h1 | exact w32_le h1 | exact ne32 h0 | exact ne64 h0 | exact ne64 h1 | exact ne32 h1 | decide | (simp_all; done)) : decide (0 ≤ (scalar_Is d).1) = true) trivial)))))) (by kernel_rfl) rfl rfl
      · exact gv mix O_ 400 [f0, f0, t0, t0, t0, (2, false), f0, (1, false), (6, true)] (ai ((by decide) : decide (0 ≤ 0) = true) (ai (cn (wok6 b)) (ai (cn h0) (a3 h1 (a3 (bf h2) (ai (cn (bf h2)) trivial)))))) (by kernel_rfl) rfl rfl
    · refine gite (fun h2 => ?_) (fun h2 => ?_)
      · exact gv mix O_ 400 [f0, f0, f0, f0, f0, (9, false)] (ai ((by decide) : decide (0 ≤ 0) = true) (ai (cn (wok6 b)) (ai (cn h0) (a3 (bf h1) (ai (cn h2) trivial))))) (by kernel_rfl) rfl rfl
      · exact gv mix O_ 400 [f0, f0, f0, f0, f0, (9, true)] (ai ((by decide) : decide (0 ≤ 0) = true) (ai (cn (wok6 b)) (ai (cn h0) (a3 (bf h1) (ai (cn (bf h2)) trivial))))) (by kernel_rfl) rfl rfl
  · refine gite (fun h1 => ?_) (fun h1 => ?_)
    · refine gite (fun h2 => ?_) (fun h2 => ?_)
      · exact gv mix O_ 400 [f0, t0, t0, t0, t0, (2, true), t0, (1, true)] (ai ((by decide) : decide (0 ≤ 0) = true) (ai (cn (wok6 b)) (ai (cn (bf h0)) (a3 h1 (a3 h2 (ai ((by first | assumption | exact okT_of (by assumption) | exact okT_of (ok_settle (by assumption)) | exact is_nn (by assumption) | exact is_nn (ok_settle (by assumption)) | exact ok_settle (by assumption) | exact w32_le h0 | exact w64_le h0 | exact w64_le h1 | exact w32_le h1 | exact ne32 h0 | exact ne64 h0 | exact ne64 h1 | exact ne32 h1 | decide | (simp_all; done)) : decide (0 ≤ (scalar_Is (scalar_settle d false)).1) = true) trivial)))))) (by kernel_rfl) rfl rfl
      · exact gv mix O_ 400 [f0, t0, t0, t0, t0, (2, false), f0, (1, false), (6, true)] (ai ((by decide) : decide (0 ≤ 0) = true) (ai (cn (wok6 b)) (ai (cn (bf h0)) (a3 h1 (a3 (bf h2) (ai (cn (bf h2)) trivial)))))) (by kernel_rfl) rfl rfl
    · refine gite (fun h2 => ?_) (fun h2 => ?_)
      · exact gv mix O_ 400 [f0, t0, f0, f0, f0, (9, false)] (ai ((by decide) : decide (0 ≤ 0) = true) (ai (cn (wok6 b)) (ai (cn (bf h0)) (a3 (bf h1) (ai (cn h2) trivial))))) (by kernel_rfl) rfl rfl
      · exact gv mix O_ 400 [f0, t0, f0, f0, f0, (9, true)] (ai ((by decide) : decide (0 ≤ 0) = true) (ai (cn (wok6 b)) (ai (cn (bf h0)) (a3 (bf h1) (ai (cn (bf h2)) trivial))))) (by kernel_rfl) rfl rfl
theorem G_scalar_Alu_7 (b : Bool) (c : Sc) (d : Sc) (p0 : okSc c = true) (p1 : okSc d = true) : Gives Tryz.prog 8 [(cI .i64).enc 7, cB.enc b, cSc.enc c, cSc.enc d] (cSc.enc (scalar_Alu_7 b c d)) := by
  unfold scalar_Alu_7
  have O_ := (orc_cons K_word_Alu (orc_cons K_scalar_Is (orc_cons K_scalar_Of (orc_cons K_scalar_Any (orc_cons K_scalar_settle (orc_cons K_scalar_shift on_))))))
  refine gite (fun h0 => ?_) (fun h0 => ?_)
  · refine gite (fun h1 => ?_) (fun h1 => ?_)
    · refine gite (fun h2 => ?_) (fun h2 => ?_)
      · exact gv mix O_ 400 [f0, f0, t0, t0, t0, (2, true), t0, (1, true)] (ai ((by decide) : decide (0 ≤ 0) = true) (ai (cn (wok7 b)) (ai (cn h0) (a3 h1 (a3 h2 (ai ((by first | assumption | exact okT_of (by assumption) | exact okT_of (ok_settle (by assumption)) | exact is_nn (by assumption) | exact is_nn (ok_settle (by assumption)) | exact ok_settle (by assumption) | exact w32_le h0 | exact w64_le h0 | exact w64_le h1 | exact w32_le h1 | exact ne32 h0 | exact ne64 h0 | exact ne64 h1 | exact ne32 h1 | decide | (simp_all; done)) : decide (0 ≤ (scalar_Is d).1) = true) trivial)))))) (by kernel_rfl) rfl rfl
      · exact gv mix O_ 400 [f0, f0, t0, t0, t0, (2, false), f0, (1, false), (7, true)] (ai ((by decide) : decide (0 ≤ 0) = true) (ai (cn (wok7 b)) (ai (cn h0) (a3 h1 (a3 (bf h2) (ai (cn (bf h2)) trivial)))))) (by kernel_rfl) rfl rfl
    · refine gite (fun h2 => ?_) (fun h2 => ?_)
      · exact gv mix O_ 400 [f0, f0, f0, f0, f0, (10, false)] (ai ((by decide) : decide (0 ≤ 0) = true) (ai (cn (wok7 b)) (ai (cn h0) (a3 (bf h1) (ai (cn h2) trivial))))) (by kernel_rfl) rfl rfl
      · exact gv mix O_ 400 [f0, f0, f0, f0, f0, (10, true)] (ai ((by decide) : decide (0 ≤ 0) = true) (ai (cn (wok7 b)) (ai (cn h0) (a3 (bf h1) (ai (cn (bf h2)) trivial))))) (by kernel_rfl) rfl rfl
  · refine gite (fun h1 => ?_) (fun h1 => ?_)
    · refine gite (fun h2 => ?_) (fun h2 => ?_)
      · exact gv mix O_ 400 [f0, t0, t0, t0, t0, (2, true), t0, (1, true)] (ai ((by decide) : decide (0 ≤ 0) = true) (ai (cn (wok7 b)) (ai (cn (bf h0)) (a3 h1 (a3 h2 (ai ((by first | assumption | exact okT_of (by assumption) | exact okT_of (ok_settle (by assumption)) | exact is_nn (by assumption) | exact is_nn (ok_settle (by assumption)) | exact ok_settle (by assumption) | exact w32_le h0 | exact w64_le h0 | exact w64_le h1 | exact w32_le h1 | exact ne32 h0 | exact ne64 h0 | exact ne64 h1 | exact ne32 h1 | decide | (simp_all; done)) : decide (0 ≤ (scalar_Is (scalar_settle d false)).1) = true) trivial)))))) (by kernel_rfl) rfl rfl
      · exact gv mix O_ 400 [f0, t0, t0, t0, t0, (2, false), f0, (1, false), (7, true)] (ai ((by decide) : decide (0 ≤ 0) = true) (ai (cn (wok7 b)) (ai (cn (bf h0)) (a3 h1 (a3 (bf h2) (ai (cn (bf h2)) trivial)))))) (by kernel_rfl) rfl rfl
    · refine gite (fun h2 => ?_) (fun h2 => ?_)
      · exact gv mix O_ 400 [f0, t0, f0, f0, f0, (10, false)] (ai ((by decide) : decide (0 ≤ 0) = true) (ai (cn (wok7 b)) (ai (cn (bf h0)) (a3 (bf h1) (ai (cn h2) trivial))))) (by kernel_rfl) rfl rfl
      · exact gv mix O_ 400 [f0, t0, f0, f0, f0, (10, true)] (ai ((by decide) : decide (0 ≤ 0) = true) (ai (cn (wok7 b)) (ai (cn (bf h0)) (a3 (bf h1) (ai (cn (bf h2)) trivial))))) (by kernel_rfl) rfl rfl
theorem G_scalar_Alu_9 (b : Bool) (c : Sc) (d : Sc) (p0 : okSc c = true) (p1 : okSc d = true) : Gives Tryz.prog 8 [(cI .i64).enc 9, cB.enc b, cSc.enc c, cSc.enc d] (cSc.enc (scalar_Alu_9 b c d)) := by
  unfold scalar_Alu_9
  have O_ := (orc_cons K_word_Alu (orc_cons K_scalar_Is (orc_cons K_scalar_Of (orc_cons K_scalar_Any (orc_cons K_span_UMod (orc_cons K_scalar_settle (orc_map M_scalar_ways on_)))))))
  refine gite (fun h0 => ?_) (fun h0 => ?_)
  · refine gite (fun h1 => ?_) (fun h1 => ?_)
    · refine gite (fun h2 => ?_) (fun h2 => ?_)
      · exact gv mix O_ 400 [f0, f0, t0, t0, t0, (2, true), t0, (1, true)] (ai ((by decide) : decide (0 ≤ 0) = true) (ai (cn (wok9 b)) (ai (cn h0) (a3 h1 (a3 h2 (ai ((by first | assumption | exact okT_of (by assumption) | exact okT_of (ok_settle (by assumption)) | exact is_nn (by assumption) | exact is_nn (ok_settle (by assumption)) | exact ok_settle (by assumption) | exact w32_le h0 | exact w64_le h0 | exact w64_le h1 | exact w32_le h1 | exact ne32 h0 | exact ne64 h0 | exact ne64 h1 | exact ne32 h1 | decide | (simp_all; done)) : decide (0 ≤ (scalar_Is d).1) = true) trivial)))))) (by kernel_rfl) rfl rfl
      · exact gv mix O_ 400 [f0, f0, t0, t0, t0, (2, false), f0, (1, false)] (ai ((by decide) : decide (0 ≤ 0) = true) (ai (cn (wok9 b)) (ai (cn h0) (a3 h1 (a3 (bf h2) trivial))))) (by kernel_rfl) rfl rfl
    · exact gv mix O_ 400 [f0, f0, f0, f0, f0] (ai ((by decide) : decide (0 ≤ 0) = true) (ai (cn (wok9 b)) (ai (cn h0) (a3 (bf h1) trivial)))) (by kernel_rfl) rfl rfl
  · refine gite (fun h1 => ?_) (fun h1 => ?_)
    · refine gite (fun h2 => ?_) (fun h2 => ?_)
      · exact gv mix O_ 400 [f0, t0, t0, t0, t0, (2, true), t0, (1, true)] (ai ((by decide) : decide (0 ≤ 0) = true) (ai (cn (wok9 b)) (ai (cn (bf h0)) (a3 h1 (a3 h2 (ai ((by first | assumption | exact okT_of (by assumption) | exact okT_of (ok_settle (by assumption)) | exact is_nn (by assumption) | exact is_nn (ok_settle (by assumption)) | exact ok_settle (by assumption) | exact w32_le h0 | exact w64_le h0 | exact w64_le h1 | exact w32_le h1 | exact ne32 h0 | exact ne64 h0 | exact ne64 h1 | exact ne32 h1 | decide | (simp_all; done)) : decide (0 ≤ (scalar_Is (scalar_settle d false)).1) = true) trivial)))))) (by kernel_rfl) rfl rfl
      · exact gv mix O_ 400 [f0, t0, t0, t0, t0, (2, false), f0, (1, false)] (ai ((by decide) : decide (0 ≤ 0) = true) (ai (cn (wok9 b)) (ai (cn (bf h0)) (a3 h1 (a3 (bf h2) trivial))))) (by kernel_rfl) rfl rfl
    · exact gv mix O_ 400 [f0, t0, f0, f0, f0] (ai ((by decide) : decide (0 ≤ 0) = true) (ai (cn (wok9 b)) (ai (cn (bf h0)) (a3 (bf h1) trivial)))) (by kernel_rfl) rfl rfl
theorem G_scalar_Alu_10 (b : Bool) (c : Sc) (d : Sc) (p0 : okSc c = true) (p1 : okSc d = true) : Gives Tryz.prog 8 [(cI .i64).enc 10, cB.enc b, cSc.enc c, cSc.enc d] (cSc.enc (scalar_Alu_10 b c d)) := by
  unfold scalar_Alu_10
  have O_ := (orc_cons K_word_Alu (orc_cons K_scalar_Is (orc_cons K_scalar_Of (orc_cons K_scalar_Any (orc_cons K_tnum_Xor (orc_cons K_scalar_settle (orc_map M_scalar_ways on_)))))))
  refine gite (fun h0 => ?_) (fun h0 => ?_)
  · refine gite (fun h1 => ?_) (fun h1 => ?_)
    · refine gite (fun h2 => ?_) (fun h2 => ?_)
      · exact gv mix O_ 400 [f0, f0, t0, t0, t0, (2, true), t0, (1, true)] (ai ((by decide) : decide (0 ≤ 0) = true) (ai (cn (wok10 b)) (ai (cn h0) (a3 h1 (a3 h2 (ai ((by first | assumption | exact okT_of (by assumption) | exact okT_of (ok_settle (by assumption)) | exact is_nn (by assumption) | exact is_nn (ok_settle (by assumption)) | exact ok_settle (by assumption) | exact w32_le h0 | exact w64_le h0 | exact w64_le h1 | exact w32_le h1 | exact ne32 h0 | exact ne64 h0 | exact ne64 h1 | exact ne32 h1 | decide | (simp_all; done)) : decide (0 ≤ (scalar_Is d).1) = true) trivial)))))) (by kernel_rfl) rfl rfl
      · exact gv mix O_ 400 [f0, f0, t0, t0, t0, (2, false), f0, (1, false)] (ai ((by decide) : decide (0 ≤ 0) = true) (ai (cn (wok10 b)) (ai (cn h0) (a3 h1 (a3 (bf h2) trivial))))) (by kernel_rfl) rfl rfl
    · exact gv mix O_ 400 [f0, f0, f0, f0, f0] (ai ((by decide) : decide (0 ≤ 0) = true) (ai (cn (wok10 b)) (ai (cn h0) (a3 (bf h1) trivial)))) (by kernel_rfl) rfl rfl
  · refine gite (fun h1 => ?_) (fun h1 => ?_)
    · refine gite (fun h2 => ?_) (fun h2 => ?_)
      · exact gv mix O_ 400 [f0, t0, t0, t0, t0, (2, true), t0, (1, true)] (ai ((by decide) : decide (0 ≤ 0) = true) (ai (cn (wok10 b)) (ai (cn (bf h0)) (a3 h1 (a3 h2 (ai ((by first | assumption | exact okT_of (by assumption) | exact okT_of (ok_settle (by assumption)) | exact is_nn (by assumption) | exact is_nn (ok_settle (by assumption)) | exact ok_settle (by assumption) | exact w32_le h0 | exact w64_le h0 | exact w64_le h1 | exact w32_le h1 | exact ne32 h0 | exact ne64 h0 | exact ne64 h1 | exact ne32 h1 | decide | (simp_all; done)) : decide (0 ≤ (scalar_Is (scalar_settle d false)).1) = true) trivial)))))) (by kernel_rfl) rfl rfl
      · exact gv mix O_ 400 [f0, t0, t0, t0, t0, (2, false), f0, (1, false)] (ai ((by decide) : decide (0 ≤ 0) = true) (ai (cn (wok10 b)) (ai (cn (bf h0)) (a3 h1 (a3 (bf h2) trivial))))) (by kernel_rfl) rfl rfl
    · exact gv mix O_ 400 [f0, t0, f0, f0, f0] (ai ((by decide) : decide (0 ≤ 0) = true) (ai (cn (wok10 b)) (ai (cn (bf h0)) (a3 (bf h1) trivial)))) (by kernel_rfl) rfl rfl
theorem G_scalar_Alu_11 (b : Bool) (c : Sc) (d : Sc) (p0 : okSc c = true) (p1 : okSc d = true) : Gives Tryz.prog 8 [(cI .i64).enc 11, cB.enc b, cSc.enc c, cSc.enc d] (cSc.enc (scalar_Alu_11 b c d)) := by
  unfold scalar_Alu_11
  have O_ := (orc_cons K_word_Alu (orc_cons K_scalar_Is (orc_cons K_scalar_Of (orc_cons K_scalar_settle on_))))
  refine gite (fun h0 => ?_) (fun h0 => ?_)
  · refine gite (fun h1 => ?_) (fun h1 => ?_)
    · refine gite (fun h2 => ?_) (fun h2 => ?_)
      · exact gv mix O_ 400 [f0, f0, t0, t0, t0, (2, true), t0, (1, true)] (ai ((by decide) : decide (0 ≤ 0) = true) (ai (cn (wok11 b)) (ai (cn h0) (a3 h1 (a3 h2 (ai ((by first | assumption | exact okT_of (by assumption) | exact okT_of (ok_settle (by assumption)) | exact is_nn (by assumption) | exact is_nn (ok_settle (by assumption)) | exact ok_settle (by assumption) | exact w32_le h0 | exact w64_le h0 | exact w64_le h1 | exact w32_le h1 | exact ne32 h0 | exact ne64 h0 | exact ne64 h1 | exact ne32 h1 | decide | (simp_all; done)) : decide (0 ≤ (scalar_Is d).1) = true) trivial)))))) (by kernel_rfl) rfl rfl
      · exact gv mix O_ 400 [f0, f0, t0, t0, t0, (2, false), f0, (1, false)] (ai ((by decide) : decide (0 ≤ 0) = true) (ai (cn (wok11 b)) (ai (cn h0) (a3 h1 (a3 (bf h2) trivial))))) (by kernel_rfl) rfl rfl
    · refine gite (fun h2 => ?_) (fun h2 => ?_)
      · exact gv mix O_ 400 [f0, f0, f0, f0, f0, (2, true), t0, (1, true)] (ai ((by decide) : decide (0 ≤ 0) = true) (ai (cn (wok11 b)) (ai (cn h0) (a3 (bf h1) (a3 h2 (ai ((by first | assumption | exact okT_of (by assumption) | exact okT_of (ok_settle (by assumption)) | exact is_nn (by assumption) | exact is_nn (ok_settle (by assumption)) | exact ok_settle (by assumption) | exact w32_le h0 | exact w64_le h0 | exact w64_le h1 | exact w32_le h1 | exact ne32 h0 | exact ne64 h0 | exact ne64 h1 | exact ne32 h1 | decide | (simp_all; done)) : decide (0 ≤ (scalar_Is d).1) = true) trivial)))))) (by kernel_rfl) rfl rfl
      · exact gv mix O_ 400 [f0, f0, f0, f0, f0, (2, false), f0, (1, false)] (ai ((by decide) : decide (0 ≤ 0) = true) (ai (cn (wok11 b)) (ai (cn h0) (a3 (bf h1) (a3 (bf h2) trivial))))) (by kernel_rfl) rfl rfl
  · refine gite (fun h1 => ?_) (fun h1 => ?_)
    · refine gite (fun h2 => ?_) (fun h2 => ?_)
      · exact gv mix O_ 400 [f0, t0, t0, t0, t0, (2, true), t0, (1, true)] (ai ((by decide) : decide (0 ≤ 0) = true) (ai (cn (wok11 b)) (ai (cn (bf h0)) (a3 h1 (a3 h2 (ai ((by first | assumption | exact okT_of (by assumption) | exact okT_of (ok_settle (by assumption)) | exact is_nn (by assumption) | exact is_nn (ok_settle (by assumption)) | exact ok_settle (by assumption) | exact w32_le h0 | exact w64_le h0 | exact w64_le h1 | exact w32_le h1 | exact ne32 h0 | exact ne64 h0 | exact ne64 h1 | exact ne32 h1 | decide | (simp_all; done)) : decide (0 ≤ (scalar_Is (scalar_settle d false)).1) = true) trivial)))))) (by kernel_rfl) rfl rfl
      · exact gv mix O_ 400 [f0, t0, t0, t0, t0, (2, false), f0, (1, false)] (ai ((by decide) : decide (0 ≤ 0) = true) (ai (cn (wok11 b)) (ai (cn (bf h0)) (a3 h1 (a3 (bf h2) trivial))))) (by kernel_rfl) rfl rfl
    · refine gite (fun h2 => ?_) (fun h2 => ?_)
      · exact gv mix O_ 400 [f0, t0, f0, f0, f0, (2, true), t0, (1, true)] (ai ((by decide) : decide (0 ≤ 0) = true) (ai (cn (wok11 b)) (ai (cn (bf h0)) (a3 (bf h1) (a3 h2 (ai ((by first | assumption | exact okT_of (by assumption) | exact okT_of (ok_settle (by assumption)) | exact is_nn (by assumption) | exact is_nn (ok_settle (by assumption)) | exact ok_settle (by assumption) | exact w32_le h0 | exact w64_le h0 | exact w64_le h1 | exact w32_le h1 | exact ne32 h0 | exact ne64 h0 | exact ne64 h1 | exact ne32 h1 | decide | (simp_all; done)) : decide (0 ≤ (scalar_Is (scalar_settle d false)).1) = true) trivial)))))) (by kernel_rfl) rfl rfl
      · exact gv mix O_ 400 [f0, t0, f0, f0, f0, (2, false), f0, (1, false)] (ai ((by decide) : decide (0 ≤ 0) = true) (ai (cn (wok11 b)) (ai (cn (bf h0)) (a3 (bf h1) (a3 (bf h2) trivial))))) (by kernel_rfl) rfl rfl
theorem G_scalar_Alu_12 (b : Bool) (c : Sc) (d : Sc) (p0 : okSc c = true) (p1 : okSc d = true) : Gives Tryz.prog 8 [(cI .i64).enc 12, cB.enc b, cSc.enc c, cSc.enc d] (cSc.enc (scalar_Alu_12 b c d)) := by
  unfold scalar_Alu_12
  have O_ := (orc_cons K_word_Alu (orc_cons K_scalar_Is (orc_cons K_scalar_Of (orc_cons K_scalar_Any (orc_cons K_scalar_settle (orc_cons K_scalar_shift on_))))))
  refine gite (fun h0 => ?_) (fun h0 => ?_)
  · refine gite (fun h1 => ?_) (fun h1 => ?_)
    · refine gite (fun h2 => ?_) (fun h2 => ?_)
      · exact gv mix O_ 400 [f0, f0, t0, t0, t0, (2, true), t0, (1, true)] (ai ((by decide) : decide (0 ≤ 0) = true) (ai (cn (wok12 b)) (ai (cn h0) (a3 h1 (a3 h2 (ai ((by first | assumption | exact okT_of (by assumption) | exact okT_of (ok_settle (by assumption)) | exact is_nn (by assumption) | exact is_nn (ok_settle (by assumption)) | exact ok_settle (by assumption) | exact w32_le h0 | exact w64_le h0 | exact w64_le h1 | exact w32_le h1 | exact ne32 h0 | exact ne64 h0 | exact ne64 h1 | exact ne32 h1 | decide | (simp_all; done)) : decide (0 ≤ (scalar_Is d).1) = true) trivial)))))) (by kernel_rfl) rfl rfl
      · exact gv mix O_ 400 [f0, f0, t0, t0, t0, (2, false), f0, (1, false), (7, true)] (ai ((by decide) : decide (0 ≤ 0) = true) (ai (cn (wok12 b)) (ai (cn h0) (a3 h1 (a3 (bf h2) (ai (cn (bf h2)) trivial)))))) (by kernel_rfl) rfl rfl
    · refine gite (fun h2 => ?_) (fun h2 => ?_)
      · exact gv mix O_ 400 [f0, f0, f0, f0, f0, (10, false)] (ai ((by decide) : decide (0 ≤ 0) = true) (ai (cn (wok12 b)) (ai (cn h0) (a3 (bf h1) (ai (cn h2) trivial))))) (by kernel_rfl) rfl rfl
      · exact gv mix O_ 400 [f0, f0, f0, f0, f0, (10, true)] (ai ((by decide) : decide (0 ≤ 0) = true) (ai (cn (wok12 b)) (ai (cn h0) (a3 (bf h1) (ai (cn (bf h2)) trivial))))) (by kernel_rfl) rfl rfl
  · refine gite (fun h1 => ?_) (fun h1 => ?_)
    · refine gite (fun h2 => ?_) (fun h2 => ?_)
      · exact gv mix O_ 400 [f0, t0, t0, t0, t0, (2, true), t0, (1, true)] (ai ((by decide) : decide (0 ≤ 0) = true) (ai (cn (wok12 b)) (ai (cn (bf h0)) (a3 h1 (a3 h2 (ai ((by first | assumption | exact okT_of (by assumption) | exact okT_of (ok_settle (by assumption)) | exact is_nn (by assumption) | exact is_nn (ok_settle (by assumption)) | exact ok_settle (by assumption) | exact w32_le h0 | exact w64_le h0 | exact w64_le h1 | exact w32_le h1 | exact ne32 h0 | exact ne64 h0 | exact ne64 h1 | exact ne32 h1 | decide | (simp_all; done)) : decide (0 ≤ (scalar_Is (scalar_settle d false)).1) = true) trivial)))))) (by kernel_rfl) rfl rfl
      · exact gv mix O_ 400 [f0, t0, t0, t0, t0, (2, false), f0, (1, false), (7, true)] (ai ((by decide) : decide (0 ≤ 0) = true) (ai (cn (wok12 b)) (ai (cn (bf h0)) (a3 h1 (a3 (bf h2) (ai (cn (bf h2)) trivial)))))) (by kernel_rfl) rfl rfl
    · refine gite (fun h2 => ?_) (fun h2 => ?_)
      · exact gv mix O_ 400 [f0, t0, f0, f0, f0, (10, false)] (ai ((by decide) : decide (0 ≤ 0) = true) (ai (cn (wok12 b)) (ai (cn (bf h0)) (a3 (bf h1) (ai (cn h2) trivial))))) (by kernel_rfl) rfl rfl
      · exact gv mix O_ 400 [f0, t0, f0, f0, f0, (10, true)] (ai ((by decide) : decide (0 ≤ 0) = true) (ai (cn (wok12 b)) (ai (cn (bf h0)) (a3 (bf h1) (ai (cn (bf h2)) trivial))))) (by kernel_rfl) rfl rfl
theorem G_scalar_Alu_8 (b : Bool) (c : Sc) (d : Sc) (p0 : okSc c = true) (p1 : okSc d = true) : Gives Tryz.prog 8 [(cI .i64).enc 8, cB.enc b, cSc.enc c, cSc.enc d] (cSc.enc (scalar_Alu_8 b c d)) := by
  unfold scalar_Alu_8
  have O_ := (orc_cons K_word_Alu (orc_cons K_scalar_Is (orc_cons K_scalar_Of (orc_cons K_scalar_Alu_1 (orc_cons K_scalar_settle on_)))))
  refine gite (fun h0 => ?_) (fun h0 => ?_)
  · refine gite (fun h1 => ?_) (fun h1 => ?_)
    · refine gite (fun h2 => ?_) (fun h2 => ?_)
      · exact gv mix O_ 400 [f0, f0, t0, t0, t0, (2, true), t0, (1, true)] (ai ((by decide) : decide (0 ≤ 0) = true) (ai (cn (wok8 b)) (ai (cn h0) (a3 h1 (a3 h2 (ai ((by first | assumption | exact okT_of (by assumption) | exact okT_of (ok_settle (by assumption)) | exact is_nn (by assumption) | exact is_nn (ok_settle (by assumption)) | exact ok_settle (by assumption) | exact w32_le h0 | exact w64_le h0 | exact w64_le h1 | exact w32_le h1 | exact ne32 h0 | exact ne64 h0 | exact ne64 h1 | exact ne32 h1 | decide | (simp_all; done)) : decide (0 ≤ (scalar_Is d).1) = true) trivial)))))) (by kernel_rfl) rfl rfl
      · exact gv mix O_ 400 [f0, f0, t0, t0, t0, (2, false), f0, (1, false)] (ai ((by decide) : decide (0 ≤ 0) = true) (ai (cn (wok8 b)) (ai (cn h0) (a3 h1 (a3 (bf h2) (ai ((by first | assumption | exact okT_of (by assumption) | exact okT_of (ok_settle (by assumption)) | exact is_nn (by assumption) | exact is_nn (ok_settle (by assumption)) | exact ok_settle (by assumption) | exact w32_le h0 | exact w64_le h0 | exact w64_le h1 | exact w32_le h1 | exact ne32 h0 | exact ne64 h0 | exact ne64 h1 | exact ne32 h1 | decide | (simp_all; done)) : decide (0 ≤ (scalar_Is d).1) = true) trivial)))))) (by kernel_rfl) rfl rfl
    · exact gv mix O_ 400 [f0, f0, f0, f0, f0] (ai ((by decide) : decide (0 ≤ 0) = true) (ai (cn (wok8 b)) (ai (cn h0) (a3 (bf h1) (ai ((by decide) : decide (1 = 1) = true) (ai ((by decide) : okSc (scalar_Of 0) = true) (ai ((by first | assumption | exact okT_of (by assumption) | exact okT_of (ok_settle (by assumption)) | exact is_nn (by assumption) | exact is_nn (ok_settle (by assumption)) | exact ok_settle (by assumption) | exact w32_le h0 | exact w64_le h0 | exact w64_le h1 | exact w32_le h1 | exact ne32 h0 | exact ne64 h0 | exact ne64 h1 | exact ne32 h1 | decide | (simp_all; done)) : okSc c = true) trivial))))))) (by kernel_rfl) rfl rfl
  · refine gite (fun h1 => ?_) (fun h1 => ?_)
    · refine gite (fun h2 => ?_) (fun h2 => ?_)
      · exact gv mix O_ 400 [f0, t0, t0, t0, t0, (2, true), t0, (1, true)] (ai ((by decide) : decide (0 ≤ 0) = true) (ai (cn (wok8 b)) (ai (cn (bf h0)) (a3 h1 (a3 h2 (ai ((by first | assumption | exact okT_of (by assumption) | exact okT_of (ok_settle (by assumption)) | exact is_nn (by assumption) | exact is_nn (ok_settle (by assumption)) | exact ok_settle (by assumption) | exact w32_le h0 | exact w64_le h0 | exact w64_le h1 | exact w32_le h1 | exact ne32 h0 | exact ne64 h0 | exact ne64 h1 | exact ne32 h1 | decide | (simp_all; done)) : decide (0 ≤ (scalar_Is (scalar_settle d false)).1) = true) trivial)))))) (by kernel_rfl) rfl rfl
      · exact gv mix O_ 400 [f0, t0, t0, t0, t0, (2, false), f0, (1, false)] (ai ((by decide) : decide (0 ≤ 0) = true) (ai (cn (wok8 b)) (ai (cn (bf h0)) (a3 h1 (a3 (bf h2) (ai ((by first | assumption | exact okT_of (by assumption) | exact okT_of (ok_settle (by assumption)) | exact is_nn (by assumption) | exact is_nn (ok_settle (by assumption)) | exact ok_settle (by assumption) | exact w32_le h0 | exact w64_le h0 | exact w64_le h1 | exact w32_le h1 | exact ne32 h0 | exact ne64 h0 | exact ne64 h1 | exact ne32 h1 | decide | (simp_all; done)) : decide (0 ≤ (scalar_Is (scalar_settle d false)).1) = true) trivial)))))) (by kernel_rfl) rfl rfl
    · exact gv mix O_ 400 [f0, t0, f0, f0, f0] (ai ((by decide) : decide (0 ≤ 0) = true) (ai (cn (wok8 b)) (ai (cn (bf h0)) (a3 (bf h1) (ai ((by decide) : decide (1 = 1) = true) (ai ((by decide) : okSc (scalar_Of 0) = true) (ai ((by first | assumption | exact okT_of (by assumption) | exact okT_of (ok_settle (by assumption)) | exact is_nn (by assumption) | exact is_nn (ok_settle (by assumption)) | exact ok_settle (by assumption) | exact w32_le h0 | exact w64_le h0 | exact w64_le h1 | exact w32_le h1 | exact ne32 h0 | exact ne64 h0 | exact ne64 h1 | exact ne32 h1 | decide | (simp_all; done)) : okSc (scalar_settle c false) = true) trivial))))))) (by kernel_rfl) rfl rfl
theorem G_scalar_Alu_x (a : Int) (b : Bool) (c : Sc) (d : Sc) (n0 : ¬ a = 0) (n1 : ¬ a = 1) (n2 : ¬ a = 2) (n3 : ¬ a = 3) (n4 : ¬ a = 4) (n5 : ¬ a = 5) (n6 : ¬ a = 6) (n7 : ¬ a = 7) (n8 : ¬ a = 8) (n9 : ¬ a = 9) (n10 : ¬ a = 10) (n11 : ¬ a = 11) (n12 : ¬ a = 12) : Gives Tryz.prog 8 [(cI .i64).enc a, cB.enc b, cSc.enc c, cSc.enc d] (cSc.enc (scalar_Alu_x a b c d)) := by
  unfold scalar_Alu_x
  have O_ := (orc_cons K_word_Alu (orc_cons K_scalar_Any on_))
  exact gv mix O_ 400 [t0] (ai ((by decide) : decide (0 ≤ 0) = true) (ai (cn (bf (Bool.eq_false_iff.1 (wnok (b := b) n0 n1 n2 n3 n4 n5 n6 n7 n8 n9 n10 n11 n12)))) trivial)) (by kernel_rfl) rfl rfl
theorem K_scalar_Alu : Keeps Tryz.prog 8 (F4 (cI .i64) cB cSc cSc cSc (fun _ _ c d => [(okSc c, true), (okSc d, true)]) scalar_Alu) := by
  refine keeps4 _ _ _ _ _ (enters_of Tryz.func8 (by kernel_rfl)) fun a b c d hp_ => ?_
  have p0 := hp_.1
  have p1 := hp_.2.1
  unfold scalar_Alu
  by_cases n0 : a = 0
  · subst n0; rw [if_pos rfl]; exact G_scalar_Alu_0 b c d p0 p1
  rw [if_neg n0]
  by_cases n1 : a = 1
  · subst n1; rw [if_pos rfl]; exact G_scalar_Alu_1 b c d p0 p1
  rw [if_neg n1]
  by_cases n2 : a = 2
  · subst n2; rw [if_pos rfl]; exact G_scalar_Alu_2 b c d p0 p1
  rw [if_neg n2]
  by_cases n3 : a = 3
  · subst n3; rw [if_pos rfl]; exact G_scalar_Alu_3 b c d p0 p1
  rw [if_neg n3]
  by_cases n4 : a = 4
  · subst n4; rw [if_pos rfl]; exact G_scalar_Alu_4 b c d p0 p1
  rw [if_neg n4]
  by_cases n5 : a = 5
  · subst n5; rw [if_pos rfl]; exact G_scalar_Alu_5 b c d p0 p1
  rw [if_neg n5]
  by_cases n6 : a = 6
  · subst n6; rw [if_pos rfl]; exact G_scalar_Alu_6 b c d p0 p1
  rw [if_neg n6]
  by_cases n7 : a = 7
  · subst n7; rw [if_pos rfl]; exact G_scalar_Alu_7 b c d p0 p1
  rw [if_neg n7]
  by_cases n8 : a = 9
  · subst n8; rw [if_pos rfl]; exact G_scalar_Alu_9 b c d p0 p1
  rw [if_neg n8]
  by_cases n9 : a = 10
  · subst n9; rw [if_pos rfl]; exact G_scalar_Alu_10 b c d p0 p1
  rw [if_neg n9]
  by_cases n10 : a = 11
  · subst n10; rw [if_pos rfl]; exact G_scalar_Alu_11 b c d p0 p1
  rw [if_neg n10]
  by_cases n11 : a = 12
  · subst n11; rw [if_pos rfl]; exact G_scalar_Alu_12 b c d p0 p1
  rw [if_neg n11]
  by_cases n12 : a = 8
  · subst n12; rw [if_pos rfl]; exact G_scalar_Alu_8 b c d p0 p1
  rw [if_neg n12]
  exact G_scalar_Alu_x a b c d n0 n1 n2 n3 n4 n5 n6 n7 n12 n8 n9 n10 n11
theorem G_word_Swap_16 (b : Bool) (c : Int) : Gives Tryz.prog 88 [(cI .i64).enc 16, cB.enc b, (cI .u64).enc c] ((cP (cI .u64) cB).enc (word_Swap_16 b c)) := by
  unfold word_Swap_16
  have O_ := on_
  refine gite (fun h0 => ?_) (fun h0 => ?_)
  · exact gv mix O_ 400 [(9, false)] (ai (cn h0) trivial) (by kernel_rfl) rfl rfl
  · exact gv mix O_ 400 [(9, true)] (ai (cn (bf h0)) trivial) (by kernel_rfl) rfl rfl
theorem G_word_Swap_32 (b : Bool) (c : Int) : Gives Tryz.prog 88 [(cI .i64).enc 32, cB.enc b, (cI .u64).enc c] ((cP (cI .u64) cB).enc (word_Swap_32 b c)) := by
  unfold word_Swap_32
  have O_ := on_
  refine gite (fun h0 => ?_) (fun h0 => ?_)
  · exact gv mix O_ 400 [(9, false)] (ai (cn h0) trivial) (by kernel_rfl) rfl rfl
  · exact gv mix O_ 400 [(9, true)] (ai (cn (bf h0)) trivial) (by kernel_rfl) rfl rfl
theorem G_word_Swap_64 (b : Bool) (c : Int) : Gives Tryz.prog 88 [(cI .i64).enc 64, cB.enc b, (cI .u64).enc c] ((cP (cI .u64) cB).enc (word_Swap_64 b c)) := by
  unfold word_Swap_64
  have O_ := on_
  refine gite (fun h0 => ?_) (fun h0 => ?_)
  · exact gv mix O_ 400 [(9, false)] (ai (cn h0) trivial) (by kernel_rfl) rfl rfl
  · exact gv mix O_ 400 [(9, true)] (ai (cn (bf h0)) trivial) (by kernel_rfl) rfl rfl
theorem G_word_Swap_x (a : Int) (b : Bool) (c : Int) (n0 : ¬ a = 16) (n1 : ¬ a = 32) (n2 : ¬ a = 64) : Gives Tryz.prog 88 [(cI .i64).enc a, cB.enc b, (cI .u64).enc c] ((cP (cI .u64) cB).enc (word_Swap_x a b c)) := by
  unfold word_Swap_x
  have O_ := on_
  exact gv mix O_ 400 [t0, t0, t0, t0, t0, t0, t0] (a3 (bne_iff_ne.2 n0) (a3 (bne_iff_ne.2 n1) (ai (bne_iff_ne.2 n2) trivial))) (by kernel_rfl) rfl rfl
theorem K_word_Swap : Keeps Tryz.prog 88 (F3 (cI .i64) cB (cI .u64) (cP (cI .u64) cB) (fun _ _ _ => []) word_Swap) := by
  refine keeps3 _ _ _ _ (enters_of Tryz.func88 (by kernel_rfl)) fun a b c hp_ => ?_
  unfold word_Swap
  by_cases n0 : a = 16
  · subst n0; rw [if_pos rfl]; exact G_word_Swap_16 b c
  rw [if_neg n0]
  by_cases n1 : a = 32
  · subst n1; rw [if_pos rfl]; exact G_word_Swap_32 b c
  rw [if_neg n1]
  by_cases n2 : a = 64
  · subst n2; rw [if_pos rfl]; exact G_word_Swap_64 b c
  rw [if_neg n2]
  exact G_word_Swap_x a b c n0 n1 n2
theorem G_lockgateref01_Swap_16 (b : Bool) (c : Int) : Gives Tryz.prog 89 [(cI .i64).enc 16, cB.enc b, (cI .u64).enc c] ((cP (cI .u64) cB).enc (lockgateref01_Swap_16 b c)) := by
  unfold lockgateref01_Swap_16
  have O_ := on_
  refine gite (fun h0 => ?_) (fun h0 => ?_)
  · exact gv mix O_ 400 [(11, true), (6, true)] (a2 h0 trivial) (by kernel_rfl) rfl rfl
  · exact gv mix O_ 400 [(11, false), (5, false)] (a2 (bf h0) trivial) (by kernel_rfl) rfl rfl
theorem G_lockgateref01_Swap_32 (b : Bool) (c : Int) : Gives Tryz.prog 89 [(cI .i64).enc 32, cB.enc b, (cI .u64).enc c] ((cP (cI .u64) cB).enc (lockgateref01_Swap_32 b c)) := by
  unfold lockgateref01_Swap_32
  have O_ := on_
  refine gite (fun h0 => ?_) (fun h0 => ?_)
  · exact gv mix O_ 400 [(11, true), (6, true), (6, true), (6, true)] (a4 h0 trivial) (by kernel_rfl) rfl rfl
  · exact gv mix O_ 400 [(11, false), (5, false), (5, false), (5, false)] (a4 (bf h0) trivial) (by kernel_rfl) rfl rfl
theorem G_lockgateref01_Swap_64 (b : Bool) (c : Int) : Gives Tryz.prog 89 [(cI .i64).enc 64, cB.enc b, (cI .u64).enc c] ((cP (cI .u64) cB).enc (lockgateref01_Swap_64 b c)) := by
  unfold lockgateref01_Swap_64
  have O_ := on_
  refine gite (fun h0 => ?_) (fun h0 => ?_)
  · exact gv mix O_ 400 [(11, true), (6, true), (6, true), (6, true), (6, true), (6, true), (6, true), (6, true)] (a8 h0 trivial) (by kernel_rfl) rfl rfl
  · exact gv mix O_ 400 [(11, false), (5, false), (5, false), (5, false), (5, false), (5, false), (5, false), (5, false)] (a8 (bf h0) trivial) (by kernel_rfl) rfl rfl
theorem G_lockgateref01_Swap_x (a : Int) (b : Bool) (c : Int) (n0 : ¬ a = 16) (n1 : ¬ a = 32) (n2 : ¬ a = 64) : Gives Tryz.prog 89 [(cI .i64).enc a, cB.enc b, (cI .u64).enc c] ((cP (cI .u64) cB).enc (lockgateref01_Swap_x a b c)) := by
  unfold lockgateref01_Swap_x
  have O_ := on_
  exact gv mix O_ 400 [t0, t0, t0, t0, t0, t0, t0] (a3 (bne_iff_ne.2 n0) (a3 (bne_iff_ne.2 n1) (ai (bne_iff_ne.2 n2) trivial))) (by kernel_rfl) rfl rfl
theorem K_lockgateref01_Swap : Keeps Tryz.prog 89 (F3 (cI .i64) cB (cI .u64) (cP (cI .u64) cB) (fun _ _ _ => []) lockgateref01_Swap) := by
  refine keeps3 _ _ _ _ (enters_of Tryz.func89 (by kernel_rfl)) fun a b c hp_ => ?_
  unfold lockgateref01_Swap
  by_cases n0 : a = 16
  · subst n0; rw [if_pos rfl]; exact G_lockgateref01_Swap_16 b c
  rw [if_neg n0]
  by_cases n1 : a = 32
  · subst n1; rw [if_pos rfl]; exact G_lockgateref01_Swap_32 b c
  rw [if_neg n1]
  by_cases n2 : a = 64
  · subst n2; rw [if_pos rfl]; exact G_lockgateref01_Swap_64 b c
  rw [if_neg n2]
  exact G_lockgateref01_Swap_x a b c n0 n1 n2
theorem K_scalar_Swap : Keeps Tryz.prog 29 (F3 (cI .i64) cB cSc cSc (fun _ _ _ => []) scalar_Swap) := by
  refine keeps3 _ _ _ _ (enters_of Tryz.func29 (by kernel_rfl)) fun a b c hp_ => ?_
  unfold scalar_Swap
  have O_ := (orc_cons K_scalar_Is (orc_cons K_word_Swap (orc_cons K_scalar_Of (orc_cons K_scalar_Upto (orc_cons K_scalar_Any on_)))))
  refine gite (fun h0 => ?_) (fun h0 => ?_)
  · refine gite (fun h1 => ?_) (fun h1 => ?_)
    · exact gv mix O_ 400 [f0, t0] (ai (cn h0) (ai h1 trivial)) (by kernel_rfl) rfl rfl
    · refine gite (fun h2 => ?_) (fun h2 => ?_)
      · refine gite (fun h3 => ?_) (fun h3 => ?_)
        · exact gv mix O_ 400 [f0, f0, t0, t0, t0, f0] (ai (cn h0) (ai (bf h1) (a3 (be h2) (ai (cn h3) trivial)))) (by kernel_rfl) rfl rfl
        · exact gv mix O_ 400 [f0, f0, t0, t0, t0, t0] (ai (cn h0) (ai (bf h1) (a3 (be h2) (ai (cn (bf h3)) trivial)))) (by kernel_rfl) rfl rfl
      · exact gv mix O_ 400 [f0, f0, f0, f0, f0] (ai (cn h0) (ai (bf h1) (a3 (bn h2) trivial))) (by kernel_rfl) rfl rfl
  · exact gv mix O_ 400 [t0] (ai (cn (bf h0)) trivial) (by kernel_rfl) rfl rfl
theorem K_lockgateref05_Swap : Keeps Tryz.prog 30 (F3 (cI .i64) cB cSc cSc (fun _ _ _ => []) lockgateref05_Swap) := by
  refine keeps3 _ _ _ _ (enters_of Tryz.func30 (by kernel_rfl)) fun a b c hp_ => ?_
  unfold lockgateref05_Swap
  have O_ := (orc_cons K_lockgateref05_Is (orc_cons K_lockgateref01_Swap (orc_cons K_lockgateref05_Of (orc_cons K_lockgateref05_Upto (orc_cons K_lockgateref05_Any on_)))))
  refine gite (fun h0 => ?_) (fun h0 => ?_)
  · refine gite (fun h1 => ?_) (fun h1 => ?_)
    · exact gv mix O_ 400 [f0, t0] (ai (cn h0) (ai h1 trivial)) (by kernel_rfl) rfl rfl
    · refine gite (fun h2 => ?_) (fun h2 => ?_)
      · refine gite (fun h3 => ?_) (fun h3 => ?_)
        · exact gv mix O_ 400 [f0, f0, t0, t0, t0, f0] (ai (cn h0) (ai (bf h1) (a3 (be h2) (ai (cn h3) trivial)))) (by kernel_rfl) rfl rfl
        · exact gv mix O_ 400 [f0, f0, t0, t0, t0, t0] (ai (cn h0) (ai (bf h1) (a3 (be h2) (ai (cn (bf h3)) trivial)))) (by kernel_rfl) rfl rfl
      · exact gv mix O_ 400 [f0, f0, f0, f0, f0] (ai (cn h0) (ai (bf h1) (a3 (bn h2) trivial))) (by kernel_rfl) rfl rfl
  · exact gv mix O_ 400 [t0] (ai (cn (bf h0)) trivial) (by kernel_rfl) rfl rfl
end Go.Proofs.T
