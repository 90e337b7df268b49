/-
  The functions of the program keep their contracts: what they make is what the functions of plain data say.
-/
import Derived.Test.YtneejoienmffmaaGreatD
import Derived.Test.YtneejoienmffmaaGreatMT2
import Derived.Test.YtneejoienmffmaaGreatC3
import Derived.KernelRfl
set_option linter.unusedVariables false
set_option maxRecDepth 100000
namespace Go.Proofs.T
open Go Go.Proofs Go.Proofs.SX
theorem K_lockgatelaw05_May : Keeps Tryz.prog 7 (F1 cSc cSc (fun _ => []) lockgatelaw05_May) := by
  refine keeps1 _ _ (enters_of Tryz.func7 (by kernel_rfl)) fun a hp_ => ?_
  unfold lockgatelaw05_May
  have O_ := on_
  exact gv mix O_ 400 [] trivial (by kernel_rfl) rfl rfl
theorem K_scalar_Is : Keeps Tryz.prog 13 (F1 cSc (cP (cI .u64) cB) (fun _ => []) scalar_Is) := by
  refine keeps1 _ _ (enters_of Tryz.func13 (by kernel_rfl)) fun a hp_ => ?_
  unfold scalar_Is
  have O_ := on_
  refine gite (fun h0 => ?_) (fun h0 => ?_)
  · exact gv mix O_ 400 [t0] (ai (be h0) trivial) (by kernel_rfl) rfl rfl
  · refine gite (fun h1 => ?_) (fun h1 => ?_)
    · exact gv mix O_ 400 [f0, t0] (ai (bn h0) (ai (be h1) trivial)) (by kernel_rfl) rfl rfl
    · refine gite (fun h2 => ?_) (fun h2 => ?_)
      · exact gv mix O_ 400 [f0, f0, t0] (ai (bn h0) (ai (bn h1) (ai (be h2) trivial))) (by kernel_rfl) rfl rfl
      · exact gv mix O_ 400 [f0, f0, f0] (ai (bn h0) (ai (bn h1) (ai (bn h2) trivial))) (by kernel_rfl) rfl rfl
theorem K_lockgateref05_Is : Keeps Tryz.prog 14 (F1 cSc (cP (cI .u64) cB) (fun _ => []) lockgateref05_Is) := by
  refine keeps1 _ _ (enters_of Tryz.func14 (by kernel_rfl)) fun a hp_ => ?_
  unfold lockgateref05_Is
  have O_ := on_
  refine gite (fun h0 => ?_) (fun h0 => ?_)
  · exact gv mix O_ 400 [t0] (ai (be h0) trivial) (by kernel_rfl) rfl rfl
  · refine gite (fun h1 => ?_) (fun h1 => ?_)
    · exact gv mix O_ 400 [f0, t0] (ai (bn h0) (ai (be h1) trivial)) (by kernel_rfl) rfl rfl
    · refine gite (fun h2 => ?_) (fun h2 => ?_)
      · exact gv mix O_ 400 [f0, f0, t0] (ai (bn h0) (ai (bn h1) (ai (be h2) trivial))) (by kernel_rfl) rfl rfl
      · exact gv mix O_ 400 [f0, f0, f0] (ai (bn h0) (ai (bn h1) (ai (bn h2) trivial))) (by kernel_rfl) rfl rfl
theorem K_word_Alu : Keeps Tryz.prog 31 (F4 (cI .i64) cB (cI .u64) (cI .u64) (cP (cI .u64) cB) (fun _ _ _ d => [(decide (0 ≤ d), true)]) word_Alu) := by
  refine keeps4 _ _ _ _ _ (enters_of Tryz.func31 (by kernel_rfl)) fun a b c d hp_ => ?_
  have p0 := of_decide_eq_true hp_.1
  unfold word_Alu
  have O_ := on_
  refine gite (fun h0 => ?_) (fun h0 => ?_)
  · refine gite (fun h1 => ?_) (fun h1 => ?_)
    · exact gv mix O_ 400 [t0, t0, t0, (1, false)] (a2 (be h0) (ai h1 (ai ((df (by first | with_reducible exact p0 | exact count_nn | exact shl1_nz p0 (by assumption) | exact len64_nn | (rw [tab_size]; exact u8_in) | exact nz1 (by assumption) (by assumption) | exact nz2 (by assumption) (by assumption) (by assumption) | exact Int.not_lt.2 wrapu_nonneg | exact Int.not_lt.2 wrapu_nn | (split <;> exact Int.not_lt.2 wrapu_nonneg) | exact Int.not_lt.2 (Int.tmod_nonneg _ (by assumption)) | exact Int.not_lt.2 (Int.tmod_nonneg _ wrapu_nonneg) | exact Int.not_lt.2 bits_nonneg | omega | (rw [wrap_i64_id (by omega) (by omega)]; omega))) : decide ((Int.tmod d 64) < 0) = false) trivial))) (by kernel_rfl) rfl rfl
    · exact gv mix O_ 400 [t0, t0, f0, t0, (1, false)] (a2 (be h0) (ai (bf h1) (ai (be h0) (ai ((df (by first | with_reducible exact p0 | exact count_nn | exact shl1_nz p0 (by assumption) | exact len64_nn | (rw [tab_size]; exact u8_in) | exact nz1 (by assumption) (by assumption) | exact nz2 (by assumption) (by assumption) (by assumption) | exact Int.not_lt.2 wrapu_nonneg | exact Int.not_lt.2 wrapu_nn | (split <;> exact Int.not_lt.2 wrapu_nonneg) | exact Int.not_lt.2 (Int.tmod_nonneg _ (by assumption)) | exact Int.not_lt.2 (Int.tmod_nonneg _ wrapu_nonneg) | exact Int.not_lt.2 bits_nonneg | omega | (rw [wrap_i64_id (by omega) (by omega)]; omega))) : decide ((Int.tmod d 32) < 0) = false) trivial)))) (by kernel_rfl) rfl rfl
  · refine gite (fun h1 => ?_) (fun h1 => ?_)
    · refine gite (fun h2 => ?_) (fun h2 => ?_)
      · exact gv mix O_ 400 [f0, f0, (1, false), t0, t0] (a3 (bn h0) (ai h1 (ai (be h2) trivial))) (by kernel_rfl) rfl rfl
      · refine gite (fun h3 => ?_) (fun h3 => ?_)
        · exact gv mix O_ 400 [f0, f0, (1, false), t0, f0, t0] (a3 (bn h0) (ai h1 (ai (bn h2) (ai (be h3) trivial)))) (by kernel_rfl) rfl rfl
        · refine gite (fun h4 => ?_) (fun h4 => ?_)
          · exact gv mix O_ 400 [f0, f0, (1, false), t0, f0, f0, t0] (a3 (bn h0) (ai h1 (ai (bn h2) (ai (bn h3) (ai (be h4) trivial))))) (by kernel_rfl) rfl rfl
          · refine gite (fun h5 => ?_) (fun h5 => ?_)
            · refine gite (fun h6 => ?_) (fun h6 => ?_)
              · exact gv mix O_ 400 [f0, f0, (1, false), t0, f0, f0, f0, t0, t0] (a3 (bn h0) (ai h1 (ai (bn h2) (ai (bn h3) (ai (bn h4) (ai (be h5) (ai (be h6) trivial))))))) (by kernel_rfl) rfl rfl
              · exact gv mix O_ 400 [f0, f0, (1, false), t0, f0, f0, f0, t0, f0, f0] (a3 (bn h0) (ai h1 (ai (bn h2) (ai (bn h3) (ai (bn h4) (ai (be h5) (ai (bn h6) (ai (df h6) trivial)))))))) (by kernel_rfl) rfl rfl
            · refine gite (fun h6 => ?_) (fun h6 => ?_)
              · refine gite (fun h7 => ?_) (fun h7 => ?_)
                · exact gv mix O_ 400 [f0, f0, (1, false), t0, f0, f0, f0, f0, t0, t0] (a3 (bn h0) (ai h1 (ai (bn h2) (ai (bn h3) (ai (bn h4) (ai (bn h5) (ai (be h6) (ai (be h7) trivial)))))))) (by kernel_rfl) rfl rfl
                · exact gv mix O_ 400 [f0, f0, (1, false), t0, f0, f0, f0, f0, t0, f0, f0] (a3 (bn h0) (ai h1 (ai (bn h2) (ai (bn h3) (ai (bn h4) (ai (bn h5) (ai (be h6) (ai (bn h7) (ai (df h7) trivial))))))))) (by kernel_rfl) rfl rfl
              · refine gite (fun h7 => ?_) (fun h7 => ?_)
                · exact gv mix O_ 400 [f0, f0, (1, false), t0, f0, f0, f0, f0, f0, t0] (a3 (bn h0) (ai h1 (ai (bn h2) (ai (bn h3) (ai (bn h4) (ai (bn h5) (ai (bn h6) (ai (be h7) trivial)))))))) (by kernel_rfl) rfl rfl
                · refine gite (fun h8 => ?_) (fun h8 => ?_)
                  · exact gv mix O_ 400 [f0, f0, (1, false), t0, f0, f0, f0, f0, f0, f0, t0] (a3 (bn h0) (ai h1 (ai (bn h2) (ai (bn h3) (ai (bn h4) (ai (bn h5) (ai (bn h6) (ai (bn h7) (ai (be h8) trivial))))))))) (by kernel_rfl) rfl rfl
                  · refine gite (fun h9 => ?_) (fun h9 => ?_)
                    · exact gv mix O_ 400 [f0, f0, (1, false), t0, f0, f0, f0, f0, f0, f0, f0, t0] (a3 (bn h0) (ai h1 (ai (bn h2) (ai (bn h3) (ai (bn h4) (ai (bn h5) (ai (bn h6) (ai (bn h7) (ai (bn h8) (ai (be h9) trivial)))))))))) (by kernel_rfl) rfl rfl
                    · refine gite (fun h10 => ?_) (fun h10 => ?_)
                      · exact gv mix O_ 400 [f0, f0, (1, false), t0, f0, f0, f0, f0, f0, f0, f0, f0, t0, (1, false)] (a3 (bn h0) (ai h1 (ai (bn h2) (ai (bn h3) (ai (bn h4) (ai (bn h5) (ai (bn h6) (ai (bn h7) (ai (bn h8) (ai (bn h9) (ai (be h10) (ai ((df (by first | with_reducible exact p0 | exact count_nn | exact shl1_nz p0 (by assumption) | exact len64_nn | (rw [tab_size]; exact u8_in) | exact nz1 (by assumption) (by assumption) | exact nz2 (by assumption) (by assumption) (by assumption) | exact Int.not_lt.2 wrapu_nonneg | exact Int.not_lt.2 wrapu_nn | (split <;> exact Int.not_lt.2 wrapu_nonneg) | exact Int.not_lt.2 (Int.tmod_nonneg _ (by assumption)) | exact Int.not_lt.2 (Int.tmod_nonneg _ wrapu_nonneg) | exact Int.not_lt.2 bits_nonneg | omega | (rw [wrap_i64_id (by omega) (by omega)]; omega))) : decide ((Int.tmod d 64) < 0) = false) trivial)))))))))))) (by kernel_rfl) rfl rfl
                      · refine gite (fun h11 => ?_) (fun h11 => ?_)
                        · exact gv mix O_ 400 [f0, f0, (1, false), t0, f0, f0, f0, f0, f0, f0, f0, f0, f0, t0, (1, false)] (a3 (bn h0) (ai h1 (ai (bn h2) (ai (bn h3) (ai (bn h4) (ai (bn h5) (ai (bn h6) (ai (bn h7) (ai (bn h8) (ai (bn h9) (ai (bn h10) (ai (be h11) (ai ((df (by first | with_reducible exact p0 | exact count_nn | exact shl1_nz p0 (by assumption) | exact len64_nn | (rw [tab_size]; exact u8_in) | exact nz1 (by assumption) (by assumption) | exact nz2 (by assumption) (by assumption) (by assumption) | exact Int.not_lt.2 wrapu_nonneg | exact Int.not_lt.2 wrapu_nn | (split <;> exact Int.not_lt.2 wrapu_nonneg) | exact Int.not_lt.2 (Int.tmod_nonneg _ (by assumption)) | exact Int.not_lt.2 (Int.tmod_nonneg _ wrapu_nonneg) | exact Int.not_lt.2 bits_nonneg | omega | (rw [wrap_i64_id (by omega) (by omega)]; omega))) : decide ((Int.tmod d 64) < 0) = false) trivial))))))))))))) (by kernel_rfl) rfl rfl
                        · refine gite (fun h12 => ?_) (fun h12 => ?_)
                          · exact gv mix O_ 400 [f0, f0, (1, false), t0, f0, f0, f0, f0, f0, f0, f0, f0, f0, f0, t0] (a3 (bn h0) (ai h1 (ai (bn h2) (ai (bn h3) (ai (bn h4) (ai (bn h5) (ai (bn h6) (ai (bn h7) (ai (bn h8) (ai (bn h9) (ai (bn h10) (ai (bn h11) (ai (be h12) trivial))))))))))))) (by kernel_rfl) rfl rfl
                          · refine gite (fun h13 => ?_) (fun h13 => ?_)
                            · exact gv mix O_ 400 [f0, f0, (1, false), t0, f0, f0, f0, f0, f0, f0, f0, f0, f0, f0, f0, t0] (a3 (bn h0) (ai h1 (ai (bn h2) (ai (bn h3) (ai (bn h4) (ai (bn h5) (ai (bn h6) (ai (bn h7) (ai (bn h8) (ai (bn h9) (ai (bn h10) (ai (bn h11) (ai (bn h12) (ai (be h13) trivial)))))))))))))) (by kernel_rfl) rfl rfl
                            · exact gv mix O_ 400 [f0, f0, (1, false), t0, f0, f0, f0, f0, f0, f0, f0, f0, f0, f0, f0, f0] (a3 (bn h0) (ai h1 (ai (bn h2) (ai (bn h3) (ai (bn h4) (ai (bn h5) (ai (bn h6) (ai (bn h7) (ai (bn h8) (ai (bn h9) (ai (bn h10) (ai (bn h11) (ai (bn h12) (ai (bn h13) trivial)))))))))))))) (by kernel_rfl) rfl rfl
    · refine gite (fun h2 => ?_) (fun h2 => ?_)
      · exact gv mix O_ 400 [f0, f0, (1, false), f0, t0] (a3 (bn h0) (ai (bf h1) (ai (be h2) trivial))) (by kernel_rfl) rfl rfl
      · refine gite (fun h3 => ?_) (fun h3 => ?_)
        · exact gv mix O_ 400 [f0, f0, (1, false), f0, f0, t0] (a3 (bn h0) (ai (bf h1) (ai (bn h2) (ai (be h3) trivial)))) (by kernel_rfl) rfl rfl
        · refine gite (fun h4 => ?_) (fun h4 => ?_)
          · exact gv mix O_ 400 [f0, f0, (1, false), f0, f0, f0, t0] (a3 (bn h0) (ai (bf h1) (ai (bn h2) (ai (bn h3) (ai (be h4) trivial))))) (by kernel_rfl) rfl rfl
          · refine gite (fun h5 => ?_) (fun h5 => ?_)
            · refine gite (fun h6 => ?_) (fun h6 => ?_)
              · exact gv mix O_ 400 [f0, f0, (1, false), f0, f0, f0, f0, t0, t0] (a3 (bn h0) (ai (bf h1) (ai (bn h2) (ai (bn h3) (ai (bn h4) (ai (be h5) (ai (be h6) trivial))))))) (by kernel_rfl) rfl rfl
              · exact gv mix O_ 400 [f0, f0, (1, false), f0, f0, f0, f0, t0, f0, f0] (a3 (bn h0) (ai (bf h1) (ai (bn h2) (ai (bn h3) (ai (bn h4) (ai (be h5) (ai (bn h6) (ai (df h6) trivial)))))))) (by kernel_rfl) rfl rfl
            · refine gite (fun h6 => ?_) (fun h6 => ?_)
              · refine gite (fun h7 => ?_) (fun h7 => ?_)
                · exact gv mix O_ 400 [f0, f0, (1, false), f0, f0, f0, f0, f0, t0, t0] (a3 (bn h0) (ai (bf h1) (ai (bn h2) (ai (bn h3) (ai (bn h4) (ai (bn h5) (ai (be h6) (ai (be h7) trivial)))))))) (by kernel_rfl) rfl rfl
                · exact gv mix O_ 400 [f0, f0, (1, false), f0, f0, f0, f0, f0, t0, f0, f0] (a3 (bn h0) (ai (bf h1) (ai (bn h2) (ai (bn h3) (ai (bn h4) (ai (bn h5) (ai (be h6) (ai (bn h7) (ai (df h7) trivial))))))))) (by kernel_rfl) rfl rfl
              · refine gite (fun h7 => ?_) (fun h7 => ?_)
                · exact gv mix O_ 400 [f0, f0, (1, false), f0, f0, f0, f0, f0, f0, t0] (a3 (bn h0) (ai (bf h1) (ai (bn h2) (ai (bn h3) (ai (bn h4) (ai (bn h5) (ai (bn h6) (ai (be h7) trivial)))))))) (by kernel_rfl) rfl rfl
                · refine gite (fun h8 => ?_) (fun h8 => ?_)
                  · exact gv mix O_ 400 [f0, f0, (1, false), f0, f0, f0, f0, f0, f0, f0, t0] (a3 (bn h0) (ai (bf h1) (ai (bn h2) (ai (bn h3) (ai (bn h4) (ai (bn h5) (ai (bn h6) (ai (bn h7) (ai (be h8) trivial))))))))) (by kernel_rfl) rfl rfl
                  · refine gite (fun h9 => ?_) (fun h9 => ?_)
                    · exact gv mix O_ 400 [f0, f0, (1, false), f0, f0, f0, f0, f0, f0, f0, f0, t0] (a3 (bn h0) (ai (bf h1) (ai (bn h2) (ai (bn h3) (ai (bn h4) (ai (bn h5) (ai (bn h6) (ai (bn h7) (ai (bn h8) (ai (be h9) trivial)))))))))) (by kernel_rfl) rfl rfl
                    · refine gite (fun h10 => ?_) (fun h10 => ?_)
                      · exact gv mix O_ 400 [f0, f0, (1, false), f0, f0, f0, f0, f0, f0, f0, f0, f0, t0, (1, false)] (a3 (bn h0) (ai (bf h1) (ai (bn h2) (ai (bn h3) (ai (bn h4) (ai (bn h5) (ai (bn h6) (ai (bn h7) (ai (bn h8) (ai (bn h9) (ai (be h10) (ai ((df (by first | with_reducible exact p0 | exact count_nn | exact shl1_nz p0 (by assumption) | exact len64_nn | (rw [tab_size]; exact u8_in) | exact nz1 (by assumption) (by assumption) | exact nz2 (by assumption) (by assumption) (by assumption) | exact Int.not_lt.2 wrapu_nonneg | exact Int.not_lt.2 wrapu_nn | (split <;> exact Int.not_lt.2 wrapu_nonneg) | exact Int.not_lt.2 (Int.tmod_nonneg _ (by assumption)) | exact Int.not_lt.2 (Int.tmod_nonneg _ wrapu_nonneg) | exact Int.not_lt.2 bits_nonneg | omega | (rw [wrap_i64_id (by omega) (by omega)]; omega))) : decide ((Int.tmod (IntKind.u32.wrap d) 32) < 0) = false) trivial)))))))))))) (by kernel_rfl) rfl rfl
                      · refine gite (fun h11 => ?_) (fun h11 => ?_)
                        · exact gv mix O_ 400 [f0, f0, (1, false), f0, f0, f0, f0, f0, f0, f0, f0, f0, f0, t0, (1, false)] (a3 (bn h0) (ai (bf h1) (ai (bn h2) (ai (bn h3) (ai (bn h4) (ai (bn h5) (ai (bn h6) (ai (bn h7) (ai (bn h8) (ai (bn h9) (ai (bn h10) (ai (be h11) (ai ((df (by first | with_reducible exact p0 | exact count_nn | exact shl1_nz p0 (by assumption) | exact len64_nn | (rw [tab_size]; exact u8_in) | exact nz1 (by assumption) (by assumption) | exact nz2 (by assumption) (by assumption) (by assumption) | exact Int.not_lt.2 wrapu_nonneg | exact Int.not_lt.2 wrapu_nn | (split <;> exact Int.not_lt.2 wrapu_nonneg) | exact Int.not_lt.2 (Int.tmod_nonneg _ (by assumption)) | exact Int.not_lt.2 (Int.tmod_nonneg _ wrapu_nonneg) | exact Int.not_lt.2 bits_nonneg | omega | (rw [wrap_i64_id (by omega) (by omega)]; omega))) : decide ((Int.tmod (IntKind.u32.wrap d) 32) < 0) = false) trivial))))))))))))) (by kernel_rfl) rfl rfl
                        · refine gite (fun h12 => ?_) (fun h12 => ?_)
                          · exact gv mix O_ 400 [f0, f0, (1, false), f0, f0, f0, f0, f0, f0, f0, f0, f0, f0, f0, t0] (a3 (bn h0) (ai (bf h1) (ai (bn h2) (ai (bn h3) (ai (bn h4) (ai (bn h5) (ai (bn h6) (ai (bn h7) (ai (bn h8) (ai (bn h9) (ai (bn h10) (ai (bn h11) (ai (be h12) trivial))))))))))))) (by kernel_rfl) rfl rfl
                          · refine gite (fun h13 => ?_) (fun h13 => ?_)
                            · exact gv mix O_ 400 [f0, f0, (1, false), f0, f0, f0, f0, f0, f0, f0, f0, f0, f0, f0, f0, t0] (a3 (bn h0) (ai (bf h1) (ai (bn h2) (ai (bn h3) (ai (bn h4) (ai (bn h5) (ai (bn h6) (ai (bn h7) (ai (bn h8) (ai (bn h9) (ai (bn h10) (ai (bn h11) (ai (bn h12) (ai (be h13) trivial)))))))))))))) (by kernel_rfl) rfl rfl
                            · exact gv mix O_ 400 [f0, f0, (1, false), f0, f0, f0, f0, f0, f0, f0, f0, f0, f0, f0, f0, f0] (a3 (bn h0) (ai (bf h1) (ai (bn h2) (ai (bn h3) (ai (bn h4) (ai (bn h5) (ai (bn h6) (ai (bn h7) (ai (bn h8) (ai (bn h9) (ai (bn h10) (ai (bn h11) (ai (bn h12) (ai (bn h13) trivial)))))))))))))) (by kernel_rfl) rfl rfl
theorem K_lockgateref05_counter : Keeps Tryz.prog 43 (F1 (cI .i64) (cI .i64) (fun _ => []) lockgateref05_counter) := by
  refine keeps1 _ _ (enters_of Tryz.func43 (by kernel_rfl)) fun a hp_ => ?_
  unfold lockgateref05_counter
  have O_ := on_
  refine gite (fun h0 => ?_) (fun h0 => ?_)
  · exact gv mix O_ 400 [(2, true)] (ai (be h0) trivial) (by kernel_rfl) rfl rfl
  · refine gite (fun h1 => ?_) (fun h1 => ?_)
    · exact gv mix O_ 400 [(2, false), (2, true)] (ai (bn h0) (ai (be h1) trivial)) (by kernel_rfl) rfl rfl
    · refine gite (fun h2 => ?_) (fun h2 => ?_)
      · exact gv mix O_ 400 [(2, false), (2, false), (2, true)] (ai (bn h0) (ai (bn h1) (ai (be h2) trivial))) (by kernel_rfl) rfl rfl
      · refine gite (fun h3 => ?_) (fun h3 => ?_)
        · exact gv mix O_ 400 [(2, false), (2, false), (2, false), (2, true)] (ai (bn h0) (ai (bn h1) (ai (bn h2) (ai (be h3) trivial)))) (by kernel_rfl) rfl rfl
        · refine gite (fun h4 => ?_) (fun h4 => ?_)
          · exact gv mix O_ 400 [(2, false), (2, false), (2, false), (2, false), (2, true)] (ai (bn h0) (ai (bn h1) (ai (bn h2) (ai (bn h3) (ai (be h4) trivial))))) (by kernel_rfl) rfl rfl
          · refine gite (fun h5 => ?_) (fun h5 => ?_)
            · exact gv mix O_ 400 [(2, false), (2, false), (2, false), (2, false), (2, false), (2, true)] (ai (bn h0) (ai (bn h1) (ai (bn h2) (ai (bn h3) (ai (bn h4) (ai (be h5) trivial)))))) (by kernel_rfl) rfl rfl
            · refine gite (fun h6 => ?_) (fun h6 => ?_)
              · exact gv mix O_ 400 [(2, false), (2, false), (2, false), (2, false), (2, false), (2, false), (2, true)] (ai (bn h0) (ai (bn h1) (ai (bn h2) (ai (bn h3) (ai (bn h4) (ai (bn h5) (ai (be h6) trivial))))))) (by kernel_rfl) rfl rfl
              · refine gite (fun h7 => ?_) (fun h7 => ?_)
                · exact gv mix O_ 400 [(2, false), (2, false), (2, false), (2, false), (2, false), (2, false), (2, false), (2, true)] (ai (bn h0) (ai (bn h1) (ai (bn h2) (ai (bn h3) (ai (bn h4) (ai (bn h5) (ai (bn h6) (ai (be h7) trivial)))))))) (by kernel_rfl) rfl rfl
                · refine gite (fun h8 => ?_) (fun h8 => ?_)
                  · exact gv mix O_ 400 [(2, false), (2, false), (2, false), (2, false), (2, false), (2, false), (2, false), (2, false), (2, true)] (ai (bn h0) (ai (bn h1) (ai (bn h2) (ai (bn h3) (ai (bn h4) (ai (bn h5) (ai (bn h6) (ai (bn h7) (ai (be h8) trivial))))))))) (by kernel_rfl) rfl rfl
                  · refine gite (fun h9 => ?_) (fun h9 => ?_)
                    · exact gv mix O_ 400 [(2, false), (2, false), (2, false), (2, false), (2, false), (2, false), (2, false), (2, false), (2, false), (2, true)] (ai (bn h0) (ai (bn h1) (ai (bn h2) (ai (bn h3) (ai (bn h4) (ai (bn h5) (ai (bn h6) (ai (bn h7) (ai (bn h8) (ai (be h9) trivial)))))))))) (by kernel_rfl) rfl rfl
                    · exact gv mix O_ 400 [(2, false), (2, false), (2, false), (2, false), (2, false), (2, false), (2, false), (2, false), (2, false), (2, false)] (ai (bn h0) (ai (bn h1) (ai (bn h2) (ai (bn h3) (ai (bn h4) (ai (bn h5) (ai (bn h6) (ai (bn h7) (ai (bn h8) (ai (bn h9) trivial)))))))))) (by kernel_rfl) rfl rfl
theorem K_span_FromT : Keeps Tryz.prog 45 (F1 cTn (cP cUs cSs) (fun _ => []) span_FromT) := by
  refine keeps1 _ _ (enters_of Tryz.func45 (by kernel_rfl)) fun a hp_ => ?_
  unfold span_FromT
  have O_ := on_
  refine gite (fun h0 => ?_) (fun h0 => ?_)
  · exact gv mix O_ 400 [t0] (ai (be h0) trivial) (by kernel_rfl) rfl rfl
  · exact gv mix O_ 400 [f0] (ai (bn h0) trivial) (by kernel_rfl) rfl rfl
theorem K_tnum_Of : Keeps Tryz.prog 58 (F1 (cI .u64) cTn (fun _ => []) tnum_Of) := by
  refine keeps1 _ _ (enters_of Tryz.func58 (by kernel_rfl)) fun a hp_ => ?_
  unfold tnum_Of
  have O_ := on_
  exact gv mix O_ 400 [] trivial (by kernel_rfl) rfl rfl
theorem K_span_UOf : Keeps Tryz.prog 59 (F1 (cI .u64) cUs (fun _ => []) span_UOf) := by
  refine keeps1 _ _ (enters_of Tryz.func59 (by kernel_rfl)) fun a hp_ => ?_
  unfold span_UOf
  have O_ := on_
  exact gv mix O_ 400 [] trivial (by kernel_rfl) rfl rfl
theorem K_span_SOf : Keeps Tryz.prog 60 (F1 (cI .u64) cSs (fun _ => []) span_SOf) := by
  refine keeps1 _ _ (enters_of Tryz.func60 (by kernel_rfl)) fun a hp_ => ?_
  unfold span_SOf
  have O_ := on_
  exact gv mix O_ 400 [] trivial (by kernel_rfl) rfl rfl
theorem K_lockgateref04_UOf : Keeps Tryz.prog 62 (F1 (cI .u64) cUs (fun _ => []) lockgateref04_UOf) := by
  refine keeps1 _ _ (enters_of Tryz.func62 (by kernel_rfl)) fun a hp_ => ?_
  unfold lockgateref04_UOf
  have O_ := on_
  exact gv mix O_ 400 [] trivial (by kernel_rfl) rfl rfl
theorem K_lockgateref04_SOf : Keeps Tryz.prog 63 (F1 (cI .u64) cSs (fun _ => []) lockgateref04_SOf) := by
  refine keeps1 _ _ (enters_of Tryz.func63 (by kernel_rfl)) fun a hp_ => ?_
  unfold lockgateref04_SOf
  have O_ := on_
  exact gv mix O_ 400 [] trivial (by kernel_rfl) rfl rfl
theorem K_tnum_Any : Keeps Tryz.prog 64 (F0 cTn [] tnum_Any) := by
  refine keeps0  _ (enters_of Tryz.func64 (by kernel_rfl)) fun _ => ?_
  unfold tnum_Any
  have O_ := on_
  exact gv mix O_ 400 [] trivial (by kernel_rfl) rfl rfl
theorem K_span_UAll : Keeps Tryz.prog 65 (F0 cUs [] span_UAll) := by
  refine keeps0  _ (enters_of Tryz.func65 (by kernel_rfl)) fun _ => ?_
  unfold span_UAll
  have O_ := on_
  exact gv mix O_ 400 [] trivial (by kernel_rfl) rfl rfl
theorem K_span_SAll : Keeps Tryz.prog 66 (F0 cSs [] span_SAll) := by
  refine keeps0  _ (enters_of Tryz.func66 (by kernel_rfl)) fun _ => ?_
  unfold span_SAll
  have O_ := on_
  exact gv mix O_ 400 [] trivial (by kernel_rfl) rfl rfl
theorem K_lockgateref03_Any : Keeps Tryz.prog 67 (F0 cTn [] lockgateref03_Any) := by
  refine keeps0  _ (enters_of Tryz.func67 (by kernel_rfl)) fun _ => ?_
  unfold lockgateref03_Any
  have O_ := on_
  exact gv mix O_ 400 [] trivial (by kernel_rfl) rfl rfl
theorem K_lockgateref04_SAll : Keeps Tryz.prog 69 (F0 cSs [] lockgateref04_SAll) := by
  refine keeps0  _ (enters_of Tryz.func69 (by kernel_rfl)) fun _ => ?_
  unfold lockgateref04_SAll
  have O_ := on_
  exact gv mix O_ 400 [] trivial (by kernel_rfl) rfl rfl
theorem K_tnum_In : Keeps Tryz.prog 70 (F2 cTn (cI .u64) cB (fun _ _ => []) tnum_In) := by
  refine keeps2 _ _ _ (enters_of Tryz.func70 (by kernel_rfl)) fun a b hp_ => ?_
  unfold tnum_In
  have O_ := on_
  exact gv mix O_ 400 [] trivial (by kernel_rfl) rfl rfl
theorem K_lockgateref04_UIn : Keeps Tryz.prog 74 (F2 cUs (cI .u64) cB (fun _ _ => []) lockgateref04_UIn) := by
  refine keeps2 _ _ _ (enters_of Tryz.func74 (by kernel_rfl)) fun a b hp_ => ?_
  unfold lockgateref04_UIn
  have O_ := on_
  refine gite (fun h0 => ?_) (fun h0 => ?_)
  · exact gv mix O_ 400 [t0, t0, t0, t0, t0] (a5 (dt h0) trivial) (by kernel_rfl) rfl rfl
  · exact gv mix O_ 400 [f0, f0, f0, f0, f0] (a5 (df h0) trivial) (by kernel_rfl) rfl rfl
theorem K_lockgateref04_SIn : Keeps Tryz.prog 75 (F2 cSs (cI .u64) cB (fun _ _ => []) lockgateref04_SIn) := by
  refine keeps2 _ _ _ (enters_of Tryz.func75 (by kernel_rfl)) fun a b hp_ => ?_
  unfold lockgateref04_SIn
  have O_ := on_
  refine gite (fun h0 => ?_) (fun h0 => ?_)
  · exact gv mix O_ 400 [t0, t0, t0, t0, t0, t0] (a6 (dt h0) trivial) (by kernel_rfl) rfl rfl
  · exact gv mix O_ 400 [f0, f0, f0, f0, f0, f0] (a6 (df h0) trivial) (by kernel_rfl) rfl rfl
theorem K_tnum_Within : Keeps Tryz.prog 76 (F2 cTn cTn cB (fun _ _ => []) tnum_Within) := by
  refine keeps2 _ _ _ (enters_of Tryz.func76 (by kernel_rfl)) fun a b hp_ => ?_
  unfold tnum_Within
  have O_ := (orc_cons K_tnum_In on_)
  refine gite (fun h0 => ?_) (fun h0 => ?_)
  · exact gv mix O_ 400 [t0, t0, t0, t0, t0] (a5 (be h0) trivial) (by kernel_rfl) rfl rfl
  · exact gv mix O_ 400 [f0, f0, f0, f0, f0] (a5 (bn h0) trivial) (by kernel_rfl) rfl rfl
theorem K_span_UWithin : Keeps Tryz.prog 77 (F2 cUs cUs cB (fun _ _ => []) span_UWithin) := by
  refine keeps2 _ _ _ (enters_of Tryz.func77 (by kernel_rfl)) fun a b hp_ => ?_
  unfold span_UWithin
  have O_ := on_
  refine gite (fun h0 => ?_) (fun h0 => ?_)
  · exact gv mix O_ 400 [t0, t0, t0, t0, t0, t0] (a6 (dt h0) trivial) (by kernel_rfl) rfl rfl
  · exact gv mix O_ 400 [f0, f0, f0, f0, f0, f0] (a6 (df h0) trivial) (by kernel_rfl) rfl rfl
theorem K_span_SWithin : Keeps Tryz.prog 78 (F2 cSs cSs cB (fun _ _ => []) span_SWithin) := by
  refine keeps2 _ _ _ (enters_of Tryz.func78 (by kernel_rfl)) fun a b hp_ => ?_
  unfold span_SWithin
  have O_ := on_
  refine gite (fun h0 => ?_) (fun h0 => ?_)
  · exact gv mix O_ 400 [t0, t0, t0, t0, t0, t0] (a6 (dt h0) trivial) (by kernel_rfl) rfl rfl
  · exact gv mix O_ 400 [f0, f0, f0, f0, f0, f0] (a6 (df h0) trivial) (by kernel_rfl) rfl rfl
theorem K_lockgateref04_UWithin : Keeps Tryz.prog 80 (F2 cUs cUs cB (fun _ _ => []) lockgateref04_UWithin) := by
  refine keeps2 _ _ _ (enters_of Tryz.func80 (by kernel_rfl)) fun a b hp_ => ?_
  unfold lockgateref04_UWithin
  have O_ := (orc_cons K_lockgateref04_UIn on_)
  refine gite (fun h0 => ?_) (fun h0 => ?_)
  · exact gv mix O_ 400 [t0, t0, t0, t0, t0] (a5 h0 trivial) (by kernel_rfl) rfl rfl
  · exact gv mix O_ 400 [f0, f0, f0, f0, f0] (a5 (bf h0) trivial) (by kernel_rfl) rfl rfl
theorem K_lockgateref04_SWithin : Keeps Tryz.prog 81 (F2 cSs cSs cB (fun _ _ => []) lockgateref04_SWithin) := by
  refine keeps2 _ _ _ (enters_of Tryz.func81 (by kernel_rfl)) fun a b hp_ => ?_
  unfold lockgateref04_SWithin
  have O_ := on_
  refine gite (fun h0 => ?_) (fun h0 => ?_)
  · exact gv mix O_ 400 [t0, t0, t0, t0, t0, t0] (a6 (dt h0) trivial) (by kernel_rfl) rfl rfl
  · exact gv mix O_ 400 [f0, f0, f0, f0, f0, f0] (a6 (df h0) trivial) (by kernel_rfl) rfl rfl
theorem K_lockgateref04_UJoin : Keeps Tryz.prog 86 (F2 cUs cUs cUs (fun _ _ => []) lockgateref04_UJoin) := by
  refine keeps2 _ _ _ (enters_of Tryz.func86 (by kernel_rfl)) fun a b hp_ => ?_
  unfold lockgateref04_UJoin
  have O_ := on_
  refine gite (fun h0 => ?_) (fun h0 => ?_)
  · refine gite (fun h1 => ?_) (fun h1 => ?_)
    · exact gv mix O_ 400 [t0, t0] (ai (dt h0) (ai (dt h1) trivial)) (by kernel_rfl) rfl rfl
    · exact gv mix O_ 400 [t0, f0] (ai (dt h0) (ai (df h1) trivial)) (by kernel_rfl) rfl rfl
  · refine gite (fun h1 => ?_) (fun h1 => ?_)
    · exact gv mix O_ 400 [f0, t0] (ai (df h0) (ai (dt h1) trivial)) (by kernel_rfl) rfl rfl
    · exact gv mix O_ 400 [f0, f0] (ai (df h0) (ai (df h1) trivial)) (by kernel_rfl) rfl rfl
theorem K_lockgateref04_SJoin : Keeps Tryz.prog 87 (F2 cSs cSs cSs (fun _ _ => []) lockgateref04_SJoin) := by
  refine keeps2 _ _ _ (enters_of Tryz.func87 (by kernel_rfl)) fun a b hp_ => ?_
  unfold lockgateref04_SJoin
  have O_ := on_
  refine gite (fun h0 => ?_) (fun h0 => ?_)
  · refine gite (fun h1 => ?_) (fun h1 => ?_)
    · exact gv mix O_ 400 [t0, t0] (ai (dt h0) (ai (dt h1) trivial)) (by kernel_rfl) rfl rfl
    · exact gv mix O_ 400 [t0, f0] (ai (dt h0) (ai (df h1) trivial)) (by kernel_rfl) rfl rfl
  · refine gite (fun h1 => ?_) (fun h1 => ?_)
    · exact gv mix O_ 400 [f0, t0] (ai (df h0) (ai (dt h1) trivial)) (by kernel_rfl) rfl rfl
    · exact gv mix O_ 400 [f0, f0] (ai (df h0) (ai (df h1) trivial)) (by kernel_rfl) rfl rfl
theorem K_tnum_Cut : Keeps Tryz.prog 92 (F2 cTn (cI .i64) cTn (fun _ _ => []) tnum_Cut) := by
  refine keeps2 _ _ _ (enters_of Tryz.func92 (by kernel_rfl)) fun a b hp_ => ?_
  unfold tnum_Cut
  have O_ := (orc_cons K_tnum_Of on_)
  refine gite (fun h0 => ?_) (fun h0 => ?_)
  · exact gv mix O_ 400 [t0] (ai (dt h0) trivial) (by kernel_rfl) rfl rfl
  · refine gite (fun h1 => ?_) (fun h1 => ?_)
    · exact gv mix O_ 400 [f0, t0] (ai (df h0) (ai (dt h1) trivial)) (by kernel_rfl) rfl rfl
    · exact gv mix O_ 400 [f0, f0, f0] (ai (df h0) (ai (df h1) (ai ((df (by first | with_reducible exact p0 | exact count_nn | exact shl1_nz p0 (by assumption) | exact len64_nn | (rw [tab_size]; exact u8_in) | exact nz1 (by assumption) (by assumption) | exact nz2 (by assumption) (by assumption) (by assumption) | exact Int.not_lt.2 wrapu_nonneg | exact Int.not_lt.2 wrapu_nn | (split <;> exact Int.not_lt.2 wrapu_nonneg) | exact Int.not_lt.2 (Int.tmod_nonneg _ (by assumption)) | exact Int.not_lt.2 (Int.tmod_nonneg _ wrapu_nonneg) | exact Int.not_lt.2 bits_nonneg | omega | (rw [wrap_i64_id (by omega) (by omega)]; omega))) : decide ((IntKind.i64.wrap (8 * b)) < 0) = false) trivial))) (by kernel_rfl) rfl rfl
theorem K_span_UCut : Keeps Tryz.prog 93 (F1 cUs cUs (fun _ => []) span_UCut) := by
  refine keeps1 _ _ (enters_of Tryz.func93 (by kernel_rfl)) fun a hp_ => ?_
  unfold span_UCut
  have O_ := on_
  refine gite (fun h0 => ?_) (fun h0 => ?_)
  · exact gv mix O_ 400 [(2, true)] (ai (be h0) trivial) (by kernel_rfl) rfl rfl
  · exact gv mix O_ 400 [(2, false)] (ai (bn h0) trivial) (by kernel_rfl) rfl rfl
theorem K_tnum_Lsh : Keeps Tryz.prog 94 (F2 cTn (cI .i64) cTn (fun _ _ => []) tnum_Lsh) := by
  refine keeps2 _ _ _ (enters_of Tryz.func94 (by kernel_rfl)) fun a b hp_ => ?_
  unfold tnum_Lsh
  have O_ := on_
  exact gv mix O_ 400 [(1, false), f0] (a2 ((df (by first | with_reducible exact p0 | exact count_nn | exact shl1_nz p0 (by assumption) | exact len64_nn | (rw [tab_size]; exact u8_in) | exact nz1 (by assumption) (by assumption) | exact nz2 (by assumption) (by assumption) (by assumption) | exact Int.not_lt.2 wrapu_nonneg | exact Int.not_lt.2 wrapu_nn | (split <;> exact Int.not_lt.2 wrapu_nonneg) | exact Int.not_lt.2 (Int.tmod_nonneg _ (by assumption)) | exact Int.not_lt.2 (Int.tmod_nonneg _ wrapu_nonneg) | exact Int.not_lt.2 bits_nonneg | omega | (rw [wrap_i64_id (by omega) (by omega)]; omega))) : decide ((Int.tmod (IntKind.u64.wrap b) 64) < 0) = false) trivial) (by kernel_rfl) rfl rfl
theorem K_span_ULsh : Keeps Tryz.prog 95 (F2 cUs (cI .i64) cUs (fun _ _ => []) span_ULsh) := by
  refine keeps2 _ _ _ (enters_of Tryz.func95 (by kernel_rfl)) fun a b hp_ => ?_
  unfold span_ULsh
  have O_ := (orc_cons K_span_UAll on_)
  refine gite (fun h0 => ?_) (fun h0 => ?_)
  · exact gv mix O_ 400 [f0, f0, f0, f0, f0] (a2 ((df (Int.not_lt.2 bits_nonneg)) : decide ((Go.bits .and .i64 b 63) < 0) = false) (ai (bne_eq_false_iff_eq.2 h0) (a2 ((df (Int.not_lt.2 bits_nonneg)) : decide ((Go.bits .and .i64 b 63) < 0) = false) trivial))) (by kernel_rfl) rfl rfl
  · exact gv mix O_ 400 [f0, f0, t0] (a2 ((df (Int.not_lt.2 bits_nonneg)) : decide ((Go.bits .and .i64 b 63) < 0) = false) (ai (bne_iff_ne.2 h0) trivial)) (by kernel_rfl) rfl rfl
theorem K_tnum_Rsh : Keeps Tryz.prog 96 (F2 cTn (cI .i64) cTn (fun _ _ => []) tnum_Rsh) := by
  refine keeps2 _ _ _ (enters_of Tryz.func96 (by kernel_rfl)) fun a b hp_ => ?_
  unfold tnum_Rsh
  have O_ := on_
  exact gv mix O_ 400 [(1, false), f0] (a2 ((df (by first | with_reducible exact p0 | exact count_nn | exact shl1_nz p0 (by assumption) | exact len64_nn | (rw [tab_size]; exact u8_in) | exact nz1 (by assumption) (by assumption) | exact nz2 (by assumption) (by assumption) (by assumption) | exact Int.not_lt.2 wrapu_nonneg | exact Int.not_lt.2 wrapu_nn | (split <;> exact Int.not_lt.2 wrapu_nonneg) | exact Int.not_lt.2 (Int.tmod_nonneg _ (by assumption)) | exact Int.not_lt.2 (Int.tmod_nonneg _ wrapu_nonneg) | exact Int.not_lt.2 bits_nonneg | omega | (rw [wrap_i64_id (by omega) (by omega)]; omega))) : decide ((Int.tmod (IntKind.u64.wrap b) 64) < 0) = false) trivial) (by kernel_rfl) rfl rfl
theorem K_span_URsh : Keeps Tryz.prog 97 (F2 cUs (cI .i64) cUs (fun _ _ => []) span_URsh) := by
  refine keeps2 _ _ _ (enters_of Tryz.func97 (by kernel_rfl)) fun a b hp_ => ?_
  unfold span_URsh
  have O_ := on_
  exact gv mix O_ 400 [f0, f0] (a2 ((df (Int.not_lt.2 bits_nonneg)) : decide ((Go.bits .and .i64 b 63) < 0) = false) trivial) (by kernel_rfl) rfl rfl
theorem K_tnum_Arsh : Keeps Tryz.prog 98 (F3 cTn (cI .i64) (cI .i64) cTn (fun _ _ _ => []) tnum_Arsh) := by
  refine keeps3 _ _ _ _ (enters_of Tryz.func98 (by kernel_rfl)) fun a b c hp_ => ?_
  unfold tnum_Arsh
  have O_ := (orc_cons K_tnum_Any on_)
  refine gite (fun h0 => ?_) (fun h0 => ?_)
  · exact gv mix O_ 400 [t0, (1, false), f0] (ai (be h0) (a2 ((df (by first | with_reducible exact p0 | exact count_nn | exact shl1_nz p0 (by assumption) | exact len64_nn | (rw [tab_size]; exact u8_in) | exact nz1 (by assumption) (by assumption) | exact nz2 (by assumption) (by assumption) (by assumption) | exact Int.not_lt.2 wrapu_nonneg | exact Int.not_lt.2 wrapu_nn | (split <;> exact Int.not_lt.2 wrapu_nonneg) | exact Int.not_lt.2 (Int.tmod_nonneg _ (by assumption)) | exact Int.not_lt.2 (Int.tmod_nonneg _ wrapu_nonneg) | exact Int.not_lt.2 bits_nonneg | omega | (rw [wrap_i64_id (by omega) (by omega)]; omega))) : decide ((Int.tmod (IntKind.u64.wrap b) 64) < 0) = false) trivial)) (by kernel_rfl) rfl rfl
  · refine gite (fun h1 => ?_) (fun h1 => ?_)
    · exact gv mix O_ 400 [f0, t0, (1, false), f0] (ai (bn h0) (ai (be h1) (a2 ((df (by first | with_reducible exact p0 | exact count_nn | exact shl1_nz p0 (by assumption) | exact len64_nn | (rw [tab_size]; exact u8_in) | exact nz1 (by assumption) (by assumption) | exact nz2 (by assumption) (by assumption) (by assumption) | exact Int.not_lt.2 wrapu_nonneg | exact Int.not_lt.2 wrapu_nn | (split <;> exact Int.not_lt.2 wrapu_nonneg) | exact Int.not_lt.2 (Int.tmod_nonneg _ (by assumption)) | exact Int.not_lt.2 (Int.tmod_nonneg _ wrapu_nonneg) | exact Int.not_lt.2 bits_nonneg | omega | (rw [wrap_i64_id (by omega) (by omega)]; omega))) : decide ((Int.tmod (IntKind.u64.wrap b) 32) < 0) = false) trivial))) (by kernel_rfl) rfl rfl
    · exact gv mix O_ 400 [f0, f0] (ai (bn h0) (ai (bn h1) trivial)) (by kernel_rfl) rfl rfl
theorem K_span_SArsh : Keeps Tryz.prog 99 (F2 cSs (cI .i64) cSs (fun _ _ => []) span_SArsh) := by
  refine keeps2 _ _ _ (enters_of Tryz.func99 (by kernel_rfl)) fun a b hp_ => ?_
  unfold span_SArsh
  have O_ := on_
  exact gv mix O_ 400 [f0, f0] (a2 ((df (Int.not_lt.2 bits_nonneg)) : decide ((Go.bits .and .i64 b 63) < 0) = false) trivial) (by kernel_rfl) rfl rfl
theorem K_span_UAdd : Keeps Tryz.prog 101 (F2 cUs cUs cUs (fun _ _ => []) span_UAdd) := by
  refine keeps2 _ _ _ (enters_of Tryz.func101 (by kernel_rfl)) fun a b hp_ => ?_
  unfold span_UAdd
  have O_ := (orc_cons K_span_UAll on_)
  refine gite (fun h0 => ?_) (fun h0 => ?_)
  · exact gv mix O_ 400 [t0] (ai (dt h0) trivial) (by kernel_rfl) rfl rfl
  · exact gv mix O_ 400 [f0] (ai (df h0) trivial) (by kernel_rfl) rfl rfl
theorem K_span_USub : Keeps Tryz.prog 104 (F2 cUs cUs cUs (fun _ _ => []) span_USub) := by
  refine keeps2 _ _ _ (enters_of Tryz.func104 (by kernel_rfl)) fun a b hp_ => ?_
  unfold span_USub
  have O_ := (orc_cons K_span_UAll on_)
  refine gite (fun h0 => ?_) (fun h0 => ?_)
  · exact gv mix O_ 400 [t0] (ai (dt h0) trivial) (by kernel_rfl) rfl rfl
  · exact gv mix O_ 400 [f0] (ai (df h0) trivial) (by kernel_rfl) rfl rfl
theorem K_tnum_Or : Keeps Tryz.prog 110 (F2 cTn cTn cTn (fun _ _ => []) tnum_Or) := by
  refine keeps2 _ _ _ (enters_of Tryz.func110 (by kernel_rfl)) fun a b hp_ => ?_
  unfold tnum_Or
  have O_ := on_
  exact gv mix O_ 400 [] trivial (by kernel_rfl) rfl rfl
theorem K_tnum_And : Keeps Tryz.prog 112 (F2 cTn cTn cTn (fun _ _ => []) tnum_And) := by
  refine keeps2 _ _ _ (enters_of Tryz.func112 (by kernel_rfl)) fun a b hp_ => ?_
  unfold tnum_And
  have O_ := on_
  exact gv mix O_ 400 [] trivial (by kernel_rfl) rfl rfl
theorem K_lockgateref01_Low : Keeps Tryz.prog 115 (F2 (cI .u64) (cI .i64) (cI .u64) (fun _ b => [(decide (0 ≤ b), true)]) lockgateref01_Low) := by
  refine keeps2 _ _ _ (enters_of Tryz.func115 (by kernel_rfl)) fun a b hp_ => ?_
  have p0 := of_decide_eq_true hp_.1
  unfold lockgateref01_Low
  have O_ := on_
  refine gite (fun h0 => ?_) (fun h0 => ?_)
  · exact gv mix O_ 400 [t0] (ai (dt h0) trivial) (by kernel_rfl) rfl rfl
  · exact gv mix O_ 400 [f0, f0, f0] (ai (df h0) (ai ((df (Int.not_lt.2 wrapu_nonneg)) : decide ((IntKind.u64.wrap b) < 0) = false) (ai ((df (by first | with_reducible exact p0 | exact count_nn | exact shl1_nz p0 (by assumption) | exact len64_nn | (rw [tab_size]; exact u8_in) | exact nz1 (by assumption) (by assumption) | exact nz2 (by assumption) (by assumption) (by assumption) | exact Int.not_lt.2 wrapu_nonneg | exact Int.not_lt.2 wrapu_nn | (split <;> exact Int.not_lt.2 wrapu_nonneg) | exact Int.not_lt.2 (Int.tmod_nonneg _ (by assumption)) | exact Int.not_lt.2 (Int.tmod_nonneg _ wrapu_nonneg) | exact Int.not_lt.2 bits_nonneg | omega | (rw [wrap_i64_id (by omega) (by omega)]; omega))) : decide ((shl .u64 1 (IntKind.u64.wrap b)) = 0) = false) trivial))) (by kernel_rfl) rfl rfl
theorem K_lockgateref03_Cut : Keeps Tryz.prog 123 (F2 cTn (cI .i64) cTn (fun _ _ => []) lockgateref03_Cut) := by
  refine keeps2 _ _ _ (enters_of Tryz.func123 (by kernel_rfl)) fun a b hp_ => ?_
  unfold lockgateref03_Cut
  have O_ := (orc_cons K_lockgateref03_Of on_)
  refine gite (fun h0 => ?_) (fun h0 => ?_)
  · exact gv mix O_ 400 [t0] (ai (dt h0) trivial) (by kernel_rfl) rfl rfl
  · refine gite (fun h1 => ?_) (fun h1 => ?_)
    · exact gv mix O_ 400 [f0, t0] (ai (df h0) (ai (dt h1) trivial)) (by kernel_rfl) rfl rfl
    · exact gv mix O_ 400 [f0, f0, f0] (ai (df h0) (ai (df h1) (ai ((df (Int.not_lt.2 wrapu_nonneg)) : decide ((IntKind.u64.wrap (IntKind.i64.wrap (8 * b))) < 0) = false) trivial))) (by kernel_rfl) rfl rfl
theorem K_lockgateref04_UCut : Keeps Tryz.prog 124 (F1 cUs cUs (fun _ => []) lockgateref04_UCut) := by
  refine keeps1 _ _ (enters_of Tryz.func124 (by kernel_rfl)) fun a hp_ => ?_
  unfold lockgateref04_UCut
  have O_ := on_
  refine gite (fun h0 => ?_) (fun h0 => ?_)
  · exact gv mix O_ 400 [(2, true)] (ai (be h0) trivial) (by kernel_rfl) rfl rfl
  · exact gv mix O_ 400 [(2, false)] (ai (bn h0) trivial) (by kernel_rfl) rfl rfl
theorem K_lockgateref04_UAdd : Keeps Tryz.prog 132 (F2 cUs cUs cUs (fun _ _ => []) lockgateref04_UAdd) := by
  refine keeps2 _ _ _ (enters_of Tryz.func132 (by kernel_rfl)) fun a b hp_ => ?_
  unfold lockgateref04_UAdd
  have O_ := (orc_cons K_lockgateref04_UAll on_)
  refine gite (fun h0 => ?_) (fun h0 => ?_)
  · exact gv mix O_ 400 [t0] (ai (dt h0) trivial) (by kernel_rfl) rfl rfl
  · exact gv mix O_ 400 [f0] (ai (df h0) trivial) (by kernel_rfl) rfl rfl
theorem K_lockgateref03_Sub : Keeps Tryz.prog 134 (F2 cTn cTn cTn (fun _ _ => []) lockgateref03_Sub) := by
  refine keeps2 _ _ _ (enters_of Tryz.func134 (by kernel_rfl)) fun a b hp_ => ?_
  unfold lockgateref03_Sub
  have O_ := (orc_cons K_lockgateref03_without on_)
  exact gv mix O_ 400 [] trivial (by kernel_rfl) rfl rfl
theorem K_lockgateref04_USub : Keeps Tryz.prog 135 (F2 cUs cUs cUs (fun _ _ => []) lockgateref04_USub) := by
  refine keeps2 _ _ _ (enters_of Tryz.func135 (by kernel_rfl)) fun a b hp_ => ?_
  unfold lockgateref04_USub
  have O_ := (orc_cons K_lockgateref04_UAll on_)
  refine gite (fun h0 => ?_) (fun h0 => ?_)
  · exact gv mix O_ 400 [t0] (ai (dt h0) trivial) (by kernel_rfl) rfl rfl
  · exact gv mix O_ 400 [f0] (ai (df h0) trivial) (by kernel_rfl) rfl rfl
theorem K_lockgateref04_UMul : Keeps Tryz.prog 138 (F2 cUs cUs cUs (fun _ _ => []) lockgateref04_UMul) := by
  refine keeps2 _ _ _ (enters_of Tryz.func138 (by kernel_rfl)) fun a b hp_ => ?_
  unfold lockgateref04_UMul
  have O_ := (orc_cons K_lockgateref04_UAll on_)
  refine gite (fun h0 => ?_) (fun h0 => ?_)
  · exact gv mix O_ 400 [f0, f0, f0, f0, f0, f0, f0, f0, f0] (a9 (bne_eq_false_iff_eq.2 h0) trivial) (by kernel_rfl) rfl rfl
  · refine gite (fun h1 => ?_) (fun h1 => ?_)
    · exact gv mix O_ 400 [t0, t0, t0, t0, t0, t0, t0, f0, t0, t0, t0] (a7 (bne_iff_ne.2 h0) (ai (df h0) (a2 (bne_iff_ne.2 h0) (ai (dt h1) trivial)))) (by kernel_rfl) rfl rfl
    · exact gv mix O_ 400 [t0, t0, t0, t0, t0, t0, t0, f0, t0, t0, f0] (a7 (bne_iff_ne.2 h0) (ai (df h0) (a2 (bne_iff_ne.2 h0) (ai (df h1) trivial)))) (by kernel_rfl) rfl rfl
theorem K_lockgateref03_Or : Keeps Tryz.prog 141 (F2 cTn cTn cTn (fun _ _ => []) lockgateref03_Or) := by
  refine keeps2 _ _ _ (enters_of Tryz.func141 (by kernel_rfl)) fun a b hp_ => ?_
  unfold lockgateref03_Or
  have O_ := on_
  exact gv mix O_ 400 [] trivial (by kernel_rfl) rfl rfl
theorem K_lockgateref03_And : Keeps Tryz.prog 143 (F2 cTn cTn cTn (fun _ _ => []) lockgateref03_And) := by
  refine keeps2 _ _ _ (enters_of Tryz.func143 (by kernel_rfl)) fun a b hp_ => ?_
  unfold lockgateref03_And
  have O_ := on_
  exact gv mix O_ 400 [] trivial (by kernel_rfl) rfl rfl
theorem K_lockgateref03_Xor : Keeps Tryz.prog 145 (F2 cTn cTn cTn (fun _ _ => []) lockgateref03_Xor) := by
  refine keeps2 _ _ _ (enters_of Tryz.func145 (by kernel_rfl)) fun a b hp_ => ?_
  unfold lockgateref03_Xor
  have O_ := (orc_cons K_lockgateref03_without on_)
  exact gv mix O_ 400 [] trivial (by kernel_rfl) rfl rfl
theorem K_word_order_uint64 : Keeps Tryz.prog 146 (F2 (cI .u64) (cI .u64) (cI .i64) (fun _ _ => []) word_order_uint64) := by
  refine keeps2 _ _ _ (enters_of Tryz.func146 (by kernel_rfl)) fun a b hp_ => ?_
  unfold word_order_uint64
  have O_ := on_
  refine gite (fun h0 => ?_) (fun h0 => ?_)
  · exact gv mix O_ 400 [t0] (ai (dt h0) trivial) (by kernel_rfl) rfl rfl
  · refine gite (fun h1 => ?_) (fun h1 => ?_)
    · exact gv mix O_ 400 [f0, t0] (ai (df h0) (ai (dt h1) trivial)) (by kernel_rfl) rfl rfl
    · exact gv mix O_ 400 [f0, f0] (ai (df h0) (ai (df h1) trivial)) (by kernel_rfl) rfl rfl
theorem K_word_order_int64 : Keeps Tryz.prog 147 (F2 (cI .i64) (cI .i64) (cI .i64) (fun _ _ => []) word_order_int64) := by
  refine keeps2 _ _ _ (enters_of Tryz.func147 (by kernel_rfl)) fun a b hp_ => ?_
  unfold word_order_int64
  have O_ := on_
  refine gite (fun h0 => ?_) (fun h0 => ?_)
  · exact gv mix O_ 400 [t0] (ai (dt h0) trivial) (by kernel_rfl) rfl rfl
  · refine gite (fun h1 => ?_) (fun h1 => ?_)
    · exact gv mix O_ 400 [f0, t0] (ai (df h0) (ai (dt h1) trivial)) (by kernel_rfl) rfl rfl
    · exact gv mix O_ 400 [f0, f0] (ai (df h0) (ai (df h1) trivial)) (by kernel_rfl) rfl rfl
theorem K_scalar_without : Keeps Tryz.prog 150 (F2 cSc (cI .u64) (cP cSc cB) (fun _ _ => []) scalar_without) := by
  refine keeps2 _ _ _ (enters_of Tryz.func150 (by kernel_rfl)) fun a b hp_ => ?_
  unfold scalar_without
  have O_ := (orc_cons K_span_UOf (orc_cons K_span_SOf on_))
  refine gite (fun h0 => ?_) (fun h0 => ?_)
  · exact gv mix O_ 400 [t0, t0, t0, t0, t0, t0] (a6 h0 trivial) (by kernel_rfl) rfl rfl
  · refine gite (fun h1 => ?_) (fun h1 => ?_)
    · exact gv mix O_ 400 [f0, f0, f0, f0, f0, f0, t0] (a6 (bf h0) (ai h1 trivial)) (by kernel_rfl) rfl rfl
    · refine gite (fun h2 => ?_) (fun h2 => ?_)
      · refine gite (fun h3 => ?_) (fun h3 => ?_)
        · exact gv mix O_ 400 [f0, f0, f0, f0, f0, f0, f0, t0, t0] (a6 (bf h0) (ai (bf h1) (ai (be h2) (ai (be h3) trivial)))) (by kernel_rfl) rfl rfl
        · refine gite (fun h4 => ?_) (fun h4 => ?_)
          · exact gv mix O_ 400 [f0, f0, f0, f0, f0, f0, f0, t0, f0, t0] (a6 (bf h0) (ai (bf h1) (ai (be h2) (ai (bn h3) (ai (be h4) trivial))))) (by kernel_rfl) rfl rfl
          · exact gv mix O_ 400 [f0, f0, f0, f0, f0, f0, f0, t0, f0, f0] (a6 (bf h0) (ai (bf h1) (ai (be h2) (ai (bn h3) (ai (bn h4) trivial))))) (by kernel_rfl) rfl rfl
      · refine gite (fun h3 => ?_) (fun h3 => ?_)
        · refine gite (fun h4 => ?_) (fun h4 => ?_)
          · exact gv mix O_ 400 [f0, f0, f0, f0, f0, f0, f0, f0, t0, t0] (a6 (bf h0) (ai (bf h1) (ai (bn h2) (ai (be h3) (ai (be h4) trivial))))) (by kernel_rfl) rfl rfl
          · refine gite (fun h5 => ?_) (fun h5 => ?_)
            · exact gv mix O_ 400 [f0, f0, f0, f0, f0, f0, f0, f0, t0, f0, t0] (a6 (bf h0) (ai (bf h1) (ai (bn h2) (ai (be h3) (ai (bn h4) (ai (be h5) trivial)))))) (by kernel_rfl) rfl rfl
            · exact gv mix O_ 400 [f0, f0, f0, f0, f0, f0, f0, f0, t0, f0, f0] (a6 (bf h0) (ai (bf h1) (ai (bn h2) (ai (be h3) (ai (bn h4) (ai (bn h5) trivial)))))) (by kernel_rfl) rfl rfl
        · refine gite (fun h4 => ?_) (fun h4 => ?_)
          · exact gv mix O_ 400 [f0, f0, f0, f0, f0, f0, f0, f0, f0, t0] (a6 (bf h0) (ai (bf h1) (ai (bn h2) (ai (bn h3) (ai (be h4) trivial))))) (by kernel_rfl) rfl rfl
          · refine gite (fun h5 => ?_) (fun h5 => ?_)
            · exact gv mix O_ 400 [f0, f0, f0, f0, f0, f0, f0, f0, f0, f0, t0] (a6 (bf h0) (ai (bf h1) (ai (bn h2) (ai (bn h3) (ai (bn h4) (ai (be h5) trivial)))))) (by kernel_rfl) rfl rfl
            · exact gv mix O_ 400 [f0, f0, f0, f0, f0, f0, f0, f0, f0, f0, f0] (a6 (bf h0) (ai (bf h1) (ai (bn h2) (ai (bn h3) (ai (bn h4) (ai (bn h5) trivial)))))) (by kernel_rfl) rfl rfl
theorem K_lockgateref05_without : Keeps Tryz.prog 156 (F2 cSc (cI .u64) (cP cSc cB) (fun _ _ => []) lockgateref05_without) := by
  refine keeps2 _ _ _ (enters_of Tryz.func156 (by kernel_rfl)) fun a b hp_ => ?_
  unfold lockgateref05_without
  have O_ := on_
  refine gite (fun h0 => ?_) (fun h0 => ?_)
  · refine gite (fun h1 => ?_) (fun h1 => ?_)
    · exact gv mix O_ 400 [t0, t0, t0, t0, t0, t0, t0, t0, t0, t0, t0, t0, t0, t0, t0, t0] (a6 (be h0) (ai (be h1) (a9 (be h1) trivial))) (by kernel_rfl) rfl rfl
    · refine gite (fun h2 => ?_) (fun h2 => ?_)
      · refine gite (fun h3 => ?_) (fun h3 => ?_)
        · exact gv mix O_ 400 [t0, t0, t0, t0, t0, t0, f0, f0, f0, f0, f0, f0, f0, f0, t0, t0, t0, t0, t0, t0, f0, t0, f0, t0] (a6 (be h0) (a8 (bn h1) (a6 (be h2) (ai (bn h1) (ai (be h2) (ai (bn h1) (ai (be h3) trivial))))))) (by kernel_rfl) rfl rfl
        · refine gite (fun h4 => ?_) (fun h4 => ?_)
          · refine gite (fun h5 => ?_) (fun h5 => ?_)
            · exact gv mix O_ 400 [t0, t0, t0, t0, t0, t0, f0, f0, f0, f0, f0, f0, f0, f0, t0, t0, t0, t0, t0, t0, f0, t0, f0, f0, f0, t0, f0, t0] (a6 (be h0) (a8 (bn h1) (a6 (be h2) (ai (bn h1) (ai (be h2) (ai (bn h1) (ai (bn h3) (ai (bn h1) (ai (be h4) (ai (bn h3) (ai (be h5) trivial))))))))))) (by kernel_rfl) rfl rfl
            · exact gv mix O_ 400 [t0, t0, t0, t0, t0, t0, f0, f0, f0, f0, f0, f0, f0, f0, t0, t0, t0, t0, t0, t0, f0, t0, f0, f0, f0, t0, f0, f0] (a6 (be h0) (a8 (bn h1) (a6 (be h2) (ai (bn h1) (ai (be h2) (ai (bn h1) (ai (bn h3) (ai (bn h1) (ai (be h4) (ai (bn h3) (ai (bn h5) trivial))))))))))) (by kernel_rfl) rfl rfl
          · refine gite (fun h5 => ?_) (fun h5 => ?_)
            · exact gv mix O_ 400 [t0, t0, t0, t0, t0, t0, f0, f0, f0, f0, f0, f0, f0, f0, t0, t0, t0, t0, t0, t0, f0, t0, f0, f0, f0, f0, f0, t0] (a6 (be h0) (a8 (bn h1) (a6 (be h2) (ai (bn h1) (ai (be h2) (ai (bn h1) (ai (bn h3) (ai (bn h1) (ai (bn h4) (ai (bn h3) (ai (be h5) trivial))))))))))) (by kernel_rfl) rfl rfl
            · exact gv mix O_ 400 [t0, t0, t0, t0, t0, t0, f0, f0, f0, f0, f0, f0, f0, f0, t0, t0, t0, t0, t0, t0, f0, t0, f0, f0, f0, f0, f0, f0] (a6 (be h0) (a8 (bn h1) (a6 (be h2) (ai (bn h1) (ai (be h2) (ai (bn h1) (ai (bn h3) (ai (bn h1) (ai (bn h4) (ai (bn h3) (ai (bn h5) trivial))))))))))) (by kernel_rfl) rfl rfl
      · refine gite (fun h3 => ?_) (fun h3 => ?_)
        · refine gite (fun h4 => ?_) (fun h4 => ?_)
          · exact gv mix O_ 400 [t0, t0, t0, t0, t0, t0, f0, f0, f0, f0, f0, f0, f0, f0, f0, f0, f0, f0, f0, f0, f0, f0, f0, (1, false), t0, t0] (a6 (be h0) (a8 (bn h1) (a6 (bn h2) (ai (bn h1) (ai (bn h2) (a2 (bn h1) (ai (be h3) (ai (be h4) trivial)))))))) (by kernel_rfl) rfl rfl
          · refine gite (fun h5 => ?_) (fun h5 => ?_)
            · exact gv mix O_ 400 [t0, t0, t0, t0, t0, t0, f0, f0, f0, f0, f0, f0, f0, f0, f0, f0, f0, f0, f0, f0, f0, f0, f0, (1, false), t0, f0, t0] (a6 (be h0) (a8 (bn h1) (a6 (bn h2) (ai (bn h1) (ai (bn h2) (a2 (bn h1) (ai (be h3) (ai (bn h4) (ai (be h5) trivial))))))))) (by kernel_rfl) rfl rfl
            · exact gv mix O_ 400 [t0, t0, t0, t0, t0, t0, f0, f0, f0, f0, f0, f0, f0, f0, f0, f0, f0, f0, f0, f0, f0, f0, f0, (1, false), t0, f0, f0] (a6 (be h0) (a8 (bn h1) (a6 (bn h2) (ai (bn h1) (ai (bn h2) (a2 (bn h1) (ai (be h3) (ai (bn h4) (ai (bn h5) trivial))))))))) (by kernel_rfl) rfl rfl
        · refine gite (fun h4 => ?_) (fun h4 => ?_)
          · exact gv mix O_ 400 [t0, t0, t0, t0, t0, t0, f0, f0, f0, f0, f0, f0, f0, f0, f0, f0, f0, f0, f0, f0, f0, f0, f0, (1, false), f0, t0] (a6 (be h0) (a8 (bn h1) (a6 (bn h2) (ai (bn h1) (ai (bn h2) (a2 (bn h1) (ai (bn h3) (ai (be h4) trivial)))))))) (by kernel_rfl) rfl rfl
          · refine gite (fun h5 => ?_) (fun h5 => ?_)
            · exact gv mix O_ 400 [t0, t0, t0, t0, t0, t0, f0, f0, f0, f0, f0, f0, f0, f0, f0, f0, f0, f0, f0, f0, f0, f0, f0, (1, false), f0, f0, t0] (a6 (be h0) (a8 (bn h1) (a6 (bn h2) (ai (bn h1) (ai (bn h2) (a2 (bn h1) (ai (bn h3) (ai (bn h4) (ai (be h5) trivial))))))))) (by kernel_rfl) rfl rfl
            · exact gv mix O_ 400 [t0, t0, t0, t0, t0, t0, f0, f0, f0, f0, f0, f0, f0, f0, f0, f0, f0, f0, f0, f0, f0, f0, f0, (1, false), f0, f0, f0] (a6 (be h0) (a8 (bn h1) (a6 (bn h2) (ai (bn h1) (ai (bn h2) (a2 (bn h1) (ai (bn h3) (ai (bn h4) (ai (bn h5) trivial))))))))) (by kernel_rfl) rfl rfl
  · refine gite (fun h1 => ?_) (fun h1 => ?_)
    · refine gite (fun h2 => ?_) (fun h2 => ?_)
      · exact gv mix O_ 400 [f0, f0, f0, f0, f0, f0, (8, true), t0, t0, t0, t0, t0, (1, true), (1, true)] (a6 (bn h0) (a7 (be h1) (ai (be h2) trivial))) (by kernel_rfl) rfl rfl
      · refine gite (fun h3 => ?_) (fun h3 => ?_)
        · refine gite (fun h4 => ?_) (fun h4 => ?_)
          · exact gv mix O_ 400 [f0, f0, f0, f0, f0, f0, (8, true), t0, t0, t0, t0, t0, (1, true), (1, false), t0, f0, t0] (a6 (bn h0) (a7 (be h1) (ai (bn h2) (ai (be h3) (ai (bn h2) (ai (be h4) trivial)))))) (by kernel_rfl) rfl rfl
          · exact gv mix O_ 400 [f0, f0, f0, f0, f0, f0, (8, true), t0, t0, t0, t0, t0, (1, true), (1, false), t0, f0, f0] (a6 (bn h0) (a7 (be h1) (ai (bn h2) (ai (be h3) (ai (bn h2) (ai (bn h4) trivial)))))) (by kernel_rfl) rfl rfl
        · refine gite (fun h4 => ?_) (fun h4 => ?_)
          · refine gite (fun h5 => ?_) (fun h5 => ?_)
            · exact gv mix O_ 400 [f0, f0, f0, f0, f0, f0, (8, true), t0, t0, t0, t0, t0, (1, true), (1, false), f0, t0, f0, t0] (a6 (bn h0) (a7 (be h1) (ai (bn h2) (ai (bn h3) (ai (be h4) (ai (bn h2) (ai (be h5) trivial))))))) (by kernel_rfl) rfl rfl
            · exact gv mix O_ 400 [f0, f0, f0, f0, f0, f0, (8, true), t0, t0, t0, t0, t0, (1, true), (1, false), f0, t0, f0, f0] (a6 (bn h0) (a7 (be h1) (ai (bn h2) (ai (bn h3) (ai (be h4) (ai (bn h2) (ai (bn h5) trivial))))))) (by kernel_rfl) rfl rfl
          · refine gite (fun h5 => ?_) (fun h5 => ?_)
            · exact gv mix O_ 400 [f0, f0, f0, f0, f0, f0, (8, true), t0, t0, t0, t0, t0, (1, true), (1, false), f0, f0, f0, t0] (a6 (bn h0) (a7 (be h1) (ai (bn h2) (ai (bn h3) (ai (bn h4) (ai (bn h2) (ai (be h5) trivial))))))) (by kernel_rfl) rfl rfl
            · exact gv mix O_ 400 [f0, f0, f0, f0, f0, f0, (8, true), t0, t0, t0, t0, t0, (1, true), (1, false), f0, f0, f0, f0] (a6 (bn h0) (a7 (be h1) (ai (bn h2) (ai (bn h3) (ai (bn h4) (ai (bn h2) (ai (bn h5) trivial))))))) (by kernel_rfl) rfl rfl
    · refine gite (fun h2 => ?_) (fun h2 => ?_)
      · refine gite (fun h3 => ?_) (fun h3 => ?_)
        · exact gv mix O_ 400 [f0, f0, f0, f0, f0, f0, (8, false), f0, f0, f0, f0, f0, (1, false), (2, true), t0] (a6 (bn h0) (a7 (bn h1) (ai (be h2) (ai (be h3) trivial)))) (by kernel_rfl) rfl rfl
        · refine gite (fun h4 => ?_) (fun h4 => ?_)
          · exact gv mix O_ 400 [f0, f0, f0, f0, f0, f0, (8, false), f0, f0, f0, f0, f0, (1, false), (2, true), f0, t0] (a6 (bn h0) (a7 (bn h1) (ai (be h2) (ai (bn h3) (ai (be h4) trivial))))) (by kernel_rfl) rfl rfl
          · exact gv mix O_ 400 [f0, f0, f0, f0, f0, f0, (8, false), f0, f0, f0, f0, f0, (1, false), (2, true), f0, f0] (a6 (bn h0) (a7 (bn h1) (ai (be h2) (ai (bn h3) (ai (bn h4) trivial))))) (by kernel_rfl) rfl rfl
      · refine gite (fun h3 => ?_) (fun h3 => ?_)
        · refine gite (fun h4 => ?_) (fun h4 => ?_)
          · exact gv mix O_ 400 [f0, f0, f0, f0, f0, f0, (8, false), f0, f0, f0, f0, f0, (1, false), (2, false), t0, t0] (a6 (bn h0) (a7 (bn h1) (ai (bn h2) (ai (be h3) (ai (be h4) trivial))))) (by kernel_rfl) rfl rfl
          · refine gite (fun h5 => ?_) (fun h5 => ?_)
            · exact gv mix O_ 400 [f0, f0, f0, f0, f0, f0, (8, false), f0, f0, f0, f0, f0, (1, false), (2, false), t0, f0, t0] (a6 (bn h0) (a7 (bn h1) (ai (bn h2) (ai (be h3) (ai (bn h4) (ai (be h5) trivial)))))) (by kernel_rfl) rfl rfl
            · exact gv mix O_ 400 [f0, f0, f0, f0, f0, f0, (8, false), f0, f0, f0, f0, f0, (1, false), (2, false), t0, f0, f0] (a6 (bn h0) (a7 (bn h1) (ai (bn h2) (ai (be h3) (ai (bn h4) (ai (bn h5) trivial)))))) (by kernel_rfl) rfl rfl
        · refine gite (fun h4 => ?_) (fun h4 => ?_)
          · exact gv mix O_ 400 [f0, f0, f0, f0, f0, f0, (8, false), f0, f0, f0, f0, f0, (1, false), (2, false), f0, t0] (a6 (bn h0) (a7 (bn h1) (ai (bn h2) (ai (bn h3) (ai (be h4) trivial))))) (by kernel_rfl) rfl rfl
          · refine gite (fun h5 => ?_) (fun h5 => ?_)
            · exact gv mix O_ 400 [f0, f0, f0, f0, f0, f0, (8, false), f0, f0, f0, f0, f0, (1, false), (2, false), f0, f0, t0] (a6 (bn h0) (a7 (bn h1) (ai (bn h2) (ai (bn h3) (ai (bn h4) (ai (be h5) trivial)))))) (by kernel_rfl) rfl rfl
            · exact gv mix O_ 400 [f0, f0, f0, f0, f0, f0, (8, false), f0, f0, f0, f0, f0, (1, false), (2, false), f0, f0, f0] (a6 (bn h0) (a7 (bn h1) (ai (bn h2) (ai (bn h3) (ai (bn h4) (ai (bn h5) trivial)))))) (by kernel_rfl) rfl rfl
theorem K_lockgateref05_less : Keeps Tryz.prog 157 (F3 cUs cUs cB (cP3 cUs cUs cB) (fun _ _ _ => []) lockgateref05_less) := by
  refine keeps3 _ _ _ _ (enters_of Tryz.func157 (by kernel_rfl)) fun a b c hp_ => ?_
  unfold lockgateref05_less
  have O_ := on_
  refine gite (fun h0 => ?_) (fun h0 => ?_)
  · refine gite (fun h1 => ?_) (fun h1 => ?_)
    · exact gv mix O_ 400 [t0, t0, t0, t0, t0, t0, t0] (ai h0 (a6 (dt h1) trivial)) (by kernel_rfl) rfl rfl
    · refine gite (fun h2 => ?_) (fun h2 => ?_)
      · exact gv mix O_ 400 [t0, f0, f0, f0, f0, f0, f0, t0] (ai h0 (a6 (df h1) (ai (dt h2) trivial))) (by kernel_rfl) rfl rfl
      · refine gite (fun h3 => ?_) (fun h3 => ?_)
        · exact gv mix O_ 400 [t0, f0, f0, f0, f0, f0, f0, f0, t0, t0, t0, t0, t0, t0] (ai h0 (a6 (df h1) (ai (df h2) (a6 (dt h3) trivial)))) (by kernel_rfl) rfl rfl
        · exact gv mix O_ 400 [t0, f0, f0, f0, f0, f0, f0, f0, f0, f0, f0, f0, f0, f0] (ai h0 (a6 (df h1) (ai (df h2) (a6 (df h3) trivial)))) (by kernel_rfl) rfl rfl
  · refine gite (fun h1 => ?_) (fun h1 => ?_)
    · exact gv mix O_ 400 [f0, t0, t0, t0, t0, t0, t0] (ai (bf h0) (a6 (dt h1) trivial)) (by kernel_rfl) rfl rfl
    · refine gite (fun h2 => ?_) (fun h2 => ?_)
      · exact gv mix O_ 400 [f0, f0, f0, f0, f0, f0, f0, t0] (ai (bf h0) (a6 (df h1) (ai (dt h2) trivial))) (by kernel_rfl) rfl rfl
      · refine gite (fun h3 => ?_) (fun h3 => ?_)
        · exact gv mix O_ 400 [f0, f0, f0, f0, f0, f0, f0, f0, t0, t0, t0, t0, t0, t0] (ai (bf h0) (a6 (df h1) (ai (df h2) (a6 (dt h3) trivial)))) (by kernel_rfl) rfl rfl
        · exact gv mix O_ 400 [f0, f0, f0, f0, f0, f0, f0, f0, f0, f0, f0, f0, f0, f0] (ai (bf h0) (a6 (df h1) (ai (df h2) (a6 (df h3) trivial)))) (by kernel_rfl) rfl rfl
theorem K_lockgateref05_under : Keeps Tryz.prog 158 (F3 cSs cSs cB (cP3 cSs cSs cB) (fun _ _ _ => []) lockgateref05_under) := by
  refine keeps3 _ _ _ _ (enters_of Tryz.func158 (by kernel_rfl)) fun a b c hp_ => ?_
  unfold lockgateref05_under
  have O_ := on_
  refine gite (fun h0 => ?_) (fun h0 => ?_)
  · refine gite (fun h1 => ?_) (fun h1 => ?_)
    · exact gv mix O_ 400 [t0, t0, t0, t0, t0, t0, t0] (ai h0 (a6 (dt h1) trivial)) (by kernel_rfl) rfl rfl
    · refine gite (fun h2 => ?_) (fun h2 => ?_)
      · exact gv mix O_ 400 [t0, f0, f0, f0, f0, f0, f0, t0] (ai h0 (a6 (df h1) (ai (dt h2) trivial))) (by kernel_rfl) rfl rfl
      · refine gite (fun h3 => ?_) (fun h3 => ?_)
        · exact gv mix O_ 400 [t0, f0, f0, f0, f0, f0, f0, f0, t0, t0, t0, t0, t0, t0] (ai h0 (a6 (df h1) (ai (df h2) (a6 (dt h3) trivial)))) (by kernel_rfl) rfl rfl
        · exact gv mix O_ 400 [t0, f0, f0, f0, f0, f0, f0, f0, f0, f0, f0, f0, f0, f0] (ai h0 (a6 (df h1) (ai (df h2) (a6 (df h3) trivial)))) (by kernel_rfl) rfl rfl
  · refine gite (fun h1 => ?_) (fun h1 => ?_)
    · exact gv mix O_ 400 [f0, t0, t0, t0, t0, t0, t0] (ai (bf h0) (a6 (dt h1) trivial)) (by kernel_rfl) rfl rfl
    · refine gite (fun h2 => ?_) (fun h2 => ?_)
      · exact gv mix O_ 400 [f0, f0, f0, f0, f0, f0, f0, t0] (ai (bf h0) (a6 (df h1) (ai (dt h2) trivial))) (by kernel_rfl) rfl rfl
      · refine gite (fun h3 => ?_) (fun h3 => ?_)
        · exact gv mix O_ 400 [f0, f0, f0, f0, f0, f0, f0, f0, t0, t0, t0, t0, t0, t0] (ai (bf h0) (a6 (df h1) (ai (df h2) (a6 (dt h3) trivial)))) (by kernel_rfl) rfl rfl
        · exact gv mix O_ 400 [f0, f0, f0, f0, f0, f0, f0, f0, f0, f0, f0, f0, f0, f0] (ai (bf h0) (a6 (df h1) (ai (df h2) (a6 (df h3) trivial)))) (by kernel_rfl) rfl rfl
theorem K_span_meet_uint64 : Keeps Tryz.prog 159 (F4 (cI .u64) (cI .u64) (cI .u64) (cI .u64) (cP3 (cI .u64) (cI .u64) cB) (fun _ _ _ _ => []) span_meet_uint64) := by
  refine keeps4 _ _ _ _ _ (enters_of Tryz.func159 (by kernel_rfl)) fun a b c d hp_ => ?_
  unfold span_meet_uint64
  have O_ := on_
  exact gv mix O_ 400 [] trivial (by kernel_rfl) rfl rfl
theorem K_span_meet_int64 : Keeps Tryz.prog 160 (F4 (cI .i64) (cI .i64) (cI .i64) (cI .i64) (cP3 (cI .i64) (cI .i64) cB) (fun _ _ _ _ => []) span_meet_int64) := by
  refine keeps4 _ _ _ _ _ (enters_of Tryz.func160 (by kernel_rfl)) fun a b c d hp_ => ?_
  unfold span_meet_int64
  have O_ := on_
  exact gv mix O_ 400 [] trivial (by kernel_rfl) rfl rfl
theorem K_tnum_clear : Keeps Tryz.prog 161 (F2 (cI .u64) (cI .u64) cTn (fun _ _ => []) tnum_clear) := by
  refine keeps2 _ _ _ (enters_of Tryz.func161 (by kernel_rfl)) fun a b hp_ => ?_
  unfold tnum_clear
  have O_ := on_
  exact gv mix O_ 400 [] trivial (by kernel_rfl) rfl rfl
theorem K_span_below : Keeps Tryz.prog 162 (F1 (cI .u64) (cI .u64) (fun _ => []) span_below) := by
  refine keeps1 _ _ (enters_of Tryz.func162 (by kernel_rfl)) fun a hp_ => ?_
  unfold span_below
  have O_ := (orc_cons K_bits_Len64 on_)
  exact gv mix O_ 400 [f0] (ai ((df len64_nn) : decide ((bits_Len64 a) < 0) = false) trivial) (by kernel_rfl) rfl rfl
theorem K_lockgateref04_UMeet : Keeps Tryz.prog 163 (F2 cUs cUs (cP cUs cB) (fun _ _ => []) lockgateref04_UMeet) := by
  refine keeps2 _ _ _ (enters_of Tryz.func163 (by kernel_rfl)) fun a b hp_ => ?_
  unfold lockgateref04_UMeet
  have O_ := on_
  refine gite (fun h0 => ?_) (fun h0 => ?_)
  · refine gite (fun h1 => ?_) (fun h1 => ?_)
    · refine gite (fun h2 => ?_) (fun h2 => ?_)
      · exact gv mix O_ 400 [t0, t0, t0] (ai (dt h0) (ai (dt h1) (ai (dt h2) trivial))) (by kernel_rfl) rfl rfl
      · exact gv mix O_ 400 [t0, t0, f0] (ai (dt h0) (ai (dt h1) (ai (df h2) trivial))) (by kernel_rfl) rfl rfl
    · refine gite (fun h2 => ?_) (fun h2 => ?_)
      · exact gv mix O_ 400 [t0, f0, t0] (ai (dt h0) (ai (df h1) (ai (dt h2) trivial))) (by kernel_rfl) rfl rfl
      · exact gv mix O_ 400 [t0, f0, f0] (ai (dt h0) (ai (df h1) (ai (df h2) trivial))) (by kernel_rfl) rfl rfl
  · refine gite (fun h1 => ?_) (fun h1 => ?_)
    · refine gite (fun h2 => ?_) (fun h2 => ?_)
      · exact gv mix O_ 400 [f0, t0, t0] (ai (df h0) (ai (dt h1) (ai (dt h2) trivial))) (by kernel_rfl) rfl rfl
      · exact gv mix O_ 400 [f0, t0, f0] (ai (df h0) (ai (dt h1) (ai (df h2) trivial))) (by kernel_rfl) rfl rfl
    · refine gite (fun h2 => ?_) (fun h2 => ?_)
      · exact gv mix O_ 400 [f0, f0, t0] (ai (df h0) (ai (df h1) (ai (dt h2) trivial))) (by kernel_rfl) rfl rfl
      · exact gv mix O_ 400 [f0, f0, f0] (ai (df h0) (ai (df h1) (ai (df h2) trivial))) (by kernel_rfl) rfl rfl
theorem K_lockgateref04_ToU : Keeps Tryz.prog 164 (F1 cSs cUs (fun _ => []) lockgateref04_ToU) := by
  refine keeps1 _ _ (enters_of Tryz.func164 (by kernel_rfl)) fun a hp_ => ?_
  unfold lockgateref04_ToU
  have O_ := (orc_cons K_lockgateref04_UAll on_)
  refine gite (fun h0 => ?_) (fun h0 => ?_)
  · refine gite (fun h1 => ?_) (fun h1 => ?_)
    · exact gv mix O_ 400 [t0, t0, t0, t0, t0] (a4 (dt h0) (ai (dt h1) trivial)) (by kernel_rfl) rfl rfl
    · exact gv mix O_ 400 [t0, t0, t0, t0, f0] (a4 (dt h0) (ai (df h1) trivial)) (by kernel_rfl) rfl rfl
  · exact gv mix O_ 400 [f0, f0, f0, f0] (a4 (df h0) trivial) (by kernel_rfl) rfl rfl
theorem K_lockgateref04_FromT : Keeps Tryz.prog 165 (F1 cTn (cP cUs cSs) (fun _ => []) lockgateref04_FromT) := by
  refine keeps1 _ _ (enters_of Tryz.func165 (by kernel_rfl)) fun a hp_ => ?_
  unfold lockgateref04_FromT
  have O_ := (orc_cons K_lockgateref04_top on_)
  refine gite (fun h0 => ?_) (fun h0 => ?_)
  · exact gv mix O_ 400 [t0] (ai (dt h0) trivial) (by kernel_rfl) rfl rfl
  · exact gv mix O_ 400 [f0] (ai (df h0) trivial) (by kernel_rfl) rfl rfl
theorem K_lockgateref04_SMeet : Keeps Tryz.prog 166 (F2 cSs cSs (cP cSs cB) (fun _ _ => []) lockgateref04_SMeet) := by
  refine keeps2 _ _ _ (enters_of Tryz.func166 (by kernel_rfl)) fun a b hp_ => ?_
  unfold lockgateref04_SMeet
  have O_ := on_
  refine gite (fun h0 => ?_) (fun h0 => ?_)
  · refine gite (fun h1 => ?_) (fun h1 => ?_)
    · refine gite (fun h2 => ?_) (fun h2 => ?_)
      · exact gv mix O_ 400 [t0, t0, t0] (ai (dt h0) (ai (dt h1) (ai (dt h2) trivial))) (by kernel_rfl) rfl rfl
      · exact gv mix O_ 400 [t0, t0, f0] (ai (dt h0) (ai (dt h1) (ai (df h2) trivial))) (by kernel_rfl) rfl rfl
    · refine gite (fun h2 => ?_) (fun h2 => ?_)
      · exact gv mix O_ 400 [t0, f0, t0] (ai (dt h0) (ai (df h1) (ai (dt h2) trivial))) (by kernel_rfl) rfl rfl
      · exact gv mix O_ 400 [t0, f0, f0] (ai (dt h0) (ai (df h1) (ai (df h2) trivial))) (by kernel_rfl) rfl rfl
  · refine gite (fun h1 => ?_) (fun h1 => ?_)
    · refine gite (fun h2 => ?_) (fun h2 => ?_)
      · exact gv mix O_ 400 [f0, t0, t0] (ai (df h0) (ai (dt h1) (ai (dt h2) trivial))) (by kernel_rfl) rfl rfl
      · exact gv mix O_ 400 [f0, t0, f0] (ai (df h0) (ai (dt h1) (ai (df h2) trivial))) (by kernel_rfl) rfl rfl
    · refine gite (fun h2 => ?_) (fun h2 => ?_)
      · exact gv mix O_ 400 [f0, f0, t0] (ai (df h0) (ai (df h1) (ai (dt h2) trivial))) (by kernel_rfl) rfl rfl
      · exact gv mix O_ 400 [f0, f0, f0] (ai (df h0) (ai (df h1) (ai (df h2) trivial))) (by kernel_rfl) rfl rfl
theorem K_lockgateref04_ToS : Keeps Tryz.prog 167 (F1 cUs cSs (fun _ => []) lockgateref04_ToS) := by
  refine keeps1 _ _ (enters_of Tryz.func167 (by kernel_rfl)) fun a hp_ => ?_
  unfold lockgateref04_ToS
  have O_ := (orc_cons K_lockgateref04_top (orc_cons K_lockgateref04_SAll on_))
  refine gite (fun h0 => ?_) (fun h0 => ?_)
  · exact gv mix O_ 400 [f0] (ai (cn h0) trivial) (by kernel_rfl) rfl rfl
  · exact gv mix O_ 400 [t0] (ai (cn (bf h0)) trivial) (by kernel_rfl) rfl rfl
theorem K_span_between_uint64 : Keeps Tryz.prog 170 (F3 (cI .u64) (cI .u64) (cI .u64) cB (fun _ _ _ => []) span_between_uint64) := by
  refine keeps3 _ _ _ _ (enters_of Tryz.func170 (by kernel_rfl)) fun a b c hp_ => ?_
  unfold span_between_uint64
  have O_ := on_
  refine gite (fun h0 => ?_) (fun h0 => ?_)
  · exact gv mix O_ 400 [t0, t0, t0, t0] (a4 (dt h0) trivial) (by kernel_rfl) rfl rfl
  · exact gv mix O_ 400 [f0, f0, f0, f0] (a4 (df h0) trivial) (by kernel_rfl) rfl rfl
theorem K_span_between_int64 : Keeps Tryz.prog 171 (F3 (cI .i64) (cI .i64) (cI .i64) cB (fun _ _ _ => []) span_between_int64) := by
  refine keeps3 _ _ _ _ (enters_of Tryz.func171 (by kernel_rfl)) fun a b c hp_ => ?_
  unfold span_between_int64
  have O_ := on_
  refine gite (fun h0 => ?_) (fun h0 => ?_)
  · exact gv mix O_ 400 [t0, t0, t0, t0] (a4 (dt h0) trivial) (by kernel_rfl) rfl rfl
  · exact gv mix O_ 400 [f0, f0, f0, f0] (a4 (df h0) trivial) (by kernel_rfl) rfl rfl
theorem K_span_join_uint64 : Keeps Tryz.prog 172 (F4 (cI .u64) (cI .u64) (cI .u64) (cI .u64) (cP (cI .u64) (cI .u64)) (fun _ _ _ _ => []) span_join_uint64) := by
  refine keeps4 _ _ _ _ _ (enters_of Tryz.func172 (by kernel_rfl)) fun a b c d hp_ => ?_
  unfold span_join_uint64
  have O_ := on_
  exact gv mix O_ 400 [] trivial (by kernel_rfl) rfl rfl
theorem K_span_join_int64 : Keeps Tryz.prog 173 (F4 (cI .i64) (cI .i64) (cI .i64) (cI .i64) (cP (cI .i64) (cI .i64)) (fun _ _ _ _ => []) span_join_int64) := by
  refine keeps4 _ _ _ _ _ (enters_of Tryz.func173 (by kernel_rfl)) fun a b c d hp_ => ?_
  unfold span_join_int64
  have O_ := on_
  exact gv mix O_ 400 [] trivial (by kernel_rfl) rfl rfl
theorem K_span_sum : Keeps Tryz.prog 174 (F2 (cI .i64) (cI .i64) (cP (cI .i64) cB) (fun _ _ => []) span_sum) := by
  refine keeps2 _ _ _ (enters_of Tryz.func174 (by kernel_rfl)) fun a b hp_ => ?_
  unfold span_sum
  have O_ := on_
  exact gv mix O_ 400 [] trivial (by kernel_rfl) rfl rfl
theorem K_span_ends : Keeps Tryz.prog 175 (F4 (cI .i64) cB (cI .i64) cB cSs (fun _ _ _ _ => []) span_ends) := by
  refine keeps4 _ _ _ _ _ (enters_of Tryz.func175 (by kernel_rfl)) fun a b c d hp_ => ?_
  unfold span_ends
  have O_ := (orc_cons K_span_SAll on_)
  refine gite (fun h0 => ?_) (fun h0 => ?_)
  · refine gite (fun h1 => ?_) (fun h1 => ?_)
    · exact gv mix O_ 400 [f0, f0, f0, f0] (a3 (cn h0) (ai (cn h1) trivial)) (by kernel_rfl) rfl rfl
    · exact gv mix O_ 400 [f0, f0, f0, t0] (a3 (cn h0) (ai (cn (bf h1)) trivial)) (by kernel_rfl) rfl rfl
  · exact gv mix O_ 400 [t0, t0, t0] (a3 (cn (bf h0)) trivial) (by kernel_rfl) rfl rfl
theorem K_span_less : Keeps Tryz.prog 176 (F2 (cI .i64) (cI .i64) (cP (cI .i64) cB) (fun _ _ => []) span_less) := by
  refine keeps2 _ _ _ (enters_of Tryz.func176 (by kernel_rfl)) fun a b hp_ => ?_
  unfold span_less
  have O_ := on_
  exact gv mix O_ 400 [] trivial (by kernel_rfl) rfl rfl
theorem K_bits_Mul64 : Keeps Tryz.prog 177 (F2 (cI .u64) (cI .u64) (cP (cI .u64) (cI .u64)) (fun _ _ => []) bits_Mul64) := by
  refine keeps2 _ _ _ (enters_of Tryz.func177 (by kernel_rfl)) fun a b hp_ => ?_
  unfold bits_Mul64
  have O_ := on_
  exact gv mix O_ 400 [] trivial (by kernel_rfl) rfl rfl
theorem K_span_alone : Keeps Tryz.prog 178 (F1 cUs cB (fun _ => []) span_alone) := by
  refine keeps1 _ _ (enters_of Tryz.func178 (by kernel_rfl)) fun a hp_ => ?_
  unfold span_alone
  have O_ := on_
  exact gv mix O_ 400 [] trivial (by kernel_rfl) rfl rfl
theorem K_lockgateref03_count : Keeps Tryz.prog 179 (F2 (cI .i64) (cI .i64) (cI .u64) (fun _ b => [(decide (¬ b = 0), true)]) lockgateref03_count) := by
  refine keeps2 _ _ _ (enters_of Tryz.func179 (by kernel_rfl)) fun a b hp_ => ?_
  have p0 := of_decide_eq_true hp_.1
  unfold lockgateref03_count
  have O_ := on_
  refine gite (fun h0 => ?_) (fun h0 => ?_)
  · exact gv mix O_ 400 [f0, t0] (ai ((df (by first | with_reducible exact p0 | exact count_nn | exact shl1_nz p0 (by assumption) | exact len64_nn | (rw [tab_size]; exact u8_in) | exact nz1 (by assumption) (by assumption) | exact nz2 (by assumption) (by assumption) (by assumption) | exact Int.not_lt.2 wrapu_nonneg | exact Int.not_lt.2 wrapu_nn | (split <;> exact Int.not_lt.2 wrapu_nonneg) | exact Int.not_lt.2 (Int.tmod_nonneg _ (by assumption)) | exact Int.not_lt.2 (Int.tmod_nonneg _ wrapu_nonneg) | exact Int.not_lt.2 bits_nonneg | omega | (rw [wrap_i64_id (by omega) (by omega)]; omega))) : decide (b = 0) = false) (ai (dt h0) trivial)) (by kernel_rfl) rfl rfl
  · exact gv mix O_ 400 [f0, f0] (ai ((df (by first | with_reducible exact p0 | exact count_nn | exact shl1_nz p0 (by assumption) | exact len64_nn | (rw [tab_size]; exact u8_in) | exact nz1 (by assumption) (by assumption) | exact nz2 (by assumption) (by assumption) (by assumption) | exact Int.not_lt.2 wrapu_nonneg | exact Int.not_lt.2 wrapu_nn | (split <;> exact Int.not_lt.2 wrapu_nonneg) | exact Int.not_lt.2 (Int.tmod_nonneg _ (by assumption)) | exact Int.not_lt.2 (Int.tmod_nonneg _ wrapu_nonneg) | exact Int.not_lt.2 bits_nonneg | omega | (rw [wrap_i64_id (by omega) (by omega)]; omega))) : decide (b = 0) = false) (ai (df h0) trivial)) (by kernel_rfl) rfl rfl
theorem K_lockgateref04_over : Keeps Tryz.prog 184 (F2 (cI .i64) (cI .i64) cB (fun _ _ => []) lockgateref04_over) := by
  refine keeps2 _ _ _ (enters_of Tryz.func184 (by kernel_rfl)) fun a b hp_ => ?_
  unfold lockgateref04_over
  have O_ := (orc_cons K_lockgateref04_SAll on_)
  refine gite (fun h0 => ?_) (fun h0 => ?_)
  · refine gite (fun h1 => ?_) (fun h1 => ?_)
    · exact gv mix O_ 400 [t0, t0, t0, t0, t0, t0, t0, t0, t0, t0, t0, t0] (a7 (dt h0) (a5 (dt h1) trivial)) (by kernel_rfl) rfl rfl
    · refine gite (fun h2 => ?_) (fun h2 => ?_)
      · exact gv mix O_ 400 [t0, t0, t0, t0, t0, t0, t0, f0, f0, f0, t0, t0, t0, t0, t0, t0, f0, t0, f0] (a7 (dt h0) (a3 (df h1) (a6 (dt h2) (ai (df h1) (ai (dt h2) (ai (df h1) trivial)))))) (by kernel_rfl) rfl rfl
      · exact gv mix O_ 400 [t0, t0, t0, t0, t0, t0, t0, f0, f0, f0, f0, f0, f0, f0, f0, f0, f0, f0, f0] (a7 (dt h0) (a3 (df h1) (a6 (df h2) (ai (df h1) (ai (df h2) (ai (df h1) trivial)))))) (by kernel_rfl) rfl rfl
  · refine gite (fun h1 => ?_) (fun h1 => ?_)
    · exact gv mix O_ 400 [f0, f0, f0, f0, f0, f0, f0, (3, true), t0, t0, t0, t0, t0, (1, true)] (a7 (df h0) (a7 (dt h1) trivial)) (by kernel_rfl) rfl rfl
    · exact gv mix O_ 400 [f0, f0, f0, f0, f0, f0, f0, (3, false), f0, f0, f0, f0, f0, (1, false)] (a7 (df h0) (a7 (df h1) trivial)) (by kernel_rfl) rfl rfl
theorem K_lockgateref04_under : Keeps Tryz.prog 185 (F2 (cI .i64) (cI .i64) cB (fun _ _ => []) lockgateref04_under) := by
  refine keeps2 _ _ _ (enters_of Tryz.func185 (by kernel_rfl)) fun a b hp_ => ?_
  unfold lockgateref04_under
  have O_ := (orc_cons K_lockgateref04_SAll on_)
  refine gite (fun h0 => ?_) (fun h0 => ?_)
  · refine gite (fun h1 => ?_) (fun h1 => ?_)
    · exact gv mix O_ 400 [t0, t0, t0, t0, t0, t0, t0, t0, t0, t0, t0, t0] (a7 (dt h0) (a5 (dt h1) trivial)) (by kernel_rfl) rfl rfl
    · refine gite (fun h2 => ?_) (fun h2 => ?_)
      · exact gv mix O_ 400 [t0, t0, t0, t0, t0, t0, t0, f0, f0, f0, t0, t0, t0, t0, t0, t0, f0, t0, f0] (a7 (dt h0) (a3 (df h1) (a6 (dt h2) (ai (df h1) (ai (dt h2) (ai (df h1) trivial)))))) (by kernel_rfl) rfl rfl
      · exact gv mix O_ 400 [t0, t0, t0, t0, t0, t0, t0, f0, f0, f0, f0, f0, f0, f0, f0, f0, f0, f0, f0] (a7 (dt h0) (a3 (df h1) (a6 (df h2) (ai (df h1) (ai (df h2) (ai (df h1) trivial)))))) (by kernel_rfl) rfl rfl
  · refine gite (fun h1 => ?_) (fun h1 => ?_)
    · exact gv mix O_ 400 [f0, f0, f0, f0, f0, f0, f0, (3, true), t0, t0, t0, t0, t0, (1, true)] (a7 (df h0) (a7 (dt h1) trivial)) (by kernel_rfl) rfl rfl
    · exact gv mix O_ 400 [f0, f0, f0, f0, f0, f0, f0, (3, false), f0, f0, f0, f0, f0, (1, false)] (a7 (df h0) (a7 (df h1) trivial)) (by kernel_rfl) rfl rfl
theorem K_lockgateref04_alone : Keeps Tryz.prog 186 (F1 cUs cB (fun _ => []) lockgateref04_alone) := by
  refine keeps1 _ _ (enters_of Tryz.func186 (by kernel_rfl)) fun a hp_ => ?_
  unfold lockgateref04_alone
  have O_ := on_
  exact gv mix O_ 400 [] trivial (by kernel_rfl) rfl rfl
theorem K_scalar_below_int64 : Keeps Tryz.prog 188 (F7 (cI .i64) (cI .i64) (cI .i64) (cI .i64) (cI .i64) (cI .i64) cB (cP3 (cI .i64) (cI .i64) cB) (fun _ _ _ _ _ _ _ => []) scalar_below_int64) := by
  refine keeps7 _ _ _ _ _ _ _ _ (enters_of Tryz.func188 (by kernel_rfl)) fun a b c d e g i hp_ => ?_
  unfold scalar_below_int64
  have O_ := on_
  refine gite (fun h0 => ?_) (fun h0 => ?_)
  · exact gv mix O_ 400 [t0] (ai h0 trivial) (by kernel_rfl) rfl rfl
  · refine gite (fun h1 => ?_) (fun h1 => ?_)
    · exact gv mix O_ 400 [f0, t0, t0, t0, t0] (ai (bf h0) (a4 (be h1) trivial)) (by kernel_rfl) rfl rfl
    · refine gite (fun h2 => ?_) (fun h2 => ?_)
      · exact gv mix O_ 400 [f0, f0, f0, f0, f0, t0] (ai (bf h0) (a4 (bn h1) (ai (be h2) trivial))) (by kernel_rfl) rfl rfl
      · exact gv mix O_ 400 [f0, f0, f0, f0, f0, f0] (ai (bf h0) (a4 (bn h1) (ai (bn h2) trivial))) (by kernel_rfl) rfl rfl
theorem K_scalar_below_uint64 : Keeps Tryz.prog 189 (F7 (cI .u64) (cI .u64) (cI .u64) (cI .u64) (cI .u64) (cI .u64) cB (cP3 (cI .u64) (cI .u64) cB) (fun _ _ _ _ _ _ _ => []) scalar_below_uint64) := by
  refine keeps7 _ _ _ _ _ _ _ _ (enters_of Tryz.func189 (by kernel_rfl)) fun a b c d e g i hp_ => ?_
  unfold scalar_below_uint64
  have O_ := on_
  refine gite (fun h0 => ?_) (fun h0 => ?_)
  · exact gv mix O_ 400 [t0] (ai h0 trivial) (by kernel_rfl) rfl rfl
  · refine gite (fun h1 => ?_) (fun h1 => ?_)
    · exact gv mix O_ 400 [f0, t0, t0, t0, t0] (ai (bf h0) (a4 (be h1) trivial)) (by kernel_rfl) rfl rfl
    · refine gite (fun h2 => ?_) (fun h2 => ?_)
      · exact gv mix O_ 400 [f0, f0, f0, f0, f0, t0] (ai (bf h0) (a4 (bn h1) (ai (be h2) trivial))) (by kernel_rfl) rfl rfl
      · exact gv mix O_ 400 [f0, f0, f0, f0, f0, f0] (ai (bf h0) (a4 (bn h1) (ai (bn h2) trivial))) (by kernel_rfl) rfl rfl
theorem K_scalar_Of : Keeps Tryz.prog 17 (F1 (cI .u64) cSc (fun _ => []) scalar_Of) := by
  refine keeps1 _ _ (enters_of Tryz.func17 (by kernel_rfl)) fun a hp_ => ?_
  unfold scalar_Of
  have O_ := (orc_cons K_tnum_Of (orc_cons K_span_UOf (orc_cons K_span_SOf on_)))
  exact gv mix O_ 400 [] trivial (by kernel_rfl) rfl rfl
theorem K_lockgateref05_Of : Keeps Tryz.prog 18 (F1 (cI .u64) cSc (fun _ => []) lockgateref05_Of) := by
  refine keeps1 _ _ (enters_of Tryz.func18 (by kernel_rfl)) fun a hp_ => ?_
  unfold lockgateref05_Of
  have O_ := (orc_cons K_lockgateref03_Of (orc_cons K_lockgateref04_UOf (orc_cons K_lockgateref04_SOf on_)))
  exact gv mix O_ 400 [] trivial (by kernel_rfl) rfl rfl
theorem K_scalar_Any : Keeps Tryz.prog 19 (F0 cSc [] scalar_Any) := by
  refine keeps0  _ (enters_of Tryz.func19 (by kernel_rfl)) fun _ => ?_
  unfold scalar_Any
  have O_ := (orc_cons K_tnum_Any (orc_cons K_span_UAll (orc_cons K_span_SAll on_)))
  exact gv mix O_ 400 [] trivial (by kernel_rfl) rfl rfl
theorem K_lockgateref05_Any : Keeps Tryz.prog 20 (F0 cSc [] lockgateref05_Any) := by
  refine keeps0  _ (enters_of Tryz.func20 (by kernel_rfl)) fun _ => ?_
  unfold lockgateref05_Any
  have O_ := (orc_cons K_lockgateref03_Any (orc_cons K_lockgateref04_UAll (orc_cons K_lockgateref04_SAll on_)))
  exact gv mix O_ 400 [] trivial (by kernel_rfl) rfl rfl
theorem K_scalar_Upto : Keeps Tryz.prog 21 (F1 (cI .i64) cSc (fun _ => []) scalar_Upto) := by
  refine keeps1 _ _ (enters_of Tryz.func21 (by kernel_rfl)) fun a hp_ => ?_
  unfold scalar_Upto
  have O_ := (orc_cons K_scalar_Any (orc_cons K_scalar_Of on_))
  refine gite (fun h0 => ?_) (fun h0 => ?_)
  · exact gv mix O_ 400 [t0] (ai (dt h0) trivial) (by kernel_rfl) rfl rfl
  · refine gite (fun h1 => ?_) (fun h1 => ?_)
    · exact gv mix O_ 400 [f0, t0] (ai (df h0) (ai (dt h1) trivial)) (by kernel_rfl) rfl rfl
    · exact gv mix O_ 400 [f0, f0, f0] (ai (df h0) (ai (df h1) (ai ((df (by first | with_reducible exact p0 | exact count_nn | exact shl1_nz p0 (by assumption) | exact len64_nn | (rw [tab_size]; exact u8_in) | exact nz1 (by assumption) (by assumption) | exact nz2 (by assumption) (by assumption) (by assumption) | exact Int.not_lt.2 wrapu_nonneg | exact Int.not_lt.2 wrapu_nn | (split <;> exact Int.not_lt.2 wrapu_nonneg) | exact Int.not_lt.2 (Int.tmod_nonneg _ (by assumption)) | exact Int.not_lt.2 (Int.tmod_nonneg _ wrapu_nonneg) | exact Int.not_lt.2 bits_nonneg | omega | (rw [wrap_i64_id (by omega) (by omega)]; omega))) : decide ((IntKind.i64.wrap (8 * a)) < 0) = false) trivial))) (by kernel_rfl) rfl rfl
theorem K_lockgateref05_Upto : Keeps Tryz.prog 22 (F1 (cI .i64) cSc (fun _ => []) lockgateref05_Upto) := by
  refine keeps1 _ _ (enters_of Tryz.func22 (by kernel_rfl)) fun a hp_ => ?_
  unfold lockgateref05_Upto
  have O_ := (orc_cons K_lockgateref05_Any (orc_cons K_lockgateref05_Of on_))
  refine gite (fun h0 => ?_) (fun h0 => ?_)
  · exact gv mix O_ 400 [t0] (ai (dt h0) trivial) (by kernel_rfl) rfl rfl
  · refine gite (fun h1 => ?_) (fun h1 => ?_)
    · exact gv mix O_ 400 [f0, t0] (ai (df h0) (ai (dt h1) trivial)) (by kernel_rfl) rfl rfl
    · exact gv mix O_ 400 [f0, f0, f0] (ai (df h0) (ai (df h1) (ai ((df (Int.not_lt.2 wrapu_nonneg)) : decide ((IntKind.u64.wrap (IntKind.i64.wrap (8 * a))) < 0) = false) trivial))) (by kernel_rfl) rfl rfl
theorem K_lockgateref05_In : Keeps Tryz.prog 24 (F2 cSc (cI .u64) cB (fun _ _ => []) lockgateref05_In) := by
  refine keeps2 _ _ _ (enters_of Tryz.func24 (by kernel_rfl)) fun a b hp_ => ?_
  unfold lockgateref05_In
  have O_ := (orc_cons K_lockgateref03_In (orc_cons K_lockgateref04_UIn (orc_cons K_lockgateref04_SIn on_)))
  refine gite (fun h0 => ?_) (fun h0 => ?_)
  · refine gite (fun h1 => ?_) (fun h1 => ?_)
    · exact gv mix O_ 400 [t0, t0, t0, t0, t0, t0, t0, t0, t0, t0] (a5 h0 (a5 h1 trivial)) (by kernel_rfl) rfl rfl
    · exact gv mix O_ 400 [t0, t0, t0, t0, t0, f0, f0, f0, f0, f0] (a5 h0 (a5 (bf h1) trivial)) (by kernel_rfl) rfl rfl
  · exact gv mix O_ 400 [f0, f0, f0, f0, f0] (a5 (bf h0) trivial) (by kernel_rfl) rfl rfl
theorem K_scalar_Within : Keeps Tryz.prog 25 (F2 cSc cSc cB (fun _ _ => []) scalar_Within) := by
  refine keeps2 _ _ _ (enters_of Tryz.func25 (by kernel_rfl)) fun a b hp_ => ?_
  unfold scalar_Within
  have O_ := (orc_cons K_tnum_Within (orc_cons K_span_UWithin (orc_cons K_span_SWithin on_)))
  refine gite (fun h0 => ?_) (fun h0 => ?_)
  · refine gite (fun h1 => ?_) (fun h1 => ?_)
    · exact gv mix O_ 400 [t0, t0, t0, t0, t0, t0, t0, t0, t0, t0, t0, t0] (a6 h0 (a6 h1 trivial)) (by kernel_rfl) rfl rfl
    · exact gv mix O_ 400 [t0, t0, t0, t0, t0, t0, f0, f0, f0, f0, f0, f0] (a6 h0 (a6 (bf h1) trivial)) (by kernel_rfl) rfl rfl
  · exact gv mix O_ 400 [f0, f0, f0, f0, f0, f0] (a6 (bf h0) trivial) (by kernel_rfl) rfl rfl
theorem K_lockgateref05_Within : Keeps Tryz.prog 26 (F2 cSc cSc cB (fun _ _ => []) lockgateref05_Within) := by
  refine keeps2 _ _ _ (enters_of Tryz.func26 (by kernel_rfl)) fun a b hp_ => ?_
  unfold lockgateref05_Within
  have O_ := (orc_cons K_lockgateref03_Within (orc_cons K_lockgateref04_UWithin (orc_cons K_lockgateref04_SWithin on_)))
  refine gite (fun h0 => ?_) (fun h0 => ?_)
  · refine gite (fun h1 => ?_) (fun h1 => ?_)
    · exact gv mix O_ 400 [t0, t0, t0, t0, t0, t0, t0, t0, t0, t0, t0, t0] (a6 h0 (a6 h1 trivial)) (by kernel_rfl) rfl rfl
    · exact gv mix O_ 400 [t0, t0, t0, t0, t0, t0, f0, f0, f0, f0, f0, f0] (a6 h0 (a6 (bf h1) trivial)) (by kernel_rfl) rfl rfl
  · exact gv mix O_ 400 [f0, f0, f0, f0, f0, f0] (a6 (bf h0) trivial) (by kernel_rfl) rfl rfl
theorem K_lockgateref05_Join : Keeps Tryz.prog 28 (F2 cSc cSc cSc (fun _ _ => []) lockgateref05_Join) := by
  refine keeps2 _ _ _ (enters_of Tryz.func28 (by kernel_rfl)) fun a b hp_ => ?_
  unfold lockgateref05_Join
  have O_ := (orc_cons K_lockgateref03_Join (orc_cons K_lockgateref04_UJoin (orc_cons K_lockgateref04_SJoin on_)))
  exact gv mix O_ 400 [] trivial (by kernel_rfl) rfl rfl
theorem K_scalar_shift : Keeps Tryz.prog 33 (F4 (cI .i64) cB cSc (cI .i64) cSc (fun _ _ _ _ => []) scalar_shift) := by
  refine keeps4 _ _ _ _ _ (enters_of Tryz.func33 (by kernel_rfl)) fun a b c d hp_ => ?_
  unfold scalar_shift
  have O_ := (orc_cons K_scalar_Any (orc_cons K_tnum_Lsh (orc_cons K_span_ULsh (orc_cons K_tnum_Rsh (orc_cons K_span_URsh (orc_cons K_tnum_Arsh (orc_cons K_span_SArsh on_)))))))
  refine gite (fun h0 => ?_) (fun h0 => ?_)
  · exact gv mix O_ 400 [t0] (ai (be h0) trivial) (by kernel_rfl) rfl rfl
  · refine gite (fun h1 => ?_) (fun h1 => ?_)
    · exact gv mix O_ 400 [f0, t0] (ai (bn h0) (ai (be h1) trivial)) (by kernel_rfl) rfl rfl
    · refine gite (fun h2 => ?_) (fun h2 => ?_)
      · exact gv mix O_ 400 [f0, f0, t0] (ai (bn h0) (ai (bn h1) (ai h2 trivial))) (by kernel_rfl) rfl rfl
      · refine gite (fun h3 => ?_) (fun h3 => ?_)
        · exact gv mix O_ 400 [f0, f0, f0, t0] (ai (bn h0) (ai (bn h1) (ai (bf h2) (ai (dt h3) trivial)))) (by kernel_rfl) rfl rfl
        · exact gv mix O_ 400 [f0, f0, f0, f0] (ai (bn h0) (ai (bn h1) (ai (bf h2) (ai (df h3) trivial)))) (by kernel_rfl) rfl rfl
theorem K_lockgateref01_Alu : Keeps Tryz.prog 35 (F4 (cI .i64) cB (cI .u64) (cI .u64) (cP (cI .u64) cB) (fun _ _ _ _ => []) lockgateref01_Alu) := by
  refine keeps4 _ _ _ _ _ (enters_of Tryz.func35 (by kernel_rfl)) fun a b c d hp_ => ?_
  unfold lockgateref01_Alu
  have O_ := (orc_cons K_lockgateref01_Low (orc_cons K_lockgateref01_add (orc_cons K_lockgateref01_not (orc_cons K_lockgateref01_times (orc_cons K_lockgateref01_divide (orc_cons K_lockgateref01_bits (orc_cons K_lockgateref01_down (orc_cons K_lockgateref01_bit on_))))))))
  refine gite (fun h0 => ?_) (fun h0 => ?_)
  · refine gite (fun h1 => ?_) (fun h1 => ?_)
    · exact gv mix O_ 400 [f0, (1, true)] (ai (cn h0) (a2 ((by decide) : decide (0 ≤ 64) = true) (ai (be h1) (ai ((by decide) : decide (0 ≤ 64) = true) trivial)))) (by kernel_rfl) rfl rfl
    · refine gite (fun h2 => ?_) (fun h2 => ?_)
      · exact gv mix O_ 400 [f0, (1, false), t0] (ai (cn h0) (a2 ((by decide) : decide (0 ≤ 64) = true) (ai (bn h1) (ai (be h2) (ai ((by decide) : decide (0 ≤ 64) = true) trivial))))) (by kernel_rfl) rfl rfl
      · refine gite (fun h3 => ?_) (fun h3 => ?_)
        · exact gv mix O_ 400 [f0, (1, false), f0, t0] (ai (cn h0) (a2 ((by decide) : decide (0 ≤ 64) = true) (ai (bn h1) (ai (bn h2) (ai (be h3) (ai ((by decide) : decide (0 ≤ 64) = true) trivial)))))) (by kernel_rfl) rfl rfl
        · refine gite (fun h4 => ?_) (fun h4 => ?_)
          · refine gite (fun h5 => ?_) (fun h5 => ?_)
            · refine gite (fun h6 => ?_) (fun h6 => ?_)
              · exact gv mix O_ 400 [f0, (1, false), f0, f0, t0, t0, t0, t0] (ai (cn h0) (a2 ((by decide) : decide (0 ≤ 64) = true) (ai (bn h1) (ai (bn h2) (ai (bn h3) (a2 (be h4) (ai (dt h5) (ai (be h6) (ai ((by decide) : decide (0 ≤ 64) = true) trivial))))))))) (by kernel_rfl) rfl rfl
              · exact gv mix O_ 400 [f0, (1, false), f0, f0, t0, t0, t0, f0] (ai (cn h0) (a2 ((by decide) : decide (0 ≤ 64) = true) (ai (bn h1) (ai (bn h2) (ai (bn h3) (a2 (be h4) (ai (dt h5) (ai (bn h6) (ai ((by decide) : decide (0 ≤ 64) = true) trivial))))))))) (by kernel_rfl) rfl rfl
            · refine gite (fun h6 => ?_) (fun h6 => ?_)
              · exact gv mix O_ 400 [f0, (1, false), f0, f0, t0, t0, f0, t0] (ai (cn h0) (a2 ((by decide) : decide (0 ≤ 64) = true) (ai (bn h1) (ai (bn h2) (ai (bn h3) (a2 (be h4) (ai (df h5) (ai (be h6) (ai ((by decide) : decide (0 ≤ 64) = true) trivial))))))))) (by kernel_rfl) rfl rfl
              · exact gv mix O_ 400 [f0, (1, false), f0, f0, t0, t0, f0, f0] (ai (cn h0) (a2 ((by decide) : decide (0 ≤ 64) = true) (ai (bn h1) (ai (bn h2) (ai (bn h3) (a2 (be h4) (ai (df h5) (ai (bn h6) (ai ((by decide) : decide (0 ≤ 64) = true) trivial))))))))) (by kernel_rfl) rfl rfl
          · refine gite (fun h5 => ?_) (fun h5 => ?_)
            · refine gite (fun h6 => ?_) (fun h6 => ?_)
              · exact gv mix O_ 400 [f0, (1, false), f0, f0, f0, t0, t0, t0] (ai (cn h0) (a2 ((by decide) : decide (0 ≤ 64) = true) (ai (bn h1) (ai (bn h2) (ai (bn h3) (ai (bn h4) (ai (be h5) (ai (dt h6) (ai (be h5) (ai ((by decide) : decide (0 ≤ 64) = true) trivial)))))))))) (by kernel_rfl) rfl rfl
              · exact gv mix O_ 400 [f0, (1, false), f0, f0, f0, t0, f0, t0] (ai (cn h0) (a2 ((by decide) : decide (0 ≤ 64) = true) (ai (bn h1) (ai (bn h2) (ai (bn h3) (ai (bn h4) (ai (be h5) (ai (df h6) (ai (be h5) (ai ((by decide) : decide (0 ≤ 64) = true) trivial)))))))))) (by kernel_rfl) rfl rfl
            · refine gite (fun h6 => ?_) (fun h6 => ?_)
              · exact gv mix O_ 400 [f0, (1, false), f0, f0, f0, f0, t0, t0] (ai (cn h0) (a2 ((by decide) : decide (0 ≤ 64) = true) (ai (bn h1) (ai (bn h2) (ai (bn h3) (ai (bn h4) (ai (bn h5) (a2 (be h6) (ai ((by decide) : decide (0 ≤ 64) = true) trivial))))))))) (by kernel_rfl) rfl rfl
              · refine gite (fun h7 => ?_) (fun h7 => ?_)
                · exact gv mix O_ 400 [f0, (1, false), f0, f0, f0, f0, f0, t0, t0] (ai (cn h0) (a2 ((by decide) : decide (0 ≤ 64) = true) (ai (bn h1) (ai (bn h2) (ai (bn h3) (ai (bn h4) (ai (bn h5) (ai (bn h6) (a2 (be h7) (ai ((by decide) : decide (0 ≤ 64) = true) trivial)))))))))) (by kernel_rfl) rfl rfl
                · refine gite (fun h8 => ?_) (fun h8 => ?_)
                  · exact gv mix O_ 400 [f0, (1, false), f0, f0, f0, f0, f0, f0, t0] (ai (cn h0) (a2 ((by decide) : decide (0 ≤ 64) = true) (ai (bn h1) (ai (bn h2) (ai (bn h3) (ai (bn h4) (ai (bn h5) (ai (bn h6) (ai (bn h7) (ai (be h8) (ai ((by decide) : decide (0 ≤ 64) = true) trivial))))))))))) (by kernel_rfl) rfl rfl
                  · refine gite (fun h9 => ?_) (fun h9 => ?_)
                    · exact gv mix O_ 400 [f0, (1, false), f0, f0, f0, f0, f0, f0, f0, t0, f0] (ai (cn h0) (a2 ((by decide) : decide (0 ≤ 64) = true) (ai (bn h1) (ai (bn h2) (ai (bn h3) (ai (bn h4) (ai (bn h5) (ai (bn h6) (ai (bn h7) (ai (bn h8) (ai (be h9) (ai ((df (Int.not_lt.2 wrapu_nonneg)) : decide ((IntKind.u64.wrap (IntKind.i64.wrap (Int.tmod (lockgateref01_Low d 64) 64))) < 0) = false) (ai ((by decide) : decide (0 ≤ 64) = true) trivial))))))))))))) (by kernel_rfl) rfl rfl
                    · refine gite (fun h10 => ?_) (fun h10 => ?_)
                      · exact gv mix O_ 400 [f0, (1, false), f0, f0, f0, f0, f0, f0, f0, f0, t0] (ai (cn h0) (a2 ((by decide) : decide (0 ≤ 64) = true) (ai (bn h1) (ai (bn h2) (ai (bn h3) (ai (bn h4) (ai (bn h5) (ai (bn h6) (ai (bn h7) (ai (bn h8) (ai (bn h9) (ai (be h10) (ai ((by decide) : decide (64 ≤ 64) = true) (ai ((by decide) : decide (0 ≤ 64) = true) trivial)))))))))))))) (by kernel_rfl) rfl rfl
                      · refine gite (fun h11 => ?_) (fun h11 => ?_)
                        · exact gv mix O_ 400 [f0, (1, false), f0, f0, f0, f0, f0, f0, f0, f0, f0, t0] (ai (cn h0) (a2 ((by decide) : decide (0 ≤ 64) = true) (ai (bn h1) (ai (bn h2) (ai (bn h3) (ai (bn h4) (ai (bn h5) (ai (bn h6) (ai (bn h7) (ai (bn h8) (ai (bn h9) (ai (bn h10) (ai (be h11) (ai ((by decide) : decide (0 ≤ 64) = true) trivial)))))))))))))) (by kernel_rfl) rfl rfl
                        · refine gite (fun h12 => ?_) (fun h12 => ?_)
                          · exact gv mix O_ 400 [f0, (1, false), f0, f0, f0, f0, f0, f0, f0, f0, f0, f0, t0] (ai (cn h0) (a2 ((by decide) : decide (0 ≤ 64) = true) (ai (bn h1) (ai (bn h2) (ai (bn h3) (ai (bn h4) (ai (bn h5) (ai (bn h6) (ai (bn h7) (ai (bn h8) (ai (bn h9) (ai (bn h10) (ai (bn h11) (ai (be h12) (ai ((by decide) : decide (0 ≤ 64) = true) trivial))))))))))))))) (by kernel_rfl) rfl rfl
                          · refine gite (fun h13 => ?_) (fun h13 => ?_)
                            · exact gv mix O_ 400 [f0, (1, false), f0, f0, f0, f0, f0, f0, f0, f0, f0, f0, f0, t0] (ai (cn h0) (a2 ((by decide) : decide (0 ≤ 64) = true) (ai (bn h1) (ai (bn h2) (ai (bn h3) (ai (bn h4) (ai (bn h5) (ai (bn h6) (ai (bn h7) (ai (bn h8) (ai (bn h9) (ai (bn h10) (ai (bn h11) (ai (bn h12) (ai (be h13) (ai ((by decide) : decide (64 ≤ 64) = true) (ai ((by decide) : decide (0 ≤ 64) = true) trivial))))))))))))))))) (by kernel_rfl) rfl rfl
                            · exact gv mix O_ 400 [f0, (1, false), f0, f0, f0, f0, f0, f0, f0, f0, f0, f0, f0, f0] (ai (cn h0) (a2 ((by decide) : decide (0 ≤ 64) = true) (ai (bn h1) (ai (bn h2) (ai (bn h3) (ai (bn h4) (ai (bn h5) (ai (bn h6) (ai (bn h7) (ai (bn h8) (ai (bn h9) (ai (bn h10) (ai (bn h11) (ai (bn h12) (ai (bn h13) trivial))))))))))))))) (by kernel_rfl) rfl rfl
  · refine gite (fun h1 => ?_) (fun h1 => ?_)
    · exact gv mix O_ 400 [t0, (1, true)] (ai (cn (bf h0)) (a2 ((by decide) : decide (0 ≤ 32) = true) (ai (be h1) (ai ((by decide) : decide (0 ≤ 32) = true) trivial)))) (by kernel_rfl) rfl rfl
    · refine gite (fun h2 => ?_) (fun h2 => ?_)
      · exact gv mix O_ 400 [t0, (1, false), t0] (ai (cn (bf h0)) (a2 ((by decide) : decide (0 ≤ 32) = true) (ai (bn h1) (ai (be h2) (ai ((by decide) : decide (0 ≤ 32) = true) trivial))))) (by kernel_rfl) rfl rfl
      · refine gite (fun h3 => ?_) (fun h3 => ?_)
        · exact gv mix O_ 400 [t0, (1, false), f0, t0] (ai (cn (bf h0)) (a2 ((by decide) : decide (0 ≤ 32) = true) (ai (bn h1) (ai (bn h2) (ai (be h3) (ai ((by decide) : decide (0 ≤ 32) = true) trivial)))))) (by kernel_rfl) rfl rfl
        · refine gite (fun h4 => ?_) (fun h4 => ?_)
          · refine gite (fun h5 => ?_) (fun h5 => ?_)
            · refine gite (fun h6 => ?_) (fun h6 => ?_)
              · exact gv mix O_ 400 [t0, (1, false), f0, f0, t0, t0, t0, t0] (ai (cn (bf h0)) (a2 ((by decide) : decide (0 ≤ 32) = true) (ai (bn h1) (ai (bn h2) (ai (bn h3) (a2 (be h4) (ai (dt h5) (ai (be h6) (ai ((by decide) : decide (0 ≤ 32) = true) trivial))))))))) (by kernel_rfl) rfl rfl
              · exact gv mix O_ 400 [t0, (1, false), f0, f0, t0, t0, t0, f0] (ai (cn (bf h0)) (a2 ((by decide) : decide (0 ≤ 32) = true) (ai (bn h1) (ai (bn h2) (ai (bn h3) (a2 (be h4) (ai (dt h5) (ai (bn h6) (ai ((by decide) : decide (0 ≤ 32) = true) trivial))))))))) (by kernel_rfl) rfl rfl
            · refine gite (fun h6 => ?_) (fun h6 => ?_)
              · exact gv mix O_ 400 [t0, (1, false), f0, f0, t0, t0, f0, t0] (ai (cn (bf h0)) (a2 ((by decide) : decide (0 ≤ 32) = true) (ai (bn h1) (ai (bn h2) (ai (bn h3) (a2 (be h4) (ai (df h5) (ai (be h6) (ai ((by decide) : decide (0 ≤ 32) = true) trivial))))))))) (by kernel_rfl) rfl rfl
              · exact gv mix O_ 400 [t0, (1, false), f0, f0, t0, t0, f0, f0] (ai (cn (bf h0)) (a2 ((by decide) : decide (0 ≤ 32) = true) (ai (bn h1) (ai (bn h2) (ai (bn h3) (a2 (be h4) (ai (df h5) (ai (bn h6) (ai ((by decide) : decide (0 ≤ 32) = true) trivial))))))))) (by kernel_rfl) rfl rfl
          · refine gite (fun h5 => ?_) (fun h5 => ?_)
            · refine gite (fun h6 => ?_) (fun h6 => ?_)
              · exact gv mix O_ 400 [t0, (1, false), f0, f0, f0, t0, t0, t0] (ai (cn (bf h0)) (a2 ((by decide) : decide (0 ≤ 32) = true) (ai (bn h1) (ai (bn h2) (ai (bn h3) (ai (bn h4) (ai (be h5) (ai (dt h6) (ai (be h5) (ai ((by decide) : decide (0 ≤ 32) = true) trivial)))))))))) (by kernel_rfl) rfl rfl
              · exact gv mix O_ 400 [t0, (1, false), f0, f0, f0, t0, f0, t0] (ai (cn (bf h0)) (a2 ((by decide) : decide (0 ≤ 32) = true) (ai (bn h1) (ai (bn h2) (ai (bn h3) (ai (bn h4) (ai (be h5) (ai (df h6) (ai (be h5) (ai ((by decide) : decide (0 ≤ 32) = true) trivial)))))))))) (by kernel_rfl) rfl rfl
            · refine gite (fun h6 => ?_) (fun h6 => ?_)
              · exact gv mix O_ 400 [t0, (1, false), f0, f0, f0, f0, t0, t0] (ai (cn (bf h0)) (a2 ((by decide) : decide (0 ≤ 32) = true) (ai (bn h1) (ai (bn h2) (ai (bn h3) (ai (bn h4) (ai (bn h5) (a2 (be h6) (ai ((by decide) : decide (0 ≤ 32) = true) trivial))))))))) (by kernel_rfl) rfl rfl
              · refine gite (fun h7 => ?_) (fun h7 => ?_)
                · exact gv mix O_ 400 [t0, (1, false), f0, f0, f0, f0, f0, t0, t0] (ai (cn (bf h0)) (a2 ((by decide) : decide (0 ≤ 32) = true) (ai (bn h1) (ai (bn h2) (ai (bn h3) (ai (bn h4) (ai (bn h5) (ai (bn h6) (a2 (be h7) (ai ((by decide) : decide (0 ≤ 32) = true) trivial)))))))))) (by kernel_rfl) rfl rfl
                · refine gite (fun h8 => ?_) (fun h8 => ?_)
                  · exact gv mix O_ 400 [t0, (1, false), f0, f0, f0, f0, f0, f0, t0] (ai (cn (bf h0)) (a2 ((by decide) : decide (0 ≤ 32) = true) (ai (bn h1) (ai (bn h2) (ai (bn h3) (ai (bn h4) (ai (bn h5) (ai (bn h6) (ai (bn h7) (ai (be h8) (ai ((by decide) : decide (0 ≤ 32) = true) trivial))))))))))) (by kernel_rfl) rfl rfl
                  · refine gite (fun h9 => ?_) (fun h9 => ?_)
                    · exact gv mix O_ 400 [t0, (1, false), f0, f0, f0, f0, f0, f0, f0, t0, f0] (ai (cn (bf h0)) (a2 ((by decide) : decide (0 ≤ 32) = true) (ai (bn h1) (ai (bn h2) (ai (bn h3) (ai (bn h4) (ai (bn h5) (ai (bn h6) (ai (bn h7) (ai (bn h8) (ai (be h9) (ai ((df (Int.not_lt.2 wrapu_nonneg)) : decide ((IntKind.u64.wrap (IntKind.i64.wrap (Int.tmod (lockgateref01_Low d 32) 32))) < 0) = false) (ai ((by decide) : decide (0 ≤ 32) = true) trivial))))))))))))) (by kernel_rfl) rfl rfl
                    · refine gite (fun h10 => ?_) (fun h10 => ?_)
                      · exact gv mix O_ 400 [t0, (1, false), f0, f0, f0, f0, f0, f0, f0, f0, t0] (ai (cn (bf h0)) (a2 ((by decide) : decide (0 ≤ 32) = true) (ai (bn h1) (ai (bn h2) (ai (bn h3) (ai (bn h4) (ai (bn h5) (ai (bn h6) (ai (bn h7) (ai (bn h8) (ai (bn h9) (ai (be h10) (ai ((by decide) : decide (32 ≤ 64) = true) (ai ((by decide) : decide (0 ≤ 32) = true) trivial)))))))))))))) (by kernel_rfl) rfl rfl
                      · refine gite (fun h11 => ?_) (fun h11 => ?_)
                        · exact gv mix O_ 400 [t0, (1, false), f0, f0, f0, f0, f0, f0, f0, f0, f0, t0] (ai (cn (bf h0)) (a2 ((by decide) : decide (0 ≤ 32) = true) (ai (bn h1) (ai (bn h2) (ai (bn h3) (ai (bn h4) (ai (bn h5) (ai (bn h6) (ai (bn h7) (ai (bn h8) (ai (bn h9) (ai (bn h10) (ai (be h11) (ai ((by decide) : decide (0 ≤ 32) = true) trivial)))))))))))))) (by kernel_rfl) rfl rfl
                        · refine gite (fun h12 => ?_) (fun h12 => ?_)
                          · exact gv mix O_ 400 [t0, (1, false), f0, f0, f0, f0, f0, f0, f0, f0, f0, f0, t0] (ai (cn (bf h0)) (a2 ((by decide) : decide (0 ≤ 32) = true) (ai (bn h1) (ai (bn h2) (ai (bn h3) (ai (bn h4) (ai (bn h5) (ai (bn h6) (ai (bn h7) (ai (bn h8) (ai (bn h9) (ai (bn h10) (ai (bn h11) (ai (be h12) (ai ((by decide) : decide (0 ≤ 32) = true) trivial))))))))))))))) (by kernel_rfl) rfl rfl
                          · refine gite (fun h13 => ?_) (fun h13 => ?_)
                            · exact gv mix O_ 400 [t0, (1, false), f0, f0, f0, f0, f0, f0, f0, f0, f0, f0, f0, t0] (ai (cn (bf h0)) (a2 ((by decide) : decide (0 ≤ 32) = true) (ai (bn h1) (ai (bn h2) (ai (bn h3) (ai (bn h4) (ai (bn h5) (ai (bn h6) (ai (bn h7) (ai (bn h8) (ai (bn h9) (ai (bn h10) (ai (bn h11) (ai (bn h12) (ai (be h13) (ai ((by decide) : decide (32 ≤ 64) = true) (ai ((by decide) : decide (0 ≤ 32) = true) trivial))))))))))))))))) (by kernel_rfl) rfl rfl
                            · exact gv mix O_ 400 [t0, (1, false), f0, f0, f0, f0, f0, f0, f0, f0, f0, f0, f0, f0] (ai (cn (bf h0)) (a2 ((by decide) : decide (0 ≤ 32) = true) (ai (bn h1) (ai (bn h2) (ai (bn h3) (ai (bn h4) (ai (bn h5) (ai (bn h6) (ai (bn h7) (ai (bn h8) (ai (bn h9) (ai (bn h10) (ai (bn h11) (ai (bn h12) (ai (bn h13) trivial))))))))))))))) (by kernel_rfl) rfl rfl
theorem K_word_Jump : Keeps Tryz.prog 40 (F4 (cI .i64) cB (cI .u64) (cI .u64) (cP cB cB) (fun _ _ _ _ => []) word_Jump) := by
  refine keeps4 _ _ _ _ _ (enters_of Tryz.func40 (by kernel_rfl)) fun a b c d hp_ => ?_
  unfold word_Jump
  have O_ := (orc_cons K_word_order_uint64 (orc_cons K_word_order_int64 on_))
  refine gite (fun h0 => ?_) (fun h0 => ?_)
  · refine gite (fun h1 => ?_) (fun h1 => ?_)
    · exact gv mix O_ 400 [f0, t0] (ai (cn h0) (ai (be h1) trivial)) (by kernel_rfl) rfl rfl
    · refine gite (fun h2 => ?_) (fun h2 => ?_)
      · exact gv mix O_ 400 [f0, f0, t0] (ai (cn h0) (ai (bn h1) (ai (be h2) trivial))) (by kernel_rfl) rfl rfl
      · refine gite (fun h3 => ?_) (fun h3 => ?_)
        · exact gv mix O_ 400 [f0, f0, f0, t0] (ai (cn h0) (ai (bn h1) (ai (bn h2) (ai (be h3) trivial)))) (by kernel_rfl) rfl rfl
        · refine gite (fun h4 => ?_) (fun h4 => ?_)
          · exact gv mix O_ 400 [f0, f0, f0, f0, t0] (ai (cn h0) (ai (bn h1) (ai (bn h2) (ai (bn h3) (ai (be h4) trivial))))) (by kernel_rfl) rfl rfl
          · refine gite (fun h5 => ?_) (fun h5 => ?_)
            · exact gv mix O_ 400 [f0, f0, f0, f0, f0, t0] (ai (cn h0) (ai (bn h1) (ai (bn h2) (ai (bn h3) (ai (bn h4) (ai (be h5) trivial)))))) (by kernel_rfl) rfl rfl
            · refine gite (fun h6 => ?_) (fun h6 => ?_)
              · exact gv mix O_ 400 [f0, f0, f0, f0, f0, f0, t0] (ai (cn h0) (ai (bn h1) (ai (bn h2) (ai (bn h3) (ai (bn h4) (ai (bn h5) (ai (be h6) trivial))))))) (by kernel_rfl) rfl rfl
              · refine gite (fun h7 => ?_) (fun h7 => ?_)
                · exact gv mix O_ 400 [f0, f0, f0, f0, f0, f0, f0, t0] (ai (cn h0) (ai (bn h1) (ai (bn h2) (ai (bn h3) (ai (bn h4) (ai (bn h5) (ai (bn h6) (ai (be h7) trivial)))))))) (by kernel_rfl) rfl rfl
                · refine gite (fun h8 => ?_) (fun h8 => ?_)
                  · exact gv mix O_ 400 [f0, f0, f0, f0, f0, f0, f0, f0, t0] (ai (cn h0) (ai (bn h1) (ai (bn h2) (ai (bn h3) (ai (bn h4) (ai (bn h5) (ai (bn h6) (ai (bn h7) (ai (be h8) trivial))))))))) (by kernel_rfl) rfl rfl
                  · refine gite (fun h9 => ?_) (fun h9 => ?_)
                    · exact gv mix O_ 400 [f0, f0, f0, f0, f0, f0, f0, f0, f0, t0] (ai (cn h0) (ai (bn h1) (ai (bn h2) (ai (bn h3) (ai (bn h4) (ai (bn h5) (ai (bn h6) (ai (bn h7) (ai (bn h8) (ai (be h9) trivial)))))))))) (by kernel_rfl) rfl rfl
                    · refine gite (fun h10 => ?_) (fun h10 => ?_)
                      · exact gv mix O_ 400 [f0, f0, f0, f0, f0, f0, f0, f0, f0, f0, t0] (ai (cn h0) (ai (bn h1) (ai (bn h2) (ai (bn h3) (ai (bn h4) (ai (bn h5) (ai (bn h6) (ai (bn h7) (ai (bn h8) (ai (bn h9) (ai (be h10) trivial))))))))))) (by kernel_rfl) rfl rfl
                      · refine gite (fun h11 => ?_) (fun h11 => ?_)
                        · exact gv mix O_ 400 [f0, f0, f0, f0, f0, f0, f0, f0, f0, f0, f0, t0] (ai (cn h0) (ai (bn h1) (ai (bn h2) (ai (bn h3) (ai (bn h4) (ai (bn h5) (ai (bn h6) (ai (bn h7) (ai (bn h8) (ai (bn h9) (ai (bn h10) (ai (be h11) trivial)))))))))))) (by kernel_rfl) rfl rfl
                        · exact gv mix O_ 400 [f0, f0, f0, f0, f0, f0, f0, f0, f0, f0, f0, f0] (ai (cn h0) (ai (bn h1) (ai (bn h2) (ai (bn h3) (ai (bn h4) (ai (bn h5) (ai (bn h6) (ai (bn h7) (ai (bn h8) (ai (bn h9) (ai (bn h10) (ai (bn h11) trivial)))))))))))) (by kernel_rfl) rfl rfl
  · refine gite (fun h1 => ?_) (fun h1 => ?_)
    · exact gv mix O_ 400 [t0, t0] (ai (cn (bf h0)) (ai (be h1) trivial)) (by kernel_rfl) rfl rfl
    · refine gite (fun h2 => ?_) (fun h2 => ?_)
      · exact gv mix O_ 400 [t0, f0, t0] (ai (cn (bf h0)) (ai (bn h1) (ai (be h2) trivial))) (by kernel_rfl) rfl rfl
      · refine gite (fun h3 => ?_) (fun h3 => ?_)
        · exact gv mix O_ 400 [t0, f0, f0, t0] (ai (cn (bf h0)) (ai (bn h1) (ai (bn h2) (ai (be h3) trivial)))) (by kernel_rfl) rfl rfl
        · refine gite (fun h4 => ?_) (fun h4 => ?_)
          · exact gv mix O_ 400 [t0, f0, f0, f0, t0] (ai (cn (bf h0)) (ai (bn h1) (ai (bn h2) (ai (bn h3) (ai (be h4) trivial))))) (by kernel_rfl) rfl rfl
          · refine gite (fun h5 => ?_) (fun h5 => ?_)
            · exact gv mix O_ 400 [t0, f0, f0, f0, f0, t0] (ai (cn (bf h0)) (ai (bn h1) (ai (bn h2) (ai (bn h3) (ai (bn h4) (ai (be h5) trivial)))))) (by kernel_rfl) rfl rfl
            · refine gite (fun h6 => ?_) (fun h6 => ?_)
              · exact gv mix O_ 400 [t0, f0, f0, f0, f0, f0, t0] (ai (cn (bf h0)) (ai (bn h1) (ai (bn h2) (ai (bn h3) (ai (bn h4) (ai (bn h5) (ai (be h6) trivial))))))) (by kernel_rfl) rfl rfl
              · refine gite (fun h7 => ?_) (fun h7 => ?_)
                · exact gv mix O_ 400 [t0, f0, f0, f0, f0, f0, f0, t0] (ai (cn (bf h0)) (ai (bn h1) (ai (bn h2) (ai (bn h3) (ai (bn h4) (ai (bn h5) (ai (bn h6) (ai (be h7) trivial)))))))) (by kernel_rfl) rfl rfl
                · refine gite (fun h8 => ?_) (fun h8 => ?_)
                  · exact gv mix O_ 400 [t0, f0, f0, f0, f0, f0, f0, f0, t0] (ai (cn (bf h0)) (ai (bn h1) (ai (bn h2) (ai (bn h3) (ai (bn h4) (ai (bn h5) (ai (bn h6) (ai (bn h7) (ai (be h8) trivial))))))))) (by kernel_rfl) rfl rfl
                  · refine gite (fun h9 => ?_) (fun h9 => ?_)
                    · exact gv mix O_ 400 [t0, f0, f0, f0, f0, f0, f0, f0, f0, t0] (ai (cn (bf h0)) (ai (bn h1) (ai (bn h2) (ai (bn h3) (ai (bn h4) (ai (bn h5) (ai (bn h6) (ai (bn h7) (ai (bn h8) (ai (be h9) trivial)))))))))) (by kernel_rfl) rfl rfl
                    · refine gite (fun h10 => ?_) (fun h10 => ?_)
                      · exact gv mix O_ 400 [t0, f0, f0, f0, f0, f0, f0, f0, f0, f0, t0] (ai (cn (bf h0)) (ai (bn h1) (ai (bn h2) (ai (bn h3) (ai (bn h4) (ai (bn h5) (ai (bn h6) (ai (bn h7) (ai (bn h8) (ai (bn h9) (ai (be h10) trivial))))))))))) (by kernel_rfl) rfl rfl
                      · refine gite (fun h11 => ?_) (fun h11 => ?_)
                        · exact gv mix O_ 400 [t0, f0, f0, f0, f0, f0, f0, f0, f0, f0, f0, t0] (ai (cn (bf h0)) (ai (bn h1) (ai (bn h2) (ai (bn h3) (ai (bn h4) (ai (bn h5) (ai (bn h6) (ai (bn h7) (ai (bn h8) (ai (bn h9) (ai (bn h10) (ai (be h11) trivial)))))))))))) (by kernel_rfl) rfl rfl
                        · exact gv mix O_ 400 [t0, f0, f0, f0, f0, f0, f0, f0, f0, f0, f0, f0] (ai (cn (bf h0)) (ai (bn h1) (ai (bn h2) (ai (bn h3) (ai (bn h4) (ai (bn h5) (ai (bn h6) (ai (bn h7) (ai (bn h8) (ai (bn h9) (ai (bn h10) (ai (bn h11) trivial)))))))))))) (by kernel_rfl) rfl rfl
theorem K_lockgateref01_Jump : Keeps Tryz.prog 42 (F4 (cI .i64) cB (cI .u64) (cI .u64) (cP cB cB) (fun _ _ _ _ => []) lockgateref01_Jump) := by
  refine keeps4 _ _ _ _ _ (enters_of Tryz.func42 (by kernel_rfl)) fun a b c d hp_ => ?_
  unfold lockgateref01_Jump
  have O_ := (orc_cons K_lockgateref01_Low (orc_cons K_lockgateref01_order (orc_cons K_lockgateref01_bits on_)))
  refine gite (fun h0 => ?_) (fun h0 => ?_)
  · refine gite (fun h1 => ?_) (fun h1 => ?_)
    · exact gv mix O_ 400 [f0, t0] (ai (cn h0) (a2 ((by decide) : decide (0 ≤ 64) = true) (a2 ((by decide) : decide (0 ≤ 64 ∧ 64 ≤ 64) = true) (ai (be h1) trivial)))) (by kernel_rfl) rfl rfl
    · refine gite (fun h2 => ?_) (fun h2 => ?_)
      · exact gv mix O_ 400 [f0, f0, t0] (ai (cn h0) (a2 ((by decide) : decide (0 ≤ 64) = true) (a2 ((by decide) : decide (0 ≤ 64 ∧ 64 ≤ 64) = true) (ai (bn h1) (ai (be h2) trivial))))) (by kernel_rfl) rfl rfl
      · refine gite (fun h3 => ?_) (fun h3 => ?_)
        · exact gv mix O_ 400 [f0, f0, f0, t0] (ai (cn h0) (a2 ((by decide) : decide (0 ≤ 64) = true) (a2 ((by decide) : decide (0 ≤ 64 ∧ 64 ≤ 64) = true) (ai (bn h1) (ai (bn h2) (ai (be h3) trivial)))))) (by kernel_rfl) rfl rfl
        · refine gite (fun h4 => ?_) (fun h4 => ?_)
          · exact gv mix O_ 400 [f0, f0, f0, f0, t0] (ai (cn h0) (a2 ((by decide) : decide (0 ≤ 64) = true) (a2 ((by decide) : decide (0 ≤ 64 ∧ 64 ≤ 64) = true) (ai (bn h1) (ai (bn h2) (ai (bn h3) (ai (be h4) trivial))))))) (by kernel_rfl) rfl rfl
          · refine gite (fun h5 => ?_) (fun h5 => ?_)
            · exact gv mix O_ 400 [f0, f0, f0, f0, f0, t0] (ai (cn h0) (a2 ((by decide) : decide (0 ≤ 64) = true) (a2 ((by decide) : decide (0 ≤ 64 ∧ 64 ≤ 64) = true) (ai (bn h1) (ai (bn h2) (ai (bn h3) (ai (bn h4) (ai (be h5) trivial)))))))) (by kernel_rfl) rfl rfl
            · refine gite (fun h6 => ?_) (fun h6 => ?_)
              · exact gv mix O_ 400 [f0, f0, f0, f0, f0, f0, t0] (ai (cn h0) (a2 ((by decide) : decide (0 ≤ 64) = true) (a2 ((by decide) : decide (0 ≤ 64 ∧ 64 ≤ 64) = true) (ai (bn h1) (ai (bn h2) (ai (bn h3) (ai (bn h4) (ai (bn h5) (ai (be h6) trivial))))))))) (by kernel_rfl) rfl rfl
              · refine gite (fun h7 => ?_) (fun h7 => ?_)
                · exact gv mix O_ 400 [f0, f0, f0, f0, f0, f0, f0, t0] (ai (cn h0) (a2 ((by decide) : decide (0 ≤ 64) = true) (a2 ((by decide) : decide (0 ≤ 64 ∧ 64 ≤ 64) = true) (ai (bn h1) (ai (bn h2) (ai (bn h3) (ai (bn h4) (ai (bn h5) (ai (bn h6) (ai (be h7) trivial)))))))))) (by kernel_rfl) rfl rfl
                · refine gite (fun h8 => ?_) (fun h8 => ?_)
                  · exact gv mix O_ 400 [f0, f0, f0, f0, f0, f0, f0, f0, t0] (ai (cn h0) (a2 ((by decide) : decide (0 ≤ 64) = true) (a2 ((by decide) : decide (0 ≤ 64 ∧ 64 ≤ 64) = true) (ai (bn h1) (ai (bn h2) (ai (bn h3) (ai (bn h4) (ai (bn h5) (ai (bn h6) (ai (bn h7) (ai (be h8) trivial))))))))))) (by kernel_rfl) rfl rfl
                  · refine gite (fun h9 => ?_) (fun h9 => ?_)
                    · exact gv mix O_ 400 [f0, f0, f0, f0, f0, f0, f0, f0, f0, t0] (ai (cn h0) (a2 ((by decide) : decide (0 ≤ 64) = true) (a2 ((by decide) : decide (0 ≤ 64 ∧ 64 ≤ 64) = true) (ai (bn h1) (ai (bn h2) (ai (bn h3) (ai (bn h4) (ai (bn h5) (ai (bn h6) (ai (bn h7) (ai (bn h8) (ai (be h9) trivial)))))))))))) (by kernel_rfl) rfl rfl
                    · refine gite (fun h10 => ?_) (fun h10 => ?_)
                      · exact gv mix O_ 400 [f0, f0, f0, f0, f0, f0, f0, f0, f0, f0, t0] (ai (cn h0) (a2 ((by decide) : decide (0 ≤ 64) = true) (a2 ((by decide) : decide (0 ≤ 64 ∧ 64 ≤ 64) = true) (ai (bn h1) (ai (bn h2) (ai (bn h3) (ai (bn h4) (ai (bn h5) (ai (bn h6) (ai (bn h7) (ai (bn h8) (ai (bn h9) (ai (be h10) trivial))))))))))))) (by kernel_rfl) rfl rfl
                      · refine gite (fun h11 => ?_) (fun h11 => ?_)
                        · exact gv mix O_ 400 [f0, f0, f0, f0, f0, f0, f0, f0, f0, f0, f0, t0] (ai (cn h0) (a2 ((by decide) : decide (0 ≤ 64) = true) (a2 ((by decide) : decide (0 ≤ 64 ∧ 64 ≤ 64) = true) (ai (bn h1) (ai (bn h2) (ai (bn h3) (ai (bn h4) (ai (bn h5) (ai (bn h6) (ai (bn h7) (ai (bn h8) (ai (bn h9) (ai (bn h10) (ai (be h11) trivial)))))))))))))) (by kernel_rfl) rfl rfl
                        · exact gv mix O_ 400 [f0, f0, f0, f0, f0, f0, f0, f0, f0, f0, f0, f0] (ai (cn h0) (a2 ((by decide) : decide (0 ≤ 64) = true) (a2 ((by decide) : decide (0 ≤ 64 ∧ 64 ≤ 64) = true) (ai (bn h1) (ai (bn h2) (ai (bn h3) (ai (bn h4) (ai (bn h5) (ai (bn h6) (ai (bn h7) (ai (bn h8) (ai (bn h9) (ai (bn h10) (ai (bn h11) trivial)))))))))))))) (by kernel_rfl) rfl rfl
  · refine gite (fun h1 => ?_) (fun h1 => ?_)
    · exact gv mix O_ 400 [t0, t0] (ai (cn (bf h0)) (a2 ((by decide) : decide (0 ≤ 32) = true) (a2 ((by decide) : decide (0 ≤ 32 ∧ 32 ≤ 64) = true) (ai (be h1) trivial)))) (by kernel_rfl) rfl rfl
    · refine gite (fun h2 => ?_) (fun h2 => ?_)
      · exact gv mix O_ 400 [t0, f0, t0] (ai (cn (bf h0)) (a2 ((by decide) : decide (0 ≤ 32) = true) (a2 ((by decide) : decide (0 ≤ 32 ∧ 32 ≤ 64) = true) (ai (bn h1) (ai (be h2) trivial))))) (by kernel_rfl) rfl rfl
      · refine gite (fun h3 => ?_) (fun h3 => ?_)
        · exact gv mix O_ 400 [t0, f0, f0, t0] (ai (cn (bf h0)) (a2 ((by decide) : decide (0 ≤ 32) = true) (a2 ((by decide) : decide (0 ≤ 32 ∧ 32 ≤ 64) = true) (ai (bn h1) (ai (bn h2) (ai (be h3) trivial)))))) (by kernel_rfl) rfl rfl
        · refine gite (fun h4 => ?_) (fun h4 => ?_)
          · exact gv mix O_ 400 [t0, f0, f0, f0, t0] (ai (cn (bf h0)) (a2 ((by decide) : decide (0 ≤ 32) = true) (a2 ((by decide) : decide (0 ≤ 32 ∧ 32 ≤ 64) = true) (ai (bn h1) (ai (bn h2) (ai (bn h3) (ai (be h4) trivial))))))) (by kernel_rfl) rfl rfl
          · refine gite (fun h5 => ?_) (fun h5 => ?_)
            · exact gv mix O_ 400 [t0, f0, f0, f0, f0, t0] (ai (cn (bf h0)) (a2 ((by decide) : decide (0 ≤ 32) = true) (a2 ((by decide) : decide (0 ≤ 32 ∧ 32 ≤ 64) = true) (ai (bn h1) (ai (bn h2) (ai (bn h3) (ai (bn h4) (ai (be h5) trivial)))))))) (by kernel_rfl) rfl rfl
            · refine gite (fun h6 => ?_) (fun h6 => ?_)
              · exact gv mix O_ 400 [t0, f0, f0, f0, f0, f0, t0] (ai (cn (bf h0)) (a2 ((by decide) : decide (0 ≤ 32) = true) (a2 ((by decide) : decide (0 ≤ 32 ∧ 32 ≤ 64) = true) (ai (bn h1) (ai (bn h2) (ai (bn h3) (ai (bn h4) (ai (bn h5) (ai (be h6) trivial))))))))) (by kernel_rfl) rfl rfl
              · refine gite (fun h7 => ?_) (fun h7 => ?_)
                · exact gv mix O_ 400 [t0, f0, f0, f0, f0, f0, f0, t0] (ai (cn (bf h0)) (a2 ((by decide) : decide (0 ≤ 32) = true) (a2 ((by decide) : decide (0 ≤ 32 ∧ 32 ≤ 64) = true) (ai (bn h1) (ai (bn h2) (ai (bn h3) (ai (bn h4) (ai (bn h5) (ai (bn h6) (ai (be h7) trivial)))))))))) (by kernel_rfl) rfl rfl
                · refine gite (fun h8 => ?_) (fun h8 => ?_)
                  · exact gv mix O_ 400 [t0, f0, f0, f0, f0, f0, f0, f0, t0] (ai (cn (bf h0)) (a2 ((by decide) : decide (0 ≤ 32) = true) (a2 ((by decide) : decide (0 ≤ 32 ∧ 32 ≤ 64) = true) (ai (bn h1) (ai (bn h2) (ai (bn h3) (ai (bn h4) (ai (bn h5) (ai (bn h6) (ai (bn h7) (ai (be h8) trivial))))))))))) (by kernel_rfl) rfl rfl
                  · refine gite (fun h9 => ?_) (fun h9 => ?_)
                    · exact gv mix O_ 400 [t0, f0, f0, f0, f0, f0, f0, f0, f0, t0] (ai (cn (bf h0)) (a2 ((by decide) : decide (0 ≤ 32) = true) (a2 ((by decide) : decide (0 ≤ 32 ∧ 32 ≤ 64) = true) (ai (bn h1) (ai (bn h2) (ai (bn h3) (ai (bn h4) (ai (bn h5) (ai (bn h6) (ai (bn h7) (ai (bn h8) (ai (be h9) trivial)))))))))))) (by kernel_rfl) rfl rfl
                    · refine gite (fun h10 => ?_) (fun h10 => ?_)
                      · exact gv mix O_ 400 [t0, f0, f0, f0, f0, f0, f0, f0, f0, f0, t0] (ai (cn (bf h0)) (a2 ((by decide) : decide (0 ≤ 32) = true) (a2 ((by decide) : decide (0 ≤ 32 ∧ 32 ≤ 64) = true) (ai (bn h1) (ai (bn h2) (ai (bn h3) (ai (bn h4) (ai (bn h5) (ai (bn h6) (ai (bn h7) (ai (bn h8) (ai (bn h9) (ai (be h10) trivial))))))))))))) (by kernel_rfl) rfl rfl
                      · refine gite (fun h11 => ?_) (fun h11 => ?_)
                        · exact gv mix O_ 400 [t0, f0, f0, f0, f0, f0, f0, f0, f0, f0, f0, t0] (ai (cn (bf h0)) (a2 ((by decide) : decide (0 ≤ 32) = true) (a2 ((by decide) : decide (0 ≤ 32 ∧ 32 ≤ 64) = true) (ai (bn h1) (ai (bn h2) (ai (bn h3) (ai (bn h4) (ai (bn h5) (ai (bn h6) (ai (bn h7) (ai (bn h8) (ai (bn h9) (ai (bn h10) (ai (be h11) trivial)))))))))))))) (by kernel_rfl) rfl rfl
                        · exact gv mix O_ 400 [t0, f0, f0, f0, f0, f0, f0, f0, f0, f0, f0, f0] (ai (cn (bf h0)) (a2 ((by decide) : decide (0 ≤ 32) = true) (a2 ((by decide) : decide (0 ≤ 32 ∧ 32 ≤ 64) = true) (ai (bn h1) (ai (bn h2) (ai (bn h3) (ai (bn h4) (ai (bn h5) (ai (bn h6) (ai (bn h7) (ai (bn h8) (ai (bn h9) (ai (bn h10) (ai (bn h11) trivial)))))))))))))) (by kernel_rfl) rfl rfl
theorem K_span_UMeet : Keeps Tryz.prog 47 (F2 cUs cUs (cP cUs cB) (fun _ _ => []) span_UMeet) := by
  refine keeps2 _ _ _ (enters_of Tryz.func47 (by kernel_rfl)) fun a b hp_ => ?_
  unfold span_UMeet
  have O_ := (orc_cons K_span_meet_uint64 on_)
  refine gite (fun h0 => ?_) (fun h0 => ?_)
  · exact gv mix O_ 400 [f0] (ai (cn h0) trivial) (by kernel_rfl) rfl rfl
  · exact gv mix O_ 400 [t0] (ai (cn (bf h0)) trivial) (by kernel_rfl) rfl rfl
theorem K_span_ToU : Keeps Tryz.prog 48 (F1 cSs cUs (fun _ => []) span_ToU) := by
  refine keeps1 _ _ (enters_of Tryz.func48 (by kernel_rfl)) fun a hp_ => ?_
  unfold span_ToU
  have O_ := (orc_cons K_span_UAll on_)
  refine gite (fun h0 => ?_) (fun h0 => ?_)
  · exact gv mix O_ 400 [f0] (ai (cn h0) trivial) (by kernel_rfl) rfl rfl
  · exact gv mix O_ 400 [t0] (ai (cn (bf h0)) trivial) (by kernel_rfl) rfl rfl
theorem K_span_SMeet : Keeps Tryz.prog 51 (F2 cSs cSs (cP cSs cB) (fun _ _ => []) span_SMeet) := by
  refine keeps2 _ _ _ (enters_of Tryz.func51 (by kernel_rfl)) fun a b hp_ => ?_
  unfold span_SMeet
  have O_ := (orc_cons K_span_meet_int64 on_)
  refine gite (fun h0 => ?_) (fun h0 => ?_)
  · exact gv mix O_ 400 [f0] (ai (cn h0) trivial) (by kernel_rfl) rfl rfl
  · exact gv mix O_ 400 [t0] (ai (cn (bf h0)) trivial) (by kernel_rfl) rfl rfl
theorem K_span_ToS : Keeps Tryz.prog 52 (F1 cUs cSs (fun _ => []) span_ToS) := by
  refine keeps1 _ _ (enters_of Tryz.func52 (by kernel_rfl)) fun a hp_ => ?_
  unfold span_ToS
  have O_ := (orc_cons K_span_SAll on_)
  refine gite (fun h0 => ?_) (fun h0 => ?_)
  · exact gv mix O_ 400 [(2, false)] (ai (bne_eq_false_iff_eq.2 h0) trivial) (by kernel_rfl) rfl rfl
  · exact gv mix O_ 400 [(2, true)] (ai (bne_iff_ne.2 h0) trivial) (by kernel_rfl) rfl rfl
theorem K_tnum_Meet : Keeps Tryz.prog 55 (F2 cTn cTn (cP cTn cB) (fun _ _ => []) tnum_Meet) := by
  refine keeps2 _ _ _ (enters_of Tryz.func55 (by kernel_rfl)) fun a b hp_ => ?_
  unfold tnum_Meet
  have O_ := (orc_cons K_tnum_clear on_)
  refine gite (fun h0 => ?_) (fun h0 => ?_)
  · exact gv mix O_ 400 [f0] (ai (bne_eq_false_iff_eq.2 h0) trivial) (by kernel_rfl) rfl rfl
  · exact gv mix O_ 400 [t0] (ai (bne_iff_ne.2 h0) trivial) (by kernel_rfl) rfl rfl
theorem K_span_ToT : Keeps Tryz.prog 56 (F1 cUs cTn (fun _ => []) span_ToT) := by
  refine keeps1 _ _ (enters_of Tryz.func56 (by kernel_rfl)) fun a hp_ => ?_
  unfold span_ToT
  have O_ := (orc_cons K_span_below on_)
  exact gv mix O_ 400 [] trivial (by kernel_rfl) rfl rfl
theorem K_lockgateref05_once : Keeps Tryz.prog 57 (F1 cSc (cP cSc cB) (fun _ => []) lockgateref05_once) := by
  refine keeps1 _ _ (enters_of Tryz.func57 (by kernel_rfl)) fun a hp_ => ?_
  unfold lockgateref05_once
  have O_ := (orc_cons K_lockgateref04_ToU (orc_cons K_lockgateref04_UMeet (orc_cons K_lockgateref04_FromT (orc_cons K_lockgateref04_ToS (orc_cons K_lockgateref04_SMeet (orc_cons K_lockgateref04_ToT (orc_cons K_lockgateref03_Meet on_)))))))
  refine gite (fun h0 => ?_) (fun h0 => ?_)
  · refine gite (fun h1 => ?_) (fun h1 => ?_)
    · refine gite (fun h2 => ?_) (fun h2 => ?_)
      · refine gite (fun h3 => ?_) (fun h3 => ?_)
        · refine gite (fun h4 => ?_) (fun h4 => ?_)
          · exact gv mix O_ 400 [f0, f0, f0, f0, f0] (ai (cn h0) (ai (cn h1) (ai (cn h2) (ai (cn h3) (ai (cn h4) trivial))))) (by kernel_rfl) rfl rfl
          · exact gv mix O_ 400 [f0, f0, f0, f0, t0] (ai (cn h0) (ai (cn h1) (ai (cn h2) (ai (cn h3) (ai (cn (bf h4)) trivial))))) (by kernel_rfl) rfl rfl
        · exact gv mix O_ 400 [f0, f0, f0, t0] (ai (cn h0) (ai (cn h1) (ai (cn h2) (ai (cn (bf h3)) trivial)))) (by kernel_rfl) rfl rfl
      · exact gv mix O_ 400 [f0, f0, t0] (ai (cn h0) (ai (cn h1) (ai (cn (bf h2)) trivial))) (by kernel_rfl) rfl rfl
    · exact gv mix O_ 400 [f0, t0] (ai (cn h0) (ai (cn (bf h1)) trivial)) (by kernel_rfl) rfl rfl
  · exact gv mix O_ 400 [t0] (ai (cn (bf h0)) trivial) (by kernel_rfl) rfl rfl
theorem K_span_UIn : Keeps Tryz.prog 71 (F2 cUs (cI .u64) cB (fun _ _ => []) span_UIn) := by
  refine keeps2 _ _ _ (enters_of Tryz.func71 (by kernel_rfl)) fun a b hp_ => ?_
  unfold span_UIn
  have O_ := (orc_cons K_span_between_uint64 on_)
  exact gv mix O_ 400 [] trivial (by kernel_rfl) rfl rfl
theorem K_span_SIn : Keeps Tryz.prog 72 (F2 cSs (cI .u64) cB (fun _ _ => []) span_SIn) := by
  refine keeps2 _ _ _ (enters_of Tryz.func72 (by kernel_rfl)) fun a b hp_ => ?_
  unfold span_SIn
  have O_ := (orc_cons K_span_between_int64 on_)
  exact gv mix O_ 400 [] trivial (by kernel_rfl) rfl rfl
theorem K_tnum_Join : Keeps Tryz.prog 82 (F2 cTn cTn cTn (fun _ _ => []) tnum_Join) := by
  refine keeps2 _ _ _ (enters_of Tryz.func82 (by kernel_rfl)) fun a b hp_ => ?_
  unfold tnum_Join
  have O_ := (orc_cons K_tnum_clear on_)
  refine gite (fun h0 => ?_) (fun h0 => ?_)
  · exact gv mix O_ 400 [t0] (ai h0 trivial) (by kernel_rfl) rfl rfl
  · exact gv mix O_ 400 [f0] (ai (bf h0) trivial) (by kernel_rfl) rfl rfl
theorem K_span_UJoin : Keeps Tryz.prog 83 (F2 cUs cUs cUs (fun _ _ => []) span_UJoin) := by
  refine keeps2 _ _ _ (enters_of Tryz.func83 (by kernel_rfl)) fun a b hp_ => ?_
  unfold span_UJoin
  have O_ := (orc_cons K_span_join_uint64 on_)
  exact gv mix O_ 400 [] trivial (by kernel_rfl) rfl rfl
theorem K_span_SJoin : Keeps Tryz.prog 84 (F2 cSs cSs cSs (fun _ _ => []) span_SJoin) := by
  refine keeps2 _ _ _ (enters_of Tryz.func84 (by kernel_rfl)) fun a b hp_ => ?_
  unfold span_SJoin
  have O_ := (orc_cons K_span_join_int64 on_)
  exact gv mix O_ 400 [] trivial (by kernel_rfl) rfl rfl
theorem K_tnum_Add : Keeps Tryz.prog 100 (F2 cTn cTn cTn (fun _ _ => []) tnum_Add) := by
  refine keeps2 _ _ _ (enters_of Tryz.func100 (by kernel_rfl)) fun a b hp_ => ?_
  unfold tnum_Add
  have O_ := (orc_cons K_tnum_clear on_)
  exact gv mix O_ 400 [] trivial (by kernel_rfl) rfl rfl
theorem K_span_SAdd : Keeps Tryz.prog 102 (F2 cSs cSs cSs (fun _ _ => []) span_SAdd) := by
  refine keeps2 _ _ _ (enters_of Tryz.func102 (by kernel_rfl)) fun a b hp_ => ?_
  unfold span_SAdd
  have O_ := (orc_cons K_span_sum (orc_cons K_span_ends on_))
  exact gv mix O_ 400 [] trivial (by kernel_rfl) rfl rfl
theorem K_tnum_Sub : Keeps Tryz.prog 103 (F2 cTn cTn cTn (fun _ _ => []) tnum_Sub) := by
  refine keeps2 _ _ _ (enters_of Tryz.func103 (by kernel_rfl)) fun a b hp_ => ?_
  unfold tnum_Sub
  have O_ := (orc_cons K_tnum_clear on_)
  exact gv mix O_ 400 [] trivial (by kernel_rfl) rfl rfl
theorem K_span_SSub : Keeps Tryz.prog 105 (F2 cSs cSs cSs (fun _ _ => []) span_SSub) := by
  refine keeps2 _ _ _ (enters_of Tryz.func105 (by kernel_rfl)) fun a b hp_ => ?_
  unfold span_SSub
  have O_ := (orc_cons K_span_less (orc_cons K_span_ends on_))
  exact gv mix O_ 400 [] trivial (by kernel_rfl) rfl rfl
theorem K_span_UMul : Keeps Tryz.prog 107 (F2 cUs cUs cUs (fun _ _ => []) span_UMul) := by
  refine keeps2 _ _ _ (enters_of Tryz.func107 (by kernel_rfl)) fun a b hp_ => ?_
  unfold span_UMul
  have O_ := (orc_cons K_bits_Mul64 (orc_cons K_span_UAll on_))
  refine gite (fun h0 => ?_) (fun h0 => ?_)
  · exact gv mix O_ 400 [f0] (ai (bne_eq_false_iff_eq.2 h0) trivial) (by kernel_rfl) rfl rfl
  · exact gv mix O_ 400 [t0] (ai (bne_iff_ne.2 h0) trivial) (by kernel_rfl) rfl rfl
theorem K_span_UDiv : Keeps Tryz.prog 108 (F2 cUs cUs cUs (fun _ _ => []) span_UDiv) := by
  refine keeps2 _ _ _ (enters_of Tryz.func108 (by kernel_rfl)) fun a b hp_ => ?_
  unfold span_UDiv
  have O_ := (orc_cons K_span_alone on_)
  refine gite (fun h0 => ?_) (fun h0 => ?_)
  · refine gite (fun h1 => ?_) (fun h1 => ?_)
    · exact gv mix O_ 400 [t0, t0, t0, t0, f0] (a4 h0 (ai (bne_eq_false_iff_eq.2 h1) trivial)) (by kernel_rfl) rfl rfl
    · exact gv mix O_ 400 [t0, t0, t0, t0, t0, f0, f0] (a4 h0 (ai (bne_iff_ne.2 h1) (a2 (df h1) trivial))) (by kernel_rfl) rfl rfl
  · exact gv mix O_ 400 [f0, f0, f0, f0] (a4 (bf h0) trivial) (by kernel_rfl) rfl rfl
theorem K_span_UMod : Keeps Tryz.prog 109 (F2 cUs cUs cUs (fun _ _ => []) span_UMod) := by
  refine keeps2 _ _ _ (enters_of Tryz.func109 (by kernel_rfl)) fun a b hp_ => ?_
  unfold span_UMod
  have O_ := (orc_cons K_span_alone (orc_cons K_span_UOf on_))
  refine gite (fun h0 => ?_) (fun h0 => ?_)
  · refine gite (fun h1 => ?_) (fun h1 => ?_)
    · exact gv mix O_ 400 [f0, f0, f0, f0, t0] (a4 (cn h0) (ai (be h1) trivial)) (by kernel_rfl) rfl rfl
    · refine gite (fun h2 => ?_) (fun h2 => ?_)
      · exact gv mix O_ 400 [f0, f0, f0, f0, f0, t0] (a4 (cn h0) (ai (bn h1) (ai (dt h2) trivial))) (by kernel_rfl) rfl rfl
      · refine gite (fun h3 => ?_) (fun h3 => ?_)
        · exact gv mix O_ 400 [f0, f0, f0, f0, f0, f0, t0, f0] (a4 (cn h0) (ai (bn h1) (ai (df h2) (ai h3 (ai (df h1) trivial))))) (by kernel_rfl) rfl rfl
        · exact gv mix O_ 400 [f0, f0, f0, f0, f0, f0, f0] (a4 (cn h0) (ai (bn h1) (ai (df h2) (ai (bf h3) trivial)))) (by kernel_rfl) rfl rfl
  · exact gv mix O_ 400 [t0, t0, t0, t0] (a4 (cn (bf h0)) trivial) (by kernel_rfl) rfl rfl
theorem K_span_UOr : Keeps Tryz.prog 111 (F2 cUs cUs cUs (fun _ _ => []) span_UOr) := by
  refine keeps2 _ _ _ (enters_of Tryz.func111 (by kernel_rfl)) fun a b hp_ => ?_
  unfold span_UOr
  have O_ := (orc_cons K_span_alone (orc_cons K_span_UOf (orc_cons K_span_below on_)))
  refine gite (fun h0 => ?_) (fun h0 => ?_)
  · refine gite (fun h1 => ?_) (fun h1 => ?_)
    · exact gv mix O_ 400 [t0, t0, t0, t0] (a3 h0 (ai h1 trivial)) (by kernel_rfl) rfl rfl
    · exact gv mix O_ 400 [t0, t0, t0, f0] (a3 h0 (ai (bf h1) trivial)) (by kernel_rfl) rfl rfl
  · exact gv mix O_ 400 [f0, f0, f0] (a3 (bf h0) trivial) (by kernel_rfl) rfl rfl
theorem K_span_UAnd : Keeps Tryz.prog 113 (F2 cUs cUs cUs (fun _ _ => []) span_UAnd) := by
  refine keeps2 _ _ _ (enters_of Tryz.func113 (by kernel_rfl)) fun a b hp_ => ?_
  unfold span_UAnd
  have O_ := (orc_cons K_span_alone (orc_cons K_span_UOf on_))
  refine gite (fun h0 => ?_) (fun h0 => ?_)
  · refine gite (fun h1 => ?_) (fun h1 => ?_)
    · exact gv mix O_ 400 [t0, t0, t0, t0] (a3 h0 (ai h1 trivial)) (by kernel_rfl) rfl rfl
    · exact gv mix O_ 400 [t0, t0, t0, f0] (a3 h0 (ai (bf h1) trivial)) (by kernel_rfl) rfl rfl
  · exact gv mix O_ 400 [f0, f0, f0] (a3 (bf h0) trivial) (by kernel_rfl) rfl rfl
theorem K_tnum_Xor : Keeps Tryz.prog 114 (F2 cTn cTn cTn (fun _ _ => []) tnum_Xor) := by
  refine keeps2 _ _ _ (enters_of Tryz.func114 (by kernel_rfl)) fun a b hp_ => ?_
  unfold tnum_Xor
  have O_ := (orc_cons K_tnum_clear on_)
  exact gv mix O_ 400 [] trivial (by kernel_rfl) rfl rfl
theorem K_lockgateref03_Lsh : Keeps Tryz.prog 125 (F2 cTn (cI .i64) cTn (fun _ _ => []) lockgateref03_Lsh) := by
  refine keeps2 _ _ _ (enters_of Tryz.func125 (by kernel_rfl)) fun a b hp_ => ?_
  unfold lockgateref03_Lsh
  have O_ := (orc_cons K_lockgateref03_count on_)
  exact gv mix O_ 400 [f0, f0] (ai ((by decide) : decide (¬ 64 = 0) = true) (ai ((df (by first | with_reducible exact p0 | exact count_nn | exact shl1_nz p0 (by assumption) | exact len64_nn | (rw [tab_size]; exact u8_in) | exact nz1 (by assumption) (by assumption) | exact nz2 (by assumption) (by assumption) (by assumption) | exact Int.not_lt.2 wrapu_nonneg | exact Int.not_lt.2 wrapu_nn | (split <;> exact Int.not_lt.2 wrapu_nonneg) | exact Int.not_lt.2 (Int.tmod_nonneg _ (by assumption)) | exact Int.not_lt.2 (Int.tmod_nonneg _ wrapu_nonneg) | exact Int.not_lt.2 bits_nonneg | omega | (rw [wrap_i64_id (by omega) (by omega)]; omega))) : decide ((lockgateref03_count b 64) < 0) = false) (ai ((by decide) : decide (¬ 64 = 0) = true) (ai ((df (by first | with_reducible exact p0 | exact count_nn | exact shl1_nz p0 (by assumption) | exact len64_nn | (rw [tab_size]; exact u8_in) | exact nz1 (by assumption) (by assumption) | exact nz2 (by assumption) (by assumption) (by assumption) | exact Int.not_lt.2 wrapu_nonneg | exact Int.not_lt.2 wrapu_nn | (split <;> exact Int.not_lt.2 wrapu_nonneg) | exact Int.not_lt.2 (Int.tmod_nonneg _ (by assumption)) | exact Int.not_lt.2 (Int.tmod_nonneg _ wrapu_nonneg) | exact Int.not_lt.2 bits_nonneg | omega | (rw [wrap_i64_id (by omega) (by omega)]; omega))) : decide ((lockgateref03_count b 64) < 0) = false) trivial)))) (by kernel_rfl) rfl rfl
theorem K_lockgateref03_Rsh : Keeps Tryz.prog 127 (F2 cTn (cI .i64) cTn (fun _ _ => []) lockgateref03_Rsh) := by
  refine keeps2 _ _ _ (enters_of Tryz.func127 (by kernel_rfl)) fun a b hp_ => ?_
  unfold lockgateref03_Rsh
  have O_ := (orc_cons K_lockgateref03_count on_)
  exact gv mix O_ 400 [f0, f0] (ai ((by decide) : decide (¬ 64 = 0) = true) (ai ((df (by first | with_reducible exact p0 | exact count_nn | exact shl1_nz p0 (by assumption) | exact len64_nn | (rw [tab_size]; exact u8_in) | exact nz1 (by assumption) (by assumption) | exact nz2 (by assumption) (by assumption) (by assumption) | exact Int.not_lt.2 wrapu_nonneg | exact Int.not_lt.2 wrapu_nn | (split <;> exact Int.not_lt.2 wrapu_nonneg) | exact Int.not_lt.2 (Int.tmod_nonneg _ (by assumption)) | exact Int.not_lt.2 (Int.tmod_nonneg _ wrapu_nonneg) | exact Int.not_lt.2 bits_nonneg | omega | (rw [wrap_i64_id (by omega) (by omega)]; omega))) : decide ((lockgateref03_count b 64) < 0) = false) (ai ((by decide) : decide (¬ 64 = 0) = true) (ai ((df (by first | with_reducible exact p0 | exact count_nn | exact shl1_nz p0 (by assumption) | exact len64_nn | (rw [tab_size]; exact u8_in) | exact nz1 (by assumption) (by assumption) | exact nz2 (by assumption) (by assumption) (by assumption) | exact Int.not_lt.2 wrapu_nonneg | exact Int.not_lt.2 wrapu_nn | (split <;> exact Int.not_lt.2 wrapu_nonneg) | exact Int.not_lt.2 (Int.tmod_nonneg _ (by assumption)) | exact Int.not_lt.2 (Int.tmod_nonneg _ wrapu_nonneg) | exact Int.not_lt.2 bits_nonneg | omega | (rw [wrap_i64_id (by omega) (by omega)]; omega))) : decide ((lockgateref03_count b 64) < 0) = false) trivial)))) (by kernel_rfl) rfl rfl
theorem K_lockgateref03_Arsh : Keeps Tryz.prog 129 (F3 cTn (cI .i64) (cI .i64) cTn (fun _ _ _ => []) lockgateref03_Arsh) := by
  refine keeps3 _ _ _ _ (enters_of Tryz.func129 (by kernel_rfl)) fun a b c hp_ => ?_
  unfold lockgateref03_Arsh
  have O_ := (orc_cons K_lockgateref03_count (orc_cons K_lockgateref03_down (orc_cons K_lockgateref03_Any on_)))
  refine gite (fun h0 => ?_) (fun h0 => ?_)
  · exact gv mix O_ 400 [f0, f0, f0] (a3 (bne_eq_false_iff_eq.2 h0) (ai ((by first | with_reducible exact dt p0 | with_reducible exact dt p1 | assumption | exact w32_le h0 | exact w64_le h0 | exact w64_le h1 | exact w32_le h1 | exact ne32 h0 | exact ne64 h0 | exact ne64 h1 | exact ne32 h1 | decide | (simp_all; done)) : decide (¬ c = 0) = true) (a2 ((by first | with_reducible exact dt p0 | with_reducible exact dt p1 | assumption | exact w32_le h0 | exact w64_le h0 | exact w64_le h1 | exact w32_le h1 | exact ne32 h0 | exact ne64 h0 | exact ne64 h1 | exact ne32 h1 | decide | (simp_all; done)) : decide ((IntKind.u64.wrap c) ≤ 64) = true) trivial))) (by kernel_rfl) rfl rfl
  · refine gite (fun h1 => ?_) (fun h1 => ?_)
    · exact gv mix O_ 400 [t0, t0, t0, f0] (a3 (bne_iff_ne.2 h0) (ai (bne_eq_false_iff_eq.2 h1) (ai ((by first | with_reducible exact dt p0 | with_reducible exact dt p1 | assumption | exact w32_le h0 | exact w64_le h0 | exact w64_le h1 | exact w32_le h1 | exact ne32 h0 | exact ne64 h0 | exact ne64 h1 | exact ne32 h1 | decide | (simp_all; done)) : decide (¬ c = 0) = true) (a2 ((by first | with_reducible exact dt p0 | with_reducible exact dt p1 | assumption | exact w32_le h0 | exact w64_le h0 | exact w64_le h1 | exact w32_le h1 | exact ne32 h0 | exact ne64 h0 | exact ne64 h1 | exact ne32 h1 | decide | (simp_all; done)) : decide ((IntKind.u64.wrap c) ≤ 64) = true) trivial)))) (by kernel_rfl) rfl rfl
    · exact gv mix O_ 400 [t0, t0, t0, t0] (a3 (bne_iff_ne.2 h0) (ai (bne_iff_ne.2 h1) trivial)) (by kernel_rfl) rfl rfl
theorem K_lockgateref04_SAdd : Keeps Tryz.prog 133 (F2 cSs cSs cSs (fun _ _ => []) lockgateref04_SAdd) := by
  refine keeps2 _ _ _ (enters_of Tryz.func133 (by kernel_rfl)) fun a b hp_ => ?_
  unfold lockgateref04_SAdd
  have O_ := (orc_cons K_lockgateref04_over (orc_cons K_lockgateref04_SAll on_))
  refine gite (fun h0 => ?_) (fun h0 => ?_)
  · exact gv mix O_ 400 [t0, t0, t0, t0, t0, t0] (a6 h0 trivial) (by kernel_rfl) rfl rfl
  · refine gite (fun h1 => ?_) (fun h1 => ?_)
    · exact gv mix O_ 400 [f0, f0, f0, f0, f0, f0, t0] (a6 (bf h0) (ai h1 trivial)) (by kernel_rfl) rfl rfl
    · exact gv mix O_ 400 [f0, f0, f0, f0, f0, f0, f0] (a6 (bf h0) (ai (bf h1) trivial)) (by kernel_rfl) rfl rfl
theorem K_lockgateref04_SSub : Keeps Tryz.prog 136 (F2 cSs cSs cSs (fun _ _ => []) lockgateref04_SSub) := by
  refine keeps2 _ _ _ (enters_of Tryz.func136 (by kernel_rfl)) fun a b hp_ => ?_
  unfold lockgateref04_SSub
  have O_ := (orc_cons K_lockgateref04_under (orc_cons K_lockgateref04_SAll on_))
  refine gite (fun h0 => ?_) (fun h0 => ?_)
  · exact gv mix O_ 400 [t0, t0, t0, t0, t0, t0] (a6 h0 trivial) (by kernel_rfl) rfl rfl
  · refine gite (fun h1 => ?_) (fun h1 => ?_)
    · exact gv mix O_ 400 [f0, f0, f0, f0, f0, f0, t0] (a6 (bf h0) (ai h1 trivial)) (by kernel_rfl) rfl rfl
    · exact gv mix O_ 400 [f0, f0, f0, f0, f0, f0, f0] (a6 (bf h0) (ai (bf h1) trivial)) (by kernel_rfl) rfl rfl
theorem K_lockgateref04_UDiv : Keeps Tryz.prog 139 (F2 cUs cUs cUs (fun _ _ => []) lockgateref04_UDiv) := by
  refine keeps2 _ _ _ (enters_of Tryz.func139 (by kernel_rfl)) fun a b hp_ => ?_
  unfold lockgateref04_UDiv
  have O_ := (orc_cons K_lockgateref04_alone on_)
  refine gite (fun h0 => ?_) (fun h0 => ?_)
  · refine gite (fun h1 => ?_) (fun h1 => ?_)
    · exact gv mix O_ 400 [f0, f0, f0, f0, t0] (a4 (cn h0) (ai (be h1) trivial)) (by kernel_rfl) rfl rfl
    · exact gv mix O_ 400 [f0, f0, f0, f0, f0, f0, f0] (a4 (cn h0) (ai (bn h1) (a2 (df h1) trivial))) (by kernel_rfl) rfl rfl
  · exact gv mix O_ 400 [t0, t0, t0, t0] (a4 (cn (bf h0)) trivial) (by kernel_rfl) rfl rfl
theorem K_lockgateref04_UMod : Keeps Tryz.prog 140 (F2 cUs cUs cUs (fun _ _ => []) lockgateref04_UMod) := by
  refine keeps2 _ _ _ (enters_of Tryz.func140 (by kernel_rfl)) fun a b hp_ => ?_
  unfold lockgateref04_UMod
  have O_ := (orc_cons K_lockgateref04_alone (orc_cons K_lockgateref04_UOf on_))
  refine gite (fun h0 => ?_) (fun h0 => ?_)
  · refine gite (fun h1 => ?_) (fun h1 => ?_)
    · exact gv mix O_ 400 [f0, f0, f0, f0, t0] (a4 (cn h0) (ai (be h1) trivial)) (by kernel_rfl) rfl rfl
    · refine gite (fun h2 => ?_) (fun h2 => ?_)
      · exact gv mix O_ 400 [f0, f0, f0, f0, f0, t0] (a4 (cn h0) (ai (bn h1) (ai (dt h2) trivial))) (by kernel_rfl) rfl rfl
      · refine gite (fun h3 => ?_) (fun h3 => ?_)
        · exact gv mix O_ 400 [f0, f0, f0, f0, f0, f0, t0, f0] (a4 (cn h0) (ai (bn h1) (ai (df h2) (ai h3 (ai (df h1) trivial))))) (by kernel_rfl) rfl rfl
        · exact gv mix O_ 400 [f0, f0, f0, f0, f0, f0, f0] (a4 (cn h0) (ai (bn h1) (ai (df h2) (ai (bf h3) trivial)))) (by kernel_rfl) rfl rfl
  · exact gv mix O_ 400 [t0, t0, t0, t0] (a4 (cn (bf h0)) trivial) (by kernel_rfl) rfl rfl
theorem K_lockgateref04_UOr : Keeps Tryz.prog 142 (F2 cUs cUs cUs (fun a b => [(decide (a.hi < 18446744073709551616), true), (decide (b.hi < 18446744073709551616), true)]) lockgateref04_UOr) := by
  refine keeps2 _ _ _ (enters_of Tryz.func142 (by kernel_rfl)) fun a b hp_ => ?_
  have p0 := of_decide_eq_true hp_.1
  have p1 := of_decide_eq_true hp_.2.1
  unfold lockgateref04_UOr
  have O_ := (orc_cons K_lockgateref04_alone (orc_cons K_lockgateref04_UOf (orc_cons K_lockgateref04_full on_)))
  refine gite (fun h0 => ?_) (fun h0 => ?_)
  · refine gite (fun h1 => ?_) (fun h1 => ?_)
    · exact gv mix O_ 400 [t0, t0, t0, t0] (a3 h0 (ai h1 trivial)) (by kernel_rfl) rfl rfl
    · refine gite (fun h2 => ?_) (fun h2 => ?_)
      · refine gite (fun h3 => ?_) (fun h3 => ?_)
        · exact gv mix O_ 400 [t0, t0, t0, f0, t0, t0] (a3 h0 (ai (bf h1) (ai ((by first | with_reducible exact dt p0 | with_reducible exact dt p1 | assumption | exact w32_le h0 | exact w64_le h0 | exact w64_le h1 | exact w32_le h1 | exact ne32 h0 | exact ne64 h0 | exact ne64 h1 | exact ne32 h1 | decide | (simp_all; done)) : decide (a.hi < 18446744073709551616) = true) (ai (dt h2) (ai ((by first | with_reducible exact dt p0 | with_reducible exact dt p1 | assumption | exact w32_le h0 | exact w64_le h0 | exact w64_le h1 | exact w32_le h1 | exact ne32 h0 | exact ne64 h0 | exact ne64 h1 | exact ne32 h1 | decide | (simp_all; done)) : decide (b.hi < 18446744073709551616) = true) (ai (dt h3) (ai ((by first | with_reducible exact dt p0 | with_reducible exact dt p1 | assumption | exact w32_le h0 | exact w64_le h0 | exact w64_le h1 | exact w32_le h1 | exact ne32 h0 | exact ne64 h0 | exact ne64 h1 | exact ne32 h1 | decide | (simp_all; done)) : decide (b.hi < 18446744073709551616) = true) trivial))))))) (by kernel_rfl) rfl rfl
        · exact gv mix O_ 400 [t0, t0, t0, f0, t0, f0] (a3 h0 (ai (bf h1) (ai ((by first | with_reducible exact dt p0 | with_reducible exact dt p1 | assumption | exact w32_le h0 | exact w64_le h0 | exact w64_le h1 | exact w32_le h1 | exact ne32 h0 | exact ne64 h0 | exact ne64 h1 | exact ne32 h1 | decide | (simp_all; done)) : decide (a.hi < 18446744073709551616) = true) (ai (dt h2) (ai ((by first | with_reducible exact dt p0 | with_reducible exact dt p1 | assumption | exact w32_le h0 | exact w64_le h0 | exact w64_le h1 | exact w32_le h1 | exact ne32 h0 | exact ne64 h0 | exact ne64 h1 | exact ne32 h1 | decide | (simp_all; done)) : decide (b.hi < 18446744073709551616) = true) (ai (df h3) trivial)))))) (by kernel_rfl) rfl rfl
      · refine gite (fun h3 => ?_) (fun h3 => ?_)
        · exact gv mix O_ 400 [t0, t0, t0, f0, f0, t0] (a3 h0 (ai (bf h1) (ai ((by first | with_reducible exact dt p0 | with_reducible exact dt p1 | assumption | exact w32_le h0 | exact w64_le h0 | exact w64_le h1 | exact w32_le h1 | exact ne32 h0 | exact ne64 h0 | exact ne64 h1 | exact ne32 h1 | decide | (simp_all; done)) : decide (a.hi < 18446744073709551616) = true) (ai (df h2) (ai ((by first | with_reducible exact dt p0 | with_reducible exact dt p1 | assumption | exact w32_le h0 | exact w64_le h0 | exact w64_le h1 | exact w32_le h1 | exact ne32 h0 | exact ne64 h0 | exact ne64 h1 | exact ne32 h1 | decide | (simp_all; done)) : decide (b.hi < 18446744073709551616) = true) (ai (dt h3) (ai ((by first | with_reducible exact dt p0 | with_reducible exact dt p1 | assumption | exact w32_le h0 | exact w64_le h0 | exact w64_le h1 | exact w32_le h1 | exact ne32 h0 | exact ne64 h0 | exact ne64 h1 | exact ne32 h1 | decide | (simp_all; done)) : decide (b.hi < 18446744073709551616) = true) trivial))))))) (by kernel_rfl) rfl rfl
        · exact gv mix O_ 400 [t0, t0, t0, f0, f0, f0] (a3 h0 (ai (bf h1) (ai ((by first | with_reducible exact dt p0 | with_reducible exact dt p1 | assumption | exact w32_le h0 | exact w64_le h0 | exact w64_le h1 | exact w32_le h1 | exact ne32 h0 | exact ne64 h0 | exact ne64 h1 | exact ne32 h1 | decide | (simp_all; done)) : decide (a.hi < 18446744073709551616) = true) (ai (df h2) (ai ((by first | with_reducible exact dt p0 | with_reducible exact dt p1 | assumption | exact w32_le h0 | exact w64_le h0 | exact w64_le h1 | exact w32_le h1 | exact ne32 h0 | exact ne64 h0 | exact ne64 h1 | exact ne32 h1 | decide | (simp_all; done)) : decide (b.hi < 18446744073709551616) = true) (ai (df h3) trivial)))))) (by kernel_rfl) rfl rfl
  · refine gite (fun h1 => ?_) (fun h1 => ?_)
    · refine gite (fun h2 => ?_) (fun h2 => ?_)
      · exact gv mix O_ 400 [f0, f0, f0, (1, true), t0] (a3 (bf h0) (ai ((by first | with_reducible exact dt p0 | with_reducible exact dt p1 | assumption | exact w32_le h0 | exact w64_le h0 | exact w64_le h1 | exact w32_le h1 | exact ne32 h0 | exact ne64 h0 | exact ne64 h1 | exact ne32 h1 | decide | (simp_all; done)) : decide (a.hi < 18446744073709551616) = true) (ai (dt h1) (ai ((by first | with_reducible exact dt p0 | with_reducible exact dt p1 | assumption | exact w32_le h0 | exact w64_le h0 | exact w64_le h1 | exact w32_le h1 | exact ne32 h0 | exact ne64 h0 | exact ne64 h1 | exact ne32 h1 | decide | (simp_all; done)) : decide (b.hi < 18446744073709551616) = true) (ai (dt h2) (ai ((by first | with_reducible exact dt p0 | with_reducible exact dt p1 | assumption | exact w32_le h0 | exact w64_le h0 | exact w64_le h1 | exact w32_le h1 | exact ne32 h0 | exact ne64 h0 | exact ne64 h1 | exact ne32 h1 | decide | (simp_all; done)) : decide (b.hi < 18446744073709551616) = true) trivial)))))) (by kernel_rfl) rfl rfl
      · exact gv mix O_ 400 [f0, f0, f0, (1, true), f0] (a3 (bf h0) (ai ((by first | with_reducible exact dt p0 | with_reducible exact dt p1 | assumption | exact w32_le h0 | exact w64_le h0 | exact w64_le h1 | exact w32_le h1 | exact ne32 h0 | exact ne64 h0 | exact ne64 h1 | exact ne32 h1 | decide | (simp_all; done)) : decide (a.hi < 18446744073709551616) = true) (ai (dt h1) (ai ((by first | with_reducible exact dt p0 | with_reducible exact dt p1 | assumption | exact w32_le h0 | exact w64_le h0 | exact w64_le h1 | exact w32_le h1 | exact ne32 h0 | exact ne64 h0 | exact ne64 h1 | exact ne32 h1 | decide | (simp_all; done)) : decide (b.hi < 18446744073709551616) = true) (ai (df h2) trivial))))) (by kernel_rfl) rfl rfl
    · refine gite (fun h2 => ?_) (fun h2 => ?_)
      · exact gv mix O_ 400 [f0, f0, f0, (1, false), t0] (a3 (bf h0) (ai ((by first | with_reducible exact dt p0 | with_reducible exact dt p1 | assumption | exact w32_le h0 | exact w64_le h0 | exact w64_le h1 | exact w32_le h1 | exact ne32 h0 | exact ne64 h0 | exact ne64 h1 | exact ne32 h1 | decide | (simp_all; done)) : decide (a.hi < 18446744073709551616) = true) (ai (df h1) (ai ((by first | with_reducible exact dt p0 | with_reducible exact dt p1 | assumption | exact w32_le h0 | exact w64_le h0 | exact w64_le h1 | exact w32_le h1 | exact ne32 h0 | exact ne64 h0 | exact ne64 h1 | exact ne32 h1 | decide | (simp_all; done)) : decide (b.hi < 18446744073709551616) = true) (ai (dt h2) (ai ((by first | with_reducible exact dt p0 | with_reducible exact dt p1 | assumption | exact w32_le h0 | exact w64_le h0 | exact w64_le h1 | exact w32_le h1 | exact ne32 h0 | exact ne64 h0 | exact ne64 h1 | exact ne32 h1 | decide | (simp_all; done)) : decide (b.hi < 18446744073709551616) = true) trivial)))))) (by kernel_rfl) rfl rfl
      · exact gv mix O_ 400 [f0, f0, f0, (1, false), f0] (a3 (bf h0) (ai ((by first | with_reducible exact dt p0 | with_reducible exact dt p1 | assumption | exact w32_le h0 | exact w64_le h0 | exact w64_le h1 | exact w32_le h1 | exact ne32 h0 | exact ne64 h0 | exact ne64 h1 | exact ne32 h1 | decide | (simp_all; done)) : decide (a.hi < 18446744073709551616) = true) (ai (df h1) (ai ((by first | with_reducible exact dt p0 | with_reducible exact dt p1 | assumption | exact w32_le h0 | exact w64_le h0 | exact w64_le h1 | exact w32_le h1 | exact ne32 h0 | exact ne64 h0 | exact ne64 h1 | exact ne32 h1 | decide | (simp_all; done)) : decide (b.hi < 18446744073709551616) = true) (ai (df h2) trivial))))) (by kernel_rfl) rfl rfl
theorem K_lockgateref04_UAnd : Keeps Tryz.prog 144 (F2 cUs cUs cUs (fun _ _ => []) lockgateref04_UAnd) := by
  refine keeps2 _ _ _ (enters_of Tryz.func144 (by kernel_rfl)) fun a b hp_ => ?_
  unfold lockgateref04_UAnd
  have O_ := (orc_cons K_lockgateref04_alone (orc_cons K_lockgateref04_UOf on_))
  refine gite (fun h0 => ?_) (fun h0 => ?_)
  · refine gite (fun h1 => ?_) (fun h1 => ?_)
    · exact gv mix O_ 400 [t0, t0, t0, t0] (a3 h0 (ai h1 trivial)) (by kernel_rfl) rfl rfl
    · refine gite (fun h2 => ?_) (fun h2 => ?_)
      · exact gv mix O_ 400 [t0, t0, t0, f0, t0] (a3 h0 (ai (bf h1) (ai (dt h2) trivial))) (by kernel_rfl) rfl rfl
      · exact gv mix O_ 400 [t0, t0, t0, f0, f0] (a3 h0 (ai (bf h1) (ai (df h2) trivial))) (by kernel_rfl) rfl rfl
  · refine gite (fun h1 => ?_) (fun h1 => ?_)
    · exact gv mix O_ 400 [f0, f0, f0, (1, true)] (a3 (bf h0) (ai (dt h1) trivial)) (by kernel_rfl) rfl rfl
    · exact gv mix O_ 400 [f0, f0, f0, (1, false)] (a3 (bf h0) (ai (df h1) trivial)) (by kernel_rfl) rfl rfl
theorem K_scalar_clear : Keeps Tryz.prog 149 (F2 cSc (cI .u64) (cP cSc cB) (fun _ _ => []) scalar_clear) := by
  refine keeps2 _ _ _ (enters_of Tryz.func149 (by kernel_rfl)) fun a b hp_ => ?_
  unfold scalar_clear
  have O_ := (orc_cons K_tnum_Meet on_)
  exact gv mix O_ 400 [] trivial (by kernel_rfl) rfl rfl
theorem K_scalar_meet : Keeps Tryz.prog 151 (F2 cSc cSc (cP cSc cB) (fun _ _ => []) scalar_meet) := by
  refine keeps2 _ _ _ (enters_of Tryz.func151 (by kernel_rfl)) fun a b hp_ => ?_
  unfold scalar_meet
  have O_ := (orc_cons K_tnum_Meet (orc_cons K_span_UMeet (orc_cons K_span_SMeet on_)))
  exact gv mix O_ 400 [] trivial (by kernel_rfl) rfl rfl
theorem K_scalar_less : Keeps Tryz.prog 152 (F4 cSc cSc cB cB (cP3 cSc cSc cB) (fun _ _ _ _ => []) scalar_less) := by
  refine keeps4 _ _ _ _ _ (enters_of Tryz.func152 (by kernel_rfl)) fun a b c d hp_ => ?_
  unfold scalar_less
  have O_ := (orc_cons K_scalar_below_int64 (orc_cons K_scalar_below_uint64 on_))
  refine gite (fun h0 => ?_) (fun h0 => ?_)
  · exact gv mix O_ 400 [t0] (ai h0 trivial) (by kernel_rfl) rfl rfl
  · exact gv mix O_ 400 [f0] (ai (bf h0) trivial) (by kernel_rfl) rfl rfl
theorem K_lockgateref05_meet : Keeps Tryz.prog 155 (F2 cSc cSc (cP cSc cB) (fun _ _ => []) lockgateref05_meet) := by
  refine keeps2 _ _ _ (enters_of Tryz.func155 (by kernel_rfl)) fun a b hp_ => ?_
  unfold lockgateref05_meet
  have O_ := (orc_cons K_lockgateref03_Meet (orc_cons K_lockgateref04_UMeet (orc_cons K_lockgateref04_SMeet on_)))
  refine gite (fun h0 => ?_) (fun h0 => ?_)
  · refine gite (fun h1 => ?_) (fun h1 => ?_)
    · exact gv mix O_ 400 [t0, t0, t0, t0] (a2 h0 (a2 h1 trivial)) (by kernel_rfl) rfl rfl
    · exact gv mix O_ 400 [t0, t0, f0, f0] (a2 h0 (a2 (bf h1) trivial)) (by kernel_rfl) rfl rfl
  · exact gv mix O_ 400 [f0, f0] (a2 (bf h0) trivial) (by kernel_rfl) rfl rfl
theorem K_scalar_Norm : Keeps Tryz.prog 15 (F1 cSc (cP cSc cB) (fun _ => []) scalar_Norm) := by
  refine keeps1 _ _ (enters_of Tryz.func15 (by kernel_rfl)) fun a hp_ => ?_
  unfold scalar_Norm
  have O_ := (orc_cons K_span_FromT (orc_cons K_span_ToU (orc_cons K_span_UMeet (orc_cons K_span_ToS (orc_cons K_span_SMeet (orc_cons K_span_ToT (orc_cons K_tnum_Meet on_)))))))
  refine gite (fun h0 => ?_) (fun h0 => ?_)
  · refine gite (fun h1 => ?_) (fun h1 => ?_)
    · refine gite (fun h2 => ?_) (fun h2 => ?_)
      · refine gite (fun h3 => ?_) (fun h3 => ?_)
        · refine gite (fun h4 => ?_) (fun h4 => ?_)
          · refine gite (fun h5 => ?_) (fun h5 => ?_)
            · refine gite (fun h6 => ?_) (fun h6 => ?_)
              · refine gite (fun h7 => ?_) (fun h7 => ?_)
                · refine gite (fun h8 => ?_) (fun h8 => ?_)
                  · refine gite (fun h9 => ?_) (fun h9 => ?_)
                    · exact gv mix O_ 400 [(3, false), (2, false), (2, false), (2, false), (2, false), (4, false), (2, false), (2, false), (2, false), (2, false)] (ai (cn h0) (ai (cn h1) (ai (cn h2) (ai (cn h3) (ai (cn h4) (ai (cn h5) (ai (cn h6) (ai (cn h7) (ai (cn h8) (ai (cn h9) trivial)))))))))) (by kernel_rfl) rfl rfl
                    · exact gv mix O_ 400 [(3, false), (2, false), (2, false), (2, false), (2, false), (4, false), (2, false), (2, false), (2, false), (2, true)] (ai (cn h0) (ai (cn h1) (ai (cn h2) (ai (cn h3) (ai (cn h4) (ai (cn h5) (ai (cn h6) (ai (cn h7) (ai (cn h8) (ai (cn (bf h9)) trivial)))))))))) (by kernel_rfl) rfl rfl
                  · exact gv mix O_ 400 [(3, false), (2, false), (2, false), (2, false), (2, false), (4, false), (2, false), (2, false), (2, true)] (ai (cn h0) (ai (cn h1) (ai (cn h2) (ai (cn h3) (ai (cn h4) (ai (cn h5) (ai (cn h6) (ai (cn h7) (ai (cn (bf h8)) trivial))))))))) (by kernel_rfl) rfl rfl
                · exact gv mix O_ 400 [(3, false), (2, false), (2, false), (2, false), (2, false), (4, false), (2, false), (2, true)] (ai (cn h0) (ai (cn h1) (ai (cn h2) (ai (cn h3) (ai (cn h4) (ai (cn h5) (ai (cn h6) (ai (cn (bf h7)) trivial)))))))) (by kernel_rfl) rfl rfl
              · exact gv mix O_ 400 [(3, false), (2, false), (2, false), (2, false), (2, false), (4, false), (2, true)] (ai (cn h0) (ai (cn h1) (ai (cn h2) (ai (cn h3) (ai (cn h4) (ai (cn h5) (ai (cn (bf h6)) trivial))))))) (by kernel_rfl) rfl rfl
            · exact gv mix O_ 400 [(3, false), (2, false), (2, false), (2, false), (2, false), (4, true)] (ai (cn h0) (ai (cn h1) (ai (cn h2) (ai (cn h3) (ai (cn h4) (ai (cn (bf h5)) trivial)))))) (by kernel_rfl) rfl rfl
          · exact gv mix O_ 400 [(3, false), (2, false), (2, false), (2, false), (2, true)] (ai (cn h0) (ai (cn h1) (ai (cn h2) (ai (cn h3) (ai (cn (bf h4)) trivial))))) (by kernel_rfl) rfl rfl
        · exact gv mix O_ 400 [(3, false), (2, false), (2, false), (2, true)] (ai (cn h0) (ai (cn h1) (ai (cn h2) (ai (cn (bf h3)) trivial)))) (by kernel_rfl) rfl rfl
      · exact gv mix O_ 400 [(3, false), (2, false), (2, true)] (ai (cn h0) (ai (cn h1) (ai (cn (bf h2)) trivial))) (by kernel_rfl) rfl rfl
    · exact gv mix O_ 400 [(3, false), (2, true)] (ai (cn h0) (ai (cn (bf h1)) trivial)) (by kernel_rfl) rfl rfl
  · exact gv mix O_ 400 [(3, true)] (ai (cn (bf h0)) trivial) (by kernel_rfl) rfl rfl
theorem K_lockgateref05_Norm : Keeps Tryz.prog 16 (F1 cSc (cP cSc cB) (fun _ => []) lockgateref05_Norm) := by
  refine keeps1 _ _ (enters_of Tryz.func16 (by kernel_rfl)) fun a hp_ => ?_
  unfold lockgateref05_Norm
  have O_ := (orc_cons K_lockgateref05_once on_)
  refine gite (fun h0 => ?_) (fun h0 => ?_)
  · exact gv mix O_ 400 [f0] (ai (cn h0) trivial) (by kernel_rfl) rfl rfl
  · exact gv mix O_ 400 [t0] (ai (cn (bf h0)) trivial) (by kernel_rfl) rfl rfl
theorem K_scalar_In : Keeps Tryz.prog 23 (F2 cSc (cI .u64) cB (fun _ _ => []) scalar_In) := by
  refine keeps2 _ _ _ (enters_of Tryz.func23 (by kernel_rfl)) fun a b hp_ => ?_
  unfold scalar_In
  have O_ := (orc_cons K_tnum_In (orc_cons K_span_UIn (orc_cons K_span_SIn on_)))
  refine gite (fun h0 => ?_) (fun h0 => ?_)
  · refine gite (fun h1 => ?_) (fun h1 => ?_)
    · exact gv mix O_ 400 [t0, t0, t0, t0, t0, t0, t0, t0, t0, t0] (a5 h0 (a5 h1 trivial)) (by kernel_rfl) rfl rfl
    · exact gv mix O_ 400 [t0, t0, t0, t0, t0, f0, f0, f0, f0, f0] (a5 h0 (a5 (bf h1) trivial)) (by kernel_rfl) rfl rfl
  · exact gv mix O_ 400 [f0, f0, f0, f0, f0] (a5 (bf h0) trivial) (by kernel_rfl) rfl rfl
theorem K_scalar_Join : Keeps Tryz.prog 27 (F2 cSc cSc cSc (fun _ _ => []) scalar_Join) := by
  refine keeps2 _ _ _ (enters_of Tryz.func27 (by kernel_rfl)) fun a b hp_ => ?_
  unfold scalar_Join
  have O_ := (orc_cons K_tnum_Join (orc_cons K_span_UJoin (orc_cons K_span_SJoin on_)))
  exact gv mix O_ 400 [] trivial (by kernel_rfl) rfl rfl
theorem K_scalar_settle : Keeps Tryz.prog 32 (F2 cSc cB cSc (fun _ _ => []) scalar_settle) := by
  refine keeps2 _ _ _ (enters_of Tryz.func32 (by kernel_rfl)) fun a b hp_ => ?_
  unfold scalar_settle
  have O_ := (orc_cons K_scalar_Norm (orc_cons K_scalar_Upto (orc_cons K_tnum_Cut (orc_cons K_span_UCut (orc_cons K_span_SAll on_)))))
  refine gite (fun h0 => ?_) (fun h0 => ?_)
  · refine gite (fun h1 => ?_) (fun h1 => ?_)
    · exact gv mix O_ 400 [f0, t0] (ai (cn h0) (ai h1 trivial)) (by kernel_rfl) rfl rfl
    · exact gv mix O_ 400 [f0, f0] (ai (cn h0) (ai (bf h1) trivial)) (by kernel_rfl) rfl rfl
  · refine gite (fun h1 => ?_) (fun h1 => ?_)
    · exact gv mix O_ 400 [t0, t0] (ai (cn (bf h0)) (ai h1 trivial)) (by kernel_rfl) rfl rfl
    · exact gv mix O_ 400 [t0, f0] (ai (cn (bf h0)) (ai (bf h1) trivial)) (by kernel_rfl) rfl rfl
theorem K_lockgateref05_Half : Keeps Tryz.prog 36 (F1 cSc cSc (fun _ => []) lockgateref05_Half) := by
  refine keeps1 _ _ (enters_of Tryz.func36 (by kernel_rfl)) fun a hp_ => ?_
  unfold lockgateref05_Half
  have O_ := (orc_cons K_lockgateref03_Cut (orc_cons K_lockgateref04_UCut (orc_cons K_lockgateref04_SAll (orc_cons K_lockgateref05_Norm (orc_cons K_lockgateref05_Upto on_)))))
  refine gite (fun h0 => ?_) (fun h0 => ?_)
  · exact gv mix O_ 400 [f0] (ai (cn h0) trivial) (by kernel_rfl) rfl rfl
  · exact gv mix O_ 400 [t0] (ai (cn (bf h0)) trivial) (by kernel_rfl) rfl rfl
theorem K_lockgateref05_settle : Keeps Tryz.prog 37 (F2 cSc cB cSc (fun _ _ => []) lockgateref05_settle) := by
  refine keeps2 _ _ _ (enters_of Tryz.func37 (by kernel_rfl)) fun a b hp_ => ?_
  unfold lockgateref05_settle
  have O_ := (orc_cons K_lockgateref05_Norm (orc_cons K_lockgateref05_Any (orc_cons K_lockgateref05_Half on_)))
  refine gite (fun h0 => ?_) (fun h0 => ?_)
  · refine gite (fun h1 => ?_) (fun h1 => ?_)
    · exact gv mix O_ 400 [f0, f0] (ai (cn h0) (ai (cn h1) trivial)) (by kernel_rfl) rfl rfl
    · exact gv mix O_ 400 [f0, t0] (ai (cn h0) (ai (cn (bf h1)) trivial)) (by kernel_rfl) rfl rfl
  · exact gv mix O_ 400 [t0] (ai (cn (bf h0)) trivial) (by kernel_rfl) rfl rfl
theorem K_lockgateref05_shift : Keeps Tryz.prog 38 (F4 (cI .i64) cB cSc (cI .i64) cSc (fun _ _ _ _ => []) lockgateref05_shift) := by
  refine keeps4 _ _ _ _ _ (enters_of Tryz.func38 (by kernel_rfl)) fun a b c d hp_ => ?_
  unfold lockgateref05_shift
  have O_ := (orc_cons K_lockgateref05_Any (orc_cons K_lockgateref03_Lsh (orc_cons K_lockgateref04_ULsh (orc_cons K_lockgateref03_Rsh (orc_cons K_lockgateref04_URsh (orc_cons K_lockgateref03_Arsh (orc_cons K_lockgateref04_SArsh on_)))))))
  refine gite (fun h0 => ?_) (fun h0 => ?_)
  · exact gv mix O_ 400 [t0] (ai (be h0) trivial) (by kernel_rfl) rfl rfl
  · refine gite (fun h1 => ?_) (fun h1 => ?_)
    · exact gv mix O_ 400 [f0, t0] (ai (bn h0) (ai (be h1) trivial)) (by kernel_rfl) rfl rfl
    · refine gite (fun h2 => ?_) (fun h2 => ?_)
      · exact gv mix O_ 400 [f0, f0, t0] (ai (bn h0) (ai (bn h1) (ai h2 trivial))) (by kernel_rfl) rfl rfl
      · refine gite (fun h3 => ?_) (fun h3 => ?_)
        · exact gv mix O_ 400 [f0, f0, f0, t0] (ai (bn h0) (ai (bn h1) (ai (bf h2) (ai (dt h3) trivial)))) (by kernel_rfl) rfl rfl
        · exact gv mix O_ 400 [f0, f0, f0, f0] (ai (bn h0) (ai (bn h1) (ai (bf h2) (ai (df h3) trivial)))) (by kernel_rfl) rfl rfl
theorem K_lockgateref05_parts : Keeps Tryz.prog 39 (F3 (cI .i64) cSc cSc cSc (fun _ b c => [(decide (b.u.hi < 18446744073709551616), true), (decide (c.u.hi < 18446744073709551616), true)]) lockgateref05_parts) := by
  refine keeps3 _ _ _ _ (enters_of Tryz.func39 (by kernel_rfl)) fun a b c hp_ => ?_
  have p0 := of_decide_eq_true hp_.1
  have p1 := of_decide_eq_true hp_.2.1
  unfold lockgateref05_parts
  have O_ := (orc_cons K_lockgateref05_Any (orc_cons K_lockgateref03_Add (orc_cons K_lockgateref04_UAdd (orc_cons K_lockgateref04_SAdd (orc_cons K_lockgateref03_Sub (orc_cons K_lockgateref04_USub (orc_cons K_lockgateref04_SSub (orc_cons K_lockgateref03_Mul (orc_cons K_lockgateref04_UMul (orc_cons K_lockgateref04_UDiv (orc_cons K_lockgateref04_UMod (orc_cons K_lockgateref03_Or (orc_cons K_lockgateref04_UOr (orc_cons K_lockgateref03_And (orc_cons K_lockgateref04_UAnd (orc_cons K_lockgateref03_Xor on_))))))))))))))))
  refine gite (fun h0 => ?_) (fun h0 => ?_)
  · exact gv mix O_ 400 [t0] (ai (be h0) trivial) (by kernel_rfl) rfl rfl
  · refine gite (fun h1 => ?_) (fun h1 => ?_)
    · exact gv mix O_ 400 [f0, t0] (ai (bn h0) (ai (be h1) trivial)) (by kernel_rfl) rfl rfl
    · refine gite (fun h2 => ?_) (fun h2 => ?_)
      · exact gv mix O_ 400 [f0, f0, t0] (ai (bn h0) (ai (bn h1) (ai (be h2) trivial))) (by kernel_rfl) rfl rfl
      · refine gite (fun h3 => ?_) (fun h3 => ?_)
        · exact gv mix O_ 400 [f0, f0, f0, t0] (ai (bn h0) (ai (bn h1) (ai (bn h2) (ai (be h3) trivial)))) (by kernel_rfl) rfl rfl
        · refine gite (fun h4 => ?_) (fun h4 => ?_)
          · exact gv mix O_ 400 [f0, f0, f0, f0, t0] (ai (bn h0) (ai (bn h1) (ai (bn h2) (ai (bn h3) (ai (be h4) trivial))))) (by kernel_rfl) rfl rfl
          · refine gite (fun h5 => ?_) (fun h5 => ?_)
            · exact gv mix O_ 400 [f0, f0, f0, f0, f0, t0] (ai (bn h0) (ai (bn h1) (ai (bn h2) (ai (bn h3) (ai (bn h4) (ai (be h5) (ai ((by first | with_reducible exact dt p0 | with_reducible exact dt p1 | assumption | exact w32_le h0 | exact w64_le h0 | exact w64_le h1 | exact w32_le h1 | exact ne32 h0 | exact ne64 h0 | exact ne64 h1 | exact ne32 h1 | decide | (simp_all; done)) : decide (b.u.hi < 18446744073709551616) = true) (ai ((by first | with_reducible exact dt p0 | with_reducible exact dt p1 | assumption | exact w32_le h0 | exact w64_le h0 | exact w64_le h1 | exact w32_le h1 | exact ne32 h0 | exact ne64 h0 | exact ne64 h1 | exact ne32 h1 | decide | (simp_all; done)) : decide (c.u.hi < 18446744073709551616) = true) trivial)))))))) (by kernel_rfl) rfl rfl
            · refine gite (fun h6 => ?_) (fun h6 => ?_)
              · exact gv mix O_ 400 [f0, f0, f0, f0, f0, f0, t0] (ai (bn h0) (ai (bn h1) (ai (bn h2) (ai (bn h3) (ai (bn h4) (ai (bn h5) (ai (be h6) trivial))))))) (by kernel_rfl) rfl rfl
              · refine gite (fun h7 => ?_) (fun h7 => ?_)
                · exact gv mix O_ 400 [f0, f0, f0, f0, f0, f0, f0, t0] (ai (bn h0) (ai (bn h1) (ai (bn h2) (ai (bn h3) (ai (bn h4) (ai (bn h5) (ai (bn h6) (ai (be h7) trivial)))))))) (by kernel_rfl) rfl rfl
                · exact gv mix O_ 400 [f0, f0, f0, f0, f0, f0, f0, f0] (ai (bn h0) (ai (bn h1) (ai (bn h2) (ai (bn h3) (ai (bn h4) (ai (bn h5) (ai (bn h6) (ai (bn h7) trivial)))))))) (by kernel_rfl) rfl rfl
end Go.Proofs.T
