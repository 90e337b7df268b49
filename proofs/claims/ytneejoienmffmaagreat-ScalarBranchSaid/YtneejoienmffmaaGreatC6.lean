/-
  The functions of the program keep their contracts: what they make is what the functions of plain data say.
-/
import Derived.Test.YtneejoienmffmaaGreatD
import Derived.Test.YtneejoienmffmaaGreatMT2
import Derived.Test.YtneejoienmffmaaGreatC5
import Derived.KernelRfl
set_option linter.unusedVariables false
set_option maxRecDepth 100000
namespace Go.Proofs.T
open Go Go.Proofs Go.Proofs.SX
theorem K_scalar_Branch : Keeps Tryz.prog 11 (F5 (cI .i64) cB cB cSc cSc (cP3 cSc cSc cB) (fun _ _ _ _ _ => []) scalar_Branch) := by
  refine keeps5 _ _ _ _ _ _ (enters_of Tryz.func11 (by kernel_rfl)) fun a b c d e hp_ => ?_
  unfold scalar_Branch
  have O_ := (orc_cons K_scalar_Is (orc_cons K_word_Jump (orc_cons K_scalar_Upto (orc_cons K_scalar_Within (orc_cons K_scalar_learn (orc_cons K_scalar_Norm on_))))))
  refine gite (fun h0 => ?_) (fun h0 => ?_)
  · refine gite (fun h1 => ?_) (fun h1 => ?_)
    · refine gite (fun h2 => ?_) (fun h2 => ?_)
      · refine gite (fun h3 => ?_) (fun h3 => ?_)
        · exact gv mix O_ 400 [f0, t0, t0, t0, t0, t0, t0, t0] (ai (cn h0) (a2 h1 (a4 h2 (ai h3 trivial)))) (by kernel_rfl) rfl rfl
        · exact gv mix O_ 400 [f0, t0, t0, t0, t0, t0, t0, f0, t0, t0, t0] (ai (cn h0) (a2 h1 (a4 h2 (ai (bf h3) (a2 h1 (ai h2 trivial)))))) (by kernel_rfl) rfl rfl
      · refine gite (fun h3 => ?_) (fun h3 => ?_)
        · refine gite (fun h4 => ?_) (fun h4 => ?_)
          · refine gite (fun h5 => ?_) (fun h5 => ?_)
            · refine gite (fun h6 => ?_) (fun h6 => ?_)
              · refine gite (fun h7 => ?_) (fun h7 => ?_)
                · refine gite (fun h8 => ?_) (fun h8 => ?_)
                  · refine gite (fun h9 => ?_) (fun h9 => ?_)
                    · exact gv mix O_ 400 [f0, t0, t0, f0, f0, f0, f0, (1, true), t0, f0, t0, t0, t0, (6, true), t0, t0, t0, t0, t0, t0, (8, true), (1, true), f0, f0, f0, (1, true), t0, t0] (ai (cn h0) (a2 h1 (a4 (bf h2) (a2 h1 (ai (bf h2) (a3 (be h3) (a4 h4 (a5 h5 (a3 (cn h6) (ai h7 (ai h8 (ai h9 trivial)))))))))))) (by kernel_rfl) rfl rfl
                    · exact gv mix O_ 400 [f0, t0, t0, f0, f0, f0, f0, (1, true), t0, f0, t0, t0, t0, (6, true), t0, t0, t0, t0, t0, t0, (8, true), (1, true), f0, f0, f0, (1, true), t0, f0] (ai (cn h0) (a2 h1 (a4 (bf h2) (a2 h1 (ai (bf h2) (a3 (be h3) (a4 h4 (a5 h5 (a3 (cn h6) (ai h7 (ai h8 (ai (bf h9) trivial)))))))))))) (by kernel_rfl) rfl rfl
                  · exact gv mix O_ 400 [f0, t0, t0, f0, f0, f0, f0, (1, true), t0, f0, t0, t0, t0, (6, true), t0, t0, t0, t0, t0, t0, (8, true), (1, true), f0, f0, f0, (1, true), f0] (ai (cn h0) (a2 h1 (a4 (bf h2) (a2 h1 (ai (bf h2) (a3 (be h3) (a4 h4 (a5 h5 (a3 (cn h6) (ai h7 (ai (bf h8) trivial))))))))))) (by kernel_rfl) rfl rfl
                · exact gv mix O_ 400 [f0, t0, t0, f0, f0, f0, f0, (1, true), t0, f0, t0, t0, t0, (6, true), t0, t0, t0, t0, t0, t0, (8, true), (1, true), f0, f0, f0, (1, false)] (ai (cn h0) (a2 h1 (a4 (bf h2) (a2 h1 (ai (bf h2) (a3 (be h3) (a4 h4 (a5 h5 (a3 (cn h6) (ai (bf h7) trivial)))))))))) (by kernel_rfl) rfl rfl
              · refine gite (fun h7 => ?_) (fun h7 => ?_)
                · refine gite (fun h8 => ?_) (fun h8 => ?_)
                  · refine gite (fun h9 => ?_) (fun h9 => ?_)
                    · refine gite (fun h10 => ?_) (fun h10 => ?_)
                      · exact gv mix O_ 400 [f0, t0, t0, f0, f0, f0, f0, (1, true), t0, f0, t0, t0, t0, (6, true), t0, t0, t0, t0, t0, t0, (8, true), (1, true), t0, t0, t0, f0, t0, t0, t0] (ai (cn h0) (a2 h1 (a4 (bf h2) (a2 h1 (ai (bf h2) (a3 (be h3) (a4 h4 (a5 h5 (a3 (cn (bf h6)) (ai (cn (dt h7)) (ai h8 (ai h9 (ai h10 trivial))))))))))))) (by kernel_rfl) rfl rfl
                      · exact gv mix O_ 400 [f0, t0, t0, f0, f0, f0, f0, (1, true), t0, f0, t0, t0, t0, (6, true), t0, t0, t0, t0, t0, t0, (8, true), (1, true), t0, t0, t0, f0, t0, t0, f0] (ai (cn h0) (a2 h1 (a4 (bf h2) (a2 h1 (ai (bf h2) (a3 (be h3) (a4 h4 (a5 h5 (a3 (cn (bf h6)) (ai (cn (dt h7)) (ai h8 (ai h9 (ai (bf h10) trivial))))))))))))) (by kernel_rfl) rfl rfl
                    · exact gv mix O_ 400 [f0, t0, t0, f0, f0, f0, f0, (1, true), t0, f0, t0, t0, t0, (6, true), t0, t0, t0, t0, t0, t0, (8, true), (1, true), t0, t0, t0, f0, t0, f0] (ai (cn h0) (a2 h1 (a4 (bf h2) (a2 h1 (ai (bf h2) (a3 (be h3) (a4 h4 (a5 h5 (a3 (cn (bf h6)) (ai (cn (dt h7)) (ai h8 (ai (bf h9) trivial)))))))))))) (by kernel_rfl) rfl rfl
                  · exact gv mix O_ 400 [f0, t0, t0, f0, f0, f0, f0, (1, true), t0, f0, t0, t0, t0, (6, true), t0, t0, t0, t0, t0, t0, (8, true), (1, true), t0, t0, t0, f0, f0] (ai (cn h0) (a2 h1 (a4 (bf h2) (a2 h1 (ai (bf h2) (a3 (be h3) (a4 h4 (a5 h5 (a3 (cn (bf h6)) (ai (cn (dt h7)) (ai (bf h8) trivial))))))))))) (by kernel_rfl) rfl rfl
                · exact gv mix O_ 400 [f0, t0, t0, f0, f0, f0, f0, (1, true), t0, f0, t0, t0, t0, (6, true), t0, t0, t0, t0, t0, t0, (8, true), (1, true), t0, t0, t0, t0] (ai (cn h0) (a2 h1 (a4 (bf h2) (a2 h1 (ai (bf h2) (a3 (be h3) (a4 h4 (a5 h5 (a3 (cn (bf h6)) (ai (cn (df h7)) trivial)))))))))) (by kernel_rfl) rfl rfl
            · refine gite (fun h6 => ?_) (fun h6 => ?_)
              · refine gite (fun h7 => ?_) (fun h7 => ?_)
                · refine gite (fun h8 => ?_) (fun h8 => ?_)
                  · refine gite (fun h9 => ?_) (fun h9 => ?_)
                    · exact gv mix O_ 400 [f0, t0, t0, f0, f0, f0, f0, (1, true), t0, f0, t0, t0, t0, (6, true), t0, t0, t0, f0, f0, f0, f0, f0, f0, f0, f0, (1, true), t0, t0] (ai (cn h0) (a2 h1 (a4 (bf h2) (a2 h1 (ai (bf h2) (a3 (be h3) (a4 h4 (a5 (bf h5) (a3 (cn h6) (ai h7 (ai h8 (ai h9 trivial)))))))))))) (by kernel_rfl) rfl rfl
                    · exact gv mix O_ 400 [f0, t0, t0, f0, f0, f0, f0, (1, true), t0, f0, t0, t0, t0, (6, true), t0, t0, t0, f0, f0, f0, f0, f0, f0, f0, f0, (1, true), t0, f0] (ai (cn h0) (a2 h1 (a4 (bf h2) (a2 h1 (ai (bf h2) (a3 (be h3) (a4 h4 (a5 (bf h5) (a3 (cn h6) (ai h7 (ai h8 (ai (bf h9) trivial)))))))))))) (by kernel_rfl) rfl rfl
                  · exact gv mix O_ 400 [f0, t0, t0, f0, f0, f0, f0, (1, true), t0, f0, t0, t0, t0, (6, true), t0, t0, t0, f0, f0, f0, f0, f0, f0, f0, f0, (1, true), f0] (ai (cn h0) (a2 h1 (a4 (bf h2) (a2 h1 (ai (bf h2) (a3 (be h3) (a4 h4 (a5 (bf h5) (a3 (cn h6) (ai h7 (ai (bf h8) trivial))))))))))) (by kernel_rfl) rfl rfl
                · exact gv mix O_ 400 [f0, t0, t0, f0, f0, f0, f0, (1, true), t0, f0, t0, t0, t0, (6, true), t0, t0, t0, f0, f0, f0, f0, f0, f0, f0, f0, (1, false)] (ai (cn h0) (a2 h1 (a4 (bf h2) (a2 h1 (ai (bf h2) (a3 (be h3) (a4 h4 (a5 (bf h5) (a3 (cn h6) (ai (bf h7) trivial)))))))))) (by kernel_rfl) rfl rfl
              · exact gv mix O_ 400 [f0, t0, t0, f0, f0, f0, f0, (1, true), t0, f0, t0, t0, t0, (6, true), t0, t0, t0, f0, f0, f0, f0, f0, t0, t0, t0] (ai (cn h0) (a2 h1 (a4 (bf h2) (a2 h1 (ai (bf h2) (a3 (be h3) (a4 h4 (a5 (bf h5) (a3 (cn (bf h6)) trivial))))))))) (by kernel_rfl) rfl rfl
          · refine gite (fun h5 => ?_) (fun h5 => ?_)
            · refine gite (fun h6 => ?_) (fun h6 => ?_)
              · refine gite (fun h7 => ?_) (fun h7 => ?_)
                · refine gite (fun h8 => ?_) (fun h8 => ?_)
                  · exact gv mix O_ 400 [f0, t0, t0, f0, f0, f0, f0, (1, true), t0, f0, t0, t0, t0, (6, false), f0, f0, f0, (5, false), f0, f0, (1, true), t0, t0] (ai (cn h0) (a2 h1 (a4 (bf h2) (a2 h1 (ai (bf h2) (a3 (be h3) (a4 (bf h4) (a3 (cn h5) (ai h6 (ai h7 (ai h8 trivial))))))))))) (by kernel_rfl) rfl rfl
                  · exact gv mix O_ 400 [f0, t0, t0, f0, f0, f0, f0, (1, true), t0, f0, t0, t0, t0, (6, false), f0, f0, f0, (5, false), f0, f0, (1, true), t0, f0] (ai (cn h0) (a2 h1 (a4 (bf h2) (a2 h1 (ai (bf h2) (a3 (be h3) (a4 (bf h4) (a3 (cn h5) (ai h6 (ai h7 (ai (bf h8) trivial))))))))))) (by kernel_rfl) rfl rfl
                · exact gv mix O_ 400 [f0, t0, t0, f0, f0, f0, f0, (1, true), t0, f0, t0, t0, t0, (6, false), f0, f0, f0, (5, false), f0, f0, (1, true), f0] (ai (cn h0) (a2 h1 (a4 (bf h2) (a2 h1 (ai (bf h2) (a3 (be h3) (a4 (bf h4) (a3 (cn h5) (ai h6 (ai (bf h7) trivial)))))))))) (by kernel_rfl) rfl rfl
              · exact gv mix O_ 400 [f0, t0, t0, f0, f0, f0, f0, (1, true), t0, f0, t0, t0, t0, (6, false), f0, f0, f0, (5, false), f0, f0, (1, false)] (ai (cn h0) (a2 h1 (a4 (bf h2) (a2 h1 (ai (bf h2) (a3 (be h3) (a4 (bf h4) (a3 (cn h5) (ai (bf h6) trivial))))))))) (by kernel_rfl) rfl rfl
            · exact gv mix O_ 400 [f0, t0, t0, f0, f0, f0, f0, (1, true), t0, f0, t0, t0, t0, (6, false), f0, f0, f0, (5, true), t0, t0] (ai (cn h0) (a2 h1 (a4 (bf h2) (a2 h1 (ai (bf h2) (a3 (be h3) (a4 (bf h4) (a3 (cn (bf h5)) trivial)))))))) (by kernel_rfl) rfl rfl
        · refine gite (fun h4 => ?_) (fun h4 => ?_)
          · refine gite (fun h5 => ?_) (fun h5 => ?_)
            · refine gite (fun h6 => ?_) (fun h6 => ?_)
              · refine gite (fun h7 => ?_) (fun h7 => ?_)
                · refine gite (fun h8 => ?_) (fun h8 => ?_)
                  · refine gite (fun h9 => ?_) (fun h9 => ?_)
                    · refine gite (fun h10 => ?_) (fun h10 => ?_)
                      · exact gv mix O_ 400 [f0, t0, t0, f0, f0, f0, f0, (1, true), t0, f0, f0, f0, f0, t0, t0, t0, (3, true), t0, t0, t0, t0, t0, t0, (8, true), (1, true), f0, f0, f0, (1, true), t0, t0] (ai (cn h0) (a2 h1 (a4 (bf h2) (a2 h1 (ai (bf h2) (a3 (bn h3) (a3 (be h4) (a4 h5 (a5 h6 (a3 (cn h7) (ai h8 (ai h9 (ai h10 trivial))))))))))))) (by kernel_rfl) rfl rfl
                      · exact gv mix O_ 400 [f0, t0, t0, f0, f0, f0, f0, (1, true), t0, f0, f0, f0, f0, t0, t0, t0, (3, true), t0, t0, t0, t0, t0, t0, (8, true), (1, true), f0, f0, f0, (1, true), t0, f0] (ai (cn h0) (a2 h1 (a4 (bf h2) (a2 h1 (ai (bf h2) (a3 (bn h3) (a3 (be h4) (a4 h5 (a5 h6 (a3 (cn h7) (ai h8 (ai h9 (ai (bf h10) trivial))))))))))))) (by kernel_rfl) rfl rfl
                    · exact gv mix O_ 400 [f0, t0, t0, f0, f0, f0, f0, (1, true), t0, f0, f0, f0, f0, t0, t0, t0, (3, true), t0, t0, t0, t0, t0, t0, (8, true), (1, true), f0, f0, f0, (1, true), f0] (ai (cn h0) (a2 h1 (a4 (bf h2) (a2 h1 (ai (bf h2) (a3 (bn h3) (a3 (be h4) (a4 h5 (a5 h6 (a3 (cn h7) (ai h8 (ai (bf h9) trivial)))))))))))) (by kernel_rfl) rfl rfl
                  · exact gv mix O_ 400 [f0, t0, t0, f0, f0, f0, f0, (1, true), t0, f0, f0, f0, f0, t0, t0, t0, (3, true), t0, t0, t0, t0, t0, t0, (8, true), (1, true), f0, f0, f0, (1, false)] (ai (cn h0) (a2 h1 (a4 (bf h2) (a2 h1 (ai (bf h2) (a3 (bn h3) (a3 (be h4) (a4 h5 (a5 h6 (a3 (cn h7) (ai (bf h8) trivial))))))))))) (by kernel_rfl) rfl rfl
                · refine gite (fun h8 => ?_) (fun h8 => ?_)
                  · refine gite (fun h9 => ?_) (fun h9 => ?_)
                    · refine gite (fun h10 => ?_) (fun h10 => ?_)
                      · refine gite (fun h11 => ?_) (fun h11 => ?_)
                        · exact gv mix O_ 400 [f0, t0, t0, f0, f0, f0, f0, (1, true), t0, f0, f0, f0, f0, t0, t0, t0, (3, true), t0, t0, t0, t0, t0, t0, (8, true), (1, true), t0, t0, t0, f0, t0, t0, t0] (ai (cn h0) (a2 h1 (a4 (bf h2) (a2 h1 (ai (bf h2) (a3 (bn h3) (a3 (be h4) (a4 h5 (a5 h6 (a3 (cn (bf h7)) (ai (cn (dt h8)) (ai h9 (ai h10 (ai h11 trivial)))))))))))))) (by kernel_rfl) rfl rfl
                        · exact gv mix O_ 400 [f0, t0, t0, f0, f0, f0, f0, (1, true), t0, f0, f0, f0, f0, t0, t0, t0, (3, true), t0, t0, t0, t0, t0, t0, (8, true), (1, true), t0, t0, t0, f0, t0, t0, f0] (ai (cn h0) (a2 h1 (a4 (bf h2) (a2 h1 (ai (bf h2) (a3 (bn h3) (a3 (be h4) (a4 h5 (a5 h6 (a3 (cn (bf h7)) (ai (cn (dt h8)) (ai h9 (ai h10 (ai (bf h11) trivial)))))))))))))) (by kernel_rfl) rfl rfl
                      · exact gv mix O_ 400 [f0, t0, t0, f0, f0, f0, f0, (1, true), t0, f0, f0, f0, f0, t0, t0, t0, (3, true), t0, t0, t0, t0, t0, t0, (8, true), (1, true), t0, t0, t0, f0, t0, f0] (ai (cn h0) (a2 h1 (a4 (bf h2) (a2 h1 (ai (bf h2) (a3 (bn h3) (a3 (be h4) (a4 h5 (a5 h6 (a3 (cn (bf h7)) (ai (cn (dt h8)) (ai h9 (ai (bf h10) trivial))))))))))))) (by kernel_rfl) rfl rfl
                    · exact gv mix O_ 400 [f0, t0, t0, f0, f0, f0, f0, (1, true), t0, f0, f0, f0, f0, t0, t0, t0, (3, true), t0, t0, t0, t0, t0, t0, (8, true), (1, true), t0, t0, t0, f0, f0] (ai (cn h0) (a2 h1 (a4 (bf h2) (a2 h1 (ai (bf h2) (a3 (bn h3) (a3 (be h4) (a4 h5 (a5 h6 (a3 (cn (bf h7)) (ai (cn (dt h8)) (ai (bf h9) trivial)))))))))))) (by kernel_rfl) rfl rfl
                  · exact gv mix O_ 400 [f0, t0, t0, f0, f0, f0, f0, (1, true), t0, f0, f0, f0, f0, t0, t0, t0, (3, true), t0, t0, t0, t0, t0, t0, (8, true), (1, true), t0, t0, t0, t0] (ai (cn h0) (a2 h1 (a4 (bf h2) (a2 h1 (ai (bf h2) (a3 (bn h3) (a3 (be h4) (a4 h5 (a5 h6 (a3 (cn (bf h7)) (ai (cn (df h8)) trivial))))))))))) (by kernel_rfl) rfl rfl
              · refine gite (fun h7 => ?_) (fun h7 => ?_)
                · refine gite (fun h8 => ?_) (fun h8 => ?_)
                  · refine gite (fun h9 => ?_) (fun h9 => ?_)
                    · refine gite (fun h10 => ?_) (fun h10 => ?_)
                      · exact gv mix O_ 400 [f0, t0, t0, f0, f0, f0, f0, (1, true), t0, f0, f0, f0, f0, t0, t0, t0, (3, true), t0, t0, t0, f0, f0, f0, f0, f0, f0, f0, f0, (1, true), t0, t0] (ai (cn h0) (a2 h1 (a4 (bf h2) (a2 h1 (ai (bf h2) (a3 (bn h3) (a3 (be h4) (a4 h5 (a5 (bf h6) (a3 (cn h7) (ai h8 (ai h9 (ai h10 trivial))))))))))))) (by kernel_rfl) rfl rfl
                      · exact gv mix O_ 400 [f0, t0, t0, f0, f0, f0, f0, (1, true), t0, f0, f0, f0, f0, t0, t0, t0, (3, true), t0, t0, t0, f0, f0, f0, f0, f0, f0, f0, f0, (1, true), t0, f0] (ai (cn h0) (a2 h1 (a4 (bf h2) (a2 h1 (ai (bf h2) (a3 (bn h3) (a3 (be h4) (a4 h5 (a5 (bf h6) (a3 (cn h7) (ai h8 (ai h9 (ai (bf h10) trivial))))))))))))) (by kernel_rfl) rfl rfl
                    · exact gv mix O_ 400 [f0, t0, t0, f0, f0, f0, f0, (1, true), t0, f0, f0, f0, f0, t0, t0, t0, (3, true), t0, t0, t0, f0, f0, f0, f0, f0, f0, f0, f0, (1, true), f0] (ai (cn h0) (a2 h1 (a4 (bf h2) (a2 h1 (ai (bf h2) (a3 (bn h3) (a3 (be h4) (a4 h5 (a5 (bf h6) (a3 (cn h7) (ai h8 (ai (bf h9) trivial)))))))))))) (by kernel_rfl) rfl rfl
                  · exact gv mix O_ 400 [f0, t0, t0, f0, f0, f0, f0, (1, true), t0, f0, f0, f0, f0, t0, t0, t0, (3, true), t0, t0, t0, f0, f0, f0, f0, f0, f0, f0, f0, (1, false)] (ai (cn h0) (a2 h1 (a4 (bf h2) (a2 h1 (ai (bf h2) (a3 (bn h3) (a3 (be h4) (a4 h5 (a5 (bf h6) (a3 (cn h7) (ai (bf h8) trivial))))))))))) (by kernel_rfl) rfl rfl
                · exact gv mix O_ 400 [f0, t0, t0, f0, f0, f0, f0, (1, true), t0, f0, f0, f0, f0, t0, t0, t0, (3, true), t0, t0, t0, f0, f0, f0, f0, f0, t0, t0, t0] (ai (cn h0) (a2 h1 (a4 (bf h2) (a2 h1 (ai (bf h2) (a3 (bn h3) (a3 (be h4) (a4 h5 (a5 (bf h6) (a3 (cn (bf h7)) trivial)))))))))) (by kernel_rfl) rfl rfl
            · refine gite (fun h6 => ?_) (fun h6 => ?_)
              · refine gite (fun h7 => ?_) (fun h7 => ?_)
                · refine gite (fun h8 => ?_) (fun h8 => ?_)
                  · refine gite (fun h9 => ?_) (fun h9 => ?_)
                    · exact gv mix O_ 400 [f0, t0, t0, f0, f0, f0, f0, (1, true), t0, f0, f0, f0, f0, t0, t0, t0, (3, false), f0, f0, f0, (5, false), f0, f0, (1, true), t0, t0] (ai (cn h0) (a2 h1 (a4 (bf h2) (a2 h1 (ai (bf h2) (a3 (bn h3) (a3 (be h4) (a4 (bf h5) (a3 (cn h6) (ai h7 (ai h8 (ai h9 trivial)))))))))))) (by kernel_rfl) rfl rfl
                    · exact gv mix O_ 400 [f0, t0, t0, f0, f0, f0, f0, (1, true), t0, f0, f0, f0, f0, t0, t0, t0, (3, false), f0, f0, f0, (5, false), f0, f0, (1, true), t0, f0] (ai (cn h0) (a2 h1 (a4 (bf h2) (a2 h1 (ai (bf h2) (a3 (bn h3) (a3 (be h4) (a4 (bf h5) (a3 (cn h6) (ai h7 (ai h8 (ai (bf h9) trivial)))))))))))) (by kernel_rfl) rfl rfl
                  · exact gv mix O_ 400 [f0, t0, t0, f0, f0, f0, f0, (1, true), t0, f0, f0, f0, f0, t0, t0, t0, (3, false), f0, f0, f0, (5, false), f0, f0, (1, true), f0] (ai (cn h0) (a2 h1 (a4 (bf h2) (a2 h1 (ai (bf h2) (a3 (bn h3) (a3 (be h4) (a4 (bf h5) (a3 (cn h6) (ai h7 (ai (bf h8) trivial))))))))))) (by kernel_rfl) rfl rfl
                · exact gv mix O_ 400 [f0, t0, t0, f0, f0, f0, f0, (1, true), t0, f0, f0, f0, f0, t0, t0, t0, (3, false), f0, f0, f0, (5, false), f0, f0, (1, false)] (ai (cn h0) (a2 h1 (a4 (bf h2) (a2 h1 (ai (bf h2) (a3 (bn h3) (a3 (be h4) (a4 (bf h5) (a3 (cn h6) (ai (bf h7) trivial)))))))))) (by kernel_rfl) rfl rfl
              · exact gv mix O_ 400 [f0, t0, t0, f0, f0, f0, f0, (1, true), t0, f0, f0, f0, f0, t0, t0, t0, (3, false), f0, f0, f0, (5, true), t0, t0] (ai (cn h0) (a2 h1 (a4 (bf h2) (a2 h1 (ai (bf h2) (a3 (bn h3) (a3 (be h4) (a4 (bf h5) (a3 (cn (bf h6)) trivial))))))))) (by kernel_rfl) rfl rfl
          · refine gite (fun h5 => ?_) (fun h5 => ?_)
            · refine gite (fun h6 => ?_) (fun h6 => ?_)
              · refine gite (fun h7 => ?_) (fun h7 => ?_)
                · refine gite (fun h8 => ?_) (fun h8 => ?_)
                  · refine gite (fun h9 => ?_) (fun h9 => ?_)
                    · refine gite (fun h10 => ?_) (fun h10 => ?_)
                      · refine gite (fun h11 => ?_) (fun h11 => ?_)
                        · exact gv mix O_ 400 [f0, t0, t0, f0, f0, f0, f0, (1, true), t0, f0, f0, f0, f0, f0, f0, f0, t0, t0, t0, t0, t0, t0, t0, t0, t0, t0, (8, true), (1, true), f0, f0, f0, (1, true), t0, t0] (ai (cn h0) (a2 h1 (a4 (bf h2) (a2 h1 (ai (bf h2) (a3 (bn h3) (a3 (bn h4) (a3 (be h5) (a4 h6 (a5 h7 (a3 (cn h8) (ai h9 (ai h10 (ai h11 trivial)))))))))))))) (by kernel_rfl) rfl rfl
                        · exact gv mix O_ 400 [f0, t0, t0, f0, f0, f0, f0, (1, true), t0, f0, f0, f0, f0, f0, f0, f0, t0, t0, t0, t0, t0, t0, t0, t0, t0, t0, (8, true), (1, true), f0, f0, f0, (1, true), t0, f0] (ai (cn h0) (a2 h1 (a4 (bf h2) (a2 h1 (ai (bf h2) (a3 (bn h3) (a3 (bn h4) (a3 (be h5) (a4 h6 (a5 h7 (a3 (cn h8) (ai h9 (ai h10 (ai (bf h11) trivial)))))))))))))) (by kernel_rfl) rfl rfl
                      · exact gv mix O_ 400 [f0, t0, t0, f0, f0, f0, f0, (1, true), t0, f0, f0, f0, f0, f0, f0, f0, t0, t0, t0, t0, t0, t0, t0, t0, t0, t0, (8, true), (1, true), f0, f0, f0, (1, true), f0] (ai (cn h0) (a2 h1 (a4 (bf h2) (a2 h1 (ai (bf h2) (a3 (bn h3) (a3 (bn h4) (a3 (be h5) (a4 h6 (a5 h7 (a3 (cn h8) (ai h9 (ai (bf h10) trivial))))))))))))) (by kernel_rfl) rfl rfl
                    · exact gv mix O_ 400 [f0, t0, t0, f0, f0, f0, f0, (1, true), t0, f0, f0, f0, f0, f0, f0, f0, t0, t0, t0, t0, t0, t0, t0, t0, t0, t0, (8, true), (1, true), f0, f0, f0, (1, false)] (ai (cn h0) (a2 h1 (a4 (bf h2) (a2 h1 (ai (bf h2) (a3 (bn h3) (a3 (bn h4) (a3 (be h5) (a4 h6 (a5 h7 (a3 (cn h8) (ai (bf h9) trivial)))))))))))) (by kernel_rfl) rfl rfl
                  · refine gite (fun h9 => ?_) (fun h9 => ?_)
                    · refine gite (fun h10 => ?_) (fun h10 => ?_)
                      · refine gite (fun h11 => ?_) (fun h11 => ?_)
                        · refine gite (fun h12 => ?_) (fun h12 => ?_)
                          · exact gv mix O_ 400 [f0, t0, t0, f0, f0, f0, f0, (1, true), t0, f0, f0, f0, f0, f0, f0, f0, t0, t0, t0, t0, t0, t0, t0, t0, t0, t0, (8, true), (1, true), t0, t0, t0, f0, t0, t0, t0] (ai (cn h0) (a2 h1 (a4 (bf h2) (a2 h1 (ai (bf h2) (a3 (bn h3) (a3 (bn h4) (a3 (be h5) (a4 h6 (a5 h7 (a3 (cn (bf h8)) (ai (cn (dt h9)) (ai h10 (ai h11 (ai h12 trivial))))))))))))))) (by kernel_rfl) rfl rfl
                          · exact gv mix O_ 400 [f0, t0, t0, f0, f0, f0, f0, (1, true), t0, f0, f0, f0, f0, f0, f0, f0, t0, t0, t0, t0, t0, t0, t0, t0, t0, t0, (8, true), (1, true), t0, t0, t0, f0, t0, t0, f0] (ai (cn h0) (a2 h1 (a4 (bf h2) (a2 h1 (ai (bf h2) (a3 (bn h3) (a3 (bn h4) (a3 (be h5) (a4 h6 (a5 h7 (a3 (cn (bf h8)) (ai (cn (dt h9)) (ai h10 (ai h11 (ai (bf h12) trivial))))))))))))))) (by kernel_rfl) rfl rfl
                        · exact gv mix O_ 400 [f0, t0, t0, f0, f0, f0, f0, (1, true), t0, f0, f0, f0, f0, f0, f0, f0, t0, t0, t0, t0, t0, t0, t0, t0, t0, t0, (8, true), (1, true), t0, t0, t0, f0, t0, f0] (ai (cn h0) (a2 h1 (a4 (bf h2) (a2 h1 (ai (bf h2) (a3 (bn h3) (a3 (bn h4) (a3 (be h5) (a4 h6 (a5 h7 (a3 (cn (bf h8)) (ai (cn (dt h9)) (ai h10 (ai (bf h11) trivial)))))))))))))) (by kernel_rfl) rfl rfl
                      · exact gv mix O_ 400 [f0, t0, t0, f0, f0, f0, f0, (1, true), t0, f0, f0, f0, f0, f0, f0, f0, t0, t0, t0, t0, t0, t0, t0, t0, t0, t0, (8, true), (1, true), t0, t0, t0, f0, f0] (ai (cn h0) (a2 h1 (a4 (bf h2) (a2 h1 (ai (bf h2) (a3 (bn h3) (a3 (bn h4) (a3 (be h5) (a4 h6 (a5 h7 (a3 (cn (bf h8)) (ai (cn (dt h9)) (ai (bf h10) trivial))))))))))))) (by kernel_rfl) rfl rfl
                    · exact gv mix O_ 400 [f0, t0, t0, f0, f0, f0, f0, (1, true), t0, f0, f0, f0, f0, f0, f0, f0, t0, t0, t0, t0, t0, t0, t0, t0, t0, t0, (8, true), (1, true), t0, t0, t0, t0] (ai (cn h0) (a2 h1 (a4 (bf h2) (a2 h1 (ai (bf h2) (a3 (bn h3) (a3 (bn h4) (a3 (be h5) (a4 h6 (a5 h7 (a3 (cn (bf h8)) (ai (cn (df h9)) trivial)))))))))))) (by kernel_rfl) rfl rfl
                · refine gite (fun h8 => ?_) (fun h8 => ?_)
                  · refine gite (fun h9 => ?_) (fun h9 => ?_)
                    · refine gite (fun h10 => ?_) (fun h10 => ?_)
                      · refine gite (fun h11 => ?_) (fun h11 => ?_)
                        · exact gv mix O_ 400 [f0, t0, t0, f0, f0, f0, f0, (1, true), t0, f0, f0, f0, f0, f0, f0, f0, t0, t0, t0, t0, t0, t0, t0, f0, f0, f0, f0, f0, f0, f0, f0, (1, true), t0, t0] (ai (cn h0) (a2 h1 (a4 (bf h2) (a2 h1 (ai (bf h2) (a3 (bn h3) (a3 (bn h4) (a3 (be h5) (a4 h6 (a5 (bf h7) (a3 (cn h8) (ai h9 (ai h10 (ai h11 trivial)))))))))))))) (by kernel_rfl) rfl rfl
                        · exact gv mix O_ 400 [f0, t0, t0, f0, f0, f0, f0, (1, true), t0, f0, f0, f0, f0, f0, f0, f0, t0, t0, t0, t0, t0, t0, t0, f0, f0, f0, f0, f0, f0, f0, f0, (1, true), t0, f0] (ai (cn h0) (a2 h1 (a4 (bf h2) (a2 h1 (ai (bf h2) (a3 (bn h3) (a3 (bn h4) (a3 (be h5) (a4 h6 (a5 (bf h7) (a3 (cn h8) (ai h9 (ai h10 (ai (bf h11) trivial)))))))))))))) (by kernel_rfl) rfl rfl
                      · exact gv mix O_ 400 [f0, t0, t0, f0, f0, f0, f0, (1, true), t0, f0, f0, f0, f0, f0, f0, f0, t0, t0, t0, t0, t0, t0, t0, f0, f0, f0, f0, f0, f0, f0, f0, (1, true), f0] (ai (cn h0) (a2 h1 (a4 (bf h2) (a2 h1 (ai (bf h2) (a3 (bn h3) (a3 (bn h4) (a3 (be h5) (a4 h6 (a5 (bf h7) (a3 (cn h8) (ai h9 (ai (bf h10) trivial))))))))))))) (by kernel_rfl) rfl rfl
                    · exact gv mix O_ 400 [f0, t0, t0, f0, f0, f0, f0, (1, true), t0, f0, f0, f0, f0, f0, f0, f0, t0, t0, t0, t0, t0, t0, t0, f0, f0, f0, f0, f0, f0, f0, f0, (1, false)] (ai (cn h0) (a2 h1 (a4 (bf h2) (a2 h1 (ai (bf h2) (a3 (bn h3) (a3 (bn h4) (a3 (be h5) (a4 h6 (a5 (bf h7) (a3 (cn h8) (ai (bf h9) trivial)))))))))))) (by kernel_rfl) rfl rfl
                  · exact gv mix O_ 400 [f0, t0, t0, f0, f0, f0, f0, (1, true), t0, f0, f0, f0, f0, f0, f0, f0, t0, t0, t0, t0, t0, t0, t0, f0, f0, f0, f0, f0, t0, t0, t0] (ai (cn h0) (a2 h1 (a4 (bf h2) (a2 h1 (ai (bf h2) (a3 (bn h3) (a3 (bn h4) (a3 (be h5) (a4 h6 (a5 (bf h7) (a3 (cn (bf h8)) trivial))))))))))) (by kernel_rfl) rfl rfl
              · refine gite (fun h7 => ?_) (fun h7 => ?_)
                · refine gite (fun h8 => ?_) (fun h8 => ?_)
                  · refine gite (fun h9 => ?_) (fun h9 => ?_)
                    · refine gite (fun h10 => ?_) (fun h10 => ?_)
                      · exact gv mix O_ 400 [f0, t0, t0, f0, f0, f0, f0, (1, true), t0, f0, f0, f0, f0, f0, f0, f0, t0, t0, t0, f0, f0, f0, f0, (5, false), f0, f0, (1, true), t0, t0] (ai (cn h0) (a2 h1 (a4 (bf h2) (a2 h1 (ai (bf h2) (a3 (bn h3) (a3 (bn h4) (a3 (be h5) (a4 (bf h6) (a3 (cn h7) (ai h8 (ai h9 (ai h10 trivial))))))))))))) (by kernel_rfl) rfl rfl
                      · exact gv mix O_ 400 [f0, t0, t0, f0, f0, f0, f0, (1, true), t0, f0, f0, f0, f0, f0, f0, f0, t0, t0, t0, f0, f0, f0, f0, (5, false), f0, f0, (1, true), t0, f0] (ai (cn h0) (a2 h1 (a4 (bf h2) (a2 h1 (ai (bf h2) (a3 (bn h3) (a3 (bn h4) (a3 (be h5) (a4 (bf h6) (a3 (cn h7) (ai h8 (ai h9 (ai (bf h10) trivial))))))))))))) (by kernel_rfl) rfl rfl
                    · exact gv mix O_ 400 [f0, t0, t0, f0, f0, f0, f0, (1, true), t0, f0, f0, f0, f0, f0, f0, f0, t0, t0, t0, f0, f0, f0, f0, (5, false), f0, f0, (1, true), f0] (ai (cn h0) (a2 h1 (a4 (bf h2) (a2 h1 (ai (bf h2) (a3 (bn h3) (a3 (bn h4) (a3 (be h5) (a4 (bf h6) (a3 (cn h7) (ai h8 (ai (bf h9) trivial)))))))))))) (by kernel_rfl) rfl rfl
                  · exact gv mix O_ 400 [f0, t0, t0, f0, f0, f0, f0, (1, true), t0, f0, f0, f0, f0, f0, f0, f0, t0, t0, t0, f0, f0, f0, f0, (5, false), f0, f0, (1, false)] (ai (cn h0) (a2 h1 (a4 (bf h2) (a2 h1 (ai (bf h2) (a3 (bn h3) (a3 (bn h4) (a3 (be h5) (a4 (bf h6) (a3 (cn h7) (ai (bf h8) trivial))))))))))) (by kernel_rfl) rfl rfl
                · exact gv mix O_ 400 [f0, t0, t0, f0, f0, f0, f0, (1, true), t0, f0, f0, f0, f0, f0, f0, f0, t0, t0, t0, f0, f0, f0, f0, (5, true), t0, t0] (ai (cn h0) (a2 h1 (a4 (bf h2) (a2 h1 (ai (bf h2) (a3 (bn h3) (a3 (bn h4) (a3 (be h5) (a4 (bf h6) (a3 (cn (bf h7)) trivial)))))))))) (by kernel_rfl) rfl rfl
            · refine gite (fun h6 => ?_) (fun h6 => ?_)
              · refine gite (fun h7 => ?_) (fun h7 => ?_)
                · refine gite (fun h8 => ?_) (fun h8 => ?_)
                  · refine gite (fun h9 => ?_) (fun h9 => ?_)
                    · refine gite (fun h10 => ?_) (fun h10 => ?_)
                      · refine gite (fun h11 => ?_) (fun h11 => ?_)
                        · refine gite (fun h12 => ?_) (fun h12 => ?_)
                          · exact gv mix O_ 400 [f0, t0, t0, f0, f0, f0, f0, (1, true), t0, f0, f0, f0, f0, f0, f0, f0, f0, f0, f0, t0, t0, t0, t0, t0, t0, t0, f0, f0, f0, f0, f0, f0, f0, f0, t0, f0, t0, f0, f0, f0, (1, true), t0, t0] (ai (cn h0) (a2 h1 (a4 (bf h2) (a2 h1 (ai (bf h2) (a3 (bn h3) (a3 (bn h4) (a3 (bn h5) (a4 h6 (a3 h7 (a8 (cn (be h8)) (ai h7 (ai (cn (be h8)) (ai h7 (a3 (cn h9) (ai h10 (ai h11 (ai h12 trivial)))))))))))))))))) (by kernel_rfl) rfl rfl
                          · exact gv mix O_ 400 [f0, t0, t0, f0, f0, f0, f0, (1, true), t0, f0, f0, f0, f0, f0, f0, f0, f0, f0, f0, t0, t0, t0, t0, t0, t0, t0, f0, f0, f0, f0, f0, f0, f0, f0, t0, f0, t0, f0, f0, f0, (1, true), t0, f0] (ai (cn h0) (a2 h1 (a4 (bf h2) (a2 h1 (ai (bf h2) (a3 (bn h3) (a3 (bn h4) (a3 (bn h5) (a4 h6 (a3 h7 (a8 (cn (be h8)) (ai h7 (ai (cn (be h8)) (ai h7 (a3 (cn h9) (ai h10 (ai h11 (ai (bf h12) trivial)))))))))))))))))) (by kernel_rfl) rfl rfl
                        · exact gv mix O_ 400 [f0, t0, t0, f0, f0, f0, f0, (1, true), t0, f0, f0, f0, f0, f0, f0, f0, f0, f0, f0, t0, t0, t0, t0, t0, t0, t0, f0, f0, f0, f0, f0, f0, f0, f0, t0, f0, t0, f0, f0, f0, (1, true), f0] (ai (cn h0) (a2 h1 (a4 (bf h2) (a2 h1 (ai (bf h2) (a3 (bn h3) (a3 (bn h4) (a3 (bn h5) (a4 h6 (a3 h7 (a8 (cn (be h8)) (ai h7 (ai (cn (be h8)) (ai h7 (a3 (cn h9) (ai h10 (ai (bf h11) trivial))))))))))))))))) (by kernel_rfl) rfl rfl
                      · exact gv mix O_ 400 [f0, t0, t0, f0, f0, f0, f0, (1, true), t0, f0, f0, f0, f0, f0, f0, f0, f0, f0, f0, t0, t0, t0, t0, t0, t0, t0, f0, f0, f0, f0, f0, f0, f0, f0, t0, f0, t0, f0, f0, f0, (1, false)] (ai (cn h0) (a2 h1 (a4 (bf h2) (a2 h1 (ai (bf h2) (a3 (bn h3) (a3 (bn h4) (a3 (bn h5) (a4 h6 (a3 h7 (a8 (cn (be h8)) (ai h7 (ai (cn (be h8)) (ai h7 (a3 (cn h9) (ai (bf h10) trivial)))))))))))))))) (by kernel_rfl) rfl rfl
                    · refine gite (fun h10 => ?_) (fun h10 => ?_)
                      · refine gite (fun h11 => ?_) (fun h11 => ?_)
                        · refine gite (fun h12 => ?_) (fun h12 => ?_)
                          · refine gite (fun h13 => ?_) (fun h13 => ?_)
                            · exact gv mix O_ 400 [f0, t0, t0, f0, f0, f0, f0, (1, true), t0, f0, f0, f0, f0, f0, f0, f0, f0, f0, f0, t0, t0, t0, t0, t0, t0, t0, f0, f0, f0, f0, f0, f0, f0, f0, t0, f0, t0, t0, t0, t0, f0, t0, t0, t0] (ai (cn h0) (a2 h1 (a4 (bf h2) (a2 h1 (ai (bf h2) (a3 (bn h3) (a3 (bn h4) (a3 (bn h5) (a4 h6 (a3 h7 (a8 (cn (be h8)) (ai h7 (ai (cn (be h8)) (ai h7 (a3 (cn (bf h9)) (ai (cn (dt h10)) (ai h11 (ai h12 (ai h13 trivial))))))))))))))))))) (by kernel_rfl) rfl rfl
                            · exact gv mix O_ 400 [f0, t0, t0, f0, f0, f0, f0, (1, true), t0, f0, f0, f0, f0, f0, f0, f0, f0, f0, f0, t0, t0, t0, t0, t0, t0, t0, f0, f0, f0, f0, f0, f0, f0, f0, t0, f0, t0, t0, t0, t0, f0, t0, t0, f0] (ai (cn h0) (a2 h1 (a4 (bf h2) (a2 h1 (ai (bf h2) (a3 (bn h3) (a3 (bn h4) (a3 (bn h5) (a4 h6 (a3 h7 (a8 (cn (be h8)) (ai h7 (ai (cn (be h8)) (ai h7 (a3 (cn (bf h9)) (ai (cn (dt h10)) (ai h11 (ai h12 (ai (bf h13) trivial))))))))))))))))))) (by kernel_rfl) rfl rfl
                          · exact gv mix O_ 400 [f0, t0, t0, f0, f0, f0, f0, (1, true), t0, f0, f0, f0, f0, f0, f0, f0, f0, f0, f0, t0, t0, t0, t0, t0, t0, t0, f0, f0, f0, f0, f0, f0, f0, f0, t0, f0, t0, t0, t0, t0, f0, t0, f0] (ai (cn h0) (a2 h1 (a4 (bf h2) (a2 h1 (ai (bf h2) (a3 (bn h3) (a3 (bn h4) (a3 (bn h5) (a4 h6 (a3 h7 (a8 (cn (be h8)) (ai h7 (ai (cn (be h8)) (ai h7 (a3 (cn (bf h9)) (ai (cn (dt h10)) (ai h11 (ai (bf h12) trivial)))))))))))))))))) (by kernel_rfl) rfl rfl
                        · exact gv mix O_ 400 [f0, t0, t0, f0, f0, f0, f0, (1, true), t0, f0, f0, f0, f0, f0, f0, f0, f0, f0, f0, t0, t0, t0, t0, t0, t0, t0, f0, f0, f0, f0, f0, f0, f0, f0, t0, f0, t0, t0, t0, t0, f0, f0] (ai (cn h0) (a2 h1 (a4 (bf h2) (a2 h1 (ai (bf h2) (a3 (bn h3) (a3 (bn h4) (a3 (bn h5) (a4 h6 (a3 h7 (a8 (cn (be h8)) (ai h7 (ai (cn (be h8)) (ai h7 (a3 (cn (bf h9)) (ai (cn (dt h10)) (ai (bf h11) trivial))))))))))))))))) (by kernel_rfl) rfl rfl
                      · exact gv mix O_ 400 [f0, t0, t0, f0, f0, f0, f0, (1, true), t0, f0, f0, f0, f0, f0, f0, f0, f0, f0, f0, t0, t0, t0, t0, t0, t0, t0, f0, f0, f0, f0, f0, f0, f0, f0, t0, f0, t0, t0, t0, t0, t0] (ai (cn h0) (a2 h1 (a4 (bf h2) (a2 h1 (ai (bf h2) (a3 (bn h3) (a3 (bn h4) (a3 (bn h5) (a4 h6 (a3 h7 (a8 (cn (be h8)) (ai h7 (ai (cn (be h8)) (ai h7 (a3 (cn (bf h9)) (ai (cn (df h10)) trivial)))))))))))))))) (by kernel_rfl) rfl rfl
                  · refine gite (fun h9 => ?_) (fun h9 => ?_)
                    · refine gite (fun h10 => ?_) (fun h10 => ?_)
                      · refine gite (fun h11 => ?_) (fun h11 => ?_)
                        · refine gite (fun h12 => ?_) (fun h12 => ?_)
                          · exact gv mix O_ 400 [f0, t0, t0, f0, f0, f0, f0, (1, true), t0, f0, f0, f0, f0, f0, f0, f0, f0, f0, f0, t0, t0, t0, t0, t0, t0, t0, t0, t0, t0, t0, t0, t0, t0, t0, t0, t0, t0, f0, f0, f0, (1, true), t0, t0] (ai (cn h0) (a2 h1 (a4 (bf h2) (a2 h1 (ai (bf h2) (a3 (bn h3) (a3 (bn h4) (a3 (bn h5) (a4 h6 (a3 h7 (a8 (cn (bn h8)) (ai h7 (ai (cn (bn h8)) (ai h7 (a3 (cn h9) (ai h10 (ai h11 (ai h12 trivial)))))))))))))))))) (by kernel_rfl) rfl rfl
                          · exact gv mix O_ 400 [f0, t0, t0, f0, f0, f0, f0, (1, true), t0, f0, f0, f0, f0, f0, f0, f0, f0, f0, f0, t0, t0, t0, t0, t0, t0, t0, t0, t0, t0, t0, t0, t0, t0, t0, t0, t0, t0, f0, f0, f0, (1, true), t0, f0] (ai (cn h0) (a2 h1 (a4 (bf h2) (a2 h1 (ai (bf h2) (a3 (bn h3) (a3 (bn h4) (a3 (bn h5) (a4 h6 (a3 h7 (a8 (cn (bn h8)) (ai h7 (ai (cn (bn h8)) (ai h7 (a3 (cn h9) (ai h10 (ai h11 (ai (bf h12) trivial)))))))))))))))))) (by kernel_rfl) rfl rfl
                        · exact gv mix O_ 400 [f0, t0, t0, f0, f0, f0, f0, (1, true), t0, f0, f0, f0, f0, f0, f0, f0, f0, f0, f0, t0, t0, t0, t0, t0, t0, t0, t0, t0, t0, t0, t0, t0, t0, t0, t0, t0, t0, f0, f0, f0, (1, true), f0] (ai (cn h0) (a2 h1 (a4 (bf h2) (a2 h1 (ai (bf h2) (a3 (bn h3) (a3 (bn h4) (a3 (bn h5) (a4 h6 (a3 h7 (a8 (cn (bn h8)) (ai h7 (ai (cn (bn h8)) (ai h7 (a3 (cn h9) (ai h10 (ai (bf h11) trivial))))))))))))))))) (by kernel_rfl) rfl rfl
                      · exact gv mix O_ 400 [f0, t0, t0, f0, f0, f0, f0, (1, true), t0, f0, f0, f0, f0, f0, f0, f0, f0, f0, f0, t0, t0, t0, t0, t0, t0, t0, t0, t0, t0, t0, t0, t0, t0, t0, t0, t0, t0, f0, f0, f0, (1, false)] (ai (cn h0) (a2 h1 (a4 (bf h2) (a2 h1 (ai (bf h2) (a3 (bn h3) (a3 (bn h4) (a3 (bn h5) (a4 h6 (a3 h7 (a8 (cn (bn h8)) (ai h7 (ai (cn (bn h8)) (ai h7 (a3 (cn h9) (ai (bf h10) trivial)))))))))))))))) (by kernel_rfl) rfl rfl
                    · refine gite (fun h10 => ?_) (fun h10 => ?_)
                      · refine gite (fun h11 => ?_) (fun h11 => ?_)
                        · refine gite (fun h12 => ?_) (fun h12 => ?_)
                          · exact gv mix O_ 400 [f0, t0, t0, f0, f0, f0, f0, (1, true), t0, f0, f0, f0, f0, f0, f0, f0, f0, f0, f0, t0, t0, t0, t0, t0, t0, t0, t0, t0, t0, t0, t0, t0, t0, t0, t0, t0, t0, t0, t0, t0, (1, true), t0, t0] (ai (cn h0) (a2 h1 (a4 (bf h2) (a2 h1 (ai (bf h2) (a3 (bn h3) (a3 (bn h4) (a3 (bn h5) (a4 h6 (a3 h7 (a8 (cn (bn h8)) (ai h7 (ai (cn (bn h8)) (ai h7 (a3 (cn (bf h9)) (ai h10 (ai h11 (ai h12 trivial)))))))))))))))))) (by kernel_rfl) rfl rfl
                          · exact gv mix O_ 400 [f0, t0, t0, f0, f0, f0, f0, (1, true), t0, f0, f0, f0, f0, f0, f0, f0, f0, f0, f0, t0, t0, t0, t0, t0, t0, t0, t0, t0, t0, t0, t0, t0, t0, t0, t0, t0, t0, t0, t0, t0, (1, true), t0, f0] (ai (cn h0) (a2 h1 (a4 (bf h2) (a2 h1 (ai (bf h2) (a3 (bn h3) (a3 (bn h4) (a3 (bn h5) (a4 h6 (a3 h7 (a8 (cn (bn h8)) (ai h7 (ai (cn (bn h8)) (ai h7 (a3 (cn (bf h9)) (ai h10 (ai h11 (ai (bf h12) trivial)))))))))))))))))) (by kernel_rfl) rfl rfl
                        · exact gv mix O_ 400 [f0, t0, t0, f0, f0, f0, f0, (1, true), t0, f0, f0, f0, f0, f0, f0, f0, f0, f0, f0, t0, t0, t0, t0, t0, t0, t0, t0, t0, t0, t0, t0, t0, t0, t0, t0, t0, t0, t0, t0, t0, (1, true), f0] (ai (cn h0) (a2 h1 (a4 (bf h2) (a2 h1 (ai (bf h2) (a3 (bn h3) (a3 (bn h4) (a3 (bn h5) (a4 h6 (a3 h7 (a8 (cn (bn h8)) (ai h7 (ai (cn (bn h8)) (ai h7 (a3 (cn (bf h9)) (ai h10 (ai (bf h11) trivial))))))))))))))))) (by kernel_rfl) rfl rfl
                      · exact gv mix O_ 400 [f0, t0, t0, f0, f0, f0, f0, (1, true), t0, f0, f0, f0, f0, f0, f0, f0, f0, f0, f0, t0, t0, t0, t0, t0, t0, t0, t0, t0, t0, t0, t0, t0, t0, t0, t0, t0, t0, t0, t0, t0, (1, false)] (ai (cn h0) (a2 h1 (a4 (bf h2) (a2 h1 (ai (bf h2) (a3 (bn h3) (a3 (bn h4) (a3 (bn h5) (a4 h6 (a3 h7 (a8 (cn (bn h8)) (ai h7 (ai (cn (bn h8)) (ai h7 (a3 (cn (bf h9)) (ai (bf h10) trivial)))))))))))))))) (by kernel_rfl) rfl rfl
                · refine gite (fun h8 => ?_) (fun h8 => ?_)
                  · refine gite (fun h9 => ?_) (fun h9 => ?_)
                    · refine gite (fun h10 => ?_) (fun h10 => ?_)
                      · refine gite (fun h11 => ?_) (fun h11 => ?_)
                        · exact gv mix O_ 400 [f0, t0, t0, f0, f0, f0, f0, (1, true), t0, f0, f0, f0, f0, f0, f0, f0, f0, f0, f0, t0, t0, t0, t0, f0, f0, f0, f0, f0, f0, f0, f0, (1, true), t0, t0] (ai (cn h0) (a2 h1 (a4 (bf h2) (a2 h1 (ai (bf h2) (a3 (bn h3) (a3 (bn h4) (a3 (bn h5) (a4 h6 (a5 (bf h7) (a3 (cn h8) (ai h9 (ai h10 (ai h11 trivial)))))))))))))) (by kernel_rfl) rfl rfl
                        · exact gv mix O_ 400 [f0, t0, t0, f0, f0, f0, f0, (1, true), t0, f0, f0, f0, f0, f0, f0, f0, f0, f0, f0, t0, t0, t0, t0, f0, f0, f0, f0, f0, f0, f0, f0, (1, true), t0, f0] (ai (cn h0) (a2 h1 (a4 (bf h2) (a2 h1 (ai (bf h2) (a3 (bn h3) (a3 (bn h4) (a3 (bn h5) (a4 h6 (a5 (bf h7) (a3 (cn h8) (ai h9 (ai h10 (ai (bf h11) trivial)))))))))))))) (by kernel_rfl) rfl rfl
                      · exact gv mix O_ 400 [f0, t0, t0, f0, f0, f0, f0, (1, true), t0, f0, f0, f0, f0, f0, f0, f0, f0, f0, f0, t0, t0, t0, t0, f0, f0, f0, f0, f0, f0, f0, f0, (1, true), f0] (ai (cn h0) (a2 h1 (a4 (bf h2) (a2 h1 (ai (bf h2) (a3 (bn h3) (a3 (bn h4) (a3 (bn h5) (a4 h6 (a5 (bf h7) (a3 (cn h8) (ai h9 (ai (bf h10) trivial))))))))))))) (by kernel_rfl) rfl rfl
                    · exact gv mix O_ 400 [f0, t0, t0, f0, f0, f0, f0, (1, true), t0, f0, f0, f0, f0, f0, f0, f0, f0, f0, f0, t0, t0, t0, t0, f0, f0, f0, f0, f0, f0, f0, f0, (1, false)] (ai (cn h0) (a2 h1 (a4 (bf h2) (a2 h1 (ai (bf h2) (a3 (bn h3) (a3 (bn h4) (a3 (bn h5) (a4 h6 (a5 (bf h7) (a3 (cn h8) (ai (bf h9) trivial)))))))))))) (by kernel_rfl) rfl rfl
                  · exact gv mix O_ 400 [f0, t0, t0, f0, f0, f0, f0, (1, true), t0, f0, f0, f0, f0, f0, f0, f0, f0, f0, f0, t0, t0, t0, t0, f0, f0, f0, f0, f0, t0, t0, t0] (ai (cn h0) (a2 h1 (a4 (bf h2) (a2 h1 (ai (bf h2) (a3 (bn h3) (a3 (bn h4) (a3 (bn h5) (a4 h6 (a5 (bf h7) (a3 (cn (bf h8)) trivial))))))))))) (by kernel_rfl) rfl rfl
              · refine gite (fun h7 => ?_) (fun h7 => ?_)
                · refine gite (fun h8 => ?_) (fun h8 => ?_)
                  · refine gite (fun h9 => ?_) (fun h9 => ?_)
                    · refine gite (fun h10 => ?_) (fun h10 => ?_)
                      · exact gv mix O_ 400 [f0, t0, t0, f0, f0, f0, f0, (1, true), t0, f0, f0, f0, f0, f0, f0, f0, f0, f0, f0, f0, f0, f0, f0, (5, false), f0, f0, (1, true), t0, t0] (ai (cn h0) (a2 h1 (a4 (bf h2) (a2 h1 (ai (bf h2) (a3 (bn h3) (a3 (bn h4) (a3 (bn h5) (a4 (bf h6) (a3 (cn h7) (ai h8 (ai h9 (ai h10 trivial))))))))))))) (by kernel_rfl) rfl rfl
                      · exact gv mix O_ 400 [f0, t0, t0, f0, f0, f0, f0, (1, true), t0, f0, f0, f0, f0, f0, f0, f0, f0, f0, f0, f0, f0, f0, f0, (5, false), f0, f0, (1, true), t0, f0] (ai (cn h0) (a2 h1 (a4 (bf h2) (a2 h1 (ai (bf h2) (a3 (bn h3) (a3 (bn h4) (a3 (bn h5) (a4 (bf h6) (a3 (cn h7) (ai h8 (ai h9 (ai (bf h10) trivial))))))))))))) (by kernel_rfl) rfl rfl
                    · exact gv mix O_ 400 [f0, t0, t0, f0, f0, f0, f0, (1, true), t0, f0, f0, f0, f0, f0, f0, f0, f0, f0, f0, f0, f0, f0, f0, (5, false), f0, f0, (1, true), f0] (ai (cn h0) (a2 h1 (a4 (bf h2) (a2 h1 (ai (bf h2) (a3 (bn h3) (a3 (bn h4) (a3 (bn h5) (a4 (bf h6) (a3 (cn h7) (ai h8 (ai (bf h9) trivial)))))))))))) (by kernel_rfl) rfl rfl
                  · exact gv mix O_ 400 [f0, t0, t0, f0, f0, f0, f0, (1, true), t0, f0, f0, f0, f0, f0, f0, f0, f0, f0, f0, f0, f0, f0, f0, (5, false), f0, f0, (1, false)] (ai (cn h0) (a2 h1 (a4 (bf h2) (a2 h1 (ai (bf h2) (a3 (bn h3) (a3 (bn h4) (a3 (bn h5) (a4 (bf h6) (a3 (cn h7) (ai (bf h8) trivial))))))))))) (by kernel_rfl) rfl rfl
                · exact gv mix O_ 400 [f0, t0, t0, f0, f0, f0, f0, (1, true), t0, f0, f0, f0, f0, f0, f0, f0, f0, f0, f0, f0, f0, f0, f0, (5, true), t0, t0] (ai (cn h0) (a2 h1 (a4 (bf h2) (a2 h1 (ai (bf h2) (a3 (bn h3) (a3 (bn h4) (a3 (bn h5) (a4 (bf h6) (a3 (cn (bf h7)) trivial)))))))))) (by kernel_rfl) rfl rfl
    · refine gite (fun h2 => ?_) (fun h2 => ?_)
      · refine gite (fun h3 => ?_) (fun h3 => ?_)
        · refine gite (fun h4 => ?_) (fun h4 => ?_)
          · refine gite (fun h5 => ?_) (fun h5 => ?_)
            · refine gite (fun h6 => ?_) (fun h6 => ?_)
              · refine gite (fun h7 => ?_) (fun h7 => ?_)
                · refine gite (fun h8 => ?_) (fun h8 => ?_)
                  · exact gv mix O_ 400 [f0, f0, f0, (5, false), f0, (1, true), t0, t0, (6, true), t0, t0, t0, t0, t0, t0, (8, true), (1, true), f0, f0, f0, (1, true), t0, t0] (ai (cn h0) (a4 (bf h1) (a3 (be h2) (a4 h3 (a5 h4 (a3 (cn h5) (ai h6 (ai h7 (ai h8 trivial))))))))) (by kernel_rfl) rfl rfl
                  · exact gv mix O_ 400 [f0, f0, f0, (5, false), f0, (1, true), t0, t0, (6, true), t0, t0, t0, t0, t0, t0, (8, true), (1, true), f0, f0, f0, (1, true), t0, f0] (ai (cn h0) (a4 (bf h1) (a3 (be h2) (a4 h3 (a5 h4 (a3 (cn h5) (ai h6 (ai h7 (ai (bf h8) trivial))))))))) (by kernel_rfl) rfl rfl
                · exact gv mix O_ 400 [f0, f0, f0, (5, false), f0, (1, true), t0, t0, (6, true), t0, t0, t0, t0, t0, t0, (8, true), (1, true), f0, f0, f0, (1, true), f0] (ai (cn h0) (a4 (bf h1) (a3 (be h2) (a4 h3 (a5 h4 (a3 (cn h5) (ai h6 (ai (bf h7) trivial)))))))) (by kernel_rfl) rfl rfl
              · exact gv mix O_ 400 [f0, f0, f0, (5, false), f0, (1, true), t0, t0, (6, true), t0, t0, t0, t0, t0, t0, (8, true), (1, true), f0, f0, f0, (1, false)] (ai (cn h0) (a4 (bf h1) (a3 (be h2) (a4 h3 (a5 h4 (a3 (cn h5) (ai (bf h6) trivial))))))) (by kernel_rfl) rfl rfl
            · refine gite (fun h6 => ?_) (fun h6 => ?_)
              · refine gite (fun h7 => ?_) (fun h7 => ?_)
                · refine gite (fun h8 => ?_) (fun h8 => ?_)
                  · refine gite (fun h9 => ?_) (fun h9 => ?_)
                    · exact gv mix O_ 400 [f0, f0, f0, (5, false), f0, (1, true), t0, t0, (6, true), t0, t0, t0, t0, t0, t0, (8, true), (1, true), t0, t0, t0, f0, t0, t0, t0] (ai (cn h0) (a4 (bf h1) (a3 (be h2) (a4 h3 (a5 h4 (a3 (cn (bf h5)) (ai (cn (dt h6)) (ai h7 (ai h8 (ai h9 trivial)))))))))) (by kernel_rfl) rfl rfl
                    · exact gv mix O_ 400 [f0, f0, f0, (5, false), f0, (1, true), t0, t0, (6, true), t0, t0, t0, t0, t0, t0, (8, true), (1, true), t0, t0, t0, f0, t0, t0, f0] (ai (cn h0) (a4 (bf h1) (a3 (be h2) (a4 h3 (a5 h4 (a3 (cn (bf h5)) (ai (cn (dt h6)) (ai h7 (ai h8 (ai (bf h9) trivial)))))))))) (by kernel_rfl) rfl rfl
                  · exact gv mix O_ 400 [f0, f0, f0, (5, false), f0, (1, true), t0, t0, (6, true), t0, t0, t0, t0, t0, t0, (8, true), (1, true), t0, t0, t0, f0, t0, f0] (ai (cn h0) (a4 (bf h1) (a3 (be h2) (a4 h3 (a5 h4 (a3 (cn (bf h5)) (ai (cn (dt h6)) (ai h7 (ai (bf h8) trivial))))))))) (by kernel_rfl) rfl rfl
                · exact gv mix O_ 400 [f0, f0, f0, (5, false), f0, (1, true), t0, t0, (6, true), t0, t0, t0, t0, t0, t0, (8, true), (1, true), t0, t0, t0, f0, f0] (ai (cn h0) (a4 (bf h1) (a3 (be h2) (a4 h3 (a5 h4 (a3 (cn (bf h5)) (ai (cn (dt h6)) (ai (bf h7) trivial)))))))) (by kernel_rfl) rfl rfl
              · exact gv mix O_ 400 [f0, f0, f0, (5, false), f0, (1, true), t0, t0, (6, true), t0, t0, t0, t0, t0, t0, (8, true), (1, true), t0, t0, t0, t0] (ai (cn h0) (a4 (bf h1) (a3 (be h2) (a4 h3 (a5 h4 (a3 (cn (bf h5)) (ai (cn (df h6)) trivial))))))) (by kernel_rfl) rfl rfl
          · refine gite (fun h5 => ?_) (fun h5 => ?_)
            · refine gite (fun h6 => ?_) (fun h6 => ?_)
              · refine gite (fun h7 => ?_) (fun h7 => ?_)
                · refine gite (fun h8 => ?_) (fun h8 => ?_)
                  · exact gv mix O_ 400 [f0, f0, f0, (5, false), f0, (1, true), t0, t0, (6, true), t0, t0, t0, f0, f0, f0, f0, f0, f0, f0, f0, (1, true), t0, t0] (ai (cn h0) (a4 (bf h1) (a3 (be h2) (a4 h3 (a5 (bf h4) (a3 (cn h5) (ai h6 (ai h7 (ai h8 trivial))))))))) (by kernel_rfl) rfl rfl
                  · exact gv mix O_ 400 [f0, f0, f0, (5, false), f0, (1, true), t0, t0, (6, true), t0, t0, t0, f0, f0, f0, f0, f0, f0, f0, f0, (1, true), t0, f0] (ai (cn h0) (a4 (bf h1) (a3 (be h2) (a4 h3 (a5 (bf h4) (a3 (cn h5) (ai h6 (ai h7 (ai (bf h8) trivial))))))))) (by kernel_rfl) rfl rfl
                · exact gv mix O_ 400 [f0, f0, f0, (5, false), f0, (1, true), t0, t0, (6, true), t0, t0, t0, f0, f0, f0, f0, f0, f0, f0, f0, (1, true), f0] (ai (cn h0) (a4 (bf h1) (a3 (be h2) (a4 h3 (a5 (bf h4) (a3 (cn h5) (ai h6 (ai (bf h7) trivial)))))))) (by kernel_rfl) rfl rfl
              · exact gv mix O_ 400 [f0, f0, f0, (5, false), f0, (1, true), t0, t0, (6, true), t0, t0, t0, f0, f0, f0, f0, f0, f0, f0, f0, (1, false)] (ai (cn h0) (a4 (bf h1) (a3 (be h2) (a4 h3 (a5 (bf h4) (a3 (cn h5) (ai (bf h6) trivial))))))) (by kernel_rfl) rfl rfl
            · exact gv mix O_ 400 [f0, f0, f0, (5, false), f0, (1, true), t0, t0, (6, true), t0, t0, t0, f0, f0, f0, f0, f0, t0, t0, t0] (ai (cn h0) (a4 (bf h1) (a3 (be h2) (a4 h3 (a5 (bf h4) (a3 (cn (bf h5)) trivial)))))) (by kernel_rfl) rfl rfl
        · refine gite (fun h4 => ?_) (fun h4 => ?_)
          · refine gite (fun h5 => ?_) (fun h5 => ?_)
            · refine gite (fun h6 => ?_) (fun h6 => ?_)
              · refine gite (fun h7 => ?_) (fun h7 => ?_)
                · exact gv mix O_ 400 [f0, f0, f0, (5, false), f0, (1, true), t0, t0, (6, false), f0, f0, f0, (5, false), f0, f0, (1, true), t0, t0] (ai (cn h0) (a4 (bf h1) (a3 (be h2) (a4 (bf h3) (a3 (cn h4) (ai h5 (ai h6 (ai h7 trivial)))))))) (by kernel_rfl) rfl rfl
                · exact gv mix O_ 400 [f0, f0, f0, (5, false), f0, (1, true), t0, t0, (6, false), f0, f0, f0, (5, false), f0, f0, (1, true), t0, f0] (ai (cn h0) (a4 (bf h1) (a3 (be h2) (a4 (bf h3) (a3 (cn h4) (ai h5 (ai h6 (ai (bf h7) trivial)))))))) (by kernel_rfl) rfl rfl
              · exact gv mix O_ 400 [f0, f0, f0, (5, false), f0, (1, true), t0, t0, (6, false), f0, f0, f0, (5, false), f0, f0, (1, true), f0] (ai (cn h0) (a4 (bf h1) (a3 (be h2) (a4 (bf h3) (a3 (cn h4) (ai h5 (ai (bf h6) trivial))))))) (by kernel_rfl) rfl rfl
            · exact gv mix O_ 400 [f0, f0, f0, (5, false), f0, (1, true), t0, t0, (6, false), f0, f0, f0, (5, false), f0, f0, (1, false)] (ai (cn h0) (a4 (bf h1) (a3 (be h2) (a4 (bf h3) (a3 (cn h4) (ai (bf h5) trivial)))))) (by kernel_rfl) rfl rfl
          · exact gv mix O_ 400 [f0, f0, f0, (5, false), f0, (1, true), t0, t0, (6, false), f0, f0, f0, (5, true), t0, t0] (ai (cn h0) (a4 (bf h1) (a3 (be h2) (a4 (bf h3) (a3 (cn (bf h4)) trivial))))) (by kernel_rfl) rfl rfl
      · refine gite (fun h3 => ?_) (fun h3 => ?_)
        · refine gite (fun h4 => ?_) (fun h4 => ?_)
          · refine gite (fun h5 => ?_) (fun h5 => ?_)
            · refine gite (fun h6 => ?_) (fun h6 => ?_)
              · refine gite (fun h7 => ?_) (fun h7 => ?_)
                · refine gite (fun h8 => ?_) (fun h8 => ?_)
                  · refine gite (fun h9 => ?_) (fun h9 => ?_)
                    · exact gv mix O_ 400 [f0, f0, f0, (5, false), f0, (1, false), f0, f0, t0, t0, t0, (3, true), t0, t0, t0, t0, t0, t0, (8, true), (1, true), f0, f0, f0, (1, true), t0, t0] (ai (cn h0) (a4 (bf h1) (a3 (bn h2) (a3 (be h3) (a4 h4 (a5 h5 (a3 (cn h6) (ai h7 (ai h8 (ai h9 trivial)))))))))) (by kernel_rfl) rfl rfl
                    · exact gv mix O_ 400 [f0, f0, f0, (5, false), f0, (1, false), f0, f0, t0, t0, t0, (3, true), t0, t0, t0, t0, t0, t0, (8, true), (1, true), f0, f0, f0, (1, true), t0, f0] (ai (cn h0) (a4 (bf h1) (a3 (bn h2) (a3 (be h3) (a4 h4 (a5 h5 (a3 (cn h6) (ai h7 (ai h8 (ai (bf h9) trivial)))))))))) (by kernel_rfl) rfl rfl
                  · exact gv mix O_ 400 [f0, f0, f0, (5, false), f0, (1, false), f0, f0, t0, t0, t0, (3, true), t0, t0, t0, t0, t0, t0, (8, true), (1, true), f0, f0, f0, (1, true), f0] (ai (cn h0) (a4 (bf h1) (a3 (bn h2) (a3 (be h3) (a4 h4 (a5 h5 (a3 (cn h6) (ai h7 (ai (bf h8) trivial))))))))) (by kernel_rfl) rfl rfl
                · exact gv mix O_ 400 [f0, f0, f0, (5, false), f0, (1, false), f0, f0, t0, t0, t0, (3, true), t0, t0, t0, t0, t0, t0, (8, true), (1, true), f0, f0, f0, (1, false)] (ai (cn h0) (a4 (bf h1) (a3 (bn h2) (a3 (be h3) (a4 h4 (a5 h5 (a3 (cn h6) (ai (bf h7) trivial)))))))) (by kernel_rfl) rfl rfl
              · refine gite (fun h7 => ?_) (fun h7 => ?_)
                · refine gite (fun h8 => ?_) (fun h8 => ?_)
                  · refine gite (fun h9 => ?_) (fun h9 => ?_)
                    · refine gite (fun h10 => ?_) (fun h10 => ?_)
                      · exact gv mix O_ 400 [f0, f0, f0, (5, false), f0, (1, false), f0, f0, t0, t0, t0, (3, true), t0, t0, t0, t0, t0, t0, (8, true), (1, true), t0, t0, t0, f0, t0, t0, t0] (ai (cn h0) (a4 (bf h1) (a3 (bn h2) (a3 (be h3) (a4 h4 (a5 h5 (a3 (cn (bf h6)) (ai (cn (dt h7)) (ai h8 (ai h9 (ai h10 trivial))))))))))) (by kernel_rfl) rfl rfl
                      · exact gv mix O_ 400 [f0, f0, f0, (5, false), f0, (1, false), f0, f0, t0, t0, t0, (3, true), t0, t0, t0, t0, t0, t0, (8, true), (1, true), t0, t0, t0, f0, t0, t0, f0] (ai (cn h0) (a4 (bf h1) (a3 (bn h2) (a3 (be h3) (a4 h4 (a5 h5 (a3 (cn (bf h6)) (ai (cn (dt h7)) (ai h8 (ai h9 (ai (bf h10) trivial))))))))))) (by kernel_rfl) rfl rfl
                    · exact gv mix O_ 400 [f0, f0, f0, (5, false), f0, (1, false), f0, f0, t0, t0, t0, (3, true), t0, t0, t0, t0, t0, t0, (8, true), (1, true), t0, t0, t0, f0, t0, f0] (ai (cn h0) (a4 (bf h1) (a3 (bn h2) (a3 (be h3) (a4 h4 (a5 h5 (a3 (cn (bf h6)) (ai (cn (dt h7)) (ai h8 (ai (bf h9) trivial)))))))))) (by kernel_rfl) rfl rfl
                  · exact gv mix O_ 400 [f0, f0, f0, (5, false), f0, (1, false), f0, f0, t0, t0, t0, (3, true), t0, t0, t0, t0, t0, t0, (8, true), (1, true), t0, t0, t0, f0, f0] (ai (cn h0) (a4 (bf h1) (a3 (bn h2) (a3 (be h3) (a4 h4 (a5 h5 (a3 (cn (bf h6)) (ai (cn (dt h7)) (ai (bf h8) trivial))))))))) (by kernel_rfl) rfl rfl
                · exact gv mix O_ 400 [f0, f0, f0, (5, false), f0, (1, false), f0, f0, t0, t0, t0, (3, true), t0, t0, t0, t0, t0, t0, (8, true), (1, true), t0, t0, t0, t0] (ai (cn h0) (a4 (bf h1) (a3 (bn h2) (a3 (be h3) (a4 h4 (a5 h5 (a3 (cn (bf h6)) (ai (cn (df h7)) trivial)))))))) (by kernel_rfl) rfl rfl
            · refine gite (fun h6 => ?_) (fun h6 => ?_)
              · refine gite (fun h7 => ?_) (fun h7 => ?_)
                · refine gite (fun h8 => ?_) (fun h8 => ?_)
                  · refine gite (fun h9 => ?_) (fun h9 => ?_)
                    · exact gv mix O_ 400 [f0, f0, f0, (5, false), f0, (1, false), f0, f0, t0, t0, t0, (3, true), t0, t0, t0, f0, f0, f0, f0, f0, f0, f0, f0, (1, true), t0, t0] (ai (cn h0) (a4 (bf h1) (a3 (bn h2) (a3 (be h3) (a4 h4 (a5 (bf h5) (a3 (cn h6) (ai h7 (ai h8 (ai h9 trivial)))))))))) (by kernel_rfl) rfl rfl
                    · exact gv mix O_ 400 [f0, f0, f0, (5, false), f0, (1, false), f0, f0, t0, t0, t0, (3, true), t0, t0, t0, f0, f0, f0, f0, f0, f0, f0, f0, (1, true), t0, f0] (ai (cn h0) (a4 (bf h1) (a3 (bn h2) (a3 (be h3) (a4 h4 (a5 (bf h5) (a3 (cn h6) (ai h7 (ai h8 (ai (bf h9) trivial)))))))))) (by kernel_rfl) rfl rfl
                  · exact gv mix O_ 400 [f0, f0, f0, (5, false), f0, (1, false), f0, f0, t0, t0, t0, (3, true), t0, t0, t0, f0, f0, f0, f0, f0, f0, f0, f0, (1, true), f0] (ai (cn h0) (a4 (bf h1) (a3 (bn h2) (a3 (be h3) (a4 h4 (a5 (bf h5) (a3 (cn h6) (ai h7 (ai (bf h8) trivial))))))))) (by kernel_rfl) rfl rfl
                · exact gv mix O_ 400 [f0, f0, f0, (5, false), f0, (1, false), f0, f0, t0, t0, t0, (3, true), t0, t0, t0, f0, f0, f0, f0, f0, f0, f0, f0, (1, false)] (ai (cn h0) (a4 (bf h1) (a3 (bn h2) (a3 (be h3) (a4 h4 (a5 (bf h5) (a3 (cn h6) (ai (bf h7) trivial)))))))) (by kernel_rfl) rfl rfl
              · exact gv mix O_ 400 [f0, f0, f0, (5, false), f0, (1, false), f0, f0, t0, t0, t0, (3, true), t0, t0, t0, f0, f0, f0, f0, f0, t0, t0, t0] (ai (cn h0) (a4 (bf h1) (a3 (bn h2) (a3 (be h3) (a4 h4 (a5 (bf h5) (a3 (cn (bf h6)) trivial))))))) (by kernel_rfl) rfl rfl
          · refine gite (fun h5 => ?_) (fun h5 => ?_)
            · refine gite (fun h6 => ?_) (fun h6 => ?_)
              · refine gite (fun h7 => ?_) (fun h7 => ?_)
                · refine gite (fun h8 => ?_) (fun h8 => ?_)
                  · exact gv mix O_ 400 [f0, f0, f0, (5, false), f0, (1, false), f0, f0, t0, t0, t0, (3, false), f0, f0, f0, (5, false), f0, f0, (1, true), t0, t0] (ai (cn h0) (a4 (bf h1) (a3 (bn h2) (a3 (be h3) (a4 (bf h4) (a3 (cn h5) (ai h6 (ai h7 (ai h8 trivial))))))))) (by kernel_rfl) rfl rfl
                  · exact gv mix O_ 400 [f0, f0, f0, (5, false), f0, (1, false), f0, f0, t0, t0, t0, (3, false), f0, f0, f0, (5, false), f0, f0, (1, true), t0, f0] (ai (cn h0) (a4 (bf h1) (a3 (bn h2) (a3 (be h3) (a4 (bf h4) (a3 (cn h5) (ai h6 (ai h7 (ai (bf h8) trivial))))))))) (by kernel_rfl) rfl rfl
                · exact gv mix O_ 400 [f0, f0, f0, (5, false), f0, (1, false), f0, f0, t0, t0, t0, (3, false), f0, f0, f0, (5, false), f0, f0, (1, true), f0] (ai (cn h0) (a4 (bf h1) (a3 (bn h2) (a3 (be h3) (a4 (bf h4) (a3 (cn h5) (ai h6 (ai (bf h7) trivial)))))))) (by kernel_rfl) rfl rfl
              · exact gv mix O_ 400 [f0, f0, f0, (5, false), f0, (1, false), f0, f0, t0, t0, t0, (3, false), f0, f0, f0, (5, false), f0, f0, (1, false)] (ai (cn h0) (a4 (bf h1) (a3 (bn h2) (a3 (be h3) (a4 (bf h4) (a3 (cn h5) (ai (bf h6) trivial))))))) (by kernel_rfl) rfl rfl
            · exact gv mix O_ 400 [f0, f0, f0, (5, false), f0, (1, false), f0, f0, t0, t0, t0, (3, false), f0, f0, f0, (5, true), t0, t0] (ai (cn h0) (a4 (bf h1) (a3 (bn h2) (a3 (be h3) (a4 (bf h4) (a3 (cn (bf h5)) trivial)))))) (by kernel_rfl) rfl rfl
        · refine gite (fun h4 => ?_) (fun h4 => ?_)
          · refine gite (fun h5 => ?_) (fun h5 => ?_)
            · refine gite (fun h6 => ?_) (fun h6 => ?_)
              · refine gite (fun h7 => ?_) (fun h7 => ?_)
                · refine gite (fun h8 => ?_) (fun h8 => ?_)
                  · refine gite (fun h9 => ?_) (fun h9 => ?_)
                    · refine gite (fun h10 => ?_) (fun h10 => ?_)
                      · exact gv mix O_ 400 [f0, f0, f0, (5, false), f0, (1, false), f0, f0, f0, f0, f0, t0, t0, t0, t0, t0, t0, t0, t0, t0, t0, (8, true), (1, true), f0, f0, f0, (1, true), t0, t0] (ai (cn h0) (a4 (bf h1) (a3 (bn h2) (a3 (bn h3) (a3 (be h4) (a4 h5 (a5 h6 (a3 (cn h7) (ai h8 (ai h9 (ai h10 trivial))))))))))) (by kernel_rfl) rfl rfl
                      · exact gv mix O_ 400 [f0, f0, f0, (5, false), f0, (1, false), f0, f0, f0, f0, f0, t0, t0, t0, t0, t0, t0, t0, t0, t0, t0, (8, true), (1, true), f0, f0, f0, (1, true), t0, f0] (ai (cn h0) (a4 (bf h1) (a3 (bn h2) (a3 (bn h3) (a3 (be h4) (a4 h5 (a5 h6 (a3 (cn h7) (ai h8 (ai h9 (ai (bf h10) trivial))))))))))) (by kernel_rfl) rfl rfl
                    · exact gv mix O_ 400 [f0, f0, f0, (5, false), f0, (1, false), f0, f0, f0, f0, f0, t0, t0, t0, t0, t0, t0, t0, t0, t0, t0, (8, true), (1, true), f0, f0, f0, (1, true), f0] (ai (cn h0) (a4 (bf h1) (a3 (bn h2) (a3 (bn h3) (a3 (be h4) (a4 h5 (a5 h6 (a3 (cn h7) (ai h8 (ai (bf h9) trivial)))))))))) (by kernel_rfl) rfl rfl
                  · exact gv mix O_ 400 [f0, f0, f0, (5, false), f0, (1, false), f0, f0, f0, f0, f0, t0, t0, t0, t0, t0, t0, t0, t0, t0, t0, (8, true), (1, true), f0, f0, f0, (1, false)] (ai (cn h0) (a4 (bf h1) (a3 (bn h2) (a3 (bn h3) (a3 (be h4) (a4 h5 (a5 h6 (a3 (cn h7) (ai (bf h8) trivial))))))))) (by kernel_rfl) rfl rfl
                · refine gite (fun h8 => ?_) (fun h8 => ?_)
                  · refine gite (fun h9 => ?_) (fun h9 => ?_)
                    · refine gite (fun h10 => ?_) (fun h10 => ?_)
                      · refine gite (fun h11 => ?_) (fun h11 => ?_)
                        · exact gv mix O_ 400 [f0, f0, f0, (5, false), f0, (1, false), f0, f0, f0, f0, f0, t0, t0, t0, t0, t0, t0, t0, t0, t0, t0, (8, true), (1, true), t0, t0, t0, f0, t0, t0, t0] (ai (cn h0) (a4 (bf h1) (a3 (bn h2) (a3 (bn h3) (a3 (be h4) (a4 h5 (a5 h6 (a3 (cn (bf h7)) (ai (cn (dt h8)) (ai h9 (ai h10 (ai h11 trivial)))))))))))) (by kernel_rfl) rfl rfl
                        · exact gv mix O_ 400 [f0, f0, f0, (5, false), f0, (1, false), f0, f0, f0, f0, f0, t0, t0, t0, t0, t0, t0, t0, t0, t0, t0, (8, true), (1, true), t0, t0, t0, f0, t0, t0, f0] (ai (cn h0) (a4 (bf h1) (a3 (bn h2) (a3 (bn h3) (a3 (be h4) (a4 h5 (a5 h6 (a3 (cn (bf h7)) (ai (cn (dt h8)) (ai h9 (ai h10 (ai (bf h11) trivial)))))))))))) (by kernel_rfl) rfl rfl
                      · exact gv mix O_ 400 [f0, f0, f0, (5, false), f0, (1, false), f0, f0, f0, f0, f0, t0, t0, t0, t0, t0, t0, t0, t0, t0, t0, (8, true), (1, true), t0, t0, t0, f0, t0, f0] (ai (cn h0) (a4 (bf h1) (a3 (bn h2) (a3 (bn h3) (a3 (be h4) (a4 h5 (a5 h6 (a3 (cn (bf h7)) (ai (cn (dt h8)) (ai h9 (ai (bf h10) trivial))))))))))) (by kernel_rfl) rfl rfl
                    · exact gv mix O_ 400 [f0, f0, f0, (5, false), f0, (1, false), f0, f0, f0, f0, f0, t0, t0, t0, t0, t0, t0, t0, t0, t0, t0, (8, true), (1, true), t0, t0, t0, f0, f0] (ai (cn h0) (a4 (bf h1) (a3 (bn h2) (a3 (bn h3) (a3 (be h4) (a4 h5 (a5 h6 (a3 (cn (bf h7)) (ai (cn (dt h8)) (ai (bf h9) trivial)))))))))) (by kernel_rfl) rfl rfl
                  · exact gv mix O_ 400 [f0, f0, f0, (5, false), f0, (1, false), f0, f0, f0, f0, f0, t0, t0, t0, t0, t0, t0, t0, t0, t0, t0, (8, true), (1, true), t0, t0, t0, t0] (ai (cn h0) (a4 (bf h1) (a3 (bn h2) (a3 (bn h3) (a3 (be h4) (a4 h5 (a5 h6 (a3 (cn (bf h7)) (ai (cn (df h8)) trivial))))))))) (by kernel_rfl) rfl rfl
              · refine gite (fun h7 => ?_) (fun h7 => ?_)
                · refine gite (fun h8 => ?_) (fun h8 => ?_)
                  · refine gite (fun h9 => ?_) (fun h9 => ?_)
                    · refine gite (fun h10 => ?_) (fun h10 => ?_)
                      · exact gv mix O_ 400 [f0, f0, f0, (5, false), f0, (1, false), f0, f0, f0, f0, f0, t0, t0, t0, t0, t0, t0, t0, f0, f0, f0, f0, f0, f0, f0, f0, (1, true), t0, t0] (ai (cn h0) (a4 (bf h1) (a3 (bn h2) (a3 (bn h3) (a3 (be h4) (a4 h5 (a5 (bf h6) (a3 (cn h7) (ai h8 (ai h9 (ai h10 trivial))))))))))) (by kernel_rfl) rfl rfl
                      · exact gv mix O_ 400 [f0, f0, f0, (5, false), f0, (1, false), f0, f0, f0, f0, f0, t0, t0, t0, t0, t0, t0, t0, f0, f0, f0, f0, f0, f0, f0, f0, (1, true), t0, f0] (ai (cn h0) (a4 (bf h1) (a3 (bn h2) (a3 (bn h3) (a3 (be h4) (a4 h5 (a5 (bf h6) (a3 (cn h7) (ai h8 (ai h9 (ai (bf h10) trivial))))))))))) (by kernel_rfl) rfl rfl
                    · exact gv mix O_ 400 [f0, f0, f0, (5, false), f0, (1, false), f0, f0, f0, f0, f0, t0, t0, t0, t0, t0, t0, t0, f0, f0, f0, f0, f0, f0, f0, f0, (1, true), f0] (ai (cn h0) (a4 (bf h1) (a3 (bn h2) (a3 (bn h3) (a3 (be h4) (a4 h5 (a5 (bf h6) (a3 (cn h7) (ai h8 (ai (bf h9) trivial)))))))))) (by kernel_rfl) rfl rfl
                  · exact gv mix O_ 400 [f0, f0, f0, (5, false), f0, (1, false), f0, f0, f0, f0, f0, t0, t0, t0, t0, t0, t0, t0, f0, f0, f0, f0, f0, f0, f0, f0, (1, false)] (ai (cn h0) (a4 (bf h1) (a3 (bn h2) (a3 (bn h3) (a3 (be h4) (a4 h5 (a5 (bf h6) (a3 (cn h7) (ai (bf h8) trivial))))))))) (by kernel_rfl) rfl rfl
                · exact gv mix O_ 400 [f0, f0, f0, (5, false), f0, (1, false), f0, f0, f0, f0, f0, t0, t0, t0, t0, t0, t0, t0, f0, f0, f0, f0, f0, t0, t0, t0] (ai (cn h0) (a4 (bf h1) (a3 (bn h2) (a3 (bn h3) (a3 (be h4) (a4 h5 (a5 (bf h6) (a3 (cn (bf h7)) trivial)))))))) (by kernel_rfl) rfl rfl
            · refine gite (fun h6 => ?_) (fun h6 => ?_)
              · refine gite (fun h7 => ?_) (fun h7 => ?_)
                · refine gite (fun h8 => ?_) (fun h8 => ?_)
                  · refine gite (fun h9 => ?_) (fun h9 => ?_)
                    · exact gv mix O_ 400 [f0, f0, f0, (5, false), f0, (1, false), f0, f0, f0, f0, f0, t0, t0, t0, f0, f0, f0, f0, (5, false), f0, f0, (1, true), t0, t0] (ai (cn h0) (a4 (bf h1) (a3 (bn h2) (a3 (bn h3) (a3 (be h4) (a4 (bf h5) (a3 (cn h6) (ai h7 (ai h8 (ai h9 trivial)))))))))) (by kernel_rfl) rfl rfl
                    · exact gv mix O_ 400 [f0, f0, f0, (5, false), f0, (1, false), f0, f0, f0, f0, f0, t0, t0, t0, f0, f0, f0, f0, (5, false), f0, f0, (1, true), t0, f0] (ai (cn h0) (a4 (bf h1) (a3 (bn h2) (a3 (bn h3) (a3 (be h4) (a4 (bf h5) (a3 (cn h6) (ai h7 (ai h8 (ai (bf h9) trivial)))))))))) (by kernel_rfl) rfl rfl
                  · exact gv mix O_ 400 [f0, f0, f0, (5, false), f0, (1, false), f0, f0, f0, f0, f0, t0, t0, t0, f0, f0, f0, f0, (5, false), f0, f0, (1, true), f0] (ai (cn h0) (a4 (bf h1) (a3 (bn h2) (a3 (bn h3) (a3 (be h4) (a4 (bf h5) (a3 (cn h6) (ai h7 (ai (bf h8) trivial))))))))) (by kernel_rfl) rfl rfl
                · exact gv mix O_ 400 [f0, f0, f0, (5, false), f0, (1, false), f0, f0, f0, f0, f0, t0, t0, t0, f0, f0, f0, f0, (5, false), f0, f0, (1, false)] (ai (cn h0) (a4 (bf h1) (a3 (bn h2) (a3 (bn h3) (a3 (be h4) (a4 (bf h5) (a3 (cn h6) (ai (bf h7) trivial)))))))) (by kernel_rfl) rfl rfl
              · exact gv mix O_ 400 [f0, f0, f0, (5, false), f0, (1, false), f0, f0, f0, f0, f0, t0, t0, t0, f0, f0, f0, f0, (5, true), t0, t0] (ai (cn h0) (a4 (bf h1) (a3 (bn h2) (a3 (bn h3) (a3 (be h4) (a4 (bf h5) (a3 (cn (bf h6)) trivial))))))) (by kernel_rfl) rfl rfl
          · refine gite (fun h5 => ?_) (fun h5 => ?_)
            · refine gite (fun h6 => ?_) (fun h6 => ?_)
              · refine gite (fun h7 => ?_) (fun h7 => ?_)
                · refine gite (fun h8 => ?_) (fun h8 => ?_)
                  · refine gite (fun h9 => ?_) (fun h9 => ?_)
                    · refine gite (fun h10 => ?_) (fun h10 => ?_)
                      · refine gite (fun h11 => ?_) (fun h11 => ?_)
                        · exact gv mix O_ 400 [f0, f0, f0, (5, false), f0, (1, false), f0, f0, f0, f0, f0, f0, f0, f0, t0, t0, t0, t0, t0, t0, t0, f0, f0, f0, f0, f0, f0, f0, f0, t0, f0, t0, f0, f0, f0, (1, true), t0, t0] (ai (cn h0) (a4 (bf h1) (a3 (bn h2) (a3 (bn h3) (a3 (bn h4) (a4 h5 (a3 h6 (a8 (cn (be h7)) (ai h6 (ai (cn (be h7)) (ai h6 (a3 (cn h8) (ai h9 (ai h10 (ai h11 trivial))))))))))))))) (by kernel_rfl) rfl rfl
                        · exact gv mix O_ 400 [f0, f0, f0, (5, false), f0, (1, false), f0, f0, f0, f0, f0, f0, f0, f0, t0, t0, t0, t0, t0, t0, t0, f0, f0, f0, f0, f0, f0, f0, f0, t0, f0, t0, f0, f0, f0, (1, true), t0, f0] (ai (cn h0) (a4 (bf h1) (a3 (bn h2) (a3 (bn h3) (a3 (bn h4) (a4 h5 (a3 h6 (a8 (cn (be h7)) (ai h6 (ai (cn (be h7)) (ai h6 (a3 (cn h8) (ai h9 (ai h10 (ai (bf h11) trivial))))))))))))))) (by kernel_rfl) rfl rfl
                      · exact gv mix O_ 400 [f0, f0, f0, (5, false), f0, (1, false), f0, f0, f0, f0, f0, f0, f0, f0, t0, t0, t0, t0, t0, t0, t0, f0, f0, f0, f0, f0, f0, f0, f0, t0, f0, t0, f0, f0, f0, (1, true), f0] (ai (cn h0) (a4 (bf h1) (a3 (bn h2) (a3 (bn h3) (a3 (bn h4) (a4 h5 (a3 h6 (a8 (cn (be h7)) (ai h6 (ai (cn (be h7)) (ai h6 (a3 (cn h8) (ai h9 (ai (bf h10) trivial)))))))))))))) (by kernel_rfl) rfl rfl
                    · exact gv mix O_ 400 [f0, f0, f0, (5, false), f0, (1, false), f0, f0, f0, f0, f0, f0, f0, f0, t0, t0, t0, t0, t0, t0, t0, f0, f0, f0, f0, f0, f0, f0, f0, t0, f0, t0, f0, f0, f0, (1, false)] (ai (cn h0) (a4 (bf h1) (a3 (bn h2) (a3 (bn h3) (a3 (bn h4) (a4 h5 (a3 h6 (a8 (cn (be h7)) (ai h6 (ai (cn (be h7)) (ai h6 (a3 (cn h8) (ai (bf h9) trivial))))))))))))) (by kernel_rfl) rfl rfl
                  · refine gite (fun h9 => ?_) (fun h9 => ?_)
                    · refine gite (fun h10 => ?_) (fun h10 => ?_)
                      · refine gite (fun h11 => ?_) (fun h11 => ?_)
                        · refine gite (fun h12 => ?_) (fun h12 => ?_)
                          · exact gv mix O_ 400 [f0, f0, f0, (5, false), f0, (1, false), f0, f0, f0, f0, f0, f0, f0, f0, t0, t0, t0, t0, t0, t0, t0, f0, f0, f0, f0, f0, f0, f0, f0, t0, f0, t0, t0, t0, t0, f0, t0, t0, t0] (ai (cn h0) (a4 (bf h1) (a3 (bn h2) (a3 (bn h3) (a3 (bn h4) (a4 h5 (a3 h6 (a8 (cn (be h7)) (ai h6 (ai (cn (be h7)) (ai h6 (a3 (cn (bf h8)) (ai (cn (dt h9)) (ai h10 (ai h11 (ai h12 trivial)))))))))))))))) (by kernel_rfl) rfl rfl
                          · exact gv mix O_ 400 [f0, f0, f0, (5, false), f0, (1, false), f0, f0, f0, f0, f0, f0, f0, f0, t0, t0, t0, t0, t0, t0, t0, f0, f0, f0, f0, f0, f0, f0, f0, t0, f0, t0, t0, t0, t0, f0, t0, t0, f0] (ai (cn h0) (a4 (bf h1) (a3 (bn h2) (a3 (bn h3) (a3 (bn h4) (a4 h5 (a3 h6 (a8 (cn (be h7)) (ai h6 (ai (cn (be h7)) (ai h6 (a3 (cn (bf h8)) (ai (cn (dt h9)) (ai h10 (ai h11 (ai (bf h12) trivial)))))))))))))))) (by kernel_rfl) rfl rfl
                        · exact gv mix O_ 400 [f0, f0, f0, (5, false), f0, (1, false), f0, f0, f0, f0, f0, f0, f0, f0, t0, t0, t0, t0, t0, t0, t0, f0, f0, f0, f0, f0, f0, f0, f0, t0, f0, t0, t0, t0, t0, f0, t0, f0] (ai (cn h0) (a4 (bf h1) (a3 (bn h2) (a3 (bn h3) (a3 (bn h4) (a4 h5 (a3 h6 (a8 (cn (be h7)) (ai h6 (ai (cn (be h7)) (ai h6 (a3 (cn (bf h8)) (ai (cn (dt h9)) (ai h10 (ai (bf h11) trivial))))))))))))))) (by kernel_rfl) rfl rfl
                      · exact gv mix O_ 400 [f0, f0, f0, (5, false), f0, (1, false), f0, f0, f0, f0, f0, f0, f0, f0, t0, t0, t0, t0, t0, t0, t0, f0, f0, f0, f0, f0, f0, f0, f0, t0, f0, t0, t0, t0, t0, f0, f0] (ai (cn h0) (a4 (bf h1) (a3 (bn h2) (a3 (bn h3) (a3 (bn h4) (a4 h5 (a3 h6 (a8 (cn (be h7)) (ai h6 (ai (cn (be h7)) (ai h6 (a3 (cn (bf h8)) (ai (cn (dt h9)) (ai (bf h10) trivial)))))))))))))) (by kernel_rfl) rfl rfl
                    · exact gv mix O_ 400 [f0, f0, f0, (5, false), f0, (1, false), f0, f0, f0, f0, f0, f0, f0, f0, t0, t0, t0, t0, t0, t0, t0, f0, f0, f0, f0, f0, f0, f0, f0, t0, f0, t0, t0, t0, t0, t0] (ai (cn h0) (a4 (bf h1) (a3 (bn h2) (a3 (bn h3) (a3 (bn h4) (a4 h5 (a3 h6 (a8 (cn (be h7)) (ai h6 (ai (cn (be h7)) (ai h6 (a3 (cn (bf h8)) (ai (cn (df h9)) trivial))))))))))))) (by kernel_rfl) rfl rfl
                · refine gite (fun h8 => ?_) (fun h8 => ?_)
                  · refine gite (fun h9 => ?_) (fun h9 => ?_)
                    · refine gite (fun h10 => ?_) (fun h10 => ?_)
                      · refine gite (fun h11 => ?_) (fun h11 => ?_)
                        · exact gv mix O_ 400 [f0, f0, f0, (5, false), f0, (1, false), f0, f0, f0, f0, f0, f0, f0, f0, t0, t0, t0, t0, t0, t0, t0, t0, t0, t0, t0, t0, t0, t0, t0, t0, t0, t0, f0, f0, f0, (1, true), t0, t0] (ai (cn h0) (a4 (bf h1) (a3 (bn h2) (a3 (bn h3) (a3 (bn h4) (a4 h5 (a3 h6 (a8 (cn (bn h7)) (ai h6 (ai (cn (bn h7)) (ai h6 (a3 (cn h8) (ai h9 (ai h10 (ai h11 trivial))))))))))))))) (by kernel_rfl) rfl rfl
                        · exact gv mix O_ 400 [f0, f0, f0, (5, false), f0, (1, false), f0, f0, f0, f0, f0, f0, f0, f0, t0, t0, t0, t0, t0, t0, t0, t0, t0, t0, t0, t0, t0, t0, t0, t0, t0, t0, f0, f0, f0, (1, true), t0, f0] (ai (cn h0) (a4 (bf h1) (a3 (bn h2) (a3 (bn h3) (a3 (bn h4) (a4 h5 (a3 h6 (a8 (cn (bn h7)) (ai h6 (ai (cn (bn h7)) (ai h6 (a3 (cn h8) (ai h9 (ai h10 (ai (bf h11) trivial))))))))))))))) (by kernel_rfl) rfl rfl
                      · exact gv mix O_ 400 [f0, f0, f0, (5, false), f0, (1, false), f0, f0, f0, f0, f0, f0, f0, f0, t0, t0, t0, t0, t0, t0, t0, t0, t0, t0, t0, t0, t0, t0, t0, t0, t0, t0, f0, f0, f0, (1, true), f0] (ai (cn h0) (a4 (bf h1) (a3 (bn h2) (a3 (bn h3) (a3 (bn h4) (a4 h5 (a3 h6 (a8 (cn (bn h7)) (ai h6 (ai (cn (bn h7)) (ai h6 (a3 (cn h8) (ai h9 (ai (bf h10) trivial)))))))))))))) (by kernel_rfl) rfl rfl
                    · exact gv mix O_ 400 [f0, f0, f0, (5, false), f0, (1, false), f0, f0, f0, f0, f0, f0, f0, f0, t0, t0, t0, t0, t0, t0, t0, t0, t0, t0, t0, t0, t0, t0, t0, t0, t0, t0, f0, f0, f0, (1, false)] (ai (cn h0) (a4 (bf h1) (a3 (bn h2) (a3 (bn h3) (a3 (bn h4) (a4 h5 (a3 h6 (a8 (cn (bn h7)) (ai h6 (ai (cn (bn h7)) (ai h6 (a3 (cn h8) (ai (bf h9) trivial))))))))))))) (by kernel_rfl) rfl rfl
                  · refine gite (fun h9 => ?_) (fun h9 => ?_)
                    · refine gite (fun h10 => ?_) (fun h10 => ?_)
                      · refine gite (fun h11 => ?_) (fun h11 => ?_)
                        · exact gv mix O_ 400 [f0, f0, f0, (5, false), f0, (1, false), f0, f0, f0, f0, f0, f0, f0, f0, t0, t0, t0, t0, t0, t0, t0, t0, t0, t0, t0, t0, t0, t0, t0, t0, t0, t0, t0, t0, t0, (1, true), t0, t0] (ai (cn h0) (a4 (bf h1) (a3 (bn h2) (a3 (bn h3) (a3 (bn h4) (a4 h5 (a3 h6 (a8 (cn (bn h7)) (ai h6 (ai (cn (bn h7)) (ai h6 (a3 (cn (bf h8)) (ai h9 (ai h10 (ai h11 trivial))))))))))))))) (by kernel_rfl) rfl rfl
                        · exact gv mix O_ 400 [f0, f0, f0, (5, false), f0, (1, false), f0, f0, f0, f0, f0, f0, f0, f0, t0, t0, t0, t0, t0, t0, t0, t0, t0, t0, t0, t0, t0, t0, t0, t0, t0, t0, t0, t0, t0, (1, true), t0, f0] (ai (cn h0) (a4 (bf h1) (a3 (bn h2) (a3 (bn h3) (a3 (bn h4) (a4 h5 (a3 h6 (a8 (cn (bn h7)) (ai h6 (ai (cn (bn h7)) (ai h6 (a3 (cn (bf h8)) (ai h9 (ai h10 (ai (bf h11) trivial))))))))))))))) (by kernel_rfl) rfl rfl
                      · exact gv mix O_ 400 [f0, f0, f0, (5, false), f0, (1, false), f0, f0, f0, f0, f0, f0, f0, f0, t0, t0, t0, t0, t0, t0, t0, t0, t0, t0, t0, t0, t0, t0, t0, t0, t0, t0, t0, t0, t0, (1, true), f0] (ai (cn h0) (a4 (bf h1) (a3 (bn h2) (a3 (bn h3) (a3 (bn h4) (a4 h5 (a3 h6 (a8 (cn (bn h7)) (ai h6 (ai (cn (bn h7)) (ai h6 (a3 (cn (bf h8)) (ai h9 (ai (bf h10) trivial)))))))))))))) (by kernel_rfl) rfl rfl
                    · exact gv mix O_ 400 [f0, f0, f0, (5, false), f0, (1, false), f0, f0, f0, f0, f0, f0, f0, f0, t0, t0, t0, t0, t0, t0, t0, t0, t0, t0, t0, t0, t0, t0, t0, t0, t0, t0, t0, t0, t0, (1, false)] (ai (cn h0) (a4 (bf h1) (a3 (bn h2) (a3 (bn h3) (a3 (bn h4) (a4 h5 (a3 h6 (a8 (cn (bn h7)) (ai h6 (ai (cn (bn h7)) (ai h6 (a3 (cn (bf h8)) (ai (bf h9) trivial))))))))))))) (by kernel_rfl) rfl rfl
              · refine gite (fun h7 => ?_) (fun h7 => ?_)
                · refine gite (fun h8 => ?_) (fun h8 => ?_)
                  · refine gite (fun h9 => ?_) (fun h9 => ?_)
                    · refine gite (fun h10 => ?_) (fun h10 => ?_)
                      · exact gv mix O_ 400 [f0, f0, f0, (5, false), f0, (1, false), f0, f0, f0, f0, f0, f0, f0, f0, t0, t0, t0, t0, f0, f0, f0, f0, f0, f0, f0, f0, (1, true), t0, t0] (ai (cn h0) (a4 (bf h1) (a3 (bn h2) (a3 (bn h3) (a3 (bn h4) (a4 h5 (a5 (bf h6) (a3 (cn h7) (ai h8 (ai h9 (ai h10 trivial))))))))))) (by kernel_rfl) rfl rfl
                      · exact gv mix O_ 400 [f0, f0, f0, (5, false), f0, (1, false), f0, f0, f0, f0, f0, f0, f0, f0, t0, t0, t0, t0, f0, f0, f0, f0, f0, f0, f0, f0, (1, true), t0, f0] (ai (cn h0) (a4 (bf h1) (a3 (bn h2) (a3 (bn h3) (a3 (bn h4) (a4 h5 (a5 (bf h6) (a3 (cn h7) (ai h8 (ai h9 (ai (bf h10) trivial))))))))))) (by kernel_rfl) rfl rfl
                    · exact gv mix O_ 400 [f0, f0, f0, (5, false), f0, (1, false), f0, f0, f0, f0, f0, f0, f0, f0, t0, t0, t0, t0, f0, f0, f0, f0, f0, f0, f0, f0, (1, true), f0] (ai (cn h0) (a4 (bf h1) (a3 (bn h2) (a3 (bn h3) (a3 (bn h4) (a4 h5 (a5 (bf h6) (a3 (cn h7) (ai h8 (ai (bf h9) trivial)))))))))) (by kernel_rfl) rfl rfl
                  · exact gv mix O_ 400 [f0, f0, f0, (5, false), f0, (1, false), f0, f0, f0, f0, f0, f0, f0, f0, t0, t0, t0, t0, f0, f0, f0, f0, f0, f0, f0, f0, (1, false)] (ai (cn h0) (a4 (bf h1) (a3 (bn h2) (a3 (bn h3) (a3 (bn h4) (a4 h5 (a5 (bf h6) (a3 (cn h7) (ai (bf h8) trivial))))))))) (by kernel_rfl) rfl rfl
                · exact gv mix O_ 400 [f0, f0, f0, (5, false), f0, (1, false), f0, f0, f0, f0, f0, f0, f0, f0, t0, t0, t0, t0, f0, f0, f0, f0, f0, t0, t0, t0] (ai (cn h0) (a4 (bf h1) (a3 (bn h2) (a3 (bn h3) (a3 (bn h4) (a4 h5 (a5 (bf h6) (a3 (cn (bf h7)) trivial)))))))) (by kernel_rfl) rfl rfl
            · refine gite (fun h6 => ?_) (fun h6 => ?_)
              · refine gite (fun h7 => ?_) (fun h7 => ?_)
                · refine gite (fun h8 => ?_) (fun h8 => ?_)
                  · refine gite (fun h9 => ?_) (fun h9 => ?_)
                    · exact gv mix O_ 400 [f0, f0, f0, (5, false), f0, (1, false), f0, f0, f0, f0, f0, f0, f0, f0, f0, f0, f0, f0, (5, false), f0, f0, (1, true), t0, t0] (ai (cn h0) (a4 (bf h1) (a3 (bn h2) (a3 (bn h3) (a3 (bn h4) (a4 (bf h5) (a3 (cn h6) (ai h7 (ai h8 (ai h9 trivial)))))))))) (by kernel_rfl) rfl rfl
                    · exact gv mix O_ 400 [f0, f0, f0, (5, false), f0, (1, false), f0, f0, f0, f0, f0, f0, f0, f0, f0, f0, f0, f0, (5, false), f0, f0, (1, true), t0, f0] (ai (cn h0) (a4 (bf h1) (a3 (bn h2) (a3 (bn h3) (a3 (bn h4) (a4 (bf h5) (a3 (cn h6) (ai h7 (ai h8 (ai (bf h9) trivial)))))))))) (by kernel_rfl) rfl rfl
                  · exact gv mix O_ 400 [f0, f0, f0, (5, false), f0, (1, false), f0, f0, f0, f0, f0, f0, f0, f0, f0, f0, f0, f0, (5, false), f0, f0, (1, true), f0] (ai (cn h0) (a4 (bf h1) (a3 (bn h2) (a3 (bn h3) (a3 (bn h4) (a4 (bf h5) (a3 (cn h6) (ai h7 (ai (bf h8) trivial))))))))) (by kernel_rfl) rfl rfl
                · exact gv mix O_ 400 [f0, f0, f0, (5, false), f0, (1, false), f0, f0, f0, f0, f0, f0, f0, f0, f0, f0, f0, f0, (5, false), f0, f0, (1, false)] (ai (cn h0) (a4 (bf h1) (a3 (bn h2) (a3 (bn h3) (a3 (bn h4) (a4 (bf h5) (a3 (cn h6) (ai (bf h7) trivial)))))))) (by kernel_rfl) rfl rfl
              · exact gv mix O_ 400 [f0, f0, f0, (5, false), f0, (1, false), f0, f0, f0, f0, f0, f0, f0, f0, f0, f0, f0, f0, (5, true), t0, t0] (ai (cn h0) (a4 (bf h1) (a3 (bn h2) (a3 (bn h3) (a3 (bn h4) (a4 (bf h5) (a3 (cn (bf h6)) trivial))))))) (by kernel_rfl) rfl rfl
  · exact gv mix O_ 400 [t0] (ai (cn (bf h0)) trivial) (by kernel_rfl) rfl rfl
theorem K_lockgatelaw05_known : Keeps Tryz.prog 10 (F0 cB [] lockgatelaw05_known) := by
  refine keeps0  _ (enters_of Tryz.func10 (by kernel_rfl)) fun _ => ?_
  unfold lockgatelaw05_known
  have O_ := (orc_cons K_scalar_Of (orc_cons K_scalar_Alu (orc_cons K_scalar_Is (orc_cons K_scalar_Any (orc_cons K_scalar_Branch (orc_cons K_scalar_In (orc_cons K_scalar_Upto on_)))))))
  refine gite (fun h0 => ?_) (fun h0 => ?_)
  · refine gite (fun h1 => ?_) (fun h1 => ?_)
    · refine gite (fun h2 => ?_) (fun h2 => ?_)
      · refine gite (fun h3 => ?_) (fun h3 => ?_)
        · refine gite (fun h4 => ?_) (fun h4 => ?_)
          · exact gv mix O_ 400 [t0, t0, t0, t0, t0, t0, t0, t0, t0, t0, t0, t0, t0, f0, f0, f0] (ai ((by decide) : okSc (scalar_Of 3) = true) (ai ((by decide) : okSc (scalar_Of 4) = true) (a3 h0 (a2 (be h1) (a5 h2 (a3 h3 (a3 (cn h4) trivial))))))) (by kernel_rfl) rfl rfl
          · refine gite (fun h5 => ?_) (fun h5 => ?_)
            · exact gv mix O_ 400 [t0, t0, t0, t0, t0, t0, t0, t0, t0, t0, t0, t0, t0, t0, t0, t0, t0, t0, t0, t0] (ai ((by decide) : okSc (scalar_Of 3) = true) (ai ((by decide) : okSc (scalar_Of 4) = true) (a3 h0 (a2 (be h1) (a5 h2 (a3 h3 (a3 (cn (bf h4)) (a4 h5 trivial)))))))) (by kernel_rfl) rfl rfl
            · exact gv mix O_ 400 [t0, t0, t0, t0, t0, t0, t0, t0, t0, t0, t0, t0, t0, t0, t0, t0, f0, f0, f0, f0] (ai ((by decide) : okSc (scalar_Of 3) = true) (ai ((by decide) : okSc (scalar_Of 4) = true) (a3 h0 (a2 (be h1) (a5 h2 (a3 h3 (a3 (cn (bf h4)) (a4 (bf h5) trivial)))))))) (by kernel_rfl) rfl rfl
        · exact gv mix O_ 400 [t0, t0, t0, t0, t0, t0, t0, t0, t0, t0, f0, f0, f0] (ai ((by decide) : okSc (scalar_Of 3) = true) (ai ((by decide) : okSc (scalar_Of 4) = true) (a3 h0 (a2 (be h1) (a5 h2 (a3 (bf h3) trivial)))))) (by kernel_rfl) rfl rfl
      · exact gv mix O_ 400 [t0, t0, t0, t0, t0, f0, f0, f0, f0, f0] (ai ((by decide) : okSc (scalar_Of 3) = true) (ai ((by decide) : okSc (scalar_Of 4) = true) (a3 h0 (a2 (be h1) (a5 (bf h2) trivial))))) (by kernel_rfl) rfl rfl
    · exact gv mix O_ 400 [t0, t0, t0, f0, f0] (ai ((by decide) : okSc (scalar_Of 3) = true) (ai ((by decide) : okSc (scalar_Of 4) = true) (a3 h0 (a2 (bn h1) trivial)))) (by kernel_rfl) rfl rfl
  · exact gv mix O_ 400 [f0, f0, f0] (ai ((by decide) : okSc (scalar_Of 3) = true) (ai ((by decide) : okSc (scalar_Of 4) = true) (a3 (bf h0) trivial))) (by kernel_rfl) rfl rfl
end Go.Proofs.T
