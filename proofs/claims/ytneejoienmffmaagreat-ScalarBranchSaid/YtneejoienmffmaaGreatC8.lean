/-
  The functions of the program keep their contracts: what they make is what the functions of plain data say.
-/
import Derived.Test.YtneejoienmffmaaGreatD
import Derived.Test.YtneejoienmffmaaGreatMT2
import Derived.Test.YtneejoienmffmaaGreatC6
import Derived.KernelRfl
set_option linter.unusedVariables false
set_option maxRecDepth 100000
namespace Go.Proofs.T
open Go Go.Proofs Go.Proofs.SX
theorem K_lockgateref05_learn : Keeps Tryz.prog 44 (F4 (cI .i64) cB cSc cSc (cP3 cSc cSc cB) (fun _ _ _ _ => []) lockgateref05_learn) := by
  refine keeps4 _ _ _ _ _ (enters_of Tryz.func44 (by kernel_rfl)) fun a b c d hp_ => ?_
  unfold lockgateref05_learn
  have O_ := (orc_cons K_lockgateref05_Is (orc_cons K_lockgateref03_Meet (orc_cons K_lockgateref05_meet (orc_cons K_lockgateref05_without (orc_cons K_lockgateref05_less (orc_cons K_lockgateref05_under on_))))))
  refine gite (fun h0 => ?_) (fun h0 => ?_)
  · refine gite (fun h1 => ?_) (fun h1 => ?_)
    · refine gite (fun h2 => ?_) (fun h2 => ?_)
      · refine gite (fun h3 => ?_) (fun h3 => ?_)
        · exact gv mix O_ 400 [t0, t0, t0, t0, t0] (ai h0 (ai h1 (ai h2 (a2 h3 trivial)))) (by kernel_rfl) rfl rfl
        · exact gv mix O_ 400 [t0, t0, t0, f0, f0] (ai h0 (ai h1 (ai h2 (a2 (bf h3) trivial)))) (by kernel_rfl) rfl rfl
      · refine gite (fun h3 => ?_) (fun h3 => ?_)
        · exact gv mix O_ 400 [t0, t0, f0, t0, t0] (ai h0 (ai h1 (ai (bf h2) (a2 h3 trivial)))) (by kernel_rfl) rfl rfl
        · exact gv mix O_ 400 [t0, t0, f0, f0, f0] (ai h0 (ai h1 (ai (bf h2) (a2 (bf h3) trivial)))) (by kernel_rfl) rfl rfl
    · refine gite (fun h2 => ?_) (fun h2 => ?_)
      · exact gv mix O_ 400 [t0, f0, t0] (ai h0 (ai (bf h1) (ai h2 trivial))) (by kernel_rfl) rfl rfl
      · exact gv mix O_ 400 [t0, f0, f0] (ai h0 (ai (bf h1) (ai (bf h2) trivial))) (by kernel_rfl) rfl rfl
  · refine gite (fun h1 => ?_) (fun h1 => ?_)
    · refine gite (fun h2 => ?_) (fun h2 => ?_)
      · exact gv mix O_ 400 [f0, t0, t0, t0] (ai (bf h0) (ai (be h1) (a2 h2 trivial))) (by kernel_rfl) rfl rfl
      · exact gv mix O_ 400 [f0, t0, f0, f0] (ai (bf h0) (ai (be h1) (a2 (bf h2) trivial))) (by kernel_rfl) rfl rfl
    · refine gite (fun h2 => ?_) (fun h2 => ?_)
      · refine gite (fun h3 => ?_) (fun h3 => ?_)
        · refine gite (fun h4 => ?_) (fun h4 => ?_)
          · refine gite (fun h5 => ?_) (fun h5 => ?_)
            · exact gv mix O_ 400 [f0, f0, t0, t0, t0, t0, t0] (ai (bf h0) (ai (bn h1) (ai (be h2) (ai h3 (ai h4 (a2 h5 trivial)))))) (by kernel_rfl) rfl rfl
            · exact gv mix O_ 400 [f0, f0, t0, t0, t0, f0, f0] (ai (bf h0) (ai (bn h1) (ai (be h2) (ai h3 (ai h4 (a2 (bf h5) trivial)))))) (by kernel_rfl) rfl rfl
          · refine gite (fun h5 => ?_) (fun h5 => ?_)
            · exact gv mix O_ 400 [f0, f0, t0, t0, f0, t0, t0] (ai (bf h0) (ai (bn h1) (ai (be h2) (ai h3 (ai (bf h4) (a2 h5 trivial)))))) (by kernel_rfl) rfl rfl
            · exact gv mix O_ 400 [f0, f0, t0, t0, f0, f0, f0] (ai (bf h0) (ai (bn h1) (ai (be h2) (ai h3 (ai (bf h4) (a2 (bf h5) trivial)))))) (by kernel_rfl) rfl rfl
        · refine gite (fun h4 => ?_) (fun h4 => ?_)
          · exact gv mix O_ 400 [f0, f0, t0, f0, t0] (ai (bf h0) (ai (bn h1) (ai (be h2) (ai (bf h3) (ai h4 trivial))))) (by kernel_rfl) rfl rfl
          · exact gv mix O_ 400 [f0, f0, t0, f0, f0] (ai (bf h0) (ai (bn h1) (ai (be h2) (ai (bf h3) (ai (bf h4) trivial))))) (by kernel_rfl) rfl rfl
      · refine gite (fun h3 => ?_) (fun h3 => ?_)
        · refine gite (fun h4 => ?_) (fun h4 => ?_)
          · exact gv mix O_ 400 [f0, f0, f0, t0, t0, t0, (1, true), t0] (ai (bf h0) (ai (bn h1) (ai (bn h2) (a3 (be h3) (a2 h4 trivial))))) (by kernel_rfl) rfl rfl
          · exact gv mix O_ 400 [f0, f0, f0, t0, t0, t0, (1, false), f0] (ai (bf h0) (ai (bn h1) (ai (bn h2) (a3 (be h3) (a2 (bf h4) trivial))))) (by kernel_rfl) rfl rfl
        · refine gite (fun h4 => ?_) (fun h4 => ?_)
          · refine gite (fun h5 => ?_) (fun h5 => ?_)
            · exact gv mix O_ 400 [f0, f0, f0, f0, f0, f0, t0, t0, t0] (ai (bf h0) (ai (bn h1) (ai (bn h2) (a3 (bn h3) (ai (be h4) (a2 h5 trivial)))))) (by kernel_rfl) rfl rfl
            · exact gv mix O_ 400 [f0, f0, f0, f0, f0, f0, t0, f0, f0] (ai (bf h0) (ai (bn h1) (ai (bn h2) (a3 (bn h3) (ai (be h4) (a2 (bf h5) trivial)))))) (by kernel_rfl) rfl rfl
          · refine gite (fun h5 => ?_) (fun h5 => ?_)
            · refine gite (fun h6 => ?_) (fun h6 => ?_)
              · exact gv mix O_ 400 [f0, f0, f0, f0, f0, f0, f0, t0, t0, t0, (1, true), t0] (ai (bf h0) (ai (bn h1) (ai (bn h2) (a3 (bn h3) (ai (bn h4) (a3 (be h5) (a2 h6 trivial))))))) (by kernel_rfl) rfl rfl
              · exact gv mix O_ 400 [f0, f0, f0, f0, f0, f0, f0, t0, t0, t0, (1, false), f0] (ai (bf h0) (ai (bn h1) (ai (bn h2) (a3 (bn h3) (ai (bn h4) (a3 (be h5) (a2 (bf h6) trivial))))))) (by kernel_rfl) rfl rfl
            · refine gite (fun h6 => ?_) (fun h6 => ?_)
              · refine gite (fun h7 => ?_) (fun h7 => ?_)
                · exact gv mix O_ 400 [f0, f0, f0, f0, f0, f0, f0, f0, f0, f0, t0, t0, t0] (ai (bf h0) (ai (bn h1) (ai (bn h2) (a3 (bn h3) (ai (bn h4) (a3 (bn h5) (ai (be h6) (a2 h7 trivial)))))))) (by kernel_rfl) rfl rfl
                · exact gv mix O_ 400 [f0, f0, f0, f0, f0, f0, f0, f0, f0, f0, t0, f0, f0] (ai (bf h0) (ai (bn h1) (ai (bn h2) (a3 (bn h3) (ai (bn h4) (a3 (bn h5) (ai (be h6) (a2 (bf h7) trivial)))))))) (by kernel_rfl) rfl rfl
              · refine gite (fun h7 => ?_) (fun h7 => ?_)
                · refine gite (fun h8 => ?_) (fun h8 => ?_)
                  · exact gv mix O_ 400 [f0, f0, f0, f0, f0, f0, f0, f0, f0, f0, f0, t0, t0, t0, (1, true), t0] (ai (bf h0) (ai (bn h1) (ai (bn h2) (a3 (bn h3) (ai (bn h4) (a3 (bn h5) (ai (bn h6) (a3 (be h7) (a2 h8 trivial))))))))) (by kernel_rfl) rfl rfl
                  · exact gv mix O_ 400 [f0, f0, f0, f0, f0, f0, f0, f0, f0, f0, f0, t0, t0, t0, (1, false), f0] (ai (bf h0) (ai (bn h1) (ai (bn h2) (a3 (bn h3) (ai (bn h4) (a3 (bn h5) (ai (bn h6) (a3 (be h7) (a2 (bf h8) trivial))))))))) (by kernel_rfl) rfl rfl
                · refine gite (fun h8 => ?_) (fun h8 => ?_)
                  · refine gite (fun h9 => ?_) (fun h9 => ?_)
                    · exact gv mix O_ 400 [f0, f0, f0, f0, f0, f0, f0, f0, f0, f0, f0, f0, f0, f0, t0, t0, t0] (ai (bf h0) (ai (bn h1) (ai (bn h2) (a3 (bn h3) (ai (bn h4) (a3 (bn h5) (ai (bn h6) (a3 (bn h7) (ai (be h8) (a2 h9 trivial)))))))))) (by kernel_rfl) rfl rfl
                    · exact gv mix O_ 400 [f0, f0, f0, f0, f0, f0, f0, f0, f0, f0, f0, f0, f0, f0, t0, f0, f0] (ai (bf h0) (ai (bn h1) (ai (bn h2) (a3 (bn h3) (ai (bn h4) (a3 (bn h5) (ai (bn h6) (a3 (bn h7) (ai (be h8) (a2 (bf h9) trivial)))))))))) (by kernel_rfl) rfl rfl
                  · refine gite (fun h9 => ?_) (fun h9 => ?_)
                    · refine gite (fun h10 => ?_) (fun h10 => ?_)
                      · exact gv mix O_ 400 [f0, f0, f0, f0, f0, f0, f0, f0, f0, f0, f0, f0, f0, f0, f0, t0, t0, t0, (1, true), t0] (ai (bf h0) (ai (bn h1) (ai (bn h2) (a3 (bn h3) (ai (bn h4) (a3 (bn h5) (ai (bn h6) (a3 (bn h7) (ai (bn h8) (a3 (be h9) (a2 h10 trivial))))))))))) (by kernel_rfl) rfl rfl
                      · exact gv mix O_ 400 [f0, f0, f0, f0, f0, f0, f0, f0, f0, f0, f0, f0, f0, f0, f0, t0, t0, t0, (1, false), f0] (ai (bf h0) (ai (bn h1) (ai (bn h2) (a3 (bn h3) (ai (bn h4) (a3 (bn h5) (ai (bn h6) (a3 (bn h7) (ai (bn h8) (a3 (be h9) (a2 (bf h10) trivial))))))))))) (by kernel_rfl) rfl rfl
                    · refine gite (fun h10 => ?_) (fun h10 => ?_)
                      · refine gite (fun h11 => ?_) (fun h11 => ?_)
                        · exact gv mix O_ 400 [f0, f0, f0, f0, f0, f0, f0, f0, f0, f0, f0, f0, f0, f0, f0, f0, f0, f0, t0, t0, t0] (ai (bf h0) (ai (bn h1) (ai (bn h2) (a3 (bn h3) (ai (bn h4) (a3 (bn h5) (ai (bn h6) (a3 (bn h7) (ai (bn h8) (a3 (bn h9) (ai (be h10) (a2 h11 trivial)))))))))))) (by kernel_rfl) rfl rfl
                        · exact gv mix O_ 400 [f0, f0, f0, f0, f0, f0, f0, f0, f0, f0, f0, f0, f0, f0, f0, f0, f0, f0, t0, f0, f0] (ai (bf h0) (ai (bn h1) (ai (bn h2) (a3 (bn h3) (ai (bn h4) (a3 (bn h5) (ai (bn h6) (a3 (bn h7) (ai (bn h8) (a3 (bn h9) (ai (be h10) (a2 (bf h11) trivial)))))))))))) (by kernel_rfl) rfl rfl
                      · exact gv mix O_ 400 [f0, f0, f0, f0, f0, f0, f0, f0, f0, f0, f0, f0, f0, f0, f0, f0, f0, f0, f0] (ai (bf h0) (ai (bn h1) (ai (bn h2) (a3 (bn h3) (ai (bn h4) (a3 (bn h5) (ai (bn h6) (a3 (bn h7) (ai (bn h8) (a3 (bn h9) (ai (bn h10) trivial))))))))))) (by kernel_rfl) rfl rfl
theorem G_lockgateref05_Branch_1 (b : Bool) (c : Bool) (d : Sc) (e : Sc) : Gives Tryz.prog 12 [(cI .i64).enc 1, cB.enc b, cB.enc c, cSc.enc d, cSc.enc e] ((cP3 cSc cSc cB).enc (lockgateref05_Branch_1 b c d e)) := by
  unfold lockgateref05_Branch_1
  have O_ := (orc_cons K_lockgateref05_Is (orc_cons K_lockgateref01_Jump (orc_cons K_lockgateref05_learn (orc_cons K_lockgateref05_Norm (orc_cons K_lockgateref05_Upto (orc_cons K_lockgateref05_Within on_))))))
  refine gite (fun h0 => ?_) (fun h0 => ?_)
  · refine gite (fun h1 => ?_) (fun h1 => ?_)
    · refine gite (fun h2 => ?_) (fun h2 => ?_)
      · refine gite (fun h3 => ?_) (fun h3 => ?_)
        · exact gv mix O_ 400 [f0, t0, t0, t0, t0] (ai (cn h0) (a2 h1 (ai h2 (ai h3 trivial)))) (by kernel_rfl) rfl rfl
        · exact gv mix O_ 400 [f0, t0, t0, t0, f0] (ai (cn h0) (a2 h1 (ai h2 (ai (bf h3) trivial)))) (by kernel_rfl) rfl rfl
      · refine gite (fun h3 => ?_) (fun h3 => ?_)
        · refine gite (fun h4 => ?_) (fun h4 => ?_)
          · refine gite (fun h5 => ?_) (fun h5 => ?_)
            · refine gite (fun h6 => ?_) (fun h6 => ?_)
              · refine gite (fun h7 => ?_) (fun h7 => ?_)
                · exact gv mix O_ 400 [f0, t0, t0, f0, (9, false), f0, f0, f0, f0, f0, f0, f0, f0, (4, false), f0, f0, f0, f0, f0] (ai (cn h0) (a2 h1 (ai (bf h2) (a9 (cn h3) (ai (cn h4) (ai (cn h5) (a3 (cn h6) (ai (cn h7) trivial)))))))) (by kernel_rfl) rfl rfl
                · exact gv mix O_ 400 [f0, t0, t0, f0, (9, false), f0, f0, f0, f0, f0, f0, f0, f0, (4, false), f0, f0, f0, f0, t0] (ai (cn h0) (a2 h1 (ai (bf h2) (a9 (cn h3) (ai (cn h4) (ai (cn h5) (a3 (cn h6) (ai (cn (bf h7)) trivial)))))))) (by kernel_rfl) rfl rfl
              · exact gv mix O_ 400 [f0, t0, t0, f0, (9, false), f0, f0, f0, f0, f0, f0, f0, f0, (4, false), f0, t0, t0, t0] (ai (cn h0) (a2 h1 (ai (bf h2) (a9 (cn h3) (ai (cn h4) (ai (cn h5) (a3 (cn (bf h6)) trivial))))))) (by kernel_rfl) rfl rfl
            · exact gv mix O_ 400 [f0, t0, t0, f0, (9, false), f0, f0, f0, f0, f0, f0, f0, f0, (4, false), t0] (ai (cn h0) (a2 h1 (ai (bf h2) (a9 (cn h3) (ai (cn h4) (ai (cn (bf h5)) trivial)))))) (by kernel_rfl) rfl rfl
          · refine gite (fun h5 => ?_) (fun h5 => ?_)
            · refine gite (fun h6 => ?_) (fun h6 => ?_)
              · refine gite (fun h7 => ?_) (fun h7 => ?_)
                · exact gv mix O_ 400 [f0, t0, t0, f0, (9, false), f0, f0, f0, f0, f0, f0, f0, f0, (4, true), (4, false), f0, f0, f0, f0] (ai (cn h0) (a2 h1 (ai (bf h2) (a9 (cn h3) (ai (cn (bf h4)) (ai (cn h5) (a3 (cn h6) (ai (cn h7) trivial)))))))) (by kernel_rfl) rfl rfl
                · exact gv mix O_ 400 [f0, t0, t0, f0, (9, false), f0, f0, f0, f0, f0, f0, f0, f0, (4, true), (4, false), f0, f0, f0, t0] (ai (cn h0) (a2 h1 (ai (bf h2) (a9 (cn h3) (ai (cn (bf h4)) (ai (cn h5) (a3 (cn h6) (ai (cn (bf h7)) trivial)))))))) (by kernel_rfl) rfl rfl
              · exact gv mix O_ 400 [f0, t0, t0, f0, (9, false), f0, f0, f0, f0, f0, f0, f0, f0, (4, true), (4, false), t0, t0, t0] (ai (cn h0) (a2 h1 (ai (bf h2) (a9 (cn h3) (ai (cn (bf h4)) (ai (cn h5) (a3 (cn (bf h6)) trivial))))))) (by kernel_rfl) rfl rfl
            · exact gv mix O_ 400 [f0, t0, t0, f0, (9, false), f0, f0, f0, f0, f0, f0, f0, f0, (4, true), (4, true)] (ai (cn h0) (a2 h1 (ai (bf h2) (a9 (cn h3) (ai (cn (bf h4)) (ai (cn (bf h5)) trivial)))))) (by kernel_rfl) rfl rfl
        · refine gite (fun h4 => ?_) (fun h4 => ?_)
          · refine gite (fun h5 => ?_) (fun h5 => ?_)
            · refine gite (fun h6 => ?_) (fun h6 => ?_)
              · refine gite (fun h7 => ?_) (fun h7 => ?_)
                · refine gite (fun h8 => ?_) (fun h8 => ?_)
                  · refine gite (fun h9 => ?_) (fun h9 => ?_)
                    · exact gv mix O_ 400 [f0, t0, t0, f0, (9, true), t0, t0, t0, t0, f0, f0, f0, f0, t0, f0, t0, f0, f0, (6, false), (1, true), f0, t0, (4, false), f0, f0, f0, f0, f0] (ai (cn h0) (a2 h1 (ai (bf h2) (a5 (cn (bf h3)) (a4 (cn h4) (ai (cn (bf h3)) (ai (cn h4) (ai (cn (bf h3)) (a3 (cn h5) (ai (cn (bf h3)) (ai (cn h5) (ai (cn (bf h3)) (ai (cn h6) (ai (cn h7) (a3 (cn h8) (ai (cn h9) trivial)))))))))))))))) (by kernel_rfl) rfl rfl
                    · exact gv mix O_ 400 [f0, t0, t0, f0, (9, true), t0, t0, t0, t0, f0, f0, f0, f0, t0, f0, t0, f0, f0, (6, false), (1, true), f0, t0, (4, false), f0, f0, f0, f0, t0] (ai (cn h0) (a2 h1 (ai (bf h2) (a5 (cn (bf h3)) (a4 (cn h4) (ai (cn (bf h3)) (ai (cn h4) (ai (cn (bf h3)) (a3 (cn h5) (ai (cn (bf h3)) (ai (cn h5) (ai (cn (bf h3)) (ai (cn h6) (ai (cn h7) (a3 (cn h8) (ai (cn (bf h9)) trivial)))))))))))))))) (by kernel_rfl) rfl rfl
                  · exact gv mix O_ 400 [f0, t0, t0, f0, (9, true), t0, t0, t0, t0, f0, f0, f0, f0, t0, f0, t0, f0, f0, (6, false), (1, true), f0, t0, (4, false), f0, t0, t0, t0] (ai (cn h0) (a2 h1 (ai (bf h2) (a5 (cn (bf h3)) (a4 (cn h4) (ai (cn (bf h3)) (ai (cn h4) (ai (cn (bf h3)) (a3 (cn h5) (ai (cn (bf h3)) (ai (cn h5) (ai (cn (bf h3)) (ai (cn h6) (ai (cn h7) (a3 (cn (bf h8)) trivial))))))))))))))) (by kernel_rfl) rfl rfl
                · exact gv mix O_ 400 [f0, t0, t0, f0, (9, true), t0, t0, t0, t0, f0, f0, f0, f0, t0, f0, t0, f0, f0, (6, false), (1, true), f0, t0, (4, false), t0] (ai (cn h0) (a2 h1 (ai (bf h2) (a5 (cn (bf h3)) (a4 (cn h4) (ai (cn (bf h3)) (ai (cn h4) (ai (cn (bf h3)) (a3 (cn h5) (ai (cn (bf h3)) (ai (cn h5) (ai (cn (bf h3)) (ai (cn h6) (ai (cn (bf h7)) trivial)))))))))))))) (by kernel_rfl) rfl rfl
              · refine gite (fun h7 => ?_) (fun h7 => ?_)
                · refine gite (fun h8 => ?_) (fun h8 => ?_)
                  · refine gite (fun h9 => ?_) (fun h9 => ?_)
                    · exact gv mix O_ 400 [f0, t0, t0, f0, (9, true), t0, t0, t0, t0, f0, f0, f0, f0, t0, f0, t0, f0, f0, (6, false), (1, true), f0, t0, (4, true), (4, false), f0, f0, f0, f0] (ai (cn h0) (a2 h1 (ai (bf h2) (a5 (cn (bf h3)) (a4 (cn h4) (ai (cn (bf h3)) (ai (cn h4) (ai (cn (bf h3)) (a3 (cn h5) (ai (cn (bf h3)) (ai (cn h5) (ai (cn (bf h3)) (ai (cn (bf h6)) (ai (cn h7) (a3 (cn h8) (ai (cn h9) trivial)))))))))))))))) (by kernel_rfl) rfl rfl
                    · exact gv mix O_ 400 [f0, t0, t0, f0, (9, true), t0, t0, t0, t0, f0, f0, f0, f0, t0, f0, t0, f0, f0, (6, false), (1, true), f0, t0, (4, true), (4, false), f0, f0, f0, t0] (ai (cn h0) (a2 h1 (ai (bf h2) (a5 (cn (bf h3)) (a4 (cn h4) (ai (cn (bf h3)) (ai (cn h4) (ai (cn (bf h3)) (a3 (cn h5) (ai (cn (bf h3)) (ai (cn h5) (ai (cn (bf h3)) (ai (cn (bf h6)) (ai (cn h7) (a3 (cn h8) (ai (cn (bf h9)) trivial)))))))))))))))) (by kernel_rfl) rfl rfl
                  · exact gv mix O_ 400 [f0, t0, t0, f0, (9, true), t0, t0, t0, t0, f0, f0, f0, f0, t0, f0, t0, f0, f0, (6, false), (1, true), f0, t0, (4, true), (4, false), t0, t0, t0] (ai (cn h0) (a2 h1 (ai (bf h2) (a5 (cn (bf h3)) (a4 (cn h4) (ai (cn (bf h3)) (ai (cn h4) (ai (cn (bf h3)) (a3 (cn h5) (ai (cn (bf h3)) (ai (cn h5) (ai (cn (bf h3)) (ai (cn (bf h6)) (ai (cn h7) (a3 (cn (bf h8)) trivial))))))))))))))) (by kernel_rfl) rfl rfl
                · exact gv mix O_ 400 [f0, t0, t0, f0, (9, true), t0, t0, t0, t0, f0, f0, f0, f0, t0, f0, t0, f0, f0, (6, false), (1, true), f0, t0, (4, true), (4, true)] (ai (cn h0) (a2 h1 (ai (bf h2) (a5 (cn (bf h3)) (a4 (cn h4) (ai (cn (bf h3)) (ai (cn h4) (ai (cn (bf h3)) (a3 (cn h5) (ai (cn (bf h3)) (ai (cn h5) (ai (cn (bf h3)) (ai (cn (bf h6)) (ai (cn (bf h7)) trivial)))))))))))))) (by kernel_rfl) rfl rfl
            · exact gv mix O_ 400 [f0, t0, t0, f0, (9, true), t0, t0, t0, t0, f0, f0, f0, f0, t0, f0, t0, t0, t0, t0, t0, t0, t0] (ai (cn h0) (a2 h1 (ai (bf h2) (a5 (cn (bf h3)) (a4 (cn h4) (ai (cn (bf h3)) (ai (cn h4) (ai (cn (bf h3)) (a3 (cn (bf h5)) (ai (cn (bf h3)) (ai (cn (bf h5)) (ai (cn (bf h3)) trivial)))))))))))) (by kernel_rfl) rfl rfl
          · exact gv mix O_ 400 [f0, t0, t0, f0, (9, true), t0, t0, t0, t0, t0, t0, t0, t0, t0, t0, t0, (3, true), (1, true)] (ai (cn h0) (a2 h1 (ai (bf h2) (a5 (cn (bf h3)) (a4 (cn (bf h4)) (ai (cn (bf h3)) (ai (cn (bf h4)) (a3 (cn (bf h3)) trivial)))))))) (by kernel_rfl) rfl rfl
    · refine gite (fun h2 => ?_) (fun h2 => ?_)
      · refine gite (fun h3 => ?_) (fun h3 => ?_)
        · refine gite (fun h4 => ?_) (fun h4 => ?_)
          · refine gite (fun h5 => ?_) (fun h5 => ?_)
            · refine gite (fun h6 => ?_) (fun h6 => ?_)
              · exact gv mix O_ 400 [f0, f0, f0, (10, false), f0, f0, f0, f0, f0, f0, f0, f0, (4, false), f0, f0, f0, f0, f0] (ai (cn h0) (a2 (bf h1) (a9 (cn h2) (ai (cn h3) (ai (cn h4) (a3 (cn h5) (ai (cn h6) trivial))))))) (by kernel_rfl) rfl rfl
              · exact gv mix O_ 400 [f0, f0, f0, (10, false), f0, f0, f0, f0, f0, f0, f0, f0, (4, false), f0, f0, f0, f0, t0] (ai (cn h0) (a2 (bf h1) (a9 (cn h2) (ai (cn h3) (ai (cn h4) (a3 (cn h5) (ai (cn (bf h6)) trivial))))))) (by kernel_rfl) rfl rfl
            · exact gv mix O_ 400 [f0, f0, f0, (10, false), f0, f0, f0, f0, f0, f0, f0, f0, (4, false), f0, t0, t0, t0] (ai (cn h0) (a2 (bf h1) (a9 (cn h2) (ai (cn h3) (ai (cn h4) (a3 (cn (bf h5)) trivial)))))) (by kernel_rfl) rfl rfl
          · exact gv mix O_ 400 [f0, f0, f0, (10, false), f0, f0, f0, f0, f0, f0, f0, f0, (4, false), t0] (ai (cn h0) (a2 (bf h1) (a9 (cn h2) (ai (cn h3) (ai (cn (bf h4)) trivial))))) (by kernel_rfl) rfl rfl
        · refine gite (fun h4 => ?_) (fun h4 => ?_)
          · refine gite (fun h5 => ?_) (fun h5 => ?_)
            · refine gite (fun h6 => ?_) (fun h6 => ?_)
              · exact gv mix O_ 400 [f0, f0, f0, (10, false), f0, f0, f0, f0, f0, f0, f0, f0, (4, true), (4, false), f0, f0, f0, f0] (ai (cn h0) (a2 (bf h1) (a9 (cn h2) (ai (cn (bf h3)) (ai (cn h4) (a3 (cn h5) (ai (cn h6) trivial))))))) (by kernel_rfl) rfl rfl
              · exact gv mix O_ 400 [f0, f0, f0, (10, false), f0, f0, f0, f0, f0, f0, f0, f0, (4, true), (4, false), f0, f0, f0, t0] (ai (cn h0) (a2 (bf h1) (a9 (cn h2) (ai (cn (bf h3)) (ai (cn h4) (a3 (cn h5) (ai (cn (bf h6)) trivial))))))) (by kernel_rfl) rfl rfl
            · exact gv mix O_ 400 [f0, f0, f0, (10, false), f0, f0, f0, f0, f0, f0, f0, f0, (4, true), (4, false), t0, t0, t0] (ai (cn h0) (a2 (bf h1) (a9 (cn h2) (ai (cn (bf h3)) (ai (cn h4) (a3 (cn (bf h5)) trivial)))))) (by kernel_rfl) rfl rfl
          · exact gv mix O_ 400 [f0, f0, f0, (10, false), f0, f0, f0, f0, f0, f0, f0, f0, (4, true), (4, true)] (ai (cn h0) (a2 (bf h1) (a9 (cn h2) (ai (cn (bf h3)) (ai (cn (bf h4)) trivial))))) (by kernel_rfl) rfl rfl
      · refine gite (fun h3 => ?_) (fun h3 => ?_)
        · refine gite (fun h4 => ?_) (fun h4 => ?_)
          · refine gite (fun h5 => ?_) (fun h5 => ?_)
            · refine gite (fun h6 => ?_) (fun h6 => ?_)
              · refine gite (fun h7 => ?_) (fun h7 => ?_)
                · refine gite (fun h8 => ?_) (fun h8 => ?_)
                  · exact gv mix O_ 400 [f0, f0, f0, (10, true), t0, t0, t0, t0, f0, f0, f0, f0, t0, f0, t0, f0, f0, (6, false), (1, true), f0, t0, (4, false), f0, f0, f0, f0, f0] (ai (cn h0) (a2 (bf h1) (a5 (cn (bf h2)) (a4 (cn h3) (ai (cn (bf h2)) (ai (cn h3) (ai (cn (bf h2)) (a3 (cn h4) (ai (cn (bf h2)) (ai (cn h4) (ai (cn (bf h2)) (ai (cn h5) (ai (cn h6) (a3 (cn h7) (ai (cn h8) trivial))))))))))))))) (by kernel_rfl) rfl rfl
                  · exact gv mix O_ 400 [f0, f0, f0, (10, true), t0, t0, t0, t0, f0, f0, f0, f0, t0, f0, t0, f0, f0, (6, false), (1, true), f0, t0, (4, false), f0, f0, f0, f0, t0] (ai (cn h0) (a2 (bf h1) (a5 (cn (bf h2)) (a4 (cn h3) (ai (cn (bf h2)) (ai (cn h3) (ai (cn (bf h2)) (a3 (cn h4) (ai (cn (bf h2)) (ai (cn h4) (ai (cn (bf h2)) (ai (cn h5) (ai (cn h6) (a3 (cn h7) (ai (cn (bf h8)) trivial))))))))))))))) (by kernel_rfl) rfl rfl
                · exact gv mix O_ 400 [f0, f0, f0, (10, true), t0, t0, t0, t0, f0, f0, f0, f0, t0, f0, t0, f0, f0, (6, false), (1, true), f0, t0, (4, false), f0, t0, t0, t0] (ai (cn h0) (a2 (bf h1) (a5 (cn (bf h2)) (a4 (cn h3) (ai (cn (bf h2)) (ai (cn h3) (ai (cn (bf h2)) (a3 (cn h4) (ai (cn (bf h2)) (ai (cn h4) (ai (cn (bf h2)) (ai (cn h5) (ai (cn h6) (a3 (cn (bf h7)) trivial)))))))))))))) (by kernel_rfl) rfl rfl
              · exact gv mix O_ 400 [f0, f0, f0, (10, true), t0, t0, t0, t0, f0, f0, f0, f0, t0, f0, t0, f0, f0, (6, false), (1, true), f0, t0, (4, false), t0] (ai (cn h0) (a2 (bf h1) (a5 (cn (bf h2)) (a4 (cn h3) (ai (cn (bf h2)) (ai (cn h3) (ai (cn (bf h2)) (a3 (cn h4) (ai (cn (bf h2)) (ai (cn h4) (ai (cn (bf h2)) (ai (cn h5) (ai (cn (bf h6)) trivial))))))))))))) (by kernel_rfl) rfl rfl
            · refine gite (fun h6 => ?_) (fun h6 => ?_)
              · refine gite (fun h7 => ?_) (fun h7 => ?_)
                · refine gite (fun h8 => ?_) (fun h8 => ?_)
                  · exact gv mix O_ 400 [f0, f0, f0, (10, true), t0, t0, t0, t0, f0, f0, f0, f0, t0, f0, t0, f0, f0, (6, false), (1, true), f0, t0, (4, true), (4, false), f0, f0, f0, f0] (ai (cn h0) (a2 (bf h1) (a5 (cn (bf h2)) (a4 (cn h3) (ai (cn (bf h2)) (ai (cn h3) (ai (cn (bf h2)) (a3 (cn h4) (ai (cn (bf h2)) (ai (cn h4) (ai (cn (bf h2)) (ai (cn (bf h5)) (ai (cn h6) (a3 (cn h7) (ai (cn h8) trivial))))))))))))))) (by kernel_rfl) rfl rfl
                  · exact gv mix O_ 400 [f0, f0, f0, (10, true), t0, t0, t0, t0, f0, f0, f0, f0, t0, f0, t0, f0, f0, (6, false), (1, true), f0, t0, (4, true), (4, false), f0, f0, f0, t0] (ai (cn h0) (a2 (bf h1) (a5 (cn (bf h2)) (a4 (cn h3) (ai (cn (bf h2)) (ai (cn h3) (ai (cn (bf h2)) (a3 (cn h4) (ai (cn (bf h2)) (ai (cn h4) (ai (cn (bf h2)) (ai (cn (bf h5)) (ai (cn h6) (a3 (cn h7) (ai (cn (bf h8)) trivial))))))))))))))) (by kernel_rfl) rfl rfl
                · exact gv mix O_ 400 [f0, f0, f0, (10, true), t0, t0, t0, t0, f0, f0, f0, f0, t0, f0, t0, f0, f0, (6, false), (1, true), f0, t0, (4, true), (4, false), t0, t0, t0] (ai (cn h0) (a2 (bf h1) (a5 (cn (bf h2)) (a4 (cn h3) (ai (cn (bf h2)) (ai (cn h3) (ai (cn (bf h2)) (a3 (cn h4) (ai (cn (bf h2)) (ai (cn h4) (ai (cn (bf h2)) (ai (cn (bf h5)) (ai (cn h6) (a3 (cn (bf h7)) trivial)))))))))))))) (by kernel_rfl) rfl rfl
              · exact gv mix O_ 400 [f0, f0, f0, (10, true), t0, t0, t0, t0, f0, f0, f0, f0, t0, f0, t0, f0, f0, (6, false), (1, true), f0, t0, (4, true), (4, true)] (ai (cn h0) (a2 (bf h1) (a5 (cn (bf h2)) (a4 (cn h3) (ai (cn (bf h2)) (ai (cn h3) (ai (cn (bf h2)) (a3 (cn h4) (ai (cn (bf h2)) (ai (cn h4) (ai (cn (bf h2)) (ai (cn (bf h5)) (ai (cn (bf h6)) trivial))))))))))))) (by kernel_rfl) rfl rfl
          · exact gv mix O_ 400 [f0, f0, f0, (10, true), t0, t0, t0, t0, f0, f0, f0, f0, t0, f0, t0, t0, t0, t0, t0, t0, t0] (ai (cn h0) (a2 (bf h1) (a5 (cn (bf h2)) (a4 (cn h3) (ai (cn (bf h2)) (ai (cn h3) (ai (cn (bf h2)) (a3 (cn (bf h4)) (ai (cn (bf h2)) (ai (cn (bf h4)) (ai (cn (bf h2)) trivial))))))))))) (by kernel_rfl) rfl rfl
        · exact gv mix O_ 400 [f0, f0, f0, (10, true), t0, t0, t0, t0, t0, t0, t0, t0, t0, t0, t0, (3, true), (1, true)] (ai (cn h0) (a2 (bf h1) (a5 (cn (bf h2)) (a4 (cn (bf h3)) (ai (cn (bf h2)) (ai (cn (bf h3)) (a3 (cn (bf h2)) trivial))))))) (by kernel_rfl) rfl rfl
  · exact gv mix O_ 400 [t0] (ai (cn (bf h0)) trivial) (by kernel_rfl) rfl rfl
theorem G_lockgateref05_Branch_2 (b : Bool) (c : Bool) (d : Sc) (e : Sc) : Gives Tryz.prog 12 [(cI .i64).enc 2, cB.enc b, cB.enc c, cSc.enc d, cSc.enc e] ((cP3 cSc cSc cB).enc (lockgateref05_Branch_2 b c d e)) := by
  unfold lockgateref05_Branch_2
  have O_ := (orc_cons K_lockgateref05_Is (orc_cons K_lockgateref01_Jump (orc_cons K_lockgateref05_learn (orc_cons K_lockgateref05_Norm (orc_cons K_lockgateref05_Upto (orc_cons K_lockgateref05_Within on_))))))
  refine gite (fun h0 => ?_) (fun h0 => ?_)
  · refine gite (fun h1 => ?_) (fun h1 => ?_)
    · refine gite (fun h2 => ?_) (fun h2 => ?_)
      · refine gite (fun h3 => ?_) (fun h3 => ?_)
        · exact gv mix O_ 400 [f0, t0, t0, t0, t0] (ai (cn h0) (a2 h1 (ai h2 (ai h3 trivial)))) (by kernel_rfl) rfl rfl
        · exact gv mix O_ 400 [f0, t0, t0, t0, f0] (ai (cn h0) (a2 h1 (ai h2 (ai (bf h3) trivial)))) (by kernel_rfl) rfl rfl
      · refine gite (fun h3 => ?_) (fun h3 => ?_)
        · refine gite (fun h4 => ?_) (fun h4 => ?_)
          · refine gite (fun h5 => ?_) (fun h5 => ?_)
            · refine gite (fun h6 => ?_) (fun h6 => ?_)
              · refine gite (fun h7 => ?_) (fun h7 => ?_)
                · exact gv mix O_ 400 [f0, t0, t0, f0, (9, false), f0, f0, f0, f0, f0, f0, f0, f0, (4, false), f0, f0, f0, f0, f0] (ai (cn h0) (a2 h1 (ai (bf h2) (a9 (cn h3) (ai (cn h4) (ai (cn h5) (a3 (cn h6) (ai (cn h7) trivial)))))))) (by kernel_rfl) rfl rfl
                · exact gv mix O_ 400 [f0, t0, t0, f0, (9, false), f0, f0, f0, f0, f0, f0, f0, f0, (4, false), f0, f0, f0, f0, t0] (ai (cn h0) (a2 h1 (ai (bf h2) (a9 (cn h3) (ai (cn h4) (ai (cn h5) (a3 (cn h6) (ai (cn (bf h7)) trivial)))))))) (by kernel_rfl) rfl rfl
              · exact gv mix O_ 400 [f0, t0, t0, f0, (9, false), f0, f0, f0, f0, f0, f0, f0, f0, (4, false), f0, t0, t0, t0] (ai (cn h0) (a2 h1 (ai (bf h2) (a9 (cn h3) (ai (cn h4) (ai (cn h5) (a3 (cn (bf h6)) trivial))))))) (by kernel_rfl) rfl rfl
            · exact gv mix O_ 400 [f0, t0, t0, f0, (9, false), f0, f0, f0, f0, f0, f0, f0, f0, (4, false), t0] (ai (cn h0) (a2 h1 (ai (bf h2) (a9 (cn h3) (ai (cn h4) (ai (cn (bf h5)) trivial)))))) (by kernel_rfl) rfl rfl
          · refine gite (fun h5 => ?_) (fun h5 => ?_)
            · refine gite (fun h6 => ?_) (fun h6 => ?_)
              · refine gite (fun h7 => ?_) (fun h7 => ?_)
                · exact gv mix O_ 400 [f0, t0, t0, f0, (9, false), f0, f0, f0, f0, f0, f0, f0, f0, (4, true), (10, false), f0, f0, f0, f0] (ai (cn h0) (a2 h1 (ai (bf h2) (a9 (cn h3) (ai (cn (bf h4)) (ai (cn h5) (a3 (cn h6) (ai (cn h7) trivial)))))))) (by kernel_rfl) rfl rfl
                · exact gv mix O_ 400 [f0, t0, t0, f0, (9, false), f0, f0, f0, f0, f0, f0, f0, f0, (4, true), (10, false), f0, f0, f0, t0] (ai (cn h0) (a2 h1 (ai (bf h2) (a9 (cn h3) (ai (cn (bf h4)) (ai (cn h5) (a3 (cn h6) (ai (cn (bf h7)) trivial)))))))) (by kernel_rfl) rfl rfl
              · exact gv mix O_ 400 [f0, t0, t0, f0, (9, false), f0, f0, f0, f0, f0, f0, f0, f0, (4, true), (10, false), t0, t0, t0] (ai (cn h0) (a2 h1 (ai (bf h2) (a9 (cn h3) (ai (cn (bf h4)) (ai (cn h5) (a3 (cn (bf h6)) trivial))))))) (by kernel_rfl) rfl rfl
            · exact gv mix O_ 400 [f0, t0, t0, f0, (9, false), f0, f0, f0, f0, f0, f0, f0, f0, (4, true), (10, true)] (ai (cn h0) (a2 h1 (ai (bf h2) (a9 (cn h3) (ai (cn (bf h4)) (ai (cn (bf h5)) trivial)))))) (by kernel_rfl) rfl rfl
        · refine gite (fun h4 => ?_) (fun h4 => ?_)
          · refine gite (fun h5 => ?_) (fun h5 => ?_)
            · refine gite (fun h6 => ?_) (fun h6 => ?_)
              · refine gite (fun h7 => ?_) (fun h7 => ?_)
                · refine gite (fun h8 => ?_) (fun h8 => ?_)
                  · refine gite (fun h9 => ?_) (fun h9 => ?_)
                    · exact gv mix O_ 400 [f0, t0, t0, f0, (9, true), t0, t0, t0, t0, f0, f0, f0, f0, t0, f0, t0, f0, f0, (6, false), (1, true), f0, t0, (4, false), f0, f0, f0, f0, f0] (ai (cn h0) (a2 h1 (ai (bf h2) (a5 (cn (bf h3)) (a4 (cn h4) (ai (cn (bf h3)) (ai (cn h4) (ai (cn (bf h3)) (a3 (cn h5) (ai (cn (bf h3)) (ai (cn h5) (ai (cn (bf h3)) (ai (cn h6) (ai (cn h7) (a3 (cn h8) (ai (cn h9) trivial)))))))))))))))) (by kernel_rfl) rfl rfl
                    · exact gv mix O_ 400 [f0, t0, t0, f0, (9, true), t0, t0, t0, t0, f0, f0, f0, f0, t0, f0, t0, f0, f0, (6, false), (1, true), f0, t0, (4, false), f0, f0, f0, f0, t0] (ai (cn h0) (a2 h1 (ai (bf h2) (a5 (cn (bf h3)) (a4 (cn h4) (ai (cn (bf h3)) (ai (cn h4) (ai (cn (bf h3)) (a3 (cn h5) (ai (cn (bf h3)) (ai (cn h5) (ai (cn (bf h3)) (ai (cn h6) (ai (cn h7) (a3 (cn h8) (ai (cn (bf h9)) trivial)))))))))))))))) (by kernel_rfl) rfl rfl
                  · exact gv mix O_ 400 [f0, t0, t0, f0, (9, true), t0, t0, t0, t0, f0, f0, f0, f0, t0, f0, t0, f0, f0, (6, false), (1, true), f0, t0, (4, false), f0, t0, t0, t0] (ai (cn h0) (a2 h1 (ai (bf h2) (a5 (cn (bf h3)) (a4 (cn h4) (ai (cn (bf h3)) (ai (cn h4) (ai (cn (bf h3)) (a3 (cn h5) (ai (cn (bf h3)) (ai (cn h5) (ai (cn (bf h3)) (ai (cn h6) (ai (cn h7) (a3 (cn (bf h8)) trivial))))))))))))))) (by kernel_rfl) rfl rfl
                · exact gv mix O_ 400 [f0, t0, t0, f0, (9, true), t0, t0, t0, t0, f0, f0, f0, f0, t0, f0, t0, f0, f0, (6, false), (1, true), f0, t0, (4, false), t0] (ai (cn h0) (a2 h1 (ai (bf h2) (a5 (cn (bf h3)) (a4 (cn h4) (ai (cn (bf h3)) (ai (cn h4) (ai (cn (bf h3)) (a3 (cn h5) (ai (cn (bf h3)) (ai (cn h5) (ai (cn (bf h3)) (ai (cn h6) (ai (cn (bf h7)) trivial)))))))))))))) (by kernel_rfl) rfl rfl
              · refine gite (fun h7 => ?_) (fun h7 => ?_)
                · refine gite (fun h8 => ?_) (fun h8 => ?_)
                  · refine gite (fun h9 => ?_) (fun h9 => ?_)
                    · exact gv mix O_ 400 [f0, t0, t0, f0, (9, true), t0, t0, t0, t0, f0, f0, f0, f0, t0, f0, t0, f0, f0, (6, false), (1, true), f0, t0, (4, true), (10, false), f0, f0, f0, f0] (ai (cn h0) (a2 h1 (ai (bf h2) (a5 (cn (bf h3)) (a4 (cn h4) (ai (cn (bf h3)) (ai (cn h4) (ai (cn (bf h3)) (a3 (cn h5) (ai (cn (bf h3)) (ai (cn h5) (ai (cn (bf h3)) (ai (cn (bf h6)) (ai (cn h7) (a3 (cn h8) (ai (cn h9) trivial)))))))))))))))) (by kernel_rfl) rfl rfl
                    · exact gv mix O_ 400 [f0, t0, t0, f0, (9, true), t0, t0, t0, t0, f0, f0, f0, f0, t0, f0, t0, f0, f0, (6, false), (1, true), f0, t0, (4, true), (10, false), f0, f0, f0, t0] (ai (cn h0) (a2 h1 (ai (bf h2) (a5 (cn (bf h3)) (a4 (cn h4) (ai (cn (bf h3)) (ai (cn h4) (ai (cn (bf h3)) (a3 (cn h5) (ai (cn (bf h3)) (ai (cn h5) (ai (cn (bf h3)) (ai (cn (bf h6)) (ai (cn h7) (a3 (cn h8) (ai (cn (bf h9)) trivial)))))))))))))))) (by kernel_rfl) rfl rfl
                  · exact gv mix O_ 400 [f0, t0, t0, f0, (9, true), t0, t0, t0, t0, f0, f0, f0, f0, t0, f0, t0, f0, f0, (6, false), (1, true), f0, t0, (4, true), (10, false), t0, t0, t0] (ai (cn h0) (a2 h1 (ai (bf h2) (a5 (cn (bf h3)) (a4 (cn h4) (ai (cn (bf h3)) (ai (cn h4) (ai (cn (bf h3)) (a3 (cn h5) (ai (cn (bf h3)) (ai (cn h5) (ai (cn (bf h3)) (ai (cn (bf h6)) (ai (cn h7) (a3 (cn (bf h8)) trivial))))))))))))))) (by kernel_rfl) rfl rfl
                · exact gv mix O_ 400 [f0, t0, t0, f0, (9, true), t0, t0, t0, t0, f0, f0, f0, f0, t0, f0, t0, f0, f0, (6, false), (1, true), f0, t0, (4, true), (10, true)] (ai (cn h0) (a2 h1 (ai (bf h2) (a5 (cn (bf h3)) (a4 (cn h4) (ai (cn (bf h3)) (ai (cn h4) (ai (cn (bf h3)) (a3 (cn h5) (ai (cn (bf h3)) (ai (cn h5) (ai (cn (bf h3)) (ai (cn (bf h6)) (ai (cn (bf h7)) trivial)))))))))))))) (by kernel_rfl) rfl rfl
            · exact gv mix O_ 400 [f0, t0, t0, f0, (9, true), t0, t0, t0, t0, f0, f0, f0, f0, t0, f0, t0, t0, t0, t0, t0, t0, t0] (ai (cn h0) (a2 h1 (ai (bf h2) (a5 (cn (bf h3)) (a4 (cn h4) (ai (cn (bf h3)) (ai (cn h4) (ai (cn (bf h3)) (a3 (cn (bf h5)) (ai (cn (bf h3)) (ai (cn (bf h5)) (ai (cn (bf h3)) trivial)))))))))))) (by kernel_rfl) rfl rfl
          · exact gv mix O_ 400 [f0, t0, t0, f0, (9, true), t0, t0, t0, t0, t0, t0, t0, t0, t0, t0, t0, (3, true), (1, true)] (ai (cn h0) (a2 h1 (ai (bf h2) (a5 (cn (bf h3)) (a4 (cn (bf h4)) (ai (cn (bf h3)) (ai (cn (bf h4)) (a3 (cn (bf h3)) trivial)))))))) (by kernel_rfl) rfl rfl
    · refine gite (fun h2 => ?_) (fun h2 => ?_)
      · refine gite (fun h3 => ?_) (fun h3 => ?_)
        · refine gite (fun h4 => ?_) (fun h4 => ?_)
          · refine gite (fun h5 => ?_) (fun h5 => ?_)
            · refine gite (fun h6 => ?_) (fun h6 => ?_)
              · exact gv mix O_ 400 [f0, f0, f0, (10, false), f0, f0, f0, f0, f0, f0, f0, f0, (4, false), f0, f0, f0, f0, f0] (ai (cn h0) (a2 (bf h1) (a9 (cn h2) (ai (cn h3) (ai (cn h4) (a3 (cn h5) (ai (cn h6) trivial))))))) (by kernel_rfl) rfl rfl
              · exact gv mix O_ 400 [f0, f0, f0, (10, false), f0, f0, f0, f0, f0, f0, f0, f0, (4, false), f0, f0, f0, f0, t0] (ai (cn h0) (a2 (bf h1) (a9 (cn h2) (ai (cn h3) (ai (cn h4) (a3 (cn h5) (ai (cn (bf h6)) trivial))))))) (by kernel_rfl) rfl rfl
            · exact gv mix O_ 400 [f0, f0, f0, (10, false), f0, f0, f0, f0, f0, f0, f0, f0, (4, false), f0, t0, t0, t0] (ai (cn h0) (a2 (bf h1) (a9 (cn h2) (ai (cn h3) (ai (cn h4) (a3 (cn (bf h5)) trivial)))))) (by kernel_rfl) rfl rfl
          · exact gv mix O_ 400 [f0, f0, f0, (10, false), f0, f0, f0, f0, f0, f0, f0, f0, (4, false), t0] (ai (cn h0) (a2 (bf h1) (a9 (cn h2) (ai (cn h3) (ai (cn (bf h4)) trivial))))) (by kernel_rfl) rfl rfl
        · refine gite (fun h4 => ?_) (fun h4 => ?_)
          · refine gite (fun h5 => ?_) (fun h5 => ?_)
            · refine gite (fun h6 => ?_) (fun h6 => ?_)
              · exact gv mix O_ 400 [f0, f0, f0, (10, false), f0, f0, f0, f0, f0, f0, f0, f0, (4, true), (10, false), f0, f0, f0, f0] (ai (cn h0) (a2 (bf h1) (a9 (cn h2) (ai (cn (bf h3)) (ai (cn h4) (a3 (cn h5) (ai (cn h6) trivial))))))) (by kernel_rfl) rfl rfl
              · exact gv mix O_ 400 [f0, f0, f0, (10, false), f0, f0, f0, f0, f0, f0, f0, f0, (4, true), (10, false), f0, f0, f0, t0] (ai (cn h0) (a2 (bf h1) (a9 (cn h2) (ai (cn (bf h3)) (ai (cn h4) (a3 (cn h5) (ai (cn (bf h6)) trivial))))))) (by kernel_rfl) rfl rfl
            · exact gv mix O_ 400 [f0, f0, f0, (10, false), f0, f0, f0, f0, f0, f0, f0, f0, (4, true), (10, false), t0, t0, t0] (ai (cn h0) (a2 (bf h1) (a9 (cn h2) (ai (cn (bf h3)) (ai (cn h4) (a3 (cn (bf h5)) trivial)))))) (by kernel_rfl) rfl rfl
          · exact gv mix O_ 400 [f0, f0, f0, (10, false), f0, f0, f0, f0, f0, f0, f0, f0, (4, true), (10, true)] (ai (cn h0) (a2 (bf h1) (a9 (cn h2) (ai (cn (bf h3)) (ai (cn (bf h4)) trivial))))) (by kernel_rfl) rfl rfl
      · refine gite (fun h3 => ?_) (fun h3 => ?_)
        · refine gite (fun h4 => ?_) (fun h4 => ?_)
          · refine gite (fun h5 => ?_) (fun h5 => ?_)
            · refine gite (fun h6 => ?_) (fun h6 => ?_)
              · refine gite (fun h7 => ?_) (fun h7 => ?_)
                · refine gite (fun h8 => ?_) (fun h8 => ?_)
                  · exact gv mix O_ 400 [f0, f0, f0, (10, true), t0, t0, t0, t0, f0, f0, f0, f0, t0, f0, t0, f0, f0, (6, false), (1, true), f0, t0, (4, false), f0, f0, f0, f0, f0] (ai (cn h0) (a2 (bf h1) (a5 (cn (bf h2)) (a4 (cn h3) (ai (cn (bf h2)) (ai (cn h3) (ai (cn (bf h2)) (a3 (cn h4) (ai (cn (bf h2)) (ai (cn h4) (ai (cn (bf h2)) (ai (cn h5) (ai (cn h6) (a3 (cn h7) (ai (cn h8) trivial))))))))))))))) (by kernel_rfl) rfl rfl
                  · exact gv mix O_ 400 [f0, f0, f0, (10, true), t0, t0, t0, t0, f0, f0, f0, f0, t0, f0, t0, f0, f0, (6, false), (1, true), f0, t0, (4, false), f0, f0, f0, f0, t0] (ai (cn h0) (a2 (bf h1) (a5 (cn (bf h2)) (a4 (cn h3) (ai (cn (bf h2)) (ai (cn h3) (ai (cn (bf h2)) (a3 (cn h4) (ai (cn (bf h2)) (ai (cn h4) (ai (cn (bf h2)) (ai (cn h5) (ai (cn h6) (a3 (cn h7) (ai (cn (bf h8)) trivial))))))))))))))) (by kernel_rfl) rfl rfl
                · exact gv mix O_ 400 [f0, f0, f0, (10, true), t0, t0, t0, t0, f0, f0, f0, f0, t0, f0, t0, f0, f0, (6, false), (1, true), f0, t0, (4, false), f0, t0, t0, t0] (ai (cn h0) (a2 (bf h1) (a5 (cn (bf h2)) (a4 (cn h3) (ai (cn (bf h2)) (ai (cn h3) (ai (cn (bf h2)) (a3 (cn h4) (ai (cn (bf h2)) (ai (cn h4) (ai (cn (bf h2)) (ai (cn h5) (ai (cn h6) (a3 (cn (bf h7)) trivial)))))))))))))) (by kernel_rfl) rfl rfl
              · exact gv mix O_ 400 [f0, f0, f0, (10, true), t0, t0, t0, t0, f0, f0, f0, f0, t0, f0, t0, f0, f0, (6, false), (1, true), f0, t0, (4, false), t0] (ai (cn h0) (a2 (bf h1) (a5 (cn (bf h2)) (a4 (cn h3) (ai (cn (bf h2)) (ai (cn h3) (ai (cn (bf h2)) (a3 (cn h4) (ai (cn (bf h2)) (ai (cn h4) (ai (cn (bf h2)) (ai (cn h5) (ai (cn (bf h6)) trivial))))))))))))) (by kernel_rfl) rfl rfl
            · refine gite (fun h6 => ?_) (fun h6 => ?_)
              · refine gite (fun h7 => ?_) (fun h7 => ?_)
                · refine gite (fun h8 => ?_) (fun h8 => ?_)
                  · exact gv mix O_ 400 [f0, f0, f0, (10, true), t0, t0, t0, t0, f0, f0, f0, f0, t0, f0, t0, f0, f0, (6, false), (1, true), f0, t0, (4, true), (10, false), f0, f0, f0, f0] (ai (cn h0) (a2 (bf h1) (a5 (cn (bf h2)) (a4 (cn h3) (ai (cn (bf h2)) (ai (cn h3) (ai (cn (bf h2)) (a3 (cn h4) (ai (cn (bf h2)) (ai (cn h4) (ai (cn (bf h2)) (ai (cn (bf h5)) (ai (cn h6) (a3 (cn h7) (ai (cn h8) trivial))))))))))))))) (by kernel_rfl) rfl rfl
                  · exact gv mix O_ 400 [f0, f0, f0, (10, true), t0, t0, t0, t0, f0, f0, f0, f0, t0, f0, t0, f0, f0, (6, false), (1, true), f0, t0, (4, true), (10, false), f0, f0, f0, t0] (ai (cn h0) (a2 (bf h1) (a5 (cn (bf h2)) (a4 (cn h3) (ai (cn (bf h2)) (ai (cn h3) (ai (cn (bf h2)) (a3 (cn h4) (ai (cn (bf h2)) (ai (cn h4) (ai (cn (bf h2)) (ai (cn (bf h5)) (ai (cn h6) (a3 (cn h7) (ai (cn (bf h8)) trivial))))))))))))))) (by kernel_rfl) rfl rfl
                · exact gv mix O_ 400 [f0, f0, f0, (10, true), t0, t0, t0, t0, f0, f0, f0, f0, t0, f0, t0, f0, f0, (6, false), (1, true), f0, t0, (4, true), (10, false), t0, t0, t0] (ai (cn h0) (a2 (bf h1) (a5 (cn (bf h2)) (a4 (cn h3) (ai (cn (bf h2)) (ai (cn h3) (ai (cn (bf h2)) (a3 (cn h4) (ai (cn (bf h2)) (ai (cn h4) (ai (cn (bf h2)) (ai (cn (bf h5)) (ai (cn h6) (a3 (cn (bf h7)) trivial)))))))))))))) (by kernel_rfl) rfl rfl
              · exact gv mix O_ 400 [f0, f0, f0, (10, true), t0, t0, t0, t0, f0, f0, f0, f0, t0, f0, t0, f0, f0, (6, false), (1, true), f0, t0, (4, true), (10, true)] (ai (cn h0) (a2 (bf h1) (a5 (cn (bf h2)) (a4 (cn h3) (ai (cn (bf h2)) (ai (cn h3) (ai (cn (bf h2)) (a3 (cn h4) (ai (cn (bf h2)) (ai (cn h4) (ai (cn (bf h2)) (ai (cn (bf h5)) (ai (cn (bf h6)) trivial))))))))))))) (by kernel_rfl) rfl rfl
          · exact gv mix O_ 400 [f0, f0, f0, (10, true), t0, t0, t0, t0, f0, f0, f0, f0, t0, f0, t0, t0, t0, t0, t0, t0, t0] (ai (cn h0) (a2 (bf h1) (a5 (cn (bf h2)) (a4 (cn h3) (ai (cn (bf h2)) (ai (cn h3) (ai (cn (bf h2)) (a3 (cn (bf h4)) (ai (cn (bf h2)) (ai (cn (bf h4)) (ai (cn (bf h2)) trivial))))))))))) (by kernel_rfl) rfl rfl
        · exact gv mix O_ 400 [f0, f0, f0, (10, true), t0, t0, t0, t0, t0, t0, t0, t0, t0, t0, t0, (3, true), (1, true)] (ai (cn h0) (a2 (bf h1) (a5 (cn (bf h2)) (a4 (cn (bf h3)) (ai (cn (bf h2)) (ai (cn (bf h3)) (a3 (cn (bf h2)) trivial))))))) (by kernel_rfl) rfl rfl
  · exact gv mix O_ 400 [t0] (ai (cn (bf h0)) trivial) (by kernel_rfl) rfl rfl
theorem G_lockgateref05_Branch_3 (b : Bool) (c : Bool) (d : Sc) (e : Sc) : Gives Tryz.prog 12 [(cI .i64).enc 3, cB.enc b, cB.enc c, cSc.enc d, cSc.enc e] ((cP3 cSc cSc cB).enc (lockgateref05_Branch_3 b c d e)) := by
  unfold lockgateref05_Branch_3
  have O_ := (orc_cons K_lockgateref05_Is (orc_cons K_lockgateref01_Jump (orc_cons K_lockgateref05_learn (orc_cons K_lockgateref05_Norm (orc_cons K_lockgateref05_Upto (orc_cons K_lockgateref05_Within on_))))))
  refine gite (fun h0 => ?_) (fun h0 => ?_)
  · refine gite (fun h1 => ?_) (fun h1 => ?_)
    · refine gite (fun h2 => ?_) (fun h2 => ?_)
      · refine gite (fun h3 => ?_) (fun h3 => ?_)
        · exact gv mix O_ 400 [f0, t0, t0, t0, t0] (ai (cn h0) (a2 h1 (ai h2 (ai h3 trivial)))) (by kernel_rfl) rfl rfl
        · exact gv mix O_ 400 [f0, t0, t0, t0, f0] (ai (cn h0) (a2 h1 (ai h2 (ai (bf h3) trivial)))) (by kernel_rfl) rfl rfl
      · refine gite (fun h3 => ?_) (fun h3 => ?_)
        · refine gite (fun h4 => ?_) (fun h4 => ?_)
          · refine gite (fun h5 => ?_) (fun h5 => ?_)
            · refine gite (fun h6 => ?_) (fun h6 => ?_)
              · refine gite (fun h7 => ?_) (fun h7 => ?_)
                · exact gv mix O_ 400 [f0, t0, t0, f0, (9, false), f0, f0, f0, f0, f0, f0, f0, f0, (4, false), f0, f0, f0, f0, f0] (ai (cn h0) (a2 h1 (ai (bf h2) (a9 (cn h3) (ai (cn h4) (ai (cn h5) (a3 (cn h6) (ai (cn h7) trivial)))))))) (by kernel_rfl) rfl rfl
                · exact gv mix O_ 400 [f0, t0, t0, f0, (9, false), f0, f0, f0, f0, f0, f0, f0, f0, (4, false), f0, f0, f0, f0, t0] (ai (cn h0) (a2 h1 (ai (bf h2) (a9 (cn h3) (ai (cn h4) (ai (cn h5) (a3 (cn h6) (ai (cn (bf h7)) trivial)))))))) (by kernel_rfl) rfl rfl
              · exact gv mix O_ 400 [f0, t0, t0, f0, (9, false), f0, f0, f0, f0, f0, f0, f0, f0, (4, false), f0, t0, t0, t0] (ai (cn h0) (a2 h1 (ai (bf h2) (a9 (cn h3) (ai (cn h4) (ai (cn h5) (a3 (cn (bf h6)) trivial))))))) (by kernel_rfl) rfl rfl
            · exact gv mix O_ 400 [f0, t0, t0, f0, (9, false), f0, f0, f0, f0, f0, f0, f0, f0, (4, false), t0] (ai (cn h0) (a2 h1 (ai (bf h2) (a9 (cn h3) (ai (cn h4) (ai (cn (bf h5)) trivial)))))) (by kernel_rfl) rfl rfl
          · refine gite (fun h5 => ?_) (fun h5 => ?_)
            · refine gite (fun h6 => ?_) (fun h6 => ?_)
              · refine gite (fun h7 => ?_) (fun h7 => ?_)
                · exact gv mix O_ 400 [f0, t0, t0, f0, (9, false), f0, f0, f0, f0, f0, f0, f0, f0, (4, true), (16, false), f0, f0, f0, f0] (ai (cn h0) (a2 h1 (ai (bf h2) (a9 (cn h3) (ai (cn (bf h4)) (ai (cn h5) (a3 (cn h6) (ai (cn h7) trivial)))))))) (by kernel_rfl) rfl rfl
                · exact gv mix O_ 400 [f0, t0, t0, f0, (9, false), f0, f0, f0, f0, f0, f0, f0, f0, (4, true), (16, false), f0, f0, f0, t0] (ai (cn h0) (a2 h1 (ai (bf h2) (a9 (cn h3) (ai (cn (bf h4)) (ai (cn h5) (a3 (cn h6) (ai (cn (bf h7)) trivial)))))))) (by kernel_rfl) rfl rfl
              · exact gv mix O_ 400 [f0, t0, t0, f0, (9, false), f0, f0, f0, f0, f0, f0, f0, f0, (4, true), (16, false), t0, t0, t0] (ai (cn h0) (a2 h1 (ai (bf h2) (a9 (cn h3) (ai (cn (bf h4)) (ai (cn h5) (a3 (cn (bf h6)) trivial))))))) (by kernel_rfl) rfl rfl
            · exact gv mix O_ 400 [f0, t0, t0, f0, (9, false), f0, f0, f0, f0, f0, f0, f0, f0, (4, true), (16, true)] (ai (cn h0) (a2 h1 (ai (bf h2) (a9 (cn h3) (ai (cn (bf h4)) (ai (cn (bf h5)) trivial)))))) (by kernel_rfl) rfl rfl
        · refine gite (fun h4 => ?_) (fun h4 => ?_)
          · refine gite (fun h5 => ?_) (fun h5 => ?_)
            · refine gite (fun h6 => ?_) (fun h6 => ?_)
              · refine gite (fun h7 => ?_) (fun h7 => ?_)
                · refine gite (fun h8 => ?_) (fun h8 => ?_)
                  · refine gite (fun h9 => ?_) (fun h9 => ?_)
                    · exact gv mix O_ 400 [f0, t0, t0, f0, (9, true), t0, t0, t0, t0, f0, f0, f0, f0, t0, f0, t0, f0, f0, (6, false), (1, true), f0, t0, (4, false), f0, f0, f0, f0, f0] (ai (cn h0) (a2 h1 (ai (bf h2) (a5 (cn (bf h3)) (a4 (cn h4) (ai (cn (bf h3)) (ai (cn h4) (ai (cn (bf h3)) (a3 (cn h5) (ai (cn (bf h3)) (ai (cn h5) (ai (cn (bf h3)) (ai (cn h6) (ai (cn h7) (a3 (cn h8) (ai (cn h9) trivial)))))))))))))))) (by kernel_rfl) rfl rfl
                    · exact gv mix O_ 400 [f0, t0, t0, f0, (9, true), t0, t0, t0, t0, f0, f0, f0, f0, t0, f0, t0, f0, f0, (6, false), (1, true), f0, t0, (4, false), f0, f0, f0, f0, t0] (ai (cn h0) (a2 h1 (ai (bf h2) (a5 (cn (bf h3)) (a4 (cn h4) (ai (cn (bf h3)) (ai (cn h4) (ai (cn (bf h3)) (a3 (cn h5) (ai (cn (bf h3)) (ai (cn h5) (ai (cn (bf h3)) (ai (cn h6) (ai (cn h7) (a3 (cn h8) (ai (cn (bf h9)) trivial)))))))))))))))) (by kernel_rfl) rfl rfl
                  · exact gv mix O_ 400 [f0, t0, t0, f0, (9, true), t0, t0, t0, t0, f0, f0, f0, f0, t0, f0, t0, f0, f0, (6, false), (1, true), f0, t0, (4, false), f0, t0, t0, t0] (ai (cn h0) (a2 h1 (ai (bf h2) (a5 (cn (bf h3)) (a4 (cn h4) (ai (cn (bf h3)) (ai (cn h4) (ai (cn (bf h3)) (a3 (cn h5) (ai (cn (bf h3)) (ai (cn h5) (ai (cn (bf h3)) (ai (cn h6) (ai (cn h7) (a3 (cn (bf h8)) trivial))))))))))))))) (by kernel_rfl) rfl rfl
                · exact gv mix O_ 400 [f0, t0, t0, f0, (9, true), t0, t0, t0, t0, f0, f0, f0, f0, t0, f0, t0, f0, f0, (6, false), (1, true), f0, t0, (4, false), t0] (ai (cn h0) (a2 h1 (ai (bf h2) (a5 (cn (bf h3)) (a4 (cn h4) (ai (cn (bf h3)) (ai (cn h4) (ai (cn (bf h3)) (a3 (cn h5) (ai (cn (bf h3)) (ai (cn h5) (ai (cn (bf h3)) (ai (cn h6) (ai (cn (bf h7)) trivial)))))))))))))) (by kernel_rfl) rfl rfl
              · refine gite (fun h7 => ?_) (fun h7 => ?_)
                · refine gite (fun h8 => ?_) (fun h8 => ?_)
                  · refine gite (fun h9 => ?_) (fun h9 => ?_)
                    · exact gv mix O_ 400 [f0, t0, t0, f0, (9, true), t0, t0, t0, t0, f0, f0, f0, f0, t0, f0, t0, f0, f0, (6, false), (1, true), f0, t0, (4, true), (16, false), f0, f0, f0, f0] (ai (cn h0) (a2 h1 (ai (bf h2) (a5 (cn (bf h3)) (a4 (cn h4) (ai (cn (bf h3)) (ai (cn h4) (ai (cn (bf h3)) (a3 (cn h5) (ai (cn (bf h3)) (ai (cn h5) (ai (cn (bf h3)) (ai (cn (bf h6)) (ai (cn h7) (a3 (cn h8) (ai (cn h9) trivial)))))))))))))))) (by kernel_rfl) rfl rfl
                    · exact gv mix O_ 400 [f0, t0, t0, f0, (9, true), t0, t0, t0, t0, f0, f0, f0, f0, t0, f0, t0, f0, f0, (6, false), (1, true), f0, t0, (4, true), (16, false), f0, f0, f0, t0] (ai (cn h0) (a2 h1 (ai (bf h2) (a5 (cn (bf h3)) (a4 (cn h4) (ai (cn (bf h3)) (ai (cn h4) (ai (cn (bf h3)) (a3 (cn h5) (ai (cn (bf h3)) (ai (cn h5) (ai (cn (bf h3)) (ai (cn (bf h6)) (ai (cn h7) (a3 (cn h8) (ai (cn (bf h9)) trivial)))))))))))))))) (by kernel_rfl) rfl rfl
                  · exact gv mix O_ 400 [f0, t0, t0, f0, (9, true), t0, t0, t0, t0, f0, f0, f0, f0, t0, f0, t0, f0, f0, (6, false), (1, true), f0, t0, (4, true), (16, false), t0, t0, t0] (ai (cn h0) (a2 h1 (ai (bf h2) (a5 (cn (bf h3)) (a4 (cn h4) (ai (cn (bf h3)) (ai (cn h4) (ai (cn (bf h3)) (a3 (cn h5) (ai (cn (bf h3)) (ai (cn h5) (ai (cn (bf h3)) (ai (cn (bf h6)) (ai (cn h7) (a3 (cn (bf h8)) trivial))))))))))))))) (by kernel_rfl) rfl rfl
                · exact gv mix O_ 400 [f0, t0, t0, f0, (9, true), t0, t0, t0, t0, f0, f0, f0, f0, t0, f0, t0, f0, f0, (6, false), (1, true), f0, t0, (4, true), (16, true)] (ai (cn h0) (a2 h1 (ai (bf h2) (a5 (cn (bf h3)) (a4 (cn h4) (ai (cn (bf h3)) (ai (cn h4) (ai (cn (bf h3)) (a3 (cn h5) (ai (cn (bf h3)) (ai (cn h5) (ai (cn (bf h3)) (ai (cn (bf h6)) (ai (cn (bf h7)) trivial)))))))))))))) (by kernel_rfl) rfl rfl
            · exact gv mix O_ 400 [f0, t0, t0, f0, (9, true), t0, t0, t0, t0, f0, f0, f0, f0, t0, f0, t0, t0, t0, t0, t0, t0, t0] (ai (cn h0) (a2 h1 (ai (bf h2) (a5 (cn (bf h3)) (a4 (cn h4) (ai (cn (bf h3)) (ai (cn h4) (ai (cn (bf h3)) (a3 (cn (bf h5)) (ai (cn (bf h3)) (ai (cn (bf h5)) (ai (cn (bf h3)) trivial)))))))))))) (by kernel_rfl) rfl rfl
          · exact gv mix O_ 400 [f0, t0, t0, f0, (9, true), t0, t0, t0, t0, t0, t0, t0, t0, t0, t0, t0, (3, true), (1, true)] (ai (cn h0) (a2 h1 (ai (bf h2) (a5 (cn (bf h3)) (a4 (cn (bf h4)) (ai (cn (bf h3)) (ai (cn (bf h4)) (a3 (cn (bf h3)) trivial)))))))) (by kernel_rfl) rfl rfl
    · refine gite (fun h2 => ?_) (fun h2 => ?_)
      · refine gite (fun h3 => ?_) (fun h3 => ?_)
        · refine gite (fun h4 => ?_) (fun h4 => ?_)
          · refine gite (fun h5 => ?_) (fun h5 => ?_)
            · refine gite (fun h6 => ?_) (fun h6 => ?_)
              · exact gv mix O_ 400 [f0, f0, f0, (10, false), f0, f0, f0, f0, f0, f0, f0, f0, (4, false), f0, f0, f0, f0, f0] (ai (cn h0) (a2 (bf h1) (a9 (cn h2) (ai (cn h3) (ai (cn h4) (a3 (cn h5) (ai (cn h6) trivial))))))) (by kernel_rfl) rfl rfl
              · exact gv mix O_ 400 [f0, f0, f0, (10, false), f0, f0, f0, f0, f0, f0, f0, f0, (4, false), f0, f0, f0, f0, t0] (ai (cn h0) (a2 (bf h1) (a9 (cn h2) (ai (cn h3) (ai (cn h4) (a3 (cn h5) (ai (cn (bf h6)) trivial))))))) (by kernel_rfl) rfl rfl
            · exact gv mix O_ 400 [f0, f0, f0, (10, false), f0, f0, f0, f0, f0, f0, f0, f0, (4, false), f0, t0, t0, t0] (ai (cn h0) (a2 (bf h1) (a9 (cn h2) (ai (cn h3) (ai (cn h4) (a3 (cn (bf h5)) trivial)))))) (by kernel_rfl) rfl rfl
          · exact gv mix O_ 400 [f0, f0, f0, (10, false), f0, f0, f0, f0, f0, f0, f0, f0, (4, false), t0] (ai (cn h0) (a2 (bf h1) (a9 (cn h2) (ai (cn h3) (ai (cn (bf h4)) trivial))))) (by kernel_rfl) rfl rfl
        · refine gite (fun h4 => ?_) (fun h4 => ?_)
          · refine gite (fun h5 => ?_) (fun h5 => ?_)
            · refine gite (fun h6 => ?_) (fun h6 => ?_)
              · exact gv mix O_ 400 [f0, f0, f0, (10, false), f0, f0, f0, f0, f0, f0, f0, f0, (4, true), (16, false), f0, f0, f0, f0] (ai (cn h0) (a2 (bf h1) (a9 (cn h2) (ai (cn (bf h3)) (ai (cn h4) (a3 (cn h5) (ai (cn h6) trivial))))))) (by kernel_rfl) rfl rfl
              · exact gv mix O_ 400 [f0, f0, f0, (10, false), f0, f0, f0, f0, f0, f0, f0, f0, (4, true), (16, false), f0, f0, f0, t0] (ai (cn h0) (a2 (bf h1) (a9 (cn h2) (ai (cn (bf h3)) (ai (cn h4) (a3 (cn h5) (ai (cn (bf h6)) trivial))))))) (by kernel_rfl) rfl rfl
            · exact gv mix O_ 400 [f0, f0, f0, (10, false), f0, f0, f0, f0, f0, f0, f0, f0, (4, true), (16, false), t0, t0, t0] (ai (cn h0) (a2 (bf h1) (a9 (cn h2) (ai (cn (bf h3)) (ai (cn h4) (a3 (cn (bf h5)) trivial)))))) (by kernel_rfl) rfl rfl
          · exact gv mix O_ 400 [f0, f0, f0, (10, false), f0, f0, f0, f0, f0, f0, f0, f0, (4, true), (16, true)] (ai (cn h0) (a2 (bf h1) (a9 (cn h2) (ai (cn (bf h3)) (ai (cn (bf h4)) trivial))))) (by kernel_rfl) rfl rfl
      · refine gite (fun h3 => ?_) (fun h3 => ?_)
        · refine gite (fun h4 => ?_) (fun h4 => ?_)
          · refine gite (fun h5 => ?_) (fun h5 => ?_)
            · refine gite (fun h6 => ?_) (fun h6 => ?_)
              · refine gite (fun h7 => ?_) (fun h7 => ?_)
                · refine gite (fun h8 => ?_) (fun h8 => ?_)
                  · exact gv mix O_ 400 [f0, f0, f0, (10, true), t0, t0, t0, t0, f0, f0, f0, f0, t0, f0, t0, f0, f0, (6, false), (1, true), f0, t0, (4, false), f0, f0, f0, f0, f0] (ai (cn h0) (a2 (bf h1) (a5 (cn (bf h2)) (a4 (cn h3) (ai (cn (bf h2)) (ai (cn h3) (ai (cn (bf h2)) (a3 (cn h4) (ai (cn (bf h2)) (ai (cn h4) (ai (cn (bf h2)) (ai (cn h5) (ai (cn h6) (a3 (cn h7) (ai (cn h8) trivial))))))))))))))) (by kernel_rfl) rfl rfl
                  · exact gv mix O_ 400 [f0, f0, f0, (10, true), t0, t0, t0, t0, f0, f0, f0, f0, t0, f0, t0, f0, f0, (6, false), (1, true), f0, t0, (4, false), f0, f0, f0, f0, t0] (ai (cn h0) (a2 (bf h1) (a5 (cn (bf h2)) (a4 (cn h3) (ai (cn (bf h2)) (ai (cn h3) (ai (cn (bf h2)) (a3 (cn h4) (ai (cn (bf h2)) (ai (cn h4) (ai (cn (bf h2)) (ai (cn h5) (ai (cn h6) (a3 (cn h7) (ai (cn (bf h8)) trivial))))))))))))))) (by kernel_rfl) rfl rfl
                · exact gv mix O_ 400 [f0, f0, f0, (10, true), t0, t0, t0, t0, f0, f0, f0, f0, t0, f0, t0, f0, f0, (6, false), (1, true), f0, t0, (4, false), f0, t0, t0, t0] (ai (cn h0) (a2 (bf h1) (a5 (cn (bf h2)) (a4 (cn h3) (ai (cn (bf h2)) (ai (cn h3) (ai (cn (bf h2)) (a3 (cn h4) (ai (cn (bf h2)) (ai (cn h4) (ai (cn (bf h2)) (ai (cn h5) (ai (cn h6) (a3 (cn (bf h7)) trivial)))))))))))))) (by kernel_rfl) rfl rfl
              · exact gv mix O_ 400 [f0, f0, f0, (10, true), t0, t0, t0, t0, f0, f0, f0, f0, t0, f0, t0, f0, f0, (6, false), (1, true), f0, t0, (4, false), t0] (ai (cn h0) (a2 (bf h1) (a5 (cn (bf h2)) (a4 (cn h3) (ai (cn (bf h2)) (ai (cn h3) (ai (cn (bf h2)) (a3 (cn h4) (ai (cn (bf h2)) (ai (cn h4) (ai (cn (bf h2)) (ai (cn h5) (ai (cn (bf h6)) trivial))))))))))))) (by kernel_rfl) rfl rfl
            · refine gite (fun h6 => ?_) (fun h6 => ?_)
              · refine gite (fun h7 => ?_) (fun h7 => ?_)
                · refine gite (fun h8 => ?_) (fun h8 => ?_)
                  · exact gv mix O_ 400 [f0, f0, f0, (10, true), t0, t0, t0, t0, f0, f0, f0, f0, t0, f0, t0, f0, f0, (6, false), (1, true), f0, t0, (4, true), (16, false), f0, f0, f0, f0] (ai (cn h0) (a2 (bf h1) (a5 (cn (bf h2)) (a4 (cn h3) (ai (cn (bf h2)) (ai (cn h3) (ai (cn (bf h2)) (a3 (cn h4) (ai (cn (bf h2)) (ai (cn h4) (ai (cn (bf h2)) (ai (cn (bf h5)) (ai (cn h6) (a3 (cn h7) (ai (cn h8) trivial))))))))))))))) (by kernel_rfl) rfl rfl
                  · exact gv mix O_ 400 [f0, f0, f0, (10, true), t0, t0, t0, t0, f0, f0, f0, f0, t0, f0, t0, f0, f0, (6, false), (1, true), f0, t0, (4, true), (16, false), f0, f0, f0, t0] (ai (cn h0) (a2 (bf h1) (a5 (cn (bf h2)) (a4 (cn h3) (ai (cn (bf h2)) (ai (cn h3) (ai (cn (bf h2)) (a3 (cn h4) (ai (cn (bf h2)) (ai (cn h4) (ai (cn (bf h2)) (ai (cn (bf h5)) (ai (cn h6) (a3 (cn h7) (ai (cn (bf h8)) trivial))))))))))))))) (by kernel_rfl) rfl rfl
                · exact gv mix O_ 400 [f0, f0, f0, (10, true), t0, t0, t0, t0, f0, f0, f0, f0, t0, f0, t0, f0, f0, (6, false), (1, true), f0, t0, (4, true), (16, false), t0, t0, t0] (ai (cn h0) (a2 (bf h1) (a5 (cn (bf h2)) (a4 (cn h3) (ai (cn (bf h2)) (ai (cn h3) (ai (cn (bf h2)) (a3 (cn h4) (ai (cn (bf h2)) (ai (cn h4) (ai (cn (bf h2)) (ai (cn (bf h5)) (ai (cn h6) (a3 (cn (bf h7)) trivial)))))))))))))) (by kernel_rfl) rfl rfl
              · exact gv mix O_ 400 [f0, f0, f0, (10, true), t0, t0, t0, t0, f0, f0, f0, f0, t0, f0, t0, f0, f0, (6, false), (1, true), f0, t0, (4, true), (16, true)] (ai (cn h0) (a2 (bf h1) (a5 (cn (bf h2)) (a4 (cn h3) (ai (cn (bf h2)) (ai (cn h3) (ai (cn (bf h2)) (a3 (cn h4) (ai (cn (bf h2)) (ai (cn h4) (ai (cn (bf h2)) (ai (cn (bf h5)) (ai (cn (bf h6)) trivial))))))))))))) (by kernel_rfl) rfl rfl
          · exact gv mix O_ 400 [f0, f0, f0, (10, true), t0, t0, t0, t0, f0, f0, f0, f0, t0, f0, t0, t0, t0, t0, t0, t0, t0] (ai (cn h0) (a2 (bf h1) (a5 (cn (bf h2)) (a4 (cn h3) (ai (cn (bf h2)) (ai (cn h3) (ai (cn (bf h2)) (a3 (cn (bf h4)) (ai (cn (bf h2)) (ai (cn (bf h4)) (ai (cn (bf h2)) trivial))))))))))) (by kernel_rfl) rfl rfl
        · exact gv mix O_ 400 [f0, f0, f0, (10, true), t0, t0, t0, t0, t0, t0, t0, t0, t0, t0, t0, (3, true), (1, true)] (ai (cn h0) (a2 (bf h1) (a5 (cn (bf h2)) (a4 (cn (bf h3)) (ai (cn (bf h2)) (ai (cn (bf h3)) (a3 (cn (bf h2)) trivial))))))) (by kernel_rfl) rfl rfl
  · exact gv mix O_ 400 [t0] (ai (cn (bf h0)) trivial) (by kernel_rfl) rfl rfl
theorem G_lockgateref05_Branch_4 (b : Bool) (c : Bool) (d : Sc) (e : Sc) : Gives Tryz.prog 12 [(cI .i64).enc 4, cB.enc b, cB.enc c, cSc.enc d, cSc.enc e] ((cP3 cSc cSc cB).enc (lockgateref05_Branch_4 b c d e)) := by
  unfold lockgateref05_Branch_4
  have O_ := (orc_cons K_lockgateref05_Is (orc_cons K_lockgateref01_Jump (orc_cons K_lockgateref05_learn (orc_cons K_lockgateref05_Norm (orc_cons K_lockgateref05_Upto (orc_cons K_lockgateref05_Within on_))))))
  refine gite (fun h0 => ?_) (fun h0 => ?_)
  · refine gite (fun h1 => ?_) (fun h1 => ?_)
    · refine gite (fun h2 => ?_) (fun h2 => ?_)
      · refine gite (fun h3 => ?_) (fun h3 => ?_)
        · exact gv mix O_ 400 [f0, t0, t0, t0, t0] (ai (cn h0) (a2 h1 (ai h2 (ai h3 trivial)))) (by kernel_rfl) rfl rfl
        · exact gv mix O_ 400 [f0, t0, t0, t0, f0] (ai (cn h0) (a2 h1 (ai h2 (ai (bf h3) trivial)))) (by kernel_rfl) rfl rfl
      · refine gite (fun h3 => ?_) (fun h3 => ?_)
        · refine gite (fun h4 => ?_) (fun h4 => ?_)
          · refine gite (fun h5 => ?_) (fun h5 => ?_)
            · refine gite (fun h6 => ?_) (fun h6 => ?_)
              · refine gite (fun h7 => ?_) (fun h7 => ?_)
                · exact gv mix O_ 400 [f0, t0, t0, f0, (9, false), f0, f0, f0, f0, f0, f0, f0, f0, (4, false), f0, f0, f0, f0, f0] (ai (cn h0) (a2 h1 (ai (bf h2) (a9 (cn h3) (ai (cn h4) (ai (cn h5) (a3 (cn h6) (ai (cn h7) trivial)))))))) (by kernel_rfl) rfl rfl
                · exact gv mix O_ 400 [f0, t0, t0, f0, (9, false), f0, f0, f0, f0, f0, f0, f0, f0, (4, false), f0, f0, f0, f0, t0] (ai (cn h0) (a2 h1 (ai (bf h2) (a9 (cn h3) (ai (cn h4) (ai (cn h5) (a3 (cn h6) (ai (cn (bf h7)) trivial)))))))) (by kernel_rfl) rfl rfl
              · exact gv mix O_ 400 [f0, t0, t0, f0, (9, false), f0, f0, f0, f0, f0, f0, f0, f0, (4, false), f0, t0, t0, t0] (ai (cn h0) (a2 h1 (ai (bf h2) (a9 (cn h3) (ai (cn h4) (ai (cn h5) (a3 (cn (bf h6)) trivial))))))) (by kernel_rfl) rfl rfl
            · exact gv mix O_ 400 [f0, t0, t0, f0, (9, false), f0, f0, f0, f0, f0, f0, f0, f0, (4, false), t0] (ai (cn h0) (a2 h1 (ai (bf h2) (a9 (cn h3) (ai (cn h4) (ai (cn (bf h5)) trivial)))))) (by kernel_rfl) rfl rfl
          · refine gite (fun h5 => ?_) (fun h5 => ?_)
            · refine gite (fun h6 => ?_) (fun h6 => ?_)
              · refine gite (fun h7 => ?_) (fun h7 => ?_)
                · exact gv mix O_ 400 [f0, t0, t0, f0, (9, false), f0, f0, f0, f0, f0, f0, f0, f0, (4, true), (31, false), f0, f0, f0, f0] (ai (cn h0) (a2 h1 (ai (bf h2) (a9 (cn h3) (ai (cn (bf h4)) (ai (cn h5) (a3 (cn h6) (ai (cn h7) trivial)))))))) (by kernel_rfl) rfl rfl
                · exact gv mix O_ 400 [f0, t0, t0, f0, (9, false), f0, f0, f0, f0, f0, f0, f0, f0, (4, true), (31, false), f0, f0, f0, t0] (ai (cn h0) (a2 h1 (ai (bf h2) (a9 (cn h3) (ai (cn (bf h4)) (ai (cn h5) (a3 (cn h6) (ai (cn (bf h7)) trivial)))))))) (by kernel_rfl) rfl rfl
              · exact gv mix O_ 400 [f0, t0, t0, f0, (9, false), f0, f0, f0, f0, f0, f0, f0, f0, (4, true), (31, false), t0, t0, t0] (ai (cn h0) (a2 h1 (ai (bf h2) (a9 (cn h3) (ai (cn (bf h4)) (ai (cn h5) (a3 (cn (bf h6)) trivial))))))) (by kernel_rfl) rfl rfl
            · exact gv mix O_ 400 [f0, t0, t0, f0, (9, false), f0, f0, f0, f0, f0, f0, f0, f0, (4, true), (31, true)] (ai (cn h0) (a2 h1 (ai (bf h2) (a9 (cn h3) (ai (cn (bf h4)) (ai (cn (bf h5)) trivial)))))) (by kernel_rfl) rfl rfl
        · refine gite (fun h4 => ?_) (fun h4 => ?_)
          · refine gite (fun h5 => ?_) (fun h5 => ?_)
            · refine gite (fun h6 => ?_) (fun h6 => ?_)
              · refine gite (fun h7 => ?_) (fun h7 => ?_)
                · refine gite (fun h8 => ?_) (fun h8 => ?_)
                  · refine gite (fun h9 => ?_) (fun h9 => ?_)
                    · exact gv mix O_ 400 [f0, t0, t0, f0, (9, true), t0, t0, t0, t0, f0, f0, f0, f0, t0, f0, t0, f0, f0, (6, false), (1, true), f0, t0, (4, false), f0, f0, f0, f0, f0] (ai (cn h0) (a2 h1 (ai (bf h2) (a5 (cn (bf h3)) (a4 (cn h4) (ai (cn (bf h3)) (ai (cn h4) (ai (cn (bf h3)) (a3 (cn h5) (ai (cn (bf h3)) (ai (cn h5) (ai (cn (bf h3)) (ai (cn h6) (ai (cn h7) (a3 (cn h8) (ai (cn h9) trivial)))))))))))))))) (by kernel_rfl) rfl rfl
                    · exact gv mix O_ 400 [f0, t0, t0, f0, (9, true), t0, t0, t0, t0, f0, f0, f0, f0, t0, f0, t0, f0, f0, (6, false), (1, true), f0, t0, (4, false), f0, f0, f0, f0, t0] (ai (cn h0) (a2 h1 (ai (bf h2) (a5 (cn (bf h3)) (a4 (cn h4) (ai (cn (bf h3)) (ai (cn h4) (ai (cn (bf h3)) (a3 (cn h5) (ai (cn (bf h3)) (ai (cn h5) (ai (cn (bf h3)) (ai (cn h6) (ai (cn h7) (a3 (cn h8) (ai (cn (bf h9)) trivial)))))))))))))))) (by kernel_rfl) rfl rfl
                  · exact gv mix O_ 400 [f0, t0, t0, f0, (9, true), t0, t0, t0, t0, f0, f0, f0, f0, t0, f0, t0, f0, f0, (6, false), (1, true), f0, t0, (4, false), f0, t0, t0, t0] (ai (cn h0) (a2 h1 (ai (bf h2) (a5 (cn (bf h3)) (a4 (cn h4) (ai (cn (bf h3)) (ai (cn h4) (ai (cn (bf h3)) (a3 (cn h5) (ai (cn (bf h3)) (ai (cn h5) (ai (cn (bf h3)) (ai (cn h6) (ai (cn h7) (a3 (cn (bf h8)) trivial))))))))))))))) (by kernel_rfl) rfl rfl
                · exact gv mix O_ 400 [f0, t0, t0, f0, (9, true), t0, t0, t0, t0, f0, f0, f0, f0, t0, f0, t0, f0, f0, (6, false), (1, true), f0, t0, (4, false), t0] (ai (cn h0) (a2 h1 (ai (bf h2) (a5 (cn (bf h3)) (a4 (cn h4) (ai (cn (bf h3)) (ai (cn h4) (ai (cn (bf h3)) (a3 (cn h5) (ai (cn (bf h3)) (ai (cn h5) (ai (cn (bf h3)) (ai (cn h6) (ai (cn (bf h7)) trivial)))))))))))))) (by kernel_rfl) rfl rfl
              · refine gite (fun h7 => ?_) (fun h7 => ?_)
                · refine gite (fun h8 => ?_) (fun h8 => ?_)
                  · refine gite (fun h9 => ?_) (fun h9 => ?_)
                    · exact gv mix O_ 400 [f0, t0, t0, f0, (9, true), t0, t0, t0, t0, f0, f0, f0, f0, t0, f0, t0, f0, f0, (6, false), (1, true), f0, t0, (4, true), (31, false), f0, f0, f0, f0] (ai (cn h0) (a2 h1 (ai (bf h2) (a5 (cn (bf h3)) (a4 (cn h4) (ai (cn (bf h3)) (ai (cn h4) (ai (cn (bf h3)) (a3 (cn h5) (ai (cn (bf h3)) (ai (cn h5) (ai (cn (bf h3)) (ai (cn (bf h6)) (ai (cn h7) (a3 (cn h8) (ai (cn h9) trivial)))))))))))))))) (by kernel_rfl) rfl rfl
                    · exact gv mix O_ 400 [f0, t0, t0, f0, (9, true), t0, t0, t0, t0, f0, f0, f0, f0, t0, f0, t0, f0, f0, (6, false), (1, true), f0, t0, (4, true), (31, false), f0, f0, f0, t0] (ai (cn h0) (a2 h1 (ai (bf h2) (a5 (cn (bf h3)) (a4 (cn h4) (ai (cn (bf h3)) (ai (cn h4) (ai (cn (bf h3)) (a3 (cn h5) (ai (cn (bf h3)) (ai (cn h5) (ai (cn (bf h3)) (ai (cn (bf h6)) (ai (cn h7) (a3 (cn h8) (ai (cn (bf h9)) trivial)))))))))))))))) (by kernel_rfl) rfl rfl
                  · exact gv mix O_ 400 [f0, t0, t0, f0, (9, true), t0, t0, t0, t0, f0, f0, f0, f0, t0, f0, t0, f0, f0, (6, false), (1, true), f0, t0, (4, true), (31, false), t0, t0, t0] (ai (cn h0) (a2 h1 (ai (bf h2) (a5 (cn (bf h3)) (a4 (cn h4) (ai (cn (bf h3)) (ai (cn h4) (ai (cn (bf h3)) (a3 (cn h5) (ai (cn (bf h3)) (ai (cn h5) (ai (cn (bf h3)) (ai (cn (bf h6)) (ai (cn h7) (a3 (cn (bf h8)) trivial))))))))))))))) (by kernel_rfl) rfl rfl
                · exact gv mix O_ 400 [f0, t0, t0, f0, (9, true), t0, t0, t0, t0, f0, f0, f0, f0, t0, f0, t0, f0, f0, (6, false), (1, true), f0, t0, (4, true), (31, true)] (ai (cn h0) (a2 h1 (ai (bf h2) (a5 (cn (bf h3)) (a4 (cn h4) (ai (cn (bf h3)) (ai (cn h4) (ai (cn (bf h3)) (a3 (cn h5) (ai (cn (bf h3)) (ai (cn h5) (ai (cn (bf h3)) (ai (cn (bf h6)) (ai (cn (bf h7)) trivial)))))))))))))) (by kernel_rfl) rfl rfl
            · exact gv mix O_ 400 [f0, t0, t0, f0, (9, true), t0, t0, t0, t0, f0, f0, f0, f0, t0, f0, t0, t0, t0, t0, t0, t0, t0] (ai (cn h0) (a2 h1 (ai (bf h2) (a5 (cn (bf h3)) (a4 (cn h4) (ai (cn (bf h3)) (ai (cn h4) (ai (cn (bf h3)) (a3 (cn (bf h5)) (ai (cn (bf h3)) (ai (cn (bf h5)) (ai (cn (bf h3)) trivial)))))))))))) (by kernel_rfl) rfl rfl
          · exact gv mix O_ 400 [f0, t0, t0, f0, (9, true), t0, t0, t0, t0, t0, t0, t0, t0, t0, t0, t0, (3, true), (1, true)] (ai (cn h0) (a2 h1 (ai (bf h2) (a5 (cn (bf h3)) (a4 (cn (bf h4)) (ai (cn (bf h3)) (ai (cn (bf h4)) (a3 (cn (bf h3)) trivial)))))))) (by kernel_rfl) rfl rfl
    · refine gite (fun h2 => ?_) (fun h2 => ?_)
      · refine gite (fun h3 => ?_) (fun h3 => ?_)
        · refine gite (fun h4 => ?_) (fun h4 => ?_)
          · refine gite (fun h5 => ?_) (fun h5 => ?_)
            · refine gite (fun h6 => ?_) (fun h6 => ?_)
              · exact gv mix O_ 400 [f0, f0, f0, (10, false), f0, f0, f0, f0, f0, f0, f0, f0, (4, false), f0, f0, f0, f0, f0] (ai (cn h0) (a2 (bf h1) (a9 (cn h2) (ai (cn h3) (ai (cn h4) (a3 (cn h5) (ai (cn h6) trivial))))))) (by kernel_rfl) rfl rfl
              · exact gv mix O_ 400 [f0, f0, f0, (10, false), f0, f0, f0, f0, f0, f0, f0, f0, (4, false), f0, f0, f0, f0, t0] (ai (cn h0) (a2 (bf h1) (a9 (cn h2) (ai (cn h3) (ai (cn h4) (a3 (cn h5) (ai (cn (bf h6)) trivial))))))) (by kernel_rfl) rfl rfl
            · exact gv mix O_ 400 [f0, f0, f0, (10, false), f0, f0, f0, f0, f0, f0, f0, f0, (4, false), f0, t0, t0, t0] (ai (cn h0) (a2 (bf h1) (a9 (cn h2) (ai (cn h3) (ai (cn h4) (a3 (cn (bf h5)) trivial)))))) (by kernel_rfl) rfl rfl
          · exact gv mix O_ 400 [f0, f0, f0, (10, false), f0, f0, f0, f0, f0, f0, f0, f0, (4, false), t0] (ai (cn h0) (a2 (bf h1) (a9 (cn h2) (ai (cn h3) (ai (cn (bf h4)) trivial))))) (by kernel_rfl) rfl rfl
        · refine gite (fun h4 => ?_) (fun h4 => ?_)
          · refine gite (fun h5 => ?_) (fun h5 => ?_)
            · refine gite (fun h6 => ?_) (fun h6 => ?_)
              · exact gv mix O_ 400 [f0, f0, f0, (10, false), f0, f0, f0, f0, f0, f0, f0, f0, (4, true), (31, false), f0, f0, f0, f0] (ai (cn h0) (a2 (bf h1) (a9 (cn h2) (ai (cn (bf h3)) (ai (cn h4) (a3 (cn h5) (ai (cn h6) trivial))))))) (by kernel_rfl) rfl rfl
              · exact gv mix O_ 400 [f0, f0, f0, (10, false), f0, f0, f0, f0, f0, f0, f0, f0, (4, true), (31, false), f0, f0, f0, t0] (ai (cn h0) (a2 (bf h1) (a9 (cn h2) (ai (cn (bf h3)) (ai (cn h4) (a3 (cn h5) (ai (cn (bf h6)) trivial))))))) (by kernel_rfl) rfl rfl
            · exact gv mix O_ 400 [f0, f0, f0, (10, false), f0, f0, f0, f0, f0, f0, f0, f0, (4, true), (31, false), t0, t0, t0] (ai (cn h0) (a2 (bf h1) (a9 (cn h2) (ai (cn (bf h3)) (ai (cn h4) (a3 (cn (bf h5)) trivial)))))) (by kernel_rfl) rfl rfl
          · exact gv mix O_ 400 [f0, f0, f0, (10, false), f0, f0, f0, f0, f0, f0, f0, f0, (4, true), (31, true)] (ai (cn h0) (a2 (bf h1) (a9 (cn h2) (ai (cn (bf h3)) (ai (cn (bf h4)) trivial))))) (by kernel_rfl) rfl rfl
      · refine gite (fun h3 => ?_) (fun h3 => ?_)
        · refine gite (fun h4 => ?_) (fun h4 => ?_)
          · refine gite (fun h5 => ?_) (fun h5 => ?_)
            · refine gite (fun h6 => ?_) (fun h6 => ?_)
              · refine gite (fun h7 => ?_) (fun h7 => ?_)
                · refine gite (fun h8 => ?_) (fun h8 => ?_)
                  · exact gv mix O_ 400 [f0, f0, f0, (10, true), t0, t0, t0, t0, f0, f0, f0, f0, t0, f0, t0, f0, f0, (6, false), (1, true), f0, t0, (4, false), f0, f0, f0, f0, f0] (ai (cn h0) (a2 (bf h1) (a5 (cn (bf h2)) (a4 (cn h3) (ai (cn (bf h2)) (ai (cn h3) (ai (cn (bf h2)) (a3 (cn h4) (ai (cn (bf h2)) (ai (cn h4) (ai (cn (bf h2)) (ai (cn h5) (ai (cn h6) (a3 (cn h7) (ai (cn h8) trivial))))))))))))))) (by kernel_rfl) rfl rfl
                  · exact gv mix O_ 400 [f0, f0, f0, (10, true), t0, t0, t0, t0, f0, f0, f0, f0, t0, f0, t0, f0, f0, (6, false), (1, true), f0, t0, (4, false), f0, f0, f0, f0, t0] (ai (cn h0) (a2 (bf h1) (a5 (cn (bf h2)) (a4 (cn h3) (ai (cn (bf h2)) (ai (cn h3) (ai (cn (bf h2)) (a3 (cn h4) (ai (cn (bf h2)) (ai (cn h4) (ai (cn (bf h2)) (ai (cn h5) (ai (cn h6) (a3 (cn h7) (ai (cn (bf h8)) trivial))))))))))))))) (by kernel_rfl) rfl rfl
                · exact gv mix O_ 400 [f0, f0, f0, (10, true), t0, t0, t0, t0, f0, f0, f0, f0, t0, f0, t0, f0, f0, (6, false), (1, true), f0, t0, (4, false), f0, t0, t0, t0] (ai (cn h0) (a2 (bf h1) (a5 (cn (bf h2)) (a4 (cn h3) (ai (cn (bf h2)) (ai (cn h3) (ai (cn (bf h2)) (a3 (cn h4) (ai (cn (bf h2)) (ai (cn h4) (ai (cn (bf h2)) (ai (cn h5) (ai (cn h6) (a3 (cn (bf h7)) trivial)))))))))))))) (by kernel_rfl) rfl rfl
              · exact gv mix O_ 400 [f0, f0, f0, (10, true), t0, t0, t0, t0, f0, f0, f0, f0, t0, f0, t0, f0, f0, (6, false), (1, true), f0, t0, (4, false), t0] (ai (cn h0) (a2 (bf h1) (a5 (cn (bf h2)) (a4 (cn h3) (ai (cn (bf h2)) (ai (cn h3) (ai (cn (bf h2)) (a3 (cn h4) (ai (cn (bf h2)) (ai (cn h4) (ai (cn (bf h2)) (ai (cn h5) (ai (cn (bf h6)) trivial))))))))))))) (by kernel_rfl) rfl rfl
            · refine gite (fun h6 => ?_) (fun h6 => ?_)
              · refine gite (fun h7 => ?_) (fun h7 => ?_)
                · refine gite (fun h8 => ?_) (fun h8 => ?_)
                  · exact gv mix O_ 400 [f0, f0, f0, (10, true), t0, t0, t0, t0, f0, f0, f0, f0, t0, f0, t0, f0, f0, (6, false), (1, true), f0, t0, (4, true), (31, false), f0, f0, f0, f0] (ai (cn h0) (a2 (bf h1) (a5 (cn (bf h2)) (a4 (cn h3) (ai (cn (bf h2)) (ai (cn h3) (ai (cn (bf h2)) (a3 (cn h4) (ai (cn (bf h2)) (ai (cn h4) (ai (cn (bf h2)) (ai (cn (bf h5)) (ai (cn h6) (a3 (cn h7) (ai (cn h8) trivial))))))))))))))) (by kernel_rfl) rfl rfl
                  · exact gv mix O_ 400 [f0, f0, f0, (10, true), t0, t0, t0, t0, f0, f0, f0, f0, t0, f0, t0, f0, f0, (6, false), (1, true), f0, t0, (4, true), (31, false), f0, f0, f0, t0] (ai (cn h0) (a2 (bf h1) (a5 (cn (bf h2)) (a4 (cn h3) (ai (cn (bf h2)) (ai (cn h3) (ai (cn (bf h2)) (a3 (cn h4) (ai (cn (bf h2)) (ai (cn h4) (ai (cn (bf h2)) (ai (cn (bf h5)) (ai (cn h6) (a3 (cn h7) (ai (cn (bf h8)) trivial))))))))))))))) (by kernel_rfl) rfl rfl
                · exact gv mix O_ 400 [f0, f0, f0, (10, true), t0, t0, t0, t0, f0, f0, f0, f0, t0, f0, t0, f0, f0, (6, false), (1, true), f0, t0, (4, true), (31, false), t0, t0, t0] (ai (cn h0) (a2 (bf h1) (a5 (cn (bf h2)) (a4 (cn h3) (ai (cn (bf h2)) (ai (cn h3) (ai (cn (bf h2)) (a3 (cn h4) (ai (cn (bf h2)) (ai (cn h4) (ai (cn (bf h2)) (ai (cn (bf h5)) (ai (cn h6) (a3 (cn (bf h7)) trivial)))))))))))))) (by kernel_rfl) rfl rfl
              · exact gv mix O_ 400 [f0, f0, f0, (10, true), t0, t0, t0, t0, f0, f0, f0, f0, t0, f0, t0, f0, f0, (6, false), (1, true), f0, t0, (4, true), (31, true)] (ai (cn h0) (a2 (bf h1) (a5 (cn (bf h2)) (a4 (cn h3) (ai (cn (bf h2)) (ai (cn h3) (ai (cn (bf h2)) (a3 (cn h4) (ai (cn (bf h2)) (ai (cn h4) (ai (cn (bf h2)) (ai (cn (bf h5)) (ai (cn (bf h6)) trivial))))))))))))) (by kernel_rfl) rfl rfl
          · exact gv mix O_ 400 [f0, f0, f0, (10, true), t0, t0, t0, t0, f0, f0, f0, f0, t0, f0, t0, t0, t0, t0, t0, t0, t0] (ai (cn h0) (a2 (bf h1) (a5 (cn (bf h2)) (a4 (cn h3) (ai (cn (bf h2)) (ai (cn h3) (ai (cn (bf h2)) (a3 (cn (bf h4)) (ai (cn (bf h2)) (ai (cn (bf h4)) (ai (cn (bf h2)) trivial))))))))))) (by kernel_rfl) rfl rfl
        · exact gv mix O_ 400 [f0, f0, f0, (10, true), t0, t0, t0, t0, t0, t0, t0, t0, t0, t0, t0, (3, true), (1, true)] (ai (cn h0) (a2 (bf h1) (a5 (cn (bf h2)) (a4 (cn (bf h3)) (ai (cn (bf h2)) (ai (cn (bf h3)) (a3 (cn (bf h2)) trivial))))))) (by kernel_rfl) rfl rfl
  · exact gv mix O_ 400 [t0] (ai (cn (bf h0)) trivial) (by kernel_rfl) rfl rfl
theorem G_lockgateref05_Branch_5 (b : Bool) (c : Bool) (d : Sc) (e : Sc) : Gives Tryz.prog 12 [(cI .i64).enc 5, cB.enc b, cB.enc c, cSc.enc d, cSc.enc e] ((cP3 cSc cSc cB).enc (lockgateref05_Branch_5 b c d e)) := by
  unfold lockgateref05_Branch_5
  have O_ := (orc_cons K_lockgateref05_Is (orc_cons K_lockgateref01_Jump (orc_cons K_lockgateref05_learn (orc_cons K_lockgateref05_Norm (orc_cons K_lockgateref05_Upto (orc_cons K_lockgateref05_Within on_))))))
  refine gite (fun h0 => ?_) (fun h0 => ?_)
  · refine gite (fun h1 => ?_) (fun h1 => ?_)
    · refine gite (fun h2 => ?_) (fun h2 => ?_)
      · refine gite (fun h3 => ?_) (fun h3 => ?_)
        · exact gv mix O_ 400 [f0, t0, t0, t0, t0] (ai (cn h0) (a2 h1 (ai h2 (ai h3 trivial)))) (by kernel_rfl) rfl rfl
        · exact gv mix O_ 400 [f0, t0, t0, t0, f0] (ai (cn h0) (a2 h1 (ai h2 (ai (bf h3) trivial)))) (by kernel_rfl) rfl rfl
      · refine gite (fun h3 => ?_) (fun h3 => ?_)
        · refine gite (fun h4 => ?_) (fun h4 => ?_)
          · refine gite (fun h5 => ?_) (fun h5 => ?_)
            · refine gite (fun h6 => ?_) (fun h6 => ?_)
              · refine gite (fun h7 => ?_) (fun h7 => ?_)
                · exact gv mix O_ 400 [f0, t0, t0, f0, (9, false), f0, f0, f0, f0, f0, f0, f0, f0, (4, false), f0, f0, f0, f0, f0] (ai (cn h0) (a2 h1 (ai (bf h2) (a9 (cn h3) (ai (cn h4) (ai (cn h5) (a3 (cn h6) (ai (cn h7) trivial)))))))) (by kernel_rfl) rfl rfl
                · exact gv mix O_ 400 [f0, t0, t0, f0, (9, false), f0, f0, f0, f0, f0, f0, f0, f0, (4, false), f0, f0, f0, f0, t0] (ai (cn h0) (a2 h1 (ai (bf h2) (a9 (cn h3) (ai (cn h4) (ai (cn h5) (a3 (cn h6) (ai (cn (bf h7)) trivial)))))))) (by kernel_rfl) rfl rfl
              · exact gv mix O_ 400 [f0, t0, t0, f0, (9, false), f0, f0, f0, f0, f0, f0, f0, f0, (4, false), f0, t0, t0, t0] (ai (cn h0) (a2 h1 (ai (bf h2) (a9 (cn h3) (ai (cn h4) (ai (cn h5) (a3 (cn (bf h6)) trivial))))))) (by kernel_rfl) rfl rfl
            · exact gv mix O_ 400 [f0, t0, t0, f0, (9, false), f0, f0, f0, f0, f0, f0, f0, f0, (4, false), t0] (ai (cn h0) (a2 h1 (ai (bf h2) (a9 (cn h3) (ai (cn h4) (ai (cn (bf h5)) trivial)))))) (by kernel_rfl) rfl rfl
          · refine gite (fun h5 => ?_) (fun h5 => ?_)
            · refine gite (fun h6 => ?_) (fun h6 => ?_)
              · refine gite (fun h7 => ?_) (fun h7 => ?_)
                · exact gv mix O_ 400 [f0, t0, t0, f0, (9, false), f0, f0, f0, f0, f0, f0, f0, f0, (4, true), (7, false), f0, f0, f0, f0] (ai (cn h0) (a2 h1 (ai (bf h2) (a9 (cn h3) (ai (cn (bf h4)) (ai (cn h5) (a3 (cn h6) (ai (cn h7) trivial)))))))) (by kernel_rfl) rfl rfl
                · exact gv mix O_ 400 [f0, t0, t0, f0, (9, false), f0, f0, f0, f0, f0, f0, f0, f0, (4, true), (7, false), f0, f0, f0, t0] (ai (cn h0) (a2 h1 (ai (bf h2) (a9 (cn h3) (ai (cn (bf h4)) (ai (cn h5) (a3 (cn h6) (ai (cn (bf h7)) trivial)))))))) (by kernel_rfl) rfl rfl
              · exact gv mix O_ 400 [f0, t0, t0, f0, (9, false), f0, f0, f0, f0, f0, f0, f0, f0, (4, true), (7, false), t0, t0, t0] (ai (cn h0) (a2 h1 (ai (bf h2) (a9 (cn h3) (ai (cn (bf h4)) (ai (cn h5) (a3 (cn (bf h6)) trivial))))))) (by kernel_rfl) rfl rfl
            · exact gv mix O_ 400 [f0, t0, t0, f0, (9, false), f0, f0, f0, f0, f0, f0, f0, f0, (4, true), (7, true)] (ai (cn h0) (a2 h1 (ai (bf h2) (a9 (cn h3) (ai (cn (bf h4)) (ai (cn (bf h5)) trivial)))))) (by kernel_rfl) rfl rfl
        · refine gite (fun h4 => ?_) (fun h4 => ?_)
          · refine gite (fun h5 => ?_) (fun h5 => ?_)
            · refine gite (fun h6 => ?_) (fun h6 => ?_)
              · refine gite (fun h7 => ?_) (fun h7 => ?_)
                · refine gite (fun h8 => ?_) (fun h8 => ?_)
                  · refine gite (fun h9 => ?_) (fun h9 => ?_)
                    · exact gv mix O_ 400 [f0, t0, t0, f0, (9, true), t0, t0, t0, t0, f0, f0, f0, f0, t0, f0, t0, f0, f0, (6, false), (1, true), f0, t0, (4, false), f0, f0, f0, f0, f0] (ai (cn h0) (a2 h1 (ai (bf h2) (a5 (cn (bf h3)) (a4 (cn h4) (ai (cn (bf h3)) (ai (cn h4) (ai (cn (bf h3)) (a3 (cn h5) (ai (cn (bf h3)) (ai (cn h5) (ai (cn (bf h3)) (ai (cn h6) (ai (cn h7) (a3 (cn h8) (ai (cn h9) trivial)))))))))))))))) (by kernel_rfl) rfl rfl
                    · exact gv mix O_ 400 [f0, t0, t0, f0, (9, true), t0, t0, t0, t0, f0, f0, f0, f0, t0, f0, t0, f0, f0, (6, false), (1, true), f0, t0, (4, false), f0, f0, f0, f0, t0] (ai (cn h0) (a2 h1 (ai (bf h2) (a5 (cn (bf h3)) (a4 (cn h4) (ai (cn (bf h3)) (ai (cn h4) (ai (cn (bf h3)) (a3 (cn h5) (ai (cn (bf h3)) (ai (cn h5) (ai (cn (bf h3)) (ai (cn h6) (ai (cn h7) (a3 (cn h8) (ai (cn (bf h9)) trivial)))))))))))))))) (by kernel_rfl) rfl rfl
                  · exact gv mix O_ 400 [f0, t0, t0, f0, (9, true), t0, t0, t0, t0, f0, f0, f0, f0, t0, f0, t0, f0, f0, (6, false), (1, true), f0, t0, (4, false), f0, t0, t0, t0] (ai (cn h0) (a2 h1 (ai (bf h2) (a5 (cn (bf h3)) (a4 (cn h4) (ai (cn (bf h3)) (ai (cn h4) (ai (cn (bf h3)) (a3 (cn h5) (ai (cn (bf h3)) (ai (cn h5) (ai (cn (bf h3)) (ai (cn h6) (ai (cn h7) (a3 (cn (bf h8)) trivial))))))))))))))) (by kernel_rfl) rfl rfl
                · exact gv mix O_ 400 [f0, t0, t0, f0, (9, true), t0, t0, t0, t0, f0, f0, f0, f0, t0, f0, t0, f0, f0, (6, false), (1, true), f0, t0, (4, false), t0] (ai (cn h0) (a2 h1 (ai (bf h2) (a5 (cn (bf h3)) (a4 (cn h4) (ai (cn (bf h3)) (ai (cn h4) (ai (cn (bf h3)) (a3 (cn h5) (ai (cn (bf h3)) (ai (cn h5) (ai (cn (bf h3)) (ai (cn h6) (ai (cn (bf h7)) trivial)))))))))))))) (by kernel_rfl) rfl rfl
              · refine gite (fun h7 => ?_) (fun h7 => ?_)
                · refine gite (fun h8 => ?_) (fun h8 => ?_)
                  · refine gite (fun h9 => ?_) (fun h9 => ?_)
                    · exact gv mix O_ 400 [f0, t0, t0, f0, (9, true), t0, t0, t0, t0, f0, f0, f0, f0, t0, f0, t0, f0, f0, (6, false), (1, true), f0, t0, (4, true), (7, false), f0, f0, f0, f0] (ai (cn h0) (a2 h1 (ai (bf h2) (a5 (cn (bf h3)) (a4 (cn h4) (ai (cn (bf h3)) (ai (cn h4) (ai (cn (bf h3)) (a3 (cn h5) (ai (cn (bf h3)) (ai (cn h5) (ai (cn (bf h3)) (ai (cn (bf h6)) (ai (cn h7) (a3 (cn h8) (ai (cn h9) trivial)))))))))))))))) (by kernel_rfl) rfl rfl
                    · exact gv mix O_ 400 [f0, t0, t0, f0, (9, true), t0, t0, t0, t0, f0, f0, f0, f0, t0, f0, t0, f0, f0, (6, false), (1, true), f0, t0, (4, true), (7, false), f0, f0, f0, t0] (ai (cn h0) (a2 h1 (ai (bf h2) (a5 (cn (bf h3)) (a4 (cn h4) (ai (cn (bf h3)) (ai (cn h4) (ai (cn (bf h3)) (a3 (cn h5) (ai (cn (bf h3)) (ai (cn h5) (ai (cn (bf h3)) (ai (cn (bf h6)) (ai (cn h7) (a3 (cn h8) (ai (cn (bf h9)) trivial)))))))))))))))) (by kernel_rfl) rfl rfl
                  · exact gv mix O_ 400 [f0, t0, t0, f0, (9, true), t0, t0, t0, t0, f0, f0, f0, f0, t0, f0, t0, f0, f0, (6, false), (1, true), f0, t0, (4, true), (7, false), t0, t0, t0] (ai (cn h0) (a2 h1 (ai (bf h2) (a5 (cn (bf h3)) (a4 (cn h4) (ai (cn (bf h3)) (ai (cn h4) (ai (cn (bf h3)) (a3 (cn h5) (ai (cn (bf h3)) (ai (cn h5) (ai (cn (bf h3)) (ai (cn (bf h6)) (ai (cn h7) (a3 (cn (bf h8)) trivial))))))))))))))) (by kernel_rfl) rfl rfl
                · exact gv mix O_ 400 [f0, t0, t0, f0, (9, true), t0, t0, t0, t0, f0, f0, f0, f0, t0, f0, t0, f0, f0, (6, false), (1, true), f0, t0, (4, true), (7, true)] (ai (cn h0) (a2 h1 (ai (bf h2) (a5 (cn (bf h3)) (a4 (cn h4) (ai (cn (bf h3)) (ai (cn h4) (ai (cn (bf h3)) (a3 (cn h5) (ai (cn (bf h3)) (ai (cn h5) (ai (cn (bf h3)) (ai (cn (bf h6)) (ai (cn (bf h7)) trivial)))))))))))))) (by kernel_rfl) rfl rfl
            · exact gv mix O_ 400 [f0, t0, t0, f0, (9, true), t0, t0, t0, t0, f0, f0, f0, f0, t0, f0, t0, t0, t0, t0, t0, t0, t0] (ai (cn h0) (a2 h1 (ai (bf h2) (a5 (cn (bf h3)) (a4 (cn h4) (ai (cn (bf h3)) (ai (cn h4) (ai (cn (bf h3)) (a3 (cn (bf h5)) (ai (cn (bf h3)) (ai (cn (bf h5)) (ai (cn (bf h3)) trivial)))))))))))) (by kernel_rfl) rfl rfl
          · exact gv mix O_ 400 [f0, t0, t0, f0, (9, true), t0, t0, t0, t0, t0, t0, t0, t0, t0, t0, t0, (3, true), (1, true)] (ai (cn h0) (a2 h1 (ai (bf h2) (a5 (cn (bf h3)) (a4 (cn (bf h4)) (ai (cn (bf h3)) (ai (cn (bf h4)) (a3 (cn (bf h3)) trivial)))))))) (by kernel_rfl) rfl rfl
    · refine gite (fun h2 => ?_) (fun h2 => ?_)
      · refine gite (fun h3 => ?_) (fun h3 => ?_)
        · refine gite (fun h4 => ?_) (fun h4 => ?_)
          · refine gite (fun h5 => ?_) (fun h5 => ?_)
            · refine gite (fun h6 => ?_) (fun h6 => ?_)
              · exact gv mix O_ 400 [f0, f0, f0, (10, false), f0, f0, f0, f0, f0, f0, f0, f0, (4, false), f0, f0, f0, f0, f0] (ai (cn h0) (a2 (bf h1) (a9 (cn h2) (ai (cn h3) (ai (cn h4) (a3 (cn h5) (ai (cn h6) trivial))))))) (by kernel_rfl) rfl rfl
              · exact gv mix O_ 400 [f0, f0, f0, (10, false), f0, f0, f0, f0, f0, f0, f0, f0, (4, false), f0, f0, f0, f0, t0] (ai (cn h0) (a2 (bf h1) (a9 (cn h2) (ai (cn h3) (ai (cn h4) (a3 (cn h5) (ai (cn (bf h6)) trivial))))))) (by kernel_rfl) rfl rfl
            · exact gv mix O_ 400 [f0, f0, f0, (10, false), f0, f0, f0, f0, f0, f0, f0, f0, (4, false), f0, t0, t0, t0] (ai (cn h0) (a2 (bf h1) (a9 (cn h2) (ai (cn h3) (ai (cn h4) (a3 (cn (bf h5)) trivial)))))) (by kernel_rfl) rfl rfl
          · exact gv mix O_ 400 [f0, f0, f0, (10, false), f0, f0, f0, f0, f0, f0, f0, f0, (4, false), t0] (ai (cn h0) (a2 (bf h1) (a9 (cn h2) (ai (cn h3) (ai (cn (bf h4)) trivial))))) (by kernel_rfl) rfl rfl
        · refine gite (fun h4 => ?_) (fun h4 => ?_)
          · refine gite (fun h5 => ?_) (fun h5 => ?_)
            · refine gite (fun h6 => ?_) (fun h6 => ?_)
              · exact gv mix O_ 400 [f0, f0, f0, (10, false), f0, f0, f0, f0, f0, f0, f0, f0, (4, true), (7, false), f0, f0, f0, f0] (ai (cn h0) (a2 (bf h1) (a9 (cn h2) (ai (cn (bf h3)) (ai (cn h4) (a3 (cn h5) (ai (cn h6) trivial))))))) (by kernel_rfl) rfl rfl
              · exact gv mix O_ 400 [f0, f0, f0, (10, false), f0, f0, f0, f0, f0, f0, f0, f0, (4, true), (7, false), f0, f0, f0, t0] (ai (cn h0) (a2 (bf h1) (a9 (cn h2) (ai (cn (bf h3)) (ai (cn h4) (a3 (cn h5) (ai (cn (bf h6)) trivial))))))) (by kernel_rfl) rfl rfl
            · exact gv mix O_ 400 [f0, f0, f0, (10, false), f0, f0, f0, f0, f0, f0, f0, f0, (4, true), (7, false), t0, t0, t0] (ai (cn h0) (a2 (bf h1) (a9 (cn h2) (ai (cn (bf h3)) (ai (cn h4) (a3 (cn (bf h5)) trivial)))))) (by kernel_rfl) rfl rfl
          · exact gv mix O_ 400 [f0, f0, f0, (10, false), f0, f0, f0, f0, f0, f0, f0, f0, (4, true), (7, true)] (ai (cn h0) (a2 (bf h1) (a9 (cn h2) (ai (cn (bf h3)) (ai (cn (bf h4)) trivial))))) (by kernel_rfl) rfl rfl
      · refine gite (fun h3 => ?_) (fun h3 => ?_)
        · refine gite (fun h4 => ?_) (fun h4 => ?_)
          · refine gite (fun h5 => ?_) (fun h5 => ?_)
            · refine gite (fun h6 => ?_) (fun h6 => ?_)
              · refine gite (fun h7 => ?_) (fun h7 => ?_)
                · refine gite (fun h8 => ?_) (fun h8 => ?_)
                  · exact gv mix O_ 400 [f0, f0, f0, (10, true), t0, t0, t0, t0, f0, f0, f0, f0, t0, f0, t0, f0, f0, (6, false), (1, true), f0, t0, (4, false), f0, f0, f0, f0, f0] (ai (cn h0) (a2 (bf h1) (a5 (cn (bf h2)) (a4 (cn h3) (ai (cn (bf h2)) (ai (cn h3) (ai (cn (bf h2)) (a3 (cn h4) (ai (cn (bf h2)) (ai (cn h4) (ai (cn (bf h2)) (ai (cn h5) (ai (cn h6) (a3 (cn h7) (ai (cn h8) trivial))))))))))))))) (by kernel_rfl) rfl rfl
                  · exact gv mix O_ 400 [f0, f0, f0, (10, true), t0, t0, t0, t0, f0, f0, f0, f0, t0, f0, t0, f0, f0, (6, false), (1, true), f0, t0, (4, false), f0, f0, f0, f0, t0] (ai (cn h0) (a2 (bf h1) (a5 (cn (bf h2)) (a4 (cn h3) (ai (cn (bf h2)) (ai (cn h3) (ai (cn (bf h2)) (a3 (cn h4) (ai (cn (bf h2)) (ai (cn h4) (ai (cn (bf h2)) (ai (cn h5) (ai (cn h6) (a3 (cn h7) (ai (cn (bf h8)) trivial))))))))))))))) (by kernel_rfl) rfl rfl
                · exact gv mix O_ 400 [f0, f0, f0, (10, true), t0, t0, t0, t0, f0, f0, f0, f0, t0, f0, t0, f0, f0, (6, false), (1, true), f0, t0, (4, false), f0, t0, t0, t0] (ai (cn h0) (a2 (bf h1) (a5 (cn (bf h2)) (a4 (cn h3) (ai (cn (bf h2)) (ai (cn h3) (ai (cn (bf h2)) (a3 (cn h4) (ai (cn (bf h2)) (ai (cn h4) (ai (cn (bf h2)) (ai (cn h5) (ai (cn h6) (a3 (cn (bf h7)) trivial)))))))))))))) (by kernel_rfl) rfl rfl
              · exact gv mix O_ 400 [f0, f0, f0, (10, true), t0, t0, t0, t0, f0, f0, f0, f0, t0, f0, t0, f0, f0, (6, false), (1, true), f0, t0, (4, false), t0] (ai (cn h0) (a2 (bf h1) (a5 (cn (bf h2)) (a4 (cn h3) (ai (cn (bf h2)) (ai (cn h3) (ai (cn (bf h2)) (a3 (cn h4) (ai (cn (bf h2)) (ai (cn h4) (ai (cn (bf h2)) (ai (cn h5) (ai (cn (bf h6)) trivial))))))))))))) (by kernel_rfl) rfl rfl
            · refine gite (fun h6 => ?_) (fun h6 => ?_)
              · refine gite (fun h7 => ?_) (fun h7 => ?_)
                · refine gite (fun h8 => ?_) (fun h8 => ?_)
                  · exact gv mix O_ 400 [f0, f0, f0, (10, true), t0, t0, t0, t0, f0, f0, f0, f0, t0, f0, t0, f0, f0, (6, false), (1, true), f0, t0, (4, true), (7, false), f0, f0, f0, f0] (ai (cn h0) (a2 (bf h1) (a5 (cn (bf h2)) (a4 (cn h3) (ai (cn (bf h2)) (ai (cn h3) (ai (cn (bf h2)) (a3 (cn h4) (ai (cn (bf h2)) (ai (cn h4) (ai (cn (bf h2)) (ai (cn (bf h5)) (ai (cn h6) (a3 (cn h7) (ai (cn h8) trivial))))))))))))))) (by kernel_rfl) rfl rfl
                  · exact gv mix O_ 400 [f0, f0, f0, (10, true), t0, t0, t0, t0, f0, f0, f0, f0, t0, f0, t0, f0, f0, (6, false), (1, true), f0, t0, (4, true), (7, false), f0, f0, f0, t0] (ai (cn h0) (a2 (bf h1) (a5 (cn (bf h2)) (a4 (cn h3) (ai (cn (bf h2)) (ai (cn h3) (ai (cn (bf h2)) (a3 (cn h4) (ai (cn (bf h2)) (ai (cn h4) (ai (cn (bf h2)) (ai (cn (bf h5)) (ai (cn h6) (a3 (cn h7) (ai (cn (bf h8)) trivial))))))))))))))) (by kernel_rfl) rfl rfl
                · exact gv mix O_ 400 [f0, f0, f0, (10, true), t0, t0, t0, t0, f0, f0, f0, f0, t0, f0, t0, f0, f0, (6, false), (1, true), f0, t0, (4, true), (7, false), t0, t0, t0] (ai (cn h0) (a2 (bf h1) (a5 (cn (bf h2)) (a4 (cn h3) (ai (cn (bf h2)) (ai (cn h3) (ai (cn (bf h2)) (a3 (cn h4) (ai (cn (bf h2)) (ai (cn h4) (ai (cn (bf h2)) (ai (cn (bf h5)) (ai (cn h6) (a3 (cn (bf h7)) trivial)))))))))))))) (by kernel_rfl) rfl rfl
              · exact gv mix O_ 400 [f0, f0, f0, (10, true), t0, t0, t0, t0, f0, f0, f0, f0, t0, f0, t0, f0, f0, (6, false), (1, true), f0, t0, (4, true), (7, true)] (ai (cn h0) (a2 (bf h1) (a5 (cn (bf h2)) (a4 (cn h3) (ai (cn (bf h2)) (ai (cn h3) (ai (cn (bf h2)) (a3 (cn h4) (ai (cn (bf h2)) (ai (cn h4) (ai (cn (bf h2)) (ai (cn (bf h5)) (ai (cn (bf h6)) trivial))))))))))))) (by kernel_rfl) rfl rfl
          · exact gv mix O_ 400 [f0, f0, f0, (10, true), t0, t0, t0, t0, f0, f0, f0, f0, t0, f0, t0, t0, t0, t0, t0, t0, t0] (ai (cn h0) (a2 (bf h1) (a5 (cn (bf h2)) (a4 (cn h3) (ai (cn (bf h2)) (ai (cn h3) (ai (cn (bf h2)) (a3 (cn (bf h4)) (ai (cn (bf h2)) (ai (cn (bf h4)) (ai (cn (bf h2)) trivial))))))))))) (by kernel_rfl) rfl rfl
        · exact gv mix O_ 400 [f0, f0, f0, (10, true), t0, t0, t0, t0, t0, t0, t0, t0, t0, t0, t0, (3, true), (1, true)] (ai (cn h0) (a2 (bf h1) (a5 (cn (bf h2)) (a4 (cn (bf h3)) (ai (cn (bf h2)) (ai (cn (bf h3)) (a3 (cn (bf h2)) trivial))))))) (by kernel_rfl) rfl rfl
  · exact gv mix O_ 400 [t0] (ai (cn (bf h0)) trivial) (by kernel_rfl) rfl rfl
theorem G_lockgateref05_Branch_6 (b : Bool) (c : Bool) (d : Sc) (e : Sc) : Gives Tryz.prog 12 [(cI .i64).enc 6, cB.enc b, cB.enc c, cSc.enc d, cSc.enc e] ((cP3 cSc cSc cB).enc (lockgateref05_Branch_6 b c d e)) := by
  unfold lockgateref05_Branch_6
  have O_ := (orc_cons K_lockgateref05_Is (orc_cons K_lockgateref01_Jump (orc_cons K_lockgateref05_learn (orc_cons K_lockgateref05_Norm (orc_cons K_lockgateref05_Upto (orc_cons K_lockgateref05_Within on_))))))
  refine gite (fun h0 => ?_) (fun h0 => ?_)
  · refine gite (fun h1 => ?_) (fun h1 => ?_)
    · refine gite (fun h2 => ?_) (fun h2 => ?_)
      · refine gite (fun h3 => ?_) (fun h3 => ?_)
        · exact gv mix O_ 400 [f0, t0, t0, t0, t0] (ai (cn h0) (a2 h1 (ai h2 (ai h3 trivial)))) (by kernel_rfl) rfl rfl
        · exact gv mix O_ 400 [f0, t0, t0, t0, f0] (ai (cn h0) (a2 h1 (ai h2 (ai (bf h3) trivial)))) (by kernel_rfl) rfl rfl
      · refine gite (fun h3 => ?_) (fun h3 => ?_)
        · refine gite (fun h4 => ?_) (fun h4 => ?_)
          · refine gite (fun h5 => ?_) (fun h5 => ?_)
            · refine gite (fun h6 => ?_) (fun h6 => ?_)
              · refine gite (fun h7 => ?_) (fun h7 => ?_)
                · exact gv mix O_ 400 [f0, t0, t0, f0, (9, false), f0, f0, f0, f0, f0, f0, f0, f0, (4, false), f0, f0, f0, f0, f0] (ai (cn h0) (a2 h1 (ai (bf h2) (a9 (cn h3) (ai (cn h4) (ai (cn h5) (a3 (cn h6) (ai (cn h7) trivial)))))))) (by kernel_rfl) rfl rfl
                · exact gv mix O_ 400 [f0, t0, t0, f0, (9, false), f0, f0, f0, f0, f0, f0, f0, f0, (4, false), f0, f0, f0, f0, t0] (ai (cn h0) (a2 h1 (ai (bf h2) (a9 (cn h3) (ai (cn h4) (ai (cn h5) (a3 (cn h6) (ai (cn (bf h7)) trivial)))))))) (by kernel_rfl) rfl rfl
              · exact gv mix O_ 400 [f0, t0, t0, f0, (9, false), f0, f0, f0, f0, f0, f0, f0, f0, (4, false), f0, t0, t0, t0] (ai (cn h0) (a2 h1 (ai (bf h2) (a9 (cn h3) (ai (cn h4) (ai (cn h5) (a3 (cn (bf h6)) trivial))))))) (by kernel_rfl) rfl rfl
            · exact gv mix O_ 400 [f0, t0, t0, f0, (9, false), f0, f0, f0, f0, f0, f0, f0, f0, (4, false), t0] (ai (cn h0) (a2 h1 (ai (bf h2) (a9 (cn h3) (ai (cn h4) (ai (cn (bf h5)) trivial)))))) (by kernel_rfl) rfl rfl
          · refine gite (fun h5 => ?_) (fun h5 => ?_)
            · refine gite (fun h6 => ?_) (fun h6 => ?_)
              · refine gite (fun h7 => ?_) (fun h7 => ?_)
                · exact gv mix O_ 400 [f0, t0, t0, f0, (9, false), f0, f0, f0, f0, f0, f0, f0, f0, (4, true), (22, false), f0, f0, f0, f0] (ai (cn h0) (a2 h1 (ai (bf h2) (a9 (cn h3) (ai (cn (bf h4)) (ai (cn h5) (a3 (cn h6) (ai (cn h7) trivial)))))))) (by kernel_rfl) rfl rfl
                · exact gv mix O_ 400 [f0, t0, t0, f0, (9, false), f0, f0, f0, f0, f0, f0, f0, f0, (4, true), (22, false), f0, f0, f0, t0] (ai (cn h0) (a2 h1 (ai (bf h2) (a9 (cn h3) (ai (cn (bf h4)) (ai (cn h5) (a3 (cn h6) (ai (cn (bf h7)) trivial)))))))) (by kernel_rfl) rfl rfl
              · exact gv mix O_ 400 [f0, t0, t0, f0, (9, false), f0, f0, f0, f0, f0, f0, f0, f0, (4, true), (22, false), t0, t0, t0] (ai (cn h0) (a2 h1 (ai (bf h2) (a9 (cn h3) (ai (cn (bf h4)) (ai (cn h5) (a3 (cn (bf h6)) trivial))))))) (by kernel_rfl) rfl rfl
            · exact gv mix O_ 400 [f0, t0, t0, f0, (9, false), f0, f0, f0, f0, f0, f0, f0, f0, (4, true), (22, true)] (ai (cn h0) (a2 h1 (ai (bf h2) (a9 (cn h3) (ai (cn (bf h4)) (ai (cn (bf h5)) trivial)))))) (by kernel_rfl) rfl rfl
        · refine gite (fun h4 => ?_) (fun h4 => ?_)
          · refine gite (fun h5 => ?_) (fun h5 => ?_)
            · refine gite (fun h6 => ?_) (fun h6 => ?_)
              · exact gv mix O_ 400 [f0, t0, t0, f0, (9, true), t0, t0, t0, t0, f0, f0, f0, f0, t0, f0, t0, f0, f0, (5, true), t0, t0, t0, (1, true), f0, (1, true), f0, t0] (ai (cn h0) (a2 h1 (ai (bf h2) (a5 (cn (bf h3)) (a4 (cn h4) (ai (cn (bf h3)) (ai (cn h4) (ai (cn (bf h3)) (a2 (cn h5) (a5 (dt h6) (ai (cn h5) (ai (cn (bf h3)) (ai (cn h5) (ai (cn (bf h3)) trivial)))))))))))))) (by kernel_rfl) rfl rfl
              · refine gite (fun h7 => ?_) (fun h7 => ?_)
                · exact gv mix O_ 400 [f0, t0, t0, f0, (9, true), t0, t0, t0, t0, f0, f0, f0, f0, t0, f0, t0, f0, f0, (5, false), f0, f0, f0, (1, false), f0, (1, true), f0, t0, t0] (ai (cn h0) (a2 h1 (ai (bf h2) (a5 (cn (bf h3)) (a4 (cn h4) (ai (cn (bf h3)) (ai (cn h4) (ai (cn (bf h3)) (a2 (cn h5) (a5 (df h6) (ai (cn h5) (ai (cn (bf h3)) (ai (cn h5) (ai (cn (bf h3)) (ai (dt h7) trivial))))))))))))))) (by kernel_rfl) rfl rfl
                · refine gite (fun h8 => ?_) (fun h8 => ?_)
                  · refine gite (fun h9 => ?_) (fun h9 => ?_)
                    · refine gite (fun h10 => ?_) (fun h10 => ?_)
                      · refine gite (fun h11 => ?_) (fun h11 => ?_)
                        · exact gv mix O_ 400 [f0, t0, t0, f0, (9, true), t0, t0, t0, t0, f0, f0, f0, f0, t0, f0, t0, f0, f0, (5, false), f0, f0, f0, (1, false), f0, (1, true), f0, t0, f0, (3, false), f0, f0, f0, f0, f0] (ai (cn h0) (a2 h1 (ai (bf h2) (a5 (cn (bf h3)) (a4 (cn h4) (ai (cn (bf h3)) (ai (cn h4) (ai (cn (bf h3)) (a2 (cn h5) (a5 (df h6) (ai (cn h5) (ai (cn (bf h3)) (ai (cn h5) (ai (cn (bf h3)) (ai (df h7) (ai (cn h8) (ai (cn h9) (a3 (cn h10) (ai (cn h11) trivial))))))))))))))))))) (by kernel_rfl) rfl rfl
                        · exact gv mix O_ 400 [f0, t0, t0, f0, (9, true), t0, t0, t0, t0, f0, f0, f0, f0, t0, f0, t0, f0, f0, (5, false), f0, f0, f0, (1, false), f0, (1, true), f0, t0, f0, (3, false), f0, f0, f0, f0, t0] (ai (cn h0) (a2 h1 (ai (bf h2) (a5 (cn (bf h3)) (a4 (cn h4) (ai (cn (bf h3)) (ai (cn h4) (ai (cn (bf h3)) (a2 (cn h5) (a5 (df h6) (ai (cn h5) (ai (cn (bf h3)) (ai (cn h5) (ai (cn (bf h3)) (ai (df h7) (ai (cn h8) (ai (cn h9) (a3 (cn h10) (ai (cn (bf h11)) trivial))))))))))))))))))) (by kernel_rfl) rfl rfl
                      · exact gv mix O_ 400 [f0, t0, t0, f0, (9, true), t0, t0, t0, t0, f0, f0, f0, f0, t0, f0, t0, f0, f0, (5, false), f0, f0, f0, (1, false), f0, (1, true), f0, t0, f0, (3, false), f0, t0, t0, t0] (ai (cn h0) (a2 h1 (ai (bf h2) (a5 (cn (bf h3)) (a4 (cn h4) (ai (cn (bf h3)) (ai (cn h4) (ai (cn (bf h3)) (a2 (cn h5) (a5 (df h6) (ai (cn h5) (ai (cn (bf h3)) (ai (cn h5) (ai (cn (bf h3)) (ai (df h7) (ai (cn h8) (ai (cn h9) (a3 (cn (bf h10)) trivial)))))))))))))))))) (by kernel_rfl) rfl rfl
                    · exact gv mix O_ 400 [f0, t0, t0, f0, (9, true), t0, t0, t0, t0, f0, f0, f0, f0, t0, f0, t0, f0, f0, (5, false), f0, f0, f0, (1, false), f0, (1, true), f0, t0, f0, (3, false), t0] (ai (cn h0) (a2 h1 (ai (bf h2) (a5 (cn (bf h3)) (a4 (cn h4) (ai (cn (bf h3)) (ai (cn h4) (ai (cn (bf h3)) (a2 (cn h5) (a5 (df h6) (ai (cn h5) (ai (cn (bf h3)) (ai (cn h5) (ai (cn (bf h3)) (ai (df h7) (ai (cn h8) (ai (cn (bf h9)) trivial))))))))))))))))) (by kernel_rfl) rfl rfl
                  · refine gite (fun h9 => ?_) (fun h9 => ?_)
                    · refine gite (fun h10 => ?_) (fun h10 => ?_)
                      · refine gite (fun h11 => ?_) (fun h11 => ?_)
                        · exact gv mix O_ 400 [f0, t0, t0, f0, (9, true), t0, t0, t0, t0, f0, f0, f0, f0, t0, f0, t0, f0, f0, (5, false), f0, f0, f0, (1, false), f0, (1, true), f0, t0, f0, (3, true), (22, false), f0, f0, f0, f0] (ai (cn h0) (a2 h1 (ai (bf h2) (a5 (cn (bf h3)) (a4 (cn h4) (ai (cn (bf h3)) (ai (cn h4) (ai (cn (bf h3)) (a2 (cn h5) (a5 (df h6) (ai (cn h5) (ai (cn (bf h3)) (ai (cn h5) (ai (cn (bf h3)) (ai (df h7) (ai (cn (bf h8)) (ai (cn h9) (a3 (cn h10) (ai (cn h11) trivial))))))))))))))))))) (by kernel_rfl) rfl rfl
                        · exact gv mix O_ 400 [f0, t0, t0, f0, (9, true), t0, t0, t0, t0, f0, f0, f0, f0, t0, f0, t0, f0, f0, (5, false), f0, f0, f0, (1, false), f0, (1, true), f0, t0, f0, (3, true), (22, false), f0, f0, f0, t0] (ai (cn h0) (a2 h1 (ai (bf h2) (a5 (cn (bf h3)) (a4 (cn h4) (ai (cn (bf h3)) (ai (cn h4) (ai (cn (bf h3)) (a2 (cn h5) (a5 (df h6) (ai (cn h5) (ai (cn (bf h3)) (ai (cn h5) (ai (cn (bf h3)) (ai (df h7) (ai (cn (bf h8)) (ai (cn h9) (a3 (cn h10) (ai (cn (bf h11)) trivial))))))))))))))))))) (by kernel_rfl) rfl rfl
                      · exact gv mix O_ 400 [f0, t0, t0, f0, (9, true), t0, t0, t0, t0, f0, f0, f0, f0, t0, f0, t0, f0, f0, (5, false), f0, f0, f0, (1, false), f0, (1, true), f0, t0, f0, (3, true), (22, false), t0, t0, t0] (ai (cn h0) (a2 h1 (ai (bf h2) (a5 (cn (bf h3)) (a4 (cn h4) (ai (cn (bf h3)) (ai (cn h4) (ai (cn (bf h3)) (a2 (cn h5) (a5 (df h6) (ai (cn h5) (ai (cn (bf h3)) (ai (cn h5) (ai (cn (bf h3)) (ai (df h7) (ai (cn (bf h8)) (ai (cn h9) (a3 (cn (bf h10)) trivial)))))))))))))))))) (by kernel_rfl) rfl rfl
                    · exact gv mix O_ 400 [f0, t0, t0, f0, (9, true), t0, t0, t0, t0, f0, f0, f0, f0, t0, f0, t0, f0, f0, (5, false), f0, f0, f0, (1, false), f0, (1, true), f0, t0, f0, (3, true), (22, true)] (ai (cn h0) (a2 h1 (ai (bf h2) (a5 (cn (bf h3)) (a4 (cn h4) (ai (cn (bf h3)) (ai (cn h4) (ai (cn (bf h3)) (a2 (cn h5) (a5 (df h6) (ai (cn h5) (ai (cn (bf h3)) (ai (cn h5) (ai (cn (bf h3)) (ai (df h7) (ai (cn (bf h8)) (ai (cn (bf h9)) trivial))))))))))))))))) (by kernel_rfl) rfl rfl
            · exact gv mix O_ 400 [f0, t0, t0, f0, (9, true), t0, t0, t0, t0, f0, f0, f0, f0, t0, f0, t0, t0, t0, t0, t0, t0, t0] (ai (cn h0) (a2 h1 (ai (bf h2) (a5 (cn (bf h3)) (a4 (cn h4) (ai (cn (bf h3)) (ai (cn h4) (ai (cn (bf h3)) (a3 (cn (bf h5)) (ai (cn (bf h3)) (ai (cn (bf h5)) (ai (cn (bf h3)) trivial)))))))))))) (by kernel_rfl) rfl rfl
          · exact gv mix O_ 400 [f0, t0, t0, f0, (9, true), t0, t0, t0, t0, t0, t0, t0, t0, t0, t0, t0, (3, true), (1, true)] (ai (cn h0) (a2 h1 (ai (bf h2) (a5 (cn (bf h3)) (a4 (cn (bf h4)) (ai (cn (bf h3)) (ai (cn (bf h4)) (a3 (cn (bf h3)) trivial)))))))) (by kernel_rfl) rfl rfl
    · refine gite (fun h2 => ?_) (fun h2 => ?_)
      · refine gite (fun h3 => ?_) (fun h3 => ?_)
        · refine gite (fun h4 => ?_) (fun h4 => ?_)
          · refine gite (fun h5 => ?_) (fun h5 => ?_)
            · refine gite (fun h6 => ?_) (fun h6 => ?_)
              · exact gv mix O_ 400 [f0, f0, f0, (10, false), f0, f0, f0, f0, f0, f0, f0, f0, (4, false), f0, f0, f0, f0, f0] (ai (cn h0) (a2 (bf h1) (a9 (cn h2) (ai (cn h3) (ai (cn h4) (a3 (cn h5) (ai (cn h6) trivial))))))) (by kernel_rfl) rfl rfl
              · exact gv mix O_ 400 [f0, f0, f0, (10, false), f0, f0, f0, f0, f0, f0, f0, f0, (4, false), f0, f0, f0, f0, t0] (ai (cn h0) (a2 (bf h1) (a9 (cn h2) (ai (cn h3) (ai (cn h4) (a3 (cn h5) (ai (cn (bf h6)) trivial))))))) (by kernel_rfl) rfl rfl
            · exact gv mix O_ 400 [f0, f0, f0, (10, false), f0, f0, f0, f0, f0, f0, f0, f0, (4, false), f0, t0, t0, t0] (ai (cn h0) (a2 (bf h1) (a9 (cn h2) (ai (cn h3) (ai (cn h4) (a3 (cn (bf h5)) trivial)))))) (by kernel_rfl) rfl rfl
          · exact gv mix O_ 400 [f0, f0, f0, (10, false), f0, f0, f0, f0, f0, f0, f0, f0, (4, false), t0] (ai (cn h0) (a2 (bf h1) (a9 (cn h2) (ai (cn h3) (ai (cn (bf h4)) trivial))))) (by kernel_rfl) rfl rfl
        · refine gite (fun h4 => ?_) (fun h4 => ?_)
          · refine gite (fun h5 => ?_) (fun h5 => ?_)
            · refine gite (fun h6 => ?_) (fun h6 => ?_)
              · exact gv mix O_ 400 [f0, f0, f0, (10, false), f0, f0, f0, f0, f0, f0, f0, f0, (4, true), (22, false), f0, f0, f0, f0] (ai (cn h0) (a2 (bf h1) (a9 (cn h2) (ai (cn (bf h3)) (ai (cn h4) (a3 (cn h5) (ai (cn h6) trivial))))))) (by kernel_rfl) rfl rfl
              · exact gv mix O_ 400 [f0, f0, f0, (10, false), f0, f0, f0, f0, f0, f0, f0, f0, (4, true), (22, false), f0, f0, f0, t0] (ai (cn h0) (a2 (bf h1) (a9 (cn h2) (ai (cn (bf h3)) (ai (cn h4) (a3 (cn h5) (ai (cn (bf h6)) trivial))))))) (by kernel_rfl) rfl rfl
            · exact gv mix O_ 400 [f0, f0, f0, (10, false), f0, f0, f0, f0, f0, f0, f0, f0, (4, true), (22, false), t0, t0, t0] (ai (cn h0) (a2 (bf h1) (a9 (cn h2) (ai (cn (bf h3)) (ai (cn h4) (a3 (cn (bf h5)) trivial)))))) (by kernel_rfl) rfl rfl
          · exact gv mix O_ 400 [f0, f0, f0, (10, false), f0, f0, f0, f0, f0, f0, f0, f0, (4, true), (22, true)] (ai (cn h0) (a2 (bf h1) (a9 (cn h2) (ai (cn (bf h3)) (ai (cn (bf h4)) trivial))))) (by kernel_rfl) rfl rfl
      · refine gite (fun h3 => ?_) (fun h3 => ?_)
        · refine gite (fun h4 => ?_) (fun h4 => ?_)
          · refine gite (fun h5 => ?_) (fun h5 => ?_)
            · exact gv mix O_ 400 [f0, f0, f0, (10, true), t0, t0, t0, t0, f0, f0, f0, f0, t0, f0, t0, f0, f0, (5, true), t0, t0, t0, (1, true), f0, (1, true), f0, t0] (ai (cn h0) (a2 (bf h1) (a5 (cn (bf h2)) (a4 (cn h3) (ai (cn (bf h2)) (ai (cn h3) (ai (cn (bf h2)) (a2 (cn h4) (a5 (dt h5) (ai (cn h4) (ai (cn (bf h2)) (ai (cn h4) (ai (cn (bf h2)) trivial))))))))))))) (by kernel_rfl) rfl rfl
            · refine gite (fun h6 => ?_) (fun h6 => ?_)
              · exact gv mix O_ 400 [f0, f0, f0, (10, true), t0, t0, t0, t0, f0, f0, f0, f0, t0, f0, t0, f0, f0, (5, false), f0, f0, f0, (1, false), f0, (1, true), f0, t0, t0] (ai (cn h0) (a2 (bf h1) (a5 (cn (bf h2)) (a4 (cn h3) (ai (cn (bf h2)) (ai (cn h3) (ai (cn (bf h2)) (a2 (cn h4) (a5 (df h5) (ai (cn h4) (ai (cn (bf h2)) (ai (cn h4) (ai (cn (bf h2)) (ai (dt h6) trivial)))))))))))))) (by kernel_rfl) rfl rfl
              · refine gite (fun h7 => ?_) (fun h7 => ?_)
                · refine gite (fun h8 => ?_) (fun h8 => ?_)
                  · refine gite (fun h9 => ?_) (fun h9 => ?_)
                    · refine gite (fun h10 => ?_) (fun h10 => ?_)
                      · exact gv mix O_ 400 [f0, f0, f0, (10, true), t0, t0, t0, t0, f0, f0, f0, f0, t0, f0, t0, f0, f0, (5, false), f0, f0, f0, (1, false), f0, (1, true), f0, t0, f0, (3, false), f0, f0, f0, f0, f0] (ai (cn h0) (a2 (bf h1) (a5 (cn (bf h2)) (a4 (cn h3) (ai (cn (bf h2)) (ai (cn h3) (ai (cn (bf h2)) (a2 (cn h4) (a5 (df h5) (ai (cn h4) (ai (cn (bf h2)) (ai (cn h4) (ai (cn (bf h2)) (ai (df h6) (ai (cn h7) (ai (cn h8) (a3 (cn h9) (ai (cn h10) trivial)))))))))))))))))) (by kernel_rfl) rfl rfl
                      · exact gv mix O_ 400 [f0, f0, f0, (10, true), t0, t0, t0, t0, f0, f0, f0, f0, t0, f0, t0, f0, f0, (5, false), f0, f0, f0, (1, false), f0, (1, true), f0, t0, f0, (3, false), f0, f0, f0, f0, t0] (ai (cn h0) (a2 (bf h1) (a5 (cn (bf h2)) (a4 (cn h3) (ai (cn (bf h2)) (ai (cn h3) (ai (cn (bf h2)) (a2 (cn h4) (a5 (df h5) (ai (cn h4) (ai (cn (bf h2)) (ai (cn h4) (ai (cn (bf h2)) (ai (df h6) (ai (cn h7) (ai (cn h8) (a3 (cn h9) (ai (cn (bf h10)) trivial)))))))))))))))))) (by kernel_rfl) rfl rfl
                    · exact gv mix O_ 400 [f0, f0, f0, (10, true), t0, t0, t0, t0, f0, f0, f0, f0, t0, f0, t0, f0, f0, (5, false), f0, f0, f0, (1, false), f0, (1, true), f0, t0, f0, (3, false), f0, t0, t0, t0] (ai (cn h0) (a2 (bf h1) (a5 (cn (bf h2)) (a4 (cn h3) (ai (cn (bf h2)) (ai (cn h3) (ai (cn (bf h2)) (a2 (cn h4) (a5 (df h5) (ai (cn h4) (ai (cn (bf h2)) (ai (cn h4) (ai (cn (bf h2)) (ai (df h6) (ai (cn h7) (ai (cn h8) (a3 (cn (bf h9)) trivial))))))))))))))))) (by kernel_rfl) rfl rfl
                  · exact gv mix O_ 400 [f0, f0, f0, (10, true), t0, t0, t0, t0, f0, f0, f0, f0, t0, f0, t0, f0, f0, (5, false), f0, f0, f0, (1, false), f0, (1, true), f0, t0, f0, (3, false), t0] (ai (cn h0) (a2 (bf h1) (a5 (cn (bf h2)) (a4 (cn h3) (ai (cn (bf h2)) (ai (cn h3) (ai (cn (bf h2)) (a2 (cn h4) (a5 (df h5) (ai (cn h4) (ai (cn (bf h2)) (ai (cn h4) (ai (cn (bf h2)) (ai (df h6) (ai (cn h7) (ai (cn (bf h8)) trivial)))))))))))))))) (by kernel_rfl) rfl rfl
                · refine gite (fun h8 => ?_) (fun h8 => ?_)
                  · refine gite (fun h9 => ?_) (fun h9 => ?_)
                    · refine gite (fun h10 => ?_) (fun h10 => ?_)
                      · exact gv mix O_ 400 [f0, f0, f0, (10, true), t0, t0, t0, t0, f0, f0, f0, f0, t0, f0, t0, f0, f0, (5, false), f0, f0, f0, (1, false), f0, (1, true), f0, t0, f0, (3, true), (22, false), f0, f0, f0, f0] (ai (cn h0) (a2 (bf h1) (a5 (cn (bf h2)) (a4 (cn h3) (ai (cn (bf h2)) (ai (cn h3) (ai (cn (bf h2)) (a2 (cn h4) (a5 (df h5) (ai (cn h4) (ai (cn (bf h2)) (ai (cn h4) (ai (cn (bf h2)) (ai (df h6) (ai (cn (bf h7)) (ai (cn h8) (a3 (cn h9) (ai (cn h10) trivial)))))))))))))))))) (by kernel_rfl) rfl rfl
                      · exact gv mix O_ 400 [f0, f0, f0, (10, true), t0, t0, t0, t0, f0, f0, f0, f0, t0, f0, t0, f0, f0, (5, false), f0, f0, f0, (1, false), f0, (1, true), f0, t0, f0, (3, true), (22, false), f0, f0, f0, t0] (ai (cn h0) (a2 (bf h1) (a5 (cn (bf h2)) (a4 (cn h3) (ai (cn (bf h2)) (ai (cn h3) (ai (cn (bf h2)) (a2 (cn h4) (a5 (df h5) (ai (cn h4) (ai (cn (bf h2)) (ai (cn h4) (ai (cn (bf h2)) (ai (df h6) (ai (cn (bf h7)) (ai (cn h8) (a3 (cn h9) (ai (cn (bf h10)) trivial)))))))))))))))))) (by kernel_rfl) rfl rfl
                    · exact gv mix O_ 400 [f0, f0, f0, (10, true), t0, t0, t0, t0, f0, f0, f0, f0, t0, f0, t0, f0, f0, (5, false), f0, f0, f0, (1, false), f0, (1, true), f0, t0, f0, (3, true), (22, false), t0, t0, t0] (ai (cn h0) (a2 (bf h1) (a5 (cn (bf h2)) (a4 (cn h3) (ai (cn (bf h2)) (ai (cn h3) (ai (cn (bf h2)) (a2 (cn h4) (a5 (df h5) (ai (cn h4) (ai (cn (bf h2)) (ai (cn h4) (ai (cn (bf h2)) (ai (df h6) (ai (cn (bf h7)) (ai (cn h8) (a3 (cn (bf h9)) trivial))))))))))))))))) (by kernel_rfl) rfl rfl
                  · exact gv mix O_ 400 [f0, f0, f0, (10, true), t0, t0, t0, t0, f0, f0, f0, f0, t0, f0, t0, f0, f0, (5, false), f0, f0, f0, (1, false), f0, (1, true), f0, t0, f0, (3, true), (22, true)] (ai (cn h0) (a2 (bf h1) (a5 (cn (bf h2)) (a4 (cn h3) (ai (cn (bf h2)) (ai (cn h3) (ai (cn (bf h2)) (a2 (cn h4) (a5 (df h5) (ai (cn h4) (ai (cn (bf h2)) (ai (cn h4) (ai (cn (bf h2)) (ai (df h6) (ai (cn (bf h7)) (ai (cn (bf h8)) trivial)))))))))))))))) (by kernel_rfl) rfl rfl
          · exact gv mix O_ 400 [f0, f0, f0, (10, true), t0, t0, t0, t0, f0, f0, f0, f0, t0, f0, t0, t0, t0, t0, t0, t0, t0] (ai (cn h0) (a2 (bf h1) (a5 (cn (bf h2)) (a4 (cn h3) (ai (cn (bf h2)) (ai (cn h3) (ai (cn (bf h2)) (a3 (cn (bf h4)) (ai (cn (bf h2)) (ai (cn (bf h4)) (ai (cn (bf h2)) trivial))))))))))) (by kernel_rfl) rfl rfl
        · exact gv mix O_ 400 [f0, f0, f0, (10, true), t0, t0, t0, t0, t0, t0, t0, t0, t0, t0, t0, (3, true), (1, true)] (ai (cn h0) (a2 (bf h1) (a5 (cn (bf h2)) (a4 (cn (bf h3)) (ai (cn (bf h2)) (ai (cn (bf h3)) (a3 (cn (bf h2)) trivial))))))) (by kernel_rfl) rfl rfl
  · exact gv mix O_ 400 [t0] (ai (cn (bf h0)) trivial) (by kernel_rfl) rfl rfl
theorem G_lockgateref05_Branch_7 (b : Bool) (c : Bool) (d : Sc) (e : Sc) : Gives Tryz.prog 12 [(cI .i64).enc 7, cB.enc b, cB.enc c, cSc.enc d, cSc.enc e] ((cP3 cSc cSc cB).enc (lockgateref05_Branch_7 b c d e)) := by
  unfold lockgateref05_Branch_7
  have O_ := (orc_cons K_lockgateref05_Is (orc_cons K_lockgateref01_Jump (orc_cons K_lockgateref05_learn (orc_cons K_lockgateref05_Norm (orc_cons K_lockgateref05_Upto (orc_cons K_lockgateref05_Within on_))))))
  refine gite (fun h0 => ?_) (fun h0 => ?_)
  · refine gite (fun h1 => ?_) (fun h1 => ?_)
    · refine gite (fun h2 => ?_) (fun h2 => ?_)
      · refine gite (fun h3 => ?_) (fun h3 => ?_)
        · exact gv mix O_ 400 [f0, t0, t0, t0, t0] (ai (cn h0) (a2 h1 (ai h2 (ai h3 trivial)))) (by kernel_rfl) rfl rfl
        · exact gv mix O_ 400 [f0, t0, t0, t0, f0] (ai (cn h0) (a2 h1 (ai h2 (ai (bf h3) trivial)))) (by kernel_rfl) rfl rfl
      · refine gite (fun h3 => ?_) (fun h3 => ?_)
        · refine gite (fun h4 => ?_) (fun h4 => ?_)
          · refine gite (fun h5 => ?_) (fun h5 => ?_)
            · refine gite (fun h6 => ?_) (fun h6 => ?_)
              · refine gite (fun h7 => ?_) (fun h7 => ?_)
                · exact gv mix O_ 400 [f0, t0, t0, f0, (9, false), f0, f0, f0, f0, f0, f0, f0, f0, (4, false), f0, f0, f0, f0, f0] (ai (cn h0) (a2 h1 (ai (bf h2) (a9 (cn h3) (ai (cn h4) (ai (cn h5) (a3 (cn h6) (ai (cn h7) trivial)))))))) (by kernel_rfl) rfl rfl
                · exact gv mix O_ 400 [f0, t0, t0, f0, (9, false), f0, f0, f0, f0, f0, f0, f0, f0, (4, false), f0, f0, f0, f0, t0] (ai (cn h0) (a2 h1 (ai (bf h2) (a9 (cn h3) (ai (cn h4) (ai (cn h5) (a3 (cn h6) (ai (cn (bf h7)) trivial)))))))) (by kernel_rfl) rfl rfl
              · exact gv mix O_ 400 [f0, t0, t0, f0, (9, false), f0, f0, f0, f0, f0, f0, f0, f0, (4, false), f0, t0, t0, t0] (ai (cn h0) (a2 h1 (ai (bf h2) (a9 (cn h3) (ai (cn h4) (ai (cn h5) (a3 (cn (bf h6)) trivial))))))) (by kernel_rfl) rfl rfl
            · exact gv mix O_ 400 [f0, t0, t0, f0, (9, false), f0, f0, f0, f0, f0, f0, f0, f0, (4, false), t0] (ai (cn h0) (a2 h1 (ai (bf h2) (a9 (cn h3) (ai (cn h4) (ai (cn (bf h5)) trivial)))))) (by kernel_rfl) rfl rfl
          · refine gite (fun h5 => ?_) (fun h5 => ?_)
            · refine gite (fun h6 => ?_) (fun h6 => ?_)
              · refine gite (fun h7 => ?_) (fun h7 => ?_)
                · exact gv mix O_ 400 [f0, t0, t0, f0, (9, false), f0, f0, f0, f0, f0, f0, f0, f0, (4, true), (28, false), f0, f0, f0, f0] (ai (cn h0) (a2 h1 (ai (bf h2) (a9 (cn h3) (ai (cn (bf h4)) (ai (cn h5) (a3 (cn h6) (ai (cn h7) trivial)))))))) (by kernel_rfl) rfl rfl
                · exact gv mix O_ 400 [f0, t0, t0, f0, (9, false), f0, f0, f0, f0, f0, f0, f0, f0, (4, true), (28, false), f0, f0, f0, t0] (ai (cn h0) (a2 h1 (ai (bf h2) (a9 (cn h3) (ai (cn (bf h4)) (ai (cn h5) (a3 (cn h6) (ai (cn (bf h7)) trivial)))))))) (by kernel_rfl) rfl rfl
              · exact gv mix O_ 400 [f0, t0, t0, f0, (9, false), f0, f0, f0, f0, f0, f0, f0, f0, (4, true), (28, false), t0, t0, t0] (ai (cn h0) (a2 h1 (ai (bf h2) (a9 (cn h3) (ai (cn (bf h4)) (ai (cn h5) (a3 (cn (bf h6)) trivial))))))) (by kernel_rfl) rfl rfl
            · exact gv mix O_ 400 [f0, t0, t0, f0, (9, false), f0, f0, f0, f0, f0, f0, f0, f0, (4, true), (28, true)] (ai (cn h0) (a2 h1 (ai (bf h2) (a9 (cn h3) (ai (cn (bf h4)) (ai (cn (bf h5)) trivial)))))) (by kernel_rfl) rfl rfl
        · refine gite (fun h4 => ?_) (fun h4 => ?_)
          · refine gite (fun h5 => ?_) (fun h5 => ?_)
            · refine gite (fun h6 => ?_) (fun h6 => ?_)
              · exact gv mix O_ 400 [f0, t0, t0, f0, (9, true), t0, t0, t0, t0, f0, f0, f0, f0, t0, f0, t0, f0, f0, (5, true), t0, t0, t0, (1, true), f0, (1, true), f0, t0] (ai (cn h0) (a2 h1 (ai (bf h2) (a5 (cn (bf h3)) (a4 (cn h4) (ai (cn (bf h3)) (ai (cn h4) (ai (cn (bf h3)) (a2 (cn h5) (a5 (dt h6) (ai (cn h5) (ai (cn (bf h3)) (ai (cn h5) (ai (cn (bf h3)) trivial)))))))))))))) (by kernel_rfl) rfl rfl
              · refine gite (fun h7 => ?_) (fun h7 => ?_)
                · exact gv mix O_ 400 [f0, t0, t0, f0, (9, true), t0, t0, t0, t0, f0, f0, f0, f0, t0, f0, t0, f0, f0, (5, false), f0, f0, f0, (1, false), f0, (1, true), f0, t0, t0] (ai (cn h0) (a2 h1 (ai (bf h2) (a5 (cn (bf h3)) (a4 (cn h4) (ai (cn (bf h3)) (ai (cn h4) (ai (cn (bf h3)) (a2 (cn h5) (a5 (df h6) (ai (cn h5) (ai (cn (bf h3)) (ai (cn h5) (ai (cn (bf h3)) (ai (dt h7) trivial))))))))))))))) (by kernel_rfl) rfl rfl
                · refine gite (fun h8 => ?_) (fun h8 => ?_)
                  · refine gite (fun h9 => ?_) (fun h9 => ?_)
                    · refine gite (fun h10 => ?_) (fun h10 => ?_)
                      · refine gite (fun h11 => ?_) (fun h11 => ?_)
                        · exact gv mix O_ 400 [f0, t0, t0, f0, (9, true), t0, t0, t0, t0, f0, f0, f0, f0, t0, f0, t0, f0, f0, (5, false), f0, f0, f0, (1, false), f0, (1, true), f0, t0, f0, (3, false), f0, f0, f0, f0, f0] (ai (cn h0) (a2 h1 (ai (bf h2) (a5 (cn (bf h3)) (a4 (cn h4) (ai (cn (bf h3)) (ai (cn h4) (ai (cn (bf h3)) (a2 (cn h5) (a5 (df h6) (ai (cn h5) (ai (cn (bf h3)) (ai (cn h5) (ai (cn (bf h3)) (ai (df h7) (ai (cn h8) (ai (cn h9) (a3 (cn h10) (ai (cn h11) trivial))))))))))))))))))) (by kernel_rfl) rfl rfl
                        · exact gv mix O_ 400 [f0, t0, t0, f0, (9, true), t0, t0, t0, t0, f0, f0, f0, f0, t0, f0, t0, f0, f0, (5, false), f0, f0, f0, (1, false), f0, (1, true), f0, t0, f0, (3, false), f0, f0, f0, f0, t0] (ai (cn h0) (a2 h1 (ai (bf h2) (a5 (cn (bf h3)) (a4 (cn h4) (ai (cn (bf h3)) (ai (cn h4) (ai (cn (bf h3)) (a2 (cn h5) (a5 (df h6) (ai (cn h5) (ai (cn (bf h3)) (ai (cn h5) (ai (cn (bf h3)) (ai (df h7) (ai (cn h8) (ai (cn h9) (a3 (cn h10) (ai (cn (bf h11)) trivial))))))))))))))))))) (by kernel_rfl) rfl rfl
                      · exact gv mix O_ 400 [f0, t0, t0, f0, (9, true), t0, t0, t0, t0, f0, f0, f0, f0, t0, f0, t0, f0, f0, (5, false), f0, f0, f0, (1, false), f0, (1, true), f0, t0, f0, (3, false), f0, t0, t0, t0] (ai (cn h0) (a2 h1 (ai (bf h2) (a5 (cn (bf h3)) (a4 (cn h4) (ai (cn (bf h3)) (ai (cn h4) (ai (cn (bf h3)) (a2 (cn h5) (a5 (df h6) (ai (cn h5) (ai (cn (bf h3)) (ai (cn h5) (ai (cn (bf h3)) (ai (df h7) (ai (cn h8) (ai (cn h9) (a3 (cn (bf h10)) trivial)))))))))))))))))) (by kernel_rfl) rfl rfl
                    · exact gv mix O_ 400 [f0, t0, t0, f0, (9, true), t0, t0, t0, t0, f0, f0, f0, f0, t0, f0, t0, f0, f0, (5, false), f0, f0, f0, (1, false), f0, (1, true), f0, t0, f0, (3, false), t0] (ai (cn h0) (a2 h1 (ai (bf h2) (a5 (cn (bf h3)) (a4 (cn h4) (ai (cn (bf h3)) (ai (cn h4) (ai (cn (bf h3)) (a2 (cn h5) (a5 (df h6) (ai (cn h5) (ai (cn (bf h3)) (ai (cn h5) (ai (cn (bf h3)) (ai (df h7) (ai (cn h8) (ai (cn (bf h9)) trivial))))))))))))))))) (by kernel_rfl) rfl rfl
                  · refine gite (fun h9 => ?_) (fun h9 => ?_)
                    · refine gite (fun h10 => ?_) (fun h10 => ?_)
                      · refine gite (fun h11 => ?_) (fun h11 => ?_)
                        · exact gv mix O_ 400 [f0, t0, t0, f0, (9, true), t0, t0, t0, t0, f0, f0, f0, f0, t0, f0, t0, f0, f0, (5, false), f0, f0, f0, (1, false), f0, (1, true), f0, t0, f0, (3, true), (28, false), f0, f0, f0, f0] (ai (cn h0) (a2 h1 (ai (bf h2) (a5 (cn (bf h3)) (a4 (cn h4) (ai (cn (bf h3)) (ai (cn h4) (ai (cn (bf h3)) (a2 (cn h5) (a5 (df h6) (ai (cn h5) (ai (cn (bf h3)) (ai (cn h5) (ai (cn (bf h3)) (ai (df h7) (ai (cn (bf h8)) (ai (cn h9) (a3 (cn h10) (ai (cn h11) trivial))))))))))))))))))) (by kernel_rfl) rfl rfl
                        · exact gv mix O_ 400 [f0, t0, t0, f0, (9, true), t0, t0, t0, t0, f0, f0, f0, f0, t0, f0, t0, f0, f0, (5, false), f0, f0, f0, (1, false), f0, (1, true), f0, t0, f0, (3, true), (28, false), f0, f0, f0, t0] (ai (cn h0) (a2 h1 (ai (bf h2) (a5 (cn (bf h3)) (a4 (cn h4) (ai (cn (bf h3)) (ai (cn h4) (ai (cn (bf h3)) (a2 (cn h5) (a5 (df h6) (ai (cn h5) (ai (cn (bf h3)) (ai (cn h5) (ai (cn (bf h3)) (ai (df h7) (ai (cn (bf h8)) (ai (cn h9) (a3 (cn h10) (ai (cn (bf h11)) trivial))))))))))))))))))) (by kernel_rfl) rfl rfl
                      · exact gv mix O_ 400 [f0, t0, t0, f0, (9, true), t0, t0, t0, t0, f0, f0, f0, f0, t0, f0, t0, f0, f0, (5, false), f0, f0, f0, (1, false), f0, (1, true), f0, t0, f0, (3, true), (28, false), t0, t0, t0] (ai (cn h0) (a2 h1 (ai (bf h2) (a5 (cn (bf h3)) (a4 (cn h4) (ai (cn (bf h3)) (ai (cn h4) (ai (cn (bf h3)) (a2 (cn h5) (a5 (df h6) (ai (cn h5) (ai (cn (bf h3)) (ai (cn h5) (ai (cn (bf h3)) (ai (df h7) (ai (cn (bf h8)) (ai (cn h9) (a3 (cn (bf h10)) trivial)))))))))))))))))) (by kernel_rfl) rfl rfl
                    · exact gv mix O_ 400 [f0, t0, t0, f0, (9, true), t0, t0, t0, t0, f0, f0, f0, f0, t0, f0, t0, f0, f0, (5, false), f0, f0, f0, (1, false), f0, (1, true), f0, t0, f0, (3, true), (28, true)] (ai (cn h0) (a2 h1 (ai (bf h2) (a5 (cn (bf h3)) (a4 (cn h4) (ai (cn (bf h3)) (ai (cn h4) (ai (cn (bf h3)) (a2 (cn h5) (a5 (df h6) (ai (cn h5) (ai (cn (bf h3)) (ai (cn h5) (ai (cn (bf h3)) (ai (df h7) (ai (cn (bf h8)) (ai (cn (bf h9)) trivial))))))))))))))))) (by kernel_rfl) rfl rfl
            · exact gv mix O_ 400 [f0, t0, t0, f0, (9, true), t0, t0, t0, t0, f0, f0, f0, f0, t0, f0, t0, t0, t0, t0, t0, t0, t0] (ai (cn h0) (a2 h1 (ai (bf h2) (a5 (cn (bf h3)) (a4 (cn h4) (ai (cn (bf h3)) (ai (cn h4) (ai (cn (bf h3)) (a3 (cn (bf h5)) (ai (cn (bf h3)) (ai (cn (bf h5)) (ai (cn (bf h3)) trivial)))))))))))) (by kernel_rfl) rfl rfl
          · exact gv mix O_ 400 [f0, t0, t0, f0, (9, true), t0, t0, t0, t0, t0, t0, t0, t0, t0, t0, t0, (3, true), (1, true)] (ai (cn h0) (a2 h1 (ai (bf h2) (a5 (cn (bf h3)) (a4 (cn (bf h4)) (ai (cn (bf h3)) (ai (cn (bf h4)) (a3 (cn (bf h3)) trivial)))))))) (by kernel_rfl) rfl rfl
    · refine gite (fun h2 => ?_) (fun h2 => ?_)
      · refine gite (fun h3 => ?_) (fun h3 => ?_)
        · refine gite (fun h4 => ?_) (fun h4 => ?_)
          · refine gite (fun h5 => ?_) (fun h5 => ?_)
            · refine gite (fun h6 => ?_) (fun h6 => ?_)
              · exact gv mix O_ 400 [f0, f0, f0, (10, false), f0, f0, f0, f0, f0, f0, f0, f0, (4, false), f0, f0, f0, f0, f0] (ai (cn h0) (a2 (bf h1) (a9 (cn h2) (ai (cn h3) (ai (cn h4) (a3 (cn h5) (ai (cn h6) trivial))))))) (by kernel_rfl) rfl rfl
              · exact gv mix O_ 400 [f0, f0, f0, (10, false), f0, f0, f0, f0, f0, f0, f0, f0, (4, false), f0, f0, f0, f0, t0] (ai (cn h0) (a2 (bf h1) (a9 (cn h2) (ai (cn h3) (ai (cn h4) (a3 (cn h5) (ai (cn (bf h6)) trivial))))))) (by kernel_rfl) rfl rfl
            · exact gv mix O_ 400 [f0, f0, f0, (10, false), f0, f0, f0, f0, f0, f0, f0, f0, (4, false), f0, t0, t0, t0] (ai (cn h0) (a2 (bf h1) (a9 (cn h2) (ai (cn h3) (ai (cn h4) (a3 (cn (bf h5)) trivial)))))) (by kernel_rfl) rfl rfl
          · exact gv mix O_ 400 [f0, f0, f0, (10, false), f0, f0, f0, f0, f0, f0, f0, f0, (4, false), t0] (ai (cn h0) (a2 (bf h1) (a9 (cn h2) (ai (cn h3) (ai (cn (bf h4)) trivial))))) (by kernel_rfl) rfl rfl
        · refine gite (fun h4 => ?_) (fun h4 => ?_)
          · refine gite (fun h5 => ?_) (fun h5 => ?_)
            · refine gite (fun h6 => ?_) (fun h6 => ?_)
              · exact gv mix O_ 400 [f0, f0, f0, (10, false), f0, f0, f0, f0, f0, f0, f0, f0, (4, true), (28, false), f0, f0, f0, f0] (ai (cn h0) (a2 (bf h1) (a9 (cn h2) (ai (cn (bf h3)) (ai (cn h4) (a3 (cn h5) (ai (cn h6) trivial))))))) (by kernel_rfl) rfl rfl
              · exact gv mix O_ 400 [f0, f0, f0, (10, false), f0, f0, f0, f0, f0, f0, f0, f0, (4, true), (28, false), f0, f0, f0, t0] (ai (cn h0) (a2 (bf h1) (a9 (cn h2) (ai (cn (bf h3)) (ai (cn h4) (a3 (cn h5) (ai (cn (bf h6)) trivial))))))) (by kernel_rfl) rfl rfl
            · exact gv mix O_ 400 [f0, f0, f0, (10, false), f0, f0, f0, f0, f0, f0, f0, f0, (4, true), (28, false), t0, t0, t0] (ai (cn h0) (a2 (bf h1) (a9 (cn h2) (ai (cn (bf h3)) (ai (cn h4) (a3 (cn (bf h5)) trivial)))))) (by kernel_rfl) rfl rfl
          · exact gv mix O_ 400 [f0, f0, f0, (10, false), f0, f0, f0, f0, f0, f0, f0, f0, (4, true), (28, true)] (ai (cn h0) (a2 (bf h1) (a9 (cn h2) (ai (cn (bf h3)) (ai (cn (bf h4)) trivial))))) (by kernel_rfl) rfl rfl
      · refine gite (fun h3 => ?_) (fun h3 => ?_)
        · refine gite (fun h4 => ?_) (fun h4 => ?_)
          · refine gite (fun h5 => ?_) (fun h5 => ?_)
            · exact gv mix O_ 400 [f0, f0, f0, (10, true), t0, t0, t0, t0, f0, f0, f0, f0, t0, f0, t0, f0, f0, (5, true), t0, t0, t0, (1, true), f0, (1, true), f0, t0] (ai (cn h0) (a2 (bf h1) (a5 (cn (bf h2)) (a4 (cn h3) (ai (cn (bf h2)) (ai (cn h3) (ai (cn (bf h2)) (a2 (cn h4) (a5 (dt h5) (ai (cn h4) (ai (cn (bf h2)) (ai (cn h4) (ai (cn (bf h2)) trivial))))))))))))) (by kernel_rfl) rfl rfl
            · refine gite (fun h6 => ?_) (fun h6 => ?_)
              · exact gv mix O_ 400 [f0, f0, f0, (10, true), t0, t0, t0, t0, f0, f0, f0, f0, t0, f0, t0, f0, f0, (5, false), f0, f0, f0, (1, false), f0, (1, true), f0, t0, t0] (ai (cn h0) (a2 (bf h1) (a5 (cn (bf h2)) (a4 (cn h3) (ai (cn (bf h2)) (ai (cn h3) (ai (cn (bf h2)) (a2 (cn h4) (a5 (df h5) (ai (cn h4) (ai (cn (bf h2)) (ai (cn h4) (ai (cn (bf h2)) (ai (dt h6) trivial)))))))))))))) (by kernel_rfl) rfl rfl
              · refine gite (fun h7 => ?_) (fun h7 => ?_)
                · refine gite (fun h8 => ?_) (fun h8 => ?_)
                  · refine gite (fun h9 => ?_) (fun h9 => ?_)
                    · refine gite (fun h10 => ?_) (fun h10 => ?_)
                      · exact gv mix O_ 400 [f0, f0, f0, (10, true), t0, t0, t0, t0, f0, f0, f0, f0, t0, f0, t0, f0, f0, (5, false), f0, f0, f0, (1, false), f0, (1, true), f0, t0, f0, (3, false), f0, f0, f0, f0, f0] (ai (cn h0) (a2 (bf h1) (a5 (cn (bf h2)) (a4 (cn h3) (ai (cn (bf h2)) (ai (cn h3) (ai (cn (bf h2)) (a2 (cn h4) (a5 (df h5) (ai (cn h4) (ai (cn (bf h2)) (ai (cn h4) (ai (cn (bf h2)) (ai (df h6) (ai (cn h7) (ai (cn h8) (a3 (cn h9) (ai (cn h10) trivial)))))))))))))))))) (by kernel_rfl) rfl rfl
                      · exact gv mix O_ 400 [f0, f0, f0, (10, true), t0, t0, t0, t0, f0, f0, f0, f0, t0, f0, t0, f0, f0, (5, false), f0, f0, f0, (1, false), f0, (1, true), f0, t0, f0, (3, false), f0, f0, f0, f0, t0] (ai (cn h0) (a2 (bf h1) (a5 (cn (bf h2)) (a4 (cn h3) (ai (cn (bf h2)) (ai (cn h3) (ai (cn (bf h2)) (a2 (cn h4) (a5 (df h5) (ai (cn h4) (ai (cn (bf h2)) (ai (cn h4) (ai (cn (bf h2)) (ai (df h6) (ai (cn h7) (ai (cn h8) (a3 (cn h9) (ai (cn (bf h10)) trivial)))))))))))))))))) (by kernel_rfl) rfl rfl
                    · exact gv mix O_ 400 [f0, f0, f0, (10, true), t0, t0, t0, t0, f0, f0, f0, f0, t0, f0, t0, f0, f0, (5, false), f0, f0, f0, (1, false), f0, (1, true), f0, t0, f0, (3, false), f0, t0, t0, t0] (ai (cn h0) (a2 (bf h1) (a5 (cn (bf h2)) (a4 (cn h3) (ai (cn (bf h2)) (ai (cn h3) (ai (cn (bf h2)) (a2 (cn h4) (a5 (df h5) (ai (cn h4) (ai (cn (bf h2)) (ai (cn h4) (ai (cn (bf h2)) (ai (df h6) (ai (cn h7) (ai (cn h8) (a3 (cn (bf h9)) trivial))))))))))))))))) (by kernel_rfl) rfl rfl
                  · exact gv mix O_ 400 [f0, f0, f0, (10, true), t0, t0, t0, t0, f0, f0, f0, f0, t0, f0, t0, f0, f0, (5, false), f0, f0, f0, (1, false), f0, (1, true), f0, t0, f0, (3, false), t0] (ai (cn h0) (a2 (bf h1) (a5 (cn (bf h2)) (a4 (cn h3) (ai (cn (bf h2)) (ai (cn h3) (ai (cn (bf h2)) (a2 (cn h4) (a5 (df h5) (ai (cn h4) (ai (cn (bf h2)) (ai (cn h4) (ai (cn (bf h2)) (ai (df h6) (ai (cn h7) (ai (cn (bf h8)) trivial)))))))))))))))) (by kernel_rfl) rfl rfl
                · refine gite (fun h8 => ?_) (fun h8 => ?_)
                  · refine gite (fun h9 => ?_) (fun h9 => ?_)
                    · refine gite (fun h10 => ?_) (fun h10 => ?_)
                      · exact gv mix O_ 400 [f0, f0, f0, (10, true), t0, t0, t0, t0, f0, f0, f0, f0, t0, f0, t0, f0, f0, (5, false), f0, f0, f0, (1, false), f0, (1, true), f0, t0, f0, (3, true), (28, false), f0, f0, f0, f0] (ai (cn h0) (a2 (bf h1) (a5 (cn (bf h2)) (a4 (cn h3) (ai (cn (bf h2)) (ai (cn h3) (ai (cn (bf h2)) (a2 (cn h4) (a5 (df h5) (ai (cn h4) (ai (cn (bf h2)) (ai (cn h4) (ai (cn (bf h2)) (ai (df h6) (ai (cn (bf h7)) (ai (cn h8) (a3 (cn h9) (ai (cn h10) trivial)))))))))))))))))) (by kernel_rfl) rfl rfl
                      · exact gv mix O_ 400 [f0, f0, f0, (10, true), t0, t0, t0, t0, f0, f0, f0, f0, t0, f0, t0, f0, f0, (5, false), f0, f0, f0, (1, false), f0, (1, true), f0, t0, f0, (3, true), (28, false), f0, f0, f0, t0] (ai (cn h0) (a2 (bf h1) (a5 (cn (bf h2)) (a4 (cn h3) (ai (cn (bf h2)) (ai (cn h3) (ai (cn (bf h2)) (a2 (cn h4) (a5 (df h5) (ai (cn h4) (ai (cn (bf h2)) (ai (cn h4) (ai (cn (bf h2)) (ai (df h6) (ai (cn (bf h7)) (ai (cn h8) (a3 (cn h9) (ai (cn (bf h10)) trivial)))))))))))))))))) (by kernel_rfl) rfl rfl
                    · exact gv mix O_ 400 [f0, f0, f0, (10, true), t0, t0, t0, t0, f0, f0, f0, f0, t0, f0, t0, f0, f0, (5, false), f0, f0, f0, (1, false), f0, (1, true), f0, t0, f0, (3, true), (28, false), t0, t0, t0] (ai (cn h0) (a2 (bf h1) (a5 (cn (bf h2)) (a4 (cn h3) (ai (cn (bf h2)) (ai (cn h3) (ai (cn (bf h2)) (a2 (cn h4) (a5 (df h5) (ai (cn h4) (ai (cn (bf h2)) (ai (cn h4) (ai (cn (bf h2)) (ai (df h6) (ai (cn (bf h7)) (ai (cn h8) (a3 (cn (bf h9)) trivial))))))))))))))))) (by kernel_rfl) rfl rfl
                  · exact gv mix O_ 400 [f0, f0, f0, (10, true), t0, t0, t0, t0, f0, f0, f0, f0, t0, f0, t0, f0, f0, (5, false), f0, f0, f0, (1, false), f0, (1, true), f0, t0, f0, (3, true), (28, true)] (ai (cn h0) (a2 (bf h1) (a5 (cn (bf h2)) (a4 (cn h3) (ai (cn (bf h2)) (ai (cn h3) (ai (cn (bf h2)) (a2 (cn h4) (a5 (df h5) (ai (cn h4) (ai (cn (bf h2)) (ai (cn h4) (ai (cn (bf h2)) (ai (df h6) (ai (cn (bf h7)) (ai (cn (bf h8)) trivial)))))))))))))))) (by kernel_rfl) rfl rfl
          · exact gv mix O_ 400 [f0, f0, f0, (10, true), t0, t0, t0, t0, f0, f0, f0, f0, t0, f0, t0, t0, t0, t0, t0, t0, t0] (ai (cn h0) (a2 (bf h1) (a5 (cn (bf h2)) (a4 (cn h3) (ai (cn (bf h2)) (ai (cn h3) (ai (cn (bf h2)) (a3 (cn (bf h4)) (ai (cn (bf h2)) (ai (cn (bf h4)) (ai (cn (bf h2)) trivial))))))))))) (by kernel_rfl) rfl rfl
        · exact gv mix O_ 400 [f0, f0, f0, (10, true), t0, t0, t0, t0, t0, t0, t0, t0, t0, t0, t0, (3, true), (1, true)] (ai (cn h0) (a2 (bf h1) (a5 (cn (bf h2)) (a4 (cn (bf h3)) (ai (cn (bf h2)) (ai (cn (bf h3)) (a3 (cn (bf h2)) trivial))))))) (by kernel_rfl) rfl rfl
  · exact gv mix O_ 400 [t0] (ai (cn (bf h0)) trivial) (by kernel_rfl) rfl rfl
theorem G_lockgateref05_Branch_10 (b : Bool) (c : Bool) (d : Sc) (e : Sc) : Gives Tryz.prog 12 [(cI .i64).enc 10, cB.enc b, cB.enc c, cSc.enc d, cSc.enc e] ((cP3 cSc cSc cB).enc (lockgateref05_Branch_10 b c d e)) := by
  unfold lockgateref05_Branch_10
  have O_ := (orc_cons K_lockgateref05_Is (orc_cons K_lockgateref01_Jump (orc_cons K_lockgateref05_learn (orc_cons K_lockgateref05_Norm (orc_cons K_lockgateref05_Upto (orc_cons K_lockgateref05_Within on_))))))
  refine gite (fun h0 => ?_) (fun h0 => ?_)
  · refine gite (fun h1 => ?_) (fun h1 => ?_)
    · refine gite (fun h2 => ?_) (fun h2 => ?_)
      · refine gite (fun h3 => ?_) (fun h3 => ?_)
        · exact gv mix O_ 400 [f0, t0, t0, t0, t0] (ai (cn h0) (a2 h1 (ai h2 (ai h3 trivial)))) (by kernel_rfl) rfl rfl
        · exact gv mix O_ 400 [f0, t0, t0, t0, f0] (ai (cn h0) (a2 h1 (ai h2 (ai (bf h3) trivial)))) (by kernel_rfl) rfl rfl
      · refine gite (fun h3 => ?_) (fun h3 => ?_)
        · refine gite (fun h4 => ?_) (fun h4 => ?_)
          · refine gite (fun h5 => ?_) (fun h5 => ?_)
            · refine gite (fun h6 => ?_) (fun h6 => ?_)
              · refine gite (fun h7 => ?_) (fun h7 => ?_)
                · exact gv mix O_ 400 [f0, t0, t0, f0, (9, false), f0, f0, f0, f0, f0, f0, f0, f0, (4, false), f0, f0, f0, f0, f0] (ai (cn h0) (a2 h1 (ai (bf h2) (a9 (cn h3) (ai (cn h4) (ai (cn h5) (a3 (cn h6) (ai (cn h7) trivial)))))))) (by kernel_rfl) rfl rfl
                · exact gv mix O_ 400 [f0, t0, t0, f0, (9, false), f0, f0, f0, f0, f0, f0, f0, f0, (4, false), f0, f0, f0, f0, t0] (ai (cn h0) (a2 h1 (ai (bf h2) (a9 (cn h3) (ai (cn h4) (ai (cn h5) (a3 (cn h6) (ai (cn (bf h7)) trivial)))))))) (by kernel_rfl) rfl rfl
              · exact gv mix O_ 400 [f0, t0, t0, f0, (9, false), f0, f0, f0, f0, f0, f0, f0, f0, (4, false), f0, t0, t0, t0] (ai (cn h0) (a2 h1 (ai (bf h2) (a9 (cn h3) (ai (cn h4) (ai (cn h5) (a3 (cn (bf h6)) trivial))))))) (by kernel_rfl) rfl rfl
            · exact gv mix O_ 400 [f0, t0, t0, f0, (9, false), f0, f0, f0, f0, f0, f0, f0, f0, (4, false), t0] (ai (cn h0) (a2 h1 (ai (bf h2) (a9 (cn h3) (ai (cn h4) (ai (cn (bf h5)) trivial)))))) (by kernel_rfl) rfl rfl
          · refine gite (fun h5 => ?_) (fun h5 => ?_)
            · refine gite (fun h6 => ?_) (fun h6 => ?_)
              · refine gite (fun h7 => ?_) (fun h7 => ?_)
                · exact gv mix O_ 400 [f0, t0, t0, f0, (9, false), f0, f0, f0, f0, f0, f0, f0, f0, (4, true), (19, false), f0, f0, f0, f0] (ai (cn h0) (a2 h1 (ai (bf h2) (a9 (cn h3) (ai (cn (bf h4)) (ai (cn h5) (a3 (cn h6) (ai (cn h7) trivial)))))))) (by kernel_rfl) rfl rfl
                · exact gv mix O_ 400 [f0, t0, t0, f0, (9, false), f0, f0, f0, f0, f0, f0, f0, f0, (4, true), (19, false), f0, f0, f0, t0] (ai (cn h0) (a2 h1 (ai (bf h2) (a9 (cn h3) (ai (cn (bf h4)) (ai (cn h5) (a3 (cn h6) (ai (cn (bf h7)) trivial)))))))) (by kernel_rfl) rfl rfl
              · exact gv mix O_ 400 [f0, t0, t0, f0, (9, false), f0, f0, f0, f0, f0, f0, f0, f0, (4, true), (19, false), t0, t0, t0] (ai (cn h0) (a2 h1 (ai (bf h2) (a9 (cn h3) (ai (cn (bf h4)) (ai (cn h5) (a3 (cn (bf h6)) trivial))))))) (by kernel_rfl) rfl rfl
            · exact gv mix O_ 400 [f0, t0, t0, f0, (9, false), f0, f0, f0, f0, f0, f0, f0, f0, (4, true), (19, true)] (ai (cn h0) (a2 h1 (ai (bf h2) (a9 (cn h3) (ai (cn (bf h4)) (ai (cn (bf h5)) trivial)))))) (by kernel_rfl) rfl rfl
        · refine gite (fun h4 => ?_) (fun h4 => ?_)
          · refine gite (fun h5 => ?_) (fun h5 => ?_)
            · refine gite (fun h6 => ?_) (fun h6 => ?_)
              · refine gite (fun h7 => ?_) (fun h7 => ?_)
                · refine gite (fun h8 => ?_) (fun h8 => ?_)
                  · refine gite (fun h9 => ?_) (fun h9 => ?_)
                    · exact gv mix O_ 400 [f0, t0, t0, f0, (9, true), t0, t0, t0, t0, f0, f0, f0, f0, t0, f0, t0, f0, f0, (6, false), (1, true), f0, t0, (4, false), f0, f0, f0, f0, f0] (ai (cn h0) (a2 h1 (ai (bf h2) (a5 (cn (bf h3)) (a4 (cn h4) (ai (cn (bf h3)) (ai (cn h4) (ai (cn (bf h3)) (a3 (cn h5) (ai (cn (bf h3)) (ai (cn h5) (ai (cn (bf h3)) (ai (cn h6) (ai (cn h7) (a3 (cn h8) (ai (cn h9) trivial)))))))))))))))) (by kernel_rfl) rfl rfl
                    · exact gv mix O_ 400 [f0, t0, t0, f0, (9, true), t0, t0, t0, t0, f0, f0, f0, f0, t0, f0, t0, f0, f0, (6, false), (1, true), f0, t0, (4, false), f0, f0, f0, f0, t0] (ai (cn h0) (a2 h1 (ai (bf h2) (a5 (cn (bf h3)) (a4 (cn h4) (ai (cn (bf h3)) (ai (cn h4) (ai (cn (bf h3)) (a3 (cn h5) (ai (cn (bf h3)) (ai (cn h5) (ai (cn (bf h3)) (ai (cn h6) (ai (cn h7) (a3 (cn h8) (ai (cn (bf h9)) trivial)))))))))))))))) (by kernel_rfl) rfl rfl
                  · exact gv mix O_ 400 [f0, t0, t0, f0, (9, true), t0, t0, t0, t0, f0, f0, f0, f0, t0, f0, t0, f0, f0, (6, false), (1, true), f0, t0, (4, false), f0, t0, t0, t0] (ai (cn h0) (a2 h1 (ai (bf h2) (a5 (cn (bf h3)) (a4 (cn h4) (ai (cn (bf h3)) (ai (cn h4) (ai (cn (bf h3)) (a3 (cn h5) (ai (cn (bf h3)) (ai (cn h5) (ai (cn (bf h3)) (ai (cn h6) (ai (cn h7) (a3 (cn (bf h8)) trivial))))))))))))))) (by kernel_rfl) rfl rfl
                · exact gv mix O_ 400 [f0, t0, t0, f0, (9, true), t0, t0, t0, t0, f0, f0, f0, f0, t0, f0, t0, f0, f0, (6, false), (1, true), f0, t0, (4, false), t0] (ai (cn h0) (a2 h1 (ai (bf h2) (a5 (cn (bf h3)) (a4 (cn h4) (ai (cn (bf h3)) (ai (cn h4) (ai (cn (bf h3)) (a3 (cn h5) (ai (cn (bf h3)) (ai (cn h5) (ai (cn (bf h3)) (ai (cn h6) (ai (cn (bf h7)) trivial)))))))))))))) (by kernel_rfl) rfl rfl
              · refine gite (fun h7 => ?_) (fun h7 => ?_)
                · refine gite (fun h8 => ?_) (fun h8 => ?_)
                  · refine gite (fun h9 => ?_) (fun h9 => ?_)
                    · exact gv mix O_ 400 [f0, t0, t0, f0, (9, true), t0, t0, t0, t0, f0, f0, f0, f0, t0, f0, t0, f0, f0, (6, false), (1, true), f0, t0, (4, true), (19, false), f0, f0, f0, f0] (ai (cn h0) (a2 h1 (ai (bf h2) (a5 (cn (bf h3)) (a4 (cn h4) (ai (cn (bf h3)) (ai (cn h4) (ai (cn (bf h3)) (a3 (cn h5) (ai (cn (bf h3)) (ai (cn h5) (ai (cn (bf h3)) (ai (cn (bf h6)) (ai (cn h7) (a3 (cn h8) (ai (cn h9) trivial)))))))))))))))) (by kernel_rfl) rfl rfl
                    · exact gv mix O_ 400 [f0, t0, t0, f0, (9, true), t0, t0, t0, t0, f0, f0, f0, f0, t0, f0, t0, f0, f0, (6, false), (1, true), f0, t0, (4, true), (19, false), f0, f0, f0, t0] (ai (cn h0) (a2 h1 (ai (bf h2) (a5 (cn (bf h3)) (a4 (cn h4) (ai (cn (bf h3)) (ai (cn h4) (ai (cn (bf h3)) (a3 (cn h5) (ai (cn (bf h3)) (ai (cn h5) (ai (cn (bf h3)) (ai (cn (bf h6)) (ai (cn h7) (a3 (cn h8) (ai (cn (bf h9)) trivial)))))))))))))))) (by kernel_rfl) rfl rfl
                  · exact gv mix O_ 400 [f0, t0, t0, f0, (9, true), t0, t0, t0, t0, f0, f0, f0, f0, t0, f0, t0, f0, f0, (6, false), (1, true), f0, t0, (4, true), (19, false), t0, t0, t0] (ai (cn h0) (a2 h1 (ai (bf h2) (a5 (cn (bf h3)) (a4 (cn h4) (ai (cn (bf h3)) (ai (cn h4) (ai (cn (bf h3)) (a3 (cn h5) (ai (cn (bf h3)) (ai (cn h5) (ai (cn (bf h3)) (ai (cn (bf h6)) (ai (cn h7) (a3 (cn (bf h8)) trivial))))))))))))))) (by kernel_rfl) rfl rfl
                · exact gv mix O_ 400 [f0, t0, t0, f0, (9, true), t0, t0, t0, t0, f0, f0, f0, f0, t0, f0, t0, f0, f0, (6, false), (1, true), f0, t0, (4, true), (19, true)] (ai (cn h0) (a2 h1 (ai (bf h2) (a5 (cn (bf h3)) (a4 (cn h4) (ai (cn (bf h3)) (ai (cn h4) (ai (cn (bf h3)) (a3 (cn h5) (ai (cn (bf h3)) (ai (cn h5) (ai (cn (bf h3)) (ai (cn (bf h6)) (ai (cn (bf h7)) trivial)))))))))))))) (by kernel_rfl) rfl rfl
            · exact gv mix O_ 400 [f0, t0, t0, f0, (9, true), t0, t0, t0, t0, f0, f0, f0, f0, t0, f0, t0, t0, t0, t0, t0, t0, t0] (ai (cn h0) (a2 h1 (ai (bf h2) (a5 (cn (bf h3)) (a4 (cn h4) (ai (cn (bf h3)) (ai (cn h4) (ai (cn (bf h3)) (a3 (cn (bf h5)) (ai (cn (bf h3)) (ai (cn (bf h5)) (ai (cn (bf h3)) trivial)))))))))))) (by kernel_rfl) rfl rfl
          · exact gv mix O_ 400 [f0, t0, t0, f0, (9, true), t0, t0, t0, t0, t0, t0, t0, t0, t0, t0, t0, (3, true), (1, true)] (ai (cn h0) (a2 h1 (ai (bf h2) (a5 (cn (bf h3)) (a4 (cn (bf h4)) (ai (cn (bf h3)) (ai (cn (bf h4)) (a3 (cn (bf h3)) trivial)))))))) (by kernel_rfl) rfl rfl
    · refine gite (fun h2 => ?_) (fun h2 => ?_)
      · refine gite (fun h3 => ?_) (fun h3 => ?_)
        · refine gite (fun h4 => ?_) (fun h4 => ?_)
          · refine gite (fun h5 => ?_) (fun h5 => ?_)
            · refine gite (fun h6 => ?_) (fun h6 => ?_)
              · exact gv mix O_ 400 [f0, f0, f0, (10, false), f0, f0, f0, f0, f0, f0, f0, f0, (4, false), f0, f0, f0, f0, f0] (ai (cn h0) (a2 (bf h1) (a9 (cn h2) (ai (cn h3) (ai (cn h4) (a3 (cn h5) (ai (cn h6) trivial))))))) (by kernel_rfl) rfl rfl
              · exact gv mix O_ 400 [f0, f0, f0, (10, false), f0, f0, f0, f0, f0, f0, f0, f0, (4, false), f0, f0, f0, f0, t0] (ai (cn h0) (a2 (bf h1) (a9 (cn h2) (ai (cn h3) (ai (cn h4) (a3 (cn h5) (ai (cn (bf h6)) trivial))))))) (by kernel_rfl) rfl rfl
            · exact gv mix O_ 400 [f0, f0, f0, (10, false), f0, f0, f0, f0, f0, f0, f0, f0, (4, false), f0, t0, t0, t0] (ai (cn h0) (a2 (bf h1) (a9 (cn h2) (ai (cn h3) (ai (cn h4) (a3 (cn (bf h5)) trivial)))))) (by kernel_rfl) rfl rfl
          · exact gv mix O_ 400 [f0, f0, f0, (10, false), f0, f0, f0, f0, f0, f0, f0, f0, (4, false), t0] (ai (cn h0) (a2 (bf h1) (a9 (cn h2) (ai (cn h3) (ai (cn (bf h4)) trivial))))) (by kernel_rfl) rfl rfl
        · refine gite (fun h4 => ?_) (fun h4 => ?_)
          · refine gite (fun h5 => ?_) (fun h5 => ?_)
            · refine gite (fun h6 => ?_) (fun h6 => ?_)
              · exact gv mix O_ 400 [f0, f0, f0, (10, false), f0, f0, f0, f0, f0, f0, f0, f0, (4, true), (19, false), f0, f0, f0, f0] (ai (cn h0) (a2 (bf h1) (a9 (cn h2) (ai (cn (bf h3)) (ai (cn h4) (a3 (cn h5) (ai (cn h6) trivial))))))) (by kernel_rfl) rfl rfl
              · exact gv mix O_ 400 [f0, f0, f0, (10, false), f0, f0, f0, f0, f0, f0, f0, f0, (4, true), (19, false), f0, f0, f0, t0] (ai (cn h0) (a2 (bf h1) (a9 (cn h2) (ai (cn (bf h3)) (ai (cn h4) (a3 (cn h5) (ai (cn (bf h6)) trivial))))))) (by kernel_rfl) rfl rfl
            · exact gv mix O_ 400 [f0, f0, f0, (10, false), f0, f0, f0, f0, f0, f0, f0, f0, (4, true), (19, false), t0, t0, t0] (ai (cn h0) (a2 (bf h1) (a9 (cn h2) (ai (cn (bf h3)) (ai (cn h4) (a3 (cn (bf h5)) trivial)))))) (by kernel_rfl) rfl rfl
          · exact gv mix O_ 400 [f0, f0, f0, (10, false), f0, f0, f0, f0, f0, f0, f0, f0, (4, true), (19, true)] (ai (cn h0) (a2 (bf h1) (a9 (cn h2) (ai (cn (bf h3)) (ai (cn (bf h4)) trivial))))) (by kernel_rfl) rfl rfl
      · refine gite (fun h3 => ?_) (fun h3 => ?_)
        · refine gite (fun h4 => ?_) (fun h4 => ?_)
          · refine gite (fun h5 => ?_) (fun h5 => ?_)
            · refine gite (fun h6 => ?_) (fun h6 => ?_)
              · refine gite (fun h7 => ?_) (fun h7 => ?_)
                · refine gite (fun h8 => ?_) (fun h8 => ?_)
                  · exact gv mix O_ 400 [f0, f0, f0, (10, true), t0, t0, t0, t0, f0, f0, f0, f0, t0, f0, t0, f0, f0, (6, false), (1, true), f0, t0, (4, false), f0, f0, f0, f0, f0] (ai (cn h0) (a2 (bf h1) (a5 (cn (bf h2)) (a4 (cn h3) (ai (cn (bf h2)) (ai (cn h3) (ai (cn (bf h2)) (a3 (cn h4) (ai (cn (bf h2)) (ai (cn h4) (ai (cn (bf h2)) (ai (cn h5) (ai (cn h6) (a3 (cn h7) (ai (cn h8) trivial))))))))))))))) (by kernel_rfl) rfl rfl
                  · exact gv mix O_ 400 [f0, f0, f0, (10, true), t0, t0, t0, t0, f0, f0, f0, f0, t0, f0, t0, f0, f0, (6, false), (1, true), f0, t0, (4, false), f0, f0, f0, f0, t0] (ai (cn h0) (a2 (bf h1) (a5 (cn (bf h2)) (a4 (cn h3) (ai (cn (bf h2)) (ai (cn h3) (ai (cn (bf h2)) (a3 (cn h4) (ai (cn (bf h2)) (ai (cn h4) (ai (cn (bf h2)) (ai (cn h5) (ai (cn h6) (a3 (cn h7) (ai (cn (bf h8)) trivial))))))))))))))) (by kernel_rfl) rfl rfl
                · exact gv mix O_ 400 [f0, f0, f0, (10, true), t0, t0, t0, t0, f0, f0, f0, f0, t0, f0, t0, f0, f0, (6, false), (1, true), f0, t0, (4, false), f0, t0, t0, t0] (ai (cn h0) (a2 (bf h1) (a5 (cn (bf h2)) (a4 (cn h3) (ai (cn (bf h2)) (ai (cn h3) (ai (cn (bf h2)) (a3 (cn h4) (ai (cn (bf h2)) (ai (cn h4) (ai (cn (bf h2)) (ai (cn h5) (ai (cn h6) (a3 (cn (bf h7)) trivial)))))))))))))) (by kernel_rfl) rfl rfl
              · exact gv mix O_ 400 [f0, f0, f0, (10, true), t0, t0, t0, t0, f0, f0, f0, f0, t0, f0, t0, f0, f0, (6, false), (1, true), f0, t0, (4, false), t0] (ai (cn h0) (a2 (bf h1) (a5 (cn (bf h2)) (a4 (cn h3) (ai (cn (bf h2)) (ai (cn h3) (ai (cn (bf h2)) (a3 (cn h4) (ai (cn (bf h2)) (ai (cn h4) (ai (cn (bf h2)) (ai (cn h5) (ai (cn (bf h6)) trivial))))))))))))) (by kernel_rfl) rfl rfl
            · refine gite (fun h6 => ?_) (fun h6 => ?_)
              · refine gite (fun h7 => ?_) (fun h7 => ?_)
                · refine gite (fun h8 => ?_) (fun h8 => ?_)
                  · exact gv mix O_ 400 [f0, f0, f0, (10, true), t0, t0, t0, t0, f0, f0, f0, f0, t0, f0, t0, f0, f0, (6, false), (1, true), f0, t0, (4, true), (19, false), f0, f0, f0, f0] (ai (cn h0) (a2 (bf h1) (a5 (cn (bf h2)) (a4 (cn h3) (ai (cn (bf h2)) (ai (cn h3) (ai (cn (bf h2)) (a3 (cn h4) (ai (cn (bf h2)) (ai (cn h4) (ai (cn (bf h2)) (ai (cn (bf h5)) (ai (cn h6) (a3 (cn h7) (ai (cn h8) trivial))))))))))))))) (by kernel_rfl) rfl rfl
                  · exact gv mix O_ 400 [f0, f0, f0, (10, true), t0, t0, t0, t0, f0, f0, f0, f0, t0, f0, t0, f0, f0, (6, false), (1, true), f0, t0, (4, true), (19, false), f0, f0, f0, t0] (ai (cn h0) (a2 (bf h1) (a5 (cn (bf h2)) (a4 (cn h3) (ai (cn (bf h2)) (ai (cn h3) (ai (cn (bf h2)) (a3 (cn h4) (ai (cn (bf h2)) (ai (cn h4) (ai (cn (bf h2)) (ai (cn (bf h5)) (ai (cn h6) (a3 (cn h7) (ai (cn (bf h8)) trivial))))))))))))))) (by kernel_rfl) rfl rfl
                · exact gv mix O_ 400 [f0, f0, f0, (10, true), t0, t0, t0, t0, f0, f0, f0, f0, t0, f0, t0, f0, f0, (6, false), (1, true), f0, t0, (4, true), (19, false), t0, t0, t0] (ai (cn h0) (a2 (bf h1) (a5 (cn (bf h2)) (a4 (cn h3) (ai (cn (bf h2)) (ai (cn h3) (ai (cn (bf h2)) (a3 (cn h4) (ai (cn (bf h2)) (ai (cn h4) (ai (cn (bf h2)) (ai (cn (bf h5)) (ai (cn h6) (a3 (cn (bf h7)) trivial)))))))))))))) (by kernel_rfl) rfl rfl
              · exact gv mix O_ 400 [f0, f0, f0, (10, true), t0, t0, t0, t0, f0, f0, f0, f0, t0, f0, t0, f0, f0, (6, false), (1, true), f0, t0, (4, true), (19, true)] (ai (cn h0) (a2 (bf h1) (a5 (cn (bf h2)) (a4 (cn h3) (ai (cn (bf h2)) (ai (cn h3) (ai (cn (bf h2)) (a3 (cn h4) (ai (cn (bf h2)) (ai (cn h4) (ai (cn (bf h2)) (ai (cn (bf h5)) (ai (cn (bf h6)) trivial))))))))))))) (by kernel_rfl) rfl rfl
          · exact gv mix O_ 400 [f0, f0, f0, (10, true), t0, t0, t0, t0, f0, f0, f0, f0, t0, f0, t0, t0, t0, t0, t0, t0, t0] (ai (cn h0) (a2 (bf h1) (a5 (cn (bf h2)) (a4 (cn h3) (ai (cn (bf h2)) (ai (cn h3) (ai (cn (bf h2)) (a3 (cn (bf h4)) (ai (cn (bf h2)) (ai (cn (bf h4)) (ai (cn (bf h2)) trivial))))))))))) (by kernel_rfl) rfl rfl
        · exact gv mix O_ 400 [f0, f0, f0, (10, true), t0, t0, t0, t0, t0, t0, t0, t0, t0, t0, t0, (3, true), (1, true)] (ai (cn h0) (a2 (bf h1) (a5 (cn (bf h2)) (a4 (cn (bf h3)) (ai (cn (bf h2)) (ai (cn (bf h3)) (a3 (cn (bf h2)) trivial))))))) (by kernel_rfl) rfl rfl
  · exact gv mix O_ 400 [t0] (ai (cn (bf h0)) trivial) (by kernel_rfl) rfl rfl
theorem G_lockgateref05_Branch_11 (b : Bool) (c : Bool) (d : Sc) (e : Sc) : Gives Tryz.prog 12 [(cI .i64).enc 11, cB.enc b, cB.enc c, cSc.enc d, cSc.enc e] ((cP3 cSc cSc cB).enc (lockgateref05_Branch_11 b c d e)) := by
  unfold lockgateref05_Branch_11
  have O_ := (orc_cons K_lockgateref05_Is (orc_cons K_lockgateref01_Jump (orc_cons K_lockgateref05_learn (orc_cons K_lockgateref05_Norm (orc_cons K_lockgateref05_Upto (orc_cons K_lockgateref05_Within on_))))))
  refine gite (fun h0 => ?_) (fun h0 => ?_)
  · refine gite (fun h1 => ?_) (fun h1 => ?_)
    · refine gite (fun h2 => ?_) (fun h2 => ?_)
      · refine gite (fun h3 => ?_) (fun h3 => ?_)
        · exact gv mix O_ 400 [f0, t0, t0, t0, t0] (ai (cn h0) (a2 h1 (ai h2 (ai h3 trivial)))) (by kernel_rfl) rfl rfl
        · exact gv mix O_ 400 [f0, t0, t0, t0, f0] (ai (cn h0) (a2 h1 (ai h2 (ai (bf h3) trivial)))) (by kernel_rfl) rfl rfl
      · refine gite (fun h3 => ?_) (fun h3 => ?_)
        · refine gite (fun h4 => ?_) (fun h4 => ?_)
          · refine gite (fun h5 => ?_) (fun h5 => ?_)
            · refine gite (fun h6 => ?_) (fun h6 => ?_)
              · refine gite (fun h7 => ?_) (fun h7 => ?_)
                · exact gv mix O_ 400 [f0, t0, t0, f0, (9, false), f0, f0, f0, f0, f0, f0, f0, f0, (4, false), f0, f0, f0, f0, f0] (ai (cn h0) (a2 h1 (ai (bf h2) (a9 (cn h3) (ai (cn h4) (ai (cn h5) (a3 (cn h6) (ai (cn h7) trivial)))))))) (by kernel_rfl) rfl rfl
                · exact gv mix O_ 400 [f0, t0, t0, f0, (9, false), f0, f0, f0, f0, f0, f0, f0, f0, (4, false), f0, f0, f0, f0, t0] (ai (cn h0) (a2 h1 (ai (bf h2) (a9 (cn h3) (ai (cn h4) (ai (cn h5) (a3 (cn h6) (ai (cn (bf h7)) trivial)))))))) (by kernel_rfl) rfl rfl
              · exact gv mix O_ 400 [f0, t0, t0, f0, (9, false), f0, f0, f0, f0, f0, f0, f0, f0, (4, false), f0, t0, t0, t0] (ai (cn h0) (a2 h1 (ai (bf h2) (a9 (cn h3) (ai (cn h4) (ai (cn h5) (a3 (cn (bf h6)) trivial))))))) (by kernel_rfl) rfl rfl
            · exact gv mix O_ 400 [f0, t0, t0, f0, (9, false), f0, f0, f0, f0, f0, f0, f0, f0, (4, false), t0] (ai (cn h0) (a2 h1 (ai (bf h2) (a9 (cn h3) (ai (cn h4) (ai (cn (bf h5)) trivial)))))) (by kernel_rfl) rfl rfl
          · refine gite (fun h5 => ?_) (fun h5 => ?_)
            · refine gite (fun h6 => ?_) (fun h6 => ?_)
              · refine gite (fun h7 => ?_) (fun h7 => ?_)
                · exact gv mix O_ 400 [f0, t0, t0, f0, (9, false), f0, f0, f0, f0, f0, f0, f0, f0, (4, true), (13, false), f0, f0, f0, f0] (ai (cn h0) (a2 h1 (ai (bf h2) (a9 (cn h3) (ai (cn (bf h4)) (ai (cn h5) (a3 (cn h6) (ai (cn h7) trivial)))))))) (by kernel_rfl) rfl rfl
                · exact gv mix O_ 400 [f0, t0, t0, f0, (9, false), f0, f0, f0, f0, f0, f0, f0, f0, (4, true), (13, false), f0, f0, f0, t0] (ai (cn h0) (a2 h1 (ai (bf h2) (a9 (cn h3) (ai (cn (bf h4)) (ai (cn h5) (a3 (cn h6) (ai (cn (bf h7)) trivial)))))))) (by kernel_rfl) rfl rfl
              · exact gv mix O_ 400 [f0, t0, t0, f0, (9, false), f0, f0, f0, f0, f0, f0, f0, f0, (4, true), (13, false), t0, t0, t0] (ai (cn h0) (a2 h1 (ai (bf h2) (a9 (cn h3) (ai (cn (bf h4)) (ai (cn h5) (a3 (cn (bf h6)) trivial))))))) (by kernel_rfl) rfl rfl
            · exact gv mix O_ 400 [f0, t0, t0, f0, (9, false), f0, f0, f0, f0, f0, f0, f0, f0, (4, true), (13, true)] (ai (cn h0) (a2 h1 (ai (bf h2) (a9 (cn h3) (ai (cn (bf h4)) (ai (cn (bf h5)) trivial)))))) (by kernel_rfl) rfl rfl
        · refine gite (fun h4 => ?_) (fun h4 => ?_)
          · refine gite (fun h5 => ?_) (fun h5 => ?_)
            · refine gite (fun h6 => ?_) (fun h6 => ?_)
              · refine gite (fun h7 => ?_) (fun h7 => ?_)
                · refine gite (fun h8 => ?_) (fun h8 => ?_)
                  · refine gite (fun h9 => ?_) (fun h9 => ?_)
                    · exact gv mix O_ 400 [f0, t0, t0, f0, (9, true), t0, t0, t0, t0, f0, f0, f0, f0, t0, f0, t0, f0, f0, (6, false), (1, true), f0, t0, (4, false), f0, f0, f0, f0, f0] (ai (cn h0) (a2 h1 (ai (bf h2) (a5 (cn (bf h3)) (a4 (cn h4) (ai (cn (bf h3)) (ai (cn h4) (ai (cn (bf h3)) (a3 (cn h5) (ai (cn (bf h3)) (ai (cn h5) (ai (cn (bf h3)) (ai (cn h6) (ai (cn h7) (a3 (cn h8) (ai (cn h9) trivial)))))))))))))))) (by kernel_rfl) rfl rfl
                    · exact gv mix O_ 400 [f0, t0, t0, f0, (9, true), t0, t0, t0, t0, f0, f0, f0, f0, t0, f0, t0, f0, f0, (6, false), (1, true), f0, t0, (4, false), f0, f0, f0, f0, t0] (ai (cn h0) (a2 h1 (ai (bf h2) (a5 (cn (bf h3)) (a4 (cn h4) (ai (cn (bf h3)) (ai (cn h4) (ai (cn (bf h3)) (a3 (cn h5) (ai (cn (bf h3)) (ai (cn h5) (ai (cn (bf h3)) (ai (cn h6) (ai (cn h7) (a3 (cn h8) (ai (cn (bf h9)) trivial)))))))))))))))) (by kernel_rfl) rfl rfl
                  · exact gv mix O_ 400 [f0, t0, t0, f0, (9, true), t0, t0, t0, t0, f0, f0, f0, f0, t0, f0, t0, f0, f0, (6, false), (1, true), f0, t0, (4, false), f0, t0, t0, t0] (ai (cn h0) (a2 h1 (ai (bf h2) (a5 (cn (bf h3)) (a4 (cn h4) (ai (cn (bf h3)) (ai (cn h4) (ai (cn (bf h3)) (a3 (cn h5) (ai (cn (bf h3)) (ai (cn h5) (ai (cn (bf h3)) (ai (cn h6) (ai (cn h7) (a3 (cn (bf h8)) trivial))))))))))))))) (by kernel_rfl) rfl rfl
                · exact gv mix O_ 400 [f0, t0, t0, f0, (9, true), t0, t0, t0, t0, f0, f0, f0, f0, t0, f0, t0, f0, f0, (6, false), (1, true), f0, t0, (4, false), t0] (ai (cn h0) (a2 h1 (ai (bf h2) (a5 (cn (bf h3)) (a4 (cn h4) (ai (cn (bf h3)) (ai (cn h4) (ai (cn (bf h3)) (a3 (cn h5) (ai (cn (bf h3)) (ai (cn h5) (ai (cn (bf h3)) (ai (cn h6) (ai (cn (bf h7)) trivial)))))))))))))) (by kernel_rfl) rfl rfl
              · refine gite (fun h7 => ?_) (fun h7 => ?_)
                · refine gite (fun h8 => ?_) (fun h8 => ?_)
                  · refine gite (fun h9 => ?_) (fun h9 => ?_)
                    · exact gv mix O_ 400 [f0, t0, t0, f0, (9, true), t0, t0, t0, t0, f0, f0, f0, f0, t0, f0, t0, f0, f0, (6, false), (1, true), f0, t0, (4, true), (13, false), f0, f0, f0, f0] (ai (cn h0) (a2 h1 (ai (bf h2) (a5 (cn (bf h3)) (a4 (cn h4) (ai (cn (bf h3)) (ai (cn h4) (ai (cn (bf h3)) (a3 (cn h5) (ai (cn (bf h3)) (ai (cn h5) (ai (cn (bf h3)) (ai (cn (bf h6)) (ai (cn h7) (a3 (cn h8) (ai (cn h9) trivial)))))))))))))))) (by kernel_rfl) rfl rfl
                    · exact gv mix O_ 400 [f0, t0, t0, f0, (9, true), t0, t0, t0, t0, f0, f0, f0, f0, t0, f0, t0, f0, f0, (6, false), (1, true), f0, t0, (4, true), (13, false), f0, f0, f0, t0] (ai (cn h0) (a2 h1 (ai (bf h2) (a5 (cn (bf h3)) (a4 (cn h4) (ai (cn (bf h3)) (ai (cn h4) (ai (cn (bf h3)) (a3 (cn h5) (ai (cn (bf h3)) (ai (cn h5) (ai (cn (bf h3)) (ai (cn (bf h6)) (ai (cn h7) (a3 (cn h8) (ai (cn (bf h9)) trivial)))))))))))))))) (by kernel_rfl) rfl rfl
                  · exact gv mix O_ 400 [f0, t0, t0, f0, (9, true), t0, t0, t0, t0, f0, f0, f0, f0, t0, f0, t0, f0, f0, (6, false), (1, true), f0, t0, (4, true), (13, false), t0, t0, t0] (ai (cn h0) (a2 h1 (ai (bf h2) (a5 (cn (bf h3)) (a4 (cn h4) (ai (cn (bf h3)) (ai (cn h4) (ai (cn (bf h3)) (a3 (cn h5) (ai (cn (bf h3)) (ai (cn h5) (ai (cn (bf h3)) (ai (cn (bf h6)) (ai (cn h7) (a3 (cn (bf h8)) trivial))))))))))))))) (by kernel_rfl) rfl rfl
                · exact gv mix O_ 400 [f0, t0, t0, f0, (9, true), t0, t0, t0, t0, f0, f0, f0, f0, t0, f0, t0, f0, f0, (6, false), (1, true), f0, t0, (4, true), (13, true)] (ai (cn h0) (a2 h1 (ai (bf h2) (a5 (cn (bf h3)) (a4 (cn h4) (ai (cn (bf h3)) (ai (cn h4) (ai (cn (bf h3)) (a3 (cn h5) (ai (cn (bf h3)) (ai (cn h5) (ai (cn (bf h3)) (ai (cn (bf h6)) (ai (cn (bf h7)) trivial)))))))))))))) (by kernel_rfl) rfl rfl
            · exact gv mix O_ 400 [f0, t0, t0, f0, (9, true), t0, t0, t0, t0, f0, f0, f0, f0, t0, f0, t0, t0, t0, t0, t0, t0, t0] (ai (cn h0) (a2 h1 (ai (bf h2) (a5 (cn (bf h3)) (a4 (cn h4) (ai (cn (bf h3)) (ai (cn h4) (ai (cn (bf h3)) (a3 (cn (bf h5)) (ai (cn (bf h3)) (ai (cn (bf h5)) (ai (cn (bf h3)) trivial)))))))))))) (by kernel_rfl) rfl rfl
          · exact gv mix O_ 400 [f0, t0, t0, f0, (9, true), t0, t0, t0, t0, t0, t0, t0, t0, t0, t0, t0, (3, true), (1, true)] (ai (cn h0) (a2 h1 (ai (bf h2) (a5 (cn (bf h3)) (a4 (cn (bf h4)) (ai (cn (bf h3)) (ai (cn (bf h4)) (a3 (cn (bf h3)) trivial)))))))) (by kernel_rfl) rfl rfl
    · refine gite (fun h2 => ?_) (fun h2 => ?_)
      · refine gite (fun h3 => ?_) (fun h3 => ?_)
        · refine gite (fun h4 => ?_) (fun h4 => ?_)
          · refine gite (fun h5 => ?_) (fun h5 => ?_)
            · refine gite (fun h6 => ?_) (fun h6 => ?_)
              · exact gv mix O_ 400 [f0, f0, f0, (10, false), f0, f0, f0, f0, f0, f0, f0, f0, (4, false), f0, f0, f0, f0, f0] (ai (cn h0) (a2 (bf h1) (a9 (cn h2) (ai (cn h3) (ai (cn h4) (a3 (cn h5) (ai (cn h6) trivial))))))) (by kernel_rfl) rfl rfl
              · exact gv mix O_ 400 [f0, f0, f0, (10, false), f0, f0, f0, f0, f0, f0, f0, f0, (4, false), f0, f0, f0, f0, t0] (ai (cn h0) (a2 (bf h1) (a9 (cn h2) (ai (cn h3) (ai (cn h4) (a3 (cn h5) (ai (cn (bf h6)) trivial))))))) (by kernel_rfl) rfl rfl
            · exact gv mix O_ 400 [f0, f0, f0, (10, false), f0, f0, f0, f0, f0, f0, f0, f0, (4, false), f0, t0, t0, t0] (ai (cn h0) (a2 (bf h1) (a9 (cn h2) (ai (cn h3) (ai (cn h4) (a3 (cn (bf h5)) trivial)))))) (by kernel_rfl) rfl rfl
          · exact gv mix O_ 400 [f0, f0, f0, (10, false), f0, f0, f0, f0, f0, f0, f0, f0, (4, false), t0] (ai (cn h0) (a2 (bf h1) (a9 (cn h2) (ai (cn h3) (ai (cn (bf h4)) trivial))))) (by kernel_rfl) rfl rfl
        · refine gite (fun h4 => ?_) (fun h4 => ?_)
          · refine gite (fun h5 => ?_) (fun h5 => ?_)
            · refine gite (fun h6 => ?_) (fun h6 => ?_)
              · exact gv mix O_ 400 [f0, f0, f0, (10, false), f0, f0, f0, f0, f0, f0, f0, f0, (4, true), (13, false), f0, f0, f0, f0] (ai (cn h0) (a2 (bf h1) (a9 (cn h2) (ai (cn (bf h3)) (ai (cn h4) (a3 (cn h5) (ai (cn h6) trivial))))))) (by kernel_rfl) rfl rfl
              · exact gv mix O_ 400 [f0, f0, f0, (10, false), f0, f0, f0, f0, f0, f0, f0, f0, (4, true), (13, false), f0, f0, f0, t0] (ai (cn h0) (a2 (bf h1) (a9 (cn h2) (ai (cn (bf h3)) (ai (cn h4) (a3 (cn h5) (ai (cn (bf h6)) trivial))))))) (by kernel_rfl) rfl rfl
            · exact gv mix O_ 400 [f0, f0, f0, (10, false), f0, f0, f0, f0, f0, f0, f0, f0, (4, true), (13, false), t0, t0, t0] (ai (cn h0) (a2 (bf h1) (a9 (cn h2) (ai (cn (bf h3)) (ai (cn h4) (a3 (cn (bf h5)) trivial)))))) (by kernel_rfl) rfl rfl
          · exact gv mix O_ 400 [f0, f0, f0, (10, false), f0, f0, f0, f0, f0, f0, f0, f0, (4, true), (13, true)] (ai (cn h0) (a2 (bf h1) (a9 (cn h2) (ai (cn (bf h3)) (ai (cn (bf h4)) trivial))))) (by kernel_rfl) rfl rfl
      · refine gite (fun h3 => ?_) (fun h3 => ?_)
        · refine gite (fun h4 => ?_) (fun h4 => ?_)
          · refine gite (fun h5 => ?_) (fun h5 => ?_)
            · refine gite (fun h6 => ?_) (fun h6 => ?_)
              · refine gite (fun h7 => ?_) (fun h7 => ?_)
                · refine gite (fun h8 => ?_) (fun h8 => ?_)
                  · exact gv mix O_ 400 [f0, f0, f0, (10, true), t0, t0, t0, t0, f0, f0, f0, f0, t0, f0, t0, f0, f0, (6, false), (1, true), f0, t0, (4, false), f0, f0, f0, f0, f0] (ai (cn h0) (a2 (bf h1) (a5 (cn (bf h2)) (a4 (cn h3) (ai (cn (bf h2)) (ai (cn h3) (ai (cn (bf h2)) (a3 (cn h4) (ai (cn (bf h2)) (ai (cn h4) (ai (cn (bf h2)) (ai (cn h5) (ai (cn h6) (a3 (cn h7) (ai (cn h8) trivial))))))))))))))) (by kernel_rfl) rfl rfl
                  · exact gv mix O_ 400 [f0, f0, f0, (10, true), t0, t0, t0, t0, f0, f0, f0, f0, t0, f0, t0, f0, f0, (6, false), (1, true), f0, t0, (4, false), f0, f0, f0, f0, t0] (ai (cn h0) (a2 (bf h1) (a5 (cn (bf h2)) (a4 (cn h3) (ai (cn (bf h2)) (ai (cn h3) (ai (cn (bf h2)) (a3 (cn h4) (ai (cn (bf h2)) (ai (cn h4) (ai (cn (bf h2)) (ai (cn h5) (ai (cn h6) (a3 (cn h7) (ai (cn (bf h8)) trivial))))))))))))))) (by kernel_rfl) rfl rfl
                · exact gv mix O_ 400 [f0, f0, f0, (10, true), t0, t0, t0, t0, f0, f0, f0, f0, t0, f0, t0, f0, f0, (6, false), (1, true), f0, t0, (4, false), f0, t0, t0, t0] (ai (cn h0) (a2 (bf h1) (a5 (cn (bf h2)) (a4 (cn h3) (ai (cn (bf h2)) (ai (cn h3) (ai (cn (bf h2)) (a3 (cn h4) (ai (cn (bf h2)) (ai (cn h4) (ai (cn (bf h2)) (ai (cn h5) (ai (cn h6) (a3 (cn (bf h7)) trivial)))))))))))))) (by kernel_rfl) rfl rfl
              · exact gv mix O_ 400 [f0, f0, f0, (10, true), t0, t0, t0, t0, f0, f0, f0, f0, t0, f0, t0, f0, f0, (6, false), (1, true), f0, t0, (4, false), t0] (ai (cn h0) (a2 (bf h1) (a5 (cn (bf h2)) (a4 (cn h3) (ai (cn (bf h2)) (ai (cn h3) (ai (cn (bf h2)) (a3 (cn h4) (ai (cn (bf h2)) (ai (cn h4) (ai (cn (bf h2)) (ai (cn h5) (ai (cn (bf h6)) trivial))))))))))))) (by kernel_rfl) rfl rfl
            · refine gite (fun h6 => ?_) (fun h6 => ?_)
              · refine gite (fun h7 => ?_) (fun h7 => ?_)
                · refine gite (fun h8 => ?_) (fun h8 => ?_)
                  · exact gv mix O_ 400 [f0, f0, f0, (10, true), t0, t0, t0, t0, f0, f0, f0, f0, t0, f0, t0, f0, f0, (6, false), (1, true), f0, t0, (4, true), (13, false), f0, f0, f0, f0] (ai (cn h0) (a2 (bf h1) (a5 (cn (bf h2)) (a4 (cn h3) (ai (cn (bf h2)) (ai (cn h3) (ai (cn (bf h2)) (a3 (cn h4) (ai (cn (bf h2)) (ai (cn h4) (ai (cn (bf h2)) (ai (cn (bf h5)) (ai (cn h6) (a3 (cn h7) (ai (cn h8) trivial))))))))))))))) (by kernel_rfl) rfl rfl
                  · exact gv mix O_ 400 [f0, f0, f0, (10, true), t0, t0, t0, t0, f0, f0, f0, f0, t0, f0, t0, f0, f0, (6, false), (1, true), f0, t0, (4, true), (13, false), f0, f0, f0, t0] (ai (cn h0) (a2 (bf h1) (a5 (cn (bf h2)) (a4 (cn h3) (ai (cn (bf h2)) (ai (cn h3) (ai (cn (bf h2)) (a3 (cn h4) (ai (cn (bf h2)) (ai (cn h4) (ai (cn (bf h2)) (ai (cn (bf h5)) (ai (cn h6) (a3 (cn h7) (ai (cn (bf h8)) trivial))))))))))))))) (by kernel_rfl) rfl rfl
                · exact gv mix O_ 400 [f0, f0, f0, (10, true), t0, t0, t0, t0, f0, f0, f0, f0, t0, f0, t0, f0, f0, (6, false), (1, true), f0, t0, (4, true), (13, false), t0, t0, t0] (ai (cn h0) (a2 (bf h1) (a5 (cn (bf h2)) (a4 (cn h3) (ai (cn (bf h2)) (ai (cn h3) (ai (cn (bf h2)) (a3 (cn h4) (ai (cn (bf h2)) (ai (cn h4) (ai (cn (bf h2)) (ai (cn (bf h5)) (ai (cn h6) (a3 (cn (bf h7)) trivial)))))))))))))) (by kernel_rfl) rfl rfl
              · exact gv mix O_ 400 [f0, f0, f0, (10, true), t0, t0, t0, t0, f0, f0, f0, f0, t0, f0, t0, f0, f0, (6, false), (1, true), f0, t0, (4, true), (13, true)] (ai (cn h0) (a2 (bf h1) (a5 (cn (bf h2)) (a4 (cn h3) (ai (cn (bf h2)) (ai (cn h3) (ai (cn (bf h2)) (a3 (cn h4) (ai (cn (bf h2)) (ai (cn h4) (ai (cn (bf h2)) (ai (cn (bf h5)) (ai (cn (bf h6)) trivial))))))))))))) (by kernel_rfl) rfl rfl
          · exact gv mix O_ 400 [f0, f0, f0, (10, true), t0, t0, t0, t0, f0, f0, f0, f0, t0, f0, t0, t0, t0, t0, t0, t0, t0] (ai (cn h0) (a2 (bf h1) (a5 (cn (bf h2)) (a4 (cn h3) (ai (cn (bf h2)) (ai (cn h3) (ai (cn (bf h2)) (a3 (cn (bf h4)) (ai (cn (bf h2)) (ai (cn (bf h4)) (ai (cn (bf h2)) trivial))))))))))) (by kernel_rfl) rfl rfl
        · exact gv mix O_ 400 [f0, f0, f0, (10, true), t0, t0, t0, t0, t0, t0, t0, t0, t0, t0, t0, (3, true), (1, true)] (ai (cn h0) (a2 (bf h1) (a5 (cn (bf h2)) (a4 (cn (bf h3)) (ai (cn (bf h2)) (ai (cn (bf h3)) (a3 (cn (bf h2)) trivial))))))) (by kernel_rfl) rfl rfl
  · exact gv mix O_ 400 [t0] (ai (cn (bf h0)) trivial) (by kernel_rfl) rfl rfl
theorem G_lockgateref05_Branch_12 (b : Bool) (c : Bool) (d : Sc) (e : Sc) : Gives Tryz.prog 12 [(cI .i64).enc 12, cB.enc b, cB.enc c, cSc.enc d, cSc.enc e] ((cP3 cSc cSc cB).enc (lockgateref05_Branch_12 b c d e)) := by
  unfold lockgateref05_Branch_12
  have O_ := (orc_cons K_lockgateref05_Is (orc_cons K_lockgateref01_Jump (orc_cons K_lockgateref05_learn (orc_cons K_lockgateref05_Norm (orc_cons K_lockgateref05_Upto (orc_cons K_lockgateref05_Within on_))))))
  refine gite (fun h0 => ?_) (fun h0 => ?_)
  · refine gite (fun h1 => ?_) (fun h1 => ?_)
    · refine gite (fun h2 => ?_) (fun h2 => ?_)
      · refine gite (fun h3 => ?_) (fun h3 => ?_)
        · exact gv mix O_ 400 [f0, t0, t0, t0, t0] (ai (cn h0) (a2 h1 (ai h2 (ai h3 trivial)))) (by kernel_rfl) rfl rfl
        · exact gv mix O_ 400 [f0, t0, t0, t0, f0] (ai (cn h0) (a2 h1 (ai h2 (ai (bf h3) trivial)))) (by kernel_rfl) rfl rfl
      · refine gite (fun h3 => ?_) (fun h3 => ?_)
        · refine gite (fun h4 => ?_) (fun h4 => ?_)
          · refine gite (fun h5 => ?_) (fun h5 => ?_)
            · refine gite (fun h6 => ?_) (fun h6 => ?_)
              · refine gite (fun h7 => ?_) (fun h7 => ?_)
                · exact gv mix O_ 400 [f0, t0, t0, f0, (9, false), f0, f0, f0, f0, f0, f0, f0, f0, (4, false), f0, f0, f0, f0, f0] (ai (cn h0) (a2 h1 (ai (bf h2) (a9 (cn h3) (ai (cn h4) (ai (cn h5) (a3 (cn h6) (ai (cn h7) trivial)))))))) (by kernel_rfl) rfl rfl
                · exact gv mix O_ 400 [f0, t0, t0, f0, (9, false), f0, f0, f0, f0, f0, f0, f0, f0, (4, false), f0, f0, f0, f0, t0] (ai (cn h0) (a2 h1 (ai (bf h2) (a9 (cn h3) (ai (cn h4) (ai (cn h5) (a3 (cn h6) (ai (cn (bf h7)) trivial)))))))) (by kernel_rfl) rfl rfl
              · exact gv mix O_ 400 [f0, t0, t0, f0, (9, false), f0, f0, f0, f0, f0, f0, f0, f0, (4, false), f0, t0, t0, t0] (ai (cn h0) (a2 h1 (ai (bf h2) (a9 (cn h3) (ai (cn h4) (ai (cn h5) (a3 (cn (bf h6)) trivial))))))) (by kernel_rfl) rfl rfl
            · exact gv mix O_ 400 [f0, t0, t0, f0, (9, false), f0, f0, f0, f0, f0, f0, f0, f0, (4, false), t0] (ai (cn h0) (a2 h1 (ai (bf h2) (a9 (cn h3) (ai (cn h4) (ai (cn (bf h5)) trivial)))))) (by kernel_rfl) rfl rfl
          · refine gite (fun h5 => ?_) (fun h5 => ?_)
            · refine gite (fun h6 => ?_) (fun h6 => ?_)
              · refine gite (fun h7 => ?_) (fun h7 => ?_)
                · exact gv mix O_ 400 [f0, t0, t0, f0, (9, false), f0, f0, f0, f0, f0, f0, f0, f0, (4, true), (31, false), f0, f0, f0, f0] (ai (cn h0) (a2 h1 (ai (bf h2) (a9 (cn h3) (ai (cn (bf h4)) (ai (cn h5) (a3 (cn h6) (ai (cn h7) trivial)))))))) (by kernel_rfl) rfl rfl
                · exact gv mix O_ 400 [f0, t0, t0, f0, (9, false), f0, f0, f0, f0, f0, f0, f0, f0, (4, true), (31, false), f0, f0, f0, t0] (ai (cn h0) (a2 h1 (ai (bf h2) (a9 (cn h3) (ai (cn (bf h4)) (ai (cn h5) (a3 (cn h6) (ai (cn (bf h7)) trivial)))))))) (by kernel_rfl) rfl rfl
              · exact gv mix O_ 400 [f0, t0, t0, f0, (9, false), f0, f0, f0, f0, f0, f0, f0, f0, (4, true), (31, false), t0, t0, t0] (ai (cn h0) (a2 h1 (ai (bf h2) (a9 (cn h3) (ai (cn (bf h4)) (ai (cn h5) (a3 (cn (bf h6)) trivial))))))) (by kernel_rfl) rfl rfl
            · exact gv mix O_ 400 [f0, t0, t0, f0, (9, false), f0, f0, f0, f0, f0, f0, f0, f0, (4, true), (31, true)] (ai (cn h0) (a2 h1 (ai (bf h2) (a9 (cn h3) (ai (cn (bf h4)) (ai (cn (bf h5)) trivial)))))) (by kernel_rfl) rfl rfl
        · refine gite (fun h4 => ?_) (fun h4 => ?_)
          · refine gite (fun h5 => ?_) (fun h5 => ?_)
            · refine gite (fun h6 => ?_) (fun h6 => ?_)
              · exact gv mix O_ 400 [f0, t0, t0, f0, (9, true), t0, t0, t0, t0, f0, f0, f0, f0, t0, f0, t0, f0, f0, (5, true), t0, t0, t0, (1, true), f0, (1, true), f0, t0] (ai (cn h0) (a2 h1 (ai (bf h2) (a5 (cn (bf h3)) (a4 (cn h4) (ai (cn (bf h3)) (ai (cn h4) (ai (cn (bf h3)) (a2 (cn h5) (a5 (dt h6) (ai (cn h5) (ai (cn (bf h3)) (ai (cn h5) (ai (cn (bf h3)) trivial)))))))))))))) (by kernel_rfl) rfl rfl
              · refine gite (fun h7 => ?_) (fun h7 => ?_)
                · exact gv mix O_ 400 [f0, t0, t0, f0, (9, true), t0, t0, t0, t0, f0, f0, f0, f0, t0, f0, t0, f0, f0, (5, false), f0, f0, f0, (1, false), f0, (1, true), f0, t0, t0] (ai (cn h0) (a2 h1 (ai (bf h2) (a5 (cn (bf h3)) (a4 (cn h4) (ai (cn (bf h3)) (ai (cn h4) (ai (cn (bf h3)) (a2 (cn h5) (a5 (df h6) (ai (cn h5) (ai (cn (bf h3)) (ai (cn h5) (ai (cn (bf h3)) (ai (dt h7) trivial))))))))))))))) (by kernel_rfl) rfl rfl
                · refine gite (fun h8 => ?_) (fun h8 => ?_)
                  · refine gite (fun h9 => ?_) (fun h9 => ?_)
                    · refine gite (fun h10 => ?_) (fun h10 => ?_)
                      · refine gite (fun h11 => ?_) (fun h11 => ?_)
                        · exact gv mix O_ 400 [f0, t0, t0, f0, (9, true), t0, t0, t0, t0, f0, f0, f0, f0, t0, f0, t0, f0, f0, (5, false), f0, f0, f0, (1, false), f0, (1, true), f0, t0, f0, (3, false), f0, f0, f0, f0, f0] (ai (cn h0) (a2 h1 (ai (bf h2) (a5 (cn (bf h3)) (a4 (cn h4) (ai (cn (bf h3)) (ai (cn h4) (ai (cn (bf h3)) (a2 (cn h5) (a5 (df h6) (ai (cn h5) (ai (cn (bf h3)) (ai (cn h5) (ai (cn (bf h3)) (ai (df h7) (ai (cn h8) (ai (cn h9) (a3 (cn h10) (ai (cn h11) trivial))))))))))))))))))) (by kernel_rfl) rfl rfl
                        · exact gv mix O_ 400 [f0, t0, t0, f0, (9, true), t0, t0, t0, t0, f0, f0, f0, f0, t0, f0, t0, f0, f0, (5, false), f0, f0, f0, (1, false), f0, (1, true), f0, t0, f0, (3, false), f0, f0, f0, f0, t0] (ai (cn h0) (a2 h1 (ai (bf h2) (a5 (cn (bf h3)) (a4 (cn h4) (ai (cn (bf h3)) (ai (cn h4) (ai (cn (bf h3)) (a2 (cn h5) (a5 (df h6) (ai (cn h5) (ai (cn (bf h3)) (ai (cn h5) (ai (cn (bf h3)) (ai (df h7) (ai (cn h8) (ai (cn h9) (a3 (cn h10) (ai (cn (bf h11)) trivial))))))))))))))))))) (by kernel_rfl) rfl rfl
                      · exact gv mix O_ 400 [f0, t0, t0, f0, (9, true), t0, t0, t0, t0, f0, f0, f0, f0, t0, f0, t0, f0, f0, (5, false), f0, f0, f0, (1, false), f0, (1, true), f0, t0, f0, (3, false), f0, t0, t0, t0] (ai (cn h0) (a2 h1 (ai (bf h2) (a5 (cn (bf h3)) (a4 (cn h4) (ai (cn (bf h3)) (ai (cn h4) (ai (cn (bf h3)) (a2 (cn h5) (a5 (df h6) (ai (cn h5) (ai (cn (bf h3)) (ai (cn h5) (ai (cn (bf h3)) (ai (df h7) (ai (cn h8) (ai (cn h9) (a3 (cn (bf h10)) trivial)))))))))))))))))) (by kernel_rfl) rfl rfl
                    · exact gv mix O_ 400 [f0, t0, t0, f0, (9, true), t0, t0, t0, t0, f0, f0, f0, f0, t0, f0, t0, f0, f0, (5, false), f0, f0, f0, (1, false), f0, (1, true), f0, t0, f0, (3, false), t0] (ai (cn h0) (a2 h1 (ai (bf h2) (a5 (cn (bf h3)) (a4 (cn h4) (ai (cn (bf h3)) (ai (cn h4) (ai (cn (bf h3)) (a2 (cn h5) (a5 (df h6) (ai (cn h5) (ai (cn (bf h3)) (ai (cn h5) (ai (cn (bf h3)) (ai (df h7) (ai (cn h8) (ai (cn (bf h9)) trivial))))))))))))))))) (by kernel_rfl) rfl rfl
                  · refine gite (fun h9 => ?_) (fun h9 => ?_)
                    · refine gite (fun h10 => ?_) (fun h10 => ?_)
                      · refine gite (fun h11 => ?_) (fun h11 => ?_)
                        · exact gv mix O_ 400 [f0, t0, t0, f0, (9, true), t0, t0, t0, t0, f0, f0, f0, f0, t0, f0, t0, f0, f0, (5, false), f0, f0, f0, (1, false), f0, (1, true), f0, t0, f0, (3, true), (31, false), f0, f0, f0, f0] (ai (cn h0) (a2 h1 (ai (bf h2) (a5 (cn (bf h3)) (a4 (cn h4) (ai (cn (bf h3)) (ai (cn h4) (ai (cn (bf h3)) (a2 (cn h5) (a5 (df h6) (ai (cn h5) (ai (cn (bf h3)) (ai (cn h5) (ai (cn (bf h3)) (ai (df h7) (ai (cn (bf h8)) (ai (cn h9) (a3 (cn h10) (ai (cn h11) trivial))))))))))))))))))) (by kernel_rfl) rfl rfl
                        · exact gv mix O_ 400 [f0, t0, t0, f0, (9, true), t0, t0, t0, t0, f0, f0, f0, f0, t0, f0, t0, f0, f0, (5, false), f0, f0, f0, (1, false), f0, (1, true), f0, t0, f0, (3, true), (31, false), f0, f0, f0, t0] (ai (cn h0) (a2 h1 (ai (bf h2) (a5 (cn (bf h3)) (a4 (cn h4) (ai (cn (bf h3)) (ai (cn h4) (ai (cn (bf h3)) (a2 (cn h5) (a5 (df h6) (ai (cn h5) (ai (cn (bf h3)) (ai (cn h5) (ai (cn (bf h3)) (ai (df h7) (ai (cn (bf h8)) (ai (cn h9) (a3 (cn h10) (ai (cn (bf h11)) trivial))))))))))))))))))) (by kernel_rfl) rfl rfl
                      · exact gv mix O_ 400 [f0, t0, t0, f0, (9, true), t0, t0, t0, t0, f0, f0, f0, f0, t0, f0, t0, f0, f0, (5, false), f0, f0, f0, (1, false), f0, (1, true), f0, t0, f0, (3, true), (31, false), t0, t0, t0] (ai (cn h0) (a2 h1 (ai (bf h2) (a5 (cn (bf h3)) (a4 (cn h4) (ai (cn (bf h3)) (ai (cn h4) (ai (cn (bf h3)) (a2 (cn h5) (a5 (df h6) (ai (cn h5) (ai (cn (bf h3)) (ai (cn h5) (ai (cn (bf h3)) (ai (df h7) (ai (cn (bf h8)) (ai (cn h9) (a3 (cn (bf h10)) trivial)))))))))))))))))) (by kernel_rfl) rfl rfl
                    · exact gv mix O_ 400 [f0, t0, t0, f0, (9, true), t0, t0, t0, t0, f0, f0, f0, f0, t0, f0, t0, f0, f0, (5, false), f0, f0, f0, (1, false), f0, (1, true), f0, t0, f0, (3, true), (31, true)] (ai (cn h0) (a2 h1 (ai (bf h2) (a5 (cn (bf h3)) (a4 (cn h4) (ai (cn (bf h3)) (ai (cn h4) (ai (cn (bf h3)) (a2 (cn h5) (a5 (df h6) (ai (cn h5) (ai (cn (bf h3)) (ai (cn h5) (ai (cn (bf h3)) (ai (df h7) (ai (cn (bf h8)) (ai (cn (bf h9)) trivial))))))))))))))))) (by kernel_rfl) rfl rfl
            · exact gv mix O_ 400 [f0, t0, t0, f0, (9, true), t0, t0, t0, t0, f0, f0, f0, f0, t0, f0, t0, t0, t0, t0, t0, t0, t0] (ai (cn h0) (a2 h1 (ai (bf h2) (a5 (cn (bf h3)) (a4 (cn h4) (ai (cn (bf h3)) (ai (cn h4) (ai (cn (bf h3)) (a3 (cn (bf h5)) (ai (cn (bf h3)) (ai (cn (bf h5)) (ai (cn (bf h3)) trivial)))))))))))) (by kernel_rfl) rfl rfl
          · exact gv mix O_ 400 [f0, t0, t0, f0, (9, true), t0, t0, t0, t0, t0, t0, t0, t0, t0, t0, t0, (3, true), (1, true)] (ai (cn h0) (a2 h1 (ai (bf h2) (a5 (cn (bf h3)) (a4 (cn (bf h4)) (ai (cn (bf h3)) (ai (cn (bf h4)) (a3 (cn (bf h3)) trivial)))))))) (by kernel_rfl) rfl rfl
    · refine gite (fun h2 => ?_) (fun h2 => ?_)
      · refine gite (fun h3 => ?_) (fun h3 => ?_)
        · refine gite (fun h4 => ?_) (fun h4 => ?_)
          · refine gite (fun h5 => ?_) (fun h5 => ?_)
            · refine gite (fun h6 => ?_) (fun h6 => ?_)
              · exact gv mix O_ 400 [f0, f0, f0, (10, false), f0, f0, f0, f0, f0, f0, f0, f0, (4, false), f0, f0, f0, f0, f0] (ai (cn h0) (a2 (bf h1) (a9 (cn h2) (ai (cn h3) (ai (cn h4) (a3 (cn h5) (ai (cn h6) trivial))))))) (by kernel_rfl) rfl rfl
              · exact gv mix O_ 400 [f0, f0, f0, (10, false), f0, f0, f0, f0, f0, f0, f0, f0, (4, false), f0, f0, f0, f0, t0] (ai (cn h0) (a2 (bf h1) (a9 (cn h2) (ai (cn h3) (ai (cn h4) (a3 (cn h5) (ai (cn (bf h6)) trivial))))))) (by kernel_rfl) rfl rfl
            · exact gv mix O_ 400 [f0, f0, f0, (10, false), f0, f0, f0, f0, f0, f0, f0, f0, (4, false), f0, t0, t0, t0] (ai (cn h0) (a2 (bf h1) (a9 (cn h2) (ai (cn h3) (ai (cn h4) (a3 (cn (bf h5)) trivial)))))) (by kernel_rfl) rfl rfl
          · exact gv mix O_ 400 [f0, f0, f0, (10, false), f0, f0, f0, f0, f0, f0, f0, f0, (4, false), t0] (ai (cn h0) (a2 (bf h1) (a9 (cn h2) (ai (cn h3) (ai (cn (bf h4)) trivial))))) (by kernel_rfl) rfl rfl
        · refine gite (fun h4 => ?_) (fun h4 => ?_)
          · refine gite (fun h5 => ?_) (fun h5 => ?_)
            · refine gite (fun h6 => ?_) (fun h6 => ?_)
              · exact gv mix O_ 400 [f0, f0, f0, (10, false), f0, f0, f0, f0, f0, f0, f0, f0, (4, true), (31, false), f0, f0, f0, f0] (ai (cn h0) (a2 (bf h1) (a9 (cn h2) (ai (cn (bf h3)) (ai (cn h4) (a3 (cn h5) (ai (cn h6) trivial))))))) (by kernel_rfl) rfl rfl
              · exact gv mix O_ 400 [f0, f0, f0, (10, false), f0, f0, f0, f0, f0, f0, f0, f0, (4, true), (31, false), f0, f0, f0, t0] (ai (cn h0) (a2 (bf h1) (a9 (cn h2) (ai (cn (bf h3)) (ai (cn h4) (a3 (cn h5) (ai (cn (bf h6)) trivial))))))) (by kernel_rfl) rfl rfl
            · exact gv mix O_ 400 [f0, f0, f0, (10, false), f0, f0, f0, f0, f0, f0, f0, f0, (4, true), (31, false), t0, t0, t0] (ai (cn h0) (a2 (bf h1) (a9 (cn h2) (ai (cn (bf h3)) (ai (cn h4) (a3 (cn (bf h5)) trivial)))))) (by kernel_rfl) rfl rfl
          · exact gv mix O_ 400 [f0, f0, f0, (10, false), f0, f0, f0, f0, f0, f0, f0, f0, (4, true), (31, true)] (ai (cn h0) (a2 (bf h1) (a9 (cn h2) (ai (cn (bf h3)) (ai (cn (bf h4)) trivial))))) (by kernel_rfl) rfl rfl
      · refine gite (fun h3 => ?_) (fun h3 => ?_)
        · refine gite (fun h4 => ?_) (fun h4 => ?_)
          · refine gite (fun h5 => ?_) (fun h5 => ?_)
            · exact gv mix O_ 400 [f0, f0, f0, (10, true), t0, t0, t0, t0, f0, f0, f0, f0, t0, f0, t0, f0, f0, (5, true), t0, t0, t0, (1, true), f0, (1, true), f0, t0] (ai (cn h0) (a2 (bf h1) (a5 (cn (bf h2)) (a4 (cn h3) (ai (cn (bf h2)) (ai (cn h3) (ai (cn (bf h2)) (a2 (cn h4) (a5 (dt h5) (ai (cn h4) (ai (cn (bf h2)) (ai (cn h4) (ai (cn (bf h2)) trivial))))))))))))) (by kernel_rfl) rfl rfl
            · refine gite (fun h6 => ?_) (fun h6 => ?_)
              · exact gv mix O_ 400 [f0, f0, f0, (10, true), t0, t0, t0, t0, f0, f0, f0, f0, t0, f0, t0, f0, f0, (5, false), f0, f0, f0, (1, false), f0, (1, true), f0, t0, t0] (ai (cn h0) (a2 (bf h1) (a5 (cn (bf h2)) (a4 (cn h3) (ai (cn (bf h2)) (ai (cn h3) (ai (cn (bf h2)) (a2 (cn h4) (a5 (df h5) (ai (cn h4) (ai (cn (bf h2)) (ai (cn h4) (ai (cn (bf h2)) (ai (dt h6) trivial)))))))))))))) (by kernel_rfl) rfl rfl
              · refine gite (fun h7 => ?_) (fun h7 => ?_)
                · refine gite (fun h8 => ?_) (fun h8 => ?_)
                  · refine gite (fun h9 => ?_) (fun h9 => ?_)
                    · refine gite (fun h10 => ?_) (fun h10 => ?_)
                      · exact gv mix O_ 400 [f0, f0, f0, (10, true), t0, t0, t0, t0, f0, f0, f0, f0, t0, f0, t0, f0, f0, (5, false), f0, f0, f0, (1, false), f0, (1, true), f0, t0, f0, (3, false), f0, f0, f0, f0, f0] (ai (cn h0) (a2 (bf h1) (a5 (cn (bf h2)) (a4 (cn h3) (ai (cn (bf h2)) (ai (cn h3) (ai (cn (bf h2)) (a2 (cn h4) (a5 (df h5) (ai (cn h4) (ai (cn (bf h2)) (ai (cn h4) (ai (cn (bf h2)) (ai (df h6) (ai (cn h7) (ai (cn h8) (a3 (cn h9) (ai (cn h10) trivial)))))))))))))))))) (by kernel_rfl) rfl rfl
                      · exact gv mix O_ 400 [f0, f0, f0, (10, true), t0, t0, t0, t0, f0, f0, f0, f0, t0, f0, t0, f0, f0, (5, false), f0, f0, f0, (1, false), f0, (1, true), f0, t0, f0, (3, false), f0, f0, f0, f0, t0] (ai (cn h0) (a2 (bf h1) (a5 (cn (bf h2)) (a4 (cn h3) (ai (cn (bf h2)) (ai (cn h3) (ai (cn (bf h2)) (a2 (cn h4) (a5 (df h5) (ai (cn h4) (ai (cn (bf h2)) (ai (cn h4) (ai (cn (bf h2)) (ai (df h6) (ai (cn h7) (ai (cn h8) (a3 (cn h9) (ai (cn (bf h10)) trivial)))))))))))))))))) (by kernel_rfl) rfl rfl
                    · exact gv mix O_ 400 [f0, f0, f0, (10, true), t0, t0, t0, t0, f0, f0, f0, f0, t0, f0, t0, f0, f0, (5, false), f0, f0, f0, (1, false), f0, (1, true), f0, t0, f0, (3, false), f0, t0, t0, t0] (ai (cn h0) (a2 (bf h1) (a5 (cn (bf h2)) (a4 (cn h3) (ai (cn (bf h2)) (ai (cn h3) (ai (cn (bf h2)) (a2 (cn h4) (a5 (df h5) (ai (cn h4) (ai (cn (bf h2)) (ai (cn h4) (ai (cn (bf h2)) (ai (df h6) (ai (cn h7) (ai (cn h8) (a3 (cn (bf h9)) trivial))))))))))))))))) (by kernel_rfl) rfl rfl
                  · exact gv mix O_ 400 [f0, f0, f0, (10, true), t0, t0, t0, t0, f0, f0, f0, f0, t0, f0, t0, f0, f0, (5, false), f0, f0, f0, (1, false), f0, (1, true), f0, t0, f0, (3, false), t0] (ai (cn h0) (a2 (bf h1) (a5 (cn (bf h2)) (a4 (cn h3) (ai (cn (bf h2)) (ai (cn h3) (ai (cn (bf h2)) (a2 (cn h4) (a5 (df h5) (ai (cn h4) (ai (cn (bf h2)) (ai (cn h4) (ai (cn (bf h2)) (ai (df h6) (ai (cn h7) (ai (cn (bf h8)) trivial)))))))))))))))) (by kernel_rfl) rfl rfl
                · refine gite (fun h8 => ?_) (fun h8 => ?_)
                  · refine gite (fun h9 => ?_) (fun h9 => ?_)
                    · refine gite (fun h10 => ?_) (fun h10 => ?_)
                      · exact gv mix O_ 400 [f0, f0, f0, (10, true), t0, t0, t0, t0, f0, f0, f0, f0, t0, f0, t0, f0, f0, (5, false), f0, f0, f0, (1, false), f0, (1, true), f0, t0, f0, (3, true), (31, false), f0, f0, f0, f0] (ai (cn h0) (a2 (bf h1) (a5 (cn (bf h2)) (a4 (cn h3) (ai (cn (bf h2)) (ai (cn h3) (ai (cn (bf h2)) (a2 (cn h4) (a5 (df h5) (ai (cn h4) (ai (cn (bf h2)) (ai (cn h4) (ai (cn (bf h2)) (ai (df h6) (ai (cn (bf h7)) (ai (cn h8) (a3 (cn h9) (ai (cn h10) trivial)))))))))))))))))) (by kernel_rfl) rfl rfl
                      · exact gv mix O_ 400 [f0, f0, f0, (10, true), t0, t0, t0, t0, f0, f0, f0, f0, t0, f0, t0, f0, f0, (5, false), f0, f0, f0, (1, false), f0, (1, true), f0, t0, f0, (3, true), (31, false), f0, f0, f0, t0] (ai (cn h0) (a2 (bf h1) (a5 (cn (bf h2)) (a4 (cn h3) (ai (cn (bf h2)) (ai (cn h3) (ai (cn (bf h2)) (a2 (cn h4) (a5 (df h5) (ai (cn h4) (ai (cn (bf h2)) (ai (cn h4) (ai (cn (bf h2)) (ai (df h6) (ai (cn (bf h7)) (ai (cn h8) (a3 (cn h9) (ai (cn (bf h10)) trivial)))))))))))))))))) (by kernel_rfl) rfl rfl
                    · exact gv mix O_ 400 [f0, f0, f0, (10, true), t0, t0, t0, t0, f0, f0, f0, f0, t0, f0, t0, f0, f0, (5, false), f0, f0, f0, (1, false), f0, (1, true), f0, t0, f0, (3, true), (31, false), t0, t0, t0] (ai (cn h0) (a2 (bf h1) (a5 (cn (bf h2)) (a4 (cn h3) (ai (cn (bf h2)) (ai (cn h3) (ai (cn (bf h2)) (a2 (cn h4) (a5 (df h5) (ai (cn h4) (ai (cn (bf h2)) (ai (cn h4) (ai (cn (bf h2)) (ai (df h6) (ai (cn (bf h7)) (ai (cn h8) (a3 (cn (bf h9)) trivial))))))))))))))))) (by kernel_rfl) rfl rfl
                  · exact gv mix O_ 400 [f0, f0, f0, (10, true), t0, t0, t0, t0, f0, f0, f0, f0, t0, f0, t0, f0, f0, (5, false), f0, f0, f0, (1, false), f0, (1, true), f0, t0, f0, (3, true), (31, true)] (ai (cn h0) (a2 (bf h1) (a5 (cn (bf h2)) (a4 (cn h3) (ai (cn (bf h2)) (ai (cn h3) (ai (cn (bf h2)) (a2 (cn h4) (a5 (df h5) (ai (cn h4) (ai (cn (bf h2)) (ai (cn h4) (ai (cn (bf h2)) (ai (df h6) (ai (cn (bf h7)) (ai (cn (bf h8)) trivial)))))))))))))))) (by kernel_rfl) rfl rfl
          · exact gv mix O_ 400 [f0, f0, f0, (10, true), t0, t0, t0, t0, f0, f0, f0, f0, t0, f0, t0, t0, t0, t0, t0, t0, t0] (ai (cn h0) (a2 (bf h1) (a5 (cn (bf h2)) (a4 (cn h3) (ai (cn (bf h2)) (ai (cn h3) (ai (cn (bf h2)) (a3 (cn (bf h4)) (ai (cn (bf h2)) (ai (cn (bf h4)) (ai (cn (bf h2)) trivial))))))))))) (by kernel_rfl) rfl rfl
        · exact gv mix O_ 400 [f0, f0, f0, (10, true), t0, t0, t0, t0, t0, t0, t0, t0, t0, t0, t0, (3, true), (1, true)] (ai (cn h0) (a2 (bf h1) (a5 (cn (bf h2)) (a4 (cn (bf h3)) (ai (cn (bf h2)) (ai (cn (bf h3)) (a3 (cn (bf h2)) trivial))))))) (by kernel_rfl) rfl rfl
  · exact gv mix O_ 400 [t0] (ai (cn (bf h0)) trivial) (by kernel_rfl) rfl rfl
theorem G_lockgateref05_Branch_13 (b : Bool) (c : Bool) (d : Sc) (e : Sc) : Gives Tryz.prog 12 [(cI .i64).enc 13, cB.enc b, cB.enc c, cSc.enc d, cSc.enc e] ((cP3 cSc cSc cB).enc (lockgateref05_Branch_13 b c d e)) := by
  unfold lockgateref05_Branch_13
  have O_ := (orc_cons K_lockgateref05_Is (orc_cons K_lockgateref01_Jump (orc_cons K_lockgateref05_learn (orc_cons K_lockgateref05_Norm (orc_cons K_lockgateref05_Upto (orc_cons K_lockgateref05_Within on_))))))
  refine gite (fun h0 => ?_) (fun h0 => ?_)
  · refine gite (fun h1 => ?_) (fun h1 => ?_)
    · refine gite (fun h2 => ?_) (fun h2 => ?_)
      · refine gite (fun h3 => ?_) (fun h3 => ?_)
        · exact gv mix O_ 400 [f0, t0, t0, t0, t0] (ai (cn h0) (a2 h1 (ai h2 (ai h3 trivial)))) (by kernel_rfl) rfl rfl
        · exact gv mix O_ 400 [f0, t0, t0, t0, f0] (ai (cn h0) (a2 h1 (ai h2 (ai (bf h3) trivial)))) (by kernel_rfl) rfl rfl
      · refine gite (fun h3 => ?_) (fun h3 => ?_)
        · refine gite (fun h4 => ?_) (fun h4 => ?_)
          · refine gite (fun h5 => ?_) (fun h5 => ?_)
            · refine gite (fun h6 => ?_) (fun h6 => ?_)
              · refine gite (fun h7 => ?_) (fun h7 => ?_)
                · exact gv mix O_ 400 [f0, t0, t0, f0, (9, false), f0, f0, f0, f0, f0, f0, f0, f0, (4, false), f0, f0, f0, f0, f0] (ai (cn h0) (a2 h1 (ai (bf h2) (a9 (cn h3) (ai (cn h4) (ai (cn h5) (a3 (cn h6) (ai (cn h7) trivial)))))))) (by kernel_rfl) rfl rfl
                · exact gv mix O_ 400 [f0, t0, t0, f0, (9, false), f0, f0, f0, f0, f0, f0, f0, f0, (4, false), f0, f0, f0, f0, t0] (ai (cn h0) (a2 h1 (ai (bf h2) (a9 (cn h3) (ai (cn h4) (ai (cn h5) (a3 (cn h6) (ai (cn (bf h7)) trivial)))))))) (by kernel_rfl) rfl rfl
              · exact gv mix O_ 400 [f0, t0, t0, f0, (9, false), f0, f0, f0, f0, f0, f0, f0, f0, (4, false), f0, t0, t0, t0] (ai (cn h0) (a2 h1 (ai (bf h2) (a9 (cn h3) (ai (cn h4) (ai (cn h5) (a3 (cn (bf h6)) trivial))))))) (by kernel_rfl) rfl rfl
            · exact gv mix O_ 400 [f0, t0, t0, f0, (9, false), f0, f0, f0, f0, f0, f0, f0, f0, (4, false), t0] (ai (cn h0) (a2 h1 (ai (bf h2) (a9 (cn h3) (ai (cn h4) (ai (cn (bf h5)) trivial)))))) (by kernel_rfl) rfl rfl
          · refine gite (fun h5 => ?_) (fun h5 => ?_)
            · refine gite (fun h6 => ?_) (fun h6 => ?_)
              · refine gite (fun h7 => ?_) (fun h7 => ?_)
                · exact gv mix O_ 400 [f0, t0, t0, f0, (9, false), f0, f0, f0, f0, f0, f0, f0, f0, (4, true), (25, false), f0, f0, f0, f0] (ai (cn h0) (a2 h1 (ai (bf h2) (a9 (cn h3) (ai (cn (bf h4)) (ai (cn h5) (a3 (cn h6) (ai (cn h7) trivial)))))))) (by kernel_rfl) rfl rfl
                · exact gv mix O_ 400 [f0, t0, t0, f0, (9, false), f0, f0, f0, f0, f0, f0, f0, f0, (4, true), (25, false), f0, f0, f0, t0] (ai (cn h0) (a2 h1 (ai (bf h2) (a9 (cn h3) (ai (cn (bf h4)) (ai (cn h5) (a3 (cn h6) (ai (cn (bf h7)) trivial)))))))) (by kernel_rfl) rfl rfl
              · exact gv mix O_ 400 [f0, t0, t0, f0, (9, false), f0, f0, f0, f0, f0, f0, f0, f0, (4, true), (25, false), t0, t0, t0] (ai (cn h0) (a2 h1 (ai (bf h2) (a9 (cn h3) (ai (cn (bf h4)) (ai (cn h5) (a3 (cn (bf h6)) trivial))))))) (by kernel_rfl) rfl rfl
            · exact gv mix O_ 400 [f0, t0, t0, f0, (9, false), f0, f0, f0, f0, f0, f0, f0, f0, (4, true), (25, true)] (ai (cn h0) (a2 h1 (ai (bf h2) (a9 (cn h3) (ai (cn (bf h4)) (ai (cn (bf h5)) trivial)))))) (by kernel_rfl) rfl rfl
        · refine gite (fun h4 => ?_) (fun h4 => ?_)
          · refine gite (fun h5 => ?_) (fun h5 => ?_)
            · refine gite (fun h6 => ?_) (fun h6 => ?_)
              · exact gv mix O_ 400 [f0, t0, t0, f0, (9, true), t0, t0, t0, t0, f0, f0, f0, f0, t0, f0, t0, f0, f0, (5, true), t0, t0, t0, (1, true), f0, (1, true), f0, t0] (ai (cn h0) (a2 h1 (ai (bf h2) (a5 (cn (bf h3)) (a4 (cn h4) (ai (cn (bf h3)) (ai (cn h4) (ai (cn (bf h3)) (a2 (cn h5) (a5 (dt h6) (ai (cn h5) (ai (cn (bf h3)) (ai (cn h5) (ai (cn (bf h3)) trivial)))))))))))))) (by kernel_rfl) rfl rfl
              · refine gite (fun h7 => ?_) (fun h7 => ?_)
                · exact gv mix O_ 400 [f0, t0, t0, f0, (9, true), t0, t0, t0, t0, f0, f0, f0, f0, t0, f0, t0, f0, f0, (5, false), f0, f0, f0, (1, false), f0, (1, true), f0, t0, t0] (ai (cn h0) (a2 h1 (ai (bf h2) (a5 (cn (bf h3)) (a4 (cn h4) (ai (cn (bf h3)) (ai (cn h4) (ai (cn (bf h3)) (a2 (cn h5) (a5 (df h6) (ai (cn h5) (ai (cn (bf h3)) (ai (cn h5) (ai (cn (bf h3)) (ai (dt h7) trivial))))))))))))))) (by kernel_rfl) rfl rfl
                · refine gite (fun h8 => ?_) (fun h8 => ?_)
                  · refine gite (fun h9 => ?_) (fun h9 => ?_)
                    · refine gite (fun h10 => ?_) (fun h10 => ?_)
                      · refine gite (fun h11 => ?_) (fun h11 => ?_)
                        · exact gv mix O_ 400 [f0, t0, t0, f0, (9, true), t0, t0, t0, t0, f0, f0, f0, f0, t0, f0, t0, f0, f0, (5, false), f0, f0, f0, (1, false), f0, (1, true), f0, t0, f0, (3, false), f0, f0, f0, f0, f0] (ai (cn h0) (a2 h1 (ai (bf h2) (a5 (cn (bf h3)) (a4 (cn h4) (ai (cn (bf h3)) (ai (cn h4) (ai (cn (bf h3)) (a2 (cn h5) (a5 (df h6) (ai (cn h5) (ai (cn (bf h3)) (ai (cn h5) (ai (cn (bf h3)) (ai (df h7) (ai (cn h8) (ai (cn h9) (a3 (cn h10) (ai (cn h11) trivial))))))))))))))))))) (by kernel_rfl) rfl rfl
                        · exact gv mix O_ 400 [f0, t0, t0, f0, (9, true), t0, t0, t0, t0, f0, f0, f0, f0, t0, f0, t0, f0, f0, (5, false), f0, f0, f0, (1, false), f0, (1, true), f0, t0, f0, (3, false), f0, f0, f0, f0, t0] (ai (cn h0) (a2 h1 (ai (bf h2) (a5 (cn (bf h3)) (a4 (cn h4) (ai (cn (bf h3)) (ai (cn h4) (ai (cn (bf h3)) (a2 (cn h5) (a5 (df h6) (ai (cn h5) (ai (cn (bf h3)) (ai (cn h5) (ai (cn (bf h3)) (ai (df h7) (ai (cn h8) (ai (cn h9) (a3 (cn h10) (ai (cn (bf h11)) trivial))))))))))))))))))) (by kernel_rfl) rfl rfl
                      · exact gv mix O_ 400 [f0, t0, t0, f0, (9, true), t0, t0, t0, t0, f0, f0, f0, f0, t0, f0, t0, f0, f0, (5, false), f0, f0, f0, (1, false), f0, (1, true), f0, t0, f0, (3, false), f0, t0, t0, t0] (ai (cn h0) (a2 h1 (ai (bf h2) (a5 (cn (bf h3)) (a4 (cn h4) (ai (cn (bf h3)) (ai (cn h4) (ai (cn (bf h3)) (a2 (cn h5) (a5 (df h6) (ai (cn h5) (ai (cn (bf h3)) (ai (cn h5) (ai (cn (bf h3)) (ai (df h7) (ai (cn h8) (ai (cn h9) (a3 (cn (bf h10)) trivial)))))))))))))))))) (by kernel_rfl) rfl rfl
                    · exact gv mix O_ 400 [f0, t0, t0, f0, (9, true), t0, t0, t0, t0, f0, f0, f0, f0, t0, f0, t0, f0, f0, (5, false), f0, f0, f0, (1, false), f0, (1, true), f0, t0, f0, (3, false), t0] (ai (cn h0) (a2 h1 (ai (bf h2) (a5 (cn (bf h3)) (a4 (cn h4) (ai (cn (bf h3)) (ai (cn h4) (ai (cn (bf h3)) (a2 (cn h5) (a5 (df h6) (ai (cn h5) (ai (cn (bf h3)) (ai (cn h5) (ai (cn (bf h3)) (ai (df h7) (ai (cn h8) (ai (cn (bf h9)) trivial))))))))))))))))) (by kernel_rfl) rfl rfl
                  · refine gite (fun h9 => ?_) (fun h9 => ?_)
                    · refine gite (fun h10 => ?_) (fun h10 => ?_)
                      · refine gite (fun h11 => ?_) (fun h11 => ?_)
                        · exact gv mix O_ 400 [f0, t0, t0, f0, (9, true), t0, t0, t0, t0, f0, f0, f0, f0, t0, f0, t0, f0, f0, (5, false), f0, f0, f0, (1, false), f0, (1, true), f0, t0, f0, (3, true), (25, false), f0, f0, f0, f0] (ai (cn h0) (a2 h1 (ai (bf h2) (a5 (cn (bf h3)) (a4 (cn h4) (ai (cn (bf h3)) (ai (cn h4) (ai (cn (bf h3)) (a2 (cn h5) (a5 (df h6) (ai (cn h5) (ai (cn (bf h3)) (ai (cn h5) (ai (cn (bf h3)) (ai (df h7) (ai (cn (bf h8)) (ai (cn h9) (a3 (cn h10) (ai (cn h11) trivial))))))))))))))))))) (by kernel_rfl) rfl rfl
                        · exact gv mix O_ 400 [f0, t0, t0, f0, (9, true), t0, t0, t0, t0, f0, f0, f0, f0, t0, f0, t0, f0, f0, (5, false), f0, f0, f0, (1, false), f0, (1, true), f0, t0, f0, (3, true), (25, false), f0, f0, f0, t0] (ai (cn h0) (a2 h1 (ai (bf h2) (a5 (cn (bf h3)) (a4 (cn h4) (ai (cn (bf h3)) (ai (cn h4) (ai (cn (bf h3)) (a2 (cn h5) (a5 (df h6) (ai (cn h5) (ai (cn (bf h3)) (ai (cn h5) (ai (cn (bf h3)) (ai (df h7) (ai (cn (bf h8)) (ai (cn h9) (a3 (cn h10) (ai (cn (bf h11)) trivial))))))))))))))))))) (by kernel_rfl) rfl rfl
                      · exact gv mix O_ 400 [f0, t0, t0, f0, (9, true), t0, t0, t0, t0, f0, f0, f0, f0, t0, f0, t0, f0, f0, (5, false), f0, f0, f0, (1, false), f0, (1, true), f0, t0, f0, (3, true), (25, false), t0, t0, t0] (ai (cn h0) (a2 h1 (ai (bf h2) (a5 (cn (bf h3)) (a4 (cn h4) (ai (cn (bf h3)) (ai (cn h4) (ai (cn (bf h3)) (a2 (cn h5) (a5 (df h6) (ai (cn h5) (ai (cn (bf h3)) (ai (cn h5) (ai (cn (bf h3)) (ai (df h7) (ai (cn (bf h8)) (ai (cn h9) (a3 (cn (bf h10)) trivial)))))))))))))))))) (by kernel_rfl) rfl rfl
                    · exact gv mix O_ 400 [f0, t0, t0, f0, (9, true), t0, t0, t0, t0, f0, f0, f0, f0, t0, f0, t0, f0, f0, (5, false), f0, f0, f0, (1, false), f0, (1, true), f0, t0, f0, (3, true), (25, true)] (ai (cn h0) (a2 h1 (ai (bf h2) (a5 (cn (bf h3)) (a4 (cn h4) (ai (cn (bf h3)) (ai (cn h4) (ai (cn (bf h3)) (a2 (cn h5) (a5 (df h6) (ai (cn h5) (ai (cn (bf h3)) (ai (cn h5) (ai (cn (bf h3)) (ai (df h7) (ai (cn (bf h8)) (ai (cn (bf h9)) trivial))))))))))))))))) (by kernel_rfl) rfl rfl
            · exact gv mix O_ 400 [f0, t0, t0, f0, (9, true), t0, t0, t0, t0, f0, f0, f0, f0, t0, f0, t0, t0, t0, t0, t0, t0, t0] (ai (cn h0) (a2 h1 (ai (bf h2) (a5 (cn (bf h3)) (a4 (cn h4) (ai (cn (bf h3)) (ai (cn h4) (ai (cn (bf h3)) (a3 (cn (bf h5)) (ai (cn (bf h3)) (ai (cn (bf h5)) (ai (cn (bf h3)) trivial)))))))))))) (by kernel_rfl) rfl rfl
          · exact gv mix O_ 400 [f0, t0, t0, f0, (9, true), t0, t0, t0, t0, t0, t0, t0, t0, t0, t0, t0, (3, true), (1, true)] (ai (cn h0) (a2 h1 (ai (bf h2) (a5 (cn (bf h3)) (a4 (cn (bf h4)) (ai (cn (bf h3)) (ai (cn (bf h4)) (a3 (cn (bf h3)) trivial)))))))) (by kernel_rfl) rfl rfl
    · refine gite (fun h2 => ?_) (fun h2 => ?_)
      · refine gite (fun h3 => ?_) (fun h3 => ?_)
        · refine gite (fun h4 => ?_) (fun h4 => ?_)
          · refine gite (fun h5 => ?_) (fun h5 => ?_)
            · refine gite (fun h6 => ?_) (fun h6 => ?_)
              · exact gv mix O_ 400 [f0, f0, f0, (10, false), f0, f0, f0, f0, f0, f0, f0, f0, (4, false), f0, f0, f0, f0, f0] (ai (cn h0) (a2 (bf h1) (a9 (cn h2) (ai (cn h3) (ai (cn h4) (a3 (cn h5) (ai (cn h6) trivial))))))) (by kernel_rfl) rfl rfl
              · exact gv mix O_ 400 [f0, f0, f0, (10, false), f0, f0, f0, f0, f0, f0, f0, f0, (4, false), f0, f0, f0, f0, t0] (ai (cn h0) (a2 (bf h1) (a9 (cn h2) (ai (cn h3) (ai (cn h4) (a3 (cn h5) (ai (cn (bf h6)) trivial))))))) (by kernel_rfl) rfl rfl
            · exact gv mix O_ 400 [f0, f0, f0, (10, false), f0, f0, f0, f0, f0, f0, f0, f0, (4, false), f0, t0, t0, t0] (ai (cn h0) (a2 (bf h1) (a9 (cn h2) (ai (cn h3) (ai (cn h4) (a3 (cn (bf h5)) trivial)))))) (by kernel_rfl) rfl rfl
          · exact gv mix O_ 400 [f0, f0, f0, (10, false), f0, f0, f0, f0, f0, f0, f0, f0, (4, false), t0] (ai (cn h0) (a2 (bf h1) (a9 (cn h2) (ai (cn h3) (ai (cn (bf h4)) trivial))))) (by kernel_rfl) rfl rfl
        · refine gite (fun h4 => ?_) (fun h4 => ?_)
          · refine gite (fun h5 => ?_) (fun h5 => ?_)
            · refine gite (fun h6 => ?_) (fun h6 => ?_)
              · exact gv mix O_ 400 [f0, f0, f0, (10, false), f0, f0, f0, f0, f0, f0, f0, f0, (4, true), (25, false), f0, f0, f0, f0] (ai (cn h0) (a2 (bf h1) (a9 (cn h2) (ai (cn (bf h3)) (ai (cn h4) (a3 (cn h5) (ai (cn h6) trivial))))))) (by kernel_rfl) rfl rfl
              · exact gv mix O_ 400 [f0, f0, f0, (10, false), f0, f0, f0, f0, f0, f0, f0, f0, (4, true), (25, false), f0, f0, f0, t0] (ai (cn h0) (a2 (bf h1) (a9 (cn h2) (ai (cn (bf h3)) (ai (cn h4) (a3 (cn h5) (ai (cn (bf h6)) trivial))))))) (by kernel_rfl) rfl rfl
            · exact gv mix O_ 400 [f0, f0, f0, (10, false), f0, f0, f0, f0, f0, f0, f0, f0, (4, true), (25, false), t0, t0, t0] (ai (cn h0) (a2 (bf h1) (a9 (cn h2) (ai (cn (bf h3)) (ai (cn h4) (a3 (cn (bf h5)) trivial)))))) (by kernel_rfl) rfl rfl
          · exact gv mix O_ 400 [f0, f0, f0, (10, false), f0, f0, f0, f0, f0, f0, f0, f0, (4, true), (25, true)] (ai (cn h0) (a2 (bf h1) (a9 (cn h2) (ai (cn (bf h3)) (ai (cn (bf h4)) trivial))))) (by kernel_rfl) rfl rfl
      · refine gite (fun h3 => ?_) (fun h3 => ?_)
        · refine gite (fun h4 => ?_) (fun h4 => ?_)
          · refine gite (fun h5 => ?_) (fun h5 => ?_)
            · exact gv mix O_ 400 [f0, f0, f0, (10, true), t0, t0, t0, t0, f0, f0, f0, f0, t0, f0, t0, f0, f0, (5, true), t0, t0, t0, (1, true), f0, (1, true), f0, t0] (ai (cn h0) (a2 (bf h1) (a5 (cn (bf h2)) (a4 (cn h3) (ai (cn (bf h2)) (ai (cn h3) (ai (cn (bf h2)) (a2 (cn h4) (a5 (dt h5) (ai (cn h4) (ai (cn (bf h2)) (ai (cn h4) (ai (cn (bf h2)) trivial))))))))))))) (by kernel_rfl) rfl rfl
            · refine gite (fun h6 => ?_) (fun h6 => ?_)
              · exact gv mix O_ 400 [f0, f0, f0, (10, true), t0, t0, t0, t0, f0, f0, f0, f0, t0, f0, t0, f0, f0, (5, false), f0, f0, f0, (1, false), f0, (1, true), f0, t0, t0] (ai (cn h0) (a2 (bf h1) (a5 (cn (bf h2)) (a4 (cn h3) (ai (cn (bf h2)) (ai (cn h3) (ai (cn (bf h2)) (a2 (cn h4) (a5 (df h5) (ai (cn h4) (ai (cn (bf h2)) (ai (cn h4) (ai (cn (bf h2)) (ai (dt h6) trivial)))))))))))))) (by kernel_rfl) rfl rfl
              · refine gite (fun h7 => ?_) (fun h7 => ?_)
                · refine gite (fun h8 => ?_) (fun h8 => ?_)
                  · refine gite (fun h9 => ?_) (fun h9 => ?_)
                    · refine gite (fun h10 => ?_) (fun h10 => ?_)
                      · exact gv mix O_ 400 [f0, f0, f0, (10, true), t0, t0, t0, t0, f0, f0, f0, f0, t0, f0, t0, f0, f0, (5, false), f0, f0, f0, (1, false), f0, (1, true), f0, t0, f0, (3, false), f0, f0, f0, f0, f0] (ai (cn h0) (a2 (bf h1) (a5 (cn (bf h2)) (a4 (cn h3) (ai (cn (bf h2)) (ai (cn h3) (ai (cn (bf h2)) (a2 (cn h4) (a5 (df h5) (ai (cn h4) (ai (cn (bf h2)) (ai (cn h4) (ai (cn (bf h2)) (ai (df h6) (ai (cn h7) (ai (cn h8) (a3 (cn h9) (ai (cn h10) trivial)))))))))))))))))) (by kernel_rfl) rfl rfl
                      · exact gv mix O_ 400 [f0, f0, f0, (10, true), t0, t0, t0, t0, f0, f0, f0, f0, t0, f0, t0, f0, f0, (5, false), f0, f0, f0, (1, false), f0, (1, true), f0, t0, f0, (3, false), f0, f0, f0, f0, t0] (ai (cn h0) (a2 (bf h1) (a5 (cn (bf h2)) (a4 (cn h3) (ai (cn (bf h2)) (ai (cn h3) (ai (cn (bf h2)) (a2 (cn h4) (a5 (df h5) (ai (cn h4) (ai (cn (bf h2)) (ai (cn h4) (ai (cn (bf h2)) (ai (df h6) (ai (cn h7) (ai (cn h8) (a3 (cn h9) (ai (cn (bf h10)) trivial)))))))))))))))))) (by kernel_rfl) rfl rfl
                    · exact gv mix O_ 400 [f0, f0, f0, (10, true), t0, t0, t0, t0, f0, f0, f0, f0, t0, f0, t0, f0, f0, (5, false), f0, f0, f0, (1, false), f0, (1, true), f0, t0, f0, (3, false), f0, t0, t0, t0] (ai (cn h0) (a2 (bf h1) (a5 (cn (bf h2)) (a4 (cn h3) (ai (cn (bf h2)) (ai (cn h3) (ai (cn (bf h2)) (a2 (cn h4) (a5 (df h5) (ai (cn h4) (ai (cn (bf h2)) (ai (cn h4) (ai (cn (bf h2)) (ai (df h6) (ai (cn h7) (ai (cn h8) (a3 (cn (bf h9)) trivial))))))))))))))))) (by kernel_rfl) rfl rfl
                  · exact gv mix O_ 400 [f0, f0, f0, (10, true), t0, t0, t0, t0, f0, f0, f0, f0, t0, f0, t0, f0, f0, (5, false), f0, f0, f0, (1, false), f0, (1, true), f0, t0, f0, (3, false), t0] (ai (cn h0) (a2 (bf h1) (a5 (cn (bf h2)) (a4 (cn h3) (ai (cn (bf h2)) (ai (cn h3) (ai (cn (bf h2)) (a2 (cn h4) (a5 (df h5) (ai (cn h4) (ai (cn (bf h2)) (ai (cn h4) (ai (cn (bf h2)) (ai (df h6) (ai (cn h7) (ai (cn (bf h8)) trivial)))))))))))))))) (by kernel_rfl) rfl rfl
                · refine gite (fun h8 => ?_) (fun h8 => ?_)
                  · refine gite (fun h9 => ?_) (fun h9 => ?_)
                    · refine gite (fun h10 => ?_) (fun h10 => ?_)
                      · exact gv mix O_ 400 [f0, f0, f0, (10, true), t0, t0, t0, t0, f0, f0, f0, f0, t0, f0, t0, f0, f0, (5, false), f0, f0, f0, (1, false), f0, (1, true), f0, t0, f0, (3, true), (25, false), f0, f0, f0, f0] (ai (cn h0) (a2 (bf h1) (a5 (cn (bf h2)) (a4 (cn h3) (ai (cn (bf h2)) (ai (cn h3) (ai (cn (bf h2)) (a2 (cn h4) (a5 (df h5) (ai (cn h4) (ai (cn (bf h2)) (ai (cn h4) (ai (cn (bf h2)) (ai (df h6) (ai (cn (bf h7)) (ai (cn h8) (a3 (cn h9) (ai (cn h10) trivial)))))))))))))))))) (by kernel_rfl) rfl rfl
                      · exact gv mix O_ 400 [f0, f0, f0, (10, true), t0, t0, t0, t0, f0, f0, f0, f0, t0, f0, t0, f0, f0, (5, false), f0, f0, f0, (1, false), f0, (1, true), f0, t0, f0, (3, true), (25, false), f0, f0, f0, t0] (ai (cn h0) (a2 (bf h1) (a5 (cn (bf h2)) (a4 (cn h3) (ai (cn (bf h2)) (ai (cn h3) (ai (cn (bf h2)) (a2 (cn h4) (a5 (df h5) (ai (cn h4) (ai (cn (bf h2)) (ai (cn h4) (ai (cn (bf h2)) (ai (df h6) (ai (cn (bf h7)) (ai (cn h8) (a3 (cn h9) (ai (cn (bf h10)) trivial)))))))))))))))))) (by kernel_rfl) rfl rfl
                    · exact gv mix O_ 400 [f0, f0, f0, (10, true), t0, t0, t0, t0, f0, f0, f0, f0, t0, f0, t0, f0, f0, (5, false), f0, f0, f0, (1, false), f0, (1, true), f0, t0, f0, (3, true), (25, false), t0, t0, t0] (ai (cn h0) (a2 (bf h1) (a5 (cn (bf h2)) (a4 (cn h3) (ai (cn (bf h2)) (ai (cn h3) (ai (cn (bf h2)) (a2 (cn h4) (a5 (df h5) (ai (cn h4) (ai (cn (bf h2)) (ai (cn h4) (ai (cn (bf h2)) (ai (df h6) (ai (cn (bf h7)) (ai (cn h8) (a3 (cn (bf h9)) trivial))))))))))))))))) (by kernel_rfl) rfl rfl
                  · exact gv mix O_ 400 [f0, f0, f0, (10, true), t0, t0, t0, t0, f0, f0, f0, f0, t0, f0, t0, f0, f0, (5, false), f0, f0, f0, (1, false), f0, (1, true), f0, t0, f0, (3, true), (25, true)] (ai (cn h0) (a2 (bf h1) (a5 (cn (bf h2)) (a4 (cn h3) (ai (cn (bf h2)) (ai (cn h3) (ai (cn (bf h2)) (a2 (cn h4) (a5 (df h5) (ai (cn h4) (ai (cn (bf h2)) (ai (cn h4) (ai (cn (bf h2)) (ai (df h6) (ai (cn (bf h7)) (ai (cn (bf h8)) trivial)))))))))))))))) (by kernel_rfl) rfl rfl
          · exact gv mix O_ 400 [f0, f0, f0, (10, true), t0, t0, t0, t0, f0, f0, f0, f0, t0, f0, t0, t0, t0, t0, t0, t0, t0] (ai (cn h0) (a2 (bf h1) (a5 (cn (bf h2)) (a4 (cn h3) (ai (cn (bf h2)) (ai (cn h3) (ai (cn (bf h2)) (a3 (cn (bf h4)) (ai (cn (bf h2)) (ai (cn (bf h4)) (ai (cn (bf h2)) trivial))))))))))) (by kernel_rfl) rfl rfl
        · exact gv mix O_ 400 [f0, f0, f0, (10, true), t0, t0, t0, t0, t0, t0, t0, t0, t0, t0, t0, (3, true), (1, true)] (ai (cn h0) (a2 (bf h1) (a5 (cn (bf h2)) (a4 (cn (bf h3)) (ai (cn (bf h2)) (ai (cn (bf h3)) (a3 (cn (bf h2)) trivial))))))) (by kernel_rfl) rfl rfl
  · exact gv mix O_ 400 [t0] (ai (cn (bf h0)) trivial) (by kernel_rfl) rfl rfl
theorem G_lockgateref05_Branch_x (a : Int) (b : Bool) (c : Bool) (d : Sc) (e : Sc) (n0 : ¬ a = 1) (n1 : ¬ a = 2) (n2 : ¬ a = 3) (n3 : ¬ a = 4) (n4 : ¬ a = 5) (n5 : ¬ a = 6) (n6 : ¬ a = 7) (n7 : ¬ a = 10) (n8 : ¬ a = 11) (n9 : ¬ a = 12) (n10 : ¬ a = 13) : Gives Tryz.prog 12 [(cI .i64).enc a, cB.enc b, cB.enc c, cSc.enc d, cSc.enc e] ((cP3 cSc cSc cB).enc (lockgateref05_Branch_x a b c d e)) := by
  unfold lockgateref05_Branch_x
  have O_ := (orc_cons K_lockgateref05_Is (orc_cons K_lockgateref01_Jump on_))
  exact gv mix O_ 400 [t0] (ai (cn (bf (rjn (b := b) (v := (lockgateref05_Is d).1) (w := (lockgateref05_Is e).1) n0 n1 n2 n3 n4 n5 n6 n7 n8 n9 n10))) trivial) (by kernel_rfl) rfl rfl
theorem K_lockgateref05_Branch : Keeps Tryz.prog 12 (F5 (cI .i64) cB cB cSc cSc (cP3 cSc cSc cB) (fun _ _ _ _ _ => []) lockgateref05_Branch) := by
  refine keeps5 _ _ _ _ _ _ (enters_of Tryz.func12 (by kernel_rfl)) fun a b c d e hp_ => ?_
  unfold lockgateref05_Branch
  by_cases n0 : a = 1
  · subst n0; rw [if_pos rfl]; exact G_lockgateref05_Branch_1 b c d e
  rw [if_neg n0]
  by_cases n1 : a = 2
  · subst n1; rw [if_pos rfl]; exact G_lockgateref05_Branch_2 b c d e
  rw [if_neg n1]
  by_cases n2 : a = 3
  · subst n2; rw [if_pos rfl]; exact G_lockgateref05_Branch_3 b c d e
  rw [if_neg n2]
  by_cases n3 : a = 4
  · subst n3; rw [if_pos rfl]; exact G_lockgateref05_Branch_4 b c d e
  rw [if_neg n3]
  by_cases n4 : a = 5
  · subst n4; rw [if_pos rfl]; exact G_lockgateref05_Branch_5 b c d e
  rw [if_neg n4]
  by_cases n5 : a = 6
  · subst n5; rw [if_pos rfl]; exact G_lockgateref05_Branch_6 b c d e
  rw [if_neg n5]
  by_cases n6 : a = 7
  · subst n6; rw [if_pos rfl]; exact G_lockgateref05_Branch_7 b c d e
  rw [if_neg n6]
  by_cases n7 : a = 10
  · subst n7; rw [if_pos rfl]; exact G_lockgateref05_Branch_10 b c d e
  rw [if_neg n7]
  by_cases n8 : a = 11
  · subst n8; rw [if_pos rfl]; exact G_lockgateref05_Branch_11 b c d e
  rw [if_neg n8]
  by_cases n9 : a = 12
  · subst n9; rw [if_pos rfl]; exact G_lockgateref05_Branch_12 b c d e
  rw [if_neg n9]
  by_cases n10 : a = 13
  · subst n10; rw [if_pos rfl]; exact G_lockgateref05_Branch_13 b c d e
  rw [if_neg n10]
  exact G_lockgateref05_Branch_x a b c d e n0 n1 n2 n3 n4 n5 n6 n7 n8 n9 n10
end Go.Proofs.T
