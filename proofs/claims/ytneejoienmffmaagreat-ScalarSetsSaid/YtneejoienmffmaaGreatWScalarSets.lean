/-
  The functions of the program keep their contracts: what they make is what the functions of plain data say.
-/
import Derived.Test.YtneejoienmffmaaGreatDL
import Derived.Test.YtneejoienmffmaaGreatN6
import Derived.Test.YtneejoienmffmaaGreatC6
import Derived.KernelRfl
set_option linter.unusedVariables false
set_option maxRecDepth 100000
namespace Go.Proofs.T
open Go Go.Proofs Go.Proofs.SX
theorem K_lockgatelaw05_ScalarSets : Keeps Tryz.prog 5 (F4 cSc cSc (cI .u64) (cI .i64) cB (fun a b c _ => [(okSc a, true), (okSc b, true), (decide (W64 c), true)]) lockgatelaw05_ScalarSets) := by
  refine keeps4 _ _ _ _ _ (enters_of Tryz.func5 (by kernel_rfl)) fun a b c d hp_ => ?_
  have p0 := hp_.1
  have p1 := hp_.2.1
  have p2 := of_decide_eq_true hp_.2.2.1
  unfold lockgatelaw05_ScalarSets
  have O_ := (orc_cons K_lockgatelaw05_May (orc_cons K_scalar_Is (orc_cons K_lockgateref05_Is (orc_cons K_scalar_Norm (orc_cons K_lockgateref05_Norm (orc_cons K_scalar_Of (orc_cons K_lockgateref05_Of (orc_cons K_scalar_Any (orc_cons K_lockgateref05_Any (orc_cons K_scalar_Upto (orc_cons K_lockgateref05_Upto (orc_cons K_scalar_In (orc_cons K_lockgateref05_In (orc_cons K_scalar_Within (orc_cons K_lockgateref05_Within (orc_cons K_scalar_Join (orc_cons K_lockgateref05_Join (orc_cons K_lockgatelaw05_known on_))))))))))))))))))
  refine gite (fun h0 => ?_) (fun h0 => ?_)
  · refine gite (fun h1 => ?_) (fun h1 => ?_)
    · refine gite (fun h2 => ?_) (fun h2 => ?_)
      · refine gite (fun h3 => ?_) (fun h3 => ?_)
        · refine gite (fun h4 => ?_) (fun h4 => ?_)
          · refine gite (fun h5 => ?_) (fun h5 => ?_)
            · refine gite (fun h6 => ?_) (fun h6 => ?_)
              · refine gite (fun h7 => ?_) (fun h7 => ?_)
                · refine gite (fun h8 => ?_) (fun h8 => ?_)
                  · refine gite (fun h9 => ?_) (fun h9 => ?_)
                    · exact gv mix O_ 400 [f0, f0, f0, f0, f0, f0, f0, f0, f0, f0, f0, f0, f0, f0, f0, f0, f0, f0, f0, f0, f0, f0, f0, f0, f0, f0, f0, f0, f0, t0, t0, t0, t0, t0, t0, t0, t0, t0, t0, t0, t0, t0, t0, t0, t0, t0, t0] (a4 (bne_eq_false_iff_eq.2 h0) (a4 (cn h1) (a4 (cn h2) (a6 (cn h3) (a4 (cn h4) (a6 (cn h5) (ai (cn h6) (a8 h7 (a8 h8 (a2 h9 trivial)))))))))) (by kernel_rfl) rfl rfl
                    · exact gv mix O_ 400 [f0, f0, f0, f0, f0, f0, f0, f0, f0, f0, f0, f0, f0, f0, f0, f0, f0, f0, f0, f0, f0, f0, f0, f0, f0, f0, f0, f0, f0, t0, t0, t0, t0, t0, t0, t0, t0, t0, t0, t0, t0, t0, t0, t0, t0, f0, f0] (a4 (bne_eq_false_iff_eq.2 h0) (a4 (cn h1) (a4 (cn h2) (a6 (cn h3) (a4 (cn h4) (a6 (cn h5) (ai (cn h6) (a8 h7 (a8 h8 (a2 (bf h9) trivial)))))))))) (by kernel_rfl) rfl rfl
                  · exact gv mix O_ 400 [f0, f0, f0, f0, f0, f0, f0, f0, f0, f0, f0, f0, f0, f0, f0, f0, f0, f0, f0, f0, f0, f0, f0, f0, f0, f0, f0, f0, f0, t0, t0, t0, t0, t0, t0, t0, t0, f0, f0, f0, f0, f0, f0, f0, f0] (a4 (bne_eq_false_iff_eq.2 h0) (a4 (cn h1) (a4 (cn h2) (a6 (cn h3) (a4 (cn h4) (a6 (cn h5) (ai (cn h6) (a8 h7 (a8 (bf h8) trivial))))))))) (by kernel_rfl) rfl rfl
                · exact gv mix O_ 400 [f0, f0, f0, f0, f0, f0, f0, f0, f0, f0, f0, f0, f0, f0, f0, f0, f0, f0, f0, f0, f0, f0, f0, f0, f0, f0, f0, f0, f0, f0, f0, f0, f0, f0, f0, f0, f0] (a4 (bne_eq_false_iff_eq.2 h0) (a4 (cn h1) (a4 (cn h2) (a6 (cn h3) (a4 (cn h4) (a6 (cn h5) (ai (cn h6) (a8 (bf h7) trivial)))))))) (by kernel_rfl) rfl rfl
              · exact gv mix O_ 400 [f0, f0, f0, f0, f0, f0, f0, f0, f0, f0, f0, f0, f0, f0, f0, f0, f0, f0, f0, f0, f0, f0, f0, f0, f0, f0, f0, f0, t0] (a4 (bne_eq_false_iff_eq.2 h0) (a4 (cn h1) (a4 (cn h2) (a6 (cn h3) (a4 (cn h4) (a6 (cn h5) (ai (cn (bf h6)) trivial))))))) (by kernel_rfl) rfl rfl
            · exact gv mix O_ 400 [f0, f0, f0, f0, f0, f0, f0, f0, f0, f0, f0, f0, f0, f0, f0, f0, f0, f0, f0, f0, f0, f0, t0, t0, t0, t0, t0, t0] (a4 (bne_eq_false_iff_eq.2 h0) (a4 (cn h1) (a4 (cn h2) (a6 (cn h3) (a4 (cn h4) (a6 (cn (bf h5)) trivial)))))) (by kernel_rfl) rfl rfl
          · exact gv mix O_ 400 [f0, f0, f0, f0, f0, f0, f0, f0, f0, f0, f0, f0, f0, f0, f0, f0, f0, f0, t0, t0, t0, t0] (a4 (bne_eq_false_iff_eq.2 h0) (a4 (cn h1) (a4 (cn h2) (a6 (cn h3) (a4 (cn (bf h4)) trivial))))) (by kernel_rfl) rfl rfl
        · exact gv mix O_ 400 [f0, f0, f0, f0, f0, f0, f0, f0, f0, f0, f0, f0, t0, t0, t0, t0, t0, t0] (a4 (bne_eq_false_iff_eq.2 h0) (a4 (cn h1) (a4 (cn h2) (a6 (cn (bf h3)) trivial)))) (by kernel_rfl) rfl rfl
      · exact gv mix O_ 400 [f0, f0, f0, f0, f0, f0, f0, f0, t0, t0, t0, t0] (a4 (bne_eq_false_iff_eq.2 h0) (a4 (cn h1) (a4 (cn (bf h2)) trivial))) (by kernel_rfl) rfl rfl
    · exact gv mix O_ 400 [f0, f0, f0, f0, t0, t0, t0, t0] (a4 (bne_eq_false_iff_eq.2 h0) (a4 (cn (bf h1)) trivial)) (by kernel_rfl) rfl rfl
  · exact gv mix O_ 400 [t0, t0, t0, t0] (a4 (bne_iff_ne.2 h0) trivial) (by kernel_rfl) rfl rfl
end Go.Proofs.T
