/-
  The functions of the program keep their contracts: what they make is what the functions of plain data say.
-/
import Derived.Test.YtneejoienmffmaaD
import Derived.Test.YtneejoienmffmaaM5
import Derived.Test.YtneejoienmffmaaC4
import Derived.KernelRfl
set_option linter.unusedVariables false
set_option maxRecDepth 100000
namespace Go.Proofs.T
open Go Go.Proofs Go.Proofs.SX
theorem G_scalar_learn_1 (b : Bool) (c : Sc) (d : Sc) : Gives Try.prog 47 [(cI .i64).enc 1, cB.enc b, cSc.enc c, cSc.enc d] ((cP3 cSc cSc cB).enc (scalar_learn_1 b c d)) := by
  unfold scalar_learn_1
  have O_ := (orc_cons K_scalar_meet (orc_cons K_scalar_Is (orc_cons K_scalar_without on_)))
  refine gite (fun h0 => ?_) (fun h0 => ?_)
  · exact gv mix O_ 400 [(3, false)] (ai (cn h0) trivial) (by kernel_rfl) rfl rfl
  · refine gite (fun h1 => ?_) (fun h1 => ?_)
    · refine gite (fun h2 => ?_) (fun h2 => ?_)
      · refine gite (fun h3 => ?_) (fun h3 => ?_)
        · exact gv mix O_ 400 [(3, true), t0, t0, t0, t0] (ai (cn (bf h0)) (ai h1 (ai h2 (ai h3 (ai h3 trivial))))) (by kernel_rfl) rfl rfl
        · exact gv mix O_ 400 [(3, true), t0, t0, f0, f0] (ai (cn (bf h0)) (ai h1 (ai h2 (ai (bf h3) (ai (bf h3) trivial))))) (by kernel_rfl) rfl rfl
      · refine gite (fun h3 => ?_) (fun h3 => ?_)
        · exact gv mix O_ 400 [(3, true), t0, f0, t0, t0] (ai (cn (bf h0)) (ai h1 (ai (bf h2) (ai h3 (ai h3 trivial))))) (by kernel_rfl) rfl rfl
        · exact gv mix O_ 400 [(3, true), t0, f0, f0, f0] (ai (cn (bf h0)) (ai h1 (ai (bf h2) (ai (bf h3) (ai (bf h3) trivial))))) (by kernel_rfl) rfl rfl
    · refine gite (fun h2 => ?_) (fun h2 => ?_)
      · exact gv mix O_ 400 [(3, true), f0, t0] (ai (cn (bf h0)) (ai (bf h1) (ai h2 trivial))) (by kernel_rfl) rfl rfl
      · exact gv mix O_ 400 [(3, true), f0, f0] (ai (cn (bf h0)) (ai (bf h1) (ai (bf h2) trivial))) (by kernel_rfl) rfl rfl
theorem G_scalar_learn_2 (b : Bool) (c : Sc) (d : Sc) : Gives Try.prog 47 [(cI .i64).enc 2, cB.enc b, cSc.enc c, cSc.enc d] ((cP3 cSc cSc cB).enc (scalar_learn_2 b c d)) := by
  unfold scalar_learn_2
  have O_ := (orc_cons K_scalar_less on_)
  refine gite (fun h0 => ?_) (fun h0 => ?_)
  · exact gv mix O_ 400 [(30, true)] (ai h0 trivial) (by kernel_rfl) rfl rfl
  · exact gv mix O_ 400 [(30, false)] (ai (bf h0) trivial) (by kernel_rfl) rfl rfl
theorem G_scalar_learn_3 (b : Bool) (c : Sc) (d : Sc) : Gives Try.prog 47 [(cI .i64).enc 3, cB.enc b, cSc.enc c, cSc.enc d] ((cP3 cSc cSc cB).enc (scalar_learn_3 b c d)) := by
  unfold scalar_learn_3
  have O_ := (orc_cons K_scalar_less on_)
  refine gite (fun h0 => ?_) (fun h0 => ?_)
  · exact gv mix O_ 400 [(30, true)] (ai h0 trivial) (by kernel_rfl) rfl rfl
  · exact gv mix O_ 400 [(30, false)] (ai (bf h0) trivial) (by kernel_rfl) rfl rfl
theorem G_scalar_learn_4 (b : Bool) (c : Sc) (d : Sc) : Gives Try.prog 47 [(cI .i64).enc 4, cB.enc b, cSc.enc c, cSc.enc d] ((cP3 cSc cSc cB).enc (scalar_learn_4 b c d)) := by
  unfold scalar_learn_4
  have O_ := (orc_cons K_scalar_Is (orc_cons K_scalar_clear on_))
  refine gite (fun h0 => ?_) (fun h0 => ?_)
  · exact gv mix O_ 400 [(1, true)] (ai h0 trivial) (by kernel_rfl) rfl rfl
  · refine gite (fun h1 => ?_) (fun h1 => ?_)
    · refine gite (fun h2 => ?_) (fun h2 => ?_)
      · refine gite (fun h3 => ?_) (fun h3 => ?_)
        · exact gv mix O_ 400 [(1, false), t0, t0, t0, t0] (ai (bf h0) (ai h1 (ai h2 (ai h3 (ai h3 trivial))))) (by kernel_rfl) rfl rfl
        · exact gv mix O_ 400 [(1, false), t0, t0, f0, f0] (ai (bf h0) (ai h1 (ai h2 (ai (bf h3) (ai (bf h3) trivial))))) (by kernel_rfl) rfl rfl
      · refine gite (fun h3 => ?_) (fun h3 => ?_)
        · exact gv mix O_ 400 [(1, false), t0, f0, t0, t0] (ai (bf h0) (ai h1 (ai (bf h2) (ai h3 (ai h3 trivial))))) (by kernel_rfl) rfl rfl
        · exact gv mix O_ 400 [(1, false), t0, f0, f0, f0] (ai (bf h0) (ai h1 (ai (bf h2) (ai (bf h3) (ai (bf h3) trivial))))) (by kernel_rfl) rfl rfl
    · refine gite (fun h2 => ?_) (fun h2 => ?_)
      · exact gv mix O_ 400 [(1, false), f0, t0] (ai (bf h0) (ai (bf h1) (ai h2 trivial))) (by kernel_rfl) rfl rfl
      · exact gv mix O_ 400 [(1, false), f0, f0] (ai (bf h0) (ai (bf h1) (ai (bf h2) trivial))) (by kernel_rfl) rfl rfl
theorem G_scalar_learn_5 (b : Bool) (c : Sc) (d : Sc) : Gives Try.prog 47 [(cI .i64).enc 5, cB.enc b, cSc.enc c, cSc.enc d] ((cP3 cSc cSc cB).enc (scalar_learn_5 b c d)) := by
  unfold scalar_learn_5
  have O_ := (orc_cons K_scalar_meet (orc_cons K_scalar_Is (orc_cons K_scalar_without on_)))
  refine gite (fun h0 => ?_) (fun h0 => ?_)
  · exact gv mix O_ 400 [(3, false)] (ai (cn h0) trivial) (by kernel_rfl) rfl rfl
  · refine gite (fun h1 => ?_) (fun h1 => ?_)
    · refine gite (fun h2 => ?_) (fun h2 => ?_)
      · refine gite (fun h3 => ?_) (fun h3 => ?_)
        · exact gv mix O_ 400 [(3, true), t0, t0, t0, t0] (ai (cn (bf h0)) (ai h1 (ai h2 (ai h3 (ai h3 trivial))))) (by kernel_rfl) rfl rfl
        · exact gv mix O_ 400 [(3, true), t0, t0, f0, f0] (ai (cn (bf h0)) (ai h1 (ai h2 (ai (bf h3) (ai (bf h3) trivial))))) (by kernel_rfl) rfl rfl
      · refine gite (fun h3 => ?_) (fun h3 => ?_)
        · exact gv mix O_ 400 [(3, true), t0, f0, t0, t0] (ai (cn (bf h0)) (ai h1 (ai (bf h2) (ai h3 (ai h3 trivial))))) (by kernel_rfl) rfl rfl
        · exact gv mix O_ 400 [(3, true), t0, f0, f0, f0] (ai (cn (bf h0)) (ai h1 (ai (bf h2) (ai (bf h3) (ai (bf h3) trivial))))) (by kernel_rfl) rfl rfl
    · refine gite (fun h2 => ?_) (fun h2 => ?_)
      · exact gv mix O_ 400 [(3, true), f0, t0] (ai (cn (bf h0)) (ai (bf h1) (ai h2 trivial))) (by kernel_rfl) rfl rfl
      · exact gv mix O_ 400 [(3, true), f0, f0] (ai (cn (bf h0)) (ai (bf h1) (ai (bf h2) trivial))) (by kernel_rfl) rfl rfl
theorem G_scalar_learn_6 (b : Bool) (c : Sc) (d : Sc) : Gives Try.prog 47 [(cI .i64).enc 6, cB.enc b, cSc.enc c, cSc.enc d] ((cP3 cSc cSc cB).enc (scalar_learn_6 b c d)) := by
  unfold scalar_learn_6
  have O_ := (orc_cons K_scalar_less on_)
  refine gite (fun h0 => ?_) (fun h0 => ?_)
  · exact gv mix O_ 400 [(30, true)] (ai h0 trivial) (by kernel_rfl) rfl rfl
  · exact gv mix O_ 400 [(30, false)] (ai (bf h0) trivial) (by kernel_rfl) rfl rfl
theorem G_scalar_learn_7 (b : Bool) (c : Sc) (d : Sc) : Gives Try.prog 47 [(cI .i64).enc 7, cB.enc b, cSc.enc c, cSc.enc d] ((cP3 cSc cSc cB).enc (scalar_learn_7 b c d)) := by
  unfold scalar_learn_7
  have O_ := (orc_cons K_scalar_less on_)
  refine gite (fun h0 => ?_) (fun h0 => ?_)
  · exact gv mix O_ 400 [(30, true)] (ai h0 trivial) (by kernel_rfl) rfl rfl
  · exact gv mix O_ 400 [(30, false)] (ai (bf h0) trivial) (by kernel_rfl) rfl rfl
theorem G_scalar_learn_10 (b : Bool) (c : Sc) (d : Sc) : Gives Try.prog 47 [(cI .i64).enc 10, cB.enc b, cSc.enc c, cSc.enc d] ((cP3 cSc cSc cB).enc (scalar_learn_10 b c d)) := by
  unfold scalar_learn_10
  have O_ := (orc_cons K_scalar_less on_)
  refine gite (fun h0 => ?_) (fun h0 => ?_)
  · exact gv mix O_ 400 [(30, true)] (ai h0 trivial) (by kernel_rfl) rfl rfl
  · exact gv mix O_ 400 [(30, false)] (ai (bf h0) trivial) (by kernel_rfl) rfl rfl
theorem G_scalar_learn_11 (b : Bool) (c : Sc) (d : Sc) : Gives Try.prog 47 [(cI .i64).enc 11, cB.enc b, cSc.enc c, cSc.enc d] ((cP3 cSc cSc cB).enc (scalar_learn_11 b c d)) := by
  unfold scalar_learn_11
  have O_ := (orc_cons K_scalar_less on_)
  refine gite (fun h0 => ?_) (fun h0 => ?_)
  · exact gv mix O_ 400 [(30, true)] (ai h0 trivial) (by kernel_rfl) rfl rfl
  · exact gv mix O_ 400 [(30, false)] (ai (bf h0) trivial) (by kernel_rfl) rfl rfl
theorem G_scalar_learn_12 (b : Bool) (c : Sc) (d : Sc) : Gives Try.prog 47 [(cI .i64).enc 12, cB.enc b, cSc.enc c, cSc.enc d] ((cP3 cSc cSc cB).enc (scalar_learn_12 b c d)) := by
  unfold scalar_learn_12
  have O_ := (orc_cons K_scalar_less on_)
  refine gite (fun h0 => ?_) (fun h0 => ?_)
  · exact gv mix O_ 400 [(30, true)] (ai h0 trivial) (by kernel_rfl) rfl rfl
  · exact gv mix O_ 400 [(30, false)] (ai (bf h0) trivial) (by kernel_rfl) rfl rfl
theorem G_scalar_learn_13 (b : Bool) (c : Sc) (d : Sc) : Gives Try.prog 47 [(cI .i64).enc 13, cB.enc b, cSc.enc c, cSc.enc d] ((cP3 cSc cSc cB).enc (scalar_learn_13 b c d)) := by
  unfold scalar_learn_13
  have O_ := (orc_cons K_scalar_less on_)
  refine gite (fun h0 => ?_) (fun h0 => ?_)
  · exact gv mix O_ 400 [(30, true)] (ai h0 trivial) (by kernel_rfl) rfl rfl
  · exact gv mix O_ 400 [(30, false)] (ai (bf h0) trivial) (by kernel_rfl) rfl rfl
theorem G_scalar_learn_x (a : Int) (b : Bool) (c : Sc) (d : Sc) (n0 : ¬ a = 1) (n1 : ¬ a = 2) (n2 : ¬ a = 3) (n3 : ¬ a = 4) (n4 : ¬ a = 5) (n5 : ¬ a = 6) (n6 : ¬ a = 7) (n7 : ¬ a = 10) (n8 : ¬ a = 11) (n9 : ¬ a = 12) (n10 : ¬ a = 13) : Gives Try.prog 47 [(cI .i64).enc a, cB.enc b, cSc.enc c, cSc.enc d] ((cP3 cSc cSc cB).enc (scalar_learn_x a b c d)) := by
  unfold scalar_learn_x
  have O_ := (orc_cons K_scalar_less on_)
  refine gite (fun h0 => ?_) (fun h0 => ?_)
  · exact gv mix O_ 400 [f0, f0, f0, f0, f0, f0, f0, f0, f0, f0, f0, f0, f0, f0, f0, f0, f0, f0, f0, f0, f0, f0, f0, f0, f0, f0, f0, f0, f0, f0, t0] (ai (bn n3) (ai (bn n0) (ai (bn n4) (ai (bn n5) (ai (bn n5) (ai (bn n5) (ai (bn n6) (ai (bn n6) (ai (bn n6) (ai (bn n9) (ai (bn n9) (ai (bn n9) (ai (bn n1) (ai (bn n1) (ai (bn n1) (ai (bn n2) (ai (bn n2) (ai (bn n2) (ai (bn n5) (ai (bn n5) (ai (bn n5) (ai (bn n2) (ai (bn n2) (ai (bn n2) (ai (bn n8) (ai (bn n8) (ai (bn n8) (ai (bn n6) (ai (bn n6) (ai (bn n6) (ai h0 trivial))))))))))))))))))))))))))))))) (by kernel_rfl) rfl rfl
  · exact gv mix O_ 400 [f0, f0, f0, f0, f0, f0, f0, f0, f0, f0, f0, f0, f0, f0, f0, f0, f0, f0, f0, f0, f0, f0, f0, f0, f0, f0, f0, f0, f0, f0, f0] (ai (bn n3) (ai (bn n0) (ai (bn n4) (ai (bn n5) (ai (bn n5) (ai (bn n5) (ai (bn n6) (ai (bn n6) (ai (bn n6) (ai (bn n9) (ai (bn n9) (ai (bn n9) (ai (bn n1) (ai (bn n1) (ai (bn n1) (ai (bn n2) (ai (bn n2) (ai (bn n2) (ai (bn n5) (ai (bn n5) (ai (bn n5) (ai (bn n2) (ai (bn n2) (ai (bn n2) (ai (bn n8) (ai (bn n8) (ai (bn n8) (ai (bn n6) (ai (bn n6) (ai (bn n6) (ai (bf h0) trivial))))))))))))))))))))))))))))))) (by kernel_rfl) rfl rfl
theorem K_scalar_learn : Keeps Try.prog 47 (F4 (cI .i64) cB cSc cSc (cP3 cSc cSc cB) (fun _ _ _ _ => []) scalar_learn) := by
  refine keeps4 _ _ _ _ _ (enters_of Try.func47 (by kernel_rfl)) fun a b c d hp_ => ?_
  unfold scalar_learn
  by_cases n0 : a = 1
  · subst n0; rw [if_pos rfl]; exact G_scalar_learn_1 b c d
  rw [if_neg n0]
  by_cases n1 : a = 2
  · subst n1; rw [if_pos rfl]; exact G_scalar_learn_2 b c d
  rw [if_neg n1]
  by_cases n2 : a = 3
  · subst n2; rw [if_pos rfl]; exact G_scalar_learn_3 b c d
  rw [if_neg n2]
  by_cases n3 : a = 4
  · subst n3; rw [if_pos rfl]; exact G_scalar_learn_4 b c d
  rw [if_neg n3]
  by_cases n4 : a = 5
  · subst n4; rw [if_pos rfl]; exact G_scalar_learn_5 b c d
  rw [if_neg n4]
  by_cases n5 : a = 6
  · subst n5; rw [if_pos rfl]; exact G_scalar_learn_6 b c d
  rw [if_neg n5]
  by_cases n6 : a = 7
  · subst n6; rw [if_pos rfl]; exact G_scalar_learn_7 b c d
  rw [if_neg n6]
  by_cases n7 : a = 10
  · subst n7; rw [if_pos rfl]; exact G_scalar_learn_10 b c d
  rw [if_neg n7]
  by_cases n8 : a = 11
  · subst n8; rw [if_pos rfl]; exact G_scalar_learn_11 b c d
  rw [if_neg n8]
  by_cases n9 : a = 12
  · subst n9; rw [if_pos rfl]; exact G_scalar_learn_12 b c d
  rw [if_neg n9]
  by_cases n10 : a = 13
  · subst n10; rw [if_pos rfl]; exact G_scalar_learn_13 b c d
  rw [if_neg n10]
  exact G_scalar_learn_x a b c d n0 n1 n2 n3 n4 n5 n6 n7 n8 n9 n10
theorem K_lockgateref18_Holds : Keeps Try.prog 17 (F5 cAR cVl (cI .i64) (cI .u64) (cI .i64) cB (fun _ _ _ _ _ => []) lockgateref18_Holds) := by
  refine keeps5 _ _ _ _ _ _ (enters_of Try.func17 (by kernel_rfl)) fun a b c d e hp_ => ?_
  unfold lockgateref18_Holds
  have O_ := (orc_cons K_lockgateref05_In on_)
  refine gite (fun h0 => ?_) (fun h0 => ?_)
  · exact gv mix O_ 400 [t0] (ai (be h0) trivial) (by kernel_rfl) rfl rfl
  · refine gite (fun h1 => ?_) (fun h1 => ?_)
    · refine gite (fun h2 => ?_) (fun h2 => ?_)
      · exact gv mix O_ 400 [f0, t0, t0, t0, t0, t0, t0, t0] (ai (bn h0) (ai (be h1) (ai (be h2) (ai (be h2) (ai (be h2) (ai (be h2) (ai (be h2) (ai (be h2) trivial)))))))) (by kernel_rfl) rfl rfl
      · exact gv mix O_ 400 [f0, t0, f0, f0, f0, f0, f0, f0] (ai (bn h0) (ai (be h1) (ai (bn h2) (ai (bn h2) (ai (bn h2) (ai (bn h2) (ai (bn h2) (ai (bn h2) trivial)))))))) (by kernel_rfl) rfl rfl
    · refine gite (fun h2 => ?_) (fun h2 => ?_)
      · refine gite (fun h3 => ?_) (fun h3 => ?_)
        · refine gite (fun h4 => ?_) (fun h4 => ?_)
          · refine gite (fun h5 => ?_) (fun h5 => ?_)
            · refine gite (fun h6 => ?_) (fun h6 => ?_)
              · refine gite (fun h7 => ?_) (fun h7 => ?_)
                · exact gv mix O_ 400 [f0, f0, t0, f0, f0, f0, f0, f0, f0, f0, f0, f0, f0, f0, f0, f0, f0, f0, f0, t0, t0, t0, t0, t0, t0, t0, t0, t0] (ai (bn h0) (ai (bn h1) (ai (be h2) (ai (bne_eq_false_iff_eq.2 h3) (ai (bne_eq_false_iff_eq.2 h3) (ai (bne_eq_false_iff_eq.2 h3) (ai (bne_eq_false_iff_eq.2 h3) (ai (bne_eq_false_iff_eq.2 h3) (ai (bne_eq_false_iff_eq.2 h3) (ai (bne_eq_false_iff_eq.2 h3) (ai (bne_eq_false_iff_eq.2 h3) (ai (bne_eq_false_iff_eq.2 h3) (ai (bne_eq_false_iff_eq.2 h4) (ai (bne_eq_false_iff_eq.2 h4) (ai (bne_eq_false_iff_eq.2 h4) (ai (bne_eq_false_iff_eq.2 h4) (ai (bne_eq_false_iff_eq.2 h4) (ai (bne_eq_false_iff_eq.2 h4) (ai (cn h5) (ai (dt h6) (ai (dt h7) (ai (dt h7) (ai (dt h7) (ai (dt h7) (ai (dt h7) (ai (dt h7) (ai (dt h7) (ai (dt h7) trivial)))))))))))))))))))))))))))) (by kernel_rfl) rfl rfl
                · exact gv mix O_ 400 [f0, f0, t0, f0, f0, f0, f0, f0, f0, f0, f0, f0, f0, f0, f0, f0, f0, f0, f0, t0, f0, f0, f0, f0, f0, f0, f0, f0] (ai (bn h0) (ai (bn h1) (ai (be h2) (ai (bne_eq_false_iff_eq.2 h3) (ai (bne_eq_false_iff_eq.2 h3) (ai (bne_eq_false_iff_eq.2 h3) (ai (bne_eq_false_iff_eq.2 h3) (ai (bne_eq_false_iff_eq.2 h3) (ai (bne_eq_false_iff_eq.2 h3) (ai (bne_eq_false_iff_eq.2 h3) (ai (bne_eq_false_iff_eq.2 h3) (ai (bne_eq_false_iff_eq.2 h3) (ai (bne_eq_false_iff_eq.2 h4) (ai (bne_eq_false_iff_eq.2 h4) (ai (bne_eq_false_iff_eq.2 h4) (ai (bne_eq_false_iff_eq.2 h4) (ai (bne_eq_false_iff_eq.2 h4) (ai (bne_eq_false_iff_eq.2 h4) (ai (cn h5) (ai (dt h6) (ai (df h7) (ai (df h7) (ai (df h7) (ai (df h7) (ai (df h7) (ai (df h7) (ai (df h7) (ai (df h7) trivial)))))))))))))))))))))))))))) (by kernel_rfl) rfl rfl
              · exact gv mix O_ 400 [f0, f0, t0, f0, f0, f0, f0, f0, f0, f0, f0, f0, f0, f0, f0, f0, f0, f0, f0, f0] (ai (bn h0) (ai (bn h1) (ai (be h2) (ai (bne_eq_false_iff_eq.2 h3) (ai (bne_eq_false_iff_eq.2 h3) (ai (bne_eq_false_iff_eq.2 h3) (ai (bne_eq_false_iff_eq.2 h3) (ai (bne_eq_false_iff_eq.2 h3) (ai (bne_eq_false_iff_eq.2 h3) (ai (bne_eq_false_iff_eq.2 h3) (ai (bne_eq_false_iff_eq.2 h3) (ai (bne_eq_false_iff_eq.2 h3) (ai (bne_eq_false_iff_eq.2 h4) (ai (bne_eq_false_iff_eq.2 h4) (ai (bne_eq_false_iff_eq.2 h4) (ai (bne_eq_false_iff_eq.2 h4) (ai (bne_eq_false_iff_eq.2 h4) (ai (bne_eq_false_iff_eq.2 h4) (ai (cn h5) (ai (df h6) trivial)))))))))))))))))))) (by kernel_rfl) rfl rfl
            · exact gv mix O_ 400 [f0, f0, t0, f0, f0, f0, f0, f0, f0, f0, f0, f0, f0, f0, f0, f0, f0, f0, t0] (ai (bn h0) (ai (bn h1) (ai (be h2) (ai (bne_eq_false_iff_eq.2 h3) (ai (bne_eq_false_iff_eq.2 h3) (ai (bne_eq_false_iff_eq.2 h3) (ai (bne_eq_false_iff_eq.2 h3) (ai (bne_eq_false_iff_eq.2 h3) (ai (bne_eq_false_iff_eq.2 h3) (ai (bne_eq_false_iff_eq.2 h3) (ai (bne_eq_false_iff_eq.2 h3) (ai (bne_eq_false_iff_eq.2 h3) (ai (bne_eq_false_iff_eq.2 h4) (ai (bne_eq_false_iff_eq.2 h4) (ai (bne_eq_false_iff_eq.2 h4) (ai (bne_eq_false_iff_eq.2 h4) (ai (bne_eq_false_iff_eq.2 h4) (ai (bne_eq_false_iff_eq.2 h4) (ai (cn (bf h5)) trivial))))))))))))))))))) (by kernel_rfl) rfl rfl
          · exact gv mix O_ 400 [f0, f0, t0, f0, f0, f0, f0, f0, f0, f0, f0, f0, t0, t0, t0, t0, t0, t0] (ai (bn h0) (ai (bn h1) (ai (be h2) (ai (bne_eq_false_iff_eq.2 h3) (ai (bne_eq_false_iff_eq.2 h3) (ai (bne_eq_false_iff_eq.2 h3) (ai (bne_eq_false_iff_eq.2 h3) (ai (bne_eq_false_iff_eq.2 h3) (ai (bne_eq_false_iff_eq.2 h3) (ai (bne_eq_false_iff_eq.2 h3) (ai (bne_eq_false_iff_eq.2 h3) (ai (bne_eq_false_iff_eq.2 h3) (ai (bne_iff_ne.2 h4) (ai (bne_iff_ne.2 h4) (ai (bne_iff_ne.2 h4) (ai (bne_iff_ne.2 h4) (ai (bne_iff_ne.2 h4) (ai (bne_iff_ne.2 h4) trivial)))))))))))))))))) (by kernel_rfl) rfl rfl
        · exact gv mix O_ 400 [f0, f0, t0, t0, t0, t0, t0, t0, t0, t0, t0, t0] (ai (bn h0) (ai (bn h1) (ai (be h2) (ai (bne_iff_ne.2 h3) (ai (bne_iff_ne.2 h3) (ai (bne_iff_ne.2 h3) (ai (bne_iff_ne.2 h3) (ai (bne_iff_ne.2 h3) (ai (bne_iff_ne.2 h3) (ai (bne_iff_ne.2 h3) (ai (bne_iff_ne.2 h3) (ai (bne_iff_ne.2 h3) trivial)))))))))))) (by kernel_rfl) rfl rfl
      · refine gite (fun h3 => ?_) (fun h3 => ?_)
        · exact gv mix O_ 400 [f0, f0, f0, t0] (ai (bn h0) (ai (bn h1) (ai (bn h2) (ai (be h3) trivial)))) (by kernel_rfl) rfl rfl
        · refine gite (fun h4 => ?_) (fun h4 => ?_)
          · refine gite (fun h5 => ?_) (fun h5 => ?_)
            · exact gv mix O_ 400 [f0, f0, f0, f0, t0, t0, t0, t0, t0, t0, t0, t0] (ai (bn h0) (ai (bn h1) (ai (bn h2) (ai (bn h3) (ai (be h4) (ai (be h5) (ai (be h5) (ai (be h5) (ai (be h5) (ai (be h5) (ai (be h5) (ai (be h5) trivial)))))))))))) (by kernel_rfl) rfl rfl
            · exact gv mix O_ 400 [f0, f0, f0, f0, t0, f0, f0, f0, f0, f0, f0, f0] (ai (bn h0) (ai (bn h1) (ai (bn h2) (ai (bn h3) (ai (be h4) (ai (bn h5) (ai (bn h5) (ai (bn h5) (ai (bn h5) (ai (bn h5) (ai (bn h5) (ai (bn h5) trivial)))))))))))) (by kernel_rfl) rfl rfl
          · refine gite (fun h5 => ?_) (fun h5 => ?_)
            · refine gite (fun h6 => ?_) (fun h6 => ?_)
              · exact gv mix O_ 400 [f0, f0, f0, f0, f0, t0, t0, t0, t0, t0, t0, t0, t0] (ai (bn h0) (ai (bn h1) (ai (bn h2) (ai (bn h3) (ai (bn h4) (ai (be h5) (ai (be h6) (ai (be h6) (ai (be h6) (ai (be h6) (ai (be h6) (ai (be h6) (ai (be h6) trivial))))))))))))) (by kernel_rfl) rfl rfl
              · exact gv mix O_ 400 [f0, f0, f0, f0, f0, t0, f0, f0, f0, f0, f0, f0, f0] (ai (bn h0) (ai (bn h1) (ai (bn h2) (ai (bn h3) (ai (bn h4) (ai (be h5) (ai (bn h6) (ai (bn h6) (ai (bn h6) (ai (bn h6) (ai (bn h6) (ai (bn h6) (ai (bn h6) trivial))))))))))))) (by kernel_rfl) rfl rfl
            · refine gite (fun h6 => ?_) (fun h6 => ?_)
              · refine gite (fun h7 => ?_) (fun h7 => ?_)
                · refine gite (fun h8 => ?_) (fun h8 => ?_)
                  · exact gv mix O_ 400 [f0, f0, f0, f0, f0, f0, t0, t0, t0, t0, t0, t0, t0, t0, t0, t0, t0, t0, t0, t0, t0, t0] (ai (bn h0) (ai (bn h1) (ai (bn h2) (ai (bn h3) (ai (bn h4) (ai (bn h5) (ai (be h6) (ai (be h7) (ai (be h7) (ai (be h7) (ai (be h7) (ai (be h7) (ai (be h8) (ai (be h8) (ai (be h8) (ai (be h8) (ai (be h8) (ai (be h8) (ai (be h8) (ai (be h8) (ai (be h8) (ai (be h8) trivial)))))))))))))))))))))) (by kernel_rfl) rfl rfl
                  · exact gv mix O_ 400 [f0, f0, f0, f0, f0, f0, t0, t0, t0, t0, t0, t0, f0, f0, f0, f0, f0, f0, f0, f0, f0, f0] (ai (bn h0) (ai (bn h1) (ai (bn h2) (ai (bn h3) (ai (bn h4) (ai (bn h5) (ai (be h6) (ai (be h7) (ai (be h7) (ai (be h7) (ai (be h7) (ai (be h7) (ai (bn h8) (ai (bn h8) (ai (bn h8) (ai (bn h8) (ai (bn h8) (ai (bn h8) (ai (bn h8) (ai (bn h8) (ai (bn h8) (ai (bn h8) trivial)))))))))))))))))))))) (by kernel_rfl) rfl rfl
                · exact gv mix O_ 400 [f0, f0, f0, f0, f0, f0, t0, f0, f0, f0, f0, f0] (ai (bn h0) (ai (bn h1) (ai (bn h2) (ai (bn h3) (ai (bn h4) (ai (bn h5) (ai (be h6) (ai (bn h7) (ai (bn h7) (ai (bn h7) (ai (bn h7) (ai (bn h7) trivial)))))))))))) (by kernel_rfl) rfl rfl
              · refine gite (fun h7 => ?_) (fun h7 => ?_)
                · refine gite (fun h8 => ?_) (fun h8 => ?_)
                  · refine gite (fun h9 => ?_) (fun h9 => ?_)
                    · exact gv mix O_ 400 [f0, f0, f0, f0, f0, f0, f0, t0, f0, t0, t0, t0, t0] (ai (bn h0) (ai (bn h1) (ai (bn h2) (ai (bn h3) (ai (bn h4) (ai (bn h5) (ai (bn h6) (ai (be h7) (ai (bne_eq_false_iff_eq.2 h8) (ai (be h9) (ai (be h9) (ai (be h9) (ai (be h9) trivial))))))))))))) (by kernel_rfl) rfl rfl
                    · exact gv mix O_ 400 [f0, f0, f0, f0, f0, f0, f0, t0, f0, f0, f0, f0, f0] (ai (bn h0) (ai (bn h1) (ai (bn h2) (ai (bn h3) (ai (bn h4) (ai (bn h5) (ai (bn h6) (ai (be h7) (ai (bne_eq_false_iff_eq.2 h8) (ai (bn h9) (ai (bn h9) (ai (bn h9) (ai (bn h9) trivial))))))))))))) (by kernel_rfl) rfl rfl
                  · refine gite (fun h9 => ?_) (fun h9 => ?_)
                    · refine gite (fun h10 => ?_) (fun h10 => ?_)
                      · exact gv mix O_ 400 [f0, f0, f0, f0, f0, f0, f0, t0, t0, t0, t0, t0, t0, t0, t0, t0, t0, t0] (ai (bn h0) (ai (bn h1) (ai (bn h2) (ai (bn h3) (ai (bn h4) (ai (bn h5) (ai (bn h6) (ai (be h7) (ai (bne_iff_ne.2 h8) (ai (be h9) (ai (be h9) (ai (be h9) (ai (be h9) (ai (be h9) (ai (be h10) (ai (be h10) (ai (be h10) (ai (be h10) trivial)))))))))))))))))) (by kernel_rfl) rfl rfl
                      · exact gv mix O_ 400 [f0, f0, f0, f0, f0, f0, f0, t0, t0, t0, t0, t0, t0, t0, f0, f0, f0, f0] (ai (bn h0) (ai (bn h1) (ai (bn h2) (ai (bn h3) (ai (bn h4) (ai (bn h5) (ai (bn h6) (ai (be h7) (ai (bne_iff_ne.2 h8) (ai (be h9) (ai (be h9) (ai (be h9) (ai (be h9) (ai (be h9) (ai (bn h10) (ai (bn h10) (ai (bn h10) (ai (bn h10) trivial)))))))))))))))))) (by kernel_rfl) rfl rfl
                    · exact gv mix O_ 400 [f0, f0, f0, f0, f0, f0, f0, t0, t0, f0, f0, f0, f0, f0] (ai (bn h0) (ai (bn h1) (ai (bn h2) (ai (bn h3) (ai (bn h4) (ai (bn h5) (ai (bn h6) (ai (be h7) (ai (bne_iff_ne.2 h8) (ai (bn h9) (ai (bn h9) (ai (bn h9) (ai (bn h9) (ai (bn h9) trivial)))))))))))))) (by kernel_rfl) rfl rfl
                · refine gite (fun h8 => ?_) (fun h8 => ?_)
                  · refine gite (fun h9 => ?_) (fun h9 => ?_)
                    · exact gv mix O_ 400 [f0, f0, f0, f0, f0, f0, f0, f0, t0, t0, t0, t0, t0, t0, t0] (ai (bn h0) (ai (bn h1) (ai (bn h2) (ai (bn h3) (ai (bn h4) (ai (bn h5) (ai (bn h6) (ai (bn h7) (ai (be h8) (ai (be h9) (ai (be h9) (ai (be h9) (ai (be h9) (ai (be h9) (ai (be h9) trivial))))))))))))))) (by kernel_rfl) rfl rfl
                    · exact gv mix O_ 400 [f0, f0, f0, f0, f0, f0, f0, f0, t0, f0, f0, f0, f0, f0, f0] (ai (bn h0) (ai (bn h1) (ai (bn h2) (ai (bn h3) (ai (bn h4) (ai (bn h5) (ai (bn h6) (ai (bn h7) (ai (be h8) (ai (bn h9) (ai (bn h9) (ai (bn h9) (ai (bn h9) (ai (bn h9) (ai (bn h9) trivial))))))))))))))) (by kernel_rfl) rfl rfl
                  · exact gv mix O_ 400 [f0, f0, f0, f0, f0, f0, f0, f0, f0] (ai (bn h0) (ai (bn h1) (ai (bn h2) (ai (bn h3) (ai (bn h4) (ai (bn h5) (ai (bn h6) (ai (bn h7) (ai (bn h8) trivial))))))))) (by kernel_rfl) rfl rfl
theorem K_kinds_Holds : Keeps Try.prog 16 (F5 cAR cVl (cI .i64) (cI .u64) (cI .i64) cB (fun _ _ _ _ _ => []) kinds_Holds) := by
  refine keeps5 _ _ _ _ _ _ (enters_of Try.func16 (by kernel_rfl)) fun a b c d e hp_ => ?_
  unfold kinds_Holds
  have O_ := (orc_cons K_scalar_In on_)
  refine gite (fun h0 => ?_) (fun h0 => ?_)
  · refine gite (fun h1 => ?_) (fun h1 => ?_)
    · exact gv mix O_ 400 [t0, t0, t0, t0, t0, t0] (ai (be h0) (ai (be h0) (ai (be h0) (ai (be h0) (ai (be h0) (ai (be h1) trivial)))))) (by kernel_rfl) rfl rfl
    · refine gite (fun h2 => ?_) (fun h2 => ?_)
      · refine gite (fun h3 => ?_) (fun h3 => ?_)
        · exact gv mix O_ 400 [t0, t0, t0, t0, t0, f0, t0, t0, t0, t0, t0, t0, t0] (ai (be h0) (ai (be h0) (ai (be h0) (ai (be h0) (ai (be h0) (ai (bn h1) (ai (be h2) (ai (be h3) (ai (be h3) (ai (be h3) (ai (be h3) (ai (be h3) (ai (be h3) trivial))))))))))))) (by kernel_rfl) rfl rfl
        · exact gv mix O_ 400 [t0, t0, t0, t0, t0, f0, t0, f0, f0, f0, f0, f0, f0] (ai (be h0) (ai (be h0) (ai (be h0) (ai (be h0) (ai (be h0) (ai (bn h1) (ai (be h2) (ai (bn h3) (ai (bn h3) (ai (bn h3) (ai (bn h3) (ai (bn h3) (ai (bn h3) trivial))))))))))))) (by kernel_rfl) rfl rfl
      · refine gite (fun h3 => ?_) (fun h3 => ?_)
        · refine gite (fun h4 => ?_) (fun h4 => ?_)
          · refine gite (fun h5 => ?_) (fun h5 => ?_)
            · refine gite (fun h6 => ?_) (fun h6 => ?_)
              · refine gite (fun h7 => ?_) (fun h7 => ?_)
                · exact gv mix O_ 400 [t0, t0, t0, t0, t0, f0, f0, t0, t0, t0, t0, t0, t0, t0, t0, t0, t0, t0, t0, t0, t0, t0, t0, t0, t0, t0] (ai (be h0) (ai (be h0) (ai (be h0) (ai (be h0) (ai (be h0) (ai (bn h1) (ai (bn h2) (ai (be h3) (ai (dt h4) (ai (dt h4) (ai (dt h4) (ai (dt h4) (ai (dt h4) (ai (dt h4) (ai (dt h4) (ai (be h5) (ai (be h5) (ai (be h5) (ai (be h5) (ai (be h6) (ai (be h6) (ai (be h6) (ai (be h6) (ai (be h6) (ai h7 (ai h7 trivial)))))))))))))))))))))))))) (by kernel_rfl) rfl rfl
                · exact gv mix O_ 400 [t0, t0, t0, t0, t0, f0, f0, t0, t0, t0, t0, t0, t0, t0, t0, t0, t0, t0, t0, t0, t0, t0, t0, t0, f0, f0] (ai (be h0) (ai (be h0) (ai (be h0) (ai (be h0) (ai (be h0) (ai (bn h1) (ai (bn h2) (ai (be h3) (ai (dt h4) (ai (dt h4) (ai (dt h4) (ai (dt h4) (ai (dt h4) (ai (dt h4) (ai (dt h4) (ai (be h5) (ai (be h5) (ai (be h5) (ai (be h5) (ai (be h6) (ai (be h6) (ai (be h6) (ai (be h6) (ai (be h6) (ai (bf h7) (ai (bf h7) trivial)))))))))))))))))))))))))) (by kernel_rfl) rfl rfl
              · exact gv mix O_ 400 [t0, t0, t0, t0, t0, f0, f0, t0, t0, t0, t0, t0, t0, t0, t0, t0, t0, t0, t0, f0, f0, f0, f0, f0] (ai (be h0) (ai (be h0) (ai (be h0) (ai (be h0) (ai (be h0) (ai (bn h1) (ai (bn h2) (ai (be h3) (ai (dt h4) (ai (dt h4) (ai (dt h4) (ai (dt h4) (ai (dt h4) (ai (dt h4) (ai (dt h4) (ai (be h5) (ai (be h5) (ai (be h5) (ai (be h5) (ai (bn h6) (ai (bn h6) (ai (bn h6) (ai (bn h6) (ai (bn h6) trivial)))))))))))))))))))))))) (by kernel_rfl) rfl rfl
            · exact gv mix O_ 400 [t0, t0, t0, t0, t0, f0, f0, t0, t0, t0, t0, t0, t0, t0, t0, f0, f0, f0, f0] (ai (be h0) (ai (be h0) (ai (be h0) (ai (be h0) (ai (be h0) (ai (bn h1) (ai (bn h2) (ai (be h3) (ai (dt h4) (ai (dt h4) (ai (dt h4) (ai (dt h4) (ai (dt h4) (ai (dt h4) (ai (dt h4) (ai (bn h5) (ai (bn h5) (ai (bn h5) (ai (bn h5) trivial))))))))))))))))))) (by kernel_rfl) rfl rfl
          · refine gite (fun h5 => ?_) (fun h5 => ?_)
            · refine gite (fun h6 => ?_) (fun h6 => ?_)
              · refine gite (fun h7 => ?_) (fun h7 => ?_)
                · refine gite (fun h8 => ?_) (fun h8 => ?_)
                  · exact gv mix O_ 400 [t0, t0, t0, t0, t0, f0, f0, t0, f0, f0, f0, f0, f0, t0, t0, t0, t0, t0, t0, t0, f0, t0, f0, t0, t0, t0, t0, t0, t0, t0, t0, t0, t0, t0] (ai (be h0) (ai (be h0) (ai (be h0) (ai (be h0) (ai (be h0) (ai (bn h1) (ai (bn h2) (ai (be h3) (ai (df h4) (ai (df h4) (ai (df h4) (ai (df h4) (ai (df h4) (ai (dt h5) (ai (dt h5) (ai (dt h5) (ai (dt h5) (ai (dt h5) (ai (dt h5) (ai (dt h5) (ai (df h4) (ai (dt h5) (ai (df h4) (ai (be h6) (ai (be h6) (ai (be h6) (ai (be h6) (ai (be h7) (ai (be h7) (ai (be h7) (ai (be h7) (ai (be h7) (ai h8 (ai h8 trivial)))))))))))))))))))))))))))))))))) (by kernel_rfl) rfl rfl
                  · exact gv mix O_ 400 [t0, t0, t0, t0, t0, f0, f0, t0, f0, f0, f0, f0, f0, t0, t0, t0, t0, t0, t0, t0, f0, t0, f0, t0, t0, t0, t0, t0, t0, t0, t0, t0, f0, f0] (ai (be h0) (ai (be h0) (ai (be h0) (ai (be h0) (ai (be h0) (ai (bn h1) (ai (bn h2) (ai (be h3) (ai (df h4) (ai (df h4) (ai (df h4) (ai (df h4) (ai (df h4) (ai (dt h5) (ai (dt h5) (ai (dt h5) (ai (dt h5) (ai (dt h5) (ai (dt h5) (ai (dt h5) (ai (df h4) (ai (dt h5) (ai (df h4) (ai (be h6) (ai (be h6) (ai (be h6) (ai (be h6) (ai (be h7) (ai (be h7) (ai (be h7) (ai (be h7) (ai (be h7) (ai (bf h8) (ai (bf h8) trivial)))))))))))))))))))))))))))))))))) (by kernel_rfl) rfl rfl
                · exact gv mix O_ 400 [t0, t0, t0, t0, t0, f0, f0, t0, f0, f0, f0, f0, f0, t0, t0, t0, t0, t0, t0, t0, f0, t0, f0, t0, t0, t0, t0, f0, f0, f0, f0, f0] (ai (be h0) (ai (be h0) (ai (be h0) (ai (be h0) (ai (be h0) (ai (bn h1) (ai (bn h2) (ai (be h3) (ai (df h4) (ai (df h4) (ai (df h4) (ai (df h4) (ai (df h4) (ai (dt h5) (ai (dt h5) (ai (dt h5) (ai (dt h5) (ai (dt h5) (ai (dt h5) (ai (dt h5) (ai (df h4) (ai (dt h5) (ai (df h4) (ai (be h6) (ai (be h6) (ai (be h6) (ai (be h6) (ai (bn h7) (ai (bn h7) (ai (bn h7) (ai (bn h7) (ai (bn h7) trivial)))))))))))))))))))))))))))))))) (by kernel_rfl) rfl rfl
              · exact gv mix O_ 400 [t0, t0, t0, t0, t0, f0, f0, t0, f0, f0, f0, f0, f0, t0, t0, t0, t0, t0, t0, t0, f0, t0, f0, f0, f0, f0, f0] (ai (be h0) (ai (be h0) (ai (be h0) (ai (be h0) (ai (be h0) (ai (bn h1) (ai (bn h2) (ai (be h3) (ai (df h4) (ai (df h4) (ai (df h4) (ai (df h4) (ai (df h4) (ai (dt h5) (ai (dt h5) (ai (dt h5) (ai (dt h5) (ai (dt h5) (ai (dt h5) (ai (dt h5) (ai (df h4) (ai (dt h5) (ai (df h4) (ai (bn h6) (ai (bn h6) (ai (bn h6) (ai (bn h6) trivial))))))))))))))))))))))))))) (by kernel_rfl) rfl rfl
            · refine gite (fun h6 => ?_) (fun h6 => ?_)
              · refine gite (fun h7 => ?_) (fun h7 => ?_)
                · refine gite (fun h8 => ?_) (fun h8 => ?_)
                  · exact gv mix O_ 400 [t0, t0, t0, t0, t0, f0, f0, t0, f0, f0, f0, f0, f0, f0, f0, f0, f0, f0, f0, f0, f0, f0, f0, t0, t0, t0, t0, t0, t0, t0, t0, t0, t0, t0] (ai (be h0) (ai (be h0) (ai (be h0) (ai (be h0) (ai (be h0) (ai (bn h1) (ai (bn h2) (ai (be h3) (ai (df h4) (ai (df h4) (ai (df h4) (ai (df h4) (ai (df h4) (ai (df h5) (ai (df h5) (ai (df h5) (ai (df h5) (ai (df h5) (ai (df h5) (ai (df h5) (ai (df h4) (ai (df h5) (ai (df h4) (ai (be h6) (ai (be h6) (ai (be h6) (ai (be h6) (ai (be h7) (ai (be h7) (ai (be h7) (ai (be h7) (ai (be h7) (ai h8 (ai h8 trivial)))))))))))))))))))))))))))))))))) (by kernel_rfl) rfl rfl
                  · exact gv mix O_ 400 [t0, t0, t0, t0, t0, f0, f0, t0, f0, f0, f0, f0, f0, f0, f0, f0, f0, f0, f0, f0, f0, f0, f0, t0, t0, t0, t0, t0, t0, t0, t0, t0, f0, f0] (ai (be h0) (ai (be h0) (ai (be h0) (ai (be h0) (ai (be h0) (ai (bn h1) (ai (bn h2) (ai (be h3) (ai (df h4) (ai (df h4) (ai (df h4) (ai (df h4) (ai (df h4) (ai (df h5) (ai (df h5) (ai (df h5) (ai (df h5) (ai (df h5) (ai (df h5) (ai (df h5) (ai (df h4) (ai (df h5) (ai (df h4) (ai (be h6) (ai (be h6) (ai (be h6) (ai (be h6) (ai (be h7) (ai (be h7) (ai (be h7) (ai (be h7) (ai (be h7) (ai (bf h8) (ai (bf h8) trivial)))))))))))))))))))))))))))))))))) (by kernel_rfl) rfl rfl
                · exact gv mix O_ 400 [t0, t0, t0, t0, t0, f0, f0, t0, f0, f0, f0, f0, f0, f0, f0, f0, f0, f0, f0, f0, f0, f0, f0, t0, t0, t0, t0, f0, f0, f0, f0, f0] (ai (be h0) (ai (be h0) (ai (be h0) (ai (be h0) (ai (be h0) (ai (bn h1) (ai (bn h2) (ai (be h3) (ai (df h4) (ai (df h4) (ai (df h4) (ai (df h4) (ai (df h4) (ai (df h5) (ai (df h5) (ai (df h5) (ai (df h5) (ai (df h5) (ai (df h5) (ai (df h5) (ai (df h4) (ai (df h5) (ai (df h4) (ai (be h6) (ai (be h6) (ai (be h6) (ai (be h6) (ai (bn h7) (ai (bn h7) (ai (bn h7) (ai (bn h7) (ai (bn h7) trivial)))))))))))))))))))))))))))))))) (by kernel_rfl) rfl rfl
              · exact gv mix O_ 400 [t0, t0, t0, t0, t0, f0, f0, t0, f0, f0, f0, f0, f0, f0, f0, f0, f0, f0, f0, f0, f0, f0, f0, f0, f0, f0, f0] (ai (be h0) (ai (be h0) (ai (be h0) (ai (be h0) (ai (be h0) (ai (bn h1) (ai (bn h2) (ai (be h3) (ai (df h4) (ai (df h4) (ai (df h4) (ai (df h4) (ai (df h4) (ai (df h5) (ai (df h5) (ai (df h5) (ai (df h5) (ai (df h5) (ai (df h5) (ai (df h5) (ai (df h4) (ai (df h5) (ai (df h4) (ai (bn h6) (ai (bn h6) (ai (bn h6) (ai (bn h6) trivial))))))))))))))))))))))))))) (by kernel_rfl) rfl rfl
        · refine gite (fun h4 => ?_) (fun h4 => ?_)
          · exact gv mix O_ 400 [t0, t0, t0, t0, t0, f0, f0, f0, t0] (ai (be h0) (ai (be h0) (ai (be h0) (ai (be h0) (ai (be h0) (ai (bn h1) (ai (bn h2) (ai (bn h3) (ai (be h4) trivial))))))))) (by kernel_rfl) rfl rfl
          · refine gite (fun h5 => ?_) (fun h5 => ?_)
            · refine gite (fun h6 => ?_) (fun h6 => ?_)
              · exact gv mix O_ 400 [t0, t0, t0, t0, t0, f0, f0, f0, f0, t0, t0, t0, t0] (ai (be h0) (ai (be h0) (ai (be h0) (ai (be h0) (ai (be h0) (ai (bn h1) (ai (bn h2) (ai (bn h3) (ai (bn h4) (ai (be h5) (ai (be h6) (ai (be h6) (ai (be h6) trivial))))))))))))) (by kernel_rfl) rfl rfl
              · exact gv mix O_ 400 [t0, t0, t0, t0, t0, f0, f0, f0, f0, t0, f0, f0, f0] (ai (be h0) (ai (be h0) (ai (be h0) (ai (be h0) (ai (be h0) (ai (bn h1) (ai (bn h2) (ai (bn h3) (ai (bn h4) (ai (be h5) (ai (bn h6) (ai (bn h6) (ai (bn h6) trivial))))))))))))) (by kernel_rfl) rfl rfl
            · refine gite (fun h6 => ?_) (fun h6 => ?_)
              · refine gite (fun h7 => ?_) (fun h7 => ?_)
                · exact gv mix O_ 400 [t0, t0, t0, t0, t0, f0, f0, f0, f0, f0, t0, t0, t0, t0] (ai (be h0) (ai (be h0) (ai (be h0) (ai (be h0) (ai (be h0) (ai (bn h1) (ai (bn h2) (ai (bn h3) (ai (bn h4) (ai (bn h5) (ai (be h6) (ai (be h7) (ai (be h7) (ai (be h7) trivial)))))))))))))) (by kernel_rfl) rfl rfl
                · exact gv mix O_ 400 [t0, t0, t0, t0, t0, f0, f0, f0, f0, f0, t0, f0, f0, f0] (ai (be h0) (ai (be h0) (ai (be h0) (ai (be h0) (ai (be h0) (ai (bn h1) (ai (bn h2) (ai (bn h3) (ai (bn h4) (ai (bn h5) (ai (be h6) (ai (bn h7) (ai (bn h7) (ai (bn h7) trivial)))))))))))))) (by kernel_rfl) rfl rfl
              · refine gite (fun h7 => ?_) (fun h7 => ?_)
                · refine gite (fun h8 => ?_) (fun h8 => ?_)
                  · exact gv mix O_ 400 [t0, t0, t0, t0, t0, f0, f0, f0, f0, f0, f0, t0, t0, t0, t0, t0, t0] (ai (be h0) (ai (be h0) (ai (be h0) (ai (be h0) (ai (be h0) (ai (bn h1) (ai (bn h2) (ai (bn h3) (ai (bn h4) (ai (bn h5) (ai (bn h6) (ai (be h7) (ai (be h8) (ai (be h8) (ai (be h8) (ai (be h8) (ai (be h8) trivial))))))))))))))))) (by kernel_rfl) rfl rfl
                  · exact gv mix O_ 400 [t0, t0, t0, t0, t0, f0, f0, f0, f0, f0, f0, t0, f0, f0, f0, f0, f0] (ai (be h0) (ai (be h0) (ai (be h0) (ai (be h0) (ai (be h0) (ai (bn h1) (ai (bn h2) (ai (bn h3) (ai (bn h4) (ai (bn h5) (ai (bn h6) (ai (be h7) (ai (bn h8) (ai (bn h8) (ai (bn h8) (ai (bn h8) (ai (bn h8) trivial))))))))))))))))) (by kernel_rfl) rfl rfl
                · refine gite (fun h8 => ?_) (fun h8 => ?_)
                  · refine gite (fun h9 => ?_) (fun h9 => ?_)
                    · refine gite (fun h10 => ?_) (fun h10 => ?_)
                      · exact gv mix O_ 400 [t0, t0, t0, t0, t0, f0, f0, f0, f0, f0, f0, f0, t0, t0, t0, t0, t0, t0] (ai (be h0) (ai (be h0) (ai (be h0) (ai (be h0) (ai (be h0) (ai (bn h1) (ai (bn h2) (ai (bn h3) (ai (bn h4) (ai (bn h5) (ai (bn h6) (ai (bn h7) (ai (be h8) (ai (be h9) (ai (be h10) (ai (be h10) (ai (be h10) (ai (be h10) trivial)))))))))))))))))) (by kernel_rfl) rfl rfl
                      · exact gv mix O_ 400 [t0, t0, t0, t0, t0, f0, f0, f0, f0, f0, f0, f0, t0, t0, f0, f0, f0, f0] (ai (be h0) (ai (be h0) (ai (be h0) (ai (be h0) (ai (be h0) (ai (bn h1) (ai (bn h2) (ai (bn h3) (ai (bn h4) (ai (bn h5) (ai (bn h6) (ai (bn h7) (ai (be h8) (ai (be h9) (ai (bn h10) (ai (bn h10) (ai (bn h10) (ai (bn h10) trivial)))))))))))))))))) (by kernel_rfl) rfl rfl
                    · refine gite (fun h10 => ?_) (fun h10 => ?_)
                      · exact gv mix O_ 400 [t0, t0, t0, t0, t0, f0, f0, f0, f0, f0, f0, f0, t0, f0, t0, t0, t0, t0] (ai (be h0) (ai (be h0) (ai (be h0) (ai (be h0) (ai (be h0) (ai (bn h1) (ai (bn h2) (ai (bn h3) (ai (bn h4) (ai (bn h5) (ai (bn h6) (ai (bn h7) (ai (be h8) (ai (bn h9) (ai (be h10) (ai (be h10) (ai (be h10) (ai (be h10) trivial)))))))))))))))))) (by kernel_rfl) rfl rfl
                      · exact gv mix O_ 400 [t0, t0, t0, t0, t0, f0, f0, f0, f0, f0, f0, f0, t0, f0, f0, f0, f0, f0] (ai (be h0) (ai (be h0) (ai (be h0) (ai (be h0) (ai (be h0) (ai (bn h1) (ai (bn h2) (ai (bn h3) (ai (bn h4) (ai (bn h5) (ai (bn h6) (ai (bn h7) (ai (be h8) (ai (bn h9) (ai (bn h10) (ai (bn h10) (ai (bn h10) (ai (bn h10) trivial)))))))))))))))))) (by kernel_rfl) rfl rfl
                  · refine gite (fun h9 => ?_) (fun h9 => ?_)
                    · refine gite (fun h10 => ?_) (fun h10 => ?_)
                      · exact gv mix O_ 400 [t0, t0, t0, t0, t0, f0, f0, f0, f0, f0, f0, f0, f0, t0, t0, t0, t0, t0, t0, t0] (ai (be h0) (ai (be h0) (ai (be h0) (ai (be h0) (ai (be h0) (ai (bn h1) (ai (bn h2) (ai (bn h3) (ai (bn h4) (ai (bn h5) (ai (bn h6) (ai (bn h7) (ai (bn h8) (ai (be h9) (ai (be h10) (ai (be h10) (ai (be h10) (ai (be h10) (ai (be h10) (ai (be h10) trivial)))))))))))))))))))) (by kernel_rfl) rfl rfl
                      · exact gv mix O_ 400 [t0, t0, t0, t0, t0, f0, f0, f0, f0, f0, f0, f0, f0, t0, f0, f0, f0, f0, f0, f0] (ai (be h0) (ai (be h0) (ai (be h0) (ai (be h0) (ai (be h0) (ai (bn h1) (ai (bn h2) (ai (bn h3) (ai (bn h4) (ai (bn h5) (ai (bn h6) (ai (bn h7) (ai (bn h8) (ai (be h9) (ai (bn h10) (ai (bn h10) (ai (bn h10) (ai (bn h10) (ai (bn h10) (ai (bn h10) trivial)))))))))))))))))))) (by kernel_rfl) rfl rfl
                    · exact gv mix O_ 400 [t0, t0, t0, t0, t0, f0, f0, f0, f0, f0, f0, f0, f0, f0] (ai (be h0) (ai (be h0) (ai (be h0) (ai (be h0) (ai (be h0) (ai (bn h1) (ai (bn h2) (ai (bn h3) (ai (bn h4) (ai (bn h5) (ai (bn h6) (ai (bn h7) (ai (bn h8) (ai (bn h9) trivial)))))))))))))) (by kernel_rfl) rfl rfl
  · refine gite (fun h1 => ?_) (fun h1 => ?_)
    · exact gv mix O_ 400 [f0, f0, f0, f0, f0, t0] (ai (bn h0) (ai (bn h0) (ai (bn h0) (ai (bn h0) (ai (bn h0) (ai (be h1) trivial)))))) (by kernel_rfl) rfl rfl
    · refine gite (fun h2 => ?_) (fun h2 => ?_)
      · refine gite (fun h3 => ?_) (fun h3 => ?_)
        · exact gv mix O_ 400 [f0, f0, f0, f0, f0, f0, t0, t0, t0, t0, t0, t0, t0] (ai (bn h0) (ai (bn h0) (ai (bn h0) (ai (bn h0) (ai (bn h0) (ai (bn h1) (ai (be h2) (ai (be h3) (ai (be h3) (ai (be h3) (ai (be h3) (ai (be h3) (ai (be h3) trivial))))))))))))) (by kernel_rfl) rfl rfl
        · exact gv mix O_ 400 [f0, f0, f0, f0, f0, f0, t0, f0, f0, f0, f0, f0, f0] (ai (bn h0) (ai (bn h0) (ai (bn h0) (ai (bn h0) (ai (bn h0) (ai (bn h1) (ai (be h2) (ai (bn h3) (ai (bn h3) (ai (bn h3) (ai (bn h3) (ai (bn h3) (ai (bn h3) trivial))))))))))))) (by kernel_rfl) rfl rfl
      · refine gite (fun h3 => ?_) (fun h3 => ?_)
        · refine gite (fun h4 => ?_) (fun h4 => ?_)
          · refine gite (fun h5 => ?_) (fun h5 => ?_)
            · refine gite (fun h6 => ?_) (fun h6 => ?_)
              · refine gite (fun h7 => ?_) (fun h7 => ?_)
                · exact gv mix O_ 400 [f0, f0, f0, f0, f0, f0, f0, t0, t0, t0, t0, t0, t0, t0, t0, t0, t0, t0, t0, t0, t0, t0, t0, t0, t0, t0] (ai (bn h0) (ai (bn h0) (ai (bn h0) (ai (bn h0) (ai (bn h0) (ai (bn h1) (ai (bn h2) (ai (be h3) (ai (dt h4) (ai (dt h4) (ai (dt h4) (ai (dt h4) (ai (dt h4) (ai (dt h4) (ai (dt h4) (ai (be h5) (ai (be h5) (ai (be h5) (ai (be h5) (ai (be h6) (ai (be h6) (ai (be h6) (ai (be h6) (ai (be h6) (ai h7 (ai h7 trivial)))))))))))))))))))))))))) (by kernel_rfl) rfl rfl
                · exact gv mix O_ 400 [f0, f0, f0, f0, f0, f0, f0, t0, t0, t0, t0, t0, t0, t0, t0, t0, t0, t0, t0, t0, t0, t0, t0, t0, f0, f0] (ai (bn h0) (ai (bn h0) (ai (bn h0) (ai (bn h0) (ai (bn h0) (ai (bn h1) (ai (bn h2) (ai (be h3) (ai (dt h4) (ai (dt h4) (ai (dt h4) (ai (dt h4) (ai (dt h4) (ai (dt h4) (ai (dt h4) (ai (be h5) (ai (be h5) (ai (be h5) (ai (be h5) (ai (be h6) (ai (be h6) (ai (be h6) (ai (be h6) (ai (be h6) (ai (bf h7) (ai (bf h7) trivial)))))))))))))))))))))))))) (by kernel_rfl) rfl rfl
              · exact gv mix O_ 400 [f0, f0, f0, f0, f0, f0, f0, t0, t0, t0, t0, t0, t0, t0, t0, t0, t0, t0, t0, f0, f0, f0, f0, f0] (ai (bn h0) (ai (bn h0) (ai (bn h0) (ai (bn h0) (ai (bn h0) (ai (bn h1) (ai (bn h2) (ai (be h3) (ai (dt h4) (ai (dt h4) (ai (dt h4) (ai (dt h4) (ai (dt h4) (ai (dt h4) (ai (dt h4) (ai (be h5) (ai (be h5) (ai (be h5) (ai (be h5) (ai (bn h6) (ai (bn h6) (ai (bn h6) (ai (bn h6) (ai (bn h6) trivial)))))))))))))))))))))))) (by kernel_rfl) rfl rfl
            · exact gv mix O_ 400 [f0, f0, f0, f0, f0, f0, f0, t0, t0, t0, t0, t0, t0, t0, t0, f0, f0, f0, f0] (ai (bn h0) (ai (bn h0) (ai (bn h0) (ai (bn h0) (ai (bn h0) (ai (bn h1) (ai (bn h2) (ai (be h3) (ai (dt h4) (ai (dt h4) (ai (dt h4) (ai (dt h4) (ai (dt h4) (ai (dt h4) (ai (dt h4) (ai (bn h5) (ai (bn h5) (ai (bn h5) (ai (bn h5) trivial))))))))))))))))))) (by kernel_rfl) rfl rfl
          · refine gite (fun h5 => ?_) (fun h5 => ?_)
            · refine gite (fun h6 => ?_) (fun h6 => ?_)
              · refine gite (fun h7 => ?_) (fun h7 => ?_)
                · refine gite (fun h8 => ?_) (fun h8 => ?_)
                  · exact gv mix O_ 400 [f0, f0, f0, f0, f0, f0, f0, t0, f0, f0, f0, f0, f0, t0, t0, t0, t0, t0, t0, t0, f0, t0, f0, t0, t0, t0, t0, t0, t0, t0, t0, t0, t0, t0] (ai (bn h0) (ai (bn h0) (ai (bn h0) (ai (bn h0) (ai (bn h0) (ai (bn h1) (ai (bn h2) (ai (be h3) (ai (df h4) (ai (df h4) (ai (df h4) (ai (df h4) (ai (df h4) (ai (dt h5) (ai (dt h5) (ai (dt h5) (ai (dt h5) (ai (dt h5) (ai (dt h5) (ai (dt h5) (ai (df h4) (ai (dt h5) (ai (df h4) (ai (be h6) (ai (be h6) (ai (be h6) (ai (be h6) (ai (be h7) (ai (be h7) (ai (be h7) (ai (be h7) (ai (be h7) (ai h8 (ai h8 trivial)))))))))))))))))))))))))))))))))) (by kernel_rfl) rfl rfl
                  · exact gv mix O_ 400 [f0, f0, f0, f0, f0, f0, f0, t0, f0, f0, f0, f0, f0, t0, t0, t0, t0, t0, t0, t0, f0, t0, f0, t0, t0, t0, t0, t0, t0, t0, t0, t0, f0, f0] (ai (bn h0) (ai (bn h0) (ai (bn h0) (ai (bn h0) (ai (bn h0) (ai (bn h1) (ai (bn h2) (ai (be h3) (ai (df h4) (ai (df h4) (ai (df h4) (ai (df h4) (ai (df h4) (ai (dt h5) (ai (dt h5) (ai (dt h5) (ai (dt h5) (ai (dt h5) (ai (dt h5) (ai (dt h5) (ai (df h4) (ai (dt h5) (ai (df h4) (ai (be h6) (ai (be h6) (ai (be h6) (ai (be h6) (ai (be h7) (ai (be h7) (ai (be h7) (ai (be h7) (ai (be h7) (ai (bf h8) (ai (bf h8) trivial)))))))))))))))))))))))))))))))))) (by kernel_rfl) rfl rfl
                · exact gv mix O_ 400 [f0, f0, f0, f0, f0, f0, f0, t0, f0, f0, f0, f0, f0, t0, t0, t0, t0, t0, t0, t0, f0, t0, f0, t0, t0, t0, t0, f0, f0, f0, f0, f0] (ai (bn h0) (ai (bn h0) (ai (bn h0) (ai (bn h0) (ai (bn h0) (ai (bn h1) (ai (bn h2) (ai (be h3) (ai (df h4) (ai (df h4) (ai (df h4) (ai (df h4) (ai (df h4) (ai (dt h5) (ai (dt h5) (ai (dt h5) (ai (dt h5) (ai (dt h5) (ai (dt h5) (ai (dt h5) (ai (df h4) (ai (dt h5) (ai (df h4) (ai (be h6) (ai (be h6) (ai (be h6) (ai (be h6) (ai (bn h7) (ai (bn h7) (ai (bn h7) (ai (bn h7) (ai (bn h7) trivial)))))))))))))))))))))))))))))))) (by kernel_rfl) rfl rfl
              · exact gv mix O_ 400 [f0, f0, f0, f0, f0, f0, f0, t0, f0, f0, f0, f0, f0, t0, t0, t0, t0, t0, t0, t0, f0, t0, f0, f0, f0, f0, f0] (ai (bn h0) (ai (bn h0) (ai (bn h0) (ai (bn h0) (ai (bn h0) (ai (bn h1) (ai (bn h2) (ai (be h3) (ai (df h4) (ai (df h4) (ai (df h4) (ai (df h4) (ai (df h4) (ai (dt h5) (ai (dt h5) (ai (dt h5) (ai (dt h5) (ai (dt h5) (ai (dt h5) (ai (dt h5) (ai (df h4) (ai (dt h5) (ai (df h4) (ai (bn h6) (ai (bn h6) (ai (bn h6) (ai (bn h6) trivial))))))))))))))))))))))))))) (by kernel_rfl) rfl rfl
            · refine gite (fun h6 => ?_) (fun h6 => ?_)
              · refine gite (fun h7 => ?_) (fun h7 => ?_)
                · refine gite (fun h8 => ?_) (fun h8 => ?_)
                  · exact gv mix O_ 400 [f0, f0, f0, f0, f0, f0, f0, t0, f0, f0, f0, f0, f0, f0, f0, f0, f0, f0, f0, f0, f0, f0, f0, t0, t0, t0, t0, t0, t0, t0, t0, t0, t0, t0] (ai (bn h0) (ai (bn h0) (ai (bn h0) (ai (bn h0) (ai (bn h0) (ai (bn h1) (ai (bn h2) (ai (be h3) (ai (df h4) (ai (df h4) (ai (df h4) (ai (df h4) (ai (df h4) (ai (df h5) (ai (df h5) (ai (df h5) (ai (df h5) (ai (df h5) (ai (df h5) (ai (df h5) (ai (df h4) (ai (df h5) (ai (df h4) (ai (be h6) (ai (be h6) (ai (be h6) (ai (be h6) (ai (be h7) (ai (be h7) (ai (be h7) (ai (be h7) (ai (be h7) (ai h8 (ai h8 trivial)))))))))))))))))))))))))))))))))) (by kernel_rfl) rfl rfl
                  · exact gv mix O_ 400 [f0, f0, f0, f0, f0, f0, f0, t0, f0, f0, f0, f0, f0, f0, f0, f0, f0, f0, f0, f0, f0, f0, f0, t0, t0, t0, t0, t0, t0, t0, t0, t0, f0, f0] (ai (bn h0) (ai (bn h0) (ai (bn h0) (ai (bn h0) (ai (bn h0) (ai (bn h1) (ai (bn h2) (ai (be h3) (ai (df h4) (ai (df h4) (ai (df h4) (ai (df h4) (ai (df h4) (ai (df h5) (ai (df h5) (ai (df h5) (ai (df h5) (ai (df h5) (ai (df h5) (ai (df h5) (ai (df h4) (ai (df h5) (ai (df h4) (ai (be h6) (ai (be h6) (ai (be h6) (ai (be h6) (ai (be h7) (ai (be h7) (ai (be h7) (ai (be h7) (ai (be h7) (ai (bf h8) (ai (bf h8) trivial)))))))))))))))))))))))))))))))))) (by kernel_rfl) rfl rfl
                · exact gv mix O_ 400 [f0, f0, f0, f0, f0, f0, f0, t0, f0, f0, f0, f0, f0, f0, f0, f0, f0, f0, f0, f0, f0, f0, f0, t0, t0, t0, t0, f0, f0, f0, f0, f0] (ai (bn h0) (ai (bn h0) (ai (bn h0) (ai (bn h0) (ai (bn h0) (ai (bn h1) (ai (bn h2) (ai (be h3) (ai (df h4) (ai (df h4) (ai (df h4) (ai (df h4) (ai (df h4) (ai (df h5) (ai (df h5) (ai (df h5) (ai (df h5) (ai (df h5) (ai (df h5) (ai (df h5) (ai (df h4) (ai (df h5) (ai (df h4) (ai (be h6) (ai (be h6) (ai (be h6) (ai (be h6) (ai (bn h7) (ai (bn h7) (ai (bn h7) (ai (bn h7) (ai (bn h7) trivial)))))))))))))))))))))))))))))))) (by kernel_rfl) rfl rfl
              · exact gv mix O_ 400 [f0, f0, f0, f0, f0, f0, f0, t0, f0, f0, f0, f0, f0, f0, f0, f0, f0, f0, f0, f0, f0, f0, f0, f0, f0, f0, f0] (ai (bn h0) (ai (bn h0) (ai (bn h0) (ai (bn h0) (ai (bn h0) (ai (bn h1) (ai (bn h2) (ai (be h3) (ai (df h4) (ai (df h4) (ai (df h4) (ai (df h4) (ai (df h4) (ai (df h5) (ai (df h5) (ai (df h5) (ai (df h5) (ai (df h5) (ai (df h5) (ai (df h5) (ai (df h4) (ai (df h5) (ai (df h4) (ai (bn h6) (ai (bn h6) (ai (bn h6) (ai (bn h6) trivial))))))))))))))))))))))))))) (by kernel_rfl) rfl rfl
        · refine gite (fun h4 => ?_) (fun h4 => ?_)
          · exact gv mix O_ 400 [f0, f0, f0, f0, f0, f0, f0, f0, t0] (ai (bn h0) (ai (bn h0) (ai (bn h0) (ai (bn h0) (ai (bn h0) (ai (bn h1) (ai (bn h2) (ai (bn h3) (ai (be h4) trivial))))))))) (by kernel_rfl) rfl rfl
          · refine gite (fun h5 => ?_) (fun h5 => ?_)
            · refine gite (fun h6 => ?_) (fun h6 => ?_)
              · exact gv mix O_ 400 [f0, f0, f0, f0, f0, f0, f0, f0, f0, t0, t0, t0, t0] (ai (bn h0) (ai (bn h0) (ai (bn h0) (ai (bn h0) (ai (bn h0) (ai (bn h1) (ai (bn h2) (ai (bn h3) (ai (bn h4) (ai (be h5) (ai (be h6) (ai (be h6) (ai (be h6) trivial))))))))))))) (by kernel_rfl) rfl rfl
              · exact gv mix O_ 400 [f0, f0, f0, f0, f0, f0, f0, f0, f0, t0, f0, f0, f0] (ai (bn h0) (ai (bn h0) (ai (bn h0) (ai (bn h0) (ai (bn h0) (ai (bn h1) (ai (bn h2) (ai (bn h3) (ai (bn h4) (ai (be h5) (ai (bn h6) (ai (bn h6) (ai (bn h6) trivial))))))))))))) (by kernel_rfl) rfl rfl
            · refine gite (fun h6 => ?_) (fun h6 => ?_)
              · refine gite (fun h7 => ?_) (fun h7 => ?_)
                · exact gv mix O_ 400 [f0, f0, f0, f0, f0, f0, f0, f0, f0, f0, t0, t0, t0, t0] (ai (bn h0) (ai (bn h0) (ai (bn h0) (ai (bn h0) (ai (bn h0) (ai (bn h1) (ai (bn h2) (ai (bn h3) (ai (bn h4) (ai (bn h5) (ai (be h6) (ai (be h7) (ai (be h7) (ai (be h7) trivial)))))))))))))) (by kernel_rfl) rfl rfl
                · exact gv mix O_ 400 [f0, f0, f0, f0, f0, f0, f0, f0, f0, f0, t0, f0, f0, f0] (ai (bn h0) (ai (bn h0) (ai (bn h0) (ai (bn h0) (ai (bn h0) (ai (bn h1) (ai (bn h2) (ai (bn h3) (ai (bn h4) (ai (bn h5) (ai (be h6) (ai (bn h7) (ai (bn h7) (ai (bn h7) trivial)))))))))))))) (by kernel_rfl) rfl rfl
              · refine gite (fun h7 => ?_) (fun h7 => ?_)
                · exact gv mix O_ 400 [f0, f0, f0, f0, f0, f0, f0, f0, f0, f0, f0, t0] (ai (bn h0) (ai (bn h0) (ai (bn h0) (ai (bn h0) (ai (bn h0) (ai (bn h1) (ai (bn h2) (ai (bn h3) (ai (bn h4) (ai (bn h5) (ai (bn h6) (ai (be h7) trivial)))))))))))) (by kernel_rfl) rfl rfl
                · refine gite (fun h8 => ?_) (fun h8 => ?_)
                  · refine gite (fun h9 => ?_) (fun h9 => ?_)
                    · refine gite (fun h10 => ?_) (fun h10 => ?_)
                      · exact gv mix O_ 400 [f0, f0, f0, f0, f0, f0, f0, f0, f0, f0, f0, f0, t0, t0, t0, t0, t0, t0] (ai (bn h0) (ai (bn h0) (ai (bn h0) (ai (bn h0) (ai (bn h0) (ai (bn h1) (ai (bn h2) (ai (bn h3) (ai (bn h4) (ai (bn h5) (ai (bn h6) (ai (bn h7) (ai (be h8) (ai (be h9) (ai (be h10) (ai (be h10) (ai (be h10) (ai (be h10) trivial)))))))))))))))))) (by kernel_rfl) rfl rfl
                      · exact gv mix O_ 400 [f0, f0, f0, f0, f0, f0, f0, f0, f0, f0, f0, f0, t0, t0, f0, f0, f0, f0] (ai (bn h0) (ai (bn h0) (ai (bn h0) (ai (bn h0) (ai (bn h0) (ai (bn h1) (ai (bn h2) (ai (bn h3) (ai (bn h4) (ai (bn h5) (ai (bn h6) (ai (bn h7) (ai (be h8) (ai (be h9) (ai (bn h10) (ai (bn h10) (ai (bn h10) (ai (bn h10) trivial)))))))))))))))))) (by kernel_rfl) rfl rfl
                    · exact gv mix O_ 400 [f0, f0, f0, f0, f0, f0, f0, f0, f0, f0, f0, f0, t0, f0] (ai (bn h0) (ai (bn h0) (ai (bn h0) (ai (bn h0) (ai (bn h0) (ai (bn h1) (ai (bn h2) (ai (bn h3) (ai (bn h4) (ai (bn h5) (ai (bn h6) (ai (bn h7) (ai (be h8) (ai (bn h9) trivial)))))))))))))) (by kernel_rfl) rfl rfl
                  · refine gite (fun h9 => ?_) (fun h9 => ?_)
                    · refine gite (fun h10 => ?_) (fun h10 => ?_)
                      · exact gv mix O_ 400 [f0, f0, f0, f0, f0, f0, f0, f0, f0, f0, f0, f0, f0, t0, t0, t0, t0, t0, t0, t0] (ai (bn h0) (ai (bn h0) (ai (bn h0) (ai (bn h0) (ai (bn h0) (ai (bn h1) (ai (bn h2) (ai (bn h3) (ai (bn h4) (ai (bn h5) (ai (bn h6) (ai (bn h7) (ai (bn h8) (ai (be h9) (ai (be h10) (ai (be h10) (ai (be h10) (ai (be h10) (ai (be h10) (ai (be h10) trivial)))))))))))))))))))) (by kernel_rfl) rfl rfl
                      · exact gv mix O_ 400 [f0, f0, f0, f0, f0, f0, f0, f0, f0, f0, f0, f0, f0, t0, f0, f0, f0, f0, f0, f0] (ai (bn h0) (ai (bn h0) (ai (bn h0) (ai (bn h0) (ai (bn h0) (ai (bn h1) (ai (bn h2) (ai (bn h3) (ai (bn h4) (ai (bn h5) (ai (bn h6) (ai (bn h7) (ai (bn h8) (ai (be h9) (ai (bn h10) (ai (bn h10) (ai (bn h10) (ai (bn h10) (ai (bn h10) (ai (bn h10) trivial)))))))))))))))))))) (by kernel_rfl) rfl rfl
                    · exact gv mix O_ 400 [f0, f0, f0, f0, f0, f0, f0, f0, f0, f0, f0, f0, f0, f0] (ai (bn h0) (ai (bn h0) (ai (bn h0) (ai (bn h0) (ai (bn h0) (ai (bn h1) (ai (bn h2) (ai (bn h3) (ai (bn h4) (ai (bn h5) (ai (bn h6) (ai (bn h7) (ai (bn h8) (ai (bn h9) trivial)))))))))))))) (by kernel_rfl) rfl rfl
theorem K_kinds_moved : Keeps Try.prog 54 (F4 cAR cSc cB (cI .i64) (cP cAR (cI .i64)) (fun a b _ _ => [(okSc a.num, true), (okSc b, true)]) kinds_moved) := by
  refine keeps4 _ _ _ _ _ (enters_of Try.func54 (by kernel_rfl)) fun a b c d hp_ => ?_
  have p0 := hp_.1
  have p1 := hp_.2.1
  unfold kinds_moved
  have O_ := (orc_cons K_kinds_place (orc_cons K_scalar_Is (orc_cons K_kinds_within (orc_cons K_scalar_Alu on_))))
  refine gite (fun h0 => ?_) (fun h0 => ?_)
  · exact gv mix O_ 400 [t0] (ai (be h0) trivial) (by kernel_rfl) rfl rfl
  · refine gite (fun h1 => ?_) (fun h1 => ?_)
    · refine gite (fun h2 => ?_) (fun h2 => ?_)
      · refine gite (fun h3 => ?_) (fun h3 => ?_)
        · refine gite (fun h4 => ?_) (fun h4 => ?_)
          · refine gite (fun h5 => ?_) (fun h5 => ?_)
            · exact gv mix O_ 400 [f0, f0, t0, f0, t0, f0] (ai (bn h0) (ai (cn h1) (ai h2 (ai (cn h3) (ai h4 (ai (cn h5) trivial)))))) (by kernel_rfl) rfl rfl
            · exact gv mix O_ 400 [f0, f0, t0, f0, t0, t0] (ai (bn h0) (ai (cn h1) (ai h2 (ai (cn h3) (ai h4 (ai (cn (bf h5)) trivial)))))) (by kernel_rfl) rfl rfl
          · refine gite (fun h5 => ?_) (fun h5 => ?_)
            · exact gv mix O_ 400 [f0, f0, t0, f0, f0, f0] (ai (bn h0) (ai (cn h1) (ai h2 (ai (cn h3) (ai (bf h4) (ai (cn h5) trivial)))))) (by kernel_rfl) rfl rfl
            · exact gv mix O_ 400 [f0, f0, t0, f0, f0, t0] (ai (bn h0) (ai (cn h1) (ai h2 (ai (cn h3) (ai (bf h4) (ai (cn (bf h5)) trivial)))))) (by kernel_rfl) rfl rfl
        · exact gv mix O_ 400 [f0, f0, t0, t0] (ai (bn h0) (ai (cn h1) (ai h2 (ai (cn (bf h3)) trivial)))) (by kernel_rfl) rfl rfl
      · refine gite (fun h3 => ?_) (fun h3 => ?_)
        · exact gv mix O_ 400 [f0, f0, f0, t0, t0, t0, t0, t0, t0] (ai (bn h0) (ai (cn h1) (ai (bf h2) (ai h3 (ai h3 (ai h3 (ai h3 (ai h3 (ai h3 trivial))))))))) (by kernel_rfl) rfl rfl
        · refine gite (fun h4 => ?_) (fun h4 => ?_)
          · refine gite (fun h5 => ?_) (fun h5 => ?_)
            · exact gv mix O_ 400 [f0, f0, f0, f0, f0, f0, f0, f0, f0, f0, f0, f0, f0, (1, true)] (ai (bn h0) (ai (cn h1) (ai (bf h2) (ai (bf h3) (ai (bf h3) (ai (bf h3) (ai (bf h3) (ai (bne_eq_false_iff_eq.2 h4) (ai (bne_eq_false_iff_eq.2 h4) (ai (bne_eq_false_iff_eq.2 h4) (ai (bf h3) (ai (bne_eq_false_iff_eq.2 h4) (ai (bf h3) (ai (dt h5) trivial)))))))))))))) (by kernel_rfl) rfl rfl
            · refine gite (fun h6 => ?_) (fun h6 => ?_)
              · exact gv mix O_ 400 [f0, f0, f0, f0, f0, f0, f0, f0, f0, f0, f0, f0, f0, (1, false), t0] (ai (bn h0) (ai (cn h1) (ai (bf h2) (ai (bf h3) (ai (bf h3) (ai (bf h3) (ai (bf h3) (ai (bne_eq_false_iff_eq.2 h4) (ai (bne_eq_false_iff_eq.2 h4) (ai (bne_eq_false_iff_eq.2 h4) (ai (bf h3) (ai (bne_eq_false_iff_eq.2 h4) (ai (bf h3) (ai (df h5) (ai ((by first | assumption | decide | exact okT_of (by assumption) | exact okT_of (ok_settle (by assumption)) | exact is_nn (by assumption) | exact is_nn (ok_settle (by assumption)) | exact ok_settle (by assumption) | (simp_all; done)) : okSc a.num = true) (ai ((by first | assumption | decide | exact okT_of (by assumption) | exact okT_of (ok_settle (by assumption)) | exact is_nn (by assumption) | exact is_nn (ok_settle (by assumption)) | exact ok_settle (by assumption) | (simp_all; done)) : okSc b = true) (ai (dt h6) trivial))))))))))))))))) (by kernel_rfl) rfl rfl
              · exact gv mix O_ 400 [f0, f0, f0, f0, f0, f0, f0, f0, f0, f0, f0, f0, f0, (1, false), f0, t0] (ai (bn h0) (ai (cn h1) (ai (bf h2) (ai (bf h3) (ai (bf h3) (ai (bf h3) (ai (bf h3) (ai (bne_eq_false_iff_eq.2 h4) (ai (bne_eq_false_iff_eq.2 h4) (ai (bne_eq_false_iff_eq.2 h4) (ai (bf h3) (ai (bne_eq_false_iff_eq.2 h4) (ai (bf h3) (ai (df h5) (ai ((by first | assumption | decide | exact okT_of (by assumption) | exact okT_of (ok_settle (by assumption)) | exact is_nn (by assumption) | exact is_nn (ok_settle (by assumption)) | exact ok_settle (by assumption) | (simp_all; done)) : okSc a.num = true) (ai ((by first | assumption | decide | exact okT_of (by assumption) | exact okT_of (ok_settle (by assumption)) | exact is_nn (by assumption) | exact is_nn (ok_settle (by assumption)) | exact ok_settle (by assumption) | (simp_all; done)) : okSc b = true) (ai (df h6) (ai (be h4) trivial)))))))))))))))))) (by kernel_rfl) rfl rfl
          · refine gite (fun h5 => ?_) (fun h5 => ?_)
            · refine gite (fun h6 => ?_) (fun h6 => ?_)
              · exact gv mix O_ 400 [f0, f0, f0, f0, f0, f0, f0, t0, t0, t0, f0, t0, f0, f0, t0] (ai (bn h0) (ai (cn h1) (ai (bf h2) (ai (bf h3) (ai (bf h3) (ai (bf h3) (ai (bf h3) (ai (bne_iff_ne.2 h4) (ai (bne_iff_ne.2 h4) (ai (bne_iff_ne.2 h4) (ai (bf h3) (ai (bne_iff_ne.2 h4) (ai (bf h3) (ai (bne_eq_false_iff_eq.2 h5) (ai (dt h6) trivial))))))))))))))) (by kernel_rfl) rfl rfl
              · refine gite (fun h7 => ?_) (fun h7 => ?_)
                · exact gv mix O_ 400 [f0, f0, f0, f0, f0, f0, f0, t0, t0, t0, f0, t0, f0, f0, f0, t0] (ai (bn h0) (ai (cn h1) (ai (bf h2) (ai (bf h3) (ai (bf h3) (ai (bf h3) (ai (bf h3) (ai (bne_iff_ne.2 h4) (ai (bne_iff_ne.2 h4) (ai (bne_iff_ne.2 h4) (ai (bf h3) (ai (bne_iff_ne.2 h4) (ai (bf h3) (ai (bne_eq_false_iff_eq.2 h5) (ai (df h6) (ai ((by first | assumption | decide | exact okT_of (by assumption) | exact okT_of (ok_settle (by assumption)) | exact is_nn (by assumption) | exact is_nn (ok_settle (by assumption)) | exact ok_settle (by assumption) | (simp_all; done)) : okSc a.num = true) (ai ((by first | assumption | decide | exact okT_of (by assumption) | exact okT_of (ok_settle (by assumption)) | exact is_nn (by assumption) | exact is_nn (ok_settle (by assumption)) | exact ok_settle (by assumption) | (simp_all; done)) : okSc b = true) (ai (dt h7) trivial)))))))))))))))))) (by kernel_rfl) rfl rfl
                · exact gv mix O_ 400 [f0, f0, f0, f0, f0, f0, f0, t0, t0, t0, f0, t0, f0, f0, f0, f0, f0] (ai (bn h0) (ai (cn h1) (ai (bf h2) (ai (bf h3) (ai (bf h3) (ai (bf h3) (ai (bf h3) (ai (bne_iff_ne.2 h4) (ai (bne_iff_ne.2 h4) (ai (bne_iff_ne.2 h4) (ai (bf h3) (ai (bne_iff_ne.2 h4) (ai (bf h3) (ai (bne_eq_false_iff_eq.2 h5) (ai (df h6) (ai ((by first | assumption | decide | exact okT_of (by assumption) | exact okT_of (ok_settle (by assumption)) | exact is_nn (by assumption) | exact is_nn (ok_settle (by assumption)) | exact ok_settle (by assumption) | (simp_all; done)) : okSc a.num = true) (ai ((by first | assumption | decide | exact okT_of (by assumption) | exact okT_of (ok_settle (by assumption)) | exact is_nn (by assumption) | exact is_nn (ok_settle (by assumption)) | exact ok_settle (by assumption) | (simp_all; done)) : okSc b = true) (ai (df h7) (ai (bn h4) trivial))))))))))))))))))) (by kernel_rfl) rfl rfl
            · exact gv mix O_ 400 [f0, f0, f0, f0, f0, f0, f0, t0, t0, t0, f0, t0, f0, t0] (ai (bn h0) (ai (cn h1) (ai (bf h2) (ai (bf h3) (ai (bf h3) (ai (bf h3) (ai (bf h3) (ai (bne_iff_ne.2 h4) (ai (bne_iff_ne.2 h4) (ai (bne_iff_ne.2 h4) (ai (bf h3) (ai (bne_iff_ne.2 h4) (ai (bf h3) (ai (bne_iff_ne.2 h5) trivial)))))))))))))) (by kernel_rfl) rfl rfl
    · exact gv mix O_ 400 [f0, t0] (ai (bn h0) (ai (cn (bf h1)) trivial)) (by kernel_rfl) rfl rfl
theorem K_kinds_Alu : Keeps Try.prog 25 (F5 (cI .i64) cB cAR cAR (cI .i64) (cP cAR (cI .i64)) (fun _ _ c d _ => [(okSc c.num, true), (okSc d.num, true)]) kinds_Alu) := by
  refine keeps5 _ _ _ _ _ _ (enters_of Try.func25 (by kernel_rfl)) fun a b c d e hp_ => ?_
  have p0 := hp_.1
  have p1 := hp_.2.1
  unfold kinds_Alu
  have O_ := (orc_cons K_scalar_Of (orc_cons K_kinds_Num (orc_cons K_scalar_Alu (orc_cons K_kinds_moved on_))))
  refine gite (fun h0 => ?_) (fun h0 => ?_)
  · refine gite (fun h1 => ?_) (fun h1 => ?_)
    · exact gv mix O_ 400 [t0, t0, t0, t0] (ai (be h0) (ai (dt h1) (ai (dt h1) (ai (dt h1) trivial)))) (by kernel_rfl) rfl rfl
    · refine gite (fun h2 => ?_) (fun h2 => ?_)
      · exact gv mix O_ 400 [t0, f0, f0, f0, t0] (ai (be h0) (ai (df h1) (ai (df h1) (ai (df h1) (ai (dt h2) trivial))))) (by kernel_rfl) rfl rfl
      · refine gite (fun h3 => ?_) (fun h3 => ?_)
        · exact gv mix O_ 400 [t0, f0, f0, f0, f0, t0, t0, t0, t0] (ai (be h0) (ai (df h1) (ai (df h1) (ai (df h1) (ai (df h2) (ai (be h3) (ai (be h3) (ai (be h3) (ai (be h3) trivial))))))))) (by kernel_rfl) rfl rfl
        · refine gite (fun h4 => ?_) (fun h4 => ?_)
          · exact gv mix O_ 400 [t0, f0, f0, f0, f0, f0, f0, f0, f0, t0] (ai (be h0) (ai (df h1) (ai (df h1) (ai (df h1) (ai (df h2) (ai (bn h3) (ai (bn h3) (ai (bn h3) (ai (bn h3) (ai (be h4) trivial)))))))))) (by kernel_rfl) rfl rfl
          · refine gite (fun h5 => ?_) (fun h5 => ?_)
            · refine gite (fun h6 => ?_) (fun h6 => ?_)
              · exact gv mix O_ 400 [t0, f0, f0, f0, f0, f0, f0, f0, f0, f0, t0, t0, t0, t0, t0] (ai (be h0) (ai (df h1) (ai (df h1) (ai (df h1) (ai (df h2) (ai (bn h3) (ai (bn h3) (ai (bn h3) (ai (bn h3) (ai (bn h4) (ai (be h5) (ai (be h5) (ai (be h5) (ai (be h5) (ai (be h6) (ai ((by first | assumption | decide | exact okT_of (by assumption) | exact okT_of (ok_settle (by assumption)) | exact is_nn (by assumption) | exact is_nn (ok_settle (by assumption)) | exact ok_settle (by assumption) | (simp_all; done)) : okSc c.num = true) (ai ((by first | assumption | decide | exact okT_of (by assumption) | exact okT_of (ok_settle (by assumption)) | exact is_nn (by assumption) | exact is_nn (ok_settle (by assumption)) | exact ok_settle (by assumption) | (simp_all; done)) : okSc (kinds_Num (scalar_Of 0)).num = true) trivial))))))))))))))))) (by kernel_rfl) rfl rfl
              · refine gite (fun h7 => ?_) (fun h7 => ?_)
                · refine gite (fun h8 => ?_) (fun h8 => ?_)
                  · exact gv mix O_ 400 [t0, f0, f0, f0, f0, f0, f0, f0, f0, f0, t0, t0, t0, t0, f0, f0, t0] (ai (be h0) (ai (df h1) (ai (df h1) (ai (df h1) (ai (df h2) (ai (bn h3) (ai (bn h3) (ai (bn h3) (ai (bn h3) (ai (bn h4) (ai (be h5) (ai (be h5) (ai (be h5) (ai (be h5) (ai (bn h6) (ai (cn h7) (ai (be h8) trivial))))))))))))))))) (by kernel_rfl) rfl rfl
                  · refine gite (fun h9 => ?_) (fun h9 => ?_)
                    · exact gv mix O_ 400 [t0, f0, f0, f0, f0, f0, f0, f0, f0, f0, t0, t0, t0, t0, f0, f0, f0, t0, t0, t0, (4, false), t0, t0, t0, t0, t0] (ai (be h0) (ai (df h1) (ai (df h1) (ai (df h1) (ai (df h2) (ai (bn h3) (ai (bn h3) (ai (bn h3) (ai (bn h3) (ai (bn h4) (ai (be h5) (ai (be h5) (ai (be h5) (ai (be h5) (ai (bn h6) (ai (cn h7) (ai (bn h8) (ai (be h9) (ai (be h9) (ai (be h9) (ai (bn h6) (ai (be h9) (ai (be h9) (ai (be h9) (ai (be h9) (ai (be h5) (ai ((by first | assumption | decide | exact okT_of (by assumption) | exact okT_of (ok_settle (by assumption)) | exact is_nn (by assumption) | exact is_nn (ok_settle (by assumption)) | exact ok_settle (by assumption) | (simp_all; done)) : okSc (kinds_Num (scalar_Of 0)).num = true) (ai ((by first | assumption | decide | exact okT_of (by assumption) | exact okT_of (ok_settle (by assumption)) | exact is_nn (by assumption) | exact is_nn (ok_settle (by assumption)) | exact ok_settle (by assumption) | (simp_all; done)) : okSc c.num = true) trivial)))))))))))))))))))))))))))) (by kernel_rfl) rfl rfl
                    · refine gite (fun h10 => ?_) (fun h10 => ?_)
                      · exact gv mix O_ 400 [t0, f0, f0, f0, f0, f0, f0, f0, f0, f0, t0, t0, t0, t0, f0, f0, f0, f0, f0, f0, t0, t0, t0, t0, f0, f0, f0, f0, f0] (ai (be h0) (ai (df h1) (ai (df h1) (ai (df h1) (ai (df h2) (ai (bn h3) (ai (bn h3) (ai (bn h3) (ai (bn h3) (ai (bn h4) (ai (be h5) (ai (be h5) (ai (be h5) (ai (be h5) (ai (bn h6) (ai (cn h7) (ai (bn h8) (ai (bn h9) (ai (bn h9) (ai (bn h9) (ai (be h10) (ai (be h10) (ai (be h10) (ai (be h10) (ai (bn h6) (ai (bn h9) (ai (bn h9) (ai (bn h9) (ai (bn h9) trivial))))))))))))))))))))))))))))) (by kernel_rfl) rfl rfl
                      · exact gv mix O_ 400 [t0, f0, f0, f0, f0, f0, f0, f0, f0, f0, t0, t0, t0, t0, f0, f0, f0, f0, f0, f0, f0, f0, f0, f0, (1, false), f0, f0, f0] (ai (be h0) (ai (df h1) (ai (df h1) (ai (df h1) (ai (df h2) (ai (bn h3) (ai (bn h3) (ai (bn h3) (ai (bn h3) (ai (bn h4) (ai (be h5) (ai (be h5) (ai (be h5) (ai (be h5) (ai (bn h6) (ai (cn h7) (ai (bn h8) (ai (bn h9) (ai (bn h9) (ai (bn h9) (ai (bn h10) (ai (bn h10) (ai (bn h10) (ai (bn h10) (ai (bn h9) (ai (bn h9) (ai (bn h9) (ai (bn h9) trivial)))))))))))))))))))))))))))) (by kernel_rfl) rfl rfl
                · exact gv mix O_ 400 [t0, f0, f0, f0, f0, f0, f0, f0, f0, f0, t0, t0, t0, t0, f0, t0] (ai (be h0) (ai (df h1) (ai (df h1) (ai (df h1) (ai (df h2) (ai (bn h3) (ai (bn h3) (ai (bn h3) (ai (bn h3) (ai (bn h4) (ai (be h5) (ai (be h5) (ai (be h5) (ai (be h5) (ai (bn h6) (ai (cn (bf h7)) trivial)))))))))))))))) (by kernel_rfl) rfl rfl
            · refine gite (fun h6 => ?_) (fun h6 => ?_)
              · refine gite (fun h7 => ?_) (fun h7 => ?_)
                · exact gv mix O_ 400 [t0, f0, f0, f0, f0, f0, f0, f0, f0, f0, f0, f0, f0, f0, (1, false), t0] (ai (be h0) (ai (df h1) (ai (df h1) (ai (df h1) (ai (df h2) (ai (bn h3) (ai (bn h3) (ai (bn h3) (ai (bn h3) (ai (bn h4) (ai (bn h5) (ai (bn h5) (ai (bn h5) (ai (bn h5) (ai (cn h6) (ai (be h7) trivial)))))))))))))))) (by kernel_rfl) rfl rfl
                · refine gite (fun h8 => ?_) (fun h8 => ?_)
                  · refine gite (fun h9 => ?_) (fun h9 => ?_)
                    · exact gv mix O_ 400 [t0, f0, f0, f0, f0, f0, f0, f0, f0, f0, f0, f0, f0, f0, (1, false), f0, t0, t0, t0, (4, true)] (ai (be h0) (ai (df h1) (ai (df h1) (ai (df h1) (ai (df h2) (ai (bn h3) (ai (bn h3) (ai (bn h3) (ai (bn h3) (ai (bn h4) (ai (bn h5) (ai (bn h5) (ai (bn h5) (ai (bn h5) (ai (cn h6) (ai (bn h7) (ai (be h8) (ai (be h8) (ai (be h8) (ai (be h9) (ai ((by first | assumption | decide | exact okT_of (by assumption) | exact okT_of (ok_settle (by assumption)) | exact is_nn (by assumption) | exact is_nn (ok_settle (by assumption)) | exact ok_settle (by assumption) | (simp_all; done)) : okSc c.num = true) (ai ((by first | assumption | decide | exact okT_of (by assumption) | exact okT_of (ok_settle (by assumption)) | exact is_nn (by assumption) | exact is_nn (ok_settle (by assumption)) | exact ok_settle (by assumption) | (simp_all; done)) : okSc (kinds_Num (scalar_Of 0)).num = true) trivial)))))))))))))))))))))) (by kernel_rfl) rfl rfl
                    · exact gv mix O_ 400 [t0, f0, f0, f0, f0, f0, f0, f0, f0, f0, f0, f0, f0, f0, (1, false), f0, t0, t0, t0, (4, false), t0, t0, t0, t0, f0] (ai (be h0) (ai (df h1) (ai (df h1) (ai (df h1) (ai (df h2) (ai (bn h3) (ai (bn h3) (ai (bn h3) (ai (bn h3) (ai (bn h4) (ai (bn h5) (ai (bn h5) (ai (bn h5) (ai (bn h5) (ai (cn h6) (ai (bn h7) (ai (be h8) (ai (be h8) (ai (be h8) (ai (bn h9) (ai (be h8) (ai (be h8) (ai (be h8) (ai (be h8) (ai (bn h5) trivial))))))))))))))))))))))))) (by kernel_rfl) rfl rfl
                  · refine gite (fun h9 => ?_) (fun h9 => ?_)
                    · refine gite (fun h10 => ?_) (fun h10 => ?_)
                      · exact gv mix O_ 400 [t0, f0, f0, f0, f0, f0, f0, f0, f0, f0, f0, f0, f0, f0, (1, false), f0, f0, f0, f0, t0, t0, t0, t0, t0] (ai (be h0) (ai (df h1) (ai (df h1) (ai (df h1) (ai (df h2) (ai (bn h3) (ai (bn h3) (ai (bn h3) (ai (bn h3) (ai (bn h4) (ai (bn h5) (ai (bn h5) (ai (bn h5) (ai (bn h5) (ai (cn h6) (ai (bn h7) (ai (bn h8) (ai (bn h8) (ai (bn h8) (ai (be h9) (ai (be h9) (ai (be h9) (ai (be h9) (ai (be h10) (ai ((by first | assumption | decide | exact okT_of (by assumption) | exact okT_of (ok_settle (by assumption)) | exact is_nn (by assumption) | exact is_nn (ok_settle (by assumption)) | exact ok_settle (by assumption) | (simp_all; done)) : okSc c.num = true) (ai ((by first | assumption | decide | exact okT_of (by assumption) | exact okT_of (ok_settle (by assumption)) | exact is_nn (by assumption) | exact is_nn (ok_settle (by assumption)) | exact ok_settle (by assumption) | (simp_all; done)) : okSc (kinds_Num (scalar_Of 0)).num = true) trivial)))))))))))))))))))))))))) (by kernel_rfl) rfl rfl
                      · exact gv mix O_ 400 [t0, f0, f0, f0, f0, f0, f0, f0, f0, f0, f0, f0, f0, f0, (1, false), f0, f0, f0, f0, t0, t0, t0, t0, f0, f0, f0, f0, f0] (ai (be h0) (ai (df h1) (ai (df h1) (ai (df h1) (ai (df h2) (ai (bn h3) (ai (bn h3) (ai (bn h3) (ai (bn h3) (ai (bn h4) (ai (bn h5) (ai (bn h5) (ai (bn h5) (ai (bn h5) (ai (cn h6) (ai (bn h7) (ai (bn h8) (ai (bn h8) (ai (bn h8) (ai (be h9) (ai (be h9) (ai (be h9) (ai (be h9) (ai (bn h10) (ai (bn h8) (ai (bn h8) (ai (bn h8) (ai (bn h8) trivial)))))))))))))))))))))))))))) (by kernel_rfl) rfl rfl
                    · exact gv mix O_ 400 [t0, f0, f0, f0, f0, f0, f0, f0, f0, f0, f0, f0, f0, f0, (1, false), f0, f0, f0, f0, f0, f0, f0, f0, (1, false), f0, f0, f0] (ai (be h0) (ai (df h1) (ai (df h1) (ai (df h1) (ai (df h2) (ai (bn h3) (ai (bn h3) (ai (bn h3) (ai (bn h3) (ai (bn h4) (ai (bn h5) (ai (bn h5) (ai (bn h5) (ai (bn h5) (ai (cn h6) (ai (bn h7) (ai (bn h8) (ai (bn h8) (ai (bn h8) (ai (bn h9) (ai (bn h9) (ai (bn h9) (ai (bn h9) (ai (bn h8) (ai (bn h8) (ai (bn h8) (ai (bn h8) trivial))))))))))))))))))))))))))) (by kernel_rfl) rfl rfl
              · exact gv mix O_ 400 [t0, f0, f0, f0, f0, f0, f0, f0, f0, f0, f0, f0, f0, f0, (1, true)] (ai (be h0) (ai (df h1) (ai (df h1) (ai (df h1) (ai (df h2) (ai (bn h3) (ai (bn h3) (ai (bn h3) (ai (bn h3) (ai (bn h4) (ai (bn h5) (ai (bn h5) (ai (bn h5) (ai (bn h5) (ai (cn (bf h6)) trivial))))))))))))))) (by kernel_rfl) rfl rfl
  · refine gite (fun h1 => ?_) (fun h1 => ?_)
    · refine gite (fun h2 => ?_) (fun h2 => ?_)
      · exact gv mix O_ 400 [f0, t0, t0, t0, t0] (ai (bn h0) (ai (be h1) (ai (dt h2) (ai (dt h2) (ai (dt h2) trivial))))) (by kernel_rfl) rfl rfl
      · refine gite (fun h3 => ?_) (fun h3 => ?_)
        · exact gv mix O_ 400 [f0, t0, f0, f0, f0, t0] (ai (bn h0) (ai (be h1) (ai (df h2) (ai (df h2) (ai (df h2) (ai (dt h3) trivial)))))) (by kernel_rfl) rfl rfl
        · refine gite (fun h4 => ?_) (fun h4 => ?_)
          · exact gv mix O_ 400 [f0, t0, f0, f0, f0, f0, t0, t0, t0, t0] (ai (bn h0) (ai (be h1) (ai (df h2) (ai (df h2) (ai (df h2) (ai (df h3) (ai (be h4) (ai (be h4) (ai (be h4) (ai (be h4) trivial)))))))))) (by kernel_rfl) rfl rfl
          · refine gite (fun h5 => ?_) (fun h5 => ?_)
            · exact gv mix O_ 400 [f0, t0, f0, f0, f0, f0, f0, f0, f0, f0, t0] (ai (bn h0) (ai (be h1) (ai (df h2) (ai (df h2) (ai (df h2) (ai (df h3) (ai (bn h4) (ai (bn h4) (ai (bn h4) (ai (bn h4) (ai (be h5) trivial))))))))))) (by kernel_rfl) rfl rfl
            · refine gite (fun h6 => ?_) (fun h6 => ?_)
              · refine gite (fun h7 => ?_) (fun h7 => ?_)
                · exact gv mix O_ 400 [f0, t0, f0, f0, f0, f0, f0, f0, f0, f0, f0, t0, t0, t0, t0, t0] (ai (bn h0) (ai (be h1) (ai (df h2) (ai (df h2) (ai (df h2) (ai (df h3) (ai (bn h4) (ai (bn h4) (ai (bn h4) (ai (bn h4) (ai (bn h5) (ai (be h6) (ai (be h6) (ai (be h6) (ai (be h6) (ai (be h7) (ai ((by first | assumption | decide | exact okT_of (by assumption) | exact okT_of (ok_settle (by assumption)) | exact is_nn (by assumption) | exact is_nn (ok_settle (by assumption)) | exact ok_settle (by assumption) | (simp_all; done)) : okSc (kinds_Num (scalar_Of 0)).num = true) (ai ((by first | assumption | decide | exact okT_of (by assumption) | exact okT_of (ok_settle (by assumption)) | exact is_nn (by assumption) | exact is_nn (ok_settle (by assumption)) | exact ok_settle (by assumption) | (simp_all; done)) : okSc d.num = true) trivial)))))))))))))))))) (by kernel_rfl) rfl rfl
                · refine gite (fun h8 => ?_) (fun h8 => ?_)
                  · exact gv mix O_ 400 [f0, t0, f0, f0, f0, f0, f0, f0, f0, f0, f0, t0, t0, t0, t0, f0, f0, t0] (ai (bn h0) (ai (be h1) (ai (df h2) (ai (df h2) (ai (df h2) (ai (df h3) (ai (bn h4) (ai (bn h4) (ai (bn h4) (ai (bn h4) (ai (bn h5) (ai (be h6) (ai (be h6) (ai (be h6) (ai (be h6) (ai (bn h7) (ai (cn h8) (ai (be h1) trivial)))))))))))))))))) (by kernel_rfl) rfl rfl
                  · exact gv mix O_ 400 [f0, t0, f0, f0, f0, f0, f0, f0, f0, f0, f0, t0, t0, t0, t0, f0, t0] (ai (bn h0) (ai (be h1) (ai (df h2) (ai (df h2) (ai (df h2) (ai (df h3) (ai (bn h4) (ai (bn h4) (ai (bn h4) (ai (bn h4) (ai (bn h5) (ai (be h6) (ai (be h6) (ai (be h6) (ai (be h6) (ai (bn h7) (ai (cn (bf h8)) trivial))))))))))))))))) (by kernel_rfl) rfl rfl
              · refine gite (fun h7 => ?_) (fun h7 => ?_)
                · exact gv mix O_ 400 [f0, t0, f0, f0, f0, f0, f0, f0, f0, f0, f0, f0, f0, f0, f0, (1, false), t0] (ai (bn h0) (ai (be h1) (ai (df h2) (ai (df h2) (ai (df h2) (ai (df h3) (ai (bn h4) (ai (bn h4) (ai (bn h4) (ai (bn h4) (ai (bn h5) (ai (bn h6) (ai (bn h6) (ai (bn h6) (ai (bn h6) (ai (cn h7) (ai (be h1) trivial))))))))))))))))) (by kernel_rfl) rfl rfl
                · exact gv mix O_ 400 [f0, t0, f0, f0, f0, f0, f0, f0, f0, f0, f0, f0, f0, f0, f0, (1, true)] (ai (bn h0) (ai (be h1) (ai (df h2) (ai (df h2) (ai (df h2) (ai (df h3) (ai (bn h4) (ai (bn h4) (ai (bn h4) (ai (bn h4) (ai (bn h5) (ai (bn h6) (ai (bn h6) (ai (bn h6) (ai (bn h6) (ai (cn (bf h7)) trivial)))))))))))))))) (by kernel_rfl) rfl rfl
    · refine gite (fun h2 => ?_) (fun h2 => ?_)
      · exact gv mix O_ 400 [f0, f0, t0, t0, t0] (ai (bn h0) (ai (bn h1) (ai (dt h2) (ai (dt h2) (ai (dt h2) trivial))))) (by kernel_rfl) rfl rfl
      · refine gite (fun h3 => ?_) (fun h3 => ?_)
        · exact gv mix O_ 400 [f0, f0, f0, f0, f0, t0] (ai (bn h0) (ai (bn h1) (ai (df h2) (ai (df h2) (ai (df h2) (ai (dt h3) trivial)))))) (by kernel_rfl) rfl rfl
        · refine gite (fun h4 => ?_) (fun h4 => ?_)
          · exact gv mix O_ 400 [f0, f0, f0, f0, f0, f0, t0, t0, t0, t0] (ai (bn h0) (ai (bn h1) (ai (df h2) (ai (df h2) (ai (df h2) (ai (df h3) (ai (be h4) (ai (be h4) (ai (be h4) (ai (be h4) trivial)))))))))) (by kernel_rfl) rfl rfl
          · refine gite (fun h5 => ?_) (fun h5 => ?_)
            · exact gv mix O_ 400 [f0, f0, f0, f0, f0, f0, f0, f0, f0, f0, t0] (ai (bn h0) (ai (bn h1) (ai (df h2) (ai (df h2) (ai (df h2) (ai (df h3) (ai (bn h4) (ai (bn h4) (ai (bn h4) (ai (bn h4) (ai (be h5) trivial))))))))))) (by kernel_rfl) rfl rfl
            · refine gite (fun h6 => ?_) (fun h6 => ?_)
              · refine gite (fun h7 => ?_) (fun h7 => ?_)
                · exact gv mix O_ 400 [f0, f0, f0, f0, f0, f0, f0, f0, f0, f0, f0, t0, t0, t0, t0, t0] (ai (bn h0) (ai (bn h1) (ai (df h2) (ai (df h2) (ai (df h2) (ai (df h3) (ai (bn h4) (ai (bn h4) (ai (bn h4) (ai (bn h4) (ai (bn h5) (ai (be h6) (ai (be h6) (ai (be h6) (ai (be h6) (ai (be h7) (ai ((by first | assumption | decide | exact okT_of (by assumption) | exact okT_of (ok_settle (by assumption)) | exact is_nn (by assumption) | exact is_nn (ok_settle (by assumption)) | exact ok_settle (by assumption) | (simp_all; done)) : okSc c.num = true) (ai ((by first | assumption | decide | exact okT_of (by assumption) | exact okT_of (ok_settle (by assumption)) | exact is_nn (by assumption) | exact is_nn (ok_settle (by assumption)) | exact ok_settle (by assumption) | (simp_all; done)) : okSc d.num = true) trivial)))))))))))))))))) (by kernel_rfl) rfl rfl
                · refine gite (fun h8 => ?_) (fun h8 => ?_)
                  · refine gite (fun h9 => ?_) (fun h9 => ?_)
                    · exact gv mix O_ 400 [f0, f0, f0, f0, f0, f0, f0, f0, f0, f0, f0, t0, t0, t0, t0, f0, f0, f0, t0, t0, t0, (4, false), t0, t0, t0, t0, t0] (ai (bn h0) (ai (bn h1) (ai (df h2) (ai (df h2) (ai (df h2) (ai (df h3) (ai (bn h4) (ai (bn h4) (ai (bn h4) (ai (bn h4) (ai (bn h5) (ai (be h6) (ai (be h6) (ai (be h6) (ai (be h6) (ai (bn h7) (ai (cn h8) (ai (bn h1) (ai (be h9) (ai (be h9) (ai (be h9) (ai (bn h7) (ai (be h9) (ai (be h9) (ai (be h9) (ai (be h9) (ai (be h6) (ai ((by first | assumption | decide | exact okT_of (by assumption) | exact okT_of (ok_settle (by assumption)) | exact is_nn (by assumption) | exact is_nn (ok_settle (by assumption)) | exact ok_settle (by assumption) | (simp_all; done)) : okSc d.num = true) (ai ((by first | assumption | decide | exact okT_of (by assumption) | exact okT_of (ok_settle (by assumption)) | exact is_nn (by assumption) | exact is_nn (ok_settle (by assumption)) | exact ok_settle (by assumption) | (simp_all; done)) : okSc c.num = true) trivial))))))))))))))))))))))))))))) (by kernel_rfl) rfl rfl
                    · refine gite (fun h10 => ?_) (fun h10 => ?_)
                      · exact gv mix O_ 400 [f0, f0, f0, f0, f0, f0, f0, f0, f0, f0, f0, t0, t0, t0, t0, f0, f0, f0, f0, f0, f0, t0, t0, t0, t0, f0, f0, f0, f0, f0] (ai (bn h0) (ai (bn h1) (ai (df h2) (ai (df h2) (ai (df h2) (ai (df h3) (ai (bn h4) (ai (bn h4) (ai (bn h4) (ai (bn h4) (ai (bn h5) (ai (be h6) (ai (be h6) (ai (be h6) (ai (be h6) (ai (bn h7) (ai (cn h8) (ai (bn h1) (ai (bn h9) (ai (bn h9) (ai (bn h9) (ai (be h10) (ai (be h10) (ai (be h10) (ai (be h10) (ai (bn h7) (ai (bn h9) (ai (bn h9) (ai (bn h9) (ai (bn h9) trivial)))))))))))))))))))))))))))))) (by kernel_rfl) rfl rfl
                      · exact gv mix O_ 400 [f0, f0, f0, f0, f0, f0, f0, f0, f0, f0, f0, t0, t0, t0, t0, f0, f0, f0, f0, f0, f0, f0, f0, f0, f0, (1, false), f0, f0, f0] (ai (bn h0) (ai (bn h1) (ai (df h2) (ai (df h2) (ai (df h2) (ai (df h3) (ai (bn h4) (ai (bn h4) (ai (bn h4) (ai (bn h4) (ai (bn h5) (ai (be h6) (ai (be h6) (ai (be h6) (ai (be h6) (ai (bn h7) (ai (cn h8) (ai (bn h1) (ai (bn h9) (ai (bn h9) (ai (bn h9) (ai (bn h10) (ai (bn h10) (ai (bn h10) (ai (bn h10) (ai (bn h9) (ai (bn h9) (ai (bn h9) (ai (bn h9) trivial))))))))))))))))))))))))))))) (by kernel_rfl) rfl rfl
                  · exact gv mix O_ 400 [f0, f0, f0, f0, f0, f0, f0, f0, f0, f0, f0, t0, t0, t0, t0, f0, t0] (ai (bn h0) (ai (bn h1) (ai (df h2) (ai (df h2) (ai (df h2) (ai (df h3) (ai (bn h4) (ai (bn h4) (ai (bn h4) (ai (bn h4) (ai (bn h5) (ai (be h6) (ai (be h6) (ai (be h6) (ai (be h6) (ai (bn h7) (ai (cn (bf h8)) trivial))))))))))))))))) (by kernel_rfl) rfl rfl
              · refine gite (fun h7 => ?_) (fun h7 => ?_)
                · refine gite (fun h8 => ?_) (fun h8 => ?_)
                  · refine gite (fun h9 => ?_) (fun h9 => ?_)
                    · exact gv mix O_ 400 [f0, f0, f0, f0, f0, f0, f0, f0, f0, f0, f0, f0, f0, f0, f0, (1, false), f0, t0, t0, t0, (4, true)] (ai (bn h0) (ai (bn h1) (ai (df h2) (ai (df h2) (ai (df h2) (ai (df h3) (ai (bn h4) (ai (bn h4) (ai (bn h4) (ai (bn h4) (ai (bn h5) (ai (bn h6) (ai (bn h6) (ai (bn h6) (ai (bn h6) (ai (cn h7) (ai (bn h1) (ai (be h8) (ai (be h8) (ai (be h8) (ai (be h9) (ai ((by first | assumption | decide | exact okT_of (by assumption) | exact okT_of (ok_settle (by assumption)) | exact is_nn (by assumption) | exact is_nn (ok_settle (by assumption)) | exact ok_settle (by assumption) | (simp_all; done)) : okSc c.num = true) (ai ((by first | assumption | decide | exact okT_of (by assumption) | exact okT_of (ok_settle (by assumption)) | exact is_nn (by assumption) | exact is_nn (ok_settle (by assumption)) | exact ok_settle (by assumption) | (simp_all; done)) : okSc d.num = true) trivial))))))))))))))))))))))) (by kernel_rfl) rfl rfl
                    · exact gv mix O_ 400 [f0, f0, f0, f0, f0, f0, f0, f0, f0, f0, f0, f0, f0, f0, f0, (1, false), f0, t0, t0, t0, (4, false), t0, t0, t0, t0, f0] (ai (bn h0) (ai (bn h1) (ai (df h2) (ai (df h2) (ai (df h2) (ai (df h3) (ai (bn h4) (ai (bn h4) (ai (bn h4) (ai (bn h4) (ai (bn h5) (ai (bn h6) (ai (bn h6) (ai (bn h6) (ai (bn h6) (ai (cn h7) (ai (bn h1) (ai (be h8) (ai (be h8) (ai (be h8) (ai (bn h9) (ai (be h8) (ai (be h8) (ai (be h8) (ai (be h8) (ai (bn h6) trivial)))))))))))))))))))))))))) (by kernel_rfl) rfl rfl
                  · refine gite (fun h9 => ?_) (fun h9 => ?_)
                    · refine gite (fun h10 => ?_) (fun h10 => ?_)
                      · exact gv mix O_ 400 [f0, f0, f0, f0, f0, f0, f0, f0, f0, f0, f0, f0, f0, f0, f0, (1, false), f0, f0, f0, f0, t0, t0, t0, t0, t0] (ai (bn h0) (ai (bn h1) (ai (df h2) (ai (df h2) (ai (df h2) (ai (df h3) (ai (bn h4) (ai (bn h4) (ai (bn h4) (ai (bn h4) (ai (bn h5) (ai (bn h6) (ai (bn h6) (ai (bn h6) (ai (bn h6) (ai (cn h7) (ai (bn h1) (ai (bn h8) (ai (bn h8) (ai (bn h8) (ai (be h9) (ai (be h9) (ai (be h9) (ai (be h9) (ai (be h10) (ai ((by first | assumption | decide | exact okT_of (by assumption) | exact okT_of (ok_settle (by assumption)) | exact is_nn (by assumption) | exact is_nn (ok_settle (by assumption)) | exact ok_settle (by assumption) | (simp_all; done)) : okSc c.num = true) (ai ((by first | assumption | decide | exact okT_of (by assumption) | exact okT_of (ok_settle (by assumption)) | exact is_nn (by assumption) | exact is_nn (ok_settle (by assumption)) | exact ok_settle (by assumption) | (simp_all; done)) : okSc d.num = true) trivial))))))))))))))))))))))))))) (by kernel_rfl) rfl rfl
                      · exact gv mix O_ 400 [f0, f0, f0, f0, f0, f0, f0, f0, f0, f0, f0, f0, f0, f0, f0, (1, false), f0, f0, f0, f0, t0, t0, t0, t0, f0, f0, f0, f0, f0] (ai (bn h0) (ai (bn h1) (ai (df h2) (ai (df h2) (ai (df h2) (ai (df h3) (ai (bn h4) (ai (bn h4) (ai (bn h4) (ai (bn h4) (ai (bn h5) (ai (bn h6) (ai (bn h6) (ai (bn h6) (ai (bn h6) (ai (cn h7) (ai (bn h1) (ai (bn h8) (ai (bn h8) (ai (bn h8) (ai (be h9) (ai (be h9) (ai (be h9) (ai (be h9) (ai (bn h10) (ai (bn h8) (ai (bn h8) (ai (bn h8) (ai (bn h8) trivial))))))))))))))))))))))))))))) (by kernel_rfl) rfl rfl
                    · exact gv mix O_ 400 [f0, f0, f0, f0, f0, f0, f0, f0, f0, f0, f0, f0, f0, f0, f0, (1, false), f0, f0, f0, f0, f0, f0, f0, f0, (1, false), f0, f0, f0] (ai (bn h0) (ai (bn h1) (ai (df h2) (ai (df h2) (ai (df h2) (ai (df h3) (ai (bn h4) (ai (bn h4) (ai (bn h4) (ai (bn h4) (ai (bn h5) (ai (bn h6) (ai (bn h6) (ai (bn h6) (ai (bn h6) (ai (cn h7) (ai (bn h1) (ai (bn h8) (ai (bn h8) (ai (bn h8) (ai (bn h9) (ai (bn h9) (ai (bn h9) (ai (bn h9) (ai (bn h8) (ai (bn h8) (ai (bn h8) (ai (bn h8) trivial)))))))))))))))))))))))))))) (by kernel_rfl) rfl rfl
                · exact gv mix O_ 400 [f0, f0, f0, f0, f0, f0, f0, f0, f0, f0, f0, f0, f0, f0, f0, (1, true)] (ai (bn h0) (ai (bn h1) (ai (df h2) (ai (df h2) (ai (df h2) (ai (df h3) (ai (bn h4) (ai (bn h4) (ai (bn h4) (ai (bn h4) (ai (bn h5) (ai (bn h6) (ai (bn h6) (ai (bn h6) (ai (bn h6) (ai (cn (bf h7)) trivial)))))))))))))))) (by kernel_rfl) rfl rfl
theorem K_lockgatelaw18_Right : Keeps Try.prog 10 (F1 cAR cB (fun _ => []) lockgatelaw18_Right) := by
  refine keeps1 _ _ (enters_of Try.func10 (by kernel_rfl)) fun a hp_ => ?_
  unfold lockgatelaw18_Right
  have O_ := (orc_cons K_lockgateref05_Norm on_)
  refine gite (fun h0 => ?_) (fun h0 => ?_)
  · refine gite (fun h1 => ?_) (fun h1 => ?_)
    · refine gite (fun h2 => ?_) (fun h2 => ?_)
      · refine gite (fun h3 => ?_) (fun h3 => ?_)
        · refine gite (fun h4 => ?_) (fun h4 => ?_)
          · refine gite (fun h5 => ?_) (fun h5 => ?_)
            · refine gite (fun h6 => ?_) (fun h6 => ?_)
              · refine gite (fun h7 => ?_) (fun h7 => ?_)
                · refine gite (fun h8 => ?_) (fun h8 => ?_)
                  · exact gv mix O_ 400 [t0, t0, t0, t0, t0, t0, t0, t0, t0, t0, t0, t0, t0, t0, t0, t0, t0, t0, t0, t0, t0, t0, t0, t0, t0, t0, t0, t0, t0, t0, t0, t0, t0, t0, t0, t0, t0, t0, t0, t0, t0, t0, t0, t0, t0, t0, t0, f0, f0, f0, t0, f0, t0, (5, true), (1, true)] (ai h0 (ai h0 (ai h0 (ai h0 (ai h0 (ai h0 (ai h0 (ai (be h1) (ai (be h1) (ai (be h1) (ai (be h1) (ai (be h1) (ai (be h1) (ai (be h1) (ai (be h1) (ai (be h1) (ai (be h1) (ai (dt h2) (ai (dt h2) (ai (dt h2) (ai (dt h2) (ai (dt h2) (ai (dt h2) (ai (dt h2) (ai (dt h2) (ai (dt h2) (ai (dt h2) (ai (dt h3) (ai (dt h3) (ai (dt h3) (ai (dt h3) (ai (dt h4) (ai (dt h4) (ai (dt h4) (ai (dt h4) (ai (dt h5) (ai (dt h5) (ai (dt h5) (ai (dt h5) (ai (dt h6) (ai (dt h6) (ai (dt h6) (ai (dt h6) (ai (dt h7) (ai (dt h7) (ai (dt h7) (ai (dt h7) (ai (bne_eq_false_iff_eq.2 h8) (ai (bne_eq_false_iff_eq.2 h8) (ai (bne_eq_false_iff_eq.2 h8) (ai (dt h7) (ai (bne_eq_false_iff_eq.2 h8) (ai (dt h7) (ai (dt h7) (ai (dt h7) trivial))))))))))))))))))))))))))))))))))))))))))))))))))))))) (by kernel_rfl) rfl rfl
                  · refine gite (fun h9 => ?_) (fun h9 => ?_)
                    · exact gv mix O_ 400 [t0, t0, t0, t0, t0, t0, t0, t0, t0, t0, t0, t0, t0, t0, t0, t0, t0, t0, t0, t0, t0, t0, t0, t0, t0, t0, t0, t0, t0, t0, t0, t0, t0, t0, t0, t0, t0, t0, t0, t0, t0, t0, t0, t0, t0, t0, t0, t0, t0, t0, t0, t0, t0, f0, f0, f0, f0, f0, t0, f0, t0] (ai h0 (ai h0 (ai h0 (ai h0 (ai h0 (ai h0 (ai h0 (ai (be h1) (ai (be h1) (ai (be h1) (ai (be h1) (ai (be h1) (ai (be h1) (ai (be h1) (ai (be h1) (ai (be h1) (ai (be h1) (ai (dt h2) (ai (dt h2) (ai (dt h2) (ai (dt h2) (ai (dt h2) (ai (dt h2) (ai (dt h2) (ai (dt h2) (ai (dt h2) (ai (dt h2) (ai (dt h3) (ai (dt h3) (ai (dt h3) (ai (dt h3) (ai (dt h4) (ai (dt h4) (ai (dt h4) (ai (dt h4) (ai (dt h5) (ai (dt h5) (ai (dt h5) (ai (dt h5) (ai (dt h6) (ai (dt h6) (ai (dt h6) (ai (dt h6) (ai (dt h7) (ai (dt h7) (ai (dt h7) (ai (dt h7) (ai (bne_iff_ne.2 h8) (ai (bne_iff_ne.2 h8) (ai (bne_iff_ne.2 h8) (ai (dt h7) (ai (bne_iff_ne.2 h8) (ai (dt h7) (ai (bne_eq_false_iff_eq.2 h9) (ai (bne_eq_false_iff_eq.2 h9) (ai (bne_eq_false_iff_eq.2 h9) (ai (bne_eq_false_iff_eq.2 h9) (ai (bne_eq_false_iff_eq.2 h9) (ai (dt h7) (ai (bne_eq_false_iff_eq.2 h9) (ai (dt h7) trivial))))))))))))))))))))))))))))))))))))))))))))))))))))))))))))) (by kernel_rfl) rfl rfl
                    · exact gv mix O_ 400 [t0, t0, t0, t0, t0, t0, t0, t0, t0, t0, t0, t0, t0, t0, t0, t0, t0, t0, t0, t0, t0, t0, t0, t0, t0, t0, t0, t0, t0, t0, t0, t0, t0, t0, t0, t0, t0, t0, t0, t0, t0, t0, t0, t0, t0, t0, t0, t0, t0, t0, t0, t0, t0, t0, t0, t0, t0, t0, t0, t0, t0] (ai h0 (ai h0 (ai h0 (ai h0 (ai h0 (ai h0 (ai h0 (ai (be h1) (ai (be h1) (ai (be h1) (ai (be h1) (ai (be h1) (ai (be h1) (ai (be h1) (ai (be h1) (ai (be h1) (ai (be h1) (ai (dt h2) (ai (dt h2) (ai (dt h2) (ai (dt h2) (ai (dt h2) (ai (dt h2) (ai (dt h2) (ai (dt h2) (ai (dt h2) (ai (dt h2) (ai (dt h3) (ai (dt h3) (ai (dt h3) (ai (dt h3) (ai (dt h4) (ai (dt h4) (ai (dt h4) (ai (dt h4) (ai (dt h5) (ai (dt h5) (ai (dt h5) (ai (dt h5) (ai (dt h6) (ai (dt h6) (ai (dt h6) (ai (dt h6) (ai (dt h7) (ai (dt h7) (ai (dt h7) (ai (dt h7) (ai (bne_iff_ne.2 h8) (ai (bne_iff_ne.2 h8) (ai (bne_iff_ne.2 h8) (ai (dt h7) (ai (bne_iff_ne.2 h8) (ai (dt h7) (ai (bne_iff_ne.2 h9) (ai (bne_iff_ne.2 h9) (ai (bne_iff_ne.2 h9) (ai (bne_iff_ne.2 h9) (ai (bne_iff_ne.2 h9) (ai (dt h7) (ai (bne_iff_ne.2 h9) (ai (dt h7) trivial))))))))))))))))))))))))))))))))))))))))))))))))))))))))))))) (by kernel_rfl) rfl rfl
                · exact gv mix O_ 400 [t0, t0, t0, t0, t0, t0, t0, t0, t0, t0, t0, t0, t0, t0, t0, t0, t0, t0, t0, t0, t0, t0, t0, t0, t0, t0, t0, t0, t0, t0, t0, t0, t0, t0, t0, t0, t0, t0, t0, t0, t0, t0, t0, f0, f0, f0, f0, f0, f0, f0, f0] (ai h0 (ai h0 (ai h0 (ai h0 (ai h0 (ai h0 (ai h0 (ai (be h1) (ai (be h1) (ai (be h1) (ai (be h1) (ai (be h1) (ai (be h1) (ai (be h1) (ai (be h1) (ai (be h1) (ai (be h1) (ai (dt h2) (ai (dt h2) (ai (dt h2) (ai (dt h2) (ai (dt h2) (ai (dt h2) (ai (dt h2) (ai (dt h2) (ai (dt h2) (ai (dt h2) (ai (dt h3) (ai (dt h3) (ai (dt h3) (ai (dt h3) (ai (dt h4) (ai (dt h4) (ai (dt h4) (ai (dt h4) (ai (dt h5) (ai (dt h5) (ai (dt h5) (ai (dt h5) (ai (dt h6) (ai (dt h6) (ai (dt h6) (ai (dt h6) (ai (df h7) (ai (df h7) (ai (df h7) (ai (df h7) (ai (df h7) (ai (df h7) (ai (df h7) (ai (df h7) trivial))))))))))))))))))))))))))))))))))))))))))))))))))) (by kernel_rfl) rfl rfl
              · exact gv mix O_ 400 [t0, t0, t0, t0, t0, t0, t0, t0, t0, t0, t0, t0, t0, t0, t0, t0, t0, t0, t0, t0, t0, t0, t0, t0, t0, t0, t0, t0, t0, t0, t0, t0, t0, t0, t0, t0, t0, t0, t0, f0, f0, f0, f0] (ai h0 (ai h0 (ai h0 (ai h0 (ai h0 (ai h0 (ai h0 (ai (be h1) (ai (be h1) (ai (be h1) (ai (be h1) (ai (be h1) (ai (be h1) (ai (be h1) (ai (be h1) (ai (be h1) (ai (be h1) (ai (dt h2) (ai (dt h2) (ai (dt h2) (ai (dt h2) (ai (dt h2) (ai (dt h2) (ai (dt h2) (ai (dt h2) (ai (dt h2) (ai (dt h2) (ai (dt h3) (ai (dt h3) (ai (dt h3) (ai (dt h3) (ai (dt h4) (ai (dt h4) (ai (dt h4) (ai (dt h4) (ai (dt h5) (ai (dt h5) (ai (dt h5) (ai (dt h5) (ai (df h6) (ai (df h6) (ai (df h6) (ai (df h6) trivial))))))))))))))))))))))))))))))))))))))))))) (by kernel_rfl) rfl rfl
            · exact gv mix O_ 400 [t0, t0, t0, t0, t0, t0, t0, t0, t0, t0, t0, t0, t0, t0, t0, t0, t0, t0, t0, t0, t0, t0, t0, t0, t0, t0, t0, t0, t0, t0, t0, t0, t0, t0, t0, f0, f0, f0, f0] (ai h0 (ai h0 (ai h0 (ai h0 (ai h0 (ai h0 (ai h0 (ai (be h1) (ai (be h1) (ai (be h1) (ai (be h1) (ai (be h1) (ai (be h1) (ai (be h1) (ai (be h1) (ai (be h1) (ai (be h1) (ai (dt h2) (ai (dt h2) (ai (dt h2) (ai (dt h2) (ai (dt h2) (ai (dt h2) (ai (dt h2) (ai (dt h2) (ai (dt h2) (ai (dt h2) (ai (dt h3) (ai (dt h3) (ai (dt h3) (ai (dt h3) (ai (dt h4) (ai (dt h4) (ai (dt h4) (ai (dt h4) (ai (df h5) (ai (df h5) (ai (df h5) (ai (df h5) trivial))))))))))))))))))))))))))))))))))))))) (by kernel_rfl) rfl rfl
          · exact gv mix O_ 400 [t0, t0, t0, t0, t0, t0, t0, t0, t0, t0, t0, t0, t0, t0, t0, t0, t0, t0, t0, t0, t0, t0, t0, t0, t0, t0, t0, t0, t0, t0, t0, f0, f0, f0, f0] (ai h0 (ai h0 (ai h0 (ai h0 (ai h0 (ai h0 (ai h0 (ai (be h1) (ai (be h1) (ai (be h1) (ai (be h1) (ai (be h1) (ai (be h1) (ai (be h1) (ai (be h1) (ai (be h1) (ai (be h1) (ai (dt h2) (ai (dt h2) (ai (dt h2) (ai (dt h2) (ai (dt h2) (ai (dt h2) (ai (dt h2) (ai (dt h2) (ai (dt h2) (ai (dt h2) (ai (dt h3) (ai (dt h3) (ai (dt h3) (ai (dt h3) (ai (df h4) (ai (df h4) (ai (df h4) (ai (df h4) trivial))))))))))))))))))))))))))))))))))) (by kernel_rfl) rfl rfl
        · exact gv mix O_ 400 [t0, t0, t0, t0, t0, t0, t0, t0, t0, t0, t0, t0, t0, t0, t0, t0, t0, t0, t0, t0, t0, t0, t0, t0, t0, t0, t0, f0, f0, f0, f0] (ai h0 (ai h0 (ai h0 (ai h0 (ai h0 (ai h0 (ai h0 (ai (be h1) (ai (be h1) (ai (be h1) (ai (be h1) (ai (be h1) (ai (be h1) (ai (be h1) (ai (be h1) (ai (be h1) (ai (be h1) (ai (dt h2) (ai (dt h2) (ai (dt h2) (ai (dt h2) (ai (dt h2) (ai (dt h2) (ai (dt h2) (ai (dt h2) (ai (dt h2) (ai (dt h2) (ai (df h3) (ai (df h3) (ai (df h3) (ai (df h3) trivial))))))))))))))))))))))))))))))) (by kernel_rfl) rfl rfl
      · exact gv mix O_ 400 [t0, t0, t0, t0, t0, t0, t0, t0, t0, t0, t0, t0, t0, t0, t0, t0, t0, f0, f0, f0, f0, f0, f0, f0, f0, f0, f0] (ai h0 (ai h0 (ai h0 (ai h0 (ai h0 (ai h0 (ai h0 (ai (be h1) (ai (be h1) (ai (be h1) (ai (be h1) (ai (be h1) (ai (be h1) (ai (be h1) (ai (be h1) (ai (be h1) (ai (be h1) (ai (df h2) (ai (df h2) (ai (df h2) (ai (df h2) (ai (df h2) (ai (df h2) (ai (df h2) (ai (df h2) (ai (df h2) (ai (df h2) trivial))))))))))))))))))))))))))) (by kernel_rfl) rfl rfl
    · exact gv mix O_ 400 [t0, t0, t0, t0, t0, t0, t0, f0, f0, f0, f0, f0, f0, f0, f0, f0, f0] (ai h0 (ai h0 (ai h0 (ai h0 (ai h0 (ai h0 (ai h0 (ai (bn h1) (ai (bn h1) (ai (bn h1) (ai (bn h1) (ai (bn h1) (ai (bn h1) (ai (bn h1) (ai (bn h1) (ai (bn h1) (ai (bn h1) trivial))))))))))))))))) (by kernel_rfl) rfl rfl
  · exact gv mix O_ 400 [f0, f0, f0, f0, f0, f0, f0] (ai (bf h0) (ai (bf h0) (ai (bf h0) (ai (bf h0) (ai (bf h0) (ai (bf h0) (ai (bf h0) trivial))))))) (by kernel_rfl) rfl rfl
end Go.Proofs.T
