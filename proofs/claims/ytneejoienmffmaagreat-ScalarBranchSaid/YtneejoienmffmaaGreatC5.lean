/-
  The functions of the program keep their contracts: what they make is what the functions of plain data say.
-/
import Derived.Test.YtneejoienmffmaaGreatD
import Derived.Test.YtneejoienmffmaaGreatMT2
import Derived.Test.YtneejoienmffmaaGreatC4
import Derived.KernelRfl
set_option linter.unusedVariables false
set_option maxRecDepth 100000
namespace Go.Proofs.T
open Go Go.Proofs Go.Proofs.SX
theorem G_scalar_learn_1 (b : Bool) (c : Sc) (d : Sc) : Gives Tryz.prog 41 [(cI .i64).enc 1, cB.enc b, cSc.enc c, cSc.enc d] ((cP3 cSc cSc cB).enc (scalar_learn_1 b c d)) := by
  unfold scalar_learn_1
  have O_ := (orc_cons K_scalar_meet (orc_cons K_scalar_Is (orc_cons K_scalar_without on_)))
  refine gite (fun h0 => ?_) (fun h0 => ?_)
  · exact gv mix O_ 400 [(3, false)] (ai (cn h0) trivial) (by kernel_rfl) rfl rfl
  · refine gite (fun h1 => ?_) (fun h1 => ?_)
    · refine gite (fun h2 => ?_) (fun h2 => ?_)
      · refine gite (fun h3 => ?_) (fun h3 => ?_)
        · exact gv mix O_ 400 [(3, true), t0, t0, t0, t0] (ai (cn (bf h0)) (ai h1 (ai h2 (a2 h3 trivial)))) (by kernel_rfl) rfl rfl
        · exact gv mix O_ 400 [(3, true), t0, t0, f0, f0] (ai (cn (bf h0)) (ai h1 (ai h2 (a2 (bf h3) trivial)))) (by kernel_rfl) rfl rfl
      · refine gite (fun h3 => ?_) (fun h3 => ?_)
        · exact gv mix O_ 400 [(3, true), t0, f0, t0, t0] (ai (cn (bf h0)) (ai h1 (ai (bf h2) (a2 h3 trivial)))) (by kernel_rfl) rfl rfl
        · exact gv mix O_ 400 [(3, true), t0, f0, f0, f0] (ai (cn (bf h0)) (ai h1 (ai (bf h2) (a2 (bf h3) trivial)))) (by kernel_rfl) rfl rfl
    · refine gite (fun h2 => ?_) (fun h2 => ?_)
      · exact gv mix O_ 400 [(3, true), f0, t0] (ai (cn (bf h0)) (ai (bf h1) (ai h2 trivial))) (by kernel_rfl) rfl rfl
      · exact gv mix O_ 400 [(3, true), f0, f0] (ai (cn (bf h0)) (ai (bf h1) (ai (bf h2) trivial))) (by kernel_rfl) rfl rfl
theorem G_scalar_learn_2 (b : Bool) (c : Sc) (d : Sc) : Gives Tryz.prog 41 [(cI .i64).enc 2, cB.enc b, cSc.enc c, cSc.enc d] ((cP3 cSc cSc cB).enc (scalar_learn_2 b c d)) := by
  unfold scalar_learn_2
  have O_ := (orc_cons K_scalar_less on_)
  refine gite (fun h0 => ?_) (fun h0 => ?_)
  · exact gv mix O_ 400 [(30, true)] (ai h0 trivial) (by kernel_rfl) rfl rfl
  · exact gv mix O_ 400 [(30, false)] (ai (bf h0) trivial) (by kernel_rfl) rfl rfl
theorem G_scalar_learn_3 (b : Bool) (c : Sc) (d : Sc) : Gives Tryz.prog 41 [(cI .i64).enc 3, cB.enc b, cSc.enc c, cSc.enc d] ((cP3 cSc cSc cB).enc (scalar_learn_3 b c d)) := by
  unfold scalar_learn_3
  have O_ := (orc_cons K_scalar_less on_)
  refine gite (fun h0 => ?_) (fun h0 => ?_)
  · exact gv mix O_ 400 [(30, true)] (ai h0 trivial) (by kernel_rfl) rfl rfl
  · exact gv mix O_ 400 [(30, false)] (ai (bf h0) trivial) (by kernel_rfl) rfl rfl
theorem G_scalar_learn_4 (b : Bool) (c : Sc) (d : Sc) : Gives Tryz.prog 41 [(cI .i64).enc 4, cB.enc b, cSc.enc c, cSc.enc d] ((cP3 cSc cSc cB).enc (scalar_learn_4 b c d)) := by
  unfold scalar_learn_4
  have O_ := (orc_cons K_scalar_Is (orc_cons K_scalar_clear on_))
  refine gite (fun h0 => ?_) (fun h0 => ?_)
  · exact gv mix O_ 400 [(1, true)] (ai h0 trivial) (by kernel_rfl) rfl rfl
  · refine gite (fun h1 => ?_) (fun h1 => ?_)
    · refine gite (fun h2 => ?_) (fun h2 => ?_)
      · refine gite (fun h3 => ?_) (fun h3 => ?_)
        · exact gv mix O_ 400 [(1, false), t0, t0, t0, t0] (ai (bf h0) (ai h1 (ai h2 (a2 h3 trivial)))) (by kernel_rfl) rfl rfl
        · exact gv mix O_ 400 [(1, false), t0, t0, f0, f0] (ai (bf h0) (ai h1 (ai h2 (a2 (bf h3) trivial)))) (by kernel_rfl) rfl rfl
      · refine gite (fun h3 => ?_) (fun h3 => ?_)
        · exact gv mix O_ 400 [(1, false), t0, f0, t0, t0] (ai (bf h0) (ai h1 (ai (bf h2) (a2 h3 trivial)))) (by kernel_rfl) rfl rfl
        · exact gv mix O_ 400 [(1, false), t0, f0, f0, f0] (ai (bf h0) (ai h1 (ai (bf h2) (a2 (bf h3) trivial)))) (by kernel_rfl) rfl rfl
    · refine gite (fun h2 => ?_) (fun h2 => ?_)
      · exact gv mix O_ 400 [(1, false), f0, t0] (ai (bf h0) (ai (bf h1) (ai h2 trivial))) (by kernel_rfl) rfl rfl
      · exact gv mix O_ 400 [(1, false), f0, f0] (ai (bf h0) (ai (bf h1) (ai (bf h2) trivial))) (by kernel_rfl) rfl rfl
theorem G_scalar_learn_5 (b : Bool) (c : Sc) (d : Sc) : Gives Tryz.prog 41 [(cI .i64).enc 5, cB.enc b, cSc.enc c, cSc.enc d] ((cP3 cSc cSc cB).enc (scalar_learn_5 b c d)) := by
  unfold scalar_learn_5
  have O_ := (orc_cons K_scalar_meet (orc_cons K_scalar_Is (orc_cons K_scalar_without on_)))
  refine gite (fun h0 => ?_) (fun h0 => ?_)
  · exact gv mix O_ 400 [(3, false)] (ai (cn h0) trivial) (by kernel_rfl) rfl rfl
  · refine gite (fun h1 => ?_) (fun h1 => ?_)
    · refine gite (fun h2 => ?_) (fun h2 => ?_)
      · refine gite (fun h3 => ?_) (fun h3 => ?_)
        · exact gv mix O_ 400 [(3, true), t0, t0, t0, t0] (ai (cn (bf h0)) (ai h1 (ai h2 (a2 h3 trivial)))) (by kernel_rfl) rfl rfl
        · exact gv mix O_ 400 [(3, true), t0, t0, f0, f0] (ai (cn (bf h0)) (ai h1 (ai h2 (a2 (bf h3) trivial)))) (by kernel_rfl) rfl rfl
      · refine gite (fun h3 => ?_) (fun h3 => ?_)
        · exact gv mix O_ 400 [(3, true), t0, f0, t0, t0] (ai (cn (bf h0)) (ai h1 (ai (bf h2) (a2 h3 trivial)))) (by kernel_rfl) rfl rfl
        · exact gv mix O_ 400 [(3, true), t0, f0, f0, f0] (ai (cn (bf h0)) (ai h1 (ai (bf h2) (a2 (bf h3) trivial)))) (by kernel_rfl) rfl rfl
    · refine gite (fun h2 => ?_) (fun h2 => ?_)
      · exact gv mix O_ 400 [(3, true), f0, t0] (ai (cn (bf h0)) (ai (bf h1) (ai h2 trivial))) (by kernel_rfl) rfl rfl
      · exact gv mix O_ 400 [(3, true), f0, f0] (ai (cn (bf h0)) (ai (bf h1) (ai (bf h2) trivial))) (by kernel_rfl) rfl rfl
theorem G_scalar_learn_6 (b : Bool) (c : Sc) (d : Sc) : Gives Tryz.prog 41 [(cI .i64).enc 6, cB.enc b, cSc.enc c, cSc.enc d] ((cP3 cSc cSc cB).enc (scalar_learn_6 b c d)) := by
  unfold scalar_learn_6
  have O_ := (orc_cons K_scalar_less on_)
  refine gite (fun h0 => ?_) (fun h0 => ?_)
  · exact gv mix O_ 400 [(30, true)] (ai h0 trivial) (by kernel_rfl) rfl rfl
  · exact gv mix O_ 400 [(30, false)] (ai (bf h0) trivial) (by kernel_rfl) rfl rfl
theorem G_scalar_learn_7 (b : Bool) (c : Sc) (d : Sc) : Gives Tryz.prog 41 [(cI .i64).enc 7, cB.enc b, cSc.enc c, cSc.enc d] ((cP3 cSc cSc cB).enc (scalar_learn_7 b c d)) := by
  unfold scalar_learn_7
  have O_ := (orc_cons K_scalar_less on_)
  refine gite (fun h0 => ?_) (fun h0 => ?_)
  · exact gv mix O_ 400 [(30, true)] (ai h0 trivial) (by kernel_rfl) rfl rfl
  · exact gv mix O_ 400 [(30, false)] (ai (bf h0) trivial) (by kernel_rfl) rfl rfl
theorem G_scalar_learn_10 (b : Bool) (c : Sc) (d : Sc) : Gives Tryz.prog 41 [(cI .i64).enc 10, cB.enc b, cSc.enc c, cSc.enc d] ((cP3 cSc cSc cB).enc (scalar_learn_10 b c d)) := by
  unfold scalar_learn_10
  have O_ := (orc_cons K_scalar_less on_)
  refine gite (fun h0 => ?_) (fun h0 => ?_)
  · exact gv mix O_ 400 [(30, true)] (ai h0 trivial) (by kernel_rfl) rfl rfl
  · exact gv mix O_ 400 [(30, false)] (ai (bf h0) trivial) (by kernel_rfl) rfl rfl
theorem G_scalar_learn_11 (b : Bool) (c : Sc) (d : Sc) : Gives Tryz.prog 41 [(cI .i64).enc 11, cB.enc b, cSc.enc c, cSc.enc d] ((cP3 cSc cSc cB).enc (scalar_learn_11 b c d)) := by
  unfold scalar_learn_11
  have O_ := (orc_cons K_scalar_less on_)
  refine gite (fun h0 => ?_) (fun h0 => ?_)
  · exact gv mix O_ 400 [(30, true)] (ai h0 trivial) (by kernel_rfl) rfl rfl
  · exact gv mix O_ 400 [(30, false)] (ai (bf h0) trivial) (by kernel_rfl) rfl rfl
theorem G_scalar_learn_12 (b : Bool) (c : Sc) (d : Sc) : Gives Tryz.prog 41 [(cI .i64).enc 12, cB.enc b, cSc.enc c, cSc.enc d] ((cP3 cSc cSc cB).enc (scalar_learn_12 b c d)) := by
  unfold scalar_learn_12
  have O_ := (orc_cons K_scalar_less on_)
  refine gite (fun h0 => ?_) (fun h0 => ?_)
  · exact gv mix O_ 400 [(30, true)] (ai h0 trivial) (by kernel_rfl) rfl rfl
  · exact gv mix O_ 400 [(30, false)] (ai (bf h0) trivial) (by kernel_rfl) rfl rfl
theorem G_scalar_learn_13 (b : Bool) (c : Sc) (d : Sc) : Gives Tryz.prog 41 [(cI .i64).enc 13, cB.enc b, cSc.enc c, cSc.enc d] ((cP3 cSc cSc cB).enc (scalar_learn_13 b c d)) := by
  unfold scalar_learn_13
  have O_ := (orc_cons K_scalar_less on_)
  refine gite (fun h0 => ?_) (fun h0 => ?_)
  · exact gv mix O_ 400 [(30, true)] (ai h0 trivial) (by kernel_rfl) rfl rfl
  · exact gv mix O_ 400 [(30, false)] (ai (bf h0) trivial) (by kernel_rfl) rfl rfl
theorem G_scalar_learn_x (a : Int) (b : Bool) (c : Sc) (d : Sc) (n0 : ¬ a = 1) (n1 : ¬ a = 2) (n2 : ¬ a = 3) (n3 : ¬ a = 4) (n4 : ¬ a = 5) (n5 : ¬ a = 6) (n6 : ¬ a = 7) (n7 : ¬ a = 10) (n8 : ¬ a = 11) (n9 : ¬ a = 12) (n10 : ¬ a = 13) : Gives Tryz.prog 41 [(cI .i64).enc a, cB.enc b, cSc.enc c, cSc.enc d] ((cP3 cSc cSc cB).enc (scalar_learn_x a b c d)) := by
  unfold scalar_learn_x
  have O_ := (orc_cons K_scalar_less on_)
  refine gite (fun h0 => ?_) (fun h0 => ?_)
  · exact gv mix O_ 400 [f0, f0, f0, f0, f0, f0, f0, f0, f0, f0, f0, f0, f0, f0, f0, f0, f0, f0, f0, f0, f0, f0, f0, f0, f0, f0, f0, f0, f0, f0, t0] (ai (bn n3) (ai (bn n0) (ai (bn n4) (a3 (bn n5) (a3 (bn n6) (a3 (bn n9) (a3 (bn n1) (a3 (bn n2) (a3 (bn n5) (a3 (bn n2) (a3 (bn n8) (a3 (bn n6) (ai h0 trivial))))))))))))) (by kernel_rfl) rfl rfl
  · exact gv mix O_ 400 [f0, f0, f0, f0, f0, f0, f0, f0, f0, f0, f0, f0, f0, f0, f0, f0, f0, f0, f0, f0, f0, f0, f0, f0, f0, f0, f0, f0, f0, f0, f0] (ai (bn n3) (ai (bn n0) (ai (bn n4) (a3 (bn n5) (a3 (bn n6) (a3 (bn n9) (a3 (bn n1) (a3 (bn n2) (a3 (bn n5) (a3 (bn n2) (a3 (bn n8) (a3 (bn n6) (ai (bf h0) trivial))))))))))))) (by kernel_rfl) rfl rfl
theorem K_scalar_learn : Keeps Tryz.prog 41 (F4 (cI .i64) cB cSc cSc (cP3 cSc cSc cB) (fun _ _ _ _ => []) scalar_learn) := by
  refine keeps4 _ _ _ _ _ (enters_of Tryz.func41 (by kernel_rfl)) fun a b c d hp_ => ?_
  unfold scalar_learn
  by_cases n0 : a = 1
  · subst n0; rw [if_pos rfl]; exact G_scalar_learn_1 b c d
  rw [if_neg n0]
  by_cases n1 : a = 2
  · subst n1; rw [if_pos rfl]; exact G_scalar_learn_2 b c d
  rw [if_neg n1]
  by_cases n2 : a = 3
  · subst n2; rw [if_pos rfl]; exact G_scalar_learn_3 b c d
  rw [if_neg n2]
  by_cases n3 : a = 4
  · subst n3; rw [if_pos rfl]; exact G_scalar_learn_4 b c d
  rw [if_neg n3]
  by_cases n4 : a = 5
  · subst n4; rw [if_pos rfl]; exact G_scalar_learn_5 b c d
  rw [if_neg n4]
  by_cases n5 : a = 6
  · subst n5; rw [if_pos rfl]; exact G_scalar_learn_6 b c d
  rw [if_neg n5]
  by_cases n6 : a = 7
  · subst n6; rw [if_pos rfl]; exact G_scalar_learn_7 b c d
  rw [if_neg n6]
  by_cases n7 : a = 10
  · subst n7; rw [if_pos rfl]; exact G_scalar_learn_10 b c d
  rw [if_neg n7]
  by_cases n8 : a = 11
  · subst n8; rw [if_pos rfl]; exact G_scalar_learn_11 b c d
  rw [if_neg n8]
  by_cases n9 : a = 12
  · subst n9; rw [if_pos rfl]; exact G_scalar_learn_12 b c d
  rw [if_neg n9]
  by_cases n10 : a = 13
  · subst n10; rw [if_pos rfl]; exact G_scalar_learn_13 b c d
  rw [if_neg n10]
  exact G_scalar_learn_x a b c d n0 n1 n2 n3 n4 n5 n6 n7 n8 n9 n10
end Go.Proofs.T
