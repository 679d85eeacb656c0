/- The plain law of RegJoin. No condition. -/
import Derived.Test.YtlfbhelaehdemaaLabG1
import Derived.Test.YtlfbhelaehdemaaLabD2
set_option linter.unusedVariables false
set_option linter.unusedSimpArgs false
namespace Go.AM

theorem q_StampOK (x : TStamp) : p_spec_StampOK x = some (decide (1 ≤ x.time ∧ x.time ≤ 1000000000000 ∧ 0 ≤ x.actor ∧ x.actor < 16)) := by
  unfold p_spec_StampOK
  simp only [decide_eq_true_eq]
  repeat' split
  all_goals (simp only [Option.some.injEq]; symm; first | (rw [decide_eq_false_iff_not]; omega) | (apply decide_eq_decide.2; omega))
theorem q_implStampOK (x : TStamp) : p_impl_StampOK x = p_spec_StampOK x := by
  rw [q_StampOK]
  unfold p_impl_StampOK p_impl_isActor
  simp only [decide_eq_true_eq]
  repeat' split
  all_goals simp only [Option.bind_some, Option.some.injEq]
  all_goals (symm; first | (rw [decide_eq_false_iff_not]; omega) | (apply decide_eq_decide.2; omega))
theorem q_StampLess (x y : TStamp) : p_spec_StampLess x y = some (decide (x.time < y.time ∨ (x.time = y.time ∧ x.actor < y.actor))) := by
  unfold p_spec_StampLess
  simp only [decide_eq_true_eq]
  repeat' split
  all_goals (simp only [Option.some.injEq]; symm; first | (rw [decide_eq_false_iff_not]; omega) | (rw [decide_eq_true_eq]; omega) | (apply decide_eq_decide.2; omega))
theorem q_implStampLess (x y : TStamp) : p_impl_StampLess x y = p_spec_StampLess x y := by
  rw [q_StampLess]
  unfold p_impl_StampLess
  simp only [decide_eq_true_eq]
  repeat' split
  all_goals (simp only [Option.some.injEq]; symm; first | (rw [decide_eq_false_iff_not]; omega) | (rw [decide_eq_true_eq]; omega) | (apply decide_eq_decide.2; omega))
theorem q_None (x : TStamp) : p_spec_l02None x = some (decide (x.time = 0 ∧ x.actor = 0)) := by
  unfold p_spec_l02None
  simp only [decide_eq_true_eq]
  repeat' split
  all_goals (simp only [Option.some.injEq]; symm; first | (rw [decide_eq_false_iff_not]; omega) | (rw [decide_eq_true_eq]; omega) | (apply decide_eq_decide.2; omega))
theorem q_eqStamp (x : TStamp) : p_laws_eqStamp x x = some true := by
  unfold p_laws_eqStamp
  simp
theorem q_eqReg (x : TReg) : p_laws_eqReg x x = some true := by
  unfold p_laws_eqReg
  simp [q_eqStamp]
theorem q_regOK (x : TReg) : p_impl_regOK x = p_spec_l03RegOK x := by
  unfold p_impl_regOK p_spec_l03RegOK
  rw [q_implStampOK, q_None, q_StampOK]
  obtain ⟨⟨a, b⟩, s⟩ := x
  simp only [Option.bind_some, decide_eq_true_eq, Bool.and_eq_true]
  by_cases h1 : a = 0 ∧ b = 0
  · obtain ⟨rfl, rfl⟩ := h1
    simp only [true_and, and_self, if_true]
    split
    · simp_all
    · rename_i h
      rw [if_neg (by omega)]
      simp [h]
  · rw [if_neg (by omega), if_neg h1]
theorem q_spec_total (x : TReg) : ∃ b, p_spec_l03RegOK x = some b := by
  unfold p_spec_l03RegOK
  rw [q_None, q_StampOK]
  simp only [Option.bind_some]
  repeat' split
  all_goals exact ⟨_, rfl⟩
theorem q_RegJoin (x y : TReg) : p_impl_RegJoin x y = p_spec_RegJoin x y := by
  unfold p_impl_RegJoin p_spec_RegJoin
  rw [q_regOK, q_regOK, q_implStampLess]
theorem q_RegJoin_total (x y : TReg) : ∃ r, p_spec_RegJoin x y = some r := by
  unfold p_spec_RegJoin
  obtain ⟨b, h1⟩ := q_spec_total x
  obtain ⟨c, h2⟩ := q_spec_total y
  rw [h1, h2, q_StampLess]
  simp only [Option.bind_some]
  repeat' split
  all_goals exact ⟨_, rfl⟩
theorem q_toReg (x : TReg) : p_laws_toReg x = some x := by
  unfold p_laws_toReg p_laws_toStamp
  rfl
theorem q_szReg (x : TReg) (n : Int) : ∃ m, p_laws_szReg x n = some m := by
  unfold p_laws_szReg
  repeat' split
  all_goals exact ⟨_, rfl⟩
theorem plain_RegJoin (x y : TReg) (hx : okTReg x) (hy : okTReg y) : p_laws_FnExactRegJoin x y = some true := by
  unfold p_laws_FnExactRegJoin
  obtain ⟨m, h1⟩ := q_szReg x 1048576
  obtain ⟨k, h2⟩ := q_szReg y m
  obtain ⟨r, h3⟩ := q_RegJoin_total x y
  simp only [h1, q_toReg, q_RegJoin, Option.bind_some, h2, h3, q_eqReg, decide_true, if_true]
  repeat' split
  all_goals rfl
end Go.AM
