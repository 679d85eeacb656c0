/- Plain functions of LensJoin and their walks. No condition. -/
import Derived.Test.YtjnkmdphjopboaaLabB34
set_option linter.unusedVariables false
set_option linter.unusedSimpArgs false
namespace Go.AM
open Pic (enc dec dec_enc dec_sub)
open PicA (encA decA decA_encA decA_sub)
noncomputable def p_laws_szStep (x0 : TStep) (x1 : Int) : Option Int :=
  if (decide (w64 (x1 - (x0.name.size : Int)) < 0)) = true then
    some (-1)
  else
    if (decide (w64 ((w64 (x1 - (x0.name.size : Int))) - (x0.to.size : Int)) < 0)) = true then
      some (-1)
    else
      if (decide (w64 ((w64 ((w64 (x1 - (x0.name.size : Int))) - (x0.to.size : Int))) - (x0.text.size : Int)) < 0)) = true then
        some (-1)
      else
        some (w64 ((w64 ((w64 (x1 - (x0.name.size : Int))) - (x0.to.size : Int))) - (x0.text.size : Int)))
def c_laws_szStep : AFn := ⟨27, (.seq (.ops [⟨(.some 2), (.box (.tmp 0)), .none, []⟩, ⟨(.some 4), (.mv (.const (.int .i64 0))), .none, []⟩]) (.seq (.ops [⟨(.some 5), (.mv (.tmp 1)), .none, []⟩, ⟨(.some 6), (.fieldA 1 (.tmp 2)), .none, []⟩, ⟨(.some 7), (.load 1 false (.tmp 6)), .none, []⟩, ⟨(.some 8), (.pu (.n .len) [(.tmp 7)]), .none, []⟩, ⟨(.some 9), (.pu (.n (.ar .sub)) [(.tmp 5), (.tmp 8)]), .none, []⟩, ⟨(.some 1), (.mv (.tmp 9)), .none, []⟩]) (.seq (.seq (.ops [⟨(.some 10), (.mv (.tmp 1)), .none, []⟩, ⟨(.some 11), (.pu (.n (.ar .lss)) [(.tmp 10), (.const (.int .i64 0))]), .none, []⟩]) (.cond (.tmp 11) (.seq (.ops [⟨(.some 4), (.mv (.const (.int .i64 (-1)))), .none, []⟩]) .ret) .skip)) (.seq (.ops [⟨(.some 12), (.mv (.tmp 1)), .none, []⟩, ⟨(.some 13), (.fieldA 2 (.tmp 2)), .none, []⟩, ⟨(.some 14), (.load 1 false (.tmp 13)), .none, []⟩, ⟨(.some 15), (.pu (.n .len) [(.tmp 14)]), .none, []⟩, ⟨(.some 16), (.pu (.n (.ar .sub)) [(.tmp 12), (.tmp 15)]), .none, []⟩, ⟨(.some 1), (.mv (.tmp 16)), .none, []⟩]) (.seq (.seq (.ops [⟨(.some 17), (.mv (.tmp 1)), .none, []⟩, ⟨(.some 18), (.pu (.n (.ar .lss)) [(.tmp 17), (.const (.int .i64 0))]), .none, []⟩]) (.cond (.tmp 18) (.seq (.ops [⟨(.some 4), (.mv (.const (.int .i64 (-1)))), .none, []⟩]) .ret) .skip)) (.seq (.ops [⟨(.some 19), (.mv (.tmp 1)), .none, []⟩, ⟨(.some 20), (.fieldA 3 (.tmp 2)), .none, []⟩, ⟨(.some 21), (.load 1 false (.tmp 20)), .none, []⟩, ⟨(.some 22), (.pu (.n .len) [(.tmp 21)]), .none, []⟩, ⟨(.some 23), (.pu (.n (.ar .sub)) [(.tmp 19), (.tmp 22)]), .none, []⟩, ⟨(.some 1), (.mv (.tmp 23)), .none, []⟩]) (.seq (.seq (.ops [⟨(.some 24), (.mv (.tmp 1)), .none, []⟩, ⟨(.some 25), (.pu (.n (.ar .lss)) [(.tmp 24), (.const (.int .i64 0))]), .none, []⟩]) (.cond (.tmp 25) (.seq (.ops [⟨(.some 4), (.mv (.const (.int .i64 (-1)))), .none, []⟩]) .ret) .skip)) (.seq (.ops [⟨(.some 26), (.mv (.tmp 1)), .none, []⟩, ⟨(.some 4), (.mv (.tmp 26)), .none, []⟩]) .ret)))))))), [(.tmp 4)]⟩
set_option maxHeartbeats 10000000 in
theorem d_laws_szStep {P : Program} {env : Env}  (x0 : TStep) (x1 : Int) {b : Int} (hp : p_laws_szStep x0 x1 = some b) : R P env (c_laws_szStep) ((encA (x0, x1)).map ofI) [] (Tells true b) := by
  refine R_of (by simp [c_laws_szStep, encA]) ?_
  unfold c_laws_szStep
  unfold p_laws_szStep at hp
  by_cases hb0 : (decide (w64 (x1 - (x0.name.size : Int)) < 0)) = true
  · rw [if_t hb0] at hp
    have hp := Option.some.inj hp
    subst hp
    simp (disch := first | omega | (simp only [List.length_set, List.length_append, List.length_cons, List.length_nil, rows_len, zs]; first | done | omega)) only [hb0, gs, app_hsl, app_nil, reduceIte, reduceCtorEq, Nat.reduceAdd, Nat.reduceMul, Nat.reduceSub, Nat.reduceBEq, Nat.reduceEqDiff, Nat.reduceLeDiff, Nat.reduceLT, Nat.reduceGT, Int.reduceToNat, Int.reduceLT, Int.reduceLE, Int.reduceNeg, Int.reduceAdd, Int.reduceEq, Int.reduceNe]
  · replace hb0 := eq_false_of_ne_true hb0
    rw [if_f hb0] at hp
    by_cases hb1 : (decide (w64 ((w64 (x1 - (x0.name.size : Int))) - (x0.to.size : Int)) < 0)) = true
    · rw [if_t hb1] at hp
      have hp := Option.some.inj hp
      subst hp
      simp (disch := first | omega | (simp only [List.length_set, List.length_append, List.length_cons, List.length_nil, rows_len, zs]; first | done | omega)) only [hb0, hb1, gs, app_hsl, app_nil, reduceIte, reduceCtorEq, Nat.reduceAdd, Nat.reduceMul, Nat.reduceSub, Nat.reduceBEq, Nat.reduceEqDiff, Nat.reduceLeDiff, Nat.reduceLT, Nat.reduceGT, Int.reduceToNat, Int.reduceLT, Int.reduceLE, Int.reduceNeg, Int.reduceAdd, Int.reduceEq, Int.reduceNe]
    · replace hb1 := eq_false_of_ne_true hb1
      rw [if_f hb1] at hp
      by_cases hb2 : (decide (w64 ((w64 ((w64 (x1 - (x0.name.size : Int))) - (x0.to.size : Int))) - (x0.text.size : Int)) < 0)) = true
      · rw [if_t hb2] at hp
        have hp := Option.some.inj hp
        subst hp
        simp (disch := first | omega | (simp only [List.length_set, List.length_append, List.length_cons, List.length_nil, rows_len, zs]; first | done | omega)) only [hb0, hb1, hb2, gs, app_hsl, app_nil, reduceIte, reduceCtorEq, Nat.reduceAdd, Nat.reduceMul, Nat.reduceSub, Nat.reduceBEq, Nat.reduceEqDiff, Nat.reduceLeDiff, Nat.reduceLT, Nat.reduceGT, Int.reduceToNat, Int.reduceLT, Int.reduceLE, Int.reduceNeg, Int.reduceAdd, Int.reduceEq, Int.reduceNe]
      · replace hb2 := eq_false_of_ne_true hb2
        rw [if_f hb2] at hp
        have hp := Option.some.inj hp
        subst hp
        simp (disch := first | omega | (simp only [List.length_set, List.length_append, List.length_cons, List.length_nil, rows_len, zs]; first | done | omega)) only [hb0, hb1, hb2, gs, app_hsl, app_nil, reduceIte, reduceCtorEq, Nat.reduceAdd, Nat.reduceMul, Nat.reduceSub, Nat.reduceBEq, Nat.reduceEqDiff, Nat.reduceLeDiff, Nat.reduceLT, Nat.reduceGT, Int.reduceToNat, Int.reduceLT, Int.reduceLE, Int.reduceNeg, Int.reduceAdd, Int.reduceEq, Int.reduceNe]

noncomputable def p_laws_szStepS_l0 (x0 : List TStep) : Int × Int → Option (Lp (Int × Int) Int)
  | (s1, s2) =>
    if (decide (s2 < (x0.length : Int))) = true then
      (get? x0 s2).bind fun v4 =>
      (p_laws_szStep v4 s1).bind fun v5 =>
      if (decide (v5 < 0)) = true then
        some (.ret (-1))
      else
        some (.go (v5, w64 (s2 + 1)))
    else
      some (.out (s1, s2))
noncomputable def p_laws_szStepS (x0 : List TStep) (x1 : Int) : Option Int :=
  if (decide (w64 (x1 - (x0.length : Int)) < 0)) = true then
    some (-1)
  else
    (loopP (p_laws_szStepS_l0 x0) (w64 (x1 - (x0.length : Int)), 0)).bind fun ee0 => match ee0 with
    | .ret r => some r
    | .out (o7, o8) =>
      some o7
def c_laws_szStepS (f_laws_szStep : Nat) : AFn := ⟨27, (.seq (.ops [⟨(.some 4), (.mv (.const (.int .i64 0))), .none, []⟩]) (.seq (.ops [⟨(.some 6), (.mv (.tmp 1)), .none, []⟩, ⟨(.some 7), (.mv (.tmp 0)), .none, []⟩, ⟨(.some 8), (.len (.tmp 7)), .none, []⟩, ⟨(.some 9), (.pu (.n (.ar .sub)) [(.tmp 6), (.tmp 8)]), .none, []⟩, ⟨(.some 1), (.mv (.tmp 9)), .none, []⟩]) (.seq (.seq (.ops [⟨(.some 10), (.mv (.tmp 1)), .none, []⟩, ⟨(.some 11), (.pu (.n (.ar .lss)) [(.tmp 10), (.const (.int .i64 0))]), .none, []⟩]) (.cond (.tmp 11) (.seq (.ops [⟨(.some 4), (.mv (.const (.int .i64 (-1)))), .none, []⟩]) .ret) .skip)) (.seq (.seq (.ops [⟨(.some 5), (.mv (.const (.int .i64 0))), .none, []⟩]) (.block 0 (.loop (.seq (.seq (.ops [⟨(.some 12), (.mv (.tmp 5)), .none, []⟩, ⟨(.some 13), (.mv (.tmp 0)), .none, []⟩, ⟨(.some 14), (.len (.tmp 13)), .none, []⟩, ⟨(.some 15), (.pu (.n (.ar .lss)) [(.tmp 12), (.tmp 14)]), .none, []⟩]) (.cond (.tmp 15) .skip (.exit 0))) (.seq (.block 1 (.seq (.ops [⟨(.some 18), (.mv (.tmp 0)), .none, []⟩, ⟨(.some 19), (.mv (.tmp 5)), .none, []⟩, ⟨(.some 20), (.idxS 4 (.tmp 18) (.tmp 19)), .none, []⟩, ⟨(.some 21), (.load 4 true (.tmp 20)), .none, []⟩, ⟨(.some 22), (.mv (.tmp 1)), .none, []⟩, ⟨(.some 23), (.call (2 * f_laws_szStep) [(.tmp 21), (.tmp 22)]), .none, []⟩, ⟨(.some 1), (.mv (.tmp 23)), .none, []⟩]) (.seq (.ops [⟨(.some 24), (.mv (.tmp 1)), .none, []⟩, ⟨(.some 25), (.pu (.n (.ar .lss)) [(.tmp 24), (.const (.int .i64 0))]), .none, []⟩]) (.cond (.tmp 25) (.seq (.ops [⟨(.some 4), (.mv (.const (.int .i64 (-1)))), .none, []⟩]) .ret) .skip)))) (.ops [⟨(.some 16), (.mv (.tmp 5)), .none, []⟩, ⟨(.some 17), (.pu (.n (.ar .add)) [(.tmp 16), (.const (.int .i64 1))]), .none, []⟩, ⟨(.some 5), (.mv (.tmp 17)), .none, []⟩])))))) (.seq (.ops [⟨(.some 26), (.mv (.tmp 1)), .none, []⟩, ⟨(.some 4), (.mv (.tmp 26)), .none, []⟩]) .ret))))), [(.tmp 4)]⟩
set_option maxHeartbeats 10000000 in
theorem d_laws_szStepS {P : Program} {env : Env} {f_laws_szStep : Nat}  (ep_laws_szStep : env (2 * f_laws_szStep) = pureFn true (FA fun a : TStep × Int => p_laws_szStep a.1 a.2)) (x0 : List TStep) (x1 : Int) {b : Int} (hp : p_laws_szStepS x0 x1 = some b) : R P env (c_laws_szStepS f_laws_szStep) ((encA (x0, x1)).map ofI) [] (Tells true b) := by
  refine R_of (by simp [c_laws_szStepS, encA]) ?_
  unfold c_laws_szStepS
  unfold p_laws_szStepS at hp
  by_cases hb0 : (decide (w64 (x1 - (x0.length : Int)) < 0)) = true
  · rw [if_t hb0] at hp
    have hp := Option.some.inj hp
    subst hp
    simp (disch := first | omega | (simp only [List.length_set, List.length_append, List.length_cons, List.length_nil, rows_len, zs]; first | done | omega)) only [ep_laws_szStep, hb0, gs, app_hsl, app_nil, reduceIte, reduceCtorEq, Nat.reduceAdd, Nat.reduceMul, Nat.reduceSub, Nat.reduceBEq, Nat.reduceEqDiff, Nat.reduceLeDiff, Nat.reduceLT, Nat.reduceGT, Int.reduceToNat, Int.reduceLT, Int.reduceLE, Int.reduceNeg, Int.reduceAdd, Int.reduceEq, Int.reduceNe]
  · replace hb0 := eq_false_of_ne_true hb0
    rw [if_f hb0] at hp
    obtain ⟨ee0, hee0, hp⟩ := bind_eq hp
    simp (disch := first | omega | (simp only [List.length_set, List.length_append, List.length_cons, List.length_nil, rows_len, zs]; first | done | omega)) only [ep_laws_szStep, hb0, gs, app_hsl, app_nil, reduceIte, reduceCtorEq, Nat.reduceAdd, Nat.reduceMul, Nat.reduceSub, Nat.reduceBEq, Nat.reduceEqDiff, Nat.reduceLeDiff, Nat.reduceLT, Nat.reduceGT, Int.reduceToNat, Int.reduceLT, Int.reduceLE, Int.reduceNeg, Int.reduceAdd, Int.reduceEq, Int.reduceNe]
    refine W_loopP 0 (fun s t h => match s with | (s1, s2) => t 0 = .i (.sl 4 (x0.map enc)) ∧ t 1 = .i (.s (.int .i64 s1)) ∧ t 5 = .i (.s (.int .i64 s2))) (RK [.tmp 4] (Tells true)) ?_ hee0 ?_ ?_
    · rintro ⟨s1, s2⟩ ee tt0 hh0 ⟨ftt0_0, ftt0_1, ftt0_2⟩ hp
      rw [p_laws_szStepS_l0] at hp
      by_cases hb3 : (decide (s2 < (x0.length : Int))) = true
      · rw [if_t hb3] at hp
        obtain ⟨v4, hv4, hp⟩ := bind_eq hp
        obtain ⟨v5, hv5, hp⟩ := bind_eq hp
        by_cases hb6 : (decide (v5 < 0)) = true
        · rw [if_t hb6] at hp
          have hp := Option.some.inj hp
          subst hp
          simp (disch := first | omega | (simp only [List.length_set, List.length_append, List.length_cons, List.length_nil, rows_len, zs]; first | done | omega)) only [ep_laws_szStep, hb0, ftt0_0, ftt0_1, ftt0_2, hb3, hv4, hv5, hb6, gs, app_hsl, app_nil, reduceIte, reduceCtorEq, Nat.reduceAdd, Nat.reduceMul, Nat.reduceSub, Nat.reduceBEq, Nat.reduceEqDiff, Nat.reduceLeDiff, Nat.reduceLT, Nat.reduceGT, Int.reduceToNat, Int.reduceLT, Int.reduceLE, Int.reduceNeg, Int.reduceAdd, Int.reduceEq, Int.reduceNe]
        · replace hb6 := eq_false_of_ne_true hb6
          rw [if_f hb6] at hp
          have hp := Option.some.inj hp
          subst hp
          simp (disch := first | omega | (simp only [List.length_set, List.length_append, List.length_cons, List.length_nil, rows_len, zs]; first | done | omega)) only [ep_laws_szStep, hb0, ftt0_0, ftt0_1, ftt0_2, hb3, hv4, hv5, hb6, gs, app_hsl, app_nil, reduceIte, reduceCtorEq, Nat.reduceAdd, Nat.reduceMul, Nat.reduceSub, Nat.reduceBEq, Nat.reduceEqDiff, Nat.reduceLeDiff, Nat.reduceLT, Nat.reduceGT, Int.reduceToNat, Int.reduceLT, Int.reduceLE, Int.reduceNeg, Int.reduceAdd, Int.reduceEq, Int.reduceNe] <;> omega
      · replace hb3 := eq_false_of_ne_true hb3
        rw [if_f hb3] at hp
        have hp := Option.some.inj hp
        subst hp
        simp (disch := first | omega | (simp only [List.length_set, List.length_append, List.length_cons, List.length_nil, rows_len, zs]; first | done | omega)) only [ep_laws_szStep, hb0, ftt0_0, ftt0_1, ftt0_2, hb3, gs, app_hsl, app_nil, reduceIte, reduceCtorEq, Nat.reduceAdd, Nat.reduceMul, Nat.reduceSub, Nat.reduceBEq, Nat.reduceEqDiff, Nat.reduceLeDiff, Nat.reduceLT, Nat.reduceGT, Int.reduceToNat, Int.reduceLT, Int.reduceLE, Int.reduceNeg, Int.reduceAdd, Int.reduceEq, Int.reduceNe] <;> omega
    · simp (disch := first | omega | (simp only [List.length_set, List.length_append, List.length_cons, List.length_nil, rows_len, zs]; first | done | omega)) only [ep_laws_szStep, hb0, gs, app_hsl, app_nil, reduceIte, reduceCtorEq, Nat.reduceAdd, Nat.reduceMul, Nat.reduceSub, Nat.reduceBEq, Nat.reduceEqDiff, Nat.reduceLeDiff, Nat.reduceLT, Nat.reduceGT, Int.reduceToNat, Int.reduceLT, Int.reduceLE, Int.reduceNeg, Int.reduceAdd, Int.reduceEq, Int.reduceNe] <;> omega
    · intro x tt1 hh1 hx
      rcases ee0 with ⟨o7, o8⟩ | r
      · obtain ⟨rfl, ftt1_0, ftt1_1, ftt1_2⟩ := hx
        dsimp only at hp
        have hp := Option.some.inj hp
        subst hp
        simp (disch := first | omega | (simp only [List.length_set, List.length_append, List.length_cons, List.length_nil, rows_len, zs]; first | done | omega)) only [ep_laws_szStep, hb0, ftt1_0, ftt1_1, ftt1_2, gs, app_hsl, app_nil, reduceIte, reduceCtorEq, Nat.reduceAdd, Nat.reduceMul, Nat.reduceSub, Nat.reduceBEq, Nat.reduceEqDiff, Nat.reduceLeDiff, Nat.reduceLT, Nat.reduceGT, Int.reduceToNat, Int.reduceLT, Int.reduceLE, Int.reduceNeg, Int.reduceAdd, Int.reduceEq, Int.reduceNe]
      · obtain ⟨rfl, hx⟩ := hx
        dsimp only at hp
        cases hp
        simp only [seqK_ret, blockK_ret, retK_RK (K := Tells true), hx, and_self, true_and]

noncomputable def p_laws_toStep (x0 : TStep) : Option TStep :=
  some x0
def c_laws_toStep : AFn := ⟨17, (.seq (.ops [⟨(.some 1), (.box (.tmp 0)), .none, []⟩, ⟨(.some 2), (.allocV [(0, false), (0, false), (0, false), (0, false)] [(.int .i64 0), (.string ⟨#[]⟩), (.string ⟨#[]⟩), (.string ⟨#[]⟩)]), .none, []⟩]) (.seq (.ops [⟨(.some 3), (.allocV [(0, false), (0, false), (0, false), (0, false)] [(.int .i64 0), (.string ⟨#[]⟩), (.string ⟨#[]⟩), (.string ⟨#[]⟩)]), .none, []⟩]) (.seq (.ops [⟨(.some 4), (.fieldA 0 (.tmp 1)), .none, []⟩, ⟨(.some 5), (.load 1 false (.tmp 4)), .none, []⟩, ⟨(.some 6), (.fieldA 0 (.tmp 3)), .none, []⟩, ⟨.none, (.storeV [(0, false)] 1 (.tmp 6) (.tmp 5)), .none, []⟩]) (.seq (.ops [⟨(.some 7), (.fieldA 1 (.tmp 1)), .none, []⟩, ⟨(.some 8), (.load 1 false (.tmp 7)), .none, []⟩, ⟨(.some 9), (.fieldA 1 (.tmp 3)), .none, []⟩, ⟨.none, (.storeV [(0, false)] 1 (.tmp 9) (.tmp 8)), .none, []⟩]) (.seq (.ops [⟨(.some 10), (.fieldA 2 (.tmp 1)), .none, []⟩, ⟨(.some 11), (.load 1 false (.tmp 10)), .none, []⟩, ⟨(.some 12), (.fieldA 2 (.tmp 3)), .none, []⟩, ⟨.none, (.storeV [(0, false)] 1 (.tmp 12) (.tmp 11)), .none, []⟩]) (.seq (.ops [⟨(.some 13), (.fieldA 3 (.tmp 1)), .none, []⟩, ⟨(.some 14), (.load 1 false (.tmp 13)), .none, []⟩, ⟨(.some 15), (.fieldA 3 (.tmp 3)), .none, []⟩, ⟨.none, (.storeV [(0, false)] 1 (.tmp 15) (.tmp 14)), .none, []⟩]) (.seq (.ops [⟨(.some 16), (.load 4 true (.tmp 3)), .none, []⟩, ⟨.none, (.storeV [(0, false), (0, false), (0, false), (0, false)] 4 (.tmp 2) (.tmp 16)), .none, []⟩]) .ret))))))), [(.cell 2 4 true)]⟩
set_option maxHeartbeats 10000000 in
theorem d_laws_toStep {P : Program} {env : Env}  (x0 : TStep) {b : TStep} (hp : p_laws_toStep x0 = some b) : R P env (c_laws_toStep) ((encA (x0)).map ofI) [] (Tells true b) := by
  refine R_of (by simp [c_laws_toStep, encA]) ?_
  unfold c_laws_toStep
  unfold p_laws_toStep at hp
  have hp := Option.some.inj hp
  subst hp
  simp (disch := first | omega | (simp only [List.length_set, List.length_append, List.length_cons, List.length_nil, rows_len, zs]; first | done | omega)) only [gs, app_hsl, app_nil, reduceIte, reduceCtorEq, Nat.reduceAdd, Nat.reduceMul, Nat.reduceSub, Nat.reduceBEq, Nat.reduceEqDiff, Nat.reduceLeDiff, Nat.reduceLT, Nat.reduceGT, Int.reduceToNat, Int.reduceLT, Int.reduceLE, Int.reduceNeg, Int.reduceAdd, Int.reduceEq, Int.reduceNe]

noncomputable def p_laws_toStepS_l0 (x0 : List TStep) : List TStep × Int → Option (Lp (List TStep × Int) (List TStep))
  | (s1, s2) =>
    if (decide (s2 < (x0.length : Int))) = true then
      (get? x0 s2).bind fun v4 =>
      (p_laws_toStep v4).bind fun v5 =>
      (get? s1 s2).bind fun v6 =>
      some (.go ((s1.set s2.toNat v5), w64 (s2 + 1)))
    else
      some (.out (s1, s2))
noncomputable def p_laws_toStepS (x0 : List TStep) : Option (List TStep) :=
  ((mkL (x0.length : Int) 56 (x0.length : Int) (TStep.mk 0 (ByteArray.mk #[]) (ByteArray.mk #[]) (ByteArray.mk #[])) : Option (List TStep))).bind fun v0 =>
  (loopP (p_laws_toStepS_l0 x0) (v0, 0)).bind fun ee0 => match ee0 with
  | .ret r => some r
  | .out (o8, o9) =>
    some o8
def c_laws_toStepS (f_laws_toStep : Nat) : AFn := ⟨23, (.seq (.ops [⟨(.some 2), (.vnil 4 true), .none, []⟩]) (.seq (.ops [⟨(.some 5), (.mv (.tmp 0)), .none, []⟩, ⟨(.some 6), (.len (.tmp 5)), .none, []⟩, ⟨(.some 7), (.makeSl 4 true 56 [(.int .i64 0), (.string ⟨#[]⟩), (.string ⟨#[]⟩), (.string ⟨#[]⟩)] (.tmp 6) (.tmp 6)), .none, []⟩, ⟨(.some 3), (.mv (.tmp 7)), .none, []⟩]) (.seq (.seq (.ops [⟨(.some 4), (.mv (.const (.int .i64 0))), .none, []⟩]) (.block 0 (.loop (.seq (.seq (.ops [⟨(.some 8), (.mv (.tmp 4)), .none, []⟩, ⟨(.some 9), (.mv (.tmp 0)), .none, []⟩, ⟨(.some 10), (.len (.tmp 9)), .none, []⟩, ⟨(.some 11), (.pu (.n (.ar .lss)) [(.tmp 8), (.tmp 10)]), .none, []⟩]) (.cond (.tmp 11) .skip (.exit 0))) (.seq (.block 1 (.ops [⟨(.some 14), (.mv (.tmp 3)), .none, []⟩, ⟨(.some 15), (.mv (.tmp 4)), .none, []⟩, ⟨(.some 16), (.mv (.tmp 0)), .none, []⟩, ⟨(.some 17), (.mv (.tmp 4)), .none, []⟩, ⟨(.some 18), (.idxS 4 (.tmp 16) (.tmp 17)), .none, []⟩, ⟨(.some 19), (.load 4 true (.tmp 18)), .none, []⟩, ⟨(.some 20), (.call (2 * f_laws_toStep) [(.tmp 19)]), .none, []⟩, ⟨(.some 21), (.idxS 4 (.tmp 14) (.tmp 15)), .none, []⟩, ⟨.none, (.storeV [(0, false), (0, false), (0, false), (0, false)] 4 (.tmp 21) (.tmp 20)), .none, []⟩])) (.ops [⟨(.some 12), (.mv (.tmp 4)), .none, []⟩, ⟨(.some 13), (.pu (.n (.ar .add)) [(.tmp 12), (.const (.int .i64 1))]), .none, []⟩, ⟨(.some 4), (.mv (.tmp 13)), .none, []⟩])))))) (.seq (.ops [⟨(.some 22), (.mv (.tmp 3)), .none, []⟩, ⟨(.some 2), (.mv (.tmp 22)), .none, []⟩]) .ret)))), [(.tmp 2)]⟩
set_option maxHeartbeats 10000000 in
theorem d_laws_toStepS {P : Program} {env : Env} {f_laws_toStep : Nat}  (ep_laws_toStep : env (2 * f_laws_toStep) = pureFn true (FA fun a : TStep => p_laws_toStep a)) (x0 : List TStep) {b : List TStep} (hp : p_laws_toStepS x0 = some b) : R P env (c_laws_toStepS f_laws_toStep) ((encA (x0)).map ofI) [] (Tells true b) := by
  refine R_of (by simp [c_laws_toStepS, encA]) ?_
  unfold c_laws_toStepS
  unfold p_laws_toStepS at hp
  obtain ⟨v0, hv0, hp⟩ := bind_eq hp
  obtain ⟨kv0, qv0, lv0⟩ := mkL_some hv0
  have rv0 : (List.replicate x0.length [.i (.s (.int .i64 0)), .i (.s (.string (ByteArray.mk #[]))), .i (.s (.string (ByteArray.mk #[]))), .i (.s (.string (ByteArray.mk #[])))]).flatten = rows v0 := by rw [qv0]; exact rows_rep (x := ((TStep.mk 0 (ByteArray.mk #[]) (ByteArray.mk #[]) (ByteArray.mk #[])) : TStep)) rfl
  have mv0 : x0.length = v0.length := by rw [lv0]; simp
  obtain ⟨ee0, hee0, hp⟩ := bind_eq hp
  simp (disch := first | omega | (simp only [List.length_set, List.length_append, List.length_cons, List.length_nil, rows_len, zs]; first | done | omega)) only [ep_laws_toStep, hv0, rv0, kv0.1, kv0.2.1, kv0.2.2.1, kv0.2.2.2, gs, app_hsl, app_nil, reduceIte, reduceCtorEq, Nat.reduceAdd, Nat.reduceMul, Nat.reduceSub, Nat.reduceBEq, Nat.reduceEqDiff, Nat.reduceLeDiff, Nat.reduceLT, Nat.reduceGT, Int.reduceToNat, Int.reduceLT, Int.reduceLE, Int.reduceNeg, Int.reduceAdd, Int.reduceEq, Int.reduceNe]
  refine W_loopP 0 (fun s t h => match s with | (s1, s2) => t 0 = .i (.sl 4 (x0.map enc)) ∧ t 3 = .hsl 1 (x0.length * 4) 0 4 true x0.length ∧ t 4 = .i (.s (.int .i64 s2)) ∧ getCells h 1 (x0.length * 4) = some (rows (s1 : List TStep)) ∧ 1 < h.length) (RK [.tmp 2] (Tells true)) ?_ hee0 ?_ ?_
  · rintro ⟨s1, s2⟩ ee tt0 hh0 ⟨ftt0_0, ftt0_1, ftt0_2, ftt0_3, ftt0_4⟩ hp
    have ztt0_3 := len_rows ftt0_3
    simp only [zs] at ztt0_3
    rw [p_laws_toStepS_l0] at hp
    by_cases hb3 : (decide (s2 < (x0.length : Int))) = true
    · rw [if_t hb3] at hp
      obtain ⟨v4, hv4, hp⟩ := bind_eq hp
      obtain ⟨v5, hv5, hp⟩ := bind_eq hp
      obtain ⟨v6, hv6, hp⟩ := bind_eq hp
      have gv6 := get_some hv6
      have hs7 : List.take (s2.toNat * 4) (rows s1) ++ .i (.s (.int .i64 v5.kind)) :: .i (.s (.string v5.name)) :: .i (.s (.string v5.to)) :: .i (.s (.string v5.text)) :: List.drop (s2.toNat * 4 + 4) (rows s1) = rows (s1.set s2.toNat v5) := by simpa [splice, zs, cellsV, I.cells, enc_TStep] using rows_set_off (y := v5) (ys := [.i (.s (.int .i64 v5.kind)), .i (.s (.string v5.name)), .i (.s (.string v5.to)), .i (.s (.string v5.text))]) (k := 0) gv6.2.2 (Nat.le_of_ble_eq_true rfl) (by rfl)
      have hp := Option.some.inj hp
      subst hp
      simp (disch := first | omega | (simp only [List.length_set, List.length_append, List.length_cons, List.length_nil, rows_len, zs]; first | done | omega)) only [ep_laws_toStep, hv0, rv0, kv0.1, kv0.2.1, kv0.2.2.1, kv0.2.2.2, ftt0_0, ftt0_1, ftt0_2, ftt0_3, ftt0_4, hb3, hv4, hv5, hv6, (gv6).1, (gv6).2.1, hs7, gs, app_hsl, app_nil, reduceIte, reduceCtorEq, Nat.reduceAdd, Nat.reduceMul, Nat.reduceSub, Nat.reduceBEq, Nat.reduceEqDiff, Nat.reduceLeDiff, Nat.reduceLT, Nat.reduceGT, Int.reduceToNat, Int.reduceLT, Int.reduceLE, Int.reduceNeg, Int.reduceAdd, Int.reduceEq, Int.reduceNe] <;> omega
    · replace hb3 := eq_false_of_ne_true hb3
      rw [if_f hb3] at hp
      have hp := Option.some.inj hp
      subst hp
      simp (disch := first | omega | (simp only [List.length_set, List.length_append, List.length_cons, List.length_nil, rows_len, zs]; first | done | omega)) only [ep_laws_toStep, hv0, rv0, kv0.1, kv0.2.1, kv0.2.2.1, kv0.2.2.2, ftt0_0, ftt0_1, ftt0_2, ftt0_3, ftt0_4, hb3, gs, app_hsl, app_nil, reduceIte, reduceCtorEq, Nat.reduceAdd, Nat.reduceMul, Nat.reduceSub, Nat.reduceBEq, Nat.reduceEqDiff, Nat.reduceLeDiff, Nat.reduceLT, Nat.reduceGT, Int.reduceToNat, Int.reduceLT, Int.reduceLE, Int.reduceNeg, Int.reduceAdd, Int.reduceEq, Int.reduceNe] <;> omega
  · simp (disch := first | omega | (simp only [List.length_set, List.length_append, List.length_cons, List.length_nil, rows_len, zs]; first | done | omega)) only [ep_laws_toStep, hv0, rv0, kv0.1, kv0.2.1, kv0.2.2.1, kv0.2.2.2, gs, app_hsl, app_nil, reduceIte, reduceCtorEq, Nat.reduceAdd, Nat.reduceMul, Nat.reduceSub, Nat.reduceBEq, Nat.reduceEqDiff, Nat.reduceLeDiff, Nat.reduceLT, Nat.reduceGT, Int.reduceToNat, Int.reduceLT, Int.reduceLE, Int.reduceNeg, Int.reduceAdd, Int.reduceEq, Int.reduceNe] <;> omega
  · intro x tt1 hh1 hx
    rcases ee0 with ⟨o8, o9⟩ | r
    · obtain ⟨rfl, ftt1_0, ftt1_1, ftt1_2, ftt1_3, ftt1_4⟩ := hx
      have ztt1_3 := len_rows ftt1_3
      simp only [zs] at ztt1_3
      dsimp only at hp
      have hp := Option.some.inj hp
      subst hp
      simp (disch := first | omega | (simp only [List.length_set, List.length_append, List.length_cons, List.length_nil, rows_len, zs]; first | done | omega)) only [ep_laws_toStep, hv0, rv0, kv0.1, kv0.2.1, kv0.2.2.1, kv0.2.2.2, ftt1_0, ftt1_1, ftt1_2, ftt1_3, ftt1_4, gs, app_hsl, app_nil, reduceIte, reduceCtorEq, Nat.reduceAdd, Nat.reduceMul, Nat.reduceSub, Nat.reduceBEq, Nat.reduceEqDiff, Nat.reduceLeDiff, Nat.reduceLT, Nat.reduceGT, Int.reduceToNat, Int.reduceLT, Int.reduceLE, Int.reduceNeg, Int.reduceAdd, Int.reduceEq, Int.reduceNe]
    · obtain ⟨rfl, hx⟩ := hx
      dsimp only at hp
      cases hp
      simp only [seqK_ret, blockK_ret, retK_RK (K := Tells true), hx, and_self, true_and]

def o_laws_toStepS (b : List TStep) (v : V) (h : Heap) : Prop := ∃ n0 : Nat, v = .hsl n0 (b.length * 4) 0 4 true b.length ∧ getCells h n0 (b.length * 4) = some (rows b)
def oo_laws_toStepS (b : List TStep) (h : Heap) (v : V) (h2 : Heap) : Prop := Keep [] h h2 ∧ ∃ n0 : Nat, v = .hsl n0 (b.length * 4) 0 4 true b.length ∧ n0 < h2.length ∧ h.length ≤ n0 ∧ getCells h2 n0 (b.length * 4) = some (rows b)
def k_laws_toStepS (F : Fun) : Prop := ∀ (x0 : List TStep) (b : List TStep), p_laws_toStepS x0 = some b → ∀ (h : Heap) (args : List V), snapA 9 false h args = some (encA (x0)) → ∃ p, F none args h = some p ∧ oo_laws_toStepS b h p.1 p.2
set_option maxHeartbeats 10000000 in
theorem w_laws_toStepS {P : Program} {env : Env} {f_laws_toStep : Nat}  (ep_laws_toStep : env (2 * f_laws_toStep) = pureFn true (FA fun a : TStep => p_laws_toStep a)) (x0 : List TStep) {b : List TStep} (hp : p_laws_toStepS x0 = some b) : R P env (c_laws_toStepS f_laws_toStep) ((encA (x0)).map ofI) [] (o_laws_toStepS b) := by
  refine R_of (by simp [c_laws_toStepS, encA]) ?_
  unfold c_laws_toStepS
  unfold p_laws_toStepS at hp
  obtain ⟨v0, hv0, hp⟩ := bind_eq hp
  obtain ⟨kv0, qv0, lv0⟩ := mkL_some hv0
  have rv0 : (List.replicate x0.length [.i (.s (.int .i64 0)), .i (.s (.string (ByteArray.mk #[]))), .i (.s (.string (ByteArray.mk #[]))), .i (.s (.string (ByteArray.mk #[])))]).flatten = rows v0 := by rw [qv0]; exact rows_rep (x := ((TStep.mk 0 (ByteArray.mk #[]) (ByteArray.mk #[]) (ByteArray.mk #[])) : TStep)) rfl
  have mv0 : x0.length = v0.length := by rw [lv0]; simp
  obtain ⟨ee0, hee0, hp⟩ := bind_eq hp
  simp (disch := first | omega | (simp only [List.length_set, List.length_append, List.length_cons, List.length_nil, rows_len, zs]; first | done | omega)) only [ep_laws_toStep, hv0, rv0, kv0.1, kv0.2.1, kv0.2.2.1, kv0.2.2.2, gs, app_hsl, app_nil, reduceIte, reduceCtorEq, Nat.reduceAdd, Nat.reduceMul, Nat.reduceSub, Nat.reduceBEq, Nat.reduceEqDiff, Nat.reduceLeDiff, Nat.reduceLT, Nat.reduceGT, Int.reduceToNat, Int.reduceLT, Int.reduceLE, Int.reduceNeg, Int.reduceAdd, Int.reduceEq, Int.reduceNe]
  refine W_loopP 0 (fun s t h => match s with | (s1, s2) => t 0 = .i (.sl 4 (x0.map enc)) ∧ t 3 = .hsl 1 (x0.length * 4) 0 4 true x0.length ∧ t 4 = .i (.s (.int .i64 s2)) ∧ getCells h 1 (x0.length * 4) = some (rows (s1 : List TStep)) ∧ 1 < h.length) (RK [.tmp 2] (o_laws_toStepS)) ?_ hee0 ?_ ?_
  · rintro ⟨s1, s2⟩ ee tt0 hh0 ⟨ftt0_0, ftt0_1, ftt0_2, ftt0_3, ftt0_4⟩ hp
    have ztt0_3 := len_rows ftt0_3
    simp only [zs] at ztt0_3
    rw [p_laws_toStepS_l0] at hp
    by_cases hb3 : (decide (s2 < (x0.length : Int))) = true
    · rw [if_t hb3] at hp
      obtain ⟨v4, hv4, hp⟩ := bind_eq hp
      obtain ⟨v5, hv5, hp⟩ := bind_eq hp
      obtain ⟨v6, hv6, hp⟩ := bind_eq hp
      have gv6 := get_some hv6
      have hs7 : List.take (s2.toNat * 4) (rows s1) ++ .i (.s (.int .i64 v5.kind)) :: .i (.s (.string v5.name)) :: .i (.s (.string v5.to)) :: .i (.s (.string v5.text)) :: List.drop (s2.toNat * 4 + 4) (rows s1) = rows (s1.set s2.toNat v5) := by simpa [splice, zs, cellsV, I.cells, enc_TStep] using rows_set_off (y := v5) (ys := [.i (.s (.int .i64 v5.kind)), .i (.s (.string v5.name)), .i (.s (.string v5.to)), .i (.s (.string v5.text))]) (k := 0) gv6.2.2 (Nat.le_of_ble_eq_true rfl) (by rfl)
      have hp := Option.some.inj hp
      subst hp
      simp (disch := first | omega | (simp only [List.length_set, List.length_append, List.length_cons, List.length_nil, rows_len, zs]; first | done | omega)) only [ep_laws_toStep, hv0, rv0, kv0.1, kv0.2.1, kv0.2.2.1, kv0.2.2.2, ftt0_0, ftt0_1, ftt0_2, ftt0_3, ftt0_4, hb3, hv4, hv5, hv6, (gv6).1, (gv6).2.1, hs7, gs, app_hsl, app_nil, reduceIte, reduceCtorEq, Nat.reduceAdd, Nat.reduceMul, Nat.reduceSub, Nat.reduceBEq, Nat.reduceEqDiff, Nat.reduceLeDiff, Nat.reduceLT, Nat.reduceGT, Int.reduceToNat, Int.reduceLT, Int.reduceLE, Int.reduceNeg, Int.reduceAdd, Int.reduceEq, Int.reduceNe] <;> omega
    · replace hb3 := eq_false_of_ne_true hb3
      rw [if_f hb3] at hp
      have hp := Option.some.inj hp
      subst hp
      simp (disch := first | omega | (simp only [List.length_set, List.length_append, List.length_cons, List.length_nil, rows_len, zs]; first | done | omega)) only [ep_laws_toStep, hv0, rv0, kv0.1, kv0.2.1, kv0.2.2.1, kv0.2.2.2, ftt0_0, ftt0_1, ftt0_2, ftt0_3, ftt0_4, hb3, gs, app_hsl, app_nil, reduceIte, reduceCtorEq, Nat.reduceAdd, Nat.reduceMul, Nat.reduceSub, Nat.reduceBEq, Nat.reduceEqDiff, Nat.reduceLeDiff, Nat.reduceLT, Nat.reduceGT, Int.reduceToNat, Int.reduceLT, Int.reduceLE, Int.reduceNeg, Int.reduceAdd, Int.reduceEq, Int.reduceNe] <;> omega
  · simp (disch := first | omega | (simp only [List.length_set, List.length_append, List.length_cons, List.length_nil, rows_len, zs]; first | done | omega)) only [ep_laws_toStep, hv0, rv0, kv0.1, kv0.2.1, kv0.2.2.1, kv0.2.2.2, gs, app_hsl, app_nil, reduceIte, reduceCtorEq, Nat.reduceAdd, Nat.reduceMul, Nat.reduceSub, Nat.reduceBEq, Nat.reduceEqDiff, Nat.reduceLeDiff, Nat.reduceLT, Nat.reduceGT, Int.reduceToNat, Int.reduceLT, Int.reduceLE, Int.reduceNeg, Int.reduceAdd, Int.reduceEq, Int.reduceNe] <;> omega
  · intro x tt1 hh1 hx
    rcases ee0 with ⟨o8, o9⟩ | r
    · obtain ⟨rfl, ftt1_0, ftt1_1, ftt1_2, ftt1_3, ftt1_4⟩ := hx
      have ztt1_3 := len_rows ftt1_3
      simp only [zs] at ztt1_3
      dsimp only at hp
      have hp := Option.some.inj hp
      subst hp
      simp (disch := first | omega | (simp only [List.length_set, List.length_append, List.length_cons, List.length_nil, rows_len, zs]; first | done | omega)) only [ep_laws_toStep, hv0, rv0, kv0.1, kv0.2.1, kv0.2.2.1, kv0.2.2.2, ftt1_0, ftt1_1, ftt1_2, ftt1_3, ftt1_4, gs, app_hsl, app_nil, reduceIte, reduceCtorEq, Nat.reduceAdd, Nat.reduceMul, Nat.reduceSub, Nat.reduceBEq, Nat.reduceEqDiff, Nat.reduceLeDiff, Nat.reduceLT, Nat.reduceGT, Int.reduceToNat, Int.reduceLT, Int.reduceLE, Int.reduceNeg, Int.reduceAdd, Int.reduceEq, Int.reduceNe]
      refine ⟨1, ?_⟩
      simp (disch := first | omega | (simp only [List.length_set, List.length_append, List.length_cons, List.length_nil, rows_len, zs]; first | done | omega)) only [ep_laws_toStep, hv0, rv0, kv0.1, kv0.2.1, kv0.2.2.1, kv0.2.2.2, ftt1_0, ftt1_1, ftt1_2, ftt1_3, ftt1_4, o_laws_toStepS, (show (o8).length = x0.length from by omega), gs, app_hsl, app_nil, reduceIte, reduceCtorEq, Nat.reduceAdd, Nat.reduceMul, Nat.reduceSub, Nat.reduceBEq, Nat.reduceEqDiff, Nat.reduceLeDiff, Nat.reduceLT, Nat.reduceGT, Int.reduceToNat, Int.reduceLT, Int.reduceLE, Int.reduceNeg, Int.reduceAdd, Int.reduceEq, Int.reduceNe] <;> omega
    · obtain ⟨rfl, hx⟩ := hx
      dsimp only at hp
      cases hp
      simp only [seqK_ret, blockK_ret, retK_RK (K := o_laws_toStepS), hx, and_self, true_and]
theorem ko_laws_toStepS {P : Program} {env : Env} {f_laws_toStep : Nat}  (ep_laws_toStep : env (2 * f_laws_toStep) = pureFn true (FA fun a : TStep => p_laws_toStep a)) : k_laws_toStepS (ownFn P env (c_laws_toStepS f_laws_toStep)) := by
  intro x0 b hp h args has
  obtain ⟨⟨v, H2⟩, hr, n0, rfl, wn0⟩ := w_laws_toStepS ep_laws_toStep x0 hp
  exact ⟨_, own_call has hr rfl, keep_moved, n0 + h.length, rfl, (moved_lt wn0).2, (moved_lt wn0).1, moved_rows wn0⟩

noncomputable def p_spec_l14Name (x0 : ByteArray) : Option Bool :=
  if (decide (1 ≤ (x0.size : Int))) = true then
    some (decide ((x0.size : Int) ≤ 200))
  else
    some false
def c_spec_l14Name : AFn := ⟨11, (.seq (.ops [⟨(.some 2), (.mv (.const (.bool false))), .none, []⟩]) (.seq (.ops [⟨(.some 3), (.mv (.tmp 0)), .none, []⟩, ⟨(.some 4), (.pu (.n .len) [(.tmp 3)]), .none, []⟩, ⟨(.some 5), (.pu (.n (.ar .geq)) [(.tmp 4), (.const (.int .i64 1))]), .none, []⟩, ⟨(.some 6), (.mv (.tmp 5)), .none, []⟩, ⟨(.some 7), (.mv (.tmp 0)), (.some (6, true)), []⟩, ⟨(.some 8), (.pu (.n .len) [(.tmp 7)]), (.some (6, true)), []⟩, ⟨(.some 9), (.pu (.n (.ar .leq)) [(.tmp 8), (.const (.int .i64 200))]), (.some (6, true)), []⟩, ⟨(.some 10), (.pick (.tmp 6) (.tmp 9) (.const (.bool false))), .none, []⟩, ⟨(.some 2), (.mv (.tmp 10)), .none, []⟩]) .ret)), [(.tmp 2)]⟩
set_option maxHeartbeats 10000000 in
theorem d_spec_l14Name {P : Program} {env : Env}  (x0 : ByteArray) {b : Bool} (hp : p_spec_l14Name x0 = some b) : R P env (c_spec_l14Name) ((encA (x0)).map ofI) [] (Tells true b) := by
  refine R_of (by simp [c_spec_l14Name, encA]) ?_
  unfold c_spec_l14Name
  unfold p_spec_l14Name at hp
  by_cases hb0 : (decide (1 ≤ (x0.size : Int))) = true
  · rw [if_t hb0] at hp
    have hp := Option.some.inj hp
    subst hp
    simp (disch := first | omega | (simp only [List.length_set, List.length_append, List.length_cons, List.length_nil, rows_len, zs]; first | done | omega)) only [hb0, gs, app_hsl, app_nil, reduceIte, reduceCtorEq, Nat.reduceAdd, Nat.reduceMul, Nat.reduceSub, Nat.reduceBEq, Nat.reduceEqDiff, Nat.reduceLeDiff, Nat.reduceLT, Nat.reduceGT, Int.reduceToNat, Int.reduceLT, Int.reduceLE, Int.reduceNeg, Int.reduceAdd, Int.reduceEq, Int.reduceNe]
  · replace hb0 := eq_false_of_ne_true hb0
    rw [if_f hb0] at hp
    have hp := Option.some.inj hp
    subst hp
    simp (disch := first | omega | (simp only [List.length_set, List.length_append, List.length_cons, List.length_nil, rows_len, zs]; first | done | omega)) only [hb0, gs, app_hsl, app_nil, reduceIte, reduceCtorEq, Nat.reduceAdd, Nat.reduceMul, Nat.reduceSub, Nat.reduceBEq, Nat.reduceEqDiff, Nat.reduceLeDiff, Nat.reduceLT, Nat.reduceGT, Int.reduceToNat, Int.reduceLT, Int.reduceLE, Int.reduceNeg, Int.reduceAdd, Int.reduceEq, Int.reduceNe]

noncomputable def p_spec_l14LensOK_l0 (x0 : List TStep) : Int → Option (Lp (Int) Bool)
  | s1 =>
    if (decide (s1 < (x0.length : Int))) = true then
      (get? x0 s1).bind fun v3 =>
      (p_spec_l14Name v3.name).bind fun v4 =>
      if (decide (v3.kind = 1)) = true then
        if (v4) = true then
          (p_spec_l14Name v3.to).bind fun v7 =>
          if (v7) = true then
            if (decide (v3.to = v3.name)) = true then
              some (.ret false)
            else
              if (decide (v3.text = (ByteArray.mk #[]))) = true then
                some (.go (w64 (s1 + 1)))
              else
                some (.ret false)
          else
            some (.ret false)
        else
          some (.ret false)
      else
        if (decide (v3.kind = 2)) = true then
          if (v4) = true then
            if (decide (v3.to = (ByteArray.mk #[]))) = true then
              if (decide ((v3.text.size : Int) ≤ 200)) = true then
                some (.go (w64 (s1 + 1)))
              else
                some (.ret false)
            else
              some (.ret false)
          else
            some (.ret false)
        else
          if (decide (v3.kind = 3)) = true then
            if (v4) = true then
              if (decide (v3.to = (ByteArray.mk #[]))) = true then
                if (decide ((v3.text.size : Int) ≤ 200)) = true then
                  some (.go (w64 (s1 + 1)))
                else
                  some (.ret false)
              else
                some (.ret false)
            else
              some (.ret false)
          else
            some (.ret false)
    else
      some (.out s1)
noncomputable def p_spec_l14LensOK (x0 : List TStep) : Option Bool :=
  if (decide (32 < (x0.length : Int))) = true then
    some false
  else
    (loopP (p_spec_l14LensOK_l0 x0) 0).bind fun ee0 => match ee0 with
    | .ret r => some r
    | .out o19 =>
      some true
def c_spec_l14LensOK (f_spec_l14Name : Nat) : AFn := ⟨61, (.seq (.ops [⟨(.some 2), (.mv (.const (.bool false))), .none, []⟩]) (.seq (.seq (.ops [⟨(.some 6), (.mv (.tmp 0)), .none, []⟩, ⟨(.some 7), (.len (.tmp 6)), .none, []⟩, ⟨(.some 8), (.pu (.n (.ar .gtr)) [(.tmp 7), (.const (.int .i64 32))]), .none, []⟩]) (.cond (.tmp 8) (.seq (.ops [⟨(.some 2), (.mv (.const (.bool false))), .none, []⟩]) .ret) .skip)) (.seq (.seq (.ops [⟨(.some 3), (.mv (.const (.int .i64 0))), .none, []⟩]) (.block 0 (.loop (.seq (.seq (.ops [⟨(.some 9), (.mv (.tmp 3)), .none, []⟩, ⟨(.some 10), (.mv (.tmp 0)), .none, []⟩, ⟨(.some 11), (.len (.tmp 10)), .none, []⟩, ⟨(.some 12), (.pu (.n (.ar .lss)) [(.tmp 9), (.tmp 11)]), .none, []⟩]) (.cond (.tmp 12) .skip (.exit 0))) (.seq (.block 1 (.seq (.ops [⟨(.some 15), (.mv (.tmp 0)), .none, []⟩, ⟨(.some 16), (.mv (.tmp 3)), .none, []⟩, ⟨(.some 17), (.idxS 4 (.tmp 15) (.tmp 16)), .none, []⟩, ⟨(.some 18), (.load 4 true (.tmp 17)), .none, []⟩, ⟨(.some 4), (.allocV [(0, false), (0, false), (0, false), (0, false)] [(.int .i64 0), (.string ⟨#[]⟩), (.string ⟨#[]⟩), (.string ⟨#[]⟩)]), .none, []⟩, ⟨.none, (.storeV [(0, false), (0, false), (0, false), (0, false)] 4 (.tmp 4) (.tmp 18)), .none, []⟩]) (.seq (.ops [⟨(.some 19), (.fieldA 1 (.tmp 4)), .none, []⟩, ⟨(.some 20), (.load 1 false (.tmp 19)), .none, []⟩, ⟨(.some 21), (.call (2 * f_spec_l14Name) [(.tmp 20)]), .none, []⟩, ⟨(.some 5), (.mv (.tmp 21)), .none, []⟩]) (.seq (.seq (.ops [⟨(.some 22), (.fieldA 0 (.tmp 4)), .none, []⟩, ⟨(.some 23), (.load 1 false (.tmp 22)), .none, []⟩]) (.block 2 (.seq (.ops [⟨(.some 25), (.pu (.n (.ar .eql)) [(.tmp 23), (.const (.int .i64 1))]), .none, []⟩, ⟨(.some 24), (.mv (.tmp 25)), .none, []⟩]) (.cond (.tmp 24) (.ops [⟨(.some 26), (.mv (.tmp 5)), .none, []⟩, ⟨(.some 27), (.mv (.tmp 26)), .none, []⟩, ⟨(.some 28), (.fieldA 2 (.tmp 4)), (.some (27, true)), []⟩, ⟨(.some 29), (.load 1 false (.tmp 28)), (.some (27, true)), []⟩, ⟨(.some 30), (.call (2 * f_spec_l14Name) [(.tmp 29)]), (.some (27, true)), []⟩, ⟨(.some 31), (.pick (.tmp 27) (.tmp 30) (.const (.bool false))), .none, []⟩, ⟨(.some 32), (.mv (.tmp 31)), .none, []⟩, ⟨(.some 33), (.fieldA 2 (.tmp 4)), (.some (32, true)), []⟩, ⟨(.some 34), (.load 1 false (.tmp 33)), (.some (32, true)), []⟩, ⟨(.some 35), (.fieldA 1 (.tmp 4)), (.some (32, true)), []⟩, ⟨(.some 36), (.load 1 false (.tmp 35)), (.some (32, true)), []⟩, ⟨(.some 37), (.pu (.n (.ar .neq)) [(.tmp 34), (.tmp 36)]), (.some (32, true)), []⟩, ⟨(.some 38), (.pick (.tmp 32) (.tmp 37) (.const (.bool false))), .none, []⟩, ⟨(.some 39), (.mv (.tmp 38)), .none, []⟩, ⟨(.some 40), (.fieldA 3 (.tmp 4)), (.some (39, true)), []⟩, ⟨(.some 41), (.load 1 false (.tmp 40)), (.some (39, true)), []⟩, ⟨(.some 42), (.pu (.n (.ar .eql)) [(.tmp 41), (.const (.string ⟨#[]⟩))]), (.some (39, true)), []⟩, ⟨(.some 43), (.pick (.tmp 39) (.tmp 42) (.const (.bool false))), .none, []⟩, ⟨(.some 5), (.mv (.tmp 43)), .none, []⟩]) (.seq (.seq (.ops [⟨(.some 45), (.pu (.n (.ar .eql)) [(.tmp 23), (.const (.int .i64 2))]), .none, []⟩, ⟨(.some 44), (.mv (.tmp 45)), .none, []⟩]) (.cond (.tmp 44) .skip (.ops [⟨(.some 46), (.pu (.n (.ar .eql)) [(.tmp 23), (.const (.int .i64 3))]), .none, []⟩, ⟨(.some 44), (.mv (.tmp 46)), .none, []⟩]))) (.cond (.tmp 44) (.ops [⟨(.some 47), (.mv (.tmp 5)), .none, []⟩, ⟨(.some 48), (.mv (.tmp 47)), .none, []⟩, ⟨(.some 49), (.fieldA 2 (.tmp 4)), (.some (48, true)), []⟩, ⟨(.some 50), (.load 1 false (.tmp 49)), (.some (48, true)), []⟩, ⟨(.some 51), (.pu (.n (.ar .eql)) [(.tmp 50), (.const (.string ⟨#[]⟩))]), (.some (48, true)), []⟩, ⟨(.some 52), (.pick (.tmp 48) (.tmp 51) (.const (.bool false))), .none, []⟩, ⟨(.some 53), (.mv (.tmp 52)), .none, []⟩, ⟨(.some 54), (.fieldA 3 (.tmp 4)), (.some (53, true)), []⟩, ⟨(.some 55), (.load 1 false (.tmp 54)), (.some (53, true)), []⟩, ⟨(.some 56), (.pu (.n .len) [(.tmp 55)]), (.some (53, true)), []⟩, ⟨(.some 57), (.pu (.n (.ar .leq)) [(.tmp 56), (.const (.int .i64 200))]), (.some (53, true)), []⟩, ⟨(.some 58), (.pick (.tmp 53) (.tmp 57) (.const (.bool false))), .none, []⟩, ⟨(.some 5), (.mv (.tmp 58)), .none, []⟩]) (.ops [⟨(.some 5), (.mv (.const (.bool false))), .none, []⟩]))))))) (.seq (.ops [⟨(.some 59), (.mv (.tmp 5)), .none, []⟩, ⟨(.some 60), (.pu (.n (.un .not)) [(.tmp 59)]), .none, []⟩]) (.cond (.tmp 60) (.seq (.ops [⟨(.some 2), (.mv (.const (.bool false))), .none, []⟩]) .ret) .skip)))))) (.ops [⟨(.some 13), (.mv (.tmp 3)), .none, []⟩, ⟨(.some 14), (.pu (.n (.ar .add)) [(.tmp 13), (.const (.int .i64 1))]), .none, []⟩, ⟨(.some 3), (.mv (.tmp 14)), .none, []⟩])))))) (.seq (.ops [⟨(.some 2), (.mv (.const (.bool true))), .none, []⟩]) .ret)))), [(.tmp 2)]⟩
set_option maxHeartbeats 10000000 in
theorem d_spec_l14LensOK {P : Program} {env : Env} {f_spec_l14Name : Nat}  (ep_spec_l14Name : env (2 * f_spec_l14Name) = pureFn true (FA fun a : ByteArray => p_spec_l14Name a)) (x0 : List TStep) {b : Bool} (hp : p_spec_l14LensOK x0 = some b) : R P env (c_spec_l14LensOK f_spec_l14Name) ((encA (x0)).map ofI) [] (Tells true b) := by
  refine R_of (by simp [c_spec_l14LensOK, encA]) ?_
  unfold c_spec_l14LensOK
  unfold p_spec_l14LensOK at hp
  by_cases hb0 : (decide (32 < (x0.length : Int))) = true
  · rw [if_t hb0] at hp
    have hp := Option.some.inj hp
    subst hp
    simp (disch := first | omega | (simp only [List.length_set, List.length_append, List.length_cons, List.length_nil, rows_len, zs]; first | done | omega)) only [ep_spec_l14Name, hb0, gs, app_hsl, app_nil, reduceIte, reduceCtorEq, Nat.reduceAdd, Nat.reduceMul, Nat.reduceSub, Nat.reduceBEq, Nat.reduceEqDiff, Nat.reduceLeDiff, Nat.reduceLT, Nat.reduceGT, Int.reduceToNat, Int.reduceLT, Int.reduceLE, Int.reduceNeg, Int.reduceAdd, Int.reduceEq, Int.reduceNe]
  · replace hb0 := eq_false_of_ne_true hb0
    rw [if_f hb0] at hp
    obtain ⟨ee0, hee0, hp⟩ := bind_eq hp
    simp (disch := first | omega | (simp only [List.length_set, List.length_append, List.length_cons, List.length_nil, rows_len, zs]; first | done | omega)) only [ep_spec_l14Name, hb0, gs, app_hsl, app_nil, reduceIte, reduceCtorEq, Nat.reduceAdd, Nat.reduceMul, Nat.reduceSub, Nat.reduceBEq, Nat.reduceEqDiff, Nat.reduceLeDiff, Nat.reduceLT, Nat.reduceGT, Int.reduceToNat, Int.reduceLT, Int.reduceLE, Int.reduceNeg, Int.reduceAdd, Int.reduceEq, Int.reduceNe]
    refine W_loopP 0 (fun s t h => match s with | s1 => t 0 = .i (.sl 4 (x0.map enc)) ∧ t 3 = .i (.s (.int .i64 s1))) (RK [.tmp 2] (Tells true)) ?_ hee0 ?_ ?_
    · rintro s1 ee tt0 hh0 ⟨ftt0_0, ftt0_1⟩ hp
      rw [p_spec_l14LensOK_l0] at hp
      by_cases hb2 : (decide (s1 < (x0.length : Int))) = true
      · rw [if_t hb2] at hp
        obtain ⟨v3, hv3, hp⟩ := bind_eq hp
        obtain ⟨v4, hv4, hp⟩ := bind_eq hp
        by_cases hb5 : (decide (v3.kind = 1)) = true
        · rw [if_t hb5] at hp
          by_cases hb6 : (v4) = true
          · rw [if_t hb6] at hp
            obtain ⟨v7, hv7, hp⟩ := bind_eq hp
            by_cases hb8 : (v7) = true
            · rw [if_t hb8] at hp
              by_cases hb9 : (decide (v3.to = v3.name)) = true
              · rw [if_t hb9] at hp
                have hp := Option.some.inj hp
                subst hp
                simp (disch := first | omega | (simp only [List.length_set, List.length_append, List.length_cons, List.length_nil, rows_len, zs]; first | done | omega)) only [ep_spec_l14Name, hb0, ftt0_0, ftt0_1, hb2, hv3, hv4, hb5, hb6, hv7, hb8, hb9, gs, app_hsl, app_nil, reduceIte, reduceCtorEq, Nat.reduceAdd, Nat.reduceMul, Nat.reduceSub, Nat.reduceBEq, Nat.reduceEqDiff, Nat.reduceLeDiff, Nat.reduceLT, Nat.reduceGT, Int.reduceToNat, Int.reduceLT, Int.reduceLE, Int.reduceNeg, Int.reduceAdd, Int.reduceEq, Int.reduceNe]
              · replace hb9 := eq_false_of_ne_true hb9
                rw [if_f hb9] at hp
                by_cases hb10 : (decide (v3.text = (ByteArray.mk #[]))) = true
                · rw [if_t hb10] at hp
                  have hp := Option.some.inj hp
                  subst hp
                  simp (disch := first | omega | (simp only [List.length_set, List.length_append, List.length_cons, List.length_nil, rows_len, zs]; first | done | omega)) only [ep_spec_l14Name, hb0, ftt0_0, ftt0_1, hb2, hv3, hv4, hb5, hb6, hv7, hb8, hb9, hb10, gs, app_hsl, app_nil, reduceIte, reduceCtorEq, Nat.reduceAdd, Nat.reduceMul, Nat.reduceSub, Nat.reduceBEq, Nat.reduceEqDiff, Nat.reduceLeDiff, Nat.reduceLT, Nat.reduceGT, Int.reduceToNat, Int.reduceLT, Int.reduceLE, Int.reduceNeg, Int.reduceAdd, Int.reduceEq, Int.reduceNe] <;> omega
                · replace hb10 := eq_false_of_ne_true hb10
                  rw [if_f hb10] at hp
                  have hp := Option.some.inj hp
                  subst hp
                  simp (disch := first | omega | (simp only [List.length_set, List.length_append, List.length_cons, List.length_nil, rows_len, zs]; first | done | omega)) only [ep_spec_l14Name, hb0, ftt0_0, ftt0_1, hb2, hv3, hv4, hb5, hb6, hv7, hb8, hb9, hb10, gs, app_hsl, app_nil, reduceIte, reduceCtorEq, Nat.reduceAdd, Nat.reduceMul, Nat.reduceSub, Nat.reduceBEq, Nat.reduceEqDiff, Nat.reduceLeDiff, Nat.reduceLT, Nat.reduceGT, Int.reduceToNat, Int.reduceLT, Int.reduceLE, Int.reduceNeg, Int.reduceAdd, Int.reduceEq, Int.reduceNe]
            · replace hb8 := eq_false_of_ne_true hb8
              rw [if_f hb8] at hp
              have hp := Option.some.inj hp
              subst hp
              simp (disch := first | omega | (simp only [List.length_set, List.length_append, List.length_cons, List.length_nil, rows_len, zs]; first | done | omega)) only [ep_spec_l14Name, hb0, ftt0_0, ftt0_1, hb2, hv3, hv4, hb5, hb6, hv7, hb8, gs, app_hsl, app_nil, reduceIte, reduceCtorEq, Nat.reduceAdd, Nat.reduceMul, Nat.reduceSub, Nat.reduceBEq, Nat.reduceEqDiff, Nat.reduceLeDiff, Nat.reduceLT, Nat.reduceGT, Int.reduceToNat, Int.reduceLT, Int.reduceLE, Int.reduceNeg, Int.reduceAdd, Int.reduceEq, Int.reduceNe]
          · replace hb6 := eq_false_of_ne_true hb6
            rw [if_f hb6] at hp
            have hp := Option.some.inj hp
            subst hp
            simp (disch := first | omega | (simp only [List.length_set, List.length_append, List.length_cons, List.length_nil, rows_len, zs]; first | done | omega)) only [ep_spec_l14Name, hb0, ftt0_0, ftt0_1, hb2, hv3, hv4, hb5, hb6, gs, app_hsl, app_nil, reduceIte, reduceCtorEq, Nat.reduceAdd, Nat.reduceMul, Nat.reduceSub, Nat.reduceBEq, Nat.reduceEqDiff, Nat.reduceLeDiff, Nat.reduceLT, Nat.reduceGT, Int.reduceToNat, Int.reduceLT, Int.reduceLE, Int.reduceNeg, Int.reduceAdd, Int.reduceEq, Int.reduceNe]
        · replace hb5 := eq_false_of_ne_true hb5
          rw [if_f hb5] at hp
          by_cases hb11 : (decide (v3.kind = 2)) = true
          · rw [if_t hb11] at hp
            by_cases hb12 : (v4) = true
            · rw [if_t hb12] at hp
              by_cases hb13 : (decide (v3.to = (ByteArray.mk #[]))) = true
              · rw [if_t hb13] at hp
                by_cases hb14 : (decide ((v3.text.size : Int) ≤ 200)) = true
                · rw [if_t hb14] at hp
                  have hp := Option.some.inj hp
                  subst hp
                  simp (disch := first | omega | (simp only [List.length_set, List.length_append, List.length_cons, List.length_nil, rows_len, zs]; first | done | omega)) only [ep_spec_l14Name, hb0, ftt0_0, ftt0_1, hb2, hv3, hv4, hb5, hb11, hb12, hb13, hb14, gs, app_hsl, app_nil, reduceIte, reduceCtorEq, Nat.reduceAdd, Nat.reduceMul, Nat.reduceSub, Nat.reduceBEq, Nat.reduceEqDiff, Nat.reduceLeDiff, Nat.reduceLT, Nat.reduceGT, Int.reduceToNat, Int.reduceLT, Int.reduceLE, Int.reduceNeg, Int.reduceAdd, Int.reduceEq, Int.reduceNe] <;> omega
                · replace hb14 := eq_false_of_ne_true hb14
                  rw [if_f hb14] at hp
                  have hp := Option.some.inj hp
                  subst hp
                  simp (disch := first | omega | (simp only [List.length_set, List.length_append, List.length_cons, List.length_nil, rows_len, zs]; first | done | omega)) only [ep_spec_l14Name, hb0, ftt0_0, ftt0_1, hb2, hv3, hv4, hb5, hb11, hb12, hb13, hb14, gs, app_hsl, app_nil, reduceIte, reduceCtorEq, Nat.reduceAdd, Nat.reduceMul, Nat.reduceSub, Nat.reduceBEq, Nat.reduceEqDiff, Nat.reduceLeDiff, Nat.reduceLT, Nat.reduceGT, Int.reduceToNat, Int.reduceLT, Int.reduceLE, Int.reduceNeg, Int.reduceAdd, Int.reduceEq, Int.reduceNe]
              · replace hb13 := eq_false_of_ne_true hb13
                rw [if_f hb13] at hp
                have hp := Option.some.inj hp
                subst hp
                simp (disch := first | omega | (simp only [List.length_set, List.length_append, List.length_cons, List.length_nil, rows_len, zs]; first | done | omega)) only [ep_spec_l14Name, hb0, ftt0_0, ftt0_1, hb2, hv3, hv4, hb5, hb11, hb12, hb13, gs, app_hsl, app_nil, reduceIte, reduceCtorEq, Nat.reduceAdd, Nat.reduceMul, Nat.reduceSub, Nat.reduceBEq, Nat.reduceEqDiff, Nat.reduceLeDiff, Nat.reduceLT, Nat.reduceGT, Int.reduceToNat, Int.reduceLT, Int.reduceLE, Int.reduceNeg, Int.reduceAdd, Int.reduceEq, Int.reduceNe]
            · replace hb12 := eq_false_of_ne_true hb12
              rw [if_f hb12] at hp
              have hp := Option.some.inj hp
              subst hp
              simp (disch := first | omega | (simp only [List.length_set, List.length_append, List.length_cons, List.length_nil, rows_len, zs]; first | done | omega)) only [ep_spec_l14Name, hb0, ftt0_0, ftt0_1, hb2, hv3, hv4, hb5, hb11, hb12, gs, app_hsl, app_nil, reduceIte, reduceCtorEq, Nat.reduceAdd, Nat.reduceMul, Nat.reduceSub, Nat.reduceBEq, Nat.reduceEqDiff, Nat.reduceLeDiff, Nat.reduceLT, Nat.reduceGT, Int.reduceToNat, Int.reduceLT, Int.reduceLE, Int.reduceNeg, Int.reduceAdd, Int.reduceEq, Int.reduceNe]
          · replace hb11 := eq_false_of_ne_true hb11
            rw [if_f hb11] at hp
            by_cases hb15 : (decide (v3.kind = 3)) = true
            · rw [if_t hb15] at hp
              by_cases hb16 : (v4) = true
              · rw [if_t hb16] at hp
                by_cases hb17 : (decide (v3.to = (ByteArray.mk #[]))) = true
                · rw [if_t hb17] at hp
                  by_cases hb18 : (decide ((v3.text.size : Int) ≤ 200)) = true
                  · rw [if_t hb18] at hp
                    have hp := Option.some.inj hp
                    subst hp
                    simp (disch := first | omega | (simp only [List.length_set, List.length_append, List.length_cons, List.length_nil, rows_len, zs]; first | done | omega)) only [ep_spec_l14Name, hb0, ftt0_0, ftt0_1, hb2, hv3, hv4, hb5, hb11, hb15, hb16, hb17, hb18, gs, app_hsl, app_nil, reduceIte, reduceCtorEq, Nat.reduceAdd, Nat.reduceMul, Nat.reduceSub, Nat.reduceBEq, Nat.reduceEqDiff, Nat.reduceLeDiff, Nat.reduceLT, Nat.reduceGT, Int.reduceToNat, Int.reduceLT, Int.reduceLE, Int.reduceNeg, Int.reduceAdd, Int.reduceEq, Int.reduceNe] <;> omega
                  · replace hb18 := eq_false_of_ne_true hb18
                    rw [if_f hb18] at hp
                    have hp := Option.some.inj hp
                    subst hp
                    simp (disch := first | omega | (simp only [List.length_set, List.length_append, List.length_cons, List.length_nil, rows_len, zs]; first | done | omega)) only [ep_spec_l14Name, hb0, ftt0_0, ftt0_1, hb2, hv3, hv4, hb5, hb11, hb15, hb16, hb17, hb18, gs, app_hsl, app_nil, reduceIte, reduceCtorEq, Nat.reduceAdd, Nat.reduceMul, Nat.reduceSub, Nat.reduceBEq, Nat.reduceEqDiff, Nat.reduceLeDiff, Nat.reduceLT, Nat.reduceGT, Int.reduceToNat, Int.reduceLT, Int.reduceLE, Int.reduceNeg, Int.reduceAdd, Int.reduceEq, Int.reduceNe]
                · replace hb17 := eq_false_of_ne_true hb17
                  rw [if_f hb17] at hp
                  have hp := Option.some.inj hp
                  subst hp
                  simp (disch := first | omega | (simp only [List.length_set, List.length_append, List.length_cons, List.length_nil, rows_len, zs]; first | done | omega)) only [ep_spec_l14Name, hb0, ftt0_0, ftt0_1, hb2, hv3, hv4, hb5, hb11, hb15, hb16, hb17, gs, app_hsl, app_nil, reduceIte, reduceCtorEq, Nat.reduceAdd, Nat.reduceMul, Nat.reduceSub, Nat.reduceBEq, Nat.reduceEqDiff, Nat.reduceLeDiff, Nat.reduceLT, Nat.reduceGT, Int.reduceToNat, Int.reduceLT, Int.reduceLE, Int.reduceNeg, Int.reduceAdd, Int.reduceEq, Int.reduceNe]
              · replace hb16 := eq_false_of_ne_true hb16
                rw [if_f hb16] at hp
                have hp := Option.some.inj hp
                subst hp
                simp (disch := first | omega | (simp only [List.length_set, List.length_append, List.length_cons, List.length_nil, rows_len, zs]; first | done | omega)) only [ep_spec_l14Name, hb0, ftt0_0, ftt0_1, hb2, hv3, hv4, hb5, hb11, hb15, hb16, gs, app_hsl, app_nil, reduceIte, reduceCtorEq, Nat.reduceAdd, Nat.reduceMul, Nat.reduceSub, Nat.reduceBEq, Nat.reduceEqDiff, Nat.reduceLeDiff, Nat.reduceLT, Nat.reduceGT, Int.reduceToNat, Int.reduceLT, Int.reduceLE, Int.reduceNeg, Int.reduceAdd, Int.reduceEq, Int.reduceNe]
            · replace hb15 := eq_false_of_ne_true hb15
              rw [if_f hb15] at hp
              have hp := Option.some.inj hp
              subst hp
              simp (disch := first | omega | (simp only [List.length_set, List.length_append, List.length_cons, List.length_nil, rows_len, zs]; first | done | omega)) only [ep_spec_l14Name, hb0, ftt0_0, ftt0_1, hb2, hv3, hv4, hb5, hb11, hb15, gs, app_hsl, app_nil, reduceIte, reduceCtorEq, Nat.reduceAdd, Nat.reduceMul, Nat.reduceSub, Nat.reduceBEq, Nat.reduceEqDiff, Nat.reduceLeDiff, Nat.reduceLT, Nat.reduceGT, Int.reduceToNat, Int.reduceLT, Int.reduceLE, Int.reduceNeg, Int.reduceAdd, Int.reduceEq, Int.reduceNe]
      · replace hb2 := eq_false_of_ne_true hb2
        rw [if_f hb2] at hp
        have hp := Option.some.inj hp
        subst hp
        simp (disch := first | omega | (simp only [List.length_set, List.length_append, List.length_cons, List.length_nil, rows_len, zs]; first | done | omega)) only [ep_spec_l14Name, hb0, ftt0_0, ftt0_1, hb2, gs, app_hsl, app_nil, reduceIte, reduceCtorEq, Nat.reduceAdd, Nat.reduceMul, Nat.reduceSub, Nat.reduceBEq, Nat.reduceEqDiff, Nat.reduceLeDiff, Nat.reduceLT, Nat.reduceGT, Int.reduceToNat, Int.reduceLT, Int.reduceLE, Int.reduceNeg, Int.reduceAdd, Int.reduceEq, Int.reduceNe] <;> omega
    · simp (disch := first | omega | (simp only [List.length_set, List.length_append, List.length_cons, List.length_nil, rows_len, zs]; first | done | omega)) only [ep_spec_l14Name, hb0, gs, app_hsl, app_nil, reduceIte, reduceCtorEq, Nat.reduceAdd, Nat.reduceMul, Nat.reduceSub, Nat.reduceBEq, Nat.reduceEqDiff, Nat.reduceLeDiff, Nat.reduceLT, Nat.reduceGT, Int.reduceToNat, Int.reduceLT, Int.reduceLE, Int.reduceNeg, Int.reduceAdd, Int.reduceEq, Int.reduceNe] <;> omega
    · intro x tt1 hh1 hx
      rcases ee0 with o19 | r
      · obtain ⟨rfl, ftt1_0, ftt1_1⟩ := hx
        dsimp only at hp
        have hp := Option.some.inj hp
        subst hp
        simp (disch := first | omega | (simp only [List.length_set, List.length_append, List.length_cons, List.length_nil, rows_len, zs]; first | done | omega)) only [ep_spec_l14Name, hb0, ftt1_0, ftt1_1, gs, app_hsl, app_nil, reduceIte, reduceCtorEq, Nat.reduceAdd, Nat.reduceMul, Nat.reduceSub, Nat.reduceBEq, Nat.reduceEqDiff, Nat.reduceLeDiff, Nat.reduceLT, Nat.reduceGT, Int.reduceToNat, Int.reduceLT, Int.reduceLE, Int.reduceNeg, Int.reduceAdd, Int.reduceEq, Int.reduceNe]
      · obtain ⟨rfl, hx⟩ := hx
        dsimp only at hp
        cases hp
        simp only [seqK_ret, blockK_ret, retK_RK (K := Tells true), hx, and_self, true_and]

noncomputable def p_spec_LensJoin (x0 : List TStep) (x1 : List TStep) : Option (T2 (List TStep) Int) :=
  (p_spec_l14LensOK x0).bind fun v0 =>
  if (v0) = true then
    (p_spec_l14LensOK x1).bind fun v2 =>
    if (v2) = true then
      if (decide (32 < w64 ((x0.length : Int) + (x1.length : Int)))) = true then
        some ⟨[], 11⟩
      else
        (app? 56 ([] : List TStep) x0).bind fun v5 =>
        (app? 56 v5 x1).bind fun v6 =>
        some ⟨v6, 0⟩
    else
      some ⟨[], 1⟩
  else
    some ⟨[], 1⟩
def c_spec_LensJoin (f_spec_l14LensOK : Nat) : AFn := ⟨27, (.seq (.ops [⟨(.some 4), (.vnil 4 true), .none, []⟩, ⟨(.some 5), (.mv (.const (.int .i64 0))), .none, []⟩]) (.seq (.seq (.ops [⟨(.some 6), (.mv (.tmp 0)), .none, []⟩, ⟨(.some 7), (.call (2 * f_spec_l14LensOK) [(.tmp 6)]), .none, []⟩, ⟨(.some 8), (.pu (.n (.un .not)) [(.tmp 7)]), .none, []⟩, ⟨(.some 9), (.mv (.tmp 8)), .none, []⟩, ⟨(.some 10), (.mv (.tmp 1)), (.some (9, false)), []⟩, ⟨(.some 11), (.call (2 * f_spec_l14LensOK) [(.tmp 10)]), (.some (9, false)), []⟩, ⟨(.some 12), (.pu (.n (.un .not)) [(.tmp 11)]), (.some (9, false)), []⟩, ⟨(.some 13), (.pick (.tmp 9) (.const (.bool true)) (.tmp 12)), .none, []⟩]) (.cond (.tmp 13) (.seq (.ops [⟨(.some 14), (.buildSl 4 true 0 [(.int .i64 0), (.string ⟨#[]⟩), (.string ⟨#[]⟩), (.string ⟨#[]⟩)] []), .none, []⟩, ⟨(.some 4), (.mv (.tmp 14)), .none, []⟩, ⟨(.some 5), (.mv (.const (.int .i64 1))), .none, []⟩]) .ret) .skip)) (.seq (.seq (.ops [⟨(.some 15), (.mv (.tmp 0)), .none, []⟩, ⟨(.some 16), (.len (.tmp 15)), .none, []⟩, ⟨(.some 17), (.mv (.tmp 1)), .none, []⟩, ⟨(.some 18), (.len (.tmp 17)), .none, []⟩, ⟨(.some 19), (.pu (.n (.ar .add)) [(.tmp 16), (.tmp 18)]), .none, []⟩, ⟨(.some 20), (.pu (.n (.ar .gtr)) [(.tmp 19), (.const (.int .i64 32))]), .none, []⟩]) (.cond (.tmp 20) (.seq (.ops [⟨(.some 21), (.buildSl 4 true 0 [(.int .i64 0), (.string ⟨#[]⟩), (.string ⟨#[]⟩), (.string ⟨#[]⟩)] []), .none, []⟩, ⟨(.some 4), (.mv (.tmp 21)), .none, []⟩, ⟨(.some 5), (.mv (.const (.int .i64 11))), .none, []⟩]) .ret) .skip)) (.seq (.ops [⟨(.some 22), (.buildSl 4 true 0 [(.int .i64 0), (.string ⟨#[]⟩), (.string ⟨#[]⟩), (.string ⟨#[]⟩)] []), .none, []⟩, ⟨(.some 23), (.mv (.tmp 0)), .none, []⟩, ⟨(.some 24), (.append 4 true 56 (.tmp 22) (.tmp 23)), .none, []⟩, ⟨(.some 25), (.mv (.tmp 1)), .none, []⟩, ⟨(.some 26), (.append 4 true 56 (.tmp 24) (.tmp 25)), .none, []⟩, ⟨(.some 4), (.mv (.tmp 26)), .none, []⟩, ⟨(.some 5), (.mv (.const (.int .i64 0))), .none, []⟩]) .ret)))), [(.tmp 4), (.tmp 5)]⟩
set_option maxHeartbeats 10000000 in
theorem d_spec_LensJoin {P : Program} {env : Env} {f_spec_l14LensOK : Nat}  (ep_spec_l14LensOK : env (2 * f_spec_l14LensOK) = pureFn true (FA fun a : List TStep => p_spec_l14LensOK a)) (x0 : List TStep) (x1 : List TStep) {b : T2 (List TStep) Int} (hp : p_spec_LensJoin x0 x1 = some b) : R P env (c_spec_LensJoin f_spec_l14LensOK) ((encA (x0, x1)).map ofI) [] (Tells true b) := by
  refine R_of (by simp [c_spec_LensJoin, encA]) ?_
  unfold c_spec_LensJoin
  unfold p_spec_LensJoin at hp
  obtain ⟨v0, hv0, hp⟩ := bind_eq hp
  by_cases hb1 : (v0) = true
  · rw [if_t hb1] at hp
    obtain ⟨v2, hv2, hp⟩ := bind_eq hp
    by_cases hb3 : (v2) = true
    · rw [if_t hb3] at hp
      by_cases hb4 : (decide (32 < w64 ((x0.length : Int) + (x1.length : Int)))) = true
      · rw [if_t hb4] at hp
        have hp := Option.some.inj hp
        subst hp
        simp (disch := first | omega | (simp only [List.length_set, List.length_append, List.length_cons, List.length_nil, rows_len, zs]; first | done | omega)) only [ep_spec_l14LensOK, hv0, hb1, hv2, hb3, hb4, gs, app_hsl, app_nil, reduceIte, reduceCtorEq, Nat.reduceAdd, Nat.reduceMul, Nat.reduceSub, Nat.reduceBEq, Nat.reduceEqDiff, Nat.reduceLeDiff, Nat.reduceLT, Nat.reduceGT, Int.reduceToNat, Int.reduceLT, Int.reduceLE, Int.reduceNeg, Int.reduceAdd, Int.reduceEq, Int.reduceNe]
      · replace hb4 := eq_false_of_ne_true hb4
        rw [if_f hb4] at hp
        obtain ⟨v5, hv5, hp⟩ := bind_eq hp
        simp (disch := first | omega | (simp only [List.length_set, List.length_append, List.length_cons, List.length_nil, rows_len, zs]; first | done | omega)) only [ep_spec_l14LensOK, hv0, hb1, hv2, hb3, hb4, gs, reduceIte, reduceCtorEq, Nat.reduceAdd, Nat.reduceMul, Nat.reduceSub, Nat.reduceBEq, Nat.reduceEqDiff, Nat.reduceLeDiff, Nat.reduceLT, Nat.reduceGT, Int.reduceToNat, Int.reduceLT, Int.reduceLE, Int.reduceNeg, Int.reduceAdd, Int.reduceEq, Int.reduceNe]
        refine app_f (b := 1) (xs := ([] : List TStep)) (ys := x0) (fun h => getCells h 0 0 = some [] ∧ 0 < h.length ∧ getCells h 1 0 = some [] ∧ 1 < h.length) ?_ ?_ hv5 rfl (by first | rfl | omega | (simp; omega)) (by first | rfl | omega | (simp; omega)) (by first | rfl | omega | (simp; omega)) ?_
        · simp (disch := first | omega | (simp only [List.length_set, List.length_append, List.length_cons, List.length_nil, rows_len, zs]; first | done | omega)) only [ep_spec_l14LensOK, hv0, hb1, hv2, hb3, hb4, hv5, gs, app_hsl, app_nil, reduceIte, reduceCtorEq, Nat.reduceAdd, Nat.reduceMul, Nat.reduceSub, Nat.reduceBEq, Nat.reduceEqDiff, Nat.reduceLeDiff, Nat.reduceLT, Nat.reduceGT, Int.reduceToNat, Int.reduceLT, Int.reduceLE, Int.reduceNeg, Int.reduceAdd, Int.reduceEq, Int.reduceNe] <;> omega
        · rintro h ⟨c0_0, c0_1, c0_2, c0_3⟩
          exact c0_2
        · rintro h hh0 ⟨c0_0, c0_1, c0_2, c0_3⟩ kk0 w0
          have d0_0 : getCells hh0 0 0 = some [] := (keep_get kk0 c0_1 (by first | (simp; done) | (simp; omega))).trans c0_0
          have d0_0l := keep_lt kk0 c0_1
          have d0_1 : getCells hh0 1 (v5.length * 4) = some (rows (v5 : List TStep)) := by simpa only [Nat.mul_one] using w0
          have d0_1l := keep_lt kk0 c0_3
          obtain ⟨v6, hv6, hp⟩ := bind_eq hp
          simp (disch := first | omega | (simp only [List.length_set, List.length_append, List.length_cons, List.length_nil, rows_len, zs]; first | done | omega)) only [ep_spec_l14LensOK, hv0, hb1, hv2, hb3, hb4, hv5, d0_0, d0_1, gs, reduceIte, reduceCtorEq, Nat.reduceAdd, Nat.reduceMul, Nat.reduceSub, Nat.reduceBEq, Nat.reduceEqDiff, Nat.reduceLeDiff, Nat.reduceLT, Nat.reduceGT, Int.reduceToNat, Int.reduceLT, Int.reduceLE, Int.reduceNeg, Int.reduceAdd, Int.reduceEq, Int.reduceNe]
          refine app_f (b := 1) (xs := v5) (ys := x1) (fun h => getCells h 0 0 = some [] ∧ 0 < h.length ∧ getCells h 1 (v5.length * 4) = some (rows (v5 : List TStep)) ∧ 1 < h.length) ?_ ?_ hv6 rfl (by first | rfl | omega | (simp; omega)) (by first | rfl | omega | (simp; omega)) (by first | rfl | omega | (simp; omega)) ?_
          · simp (disch := first | omega | (simp only [List.length_set, List.length_append, List.length_cons, List.length_nil, rows_len, zs]; first | done | omega)) only [ep_spec_l14LensOK, hv0, hb1, hv2, hb3, hb4, hv5, d0_0, d0_1, hv6, gs, app_hsl, app_nil, reduceIte, reduceCtorEq, Nat.reduceAdd, Nat.reduceMul, Nat.reduceSub, Nat.reduceBEq, Nat.reduceEqDiff, Nat.reduceLeDiff, Nat.reduceLT, Nat.reduceGT, Int.reduceToNat, Int.reduceLT, Int.reduceLE, Int.reduceNeg, Int.reduceAdd, Int.reduceEq, Int.reduceNe] <;> omega
          · rintro h ⟨c1_0, c1_1, c1_2, c1_3⟩
            exact c1_2
          · rintro h hh1 ⟨c1_0, c1_1, c1_2, c1_3⟩ kk1 w1
            have d1_0 : getCells hh1 0 0 = some [] := (keep_get kk1 c1_1 (by first | (simp; done) | (simp; omega))).trans c1_0
            have d1_0l := keep_lt kk1 c1_1
            have d1_1 : getCells hh1 1 (v6.length * 4) = some (rows (v6 : List TStep)) := by simpa only [Nat.mul_one] using w1
            have d1_1l := keep_lt kk1 c1_3
            have hp := Option.some.inj hp
            subst hp
            simp (disch := first | omega | (simp only [List.length_set, List.length_append, List.length_cons, List.length_nil, rows_len, zs]; first | done | omega)) only [ep_spec_l14LensOK, hv0, hb1, hv2, hb3, hb4, hv5, d0_0, d0_1, hv6, d1_0, d1_1, gs, app_hsl, app_nil, reduceIte, reduceCtorEq, Nat.reduceAdd, Nat.reduceMul, Nat.reduceSub, Nat.reduceBEq, Nat.reduceEqDiff, Nat.reduceLeDiff, Nat.reduceLT, Nat.reduceGT, Int.reduceToNat, Int.reduceLT, Int.reduceLE, Int.reduceNeg, Int.reduceAdd, Int.reduceEq, Int.reduceNe]
    · replace hb3 := eq_false_of_ne_true hb3
      rw [if_f hb3] at hp
      have hp := Option.some.inj hp
      subst hp
      simp (disch := first | omega | (simp only [List.length_set, List.length_append, List.length_cons, List.length_nil, rows_len, zs]; first | done | omega)) only [ep_spec_l14LensOK, hv0, hb1, hv2, hb3, gs, app_hsl, app_nil, reduceIte, reduceCtorEq, Nat.reduceAdd, Nat.reduceMul, Nat.reduceSub, Nat.reduceBEq, Nat.reduceEqDiff, Nat.reduceLeDiff, Nat.reduceLT, Nat.reduceGT, Int.reduceToNat, Int.reduceLT, Int.reduceLE, Int.reduceNeg, Int.reduceAdd, Int.reduceEq, Int.reduceNe]
  · replace hb1 := eq_false_of_ne_true hb1
    rw [if_f hb1] at hp
    have hp := Option.some.inj hp
    subst hp
    simp (disch := first | omega | (simp only [List.length_set, List.length_append, List.length_cons, List.length_nil, rows_len, zs]; first | done | omega)) only [ep_spec_l14LensOK, hv0, hb1, gs, app_hsl, app_nil, reduceIte, reduceCtorEq, Nat.reduceAdd, Nat.reduceMul, Nat.reduceSub, Nat.reduceBEq, Nat.reduceEqDiff, Nat.reduceLeDiff, Nat.reduceLT, Nat.reduceGT, Int.reduceToNat, Int.reduceLT, Int.reduceLE, Int.reduceNeg, Int.reduceAdd, Int.reduceEq, Int.reduceNe]

noncomputable def p_impl_nameOK (x0 : ByteArray) : Option Bool :=
  if (decide (x0 = (ByteArray.mk #[]))) = true then
    some false
  else
    some (decide ((x0.size : Int) ≤ 200))
def c_impl_nameOK : AFn := ⟨10, (.seq (.ops [⟨(.some 2), (.mv (.const (.bool false))), .none, []⟩]) (.seq (.ops [⟨(.some 3), (.mv (.tmp 0)), .none, []⟩, ⟨(.some 4), (.pu (.n (.ar .neq)) [(.tmp 3), (.const (.string ⟨#[]⟩))]), .none, []⟩, ⟨(.some 5), (.mv (.tmp 4)), .none, []⟩, ⟨(.some 6), (.mv (.tmp 0)), (.some (5, true)), []⟩, ⟨(.some 7), (.pu (.n .len) [(.tmp 6)]), (.some (5, true)), []⟩, ⟨(.some 8), (.pu (.n (.ar .leq)) [(.tmp 7), (.const (.int .i64 200))]), (.some (5, true)), []⟩, ⟨(.some 9), (.pick (.tmp 5) (.tmp 8) (.const (.bool false))), .none, []⟩, ⟨(.some 2), (.mv (.tmp 9)), .none, []⟩]) .ret)), [(.tmp 2)]⟩
set_option maxHeartbeats 10000000 in
theorem d_impl_nameOK {P : Program} {env : Env}  (x0 : ByteArray) {b : Bool} (hp : p_impl_nameOK x0 = some b) : R P env (c_impl_nameOK) ((encA (x0)).map ofI) [] (Tells true b) := by
  refine R_of (by simp [c_impl_nameOK, encA]) ?_
  unfold c_impl_nameOK
  unfold p_impl_nameOK at hp
  by_cases hb0 : (decide (x0 = (ByteArray.mk #[]))) = true
  · rw [if_t hb0] at hp
    have hp := Option.some.inj hp
    subst hp
    simp (disch := first | omega | (simp only [List.length_set, List.length_append, List.length_cons, List.length_nil, rows_len, zs]; first | done | omega)) only [hb0, gs, app_hsl, app_nil, reduceIte, reduceCtorEq, Nat.reduceAdd, Nat.reduceMul, Nat.reduceSub, Nat.reduceBEq, Nat.reduceEqDiff, Nat.reduceLeDiff, Nat.reduceLT, Nat.reduceGT, Int.reduceToNat, Int.reduceLT, Int.reduceLE, Int.reduceNeg, Int.reduceAdd, Int.reduceEq, Int.reduceNe]
  · replace hb0 := eq_false_of_ne_true hb0
    rw [if_f hb0] at hp
    have hp := Option.some.inj hp
    subst hp
    simp (disch := first | omega | (simp only [List.length_set, List.length_append, List.length_cons, List.length_nil, rows_len, zs]; first | done | omega)) only [hb0, gs, app_hsl, app_nil, reduceIte, reduceCtorEq, Nat.reduceAdd, Nat.reduceMul, Nat.reduceSub, Nat.reduceBEq, Nat.reduceEqDiff, Nat.reduceLeDiff, Nat.reduceLT, Nat.reduceGT, Int.reduceToNat, Int.reduceLT, Int.reduceLE, Int.reduceNeg, Int.reduceAdd, Int.reduceEq, Int.reduceNe]

noncomputable def p_impl_stepOK (x0 : TStep) : Option Bool :=
  if (decide (x0.kind = 1)) = true then
    (p_impl_nameOK x0.name).bind fun v1 =>
    if (v1) = true then
      (p_impl_nameOK x0.to).bind fun v3 =>
      if (v3) = true then
        if (decide (x0.name = x0.to)) = true then
          some false
        else
          some (decide (x0.text = (ByteArray.mk #[])))
      else
        some false
    else
      some false
  else
    if (decide (x0.kind = 2)) = true then
      (p_impl_nameOK x0.name).bind fun v7 =>
      if (v7) = true then
        if (decide (x0.to = (ByteArray.mk #[]))) = true then
          some (decide ((x0.text.size : Int) ≤ 200))
        else
          some false
      else
        some false
    else
      if (decide (x0.kind = 3)) = true then
        (p_impl_nameOK x0.name).bind fun v11 =>
        if (v11) = true then
          if (decide (x0.to = (ByteArray.mk #[]))) = true then
            some (decide ((x0.text.size : Int) ≤ 200))
          else
            some false
        else
          some false
      else
        some false
def c_impl_stepOK (f_impl_nameOK : Nat) : AFn := ⟨44, (.seq (.ops [⟨(.some 1), (.box (.tmp 0)), .none, []⟩, ⟨(.some 2), (.mv (.const (.bool false))), .none, []⟩]) (.seq (.seq (.ops [⟨(.some 3), (.fieldA 0 (.tmp 1)), .none, []⟩, ⟨(.some 4), (.load 1 false (.tmp 3)), .none, []⟩]) (.block 0 (.seq (.ops [⟨(.some 6), (.pu (.n (.ar .eql)) [(.tmp 4), (.const (.int .i64 1))]), .none, []⟩, ⟨(.some 5), (.mv (.tmp 6)), .none, []⟩]) (.cond (.tmp 5) (.seq (.ops [⟨(.some 7), (.fieldA 1 (.tmp 1)), .none, []⟩, ⟨(.some 8), (.load 1 false (.tmp 7)), .none, []⟩, ⟨(.some 9), (.call (2 * f_impl_nameOK) [(.tmp 8)]), .none, []⟩, ⟨(.some 10), (.mv (.tmp 9)), .none, []⟩, ⟨(.some 11), (.fieldA 2 (.tmp 1)), (.some (10, true)), []⟩, ⟨(.some 12), (.load 1 false (.tmp 11)), (.some (10, true)), []⟩, ⟨(.some 13), (.call (2 * f_impl_nameOK) [(.tmp 12)]), (.some (10, true)), []⟩, ⟨(.some 14), (.pick (.tmp 10) (.tmp 13) (.const (.bool false))), .none, []⟩, ⟨(.some 15), (.mv (.tmp 14)), .none, []⟩, ⟨(.some 16), (.fieldA 1 (.tmp 1)), (.some (15, true)), []⟩, ⟨(.some 17), (.load 1 false (.tmp 16)), (.some (15, true)), []⟩, ⟨(.some 18), (.fieldA 2 (.tmp 1)), (.some (15, true)), []⟩, ⟨(.some 19), (.load 1 false (.tmp 18)), (.some (15, true)), []⟩, ⟨(.some 20), (.pu (.n (.ar .neq)) [(.tmp 17), (.tmp 19)]), (.some (15, true)), []⟩, ⟨(.some 21), (.pick (.tmp 15) (.tmp 20) (.const (.bool false))), .none, []⟩, ⟨(.some 22), (.mv (.tmp 21)), .none, []⟩, ⟨(.some 23), (.fieldA 3 (.tmp 1)), (.some (22, true)), []⟩, ⟨(.some 24), (.load 1 false (.tmp 23)), (.some (22, true)), []⟩, ⟨(.some 25), (.pu (.n (.ar .eql)) [(.tmp 24), (.const (.string ⟨#[]⟩))]), (.some (22, true)), []⟩, ⟨(.some 26), (.pick (.tmp 22) (.tmp 25) (.const (.bool false))), .none, []⟩, ⟨(.some 2), (.mv (.tmp 26)), .none, []⟩]) .ret) (.seq (.seq (.ops [⟨(.some 28), (.pu (.n (.ar .eql)) [(.tmp 4), (.const (.int .i64 2))]), .none, []⟩, ⟨(.some 27), (.mv (.tmp 28)), .none, []⟩]) (.cond (.tmp 27) .skip (.ops [⟨(.some 29), (.pu (.n (.ar .eql)) [(.tmp 4), (.const (.int .i64 3))]), .none, []⟩, ⟨(.some 27), (.mv (.tmp 29)), .none, []⟩]))) (.cond (.tmp 27) (.seq (.ops [⟨(.some 30), (.fieldA 1 (.tmp 1)), .none, []⟩, ⟨(.some 31), (.load 1 false (.tmp 30)), .none, []⟩, ⟨(.some 32), (.call (2 * f_impl_nameOK) [(.tmp 31)]), .none, []⟩, ⟨(.some 33), (.mv (.tmp 32)), .none, []⟩, ⟨(.some 34), (.fieldA 2 (.tmp 1)), (.some (33, true)), []⟩, ⟨(.some 35), (.load 1 false (.tmp 34)), (.some (33, true)), []⟩, ⟨(.some 36), (.pu (.n (.ar .eql)) [(.tmp 35), (.const (.string ⟨#[]⟩))]), (.some (33, true)), []⟩, ⟨(.some 37), (.pick (.tmp 33) (.tmp 36) (.const (.bool false))), .none, []⟩, ⟨(.some 38), (.mv (.tmp 37)), .none, []⟩, ⟨(.some 39), (.fieldA 3 (.tmp 1)), (.some (38, true)), []⟩, ⟨(.some 40), (.load 1 false (.tmp 39)), (.some (38, true)), []⟩, ⟨(.some 41), (.pu (.n .len) [(.tmp 40)]), (.some (38, true)), []⟩, ⟨(.some 42), (.pu (.n (.ar .leq)) [(.tmp 41), (.const (.int .i64 200))]), (.some (38, true)), []⟩, ⟨(.some 43), (.pick (.tmp 38) (.tmp 42) (.const (.bool false))), .none, []⟩, ⟨(.some 2), (.mv (.tmp 43)), .none, []⟩]) .ret) .skip)))))) (.seq (.ops [⟨(.some 2), (.mv (.const (.bool false))), .none, []⟩]) .ret))), [(.tmp 2)]⟩
set_option maxHeartbeats 10000000 in
theorem d_impl_stepOK {P : Program} {env : Env} {f_impl_nameOK : Nat}  (ep_impl_nameOK : env (2 * f_impl_nameOK) = pureFn true (FA fun a : ByteArray => p_impl_nameOK a)) (x0 : TStep) {b : Bool} (hp : p_impl_stepOK x0 = some b) : R P env (c_impl_stepOK f_impl_nameOK) ((encA (x0)).map ofI) [] (Tells true b) := by
  refine R_of (by simp [c_impl_stepOK, encA]) ?_
  unfold c_impl_stepOK
  unfold p_impl_stepOK at hp
  by_cases hb0 : (decide (x0.kind = 1)) = true
  · rw [if_t hb0] at hp
    obtain ⟨v1, hv1, hp⟩ := bind_eq hp
    by_cases hb2 : (v1) = true
    · rw [if_t hb2] at hp
      obtain ⟨v3, hv3, hp⟩ := bind_eq hp
      by_cases hb4 : (v3) = true
      · rw [if_t hb4] at hp
        by_cases hb5 : (decide (x0.name = x0.to)) = true
        · rw [if_t hb5] at hp
          have hp := Option.some.inj hp
          subst hp
          simp (disch := first | omega | (simp only [List.length_set, List.length_append, List.length_cons, List.length_nil, rows_len, zs]; first | done | omega)) only [ep_impl_nameOK, hb0, hv1, hb2, hv3, hb4, hb5, gs, app_hsl, app_nil, reduceIte, reduceCtorEq, Nat.reduceAdd, Nat.reduceMul, Nat.reduceSub, Nat.reduceBEq, Nat.reduceEqDiff, Nat.reduceLeDiff, Nat.reduceLT, Nat.reduceGT, Int.reduceToNat, Int.reduceLT, Int.reduceLE, Int.reduceNeg, Int.reduceAdd, Int.reduceEq, Int.reduceNe]
        · replace hb5 := eq_false_of_ne_true hb5
          rw [if_f hb5] at hp
          have hp := Option.some.inj hp
          subst hp
          simp (disch := first | omega | (simp only [List.length_set, List.length_append, List.length_cons, List.length_nil, rows_len, zs]; first | done | omega)) only [ep_impl_nameOK, hb0, hv1, hb2, hv3, hb4, hb5, gs, app_hsl, app_nil, reduceIte, reduceCtorEq, Nat.reduceAdd, Nat.reduceMul, Nat.reduceSub, Nat.reduceBEq, Nat.reduceEqDiff, Nat.reduceLeDiff, Nat.reduceLT, Nat.reduceGT, Int.reduceToNat, Int.reduceLT, Int.reduceLE, Int.reduceNeg, Int.reduceAdd, Int.reduceEq, Int.reduceNe]
      · replace hb4 := eq_false_of_ne_true hb4
        rw [if_f hb4] at hp
        have hp := Option.some.inj hp
        subst hp
        simp (disch := first | omega | (simp only [List.length_set, List.length_append, List.length_cons, List.length_nil, rows_len, zs]; first | done | omega)) only [ep_impl_nameOK, hb0, hv1, hb2, hv3, hb4, gs, app_hsl, app_nil, reduceIte, reduceCtorEq, Nat.reduceAdd, Nat.reduceMul, Nat.reduceSub, Nat.reduceBEq, Nat.reduceEqDiff, Nat.reduceLeDiff, Nat.reduceLT, Nat.reduceGT, Int.reduceToNat, Int.reduceLT, Int.reduceLE, Int.reduceNeg, Int.reduceAdd, Int.reduceEq, Int.reduceNe]
    · replace hb2 := eq_false_of_ne_true hb2
      rw [if_f hb2] at hp
      have hp := Option.some.inj hp
      subst hp
      simp (disch := first | omega | (simp only [List.length_set, List.length_append, List.length_cons, List.length_nil, rows_len, zs]; first | done | omega)) only [ep_impl_nameOK, hb0, hv1, hb2, gs, app_hsl, app_nil, reduceIte, reduceCtorEq, Nat.reduceAdd, Nat.reduceMul, Nat.reduceSub, Nat.reduceBEq, Nat.reduceEqDiff, Nat.reduceLeDiff, Nat.reduceLT, Nat.reduceGT, Int.reduceToNat, Int.reduceLT, Int.reduceLE, Int.reduceNeg, Int.reduceAdd, Int.reduceEq, Int.reduceNe]
  · replace hb0 := eq_false_of_ne_true hb0
    rw [if_f hb0] at hp
    by_cases hb6 : (decide (x0.kind = 2)) = true
    · rw [if_t hb6] at hp
      obtain ⟨v7, hv7, hp⟩ := bind_eq hp
      by_cases hb8 : (v7) = true
      · rw [if_t hb8] at hp
        by_cases hb9 : (decide (x0.to = (ByteArray.mk #[]))) = true
        · rw [if_t hb9] at hp
          have hp := Option.some.inj hp
          subst hp
          simp (disch := first | omega | (simp only [List.length_set, List.length_append, List.length_cons, List.length_nil, rows_len, zs]; first | done | omega)) only [ep_impl_nameOK, hb0, hb6, hv7, hb8, hb9, gs, app_hsl, app_nil, reduceIte, reduceCtorEq, Nat.reduceAdd, Nat.reduceMul, Nat.reduceSub, Nat.reduceBEq, Nat.reduceEqDiff, Nat.reduceLeDiff, Nat.reduceLT, Nat.reduceGT, Int.reduceToNat, Int.reduceLT, Int.reduceLE, Int.reduceNeg, Int.reduceAdd, Int.reduceEq, Int.reduceNe]
        · replace hb9 := eq_false_of_ne_true hb9
          rw [if_f hb9] at hp
          have hp := Option.some.inj hp
          subst hp
          simp (disch := first | omega | (simp only [List.length_set, List.length_append, List.length_cons, List.length_nil, rows_len, zs]; first | done | omega)) only [ep_impl_nameOK, hb0, hb6, hv7, hb8, hb9, gs, app_hsl, app_nil, reduceIte, reduceCtorEq, Nat.reduceAdd, Nat.reduceMul, Nat.reduceSub, Nat.reduceBEq, Nat.reduceEqDiff, Nat.reduceLeDiff, Nat.reduceLT, Nat.reduceGT, Int.reduceToNat, Int.reduceLT, Int.reduceLE, Int.reduceNeg, Int.reduceAdd, Int.reduceEq, Int.reduceNe]
      · replace hb8 := eq_false_of_ne_true hb8
        rw [if_f hb8] at hp
        have hp := Option.some.inj hp
        subst hp
        simp (disch := first | omega | (simp only [List.length_set, List.length_append, List.length_cons, List.length_nil, rows_len, zs]; first | done | omega)) only [ep_impl_nameOK, hb0, hb6, hv7, hb8, gs, app_hsl, app_nil, reduceIte, reduceCtorEq, Nat.reduceAdd, Nat.reduceMul, Nat.reduceSub, Nat.reduceBEq, Nat.reduceEqDiff, Nat.reduceLeDiff, Nat.reduceLT, Nat.reduceGT, Int.reduceToNat, Int.reduceLT, Int.reduceLE, Int.reduceNeg, Int.reduceAdd, Int.reduceEq, Int.reduceNe]
    · replace hb6 := eq_false_of_ne_true hb6
      rw [if_f hb6] at hp
      by_cases hb10 : (decide (x0.kind = 3)) = true
      · rw [if_t hb10] at hp
        obtain ⟨v11, hv11, hp⟩ := bind_eq hp
        by_cases hb12 : (v11) = true
        · rw [if_t hb12] at hp
          by_cases hb13 : (decide (x0.to = (ByteArray.mk #[]))) = true
          · rw [if_t hb13] at hp
            have hp := Option.some.inj hp
            subst hp
            simp (disch := first | omega | (simp only [List.length_set, List.length_append, List.length_cons, List.length_nil, rows_len, zs]; first | done | omega)) only [ep_impl_nameOK, hb0, hb6, hb10, hv11, hb12, hb13, gs, app_hsl, app_nil, reduceIte, reduceCtorEq, Nat.reduceAdd, Nat.reduceMul, Nat.reduceSub, Nat.reduceBEq, Nat.reduceEqDiff, Nat.reduceLeDiff, Nat.reduceLT, Nat.reduceGT, Int.reduceToNat, Int.reduceLT, Int.reduceLE, Int.reduceNeg, Int.reduceAdd, Int.reduceEq, Int.reduceNe]
          · replace hb13 := eq_false_of_ne_true hb13
            rw [if_f hb13] at hp
            have hp := Option.some.inj hp
            subst hp
            simp (disch := first | omega | (simp only [List.length_set, List.length_append, List.length_cons, List.length_nil, rows_len, zs]; first | done | omega)) only [ep_impl_nameOK, hb0, hb6, hb10, hv11, hb12, hb13, gs, app_hsl, app_nil, reduceIte, reduceCtorEq, Nat.reduceAdd, Nat.reduceMul, Nat.reduceSub, Nat.reduceBEq, Nat.reduceEqDiff, Nat.reduceLeDiff, Nat.reduceLT, Nat.reduceGT, Int.reduceToNat, Int.reduceLT, Int.reduceLE, Int.reduceNeg, Int.reduceAdd, Int.reduceEq, Int.reduceNe]
        · replace hb12 := eq_false_of_ne_true hb12
          rw [if_f hb12] at hp
          have hp := Option.some.inj hp
          subst hp
          simp (disch := first | omega | (simp only [List.length_set, List.length_append, List.length_cons, List.length_nil, rows_len, zs]; first | done | omega)) only [ep_impl_nameOK, hb0, hb6, hb10, hv11, hb12, gs, app_hsl, app_nil, reduceIte, reduceCtorEq, Nat.reduceAdd, Nat.reduceMul, Nat.reduceSub, Nat.reduceBEq, Nat.reduceEqDiff, Nat.reduceLeDiff, Nat.reduceLT, Nat.reduceGT, Int.reduceToNat, Int.reduceLT, Int.reduceLE, Int.reduceNeg, Int.reduceAdd, Int.reduceEq, Int.reduceNe]
      · replace hb10 := eq_false_of_ne_true hb10
        rw [if_f hb10] at hp
        have hp := Option.some.inj hp
        subst hp
        simp (disch := first | omega | (simp only [List.length_set, List.length_append, List.length_cons, List.length_nil, rows_len, zs]; first | done | omega)) only [ep_impl_nameOK, hb0, hb6, hb10, gs, app_hsl, app_nil, reduceIte, reduceCtorEq, Nat.reduceAdd, Nat.reduceMul, Nat.reduceSub, Nat.reduceBEq, Nat.reduceEqDiff, Nat.reduceLeDiff, Nat.reduceLT, Nat.reduceGT, Int.reduceToNat, Int.reduceLT, Int.reduceLE, Int.reduceNeg, Int.reduceAdd, Int.reduceEq, Int.reduceNe]

noncomputable def p_impl_lensOK_l0 (x0 : List TStep) : Int → Option (Lp (Int) Bool)
  | s1 =>
    if (decide (s1 < (x0.length : Int))) = true then
      (get? x0 s1).bind fun v3 =>
      (p_impl_stepOK v3).bind fun v4 =>
      if (v4) = true then
        some (.go (w64 (s1 + 1)))
      else
        some (.ret false)
    else
      some (.out s1)
noncomputable def p_impl_lensOK (x0 : List TStep) : Option Bool :=
  if (decide (32 < (x0.length : Int))) = true then
    some false
  else
    (loopP (p_impl_lensOK_l0 x0) 0).bind fun ee0 => match ee0 with
    | .ret r => some r
    | .out o6 =>
      some true
def c_impl_lensOK (f_impl_stepOK : Nat) : AFn := ⟨18, (.seq (.ops [⟨(.some 2), (.mv (.const (.bool false))), .none, []⟩]) (.seq (.seq (.ops [⟨(.some 5), (.mv (.tmp 0)), .none, []⟩, ⟨(.some 6), (.len (.tmp 5)), .none, []⟩, ⟨(.some 7), (.pu (.n (.ar .gtr)) [(.tmp 6), (.const (.int .i64 32))]), .none, []⟩]) (.cond (.tmp 7) (.seq (.ops [⟨(.some 2), (.mv (.const (.bool false))), .none, []⟩]) .ret) .skip)) (.seq (.seq (.ops [⟨(.some 8), (.mv (.tmp 0)), .none, []⟩, ⟨(.some 9), (.len (.tmp 8)), .none, []⟩, ⟨(.some 10), (.mv (.const (.int .i64 0))), .none, []⟩]) (.block 0 (.loop (.seq (.ops [⟨(.some 11), (.pu (.n (.ar .lss)) [(.tmp 10), (.tmp 9)]), .none, []⟩]) (.seq (.cond (.tmp 11) .skip (.exit 0)) (.seq (.block 1 (.seq (.ops [⟨(.some 12), (.idxS 4 (.tmp 8) (.tmp 10)), .none, []⟩, ⟨(.some 13), (.load 4 true (.tmp 12)), .none, []⟩, ⟨(.some 4), (.allocV [(0, false), (0, false), (0, false), (0, false)] [(.int .i64 0), (.string ⟨#[]⟩), (.string ⟨#[]⟩), (.string ⟨#[]⟩)]), .none, []⟩, ⟨.none, (.storeV [(0, false), (0, false), (0, false), (0, false)] 4 (.tmp 4) (.tmp 13)), .none, []⟩]) (.seq (.ops [⟨(.some 14), (.load 4 true (.tmp 4)), .none, []⟩, ⟨(.some 15), (.call (2 * f_impl_stepOK) [(.tmp 14)]), .none, []⟩, ⟨(.some 16), (.pu (.n (.un .not)) [(.tmp 15)]), .none, []⟩]) (.cond (.tmp 16) (.seq (.ops [⟨(.some 2), (.mv (.const (.bool false))), .none, []⟩]) .ret) .skip)))) (.ops [⟨(.some 17), (.pu (.n (.ar .add)) [(.tmp 10), (.const (.int .i64 1))]), .none, []⟩, ⟨(.some 10), (.mv (.tmp 17)), .none, []⟩]))))))) (.seq (.ops [⟨(.some 2), (.mv (.const (.bool true))), .none, []⟩]) .ret)))), [(.tmp 2)]⟩
set_option maxHeartbeats 10000000 in
theorem d_impl_lensOK {P : Program} {env : Env} {f_impl_stepOK : Nat}  (ep_impl_stepOK : env (2 * f_impl_stepOK) = pureFn true (FA fun a : TStep => p_impl_stepOK a)) (x0 : List TStep) {b : Bool} (hp : p_impl_lensOK x0 = some b) : R P env (c_impl_lensOK f_impl_stepOK) ((encA (x0)).map ofI) [] (Tells true b) := by
  refine R_of (by simp [c_impl_lensOK, encA]) ?_
  unfold c_impl_lensOK
  unfold p_impl_lensOK at hp
  by_cases hb0 : (decide (32 < (x0.length : Int))) = true
  · rw [if_t hb0] at hp
    have hp := Option.some.inj hp
    subst hp
    simp (disch := first | omega | (simp only [List.length_set, List.length_append, List.length_cons, List.length_nil, rows_len, zs]; first | done | omega)) only [ep_impl_stepOK, hb0, gs, app_hsl, app_nil, reduceIte, reduceCtorEq, Nat.reduceAdd, Nat.reduceMul, Nat.reduceSub, Nat.reduceBEq, Nat.reduceEqDiff, Nat.reduceLeDiff, Nat.reduceLT, Nat.reduceGT, Int.reduceToNat, Int.reduceLT, Int.reduceLE, Int.reduceNeg, Int.reduceAdd, Int.reduceEq, Int.reduceNe]
  · replace hb0 := eq_false_of_ne_true hb0
    rw [if_f hb0] at hp
    obtain ⟨ee0, hee0, hp⟩ := bind_eq hp
    simp (disch := first | omega | (simp only [List.length_set, List.length_append, List.length_cons, List.length_nil, rows_len, zs]; first | done | omega)) only [ep_impl_stepOK, hb0, gs, app_hsl, app_nil, reduceIte, reduceCtorEq, Nat.reduceAdd, Nat.reduceMul, Nat.reduceSub, Nat.reduceBEq, Nat.reduceEqDiff, Nat.reduceLeDiff, Nat.reduceLT, Nat.reduceGT, Int.reduceToNat, Int.reduceLT, Int.reduceLE, Int.reduceNeg, Int.reduceAdd, Int.reduceEq, Int.reduceNe]
    refine W_loopP 0 (fun s t h => match s with | s1 => t 8 = .i (.sl 4 (x0.map enc)) ∧ t 9 = .i (.s (.int .i64 (x0.length : Int))) ∧ t 10 = .i (.s (.int .i64 s1))) (RK [.tmp 2] (Tells true)) ?_ hee0 ?_ ?_
    · rintro s1 ee tt0 hh0 ⟨ftt0_0, ftt0_1, ftt0_2⟩ hp
      rw [p_impl_lensOK_l0] at hp
      by_cases hb2 : (decide (s1 < (x0.length : Int))) = true
      · rw [if_t hb2] at hp
        obtain ⟨v3, hv3, hp⟩ := bind_eq hp
        obtain ⟨v4, hv4, hp⟩ := bind_eq hp
        by_cases hb5 : (v4) = true
        · rw [if_t hb5] at hp
          have hp := Option.some.inj hp
          subst hp
          simp (disch := first | omega | (simp only [List.length_set, List.length_append, List.length_cons, List.length_nil, rows_len, zs]; first | done | omega)) only [ep_impl_stepOK, hb0, ftt0_0, ftt0_1, ftt0_2, hb2, hv3, hv4, hb5, gs, app_hsl, app_nil, reduceIte, reduceCtorEq, Nat.reduceAdd, Nat.reduceMul, Nat.reduceSub, Nat.reduceBEq, Nat.reduceEqDiff, Nat.reduceLeDiff, Nat.reduceLT, Nat.reduceGT, Int.reduceToNat, Int.reduceLT, Int.reduceLE, Int.reduceNeg, Int.reduceAdd, Int.reduceEq, Int.reduceNe] <;> omega
        · replace hb5 := eq_false_of_ne_true hb5
          rw [if_f hb5] at hp
          have hp := Option.some.inj hp
          subst hp
          simp (disch := first | omega | (simp only [List.length_set, List.length_append, List.length_cons, List.length_nil, rows_len, zs]; first | done | omega)) only [ep_impl_stepOK, hb0, ftt0_0, ftt0_1, ftt0_2, hb2, hv3, hv4, hb5, gs, app_hsl, app_nil, reduceIte, reduceCtorEq, Nat.reduceAdd, Nat.reduceMul, Nat.reduceSub, Nat.reduceBEq, Nat.reduceEqDiff, Nat.reduceLeDiff, Nat.reduceLT, Nat.reduceGT, Int.reduceToNat, Int.reduceLT, Int.reduceLE, Int.reduceNeg, Int.reduceAdd, Int.reduceEq, Int.reduceNe]
      · replace hb2 := eq_false_of_ne_true hb2
        rw [if_f hb2] at hp
        have hp := Option.some.inj hp
        subst hp
        simp (disch := first | omega | (simp only [List.length_set, List.length_append, List.length_cons, List.length_nil, rows_len, zs]; first | done | omega)) only [ep_impl_stepOK, hb0, ftt0_0, ftt0_1, ftt0_2, hb2, gs, app_hsl, app_nil, reduceIte, reduceCtorEq, Nat.reduceAdd, Nat.reduceMul, Nat.reduceSub, Nat.reduceBEq, Nat.reduceEqDiff, Nat.reduceLeDiff, Nat.reduceLT, Nat.reduceGT, Int.reduceToNat, Int.reduceLT, Int.reduceLE, Int.reduceNeg, Int.reduceAdd, Int.reduceEq, Int.reduceNe] <;> omega
    · simp (disch := first | omega | (simp only [List.length_set, List.length_append, List.length_cons, List.length_nil, rows_len, zs]; first | done | omega)) only [ep_impl_stepOK, hb0, gs, app_hsl, app_nil, reduceIte, reduceCtorEq, Nat.reduceAdd, Nat.reduceMul, Nat.reduceSub, Nat.reduceBEq, Nat.reduceEqDiff, Nat.reduceLeDiff, Nat.reduceLT, Nat.reduceGT, Int.reduceToNat, Int.reduceLT, Int.reduceLE, Int.reduceNeg, Int.reduceAdd, Int.reduceEq, Int.reduceNe] <;> omega
    · intro x tt1 hh1 hx
      rcases ee0 with o6 | r
      · obtain ⟨rfl, ftt1_0, ftt1_1, ftt1_2⟩ := hx
        dsimp only at hp
        have hp := Option.some.inj hp
        subst hp
        simp (disch := first | omega | (simp only [List.length_set, List.length_append, List.length_cons, List.length_nil, rows_len, zs]; first | done | omega)) only [ep_impl_stepOK, hb0, ftt1_0, ftt1_1, ftt1_2, gs, app_hsl, app_nil, reduceIte, reduceCtorEq, Nat.reduceAdd, Nat.reduceMul, Nat.reduceSub, Nat.reduceBEq, Nat.reduceEqDiff, Nat.reduceLeDiff, Nat.reduceLT, Nat.reduceGT, Int.reduceToNat, Int.reduceLT, Int.reduceLE, Int.reduceNeg, Int.reduceAdd, Int.reduceEq, Int.reduceNe]
      · obtain ⟨rfl, hx⟩ := hx
        dsimp only at hp
        cases hp
        simp only [seqK_ret, blockK_ret, retK_RK (K := Tells true), hx, and_self, true_and]

noncomputable def p_impl_LensJoin (x0 : List TStep) (x1 : List TStep) : Option (T2 (List TStep) Int) :=
  (p_impl_lensOK x0).bind fun v0 =>
  if (v0) = true then
    (p_impl_lensOK x1).bind fun v2 =>
    if (v2) = true then
      if (decide (32 < w64 ((x0.length : Int) + (x1.length : Int)))) = true then
        some ⟨[], 11⟩
      else
        (app? 56 ([] : List TStep) x0).bind fun v5 =>
        (app? 56 v5 x1).bind fun v6 =>
        some ⟨v6, 0⟩
    else
      some ⟨[], 1⟩
  else
    some ⟨[], 1⟩
def c_impl_LensJoin (f_impl_lensOK : Nat) : AFn := ⟨24, (.seq (.ops [⟨(.some 4), (.vnil 4 true), .none, []⟩, ⟨(.some 5), (.mv (.const (.int .i64 0))), .none, []⟩]) (.seq (.seq (.ops [⟨(.some 6), (.mv (.tmp 0)), .none, []⟩, ⟨(.some 7), (.call (2 * f_impl_lensOK) [(.tmp 6)]), .none, []⟩, ⟨(.some 8), (.pu (.n (.un .not)) [(.tmp 7)]), .none, []⟩, ⟨(.some 9), (.mv (.tmp 8)), .none, []⟩, ⟨(.some 10), (.mv (.tmp 1)), (.some (9, false)), []⟩, ⟨(.some 11), (.call (2 * f_impl_lensOK) [(.tmp 10)]), (.some (9, false)), []⟩, ⟨(.some 12), (.pu (.n (.un .not)) [(.tmp 11)]), (.some (9, false)), []⟩, ⟨(.some 13), (.pick (.tmp 9) (.const (.bool true)) (.tmp 12)), .none, []⟩]) (.cond (.tmp 13) (.seq (.ops [⟨(.some 4), (.vnil 4 true), .none, []⟩, ⟨(.some 5), (.mv (.const (.int .i64 1))), .none, []⟩]) .ret) .skip)) (.seq (.seq (.ops [⟨(.some 14), (.mv (.tmp 0)), .none, []⟩, ⟨(.some 15), (.len (.tmp 14)), .none, []⟩, ⟨(.some 16), (.mv (.tmp 1)), .none, []⟩, ⟨(.some 17), (.len (.tmp 16)), .none, []⟩, ⟨(.some 18), (.pu (.n (.ar .add)) [(.tmp 15), (.tmp 17)]), .none, []⟩, ⟨(.some 19), (.pu (.n (.ar .gtr)) [(.tmp 18), (.const (.int .i64 32))]), .none, []⟩]) (.cond (.tmp 19) (.seq (.ops [⟨(.some 4), (.vnil 4 true), .none, []⟩, ⟨(.some 5), (.mv (.const (.int .i64 11))), .none, []⟩]) .ret) .skip)) (.seq (.ops [⟨(.some 20), (.mv (.tmp 0)), .none, []⟩, ⟨(.some 21), (.appendV 4 true 56 (.tmp 20)), .none, []⟩, ⟨(.some 22), (.mv (.tmp 1)), .none, []⟩, ⟨(.some 23), (.append 4 true 56 (.tmp 21) (.tmp 22)), .none, []⟩, ⟨(.some 4), (.mv (.tmp 23)), .none, []⟩, ⟨(.some 5), (.mv (.const (.int .i64 0))), .none, []⟩]) .ret)))), [(.tmp 4), (.tmp 5)]⟩
def o_impl_LensJoin (b : T2 (List TStep) Int) (v : V) (h : Heap) : Prop := ∃ n0 : Nat, v = .tup [.hsl n0 (b.a.length * 4) 0 4 true b.a.length, .i (.s (.int .i64 b.b))] ∧ getCells h n0 (b.a.length * 4) = some (rows b.a)
def oo_impl_LensJoin (b : T2 (List TStep) Int) (h : Heap) (v : V) (h2 : Heap) : Prop := Keep [] h h2 ∧ ∃ n0 : Nat, v = .tup [.hsl n0 (b.a.length * 4) 0 4 true b.a.length, .i (.s (.int .i64 b.b))] ∧ n0 < h2.length ∧ h.length ≤ n0 ∧ getCells h2 n0 (b.a.length * 4) = some (rows b.a)
def k_impl_LensJoin (F : Fun) : Prop := ∀ (x0 : List TStep) (x1 : List TStep) (b : T2 (List TStep) Int), p_impl_LensJoin x0 x1 = some b → ∀ (h : Heap) (args : List V), snapA 9 false h args = some (encA (x0, x1)) → ∃ p, F none args h = some p ∧ oo_impl_LensJoin b h p.1 p.2
set_option maxHeartbeats 10000000 in
theorem w_impl_LensJoin {P : Program} {env : Env} {f_impl_lensOK : Nat}  (ep_impl_lensOK : env (2 * f_impl_lensOK) = pureFn true (FA fun a : List TStep => p_impl_lensOK a)) (x0 : List TStep) (x1 : List TStep) {b : T2 (List TStep) Int} (hp : p_impl_LensJoin x0 x1 = some b) : R P env (c_impl_LensJoin f_impl_lensOK) ((encA (x0, x1)).map ofI) [] (o_impl_LensJoin b) := by
  refine R_of (by simp [c_impl_LensJoin, encA]) ?_
  unfold c_impl_LensJoin
  unfold p_impl_LensJoin at hp
  obtain ⟨v0, hv0, hp⟩ := bind_eq hp
  by_cases hb1 : (v0) = true
  · rw [if_t hb1] at hp
    obtain ⟨v2, hv2, hp⟩ := bind_eq hp
    by_cases hb3 : (v2) = true
    · rw [if_t hb3] at hp
      by_cases hb4 : (decide (32 < w64 ((x0.length : Int) + (x1.length : Int)))) = true
      · rw [if_t hb4] at hp
        have hp := Option.some.inj hp
        subst hp
        simp (disch := first | omega | (simp only [List.length_set, List.length_append, List.length_cons, List.length_nil, rows_len, zs]; first | done | omega)) only [ep_impl_lensOK, hv0, hb1, hv2, hb3, hb4, gs, app_hsl, app_nil, reduceIte, reduceCtorEq, Nat.reduceAdd, Nat.reduceMul, Nat.reduceSub, Nat.reduceBEq, Nat.reduceEqDiff, Nat.reduceLeDiff, Nat.reduceLT, Nat.reduceGT, Int.reduceToNat, Int.reduceLT, Int.reduceLE, Int.reduceNeg, Int.reduceAdd, Int.reduceEq, Int.reduceNe]
        refine ⟨1, ?_⟩
        simp (disch := first | omega | (simp only [List.length_set, List.length_append, List.length_cons, List.length_nil, rows_len, zs]; first | done | omega)) only [ep_impl_lensOK, hv0, hb1, hv2, hb3, hb4, o_impl_LensJoin, gs, app_hsl, app_nil, reduceIte, reduceCtorEq, Nat.reduceAdd, Nat.reduceMul, Nat.reduceSub, Nat.reduceBEq, Nat.reduceEqDiff, Nat.reduceLeDiff, Nat.reduceLT, Nat.reduceGT, Int.reduceToNat, Int.reduceLT, Int.reduceLE, Int.reduceNeg, Int.reduceAdd, Int.reduceEq, Int.reduceNe] <;> omega
      · replace hb4 := eq_false_of_ne_true hb4
        rw [if_f hb4] at hp
        obtain ⟨v5, hv5, hp⟩ := bind_eq hp
        simp (disch := first | omega | (simp only [List.length_set, List.length_append, List.length_cons, List.length_nil, rows_len, zs]; first | done | omega)) only [ep_impl_lensOK, hv0, hb1, hv2, hb3, hb4, gs, reduceIte, reduceCtorEq, Nat.reduceAdd, Nat.reduceMul, Nat.reduceSub, Nat.reduceBEq, Nat.reduceEqDiff, Nat.reduceLeDiff, Nat.reduceLT, Nat.reduceGT, Int.reduceToNat, Int.reduceLT, Int.reduceLE, Int.reduceNeg, Int.reduceAdd, Int.reduceEq, Int.reduceNe]
        refine app_f (b := 1) (xs := ([] : List TStep)) (ys := x0) (fun h => getCells h 0 0 = some [] ∧ 0 < h.length ∧ getCells h 1 0 = some [] ∧ 1 < h.length) ?_ ?_ hv5 rfl (by first | rfl | omega | (simp; omega)) (by first | rfl | omega | (simp; omega)) (by first | rfl | omega | (simp; omega)) ?_
        · simp (disch := first | omega | (simp only [List.length_set, List.length_append, List.length_cons, List.length_nil, rows_len, zs]; first | done | omega)) only [ep_impl_lensOK, hv0, hb1, hv2, hb3, hb4, hv5, gs, app_hsl, app_nil, reduceIte, reduceCtorEq, Nat.reduceAdd, Nat.reduceMul, Nat.reduceSub, Nat.reduceBEq, Nat.reduceEqDiff, Nat.reduceLeDiff, Nat.reduceLT, Nat.reduceGT, Int.reduceToNat, Int.reduceLT, Int.reduceLE, Int.reduceNeg, Int.reduceAdd, Int.reduceEq, Int.reduceNe] <;> omega
        · rintro h ⟨c0_0, c0_1, c0_2, c0_3⟩
          exact c0_2
        · rintro h hh0 ⟨c0_0, c0_1, c0_2, c0_3⟩ kk0 w0
          have d0_0 : getCells hh0 0 0 = some [] := (keep_get kk0 c0_1 (by first | (simp; done) | (simp; omega))).trans c0_0
          have d0_0l := keep_lt kk0 c0_1
          have d0_1 : getCells hh0 1 (v5.length * 4) = some (rows (v5 : List TStep)) := by simpa only [Nat.mul_one] using w0
          have d0_1l := keep_lt kk0 c0_3
          obtain ⟨v6, hv6, hp⟩ := bind_eq hp
          simp (disch := first | omega | (simp only [List.length_set, List.length_append, List.length_cons, List.length_nil, rows_len, zs]; first | done | omega)) only [ep_impl_lensOK, hv0, hb1, hv2, hb3, hb4, hv5, d0_0, d0_1, gs, reduceIte, reduceCtorEq, Nat.reduceAdd, Nat.reduceMul, Nat.reduceSub, Nat.reduceBEq, Nat.reduceEqDiff, Nat.reduceLeDiff, Nat.reduceLT, Nat.reduceGT, Int.reduceToNat, Int.reduceLT, Int.reduceLE, Int.reduceNeg, Int.reduceAdd, Int.reduceEq, Int.reduceNe]
          refine app_f (b := 1) (xs := v5) (ys := x1) (fun h => getCells h 0 0 = some [] ∧ 0 < h.length ∧ getCells h 1 (v5.length * 4) = some (rows (v5 : List TStep)) ∧ 1 < h.length) ?_ ?_ hv6 rfl (by first | rfl | omega | (simp; omega)) (by first | rfl | omega | (simp; omega)) (by first | rfl | omega | (simp; omega)) ?_
          · simp (disch := first | omega | (simp only [List.length_set, List.length_append, List.length_cons, List.length_nil, rows_len, zs]; first | done | omega)) only [ep_impl_lensOK, hv0, hb1, hv2, hb3, hb4, hv5, d0_0, d0_1, hv6, gs, app_hsl, app_nil, reduceIte, reduceCtorEq, Nat.reduceAdd, Nat.reduceMul, Nat.reduceSub, Nat.reduceBEq, Nat.reduceEqDiff, Nat.reduceLeDiff, Nat.reduceLT, Nat.reduceGT, Int.reduceToNat, Int.reduceLT, Int.reduceLE, Int.reduceNeg, Int.reduceAdd, Int.reduceEq, Int.reduceNe] <;> omega
          · rintro h ⟨c1_0, c1_1, c1_2, c1_3⟩
            exact c1_2
          · rintro h hh1 ⟨c1_0, c1_1, c1_2, c1_3⟩ kk1 w1
            have d1_0 : getCells hh1 0 0 = some [] := (keep_get kk1 c1_1 (by first | (simp; done) | (simp; omega))).trans c1_0
            have d1_0l := keep_lt kk1 c1_1
            have d1_1 : getCells hh1 1 (v6.length * 4) = some (rows (v6 : List TStep)) := by simpa only [Nat.mul_one] using w1
            have d1_1l := keep_lt kk1 c1_3
            have hp := Option.some.inj hp
            subst hp
            simp (disch := first | omega | (simp only [List.length_set, List.length_append, List.length_cons, List.length_nil, rows_len, zs]; first | done | omega)) only [ep_impl_lensOK, hv0, hb1, hv2, hb3, hb4, hv5, d0_0, d0_1, hv6, d1_0, d1_1, gs, app_hsl, app_nil, reduceIte, reduceCtorEq, Nat.reduceAdd, Nat.reduceMul, Nat.reduceSub, Nat.reduceBEq, Nat.reduceEqDiff, Nat.reduceLeDiff, Nat.reduceLT, Nat.reduceGT, Int.reduceToNat, Int.reduceLT, Int.reduceLE, Int.reduceNeg, Int.reduceAdd, Int.reduceEq, Int.reduceNe]
            refine ⟨1, ?_⟩
            simp (disch := first | omega | (simp only [List.length_set, List.length_append, List.length_cons, List.length_nil, rows_len, zs]; first | done | omega)) only [ep_impl_lensOK, hv0, hb1, hv2, hb3, hb4, hv5, d0_0, d0_1, hv6, d1_0, d1_1, o_impl_LensJoin, gs, app_hsl, app_nil, reduceIte, reduceCtorEq, Nat.reduceAdd, Nat.reduceMul, Nat.reduceSub, Nat.reduceBEq, Nat.reduceEqDiff, Nat.reduceLeDiff, Nat.reduceLT, Nat.reduceGT, Int.reduceToNat, Int.reduceLT, Int.reduceLE, Int.reduceNeg, Int.reduceAdd, Int.reduceEq, Int.reduceNe] <;> omega
    · replace hb3 := eq_false_of_ne_true hb3
      rw [if_f hb3] at hp
      have hp := Option.some.inj hp
      subst hp
      simp (disch := first | omega | (simp only [List.length_set, List.length_append, List.length_cons, List.length_nil, rows_len, zs]; first | done | omega)) only [ep_impl_lensOK, hv0, hb1, hv2, hb3, gs, app_hsl, app_nil, reduceIte, reduceCtorEq, Nat.reduceAdd, Nat.reduceMul, Nat.reduceSub, Nat.reduceBEq, Nat.reduceEqDiff, Nat.reduceLeDiff, Nat.reduceLT, Nat.reduceGT, Int.reduceToNat, Int.reduceLT, Int.reduceLE, Int.reduceNeg, Int.reduceAdd, Int.reduceEq, Int.reduceNe]
      refine ⟨1, ?_⟩
      simp (disch := first | omega | (simp only [List.length_set, List.length_append, List.length_cons, List.length_nil, rows_len, zs]; first | done | omega)) only [ep_impl_lensOK, hv0, hb1, hv2, hb3, o_impl_LensJoin, gs, app_hsl, app_nil, reduceIte, reduceCtorEq, Nat.reduceAdd, Nat.reduceMul, Nat.reduceSub, Nat.reduceBEq, Nat.reduceEqDiff, Nat.reduceLeDiff, Nat.reduceLT, Nat.reduceGT, Int.reduceToNat, Int.reduceLT, Int.reduceLE, Int.reduceNeg, Int.reduceAdd, Int.reduceEq, Int.reduceNe] <;> omega
  · replace hb1 := eq_false_of_ne_true hb1
    rw [if_f hb1] at hp
    have hp := Option.some.inj hp
    subst hp
    simp (disch := first | omega | (simp only [List.length_set, List.length_append, List.length_cons, List.length_nil, rows_len, zs]; first | done | omega)) only [ep_impl_lensOK, hv0, hb1, gs, app_hsl, app_nil, reduceIte, reduceCtorEq, Nat.reduceAdd, Nat.reduceMul, Nat.reduceSub, Nat.reduceBEq, Nat.reduceEqDiff, Nat.reduceLeDiff, Nat.reduceLT, Nat.reduceGT, Int.reduceToNat, Int.reduceLT, Int.reduceLE, Int.reduceNeg, Int.reduceAdd, Int.reduceEq, Int.reduceNe]
    refine ⟨1, ?_⟩
    simp (disch := first | omega | (simp only [List.length_set, List.length_append, List.length_cons, List.length_nil, rows_len, zs]; first | done | omega)) only [ep_impl_lensOK, hv0, hb1, o_impl_LensJoin, gs, app_hsl, app_nil, reduceIte, reduceCtorEq, Nat.reduceAdd, Nat.reduceMul, Nat.reduceSub, Nat.reduceBEq, Nat.reduceEqDiff, Nat.reduceLeDiff, Nat.reduceLT, Nat.reduceGT, Int.reduceToNat, Int.reduceLT, Int.reduceLE, Int.reduceNeg, Int.reduceAdd, Int.reduceEq, Int.reduceNe] <;> omega
theorem ko_impl_LensJoin {P : Program} {env : Env} {f_impl_lensOK : Nat}  (ep_impl_lensOK : env (2 * f_impl_lensOK) = pureFn true (FA fun a : List TStep => p_impl_lensOK a)) : k_impl_LensJoin (ownFn P env (c_impl_LensJoin f_impl_lensOK)) := by
  intro x0 x1 b hp h args has
  obtain ⟨⟨v, H2⟩, hr, n0, rfl, wn0⟩ := w_impl_LensJoin ep_impl_lensOK x0 x1 hp
  exact ⟨_, own_call has hr rfl, keep_moved, n0 + h.length, rfl, (moved_lt wn0).2, (moved_lt wn0).1, moved_rows wn0⟩

noncomputable def p_laws_eqStep (x0 : TStep) (x1 : TStep) : Option Bool :=
  if (decide (x0.kind = x1.kind)) = true then
    if (decide (x0.name = x1.name)) = true then
      if (decide (x0.to = x1.to)) = true then
        if (decide (x0.text = x1.text)) = true then
          some true
        else
          some false
      else
        some false
    else
      some false
  else
    some false
def c_laws_eqStep : AFn := ⟨25, (.seq (.ops [⟨(.some 2), (.box (.tmp 0)), .none, []⟩, ⟨(.some 3), (.box (.tmp 1)), .none, []⟩, ⟨(.some 4), (.mv (.const (.bool false))), .none, []⟩]) (.seq (.seq (.ops [⟨(.some 5), (.fieldA 0 (.tmp 2)), .none, []⟩, ⟨(.some 6), (.load 1 false (.tmp 5)), .none, []⟩, ⟨(.some 7), (.fieldA 0 (.tmp 3)), .none, []⟩, ⟨(.some 8), (.load 1 false (.tmp 7)), .none, []⟩, ⟨(.some 9), (.pu (.n (.ar .neq)) [(.tmp 6), (.tmp 8)]), .none, []⟩]) (.cond (.tmp 9) (.seq (.ops [⟨(.some 4), (.mv (.const (.bool false))), .none, []⟩]) .ret) .skip)) (.seq (.seq (.ops [⟨(.some 10), (.fieldA 1 (.tmp 2)), .none, []⟩, ⟨(.some 11), (.load 1 false (.tmp 10)), .none, []⟩, ⟨(.some 12), (.fieldA 1 (.tmp 3)), .none, []⟩, ⟨(.some 13), (.load 1 false (.tmp 12)), .none, []⟩, ⟨(.some 14), (.pu (.n (.ar .neq)) [(.tmp 11), (.tmp 13)]), .none, []⟩]) (.cond (.tmp 14) (.seq (.ops [⟨(.some 4), (.mv (.const (.bool false))), .none, []⟩]) .ret) .skip)) (.seq (.seq (.ops [⟨(.some 15), (.fieldA 2 (.tmp 2)), .none, []⟩, ⟨(.some 16), (.load 1 false (.tmp 15)), .none, []⟩, ⟨(.some 17), (.fieldA 2 (.tmp 3)), .none, []⟩, ⟨(.some 18), (.load 1 false (.tmp 17)), .none, []⟩, ⟨(.some 19), (.pu (.n (.ar .neq)) [(.tmp 16), (.tmp 18)]), .none, []⟩]) (.cond (.tmp 19) (.seq (.ops [⟨(.some 4), (.mv (.const (.bool false))), .none, []⟩]) .ret) .skip)) (.seq (.seq (.ops [⟨(.some 20), (.fieldA 3 (.tmp 2)), .none, []⟩, ⟨(.some 21), (.load 1 false (.tmp 20)), .none, []⟩, ⟨(.some 22), (.fieldA 3 (.tmp 3)), .none, []⟩, ⟨(.some 23), (.load 1 false (.tmp 22)), .none, []⟩, ⟨(.some 24), (.pu (.n (.ar .neq)) [(.tmp 21), (.tmp 23)]), .none, []⟩]) (.cond (.tmp 24) (.seq (.ops [⟨(.some 4), (.mv (.const (.bool false))), .none, []⟩]) .ret) .skip)) (.seq (.ops [⟨(.some 4), (.mv (.const (.bool true))), .none, []⟩]) .ret)))))), [(.tmp 4)]⟩
set_option maxHeartbeats 10000000 in
theorem d_laws_eqStep {P : Program} {env : Env}  (x0 : TStep) (x1 : TStep) {b : Bool} (hp : p_laws_eqStep x0 x1 = some b) : R P env (c_laws_eqStep) ((encA (x0, x1)).map ofI) [] (Tells true b) := by
  refine R_of (by simp [c_laws_eqStep, encA]) ?_
  unfold c_laws_eqStep
  unfold p_laws_eqStep at hp
  by_cases hb0 : (decide (x0.kind = x1.kind)) = true
  · rw [if_t hb0] at hp
    by_cases hb1 : (decide (x0.name = x1.name)) = true
    · rw [if_t hb1] at hp
      by_cases hb2 : (decide (x0.to = x1.to)) = true
      · rw [if_t hb2] at hp
        by_cases hb3 : (decide (x0.text = x1.text)) = true
        · rw [if_t hb3] at hp
          have hp := Option.some.inj hp
          subst hp
          simp (disch := first | omega | (simp only [List.length_set, List.length_append, List.length_cons, List.length_nil, rows_len, zs]; first | done | omega)) only [hb0, hb1, hb2, hb3, gs, app_hsl, app_nil, reduceIte, reduceCtorEq, Nat.reduceAdd, Nat.reduceMul, Nat.reduceSub, Nat.reduceBEq, Nat.reduceEqDiff, Nat.reduceLeDiff, Nat.reduceLT, Nat.reduceGT, Int.reduceToNat, Int.reduceLT, Int.reduceLE, Int.reduceNeg, Int.reduceAdd, Int.reduceEq, Int.reduceNe]
        · replace hb3 := eq_false_of_ne_true hb3
          rw [if_f hb3] at hp
          have hp := Option.some.inj hp
          subst hp
          simp (disch := first | omega | (simp only [List.length_set, List.length_append, List.length_cons, List.length_nil, rows_len, zs]; first | done | omega)) only [hb0, hb1, hb2, hb3, gs, app_hsl, app_nil, reduceIte, reduceCtorEq, Nat.reduceAdd, Nat.reduceMul, Nat.reduceSub, Nat.reduceBEq, Nat.reduceEqDiff, Nat.reduceLeDiff, Nat.reduceLT, Nat.reduceGT, Int.reduceToNat, Int.reduceLT, Int.reduceLE, Int.reduceNeg, Int.reduceAdd, Int.reduceEq, Int.reduceNe]
      · replace hb2 := eq_false_of_ne_true hb2
        rw [if_f hb2] at hp
        have hp := Option.some.inj hp
        subst hp
        simp (disch := first | omega | (simp only [List.length_set, List.length_append, List.length_cons, List.length_nil, rows_len, zs]; first | done | omega)) only [hb0, hb1, hb2, gs, app_hsl, app_nil, reduceIte, reduceCtorEq, Nat.reduceAdd, Nat.reduceMul, Nat.reduceSub, Nat.reduceBEq, Nat.reduceEqDiff, Nat.reduceLeDiff, Nat.reduceLT, Nat.reduceGT, Int.reduceToNat, Int.reduceLT, Int.reduceLE, Int.reduceNeg, Int.reduceAdd, Int.reduceEq, Int.reduceNe]
    · replace hb1 := eq_false_of_ne_true hb1
      rw [if_f hb1] at hp
      have hp := Option.some.inj hp
      subst hp
      simp (disch := first | omega | (simp only [List.length_set, List.length_append, List.length_cons, List.length_nil, rows_len, zs]; first | done | omega)) only [hb0, hb1, gs, app_hsl, app_nil, reduceIte, reduceCtorEq, Nat.reduceAdd, Nat.reduceMul, Nat.reduceSub, Nat.reduceBEq, Nat.reduceEqDiff, Nat.reduceLeDiff, Nat.reduceLT, Nat.reduceGT, Int.reduceToNat, Int.reduceLT, Int.reduceLE, Int.reduceNeg, Int.reduceAdd, Int.reduceEq, Int.reduceNe]
  · replace hb0 := eq_false_of_ne_true hb0
    rw [if_f hb0] at hp
    have hp := Option.some.inj hp
    subst hp
    simp (disch := first | omega | (simp only [List.length_set, List.length_append, List.length_cons, List.length_nil, rows_len, zs]; first | done | omega)) only [hb0, gs, app_hsl, app_nil, reduceIte, reduceCtorEq, Nat.reduceAdd, Nat.reduceMul, Nat.reduceSub, Nat.reduceBEq, Nat.reduceEqDiff, Nat.reduceLeDiff, Nat.reduceLT, Nat.reduceGT, Int.reduceToNat, Int.reduceLT, Int.reduceLE, Int.reduceNeg, Int.reduceAdd, Int.reduceEq, Int.reduceNe]

noncomputable def p_laws_eqStepS_l0 (x0 : List TStep) (x1 : List TStep) : Int → Option (Lp (Int) Bool)
  | s1 =>
    if (decide (s1 < (x0.length : Int))) = true then
      (get? x0 s1).bind fun v3 =>
      (get? x1 s1).bind fun v4 =>
      (p_laws_eqStep v3 v4).bind fun v5 =>
      if (v5) = true then
        some (.go (w64 (s1 + 1)))
      else
        some (.ret false)
    else
      some (.out s1)
noncomputable def p_laws_eqStepS (x0 : List TStep) (x1 : List TStep) : Option Bool :=
  if (decide ((x0.length : Int) = (x1.length : Int))) = true then
    (loopP (p_laws_eqStepS_l0 x0 x1) 0).bind fun ee0 => match ee0 with
    | .ret r => some r
    | .out o7 =>
      some true
  else
    some false
def c_laws_eqStepS (f_laws_eqStep : Nat) : AFn := ⟨27, (.seq (.ops [⟨(.some 4), (.mv (.const (.bool false))), .none, []⟩]) (.seq (.seq (.ops [⟨(.some 6), (.mv (.tmp 0)), .none, []⟩, ⟨(.some 7), (.len (.tmp 6)), .none, []⟩, ⟨(.some 8), (.mv (.tmp 1)), .none, []⟩, ⟨(.some 9), (.len (.tmp 8)), .none, []⟩, ⟨(.some 10), (.pu (.n (.ar .neq)) [(.tmp 7), (.tmp 9)]), .none, []⟩]) (.cond (.tmp 10) (.seq (.ops [⟨(.some 4), (.mv (.const (.bool false))), .none, []⟩]) .ret) .skip)) (.seq (.seq (.ops [⟨(.some 5), (.mv (.const (.int .i64 0))), .none, []⟩]) (.block 0 (.loop (.seq (.seq (.ops [⟨(.some 11), (.mv (.tmp 5)), .none, []⟩, ⟨(.some 12), (.mv (.tmp 0)), .none, []⟩, ⟨(.some 13), (.len (.tmp 12)), .none, []⟩, ⟨(.some 14), (.pu (.n (.ar .lss)) [(.tmp 11), (.tmp 13)]), .none, []⟩]) (.cond (.tmp 14) .skip (.exit 0))) (.seq (.block 1 (.seq (.ops [⟨(.some 17), (.mv (.tmp 0)), .none, []⟩, ⟨(.some 18), (.mv (.tmp 5)), .none, []⟩, ⟨(.some 19), (.idxS 4 (.tmp 17) (.tmp 18)), .none, []⟩, ⟨(.some 20), (.load 4 true (.tmp 19)), .none, []⟩, ⟨(.some 21), (.mv (.tmp 1)), .none, []⟩, ⟨(.some 22), (.mv (.tmp 5)), .none, []⟩, ⟨(.some 23), (.idxS 4 (.tmp 21) (.tmp 22)), .none, []⟩, ⟨(.some 24), (.load 4 true (.tmp 23)), .none, []⟩, ⟨(.some 25), (.call (2 * f_laws_eqStep) [(.tmp 20), (.tmp 24)]), .none, []⟩, ⟨(.some 26), (.pu (.n (.un .not)) [(.tmp 25)]), .none, []⟩]) (.cond (.tmp 26) (.seq (.ops [⟨(.some 4), (.mv (.const (.bool false))), .none, []⟩]) .ret) .skip))) (.ops [⟨(.some 15), (.mv (.tmp 5)), .none, []⟩, ⟨(.some 16), (.pu (.n (.ar .add)) [(.tmp 15), (.const (.int .i64 1))]), .none, []⟩, ⟨(.some 5), (.mv (.tmp 16)), .none, []⟩])))))) (.seq (.ops [⟨(.some 4), (.mv (.const (.bool true))), .none, []⟩]) .ret)))), [(.tmp 4)]⟩
set_option maxHeartbeats 10000000 in
theorem d_laws_eqStepS {P : Program} {env : Env} {f_laws_eqStep : Nat}  (ep_laws_eqStep : env (2 * f_laws_eqStep) = pureFn true (FA fun a : TStep × TStep => p_laws_eqStep a.1 a.2)) (x0 : List TStep) (x1 : List TStep) {b : Bool} (hp : p_laws_eqStepS x0 x1 = some b) : R P env (c_laws_eqStepS f_laws_eqStep) ((encA (x0, x1)).map ofI) [] (Tells true b) := by
  refine R_of (by simp [c_laws_eqStepS, encA]) ?_
  unfold c_laws_eqStepS
  unfold p_laws_eqStepS at hp
  by_cases hb0 : (decide ((x0.length : Int) = (x1.length : Int))) = true
  · rw [if_t hb0] at hp
    obtain ⟨ee0, hee0, hp⟩ := bind_eq hp
    simp (disch := first | omega | (simp only [List.length_set, List.length_append, List.length_cons, List.length_nil, rows_len, zs]; first | done | omega)) only [ep_laws_eqStep, hb0, gs, app_hsl, app_nil, reduceIte, reduceCtorEq, Nat.reduceAdd, Nat.reduceMul, Nat.reduceSub, Nat.reduceBEq, Nat.reduceEqDiff, Nat.reduceLeDiff, Nat.reduceLT, Nat.reduceGT, Int.reduceToNat, Int.reduceLT, Int.reduceLE, Int.reduceNeg, Int.reduceAdd, Int.reduceEq, Int.reduceNe]
    refine W_loopP 0 (fun s t h => match s with | s1 => t 0 = .i (.sl 4 (x0.map enc)) ∧ t 1 = .i (.sl 4 (x1.map enc)) ∧ t 5 = .i (.s (.int .i64 s1))) (RK [.tmp 4] (Tells true)) ?_ hee0 ?_ ?_
    · rintro s1 ee tt0 hh0 ⟨ftt0_0, ftt0_1, ftt0_2⟩ hp
      rw [p_laws_eqStepS_l0] at hp
      by_cases hb2 : (decide (s1 < (x0.length : Int))) = true
      · rw [if_t hb2] at hp
        obtain ⟨v3, hv3, hp⟩ := bind_eq hp
        obtain ⟨v4, hv4, hp⟩ := bind_eq hp
        obtain ⟨v5, hv5, hp⟩ := bind_eq hp
        by_cases hb6 : (v5) = true
        · rw [if_t hb6] at hp
          have hp := Option.some.inj hp
          subst hp
          simp (disch := first | omega | (simp only [List.length_set, List.length_append, List.length_cons, List.length_nil, rows_len, zs]; first | done | omega)) only [ep_laws_eqStep, hb0, ftt0_0, ftt0_1, ftt0_2, hb2, hv3, hv4, hv5, hb6, gs, app_hsl, app_nil, reduceIte, reduceCtorEq, Nat.reduceAdd, Nat.reduceMul, Nat.reduceSub, Nat.reduceBEq, Nat.reduceEqDiff, Nat.reduceLeDiff, Nat.reduceLT, Nat.reduceGT, Int.reduceToNat, Int.reduceLT, Int.reduceLE, Int.reduceNeg, Int.reduceAdd, Int.reduceEq, Int.reduceNe] <;> omega
        · replace hb6 := eq_false_of_ne_true hb6
          rw [if_f hb6] at hp
          have hp := Option.some.inj hp
          subst hp
          simp (disch := first | omega | (simp only [List.length_set, List.length_append, List.length_cons, List.length_nil, rows_len, zs]; first | done | omega)) only [ep_laws_eqStep, hb0, ftt0_0, ftt0_1, ftt0_2, hb2, hv3, hv4, hv5, hb6, gs, app_hsl, app_nil, reduceIte, reduceCtorEq, Nat.reduceAdd, Nat.reduceMul, Nat.reduceSub, Nat.reduceBEq, Nat.reduceEqDiff, Nat.reduceLeDiff, Nat.reduceLT, Nat.reduceGT, Int.reduceToNat, Int.reduceLT, Int.reduceLE, Int.reduceNeg, Int.reduceAdd, Int.reduceEq, Int.reduceNe]
      · replace hb2 := eq_false_of_ne_true hb2
        rw [if_f hb2] at hp
        have hp := Option.some.inj hp
        subst hp
        simp (disch := first | omega | (simp only [List.length_set, List.length_append, List.length_cons, List.length_nil, rows_len, zs]; first | done | omega)) only [ep_laws_eqStep, hb0, ftt0_0, ftt0_1, ftt0_2, hb2, gs, app_hsl, app_nil, reduceIte, reduceCtorEq, Nat.reduceAdd, Nat.reduceMul, Nat.reduceSub, Nat.reduceBEq, Nat.reduceEqDiff, Nat.reduceLeDiff, Nat.reduceLT, Nat.reduceGT, Int.reduceToNat, Int.reduceLT, Int.reduceLE, Int.reduceNeg, Int.reduceAdd, Int.reduceEq, Int.reduceNe] <;> omega
    · simp (disch := first | omega | (simp only [List.length_set, List.length_append, List.length_cons, List.length_nil, rows_len, zs]; first | done | omega)) only [ep_laws_eqStep, hb0, gs, app_hsl, app_nil, reduceIte, reduceCtorEq, Nat.reduceAdd, Nat.reduceMul, Nat.reduceSub, Nat.reduceBEq, Nat.reduceEqDiff, Nat.reduceLeDiff, Nat.reduceLT, Nat.reduceGT, Int.reduceToNat, Int.reduceLT, Int.reduceLE, Int.reduceNeg, Int.reduceAdd, Int.reduceEq, Int.reduceNe] <;> omega
    · intro x tt1 hh1 hx
      rcases ee0 with o7 | r
      · obtain ⟨rfl, ftt1_0, ftt1_1, ftt1_2⟩ := hx
        dsimp only at hp
        have hp := Option.some.inj hp
        subst hp
        simp (disch := first | omega | (simp only [List.length_set, List.length_append, List.length_cons, List.length_nil, rows_len, zs]; first | done | omega)) only [ep_laws_eqStep, hb0, ftt1_0, ftt1_1, ftt1_2, gs, app_hsl, app_nil, reduceIte, reduceCtorEq, Nat.reduceAdd, Nat.reduceMul, Nat.reduceSub, Nat.reduceBEq, Nat.reduceEqDiff, Nat.reduceLeDiff, Nat.reduceLT, Nat.reduceGT, Int.reduceToNat, Int.reduceLT, Int.reduceLE, Int.reduceNeg, Int.reduceAdd, Int.reduceEq, Int.reduceNe]
      · obtain ⟨rfl, hx⟩ := hx
        dsimp only at hp
        cases hp
        simp only [seqK_ret, blockK_ret, retK_RK (K := Tells true), hx, and_self, true_and]
  · replace hb0 := eq_false_of_ne_true hb0
    rw [if_f hb0] at hp
    have hp := Option.some.inj hp
    subst hp
    simp (disch := first | omega | (simp only [List.length_set, List.length_append, List.length_cons, List.length_nil, rows_len, zs]; first | done | omega)) only [ep_laws_eqStep, hb0, gs, app_hsl, app_nil, reduceIte, reduceCtorEq, Nat.reduceAdd, Nat.reduceMul, Nat.reduceSub, Nat.reduceBEq, Nat.reduceEqDiff, Nat.reduceLeDiff, Nat.reduceLT, Nat.reduceGT, Int.reduceToNat, Int.reduceLT, Int.reduceLE, Int.reduceNeg, Int.reduceAdd, Int.reduceEq, Int.reduceNe]

noncomputable def p_laws_markText_l0 : Int × ByteArray → Option (Lp (Int × ByteArray) ByteArray)
  | (s1, s2) =>
    if (decide (0 < s1)) = true then
      (cat? (strOfNums [(IntKind.wrap .u8 (w64 (48 + (Int.tmod s1 10))))]) s2).bind fun v4 =>
      some (.go (w64 (Int.tdiv s1 10), v4))
    else
      some (.out (s1, s2))
noncomputable def p_laws_markText (x0 : Int) : Option ByteArray :=
  if (decide (x0 ≤ 0)) = true then
    some (ByteArray.mk #[109, 48])
  else
    (loopP (p_laws_markText_l0) (x0, (ByteArray.mk #[]))).bind fun ee0 => match ee0 with
    | .ret r => some r
    | .out (o5, o6) =>
      (cat? (ByteArray.mk #[109]) o6).bind fun v7 =>
      some v7
def c_laws_markText : AFn := ⟨20, (.seq (.ops [⟨(.some 2), (.mv (.const (.string ⟨#[]⟩))), .none, []⟩]) (.seq (.seq (.ops [⟨(.some 4), (.mv (.tmp 0)), .none, []⟩, ⟨(.some 5), (.pu (.n (.ar .leq)) [(.tmp 4), (.const (.int .i64 0))]), .none, []⟩]) (.cond (.tmp 5) (.seq (.ops [⟨(.some 2), (.mv (.const (.string ⟨#[109, 48]⟩))), .none, []⟩]) .ret) .skip)) (.seq (.ops [⟨(.some 3), (.mv (.const (.string ⟨#[]⟩))), .none, []⟩]) (.seq (.block 0 (.loop (.seq (.seq (.ops [⟨(.some 6), (.mv (.tmp 0)), .none, []⟩, ⟨(.some 7), (.pu (.n (.ar .gtr)) [(.tmp 6), (.const (.int .i64 0))]), .none, []⟩]) (.cond (.tmp 7) .skip (.exit 0))) (.block 1 (.seq (.ops [⟨(.some 8), (.mv (.tmp 0)), .none, []⟩, ⟨(.some 9), (.pu (.n (.ar .rem)) [(.tmp 8), (.const (.int .i64 10))]), .none, []⟩, ⟨(.some 10), (.pu (.n (.ar .add)) [(.const (.int .i64 48)), (.tmp 9)]), .none, []⟩, ⟨(.some 11), (.pu (.n (.conv .u8)) [(.tmp 10)]), .none, []⟩, ⟨(.some 12), (.buildSl 1 false 1 [(.int .u8 0)] [(0, (.tmp 11))]), .none, []⟩, ⟨(.some 13), (.b2s (.tmp 12)), .none, []⟩, ⟨(.some 14), (.mv (.tmp 3)), .none, []⟩, ⟨(.some 15), (.pu (.n (.ar .add)) [(.tmp 13), (.tmp 14)]), .none, []⟩, ⟨(.some 3), (.mv (.tmp 15)), .none, []⟩]) (.ops [⟨(.some 16), (.mv (.tmp 0)), .none, []⟩, ⟨(.some 17), (.pu (.n (.ar .quo)) [(.tmp 16), (.const (.int .i64 10))]), .none, []⟩, ⟨(.some 0), (.mv (.tmp 17)), .none, []⟩])))))) (.seq (.ops [⟨(.some 18), (.mv (.tmp 3)), .none, []⟩, ⟨(.some 19), (.pu (.n (.ar .add)) [(.const (.string ⟨#[109]⟩)), (.tmp 18)]), .none, []⟩, ⟨(.some 2), (.mv (.tmp 19)), .none, []⟩]) .ret))))), [(.tmp 2)]⟩
set_option maxHeartbeats 10000000 in
theorem d_laws_markText {P : Program} {env : Env}  (x0 : Int) {b : ByteArray} (hp : p_laws_markText x0 = some b) : R P env (c_laws_markText) ((encA (x0)).map ofI) [] (Tells true b) := by
  refine R_of (by simp [c_laws_markText, encA]) ?_
  unfold c_laws_markText
  unfold p_laws_markText at hp
  by_cases hb0 : (decide (x0 ≤ 0)) = true
  · rw [if_t hb0] at hp
    have hp := Option.some.inj hp
    subst hp
    simp (disch := first | omega | (simp only [List.length_set, List.length_append, List.length_cons, List.length_nil, rows_len, zs]; first | done | omega)) only [hb0, gs, app_hsl, app_nil, reduceIte, reduceCtorEq, Nat.reduceAdd, Nat.reduceMul, Nat.reduceSub, Nat.reduceBEq, Nat.reduceEqDiff, Nat.reduceLeDiff, Nat.reduceLT, Nat.reduceGT, Int.reduceToNat, Int.reduceLT, Int.reduceLE, Int.reduceNeg, Int.reduceAdd, Int.reduceEq, Int.reduceNe]
  · replace hb0 := eq_false_of_ne_true hb0
    rw [if_f hb0] at hp
    obtain ⟨ee0, hee0, hp⟩ := bind_eq hp
    simp (disch := first | omega | (simp only [List.length_set, List.length_append, List.length_cons, List.length_nil, rows_len, zs]; first | done | omega)) only [hb0, gs, app_hsl, app_nil, reduceIte, reduceCtorEq, Nat.reduceAdd, Nat.reduceMul, Nat.reduceSub, Nat.reduceBEq, Nat.reduceEqDiff, Nat.reduceLeDiff, Nat.reduceLT, Nat.reduceGT, Int.reduceToNat, Int.reduceLT, Int.reduceLE, Int.reduceNeg, Int.reduceAdd, Int.reduceEq, Int.reduceNe]
    refine W_loopP 0 (fun s t h => match s with | (s1, s2) => t 0 = .i (.s (.int .i64 s1)) ∧ t 3 = .i (.s (.string s2))) (RK [.tmp 2] (Tells true)) ?_ hee0 ?_ ?_
    · rintro ⟨s1, s2⟩ ee tt0 hh0 ⟨ftt0_0, ftt0_1⟩ hp
      rw [p_laws_markText_l0] at hp
      by_cases hb3 : (decide (0 < s1)) = true
      · rw [if_t hb3] at hp
        obtain ⟨v4, hv4, hp⟩ := bind_eq hp
        have hp := Option.some.inj hp
        subst hp
        simp (disch := first | omega | (simp only [List.length_set, List.length_append, List.length_cons, List.length_nil, rows_len, zs]; first | done | omega)) only [hb0, ftt0_0, ftt0_1, hb3, hv4, gs, app_hsl, app_nil, reduceIte, reduceCtorEq, Nat.reduceAdd, Nat.reduceMul, Nat.reduceSub, Nat.reduceBEq, Nat.reduceEqDiff, Nat.reduceLeDiff, Nat.reduceLT, Nat.reduceGT, Int.reduceToNat, Int.reduceLT, Int.reduceLE, Int.reduceNeg, Int.reduceAdd, Int.reduceEq, Int.reduceNe] <;> omega
      · replace hb3 := eq_false_of_ne_true hb3
        rw [if_f hb3] at hp
        have hp := Option.some.inj hp
        subst hp
        simp (disch := first | omega | (simp only [List.length_set, List.length_append, List.length_cons, List.length_nil, rows_len, zs]; first | done | omega)) only [hb0, ftt0_0, ftt0_1, hb3, gs, app_hsl, app_nil, reduceIte, reduceCtorEq, Nat.reduceAdd, Nat.reduceMul, Nat.reduceSub, Nat.reduceBEq, Nat.reduceEqDiff, Nat.reduceLeDiff, Nat.reduceLT, Nat.reduceGT, Int.reduceToNat, Int.reduceLT, Int.reduceLE, Int.reduceNeg, Int.reduceAdd, Int.reduceEq, Int.reduceNe] <;> omega
    · simp (disch := first | omega | (simp only [List.length_set, List.length_append, List.length_cons, List.length_nil, rows_len, zs]; first | done | omega)) only [hb0, gs, app_hsl, app_nil, reduceIte, reduceCtorEq, Nat.reduceAdd, Nat.reduceMul, Nat.reduceSub, Nat.reduceBEq, Nat.reduceEqDiff, Nat.reduceLeDiff, Nat.reduceLT, Nat.reduceGT, Int.reduceToNat, Int.reduceLT, Int.reduceLE, Int.reduceNeg, Int.reduceAdd, Int.reduceEq, Int.reduceNe] <;> omega
    · intro x tt1 hh1 hx
      rcases ee0 with ⟨o5, o6⟩ | r
      · obtain ⟨rfl, ftt1_0, ftt1_1⟩ := hx
        dsimp only at hp
        obtain ⟨v7, hv7, hp⟩ := bind_eq hp
        have hp := Option.some.inj hp
        subst hp
        simp (disch := first | omega | (simp only [List.length_set, List.length_append, List.length_cons, List.length_nil, rows_len, zs]; first | done | omega)) only [hb0, ftt1_0, ftt1_1, hv7, gs, app_hsl, app_nil, reduceIte, reduceCtorEq, Nat.reduceAdd, Nat.reduceMul, Nat.reduceSub, Nat.reduceBEq, Nat.reduceEqDiff, Nat.reduceLeDiff, Nat.reduceLT, Nat.reduceGT, Int.reduceToNat, Int.reduceLT, Int.reduceLE, Int.reduceNeg, Int.reduceAdd, Int.reduceEq, Int.reduceNe]
      · obtain ⟨rfl, hx⟩ := hx
        dsimp only at hp
        cases hp
        simp only [seqK_ret, blockK_ret, retK_RK (K := Tells true), hx, and_self, true_and]

noncomputable def p_laws_markStepS_l0 : List TStep × Int × Int → Option (Lp (List TStep × Int × Int) (T2 Int (List TStep)))
  | (s0, s1, s2) =>
    if (decide (s2 < (s0.length : Int))) = true then
      (get? s0 s2).bind fun v5 =>
      (p_laws_markText (w64 (s1 + 1))).bind fun v7 =>
      (get? (s0.set s2.toNat (TStep.mk s1 v5.name v5.to v5.text)) s2).bind fun v8 =>
      (p_laws_markText (w64 ((w64 (s1 + 1)) + 1))).bind fun v10 =>
      (get? ((s0.set s2.toNat (TStep.mk s1 v5.name v5.to v5.text)).set s2.toNat (TStep.mk v8.kind v7 v8.to v8.text)) s2).bind fun v11 =>
      (p_laws_markText (w64 ((w64 ((w64 (s1 + 1)) + 1)) + 1))).bind fun v13 =>
      (get? (((s0.set s2.toNat (TStep.mk s1 v5.name v5.to v5.text)).set s2.toNat (TStep.mk v8.kind v7 v8.to v8.text)).set s2.toNat (TStep.mk v11.kind v11.name v10 v11.text)) s2).bind fun v14 =>
      some (.go (((((s0.set s2.toNat (TStep.mk s1 v5.name v5.to v5.text)).set s2.toNat (TStep.mk v8.kind v7 v8.to v8.text)).set s2.toNat (TStep.mk v11.kind v11.name v10 v11.text)).set s2.toNat (TStep.mk v14.kind v14.name v14.to v13)), w64 ((w64 ((w64 ((w64 (s1 + 1)) + 1)) + 1)) + 1), w64 (s2 + 1)))
    else
      some (.out (s0, s1, s2))
noncomputable def p_laws_markStepS (x0 : List TStep) (x1 : Int) : Option (T2 Int (List TStep)) :=
  (loopP (p_laws_markStepS_l0) (x0, x1, 0)).bind fun ee0 => match ee0 with
  | .ret r => some r
  | .out (o16, o17, o18) =>
    some ⟨o17, o16⟩
def c_laws_markStepS (f_laws_markText : Nat) : AFn := ⟨44, (.seq (.ops [⟨(.some 4), (.mv (.const (.int .i64 0))), .none, []⟩]) (.seq (.seq (.ops [⟨(.some 5), (.mv (.const (.int .i64 0))), .none, []⟩]) (.block 0 (.loop (.seq (.seq (.ops [⟨(.some 6), (.mv (.tmp 5)), .none, []⟩, ⟨(.some 7), (.mv (.tmp 0)), .none, []⟩, ⟨(.some 8), (.len (.tmp 7)), .none, []⟩, ⟨(.some 9), (.pu (.n (.ar .lss)) [(.tmp 6), (.tmp 8)]), .none, []⟩]) (.cond (.tmp 9) .skip (.exit 0))) (.seq (.block 1 (.seq (.ops [⟨(.some 12), (.mv (.tmp 0)), .none, []⟩, ⟨(.some 13), (.mv (.tmp 5)), .none, []⟩, ⟨(.some 14), (.mv (.tmp 1)), .none, []⟩, ⟨(.some 15), (.idxS 4 (.tmp 12) (.tmp 13)), .none, []⟩, ⟨(.some 16), (.fieldA 0 (.tmp 15)), .none, []⟩, ⟨.none, (.storeV [(0, false)] 1 (.tmp 16) (.tmp 14)), .none, []⟩]) (.seq (.ops [⟨(.some 17), (.mv (.tmp 1)), .none, []⟩, ⟨(.some 18), (.pu (.n (.ar .add)) [(.tmp 17), (.const (.int .i64 1))]), .none, []⟩, ⟨(.some 1), (.mv (.tmp 18)), .none, []⟩]) (.seq (.ops [⟨(.some 19), (.mv (.tmp 0)), .none, []⟩, ⟨(.some 20), (.mv (.tmp 5)), .none, []⟩, ⟨(.some 21), (.mv (.tmp 1)), .none, []⟩, ⟨(.some 22), (.call (2 * f_laws_markText) [(.tmp 21)]), .none, []⟩, ⟨(.some 23), (.idxS 4 (.tmp 19) (.tmp 20)), .none, []⟩, ⟨(.some 24), (.fieldA 1 (.tmp 23)), .none, []⟩, ⟨.none, (.storeV [(0, false)] 1 (.tmp 24) (.tmp 22)), .none, []⟩]) (.seq (.ops [⟨(.some 25), (.mv (.tmp 1)), .none, []⟩, ⟨(.some 26), (.pu (.n (.ar .add)) [(.tmp 25), (.const (.int .i64 1))]), .none, []⟩, ⟨(.some 1), (.mv (.tmp 26)), .none, []⟩]) (.seq (.ops [⟨(.some 27), (.mv (.tmp 0)), .none, []⟩, ⟨(.some 28), (.mv (.tmp 5)), .none, []⟩, ⟨(.some 29), (.mv (.tmp 1)), .none, []⟩, ⟨(.some 30), (.call (2 * f_laws_markText) [(.tmp 29)]), .none, []⟩, ⟨(.some 31), (.idxS 4 (.tmp 27) (.tmp 28)), .none, []⟩, ⟨(.some 32), (.fieldA 2 (.tmp 31)), .none, []⟩, ⟨.none, (.storeV [(0, false)] 1 (.tmp 32) (.tmp 30)), .none, []⟩]) (.seq (.ops [⟨(.some 33), (.mv (.tmp 1)), .none, []⟩, ⟨(.some 34), (.pu (.n (.ar .add)) [(.tmp 33), (.const (.int .i64 1))]), .none, []⟩, ⟨(.some 1), (.mv (.tmp 34)), .none, []⟩]) (.seq (.ops [⟨(.some 35), (.mv (.tmp 0)), .none, []⟩, ⟨(.some 36), (.mv (.tmp 5)), .none, []⟩, ⟨(.some 37), (.mv (.tmp 1)), .none, []⟩, ⟨(.some 38), (.call (2 * f_laws_markText) [(.tmp 37)]), .none, []⟩, ⟨(.some 39), (.idxS 4 (.tmp 35) (.tmp 36)), .none, []⟩, ⟨(.some 40), (.fieldA 3 (.tmp 39)), .none, []⟩, ⟨.none, (.storeV [(0, false)] 1 (.tmp 40) (.tmp 38)), .none, []⟩]) (.ops [⟨(.some 41), (.mv (.tmp 1)), .none, []⟩, ⟨(.some 42), (.pu (.n (.ar .add)) [(.tmp 41), (.const (.int .i64 1))]), .none, []⟩, ⟨(.some 1), (.mv (.tmp 42)), .none, []⟩]))))))))) (.ops [⟨(.some 10), (.mv (.tmp 5)), .none, []⟩, ⟨(.some 11), (.pu (.n (.ar .add)) [(.tmp 10), (.const (.int .i64 1))]), .none, []⟩, ⟨(.some 5), (.mv (.tmp 11)), .none, []⟩])))))) (.seq (.ops [⟨(.some 43), (.mv (.tmp 1)), .none, []⟩, ⟨(.some 4), (.mv (.tmp 43)), .none, []⟩]) .ret))), [(.tmp 4)]⟩
def i_laws_markStepS (pb0 pn0 : Nat) (h : Heap) (b : T2 Int (List TStep)) (v : V) (h2 : Heap) : Prop := Keep [pb0] h h2 ∧ v = .i (.s (.int .i64 b.a)) ∧ getCells h2 pb0 (pn0 * 4) = some (rows b.b)
def k_laws_markStepS (F : Fun) : Prop := ∀ (x0 : List TStep) (x1 : Int) (b : T2 Int (List TStep)), p_laws_markStepS x0 x1 = some b → ∀ (pb0 pn0 : Nat) (h : Heap), pn0 = (x0).length → getCells h pb0 (pn0 * 4) = some (rows x0) → ∃ p, F none [.hsl pb0 (pn0 * 4) 0 4 true pn0, .i (.s (.int .i64 x1))] h = some p ∧ i_laws_markStepS pb0 pn0 h b p.1 p.2
set_option maxHeartbeats 10000000 in
theorem w_laws_markStepS {P : Program} {env : Env} {f_laws_markText : Nat}  (ep_laws_markText : env (2 * f_laws_markText) = pureFn true (FA fun a : Int => p_laws_markText a)) (x0 : List TStep) (x1 : Int) {b : T2 Int (List TStep)} (hp : p_laws_markStepS x0 x1 = some b) (pb0 pn0 : Nat) (hh : Heap) (pm0 : pn0 = (x0).length) (pf0 : getCells hh pb0 (pn0 * 4) = some (rows x0)) : R P env (c_laws_markStepS f_laws_markText) [.hsl pb0 (pn0 * 4) 0 4 true pn0, .i (.s (.int .i64 x1))] hh (i_laws_markStepS pb0 pn0 hh b) := by
  have pl0 := gc_lt pf0
  refine R_of (by simp [c_laws_markStepS, encA]) ?_
  unfold c_laws_markStepS
  unfold p_laws_markStepS at hp
  obtain ⟨ee0, hee0, hp⟩ := bind_eq hp
  simp (disch := first | omega | (simp only [List.length_set, List.length_append, List.length_cons, List.length_nil, rows_len, zs]; first | done | omega)) only [ep_laws_markText, pf0, gs, app_hsl, app_nil, reduceIte, reduceCtorEq, Nat.reduceAdd, Nat.reduceMul, Nat.reduceSub, Nat.reduceBEq, Nat.reduceEqDiff, Nat.reduceLeDiff, Nat.reduceLT, Nat.reduceGT, Int.reduceToNat, Int.reduceLT, Int.reduceLE, Int.reduceNeg, Int.reduceAdd, Int.reduceEq, Int.reduceNe]
  refine W_loopP 0 (fun s t h => match s with | (s0, s1, s2) => t 0 = .hsl pb0 (pn0 * 4) 0 4 true pn0 ∧ t 1 = .i (.s (.int .i64 s1)) ∧ t 5 = .i (.s (.int .i64 s2)) ∧ getCells h pb0 (pn0 * 4) = some (rows (s0 : List TStep)) ∧ pb0 < h.length ∧ Keep [pb0] hh h) (RK [.tmp 4] (i_laws_markStepS pb0 pn0 hh)) ?_ hee0 ?_ ?_
  · rintro ⟨s0, s1, s2⟩ ee tt0 hh0 ⟨ftt0_0, ftt0_1, ftt0_2, ftt0_3, ftt0_4, ftt0_5⟩ hp
    have ztt0_3 := len_rows ftt0_3
    simp only [zs] at ztt0_3
    rw [p_laws_markStepS_l0] at hp
    have hz3 : ((pn0 : Nat) : Int) = (s0.length : Int) := by omega
    by_cases hb4 : (decide (s2 < (s0.length : Int))) = true
    · rw [if_t hb4] at hp
      obtain ⟨v5, hv5, hp⟩ := bind_eq hp
      have gv5 := get_some hv5
      have hs6 : List.take (s2.toNat * 4) (rows s0) ++ .i (.s (.int .i64 s1)) :: List.drop (s2.toNat * 4 + 1) (rows s0) = rows (s0.set s2.toNat (TStep.mk s1 v5.name v5.to v5.text)) := by simpa [splice, zs, cellsV, I.cells, enc_TStep] using rows_set_off (y := (TStep.mk s1 v5.name v5.to v5.text)) (ys := [.i (.s (.int .i64 s1))]) (k := 0) gv5.2.2 (Nat.le_of_ble_eq_true rfl) (by rfl)
      obtain ⟨v7, hv7, hp⟩ := bind_eq hp
      obtain ⟨v8, hv8, hp⟩ := bind_eq hp
      have gv8 := get_some hv8
      have hs9 : List.take (s2.toNat * 4 + 1) (rows (s0.set s2.toNat (TStep.mk s1 v5.name v5.to v5.text))) ++ .i (.s (.string v7)) :: List.drop (s2.toNat * 4 + 1 + 1) (rows (s0.set s2.toNat (TStep.mk s1 v5.name v5.to v5.text))) = rows ((s0.set s2.toNat (TStep.mk s1 v5.name v5.to v5.text)).set s2.toNat (TStep.mk v8.kind v7 v8.to v8.text)) := by simpa [splice, zs, cellsV, I.cells, enc_TStep] using rows_set_off (y := (TStep.mk v8.kind v7 v8.to v8.text)) (ys := [.i (.s (.string v7))]) (k := 1) gv8.2.2 (Nat.le_of_ble_eq_true rfl) (by rfl)
      obtain ⟨v10, hv10, hp⟩ := bind_eq hp
      obtain ⟨v11, hv11, hp⟩ := bind_eq hp
      have gv11 := get_some hv11
      have hs12 : List.take (s2.toNat * 4 + 2) (rows ((s0.set s2.toNat (TStep.mk s1 v5.name v5.to v5.text)).set s2.toNat (TStep.mk v8.kind v7 v8.to v8.text))) ++ .i (.s (.string v10)) :: List.drop (s2.toNat * 4 + 2 + 1) (rows ((s0.set s2.toNat (TStep.mk s1 v5.name v5.to v5.text)).set s2.toNat (TStep.mk v8.kind v7 v8.to v8.text))) = rows (((s0.set s2.toNat (TStep.mk s1 v5.name v5.to v5.text)).set s2.toNat (TStep.mk v8.kind v7 v8.to v8.text)).set s2.toNat (TStep.mk v11.kind v11.name v10 v11.text)) := by simpa [splice, zs, cellsV, I.cells, enc_TStep] using rows_set_off (y := (TStep.mk v11.kind v11.name v10 v11.text)) (ys := [.i (.s (.string v10))]) (k := 2) gv11.2.2 (Nat.le_of_ble_eq_true rfl) (by rfl)
      obtain ⟨v13, hv13, hp⟩ := bind_eq hp
      obtain ⟨v14, hv14, hp⟩ := bind_eq hp
      have gv14 := get_some hv14
      have hs15 : List.take (s2.toNat * 4 + 3) (rows (((s0.set s2.toNat (TStep.mk s1 v5.name v5.to v5.text)).set s2.toNat (TStep.mk v8.kind v7 v8.to v8.text)).set s2.toNat (TStep.mk v11.kind v11.name v10 v11.text))) ++ .i (.s (.string v13)) :: List.drop (s2.toNat * 4 + 3 + 1) (rows (((s0.set s2.toNat (TStep.mk s1 v5.name v5.to v5.text)).set s2.toNat (TStep.mk v8.kind v7 v8.to v8.text)).set s2.toNat (TStep.mk v11.kind v11.name v10 v11.text))) = rows ((((s0.set s2.toNat (TStep.mk s1 v5.name v5.to v5.text)).set s2.toNat (TStep.mk v8.kind v7 v8.to v8.text)).set s2.toNat (TStep.mk v11.kind v11.name v10 v11.text)).set s2.toNat (TStep.mk v14.kind v14.name v14.to v13)) := by simpa [splice, zs, cellsV, I.cells, enc_TStep] using rows_set_off (y := (TStep.mk v14.kind v14.name v14.to v13)) (ys := [.i (.s (.string v13))]) (k := 3) gv14.2.2 (Nat.le_of_ble_eq_true rfl) (by rfl)
      have hp := Option.some.inj hp
      subst hp
      simp (disch := first | omega | (simp only [List.length_set, List.length_append, List.length_cons, List.length_nil, rows_len, zs]; first | done | omega)) only [i_laws_markStepS, ep_laws_markText, pf0, ftt0_0, ftt0_1, ftt0_2, ftt0_3, ftt0_4, ftt0_5, hz3, hb4, hv5, (gv5).1, (gv5).2.1, hs6, hv7, hv8, (gv8).1, (gv8).2.1, hs9, hv10, hv11, (gv11).1, (gv11).2.1, hs12, hv13, hv14, (gv14).1, (gv14).2.1, hs15, gs, app_hsl, app_nil, reduceIte, reduceCtorEq, Nat.reduceAdd, Nat.reduceMul, Nat.reduceSub, Nat.reduceBEq, Nat.reduceEqDiff, Nat.reduceLeDiff, Nat.reduceLT, Nat.reduceGT, Int.reduceToNat, Int.reduceLT, Int.reduceLE, Int.reduceNeg, Int.reduceAdd, Int.reduceEq, Int.reduceNe] <;> (repeat (first | omega | assumption | rfl | exact keep_refl | refine keep_app ?_ | (refine keep_set (by first | (left; simp; done) | (right; simp; omega)) ?_) | refine And.intro ?_ ?_))
    · replace hb4 := eq_false_of_ne_true hb4
      rw [if_f hb4] at hp
      have hp := Option.some.inj hp
      subst hp
      simp (disch := first | omega | (simp only [List.length_set, List.length_append, List.length_cons, List.length_nil, rows_len, zs]; first | done | omega)) only [i_laws_markStepS, ep_laws_markText, pf0, ftt0_0, ftt0_1, ftt0_2, ftt0_3, ftt0_4, ftt0_5, hz3, hb4, gs, app_hsl, app_nil, reduceIte, reduceCtorEq, Nat.reduceAdd, Nat.reduceMul, Nat.reduceSub, Nat.reduceBEq, Nat.reduceEqDiff, Nat.reduceLeDiff, Nat.reduceLT, Nat.reduceGT, Int.reduceToNat, Int.reduceLT, Int.reduceLE, Int.reduceNeg, Int.reduceAdd, Int.reduceEq, Int.reduceNe] <;> (repeat (first | omega | assumption | rfl | exact keep_refl | refine keep_app ?_ | (refine keep_set (by first | (left; simp; done) | (right; simp; omega)) ?_) | refine And.intro ?_ ?_))
  · simp (disch := first | omega | (simp only [List.length_set, List.length_append, List.length_cons, List.length_nil, rows_len, zs]; first | done | omega)) only [i_laws_markStepS, ep_laws_markText, pf0, gs, app_hsl, app_nil, reduceIte, reduceCtorEq, Nat.reduceAdd, Nat.reduceMul, Nat.reduceSub, Nat.reduceBEq, Nat.reduceEqDiff, Nat.reduceLeDiff, Nat.reduceLT, Nat.reduceGT, Int.reduceToNat, Int.reduceLT, Int.reduceLE, Int.reduceNeg, Int.reduceAdd, Int.reduceEq, Int.reduceNe] <;> (repeat (first | omega | assumption | rfl | exact keep_refl | refine keep_app ?_ | (refine keep_set (by first | (left; simp; done) | (right; simp; omega)) ?_) | refine And.intro ?_ ?_))
  · intro x tt1 hh1 hx
    rcases ee0 with ⟨o16, o17, o18⟩ | r
    · obtain ⟨rfl, ftt1_0, ftt1_1, ftt1_2, ftt1_3, ftt1_4, ftt1_5⟩ := hx
      have ztt1_3 := len_rows ftt1_3
      simp only [zs] at ztt1_3
      dsimp only at hp
      have hp := Option.some.inj hp
      subst hp
      simp (disch := first | omega | (simp only [List.length_set, List.length_append, List.length_cons, List.length_nil, rows_len, zs]; first | done | omega)) only [i_laws_markStepS, ep_laws_markText, pf0, ftt1_0, ftt1_1, ftt1_2, ftt1_3, ftt1_4, ftt1_5, gs, app_hsl, app_nil, reduceIte, reduceCtorEq, Nat.reduceAdd, Nat.reduceMul, Nat.reduceSub, Nat.reduceBEq, Nat.reduceEqDiff, Nat.reduceLeDiff, Nat.reduceLT, Nat.reduceGT, Int.reduceToNat, Int.reduceLT, Int.reduceLE, Int.reduceNeg, Int.reduceAdd, Int.reduceEq, Int.reduceNe] <;> (repeat (first | omega | assumption | rfl | exact keep_refl | refine keep_app ?_ | (refine keep_set (by first | (left; simp; done) | (right; simp; omega)) ?_) | refine And.intro ?_ ?_))
    · obtain ⟨rfl, hx⟩ := hx
      dsimp only at hp
      cases hp
      simp only [seqK_ret, blockK_ret, retK_RK (K := i_laws_markStepS pb0 pn0 hh), hx, and_self, true_and]
theorem ko_laws_markStepS {P : Program} {env : Env} {f_laws_markText : Nat}  (ep_laws_markText : env (2 * f_laws_markText) = pureFn true (FA fun a : Int => p_laws_markText a)) : k_laws_markStepS (runIn P env (c_laws_markStepS f_laws_markText)) := by
  intro x0 x1 b hp pb0 pn0 h a0 a1
  exact w_laws_markStepS ep_laws_markText x0 x1 hp pb0 pn0 h a0 a1

noncomputable def p_laws_heldStepS_l0 (x0 : List TStep) : Int × Int → Option (Lp (Int × Int) Int)
  | (s0, s1) =>
    if (decide (s1 < (x0.length : Int))) = true then
      (get? x0 s1).bind fun v3 =>
      if (decide (v3.kind = s0)) = true then
        (p_laws_markText (w64 (s0 + 1))).bind fun v5 =>
        if (decide (v3.name = v5)) = true then
          (p_laws_markText (w64 ((w64 (s0 + 1)) + 1))).bind fun v7 =>
          if (decide (v3.to = v7)) = true then
            (p_laws_markText (w64 ((w64 ((w64 (s0 + 1)) + 1)) + 1))).bind fun v9 =>
            if (decide (v3.text = v9)) = true then
              some (.go (w64 ((w64 ((w64 ((w64 (s0 + 1)) + 1)) + 1)) + 1), w64 (s1 + 1)))
            else
              some (.ret (-1))
          else
            some (.ret (-1))
        else
          some (.ret (-1))
      else
        some (.ret (-1))
    else
      some (.out (s0, s1))
noncomputable def p_laws_heldStepS (x0 : List TStep) (x1 : Int) : Option Int :=
  (loopP (p_laws_heldStepS_l0 x0) (x1, 0)).bind fun ee0 => match ee0 with
  | .ret r => some r
  | .out (o11, o12) =>
    some o11
def c_laws_heldStepS (f_laws_markText : Nat) : AFn := ⟨52, (.seq (.ops [⟨(.some 4), (.mv (.const (.int .i64 0))), .none, []⟩]) (.seq (.seq (.ops [⟨(.some 5), (.mv (.const (.int .i64 0))), .none, []⟩]) (.block 0 (.loop (.seq (.seq (.ops [⟨(.some 6), (.mv (.tmp 5)), .none, []⟩, ⟨(.some 7), (.mv (.tmp 0)), .none, []⟩, ⟨(.some 8), (.len (.tmp 7)), .none, []⟩, ⟨(.some 9), (.pu (.n (.ar .lss)) [(.tmp 6), (.tmp 8)]), .none, []⟩]) (.cond (.tmp 9) .skip (.exit 0))) (.seq (.block 1 (.seq (.seq (.ops [⟨(.some 12), (.mv (.tmp 0)), .none, []⟩, ⟨(.some 13), (.mv (.tmp 5)), .none, []⟩, ⟨(.some 14), (.idxS 4 (.tmp 12) (.tmp 13)), .none, []⟩, ⟨(.some 15), (.fieldA 0 (.tmp 14)), .none, []⟩, ⟨(.some 16), (.load 1 false (.tmp 15)), .none, []⟩, ⟨(.some 17), (.mv (.tmp 1)), .none, []⟩, ⟨(.some 18), (.pu (.n (.ar .neq)) [(.tmp 16), (.tmp 17)]), .none, []⟩]) (.cond (.tmp 18) (.seq (.ops [⟨(.some 4), (.mv (.const (.int .i64 (-1)))), .none, []⟩]) .ret) .skip)) (.seq (.ops [⟨(.some 19), (.mv (.tmp 1)), .none, []⟩, ⟨(.some 20), (.pu (.n (.ar .add)) [(.tmp 19), (.const (.int .i64 1))]), .none, []⟩, ⟨(.some 1), (.mv (.tmp 20)), .none, []⟩]) (.seq (.seq (.ops [⟨(.some 21), (.mv (.tmp 0)), .none, []⟩, ⟨(.some 22), (.mv (.tmp 5)), .none, []⟩, ⟨(.some 23), (.idxS 4 (.tmp 21) (.tmp 22)), .none, []⟩, ⟨(.some 24), (.fieldA 1 (.tmp 23)), .none, []⟩, ⟨(.some 25), (.load 1 false (.tmp 24)), .none, []⟩, ⟨(.some 26), (.mv (.tmp 1)), .none, []⟩, ⟨(.some 27), (.call (2 * f_laws_markText) [(.tmp 26)]), .none, []⟩, ⟨(.some 28), (.pu (.n (.ar .neq)) [(.tmp 25), (.tmp 27)]), .none, []⟩]) (.cond (.tmp 28) (.seq (.ops [⟨(.some 4), (.mv (.const (.int .i64 (-1)))), .none, []⟩]) .ret) .skip)) (.seq (.ops [⟨(.some 29), (.mv (.tmp 1)), .none, []⟩, ⟨(.some 30), (.pu (.n (.ar .add)) [(.tmp 29), (.const (.int .i64 1))]), .none, []⟩, ⟨(.some 1), (.mv (.tmp 30)), .none, []⟩]) (.seq (.seq (.ops [⟨(.some 31), (.mv (.tmp 0)), .none, []⟩, ⟨(.some 32), (.mv (.tmp 5)), .none, []⟩, ⟨(.some 33), (.idxS 4 (.tmp 31) (.tmp 32)), .none, []⟩, ⟨(.some 34), (.fieldA 2 (.tmp 33)), .none, []⟩, ⟨(.some 35), (.load 1 false (.tmp 34)), .none, []⟩, ⟨(.some 36), (.mv (.tmp 1)), .none, []⟩, ⟨(.some 37), (.call (2 * f_laws_markText) [(.tmp 36)]), .none, []⟩, ⟨(.some 38), (.pu (.n (.ar .neq)) [(.tmp 35), (.tmp 37)]), .none, []⟩]) (.cond (.tmp 38) (.seq (.ops [⟨(.some 4), (.mv (.const (.int .i64 (-1)))), .none, []⟩]) .ret) .skip)) (.seq (.ops [⟨(.some 39), (.mv (.tmp 1)), .none, []⟩, ⟨(.some 40), (.pu (.n (.ar .add)) [(.tmp 39), (.const (.int .i64 1))]), .none, []⟩, ⟨(.some 1), (.mv (.tmp 40)), .none, []⟩]) (.seq (.seq (.ops [⟨(.some 41), (.mv (.tmp 0)), .none, []⟩, ⟨(.some 42), (.mv (.tmp 5)), .none, []⟩, ⟨(.some 43), (.idxS 4 (.tmp 41) (.tmp 42)), .none, []⟩, ⟨(.some 44), (.fieldA 3 (.tmp 43)), .none, []⟩, ⟨(.some 45), (.load 1 false (.tmp 44)), .none, []⟩, ⟨(.some 46), (.mv (.tmp 1)), .none, []⟩, ⟨(.some 47), (.call (2 * f_laws_markText) [(.tmp 46)]), .none, []⟩, ⟨(.some 48), (.pu (.n (.ar .neq)) [(.tmp 45), (.tmp 47)]), .none, []⟩]) (.cond (.tmp 48) (.seq (.ops [⟨(.some 4), (.mv (.const (.int .i64 (-1)))), .none, []⟩]) .ret) .skip)) (.ops [⟨(.some 49), (.mv (.tmp 1)), .none, []⟩, ⟨(.some 50), (.pu (.n (.ar .add)) [(.tmp 49), (.const (.int .i64 1))]), .none, []⟩, ⟨(.some 1), (.mv (.tmp 50)), .none, []⟩]))))))))) (.ops [⟨(.some 10), (.mv (.tmp 5)), .none, []⟩, ⟨(.some 11), (.pu (.n (.ar .add)) [(.tmp 10), (.const (.int .i64 1))]), .none, []⟩, ⟨(.some 5), (.mv (.tmp 11)), .none, []⟩])))))) (.seq (.ops [⟨(.some 51), (.mv (.tmp 1)), .none, []⟩, ⟨(.some 4), (.mv (.tmp 51)), .none, []⟩]) .ret))), [(.tmp 4)]⟩
set_option maxHeartbeats 10000000 in
theorem d_laws_heldStepS {P : Program} {env : Env} {f_laws_markText : Nat}  (ep_laws_markText : env (2 * f_laws_markText) = pureFn true (FA fun a : Int => p_laws_markText a)) (x0 : List TStep) (x1 : Int) {b : Int} (hp : p_laws_heldStepS x0 x1 = some b) : R P env (c_laws_heldStepS f_laws_markText) ((encA (x0, x1)).map ofI) [] (Tells true b) := by
  refine R_of (by simp [c_laws_heldStepS, encA]) ?_
  unfold c_laws_heldStepS
  unfold p_laws_heldStepS at hp
  obtain ⟨ee0, hee0, hp⟩ := bind_eq hp
  simp (disch := first | omega | (simp only [List.length_set, List.length_append, List.length_cons, List.length_nil, rows_len, zs]; first | done | omega)) only [ep_laws_markText, gs, app_hsl, app_nil, reduceIte, reduceCtorEq, Nat.reduceAdd, Nat.reduceMul, Nat.reduceSub, Nat.reduceBEq, Nat.reduceEqDiff, Nat.reduceLeDiff, Nat.reduceLT, Nat.reduceGT, Int.reduceToNat, Int.reduceLT, Int.reduceLE, Int.reduceNeg, Int.reduceAdd, Int.reduceEq, Int.reduceNe]
  refine W_loopP 0 (fun s t h => match s with | (s0, s1) => t 0 = .i (.sl 4 (x0.map enc)) ∧ t 1 = .i (.s (.int .i64 s0)) ∧ t 5 = .i (.s (.int .i64 s1))) (RK [.tmp 4] (Tells true)) ?_ hee0 ?_ ?_
  · rintro ⟨s0, s1⟩ ee tt0 hh0 ⟨ftt0_0, ftt0_1, ftt0_2⟩ hp
    rw [p_laws_heldStepS_l0] at hp
    by_cases hb2 : (decide (s1 < (x0.length : Int))) = true
    · rw [if_t hb2] at hp
      obtain ⟨v3, hv3, hp⟩ := bind_eq hp
      by_cases hb4 : (decide (v3.kind = s0)) = true
      · rw [if_t hb4] at hp
        obtain ⟨v5, hv5, hp⟩ := bind_eq hp
        by_cases hb6 : (decide (v3.name = v5)) = true
        · rw [if_t hb6] at hp
          obtain ⟨v7, hv7, hp⟩ := bind_eq hp
          by_cases hb8 : (decide (v3.to = v7)) = true
          · rw [if_t hb8] at hp
            obtain ⟨v9, hv9, hp⟩ := bind_eq hp
            by_cases hb10 : (decide (v3.text = v9)) = true
            · rw [if_t hb10] at hp
              have hp := Option.some.inj hp
              subst hp
              simp (disch := first | omega | (simp only [List.length_set, List.length_append, List.length_cons, List.length_nil, rows_len, zs]; first | done | omega)) only [ep_laws_markText, ftt0_0, ftt0_1, ftt0_2, hb2, hv3, hb4, hv5, hb6, hv7, hb8, hv9, hb10, gs, app_hsl, app_nil, reduceIte, reduceCtorEq, Nat.reduceAdd, Nat.reduceMul, Nat.reduceSub, Nat.reduceBEq, Nat.reduceEqDiff, Nat.reduceLeDiff, Nat.reduceLT, Nat.reduceGT, Int.reduceToNat, Int.reduceLT, Int.reduceLE, Int.reduceNeg, Int.reduceAdd, Int.reduceEq, Int.reduceNe] <;> omega
            · replace hb10 := eq_false_of_ne_true hb10
              rw [if_f hb10] at hp
              have hp := Option.some.inj hp
              subst hp
              simp (disch := first | omega | (simp only [List.length_set, List.length_append, List.length_cons, List.length_nil, rows_len, zs]; first | done | omega)) only [ep_laws_markText, ftt0_0, ftt0_1, ftt0_2, hb2, hv3, hb4, hv5, hb6, hv7, hb8, hv9, hb10, gs, app_hsl, app_nil, reduceIte, reduceCtorEq, Nat.reduceAdd, Nat.reduceMul, Nat.reduceSub, Nat.reduceBEq, Nat.reduceEqDiff, Nat.reduceLeDiff, Nat.reduceLT, Nat.reduceGT, Int.reduceToNat, Int.reduceLT, Int.reduceLE, Int.reduceNeg, Int.reduceAdd, Int.reduceEq, Int.reduceNe]
          · replace hb8 := eq_false_of_ne_true hb8
            rw [if_f hb8] at hp
            have hp := Option.some.inj hp
            subst hp
            simp (disch := first | omega | (simp only [List.length_set, List.length_append, List.length_cons, List.length_nil, rows_len, zs]; first | done | omega)) only [ep_laws_markText, ftt0_0, ftt0_1, ftt0_2, hb2, hv3, hb4, hv5, hb6, hv7, hb8, gs, app_hsl, app_nil, reduceIte, reduceCtorEq, Nat.reduceAdd, Nat.reduceMul, Nat.reduceSub, Nat.reduceBEq, Nat.reduceEqDiff, Nat.reduceLeDiff, Nat.reduceLT, Nat.reduceGT, Int.reduceToNat, Int.reduceLT, Int.reduceLE, Int.reduceNeg, Int.reduceAdd, Int.reduceEq, Int.reduceNe]
        · replace hb6 := eq_false_of_ne_true hb6
          rw [if_f hb6] at hp
          have hp := Option.some.inj hp
          subst hp
          simp (disch := first | omega | (simp only [List.length_set, List.length_append, List.length_cons, List.length_nil, rows_len, zs]; first | done | omega)) only [ep_laws_markText, ftt0_0, ftt0_1, ftt0_2, hb2, hv3, hb4, hv5, hb6, gs, app_hsl, app_nil, reduceIte, reduceCtorEq, Nat.reduceAdd, Nat.reduceMul, Nat.reduceSub, Nat.reduceBEq, Nat.reduceEqDiff, Nat.reduceLeDiff, Nat.reduceLT, Nat.reduceGT, Int.reduceToNat, Int.reduceLT, Int.reduceLE, Int.reduceNeg, Int.reduceAdd, Int.reduceEq, Int.reduceNe]
      · replace hb4 := eq_false_of_ne_true hb4
        rw [if_f hb4] at hp
        have hp := Option.some.inj hp
        subst hp
        simp (disch := first | omega | (simp only [List.length_set, List.length_append, List.length_cons, List.length_nil, rows_len, zs]; first | done | omega)) only [ep_laws_markText, ftt0_0, ftt0_1, ftt0_2, hb2, hv3, hb4, gs, app_hsl, app_nil, reduceIte, reduceCtorEq, Nat.reduceAdd, Nat.reduceMul, Nat.reduceSub, Nat.reduceBEq, Nat.reduceEqDiff, Nat.reduceLeDiff, Nat.reduceLT, Nat.reduceGT, Int.reduceToNat, Int.reduceLT, Int.reduceLE, Int.reduceNeg, Int.reduceAdd, Int.reduceEq, Int.reduceNe]
    · replace hb2 := eq_false_of_ne_true hb2
      rw [if_f hb2] at hp
      have hp := Option.some.inj hp
      subst hp
      simp (disch := first | omega | (simp only [List.length_set, List.length_append, List.length_cons, List.length_nil, rows_len, zs]; first | done | omega)) only [ep_laws_markText, ftt0_0, ftt0_1, ftt0_2, hb2, gs, app_hsl, app_nil, reduceIte, reduceCtorEq, Nat.reduceAdd, Nat.reduceMul, Nat.reduceSub, Nat.reduceBEq, Nat.reduceEqDiff, Nat.reduceLeDiff, Nat.reduceLT, Nat.reduceGT, Int.reduceToNat, Int.reduceLT, Int.reduceLE, Int.reduceNeg, Int.reduceAdd, Int.reduceEq, Int.reduceNe] <;> omega
  · simp (disch := first | omega | (simp only [List.length_set, List.length_append, List.length_cons, List.length_nil, rows_len, zs]; first | done | omega)) only [ep_laws_markText, gs, app_hsl, app_nil, reduceIte, reduceCtorEq, Nat.reduceAdd, Nat.reduceMul, Nat.reduceSub, Nat.reduceBEq, Nat.reduceEqDiff, Nat.reduceLeDiff, Nat.reduceLT, Nat.reduceGT, Int.reduceToNat, Int.reduceLT, Int.reduceLE, Int.reduceNeg, Int.reduceAdd, Int.reduceEq, Int.reduceNe] <;> omega
  · intro x tt1 hh1 hx
    rcases ee0 with ⟨o11, o12⟩ | r
    · obtain ⟨rfl, ftt1_0, ftt1_1, ftt1_2⟩ := hx
      dsimp only at hp
      have hp := Option.some.inj hp
      subst hp
      simp (disch := first | omega | (simp only [List.length_set, List.length_append, List.length_cons, List.length_nil, rows_len, zs]; first | done | omega)) only [ep_laws_markText, ftt1_0, ftt1_1, ftt1_2, gs, app_hsl, app_nil, reduceIte, reduceCtorEq, Nat.reduceAdd, Nat.reduceMul, Nat.reduceSub, Nat.reduceBEq, Nat.reduceEqDiff, Nat.reduceLeDiff, Nat.reduceLT, Nat.reduceGT, Int.reduceToNat, Int.reduceLT, Int.reduceLE, Int.reduceNeg, Int.reduceAdd, Int.reduceEq, Int.reduceNe]
    · obtain ⟨rfl, hx⟩ := hx
      dsimp only at hp
      cases hp
      simp only [seqK_ret, blockK_ret, retK_RK (K := Tells true), hx, and_self, true_and]

noncomputable def p_laws_FnExactLensJoin (x0 : List TStep) (x1 : List TStep) : Option Bool :=
  (p_laws_szStepS x0 1048576).bind fun v0 =>
  if (decide (v0 < 0)) = true then
    some true
  else
    (p_laws_szStepS x1 v0).bind fun v2 =>
    if (decide (v2 < 0)) = true then
      some true
    else
      (p_laws_toStepS x0).bind fun v4 =>
      (p_laws_toStepS x1).bind fun v5 =>
      (p_spec_LensJoin v4 v5).bind fun v6 =>
      (p_impl_LensJoin v4 v5).bind fun v7 =>
      (p_laws_eqStepS v7.a v6.a).bind fun v8 =>
      if (v8) = true then
        if (decide (v7.b = v6.b)) = true then
          (p_laws_eqStepS v4 v4).bind fun v11 =>
          if (v11) = true then
            (p_laws_eqStepS v5 v5).bind fun v13 =>
            if (v13) = true then
              (p_laws_markStepS v4 1).bind fun v15 =>
              (p_laws_markStepS v5 v15.a).bind fun v16 =>
              if (decide (v16.a < 0)) = true then
                some false
              else
                (p_laws_markStepS v7.a 1).bind fun v18 =>
                (p_laws_heldStepS v18.b 1).bind fun v19 =>
                if (decide (v19 < 0)) = true then
                  some false
                else
                  if (decide (v19 = v18.a)) = true then
                    some true
                  else
                    some false
            else
              some false
          else
            some false
        else
          some false
      else
        some false
def c_laws_FnExactLensJoin (f_laws_szStepS : Nat) (f_laws_toStepS : Nat) (f_spec_LensJoin : Nat) (f_impl_LensJoin : Nat) (f_laws_eqStepS : Nat) (f_laws_markStepS : Nat) (f_laws_heldStepS : Nat) : AFn := ⟨119, (.seq (.ops [⟨(.some 4), (.mv (.const (.bool false))), .none, []⟩]) (.seq (.ops [⟨(.some 5), (.mv (.const (.int .i64 1048576))), .none, []⟩]) (.seq (.ops [⟨(.some 17), (.mv (.tmp 0)), .none, []⟩, ⟨(.some 18), (.mv (.tmp 5)), .none, []⟩, ⟨(.some 19), (.call (2 * f_laws_szStepS) [(.tmp 17), (.tmp 18)]), .none, []⟩, ⟨(.some 5), (.mv (.tmp 19)), .none, []⟩]) (.seq (.seq (.ops [⟨(.some 20), (.mv (.tmp 5)), .none, []⟩, ⟨(.some 21), (.pu (.n (.ar .lss)) [(.tmp 20), (.const (.int .i64 0))]), .none, []⟩]) (.cond (.tmp 21) (.seq (.ops [⟨(.some 4), (.mv (.const (.bool true))), .none, []⟩]) .ret) .skip)) (.seq (.ops [⟨(.some 22), (.mv (.tmp 1)), .none, []⟩, ⟨(.some 23), (.mv (.tmp 5)), .none, []⟩, ⟨(.some 24), (.call (2 * f_laws_szStepS) [(.tmp 22), (.tmp 23)]), .none, []⟩, ⟨(.some 5), (.mv (.tmp 24)), .none, []⟩]) (.seq (.seq (.ops [⟨(.some 25), (.mv (.tmp 5)), .none, []⟩, ⟨(.some 26), (.pu (.n (.ar .lss)) [(.tmp 25), (.const (.int .i64 0))]), .none, []⟩]) (.cond (.tmp 26) (.seq (.ops [⟨(.some 4), (.mv (.const (.bool true))), .none, []⟩]) .ret) .skip)) (.seq (.ops [⟨(.some 28), (.mv (.tmp 0)), .none, []⟩, ⟨(.some 29), (.call (2 * f_laws_toStepS) [(.tmp 28)]), .none, []⟩, ⟨(.some 30), (.mv (.tmp 1)), .none, []⟩, ⟨(.some 31), (.call (2 * f_laws_toStepS) [(.tmp 30)]), .none, []⟩, ⟨(.some 32), (.call (2 * f_spec_LensJoin) [(.tmp 29), (.tmp 31)]), .none, []⟩, ⟨(.some 27), (.mv (.tmp 32)), .none, []⟩, ⟨(.some 33), (.extract 0 (.tmp 27)), .none, []⟩, ⟨(.some 34), (.extract 1 (.tmp 27)), .none, []⟩, ⟨(.some 6), (.mv (.tmp 33)), .none, []⟩, ⟨(.some 7), (.mv (.tmp 34)), .none, []⟩]) (.seq (.ops [⟨(.some 35), (.mv (.tmp 0)), .none, []⟩, ⟨(.some 36), (.call (2 * f_laws_toStepS + 1) [(.tmp 35)]), .none, []⟩, ⟨(.some 8), (.mv (.tmp 36)), .none, []⟩]) (.seq (.ops [⟨(.some 37), (.mv (.tmp 1)), .none, []⟩, ⟨(.some 38), (.call (2 * f_laws_toStepS + 1) [(.tmp 37)]), .none, []⟩, ⟨(.some 9), (.mv (.tmp 38)), .none, []⟩]) (.seq (.ops [⟨(.some 40), (.mv (.tmp 8)), .none, []⟩, ⟨(.some 41), (.mv (.tmp 9)), .none, []⟩, ⟨(.some 42), (.call (2 * f_impl_LensJoin + 1) [(.tmp 40), (.tmp 41)]), .none, []⟩, ⟨(.some 39), (.mv (.tmp 42)), .none, []⟩, ⟨(.some 43), (.extract 0 (.tmp 39)), .none, []⟩, ⟨(.some 44), (.extract 1 (.tmp 39)), .none, []⟩, ⟨(.some 10), (.mv (.tmp 43)), .none, []⟩, ⟨(.some 11), (.mv (.tmp 44)), .none, []⟩]) (.seq (.seq (.ops [⟨(.some 45), (.mv (.tmp 10)), .none, []⟩, ⟨(.some 46), (.mv (.tmp 6)), .none, []⟩, ⟨(.some 47), (.call (2 * f_laws_eqStepS) [(.tmp 45), (.tmp 46)]), .none, []⟩, ⟨(.some 48), (.pu (.n (.un .not)) [(.tmp 47)]), .none, []⟩, ⟨(.some 49), (.mv (.tmp 48)), .none, []⟩, ⟨(.some 50), (.mv (.tmp 11)), (.some (49, false)), []⟩, ⟨(.some 51), (.mv (.tmp 7)), (.some (49, false)), []⟩, ⟨(.some 52), (.pu (.n (.ar .neq)) [(.tmp 50), (.tmp 51)]), (.some (49, false)), []⟩, ⟨(.some 53), (.pick (.tmp 49) (.const (.bool true)) (.tmp 52)), .none, []⟩]) (.cond (.tmp 53) (.seq (.ops [⟨(.some 4), (.mv (.const (.bool false))), .none, []⟩]) .ret) .skip)) (.seq (.seq (.ops [⟨(.some 54), (.mv (.tmp 8)), .none, []⟩, ⟨(.some 55), (.mv (.tmp 0)), .none, []⟩, ⟨(.some 56), (.call (2 * f_laws_toStepS + 1) [(.tmp 55)]), .none, []⟩, ⟨(.some 57), (.call (2 * f_laws_eqStepS) [(.tmp 54), (.tmp 56)]), .none, []⟩, ⟨(.some 58), (.pu (.n (.un .not)) [(.tmp 57)]), .none, []⟩]) (.cond (.tmp 58) (.seq (.ops [⟨(.some 4), (.mv (.const (.bool false))), .none, []⟩]) .ret) .skip)) (.seq (.seq (.ops [⟨(.some 59), (.mv (.tmp 9)), .none, []⟩, ⟨(.some 60), (.mv (.tmp 1)), .none, []⟩, ⟨(.some 61), (.call (2 * f_laws_toStepS + 1) [(.tmp 60)]), .none, []⟩, ⟨(.some 62), (.call (2 * f_laws_eqStepS) [(.tmp 59), (.tmp 61)]), .none, []⟩, ⟨(.some 63), (.pu (.n (.un .not)) [(.tmp 62)]), .none, []⟩]) (.cond (.tmp 63) (.seq (.ops [⟨(.some 4), (.mv (.const (.bool false))), .none, []⟩]) .ret) .skip)) (.seq (.ops [⟨(.some 12), (.mv (.const (.int .i64 1))), .none, []⟩]) (.seq (.ops [⟨(.some 64), (.mv (.tmp 8)), .none, []⟩, ⟨(.some 65), (.mv (.tmp 12)), .none, []⟩, ⟨(.some 66), (.call (2 * f_laws_markStepS + 1) [(.tmp 64), (.tmp 65)]), .none, []⟩, ⟨(.some 12), (.mv (.tmp 66)), .none, []⟩]) (.seq (.ops [⟨(.some 67), (.mv (.tmp 9)), .none, []⟩, ⟨(.some 68), (.mv (.tmp 12)), .none, []⟩, ⟨(.some 69), (.call (2 * f_laws_markStepS + 1) [(.tmp 67), (.tmp 68)]), .none, []⟩, ⟨(.some 12), (.mv (.tmp 69)), .none, []⟩]) (.seq (.seq (.ops [⟨(.some 70), (.mv (.tmp 12)), .none, []⟩, ⟨(.some 71), (.pu (.n (.ar .lss)) [(.tmp 70), (.const (.int .i64 0))]), .none, []⟩, ⟨(.some 72), (.mv (.tmp 71)), .none, []⟩, ⟨(.some 73), (.mv (.tmp 10)), (.some (72, false)), []⟩, ⟨(.some 74), (.mv (.tmp 6)), (.some (72, false)), []⟩, ⟨(.some 75), (.call (2 * f_laws_eqStepS) [(.tmp 73), (.tmp 74)]), (.some (72, false)), []⟩, ⟨(.some 76), (.pu (.n (.un .not)) [(.tmp 75)]), (.some (72, false)), []⟩, ⟨(.some 77), (.pick (.tmp 72) (.const (.bool true)) (.tmp 76)), .none, []⟩, ⟨(.some 78), (.mv (.tmp 77)), .none, []⟩, ⟨(.some 79), (.mv (.tmp 11)), (.some (78, false)), []⟩, ⟨(.some 80), (.mv (.tmp 7)), (.some (78, false)), []⟩, ⟨(.some 81), (.pu (.n (.ar .neq)) [(.tmp 79), (.tmp 80)]), (.some (78, false)), []⟩, ⟨(.some 82), (.pick (.tmp 78) (.const (.bool true)) (.tmp 81)), .none, []⟩]) (.cond (.tmp 82) (.seq (.ops [⟨(.some 4), (.mv (.const (.bool false))), .none, []⟩]) .ret) .skip)) (.seq (.ops [⟨(.some 13), (.mv (.const (.int .i64 1))), .none, []⟩]) (.seq (.ops [⟨(.some 83), (.mv (.tmp 10)), .none, []⟩, ⟨(.some 84), (.mv (.tmp 13)), .none, []⟩, ⟨(.some 85), (.call (2 * f_laws_markStepS + 1) [(.tmp 83), (.tmp 84)]), .none, []⟩, ⟨(.some 13), (.mv (.tmp 85)), .none, []⟩]) (.seq (.ops [⟨(.some 14), (.mv (.const (.int .i64 1))), .none, []⟩]) (.seq (.ops [⟨(.some 86), (.mv (.tmp 10)), .none, []⟩, ⟨(.some 87), (.mv (.tmp 14)), .none, []⟩, ⟨(.some 88), (.call (2 * f_laws_heldStepS) [(.tmp 86), (.tmp 87)]), .none, []⟩, ⟨(.some 14), (.mv (.tmp 88)), .none, []⟩]) (.seq (.seq (.ops [⟨(.some 89), (.mv (.tmp 14)), .none, []⟩, ⟨(.some 90), (.pu (.n (.ar .lss)) [(.tmp 89), (.const (.int .i64 0))]), .none, []⟩]) (.cond (.tmp 90) (.seq (.ops [⟨(.some 4), (.mv (.const (.bool false))), .none, []⟩]) .ret) .skip)) (.seq (.seq (.ops [⟨(.some 91), (.mv (.tmp 14)), .none, []⟩, ⟨(.some 92), (.mv (.tmp 13)), .none, []⟩, ⟨(.some 93), (.pu (.n (.ar .neq)) [(.tmp 91), (.tmp 92)]), .none, []⟩]) (.cond (.tmp 93) (.seq (.ops [⟨(.some 4), (.mv (.const (.bool false))), .none, []⟩]) .ret) .skip)) (.seq (.ops [⟨(.some 95), (.mv (.tmp 0)), .none, []⟩, ⟨(.some 96), (.call (2 * f_laws_toStepS + 1) [(.tmp 95)]), .none, []⟩, ⟨(.some 97), (.mv (.tmp 1)), .none, []⟩, ⟨(.some 98), (.call (2 * f_laws_toStepS + 1) [(.tmp 97)]), .none, []⟩, ⟨(.some 99), (.call (2 * f_impl_LensJoin + 1) [(.tmp 96), (.tmp 98)]), .none, []⟩, ⟨(.some 94), (.mv (.tmp 99)), .none, []⟩, ⟨(.some 100), (.extract 0 (.tmp 94)), .none, []⟩, ⟨(.some 101), (.extract 1 (.tmp 94)), .none, []⟩, ⟨(.some 15), (.mv (.tmp 100)), .none, []⟩, ⟨(.some 16), (.mv (.tmp 101)), .none, []⟩]) (.seq (.seq (.ops [⟨(.some 102), (.mv (.tmp 15)), .none, []⟩, ⟨(.some 103), (.mv (.tmp 6)), .none, []⟩, ⟨(.some 104), (.call (2 * f_laws_eqStepS) [(.tmp 102), (.tmp 103)]), .none, []⟩, ⟨(.some 105), (.pu (.n (.un .not)) [(.tmp 104)]), .none, []⟩, ⟨(.some 106), (.mv (.tmp 105)), .none, []⟩, ⟨(.some 107), (.mv (.tmp 16)), (.some (106, false)), []⟩, ⟨(.some 108), (.mv (.tmp 7)), (.some (106, false)), []⟩, ⟨(.some 109), (.pu (.n (.ar .neq)) [(.tmp 107), (.tmp 108)]), (.some (106, false)), []⟩, ⟨(.some 110), (.pick (.tmp 106) (.const (.bool true)) (.tmp 109)), .none, []⟩]) (.cond (.tmp 110) (.seq (.ops [⟨(.some 4), (.mv (.const (.bool false))), .none, []⟩]) .ret) .skip)) (.seq (.ops [⟨(.some 14), (.mv (.const (.int .i64 1))), .none, []⟩]) (.seq (.ops [⟨(.some 111), (.mv (.tmp 10)), .none, []⟩, ⟨(.some 112), (.mv (.tmp 14)), .none, []⟩, ⟨(.some 113), (.call (2 * f_laws_heldStepS) [(.tmp 111), (.tmp 112)]), .none, []⟩, ⟨(.some 14), (.mv (.tmp 113)), .none, []⟩]) (.seq (.seq (.ops [⟨(.some 114), (.mv (.tmp 14)), .none, []⟩, ⟨(.some 115), (.pu (.n (.ar .lss)) [(.tmp 114), (.const (.int .i64 0))]), .none, []⟩]) (.cond (.tmp 115) (.seq (.ops [⟨(.some 4), (.mv (.const (.bool false))), .none, []⟩]) .ret) .skip)) (.seq (.seq (.ops [⟨(.some 116), (.mv (.tmp 14)), .none, []⟩, ⟨(.some 117), (.mv (.tmp 13)), .none, []⟩, ⟨(.some 118), (.pu (.n (.ar .neq)) [(.tmp 116), (.tmp 117)]), .none, []⟩]) (.cond (.tmp 118) (.seq (.ops [⟨(.some 4), (.mv (.const (.bool false))), .none, []⟩]) .ret) .skip)) (.seq (.ops [⟨(.some 4), (.mv (.const (.bool true))), .none, []⟩]) .ret)))))))))))))))))))))))))))))), [(.tmp 4)]⟩
set_option maxHeartbeats 10000000 in
theorem d_laws_FnExactLensJoin {P : Program} {env : Env} {f_laws_szStepS : Nat} {f_laws_toStepS : Nat} {f_spec_LensJoin : Nat} {f_impl_LensJoin : Nat} {f_laws_eqStepS : Nat} {f_laws_markStepS : Nat} {f_laws_heldStepS : Nat}  (ep_laws_szStepS : env (2 * f_laws_szStepS) = pureFn true (FA fun a : List TStep × Int => p_laws_szStepS a.1 a.2)) (ep_laws_toStepS : env (2 * f_laws_toStepS) = pureFn true (FA fun a : List TStep => p_laws_toStepS a)) (ep_spec_LensJoin : env (2 * f_spec_LensJoin) = pureFn true (FA fun a : List TStep × List TStep => p_spec_LensJoin a.1 a.2)) (ep_laws_eqStepS : env (2 * f_laws_eqStepS) = pureFn true (FA fun a : List TStep × List TStep => p_laws_eqStepS a.1 a.2)) (ep_laws_heldStepS : env (2 * f_laws_heldStepS) = pureFn true (FA fun a : List TStep × Int => p_laws_heldStepS a.1 a.2)) (e_laws_toStepS : k_laws_toStepS (env (2 * f_laws_toStepS + 1))) (e_impl_LensJoin : k_impl_LensJoin (env (2 * f_impl_LensJoin + 1))) (e_laws_markStepS : k_laws_markStepS (env (2 * f_laws_markStepS + 1))) (x0 : List TStep) (x1 : List TStep) (hp : p_laws_FnExactLensJoin x0 x1 = some true) : R P env (c_laws_FnExactLensJoin f_laws_szStepS f_laws_toStepS f_spec_LensJoin f_impl_LensJoin f_laws_eqStepS f_laws_markStepS f_laws_heldStepS) ((encA (x0, x1)).map ofI) [] (fun v _ => v = .i (iB true)) := by
  refine R_of (by simp [c_laws_FnExactLensJoin, encA]) ?_
  unfold c_laws_FnExactLensJoin
  unfold p_laws_FnExactLensJoin at hp
  obtain ⟨v0, hv0, hp⟩ := bind_eq hp
  by_cases hb1 : (decide (v0 < 0)) = true
  · rw [if_t hb1] at hp
    cases hp
    simp (disch := first | omega | (simp only [List.length_set, List.length_append, List.length_cons, List.length_nil, rows_len, zs]; first | done | omega)) only [ep_laws_szStepS, ep_laws_toStepS, ep_spec_LensJoin, ep_laws_eqStepS, ep_laws_heldStepS, hv0, hb1, gs, app_hsl, app_nil, reduceIte, reduceCtorEq, Nat.reduceAdd, Nat.reduceMul, Nat.reduceSub, Nat.reduceBEq, Nat.reduceEqDiff, Nat.reduceLeDiff, Nat.reduceLT, Nat.reduceGT, Int.reduceToNat, Int.reduceLT, Int.reduceLE, Int.reduceNeg, Int.reduceAdd, Int.reduceEq, Int.reduceNe]
  · replace hb1 := eq_false_of_ne_true hb1
    rw [if_f hb1] at hp
    obtain ⟨v2, hv2, hp⟩ := bind_eq hp
    by_cases hb3 : (decide (v2 < 0)) = true
    · rw [if_t hb3] at hp
      cases hp
      simp (disch := first | omega | (simp only [List.length_set, List.length_append, List.length_cons, List.length_nil, rows_len, zs]; first | done | omega)) only [ep_laws_szStepS, ep_laws_toStepS, ep_spec_LensJoin, ep_laws_eqStepS, ep_laws_heldStepS, hv0, hb1, hv2, hb3, gs, app_hsl, app_nil, reduceIte, reduceCtorEq, Nat.reduceAdd, Nat.reduceMul, Nat.reduceSub, Nat.reduceBEq, Nat.reduceEqDiff, Nat.reduceLeDiff, Nat.reduceLT, Nat.reduceGT, Int.reduceToNat, Int.reduceLT, Int.reduceLE, Int.reduceNeg, Int.reduceAdd, Int.reduceEq, Int.reduceNe]
    · replace hb3 := eq_false_of_ne_true hb3
      rw [if_f hb3] at hp
      obtain ⟨v4, hv4, hp⟩ := bind_eq hp
      obtain ⟨v5, hv5, hp⟩ := bind_eq hp
      obtain ⟨v6, hv6, hp⟩ := bind_eq hp
      simp (disch := first | omega | (simp only [List.length_set, List.length_append, List.length_cons, List.length_nil, rows_len, zs]; first | done | omega)) only [ep_laws_szStepS, ep_laws_toStepS, ep_spec_LensJoin, ep_laws_eqStepS, ep_laws_heldStepS, hv0, hb1, hv2, hb3, hv4, hv5, hv6, gs, app_hsl, app_nil, reduceIte, reduceCtorEq, Nat.reduceAdd, Nat.reduceMul, Nat.reduceSub, Nat.reduceBEq, Nat.reduceEqDiff, Nat.reduceLeDiff, Nat.reduceLT, Nat.reduceGT, Int.reduceToNat, Int.reduceLT, Int.reduceLE, Int.reduceNeg, Int.reduceAdd, Int.reduceEq, Int.reduceNe]
      refine call_f (fun h => True) (fun h v h2 => oo_laws_toStepS v4 h v h2) ?_ ?_ ?_
      · simp (disch := first | omega | (simp only [List.length_set, List.length_append, List.length_cons, List.length_nil, rows_len, zs]; first | done | omega)) only [ep_laws_szStepS, ep_laws_toStepS, ep_spec_LensJoin, ep_laws_eqStepS, ep_laws_heldStepS, hv0, hb1, hv2, hb3, hv4, hv5, hv6, gs, app_hsl, app_nil, reduceIte, reduceCtorEq, Nat.reduceAdd, Nat.reduceMul, Nat.reduceSub, Nat.reduceBEq, Nat.reduceEqDiff, Nat.reduceLeDiff, Nat.reduceLT, Nat.reduceGT, Int.reduceToNat, Int.reduceLT, Int.reduceLE, Int.reduceNeg, Int.reduceAdd, Int.reduceEq, Int.reduceNe] <;> omega
      · rintro h _
        exact e_laws_toStepS _ _ hv4 h _ (by simp (disch := first | omega | (simp only [List.length_set, List.length_append, List.length_cons, List.length_nil, rows_len, zs]; first | done | omega)) only [ep_laws_szStepS, ep_laws_toStepS, ep_spec_LensJoin, ep_laws_eqStepS, ep_laws_heldStepS, hv0, hb1, hv2, hb3, hv4, hv5, hv6, gs, app_hsl, app_nil, reduceIte, reduceCtorEq, Nat.reduceAdd, Nat.reduceMul, Nat.reduceSub, Nat.reduceBEq, Nat.reduceEqDiff, Nat.reduceLeDiff, Nat.reduceLT, Nat.reduceGT, Int.reduceToNat, Int.reduceLT, Int.reduceLE, Int.reduceNeg, Int.reduceAdd, Int.reduceEq, Int.reduceNe])
      · rintro h v hh0 _ hpost
        obtain ⟨kk0, nb0_0, rfl, lnb0_0, gnb0_0, wnb0_0⟩ := hpost
        have d0_0 := wnb0_0
        simp (disch := first | omega | (simp only [List.length_set, List.length_append, List.length_cons, List.length_nil, rows_len, zs]; first | done | omega)) only [ep_laws_szStepS, ep_laws_toStepS, ep_spec_LensJoin, ep_laws_eqStepS, ep_laws_heldStepS, hv0, hb1, hv2, hb3, hv4, hv5, hv6, d0_0, gs, app_hsl, app_nil, reduceIte, reduceCtorEq, Nat.reduceAdd, Nat.reduceMul, Nat.reduceSub, Nat.reduceBEq, Nat.reduceEqDiff, Nat.reduceLeDiff, Nat.reduceLT, Nat.reduceGT, Int.reduceToNat, Int.reduceLT, Int.reduceLE, Int.reduceNeg, Int.reduceAdd, Int.reduceEq, Int.reduceNe]
        refine call_f (fun h => getCells h nb0_0 (v4.length * 4) = some (rows (v4 : List TStep)) ∧ nb0_0 < h.length) (fun h v h2 => oo_laws_toStepS v5 h v h2) ?_ ?_ ?_
        · simp (disch := first | omega | (simp only [List.length_set, List.length_append, List.length_cons, List.length_nil, rows_len, zs]; first | done | omega)) only [ep_laws_szStepS, ep_laws_toStepS, ep_spec_LensJoin, ep_laws_eqStepS, ep_laws_heldStepS, hv0, hb1, hv2, hb3, hv4, hv5, hv6, d0_0, gs, app_hsl, app_nil, reduceIte, reduceCtorEq, Nat.reduceAdd, Nat.reduceMul, Nat.reduceSub, Nat.reduceBEq, Nat.reduceEqDiff, Nat.reduceLeDiff, Nat.reduceLT, Nat.reduceGT, Int.reduceToNat, Int.reduceLT, Int.reduceLE, Int.reduceNeg, Int.reduceAdd, Int.reduceEq, Int.reduceNe] <;> omega
        · rintro h ⟨c1_0, c1_1⟩
          exact e_laws_toStepS _ _ hv5 h _ (by simp (disch := first | omega | (simp only [List.length_set, List.length_append, List.length_cons, List.length_nil, rows_len, zs]; first | done | omega)) only [ep_laws_szStepS, ep_laws_toStepS, ep_spec_LensJoin, ep_laws_eqStepS, ep_laws_heldStepS, hv0, hb1, hv2, hb3, hv4, hv5, hv6, d0_0, c1_0, c1_1, gs, app_hsl, app_nil, reduceIte, reduceCtorEq, Nat.reduceAdd, Nat.reduceMul, Nat.reduceSub, Nat.reduceBEq, Nat.reduceEqDiff, Nat.reduceLeDiff, Nat.reduceLT, Nat.reduceGT, Int.reduceToNat, Int.reduceLT, Int.reduceLE, Int.reduceNeg, Int.reduceAdd, Int.reduceEq, Int.reduceNe])
        · rintro h v hh1 ⟨c1_0, c1_1⟩ hpost
          obtain ⟨kk1, nb1_0, rfl, lnb1_0, gnb1_0, wnb1_0⟩ := hpost
          have d1_0 : getCells hh1 nb0_0 (v4.length * 4) = some (rows (v4 : List TStep)) := (keep_get kk1 c1_1 (by first | (simp; done) | (simp; omega))).trans c1_0
          have d1_0l := keep_lt kk1 c1_1
          have d1_1 := wnb1_0
          obtain ⟨v7, hv7, hp⟩ := bind_eq hp
          simp (disch := first | omega | (simp only [List.length_set, List.length_append, List.length_cons, List.length_nil, rows_len, zs]; first | done | omega)) only [ep_laws_szStepS, ep_laws_toStepS, ep_spec_LensJoin, ep_laws_eqStepS, ep_laws_heldStepS, hv0, hb1, hv2, hb3, hv4, hv5, hv6, d0_0, d1_0, d1_1, gs, app_hsl, app_nil, reduceIte, reduceCtorEq, Nat.reduceAdd, Nat.reduceMul, Nat.reduceSub, Nat.reduceBEq, Nat.reduceEqDiff, Nat.reduceLeDiff, Nat.reduceLT, Nat.reduceGT, Int.reduceToNat, Int.reduceLT, Int.reduceLE, Int.reduceNeg, Int.reduceAdd, Int.reduceEq, Int.reduceNe]
          refine call_f (fun h => getCells h nb0_0 (v4.length * 4) = some (rows (v4 : List TStep)) ∧ nb0_0 < h.length ∧ getCells h nb1_0 (v5.length * 4) = some (rows (v5 : List TStep)) ∧ nb1_0 < h.length) (fun h v h2 => oo_impl_LensJoin v7 h v h2) ?_ ?_ ?_
          · simp (disch := first | omega | (simp only [List.length_set, List.length_append, List.length_cons, List.length_nil, rows_len, zs]; first | done | omega)) only [ep_laws_szStepS, ep_laws_toStepS, ep_spec_LensJoin, ep_laws_eqStepS, ep_laws_heldStepS, hv0, hb1, hv2, hb3, hv4, hv5, hv6, d0_0, d1_0, d1_1, hv7, gs, app_hsl, app_nil, reduceIte, reduceCtorEq, Nat.reduceAdd, Nat.reduceMul, Nat.reduceSub, Nat.reduceBEq, Nat.reduceEqDiff, Nat.reduceLeDiff, Nat.reduceLT, Nat.reduceGT, Int.reduceToNat, Int.reduceLT, Int.reduceLE, Int.reduceNeg, Int.reduceAdd, Int.reduceEq, Int.reduceNe] <;> omega
          · rintro h ⟨c2_0, c2_1, c2_2, c2_3⟩
            exact e_impl_LensJoin _ _ _ hv7 h _ (by simp (disch := first | omega | (simp only [List.length_set, List.length_append, List.length_cons, List.length_nil, rows_len, zs]; first | done | omega)) only [ep_laws_szStepS, ep_laws_toStepS, ep_spec_LensJoin, ep_laws_eqStepS, ep_laws_heldStepS, hv0, hb1, hv2, hb3, hv4, hv5, hv6, d0_0, d1_0, d1_1, hv7, c2_0, c2_1, c2_2, c2_3, gs, app_hsl, app_nil, reduceIte, reduceCtorEq, Nat.reduceAdd, Nat.reduceMul, Nat.reduceSub, Nat.reduceBEq, Nat.reduceEqDiff, Nat.reduceLeDiff, Nat.reduceLT, Nat.reduceGT, Int.reduceToNat, Int.reduceLT, Int.reduceLE, Int.reduceNeg, Int.reduceAdd, Int.reduceEq, Int.reduceNe])
          · rintro h v hh2 ⟨c2_0, c2_1, c2_2, c2_3⟩ hpost
            obtain ⟨kk2, nb2_0, rfl, lnb2_0, gnb2_0, wnb2_0⟩ := hpost
            have d2_0 : getCells hh2 nb0_0 (v4.length * 4) = some (rows (v4 : List TStep)) := (keep_get kk2 c2_1 (by first | (simp; done) | (simp; omega))).trans c2_0
            have d2_0l := keep_lt kk2 c2_1
            have d2_1 : getCells hh2 nb1_0 (v5.length * 4) = some (rows (v5 : List TStep)) := (keep_get kk2 c2_3 (by first | (simp; done) | (simp; omega))).trans c2_2
            have d2_1l := keep_lt kk2 c2_3
            have d2_2 := wnb2_0
            obtain ⟨v8, hv8, hp⟩ := bind_eq hp
            by_cases hb9 : (v8) = true
            · rw [if_t hb9] at hp
              by_cases hb10 : (decide (v7.b = v6.b)) = true
              · rw [if_t hb10] at hp
                simp (disch := first | omega | (simp only [List.length_set, List.length_append, List.length_cons, List.length_nil, rows_len, zs]; first | done | omega)) only [ep_laws_szStepS, ep_laws_toStepS, ep_spec_LensJoin, ep_laws_eqStepS, ep_laws_heldStepS, hv0, hb1, hv2, hb3, hv4, hv5, hv6, d0_0, d1_0, d1_1, hv7, d2_0, d2_1, d2_2, hv8, hb9, hb10, gs, app_hsl, app_nil, reduceIte, reduceCtorEq, Nat.reduceAdd, Nat.reduceMul, Nat.reduceSub, Nat.reduceBEq, Nat.reduceEqDiff, Nat.reduceLeDiff, Nat.reduceLT, Nat.reduceGT, Int.reduceToNat, Int.reduceLT, Int.reduceLE, Int.reduceNeg, Int.reduceAdd, Int.reduceEq, Int.reduceNe]
                refine call_f (fun h => getCells h nb0_0 (v4.length * 4) = some (rows (v4 : List TStep)) ∧ nb0_0 < h.length ∧ getCells h nb1_0 (v5.length * 4) = some (rows (v5 : List TStep)) ∧ nb1_0 < h.length ∧ getCells h nb2_0 (v7.a.length * 4) = some (rows (v7.a : List TStep)) ∧ nb2_0 < h.length) (fun h v h2 => oo_laws_toStepS v4 h v h2) ?_ ?_ ?_
                · simp (disch := first | omega | (simp only [List.length_set, List.length_append, List.length_cons, List.length_nil, rows_len, zs]; first | done | omega)) only [ep_laws_szStepS, ep_laws_toStepS, ep_spec_LensJoin, ep_laws_eqStepS, ep_laws_heldStepS, hv0, hb1, hv2, hb3, hv4, hv5, hv6, d0_0, d1_0, d1_1, hv7, d2_0, d2_1, d2_2, hv8, hb9, hb10, gs, app_hsl, app_nil, reduceIte, reduceCtorEq, Nat.reduceAdd, Nat.reduceMul, Nat.reduceSub, Nat.reduceBEq, Nat.reduceEqDiff, Nat.reduceLeDiff, Nat.reduceLT, Nat.reduceGT, Int.reduceToNat, Int.reduceLT, Int.reduceLE, Int.reduceNeg, Int.reduceAdd, Int.reduceEq, Int.reduceNe] <;> omega
                · rintro h ⟨c3_0, c3_1, c3_2, c3_3, c3_4, c3_5⟩
                  exact e_laws_toStepS _ _ hv4 h _ (by simp (disch := first | omega | (simp only [List.length_set, List.length_append, List.length_cons, List.length_nil, rows_len, zs]; first | done | omega)) only [ep_laws_szStepS, ep_laws_toStepS, ep_spec_LensJoin, ep_laws_eqStepS, ep_laws_heldStepS, hv0, hb1, hv2, hb3, hv4, hv5, hv6, d0_0, d1_0, d1_1, hv7, d2_0, d2_1, d2_2, hv8, hb9, hb10, c3_0, c3_1, c3_2, c3_3, c3_4, c3_5, gs, app_hsl, app_nil, reduceIte, reduceCtorEq, Nat.reduceAdd, Nat.reduceMul, Nat.reduceSub, Nat.reduceBEq, Nat.reduceEqDiff, Nat.reduceLeDiff, Nat.reduceLT, Nat.reduceGT, Int.reduceToNat, Int.reduceLT, Int.reduceLE, Int.reduceNeg, Int.reduceAdd, Int.reduceEq, Int.reduceNe])
                · rintro h v hh3 ⟨c3_0, c3_1, c3_2, c3_3, c3_4, c3_5⟩ hpost
                  obtain ⟨kk3, nb3_0, rfl, lnb3_0, gnb3_0, wnb3_0⟩ := hpost
                  have d3_0 : getCells hh3 nb0_0 (v4.length * 4) = some (rows (v4 : List TStep)) := (keep_get kk3 c3_1 (by first | (simp; done) | (simp; omega))).trans c3_0
                  have d3_0l := keep_lt kk3 c3_1
                  have d3_1 : getCells hh3 nb1_0 (v5.length * 4) = some (rows (v5 : List TStep)) := (keep_get kk3 c3_3 (by first | (simp; done) | (simp; omega))).trans c3_2
                  have d3_1l := keep_lt kk3 c3_3
                  have d3_2 : getCells hh3 nb2_0 (v7.a.length * 4) = some (rows (v7.a : List TStep)) := (keep_get kk3 c3_5 (by first | (simp; done) | (simp; omega))).trans c3_4
                  have d3_2l := keep_lt kk3 c3_5
                  have d3_3 := wnb3_0
                  obtain ⟨v11, hv11, hp⟩ := bind_eq hp
                  by_cases hb12 : (v11) = true
                  · rw [if_t hb12] at hp
                    simp (disch := first | omega | (simp only [List.length_set, List.length_append, List.length_cons, List.length_nil, rows_len, zs]; first | done | omega)) only [ep_laws_szStepS, ep_laws_toStepS, ep_spec_LensJoin, ep_laws_eqStepS, ep_laws_heldStepS, hv0, hb1, hv2, hb3, hv4, hv5, hv6, d0_0, d1_0, d1_1, hv7, d2_0, d2_1, d2_2, hv8, hb9, hb10, d3_0, d3_1, d3_2, d3_3, hv11, hb12, gs, app_hsl, app_nil, reduceIte, reduceCtorEq, Nat.reduceAdd, Nat.reduceMul, Nat.reduceSub, Nat.reduceBEq, Nat.reduceEqDiff, Nat.reduceLeDiff, Nat.reduceLT, Nat.reduceGT, Int.reduceToNat, Int.reduceLT, Int.reduceLE, Int.reduceNeg, Int.reduceAdd, Int.reduceEq, Int.reduceNe]
                    refine call_f (fun h => getCells h nb0_0 (v4.length * 4) = some (rows (v4 : List TStep)) ∧ nb0_0 < h.length ∧ getCells h nb1_0 (v5.length * 4) = some (rows (v5 : List TStep)) ∧ nb1_0 < h.length ∧ getCells h nb2_0 (v7.a.length * 4) = some (rows (v7.a : List TStep)) ∧ nb2_0 < h.length ∧ getCells h nb3_0 (v4.length * 4) = some (rows (v4 : List TStep)) ∧ nb3_0 < h.length) (fun h v h2 => oo_laws_toStepS v5 h v h2) ?_ ?_ ?_
                    · simp (disch := first | omega | (simp only [List.length_set, List.length_append, List.length_cons, List.length_nil, rows_len, zs]; first | done | omega)) only [ep_laws_szStepS, ep_laws_toStepS, ep_spec_LensJoin, ep_laws_eqStepS, ep_laws_heldStepS, hv0, hb1, hv2, hb3, hv4, hv5, hv6, d0_0, d1_0, d1_1, hv7, d2_0, d2_1, d2_2, hv8, hb9, hb10, d3_0, d3_1, d3_2, d3_3, hv11, hb12, gs, app_hsl, app_nil, reduceIte, reduceCtorEq, Nat.reduceAdd, Nat.reduceMul, Nat.reduceSub, Nat.reduceBEq, Nat.reduceEqDiff, Nat.reduceLeDiff, Nat.reduceLT, Nat.reduceGT, Int.reduceToNat, Int.reduceLT, Int.reduceLE, Int.reduceNeg, Int.reduceAdd, Int.reduceEq, Int.reduceNe] <;> omega
                    · rintro h ⟨c4_0, c4_1, c4_2, c4_3, c4_4, c4_5, c4_6, c4_7⟩
                      exact e_laws_toStepS _ _ hv5 h _ (by simp (disch := first | omega | (simp only [List.length_set, List.length_append, List.length_cons, List.length_nil, rows_len, zs]; first | done | omega)) only [ep_laws_szStepS, ep_laws_toStepS, ep_spec_LensJoin, ep_laws_eqStepS, ep_laws_heldStepS, hv0, hb1, hv2, hb3, hv4, hv5, hv6, d0_0, d1_0, d1_1, hv7, d2_0, d2_1, d2_2, hv8, hb9, hb10, d3_0, d3_1, d3_2, d3_3, hv11, hb12, c4_0, c4_1, c4_2, c4_3, c4_4, c4_5, c4_6, c4_7, gs, app_hsl, app_nil, reduceIte, reduceCtorEq, Nat.reduceAdd, Nat.reduceMul, Nat.reduceSub, Nat.reduceBEq, Nat.reduceEqDiff, Nat.reduceLeDiff, Nat.reduceLT, Nat.reduceGT, Int.reduceToNat, Int.reduceLT, Int.reduceLE, Int.reduceNeg, Int.reduceAdd, Int.reduceEq, Int.reduceNe])
                    · rintro h v hh4 ⟨c4_0, c4_1, c4_2, c4_3, c4_4, c4_5, c4_6, c4_7⟩ hpost
                      obtain ⟨kk4, nb4_0, rfl, lnb4_0, gnb4_0, wnb4_0⟩ := hpost
                      have d4_0 : getCells hh4 nb0_0 (v4.length * 4) = some (rows (v4 : List TStep)) := (keep_get kk4 c4_1 (by first | (simp; done) | (simp; omega))).trans c4_0
                      have d4_0l := keep_lt kk4 c4_1
                      have d4_1 : getCells hh4 nb1_0 (v5.length * 4) = some (rows (v5 : List TStep)) := (keep_get kk4 c4_3 (by first | (simp; done) | (simp; omega))).trans c4_2
                      have d4_1l := keep_lt kk4 c4_3
                      have d4_2 : getCells hh4 nb2_0 (v7.a.length * 4) = some (rows (v7.a : List TStep)) := (keep_get kk4 c4_5 (by first | (simp; done) | (simp; omega))).trans c4_4
                      have d4_2l := keep_lt kk4 c4_5
                      have d4_3 : getCells hh4 nb3_0 (v4.length * 4) = some (rows (v4 : List TStep)) := (keep_get kk4 c4_7 (by first | (simp; done) | (simp; omega))).trans c4_6
                      have d4_3l := keep_lt kk4 c4_7
                      have d4_4 := wnb4_0
                      obtain ⟨v13, hv13, hp⟩ := bind_eq hp
                      by_cases hb14 : (v13) = true
                      · rw [if_t hb14] at hp
                        obtain ⟨v15, hv15, hp⟩ := bind_eq hp
                        simp (disch := first | omega | (simp only [List.length_set, List.length_append, List.length_cons, List.length_nil, rows_len, zs]; first | done | omega)) only [ep_laws_szStepS, ep_laws_toStepS, ep_spec_LensJoin, ep_laws_eqStepS, ep_laws_heldStepS, hv0, hb1, hv2, hb3, hv4, hv5, hv6, d0_0, d1_0, d1_1, hv7, d2_0, d2_1, d2_2, hv8, hb9, hb10, d3_0, d3_1, d3_2, d3_3, hv11, hb12, d4_0, d4_1, d4_2, d4_3, d4_4, hv13, hb14, gs, app_hsl, app_nil, reduceIte, reduceCtorEq, Nat.reduceAdd, Nat.reduceMul, Nat.reduceSub, Nat.reduceBEq, Nat.reduceEqDiff, Nat.reduceLeDiff, Nat.reduceLT, Nat.reduceGT, Int.reduceToNat, Int.reduceLT, Int.reduceLE, Int.reduceNeg, Int.reduceAdd, Int.reduceEq, Int.reduceNe]
                        refine call_f (fun h => getCells h nb0_0 (v4.length * 4) = some (rows (v4 : List TStep)) ∧ nb0_0 < h.length ∧ getCells h nb1_0 (v5.length * 4) = some (rows (v5 : List TStep)) ∧ nb1_0 < h.length ∧ getCells h nb2_0 (v7.a.length * 4) = some (rows (v7.a : List TStep)) ∧ nb2_0 < h.length ∧ getCells h nb3_0 (v4.length * 4) = some (rows (v4 : List TStep)) ∧ nb3_0 < h.length ∧ getCells h nb4_0 (v5.length * 4) = some (rows (v5 : List TStep)) ∧ nb4_0 < h.length) (fun h v h2 => i_laws_markStepS nb0_0 v4.length h v15 v h2) ?_ ?_ ?_
                        · simp (disch := first | omega | (simp only [List.length_set, List.length_append, List.length_cons, List.length_nil, rows_len, zs]; first | done | omega)) only [ep_laws_szStepS, ep_laws_toStepS, ep_spec_LensJoin, ep_laws_eqStepS, ep_laws_heldStepS, hv0, hb1, hv2, hb3, hv4, hv5, hv6, d0_0, d1_0, d1_1, hv7, d2_0, d2_1, d2_2, hv8, hb9, hb10, d3_0, d3_1, d3_2, d3_3, hv11, hb12, d4_0, d4_1, d4_2, d4_3, d4_4, hv13, hb14, hv15, gs, app_hsl, app_nil, reduceIte, reduceCtorEq, Nat.reduceAdd, Nat.reduceMul, Nat.reduceSub, Nat.reduceBEq, Nat.reduceEqDiff, Nat.reduceLeDiff, Nat.reduceLT, Nat.reduceGT, Int.reduceToNat, Int.reduceLT, Int.reduceLE, Int.reduceNeg, Int.reduceAdd, Int.reduceEq, Int.reduceNe] <;> omega
                        · rintro h ⟨c5_0, c5_1, c5_2, c5_3, c5_4, c5_5, c5_6, c5_7, c5_8, c5_9⟩
                          exact e_laws_markStepS _ _ _ hv15 nb0_0 v4.length h (by omega) c5_0
                        · rintro h v hh5 ⟨c5_0, c5_1, c5_2, c5_3, c5_4, c5_5, c5_6, c5_7, c5_8, c5_9⟩ hpost
                          obtain ⟨kk5, rfl, w5_0⟩ := hpost
                          have d5_0 : getCells hh5 nb0_0 (v4.length * 4) = some (rows (v15.b : List TStep)) := w5_0
                          have mm5_0 := len_rows w5_0
                          simp only [zs] at mm5_0
                          have d5_0l := keep_lt kk5 c5_1
                          have d5_1 : getCells hh5 nb1_0 (v5.length * 4) = some (rows (v5 : List TStep)) := (keep_get kk5 c5_3 (by first | (simp; done) | (simp; omega))).trans c5_2
                          have d5_1l := keep_lt kk5 c5_3
                          have d5_2 : getCells hh5 nb2_0 (v7.a.length * 4) = some (rows (v7.a : List TStep)) := (keep_get kk5 c5_5 (by first | (simp; done) | (simp; omega))).trans c5_4
                          have d5_2l := keep_lt kk5 c5_5
                          have d5_3 : getCells hh5 nb3_0 (v4.length * 4) = some (rows (v4 : List TStep)) := (keep_get kk5 c5_7 (by first | (simp; done) | (simp; omega))).trans c5_6
                          have d5_3l := keep_lt kk5 c5_7
                          have d5_4 : getCells hh5 nb4_0 (v5.length * 4) = some (rows (v5 : List TStep)) := (keep_get kk5 c5_9 (by first | (simp; done) | (simp; omega))).trans c5_8
                          have d5_4l := keep_lt kk5 c5_9
                          obtain ⟨v16, hv16, hp⟩ := bind_eq hp
                          simp (disch := first | omega | (simp only [List.length_set, List.length_append, List.length_cons, List.length_nil, rows_len, zs]; first | done | omega)) only [ep_laws_szStepS, ep_laws_toStepS, ep_spec_LensJoin, ep_laws_eqStepS, ep_laws_heldStepS, hv0, hb1, hv2, hb3, hv4, hv5, hv6, d0_0, d1_0, d1_1, hv7, d2_0, d2_1, d2_2, hv8, hb9, hb10, d3_0, d3_1, d3_2, d3_3, hv11, hb12, d4_0, d4_1, d4_2, d4_3, d4_4, hv13, hb14, hv15, d5_0, d5_1, d5_2, d5_3, d5_4, gs, app_hsl, app_nil, reduceIte, reduceCtorEq, Nat.reduceAdd, Nat.reduceMul, Nat.reduceSub, Nat.reduceBEq, Nat.reduceEqDiff, Nat.reduceLeDiff, Nat.reduceLT, Nat.reduceGT, Int.reduceToNat, Int.reduceLT, Int.reduceLE, Int.reduceNeg, Int.reduceAdd, Int.reduceEq, Int.reduceNe]
                          refine call_f (fun h => getCells h nb0_0 (v4.length * 4) = some (rows (v15.b : List TStep)) ∧ nb0_0 < h.length ∧ getCells h nb1_0 (v5.length * 4) = some (rows (v5 : List TStep)) ∧ nb1_0 < h.length ∧ getCells h nb2_0 (v7.a.length * 4) = some (rows (v7.a : List TStep)) ∧ nb2_0 < h.length ∧ getCells h nb3_0 (v4.length * 4) = some (rows (v4 : List TStep)) ∧ nb3_0 < h.length ∧ getCells h nb4_0 (v5.length * 4) = some (rows (v5 : List TStep)) ∧ nb4_0 < h.length) (fun h v h2 => i_laws_markStepS nb1_0 v5.length h v16 v h2) ?_ ?_ ?_
                          · simp (disch := first | omega | (simp only [List.length_set, List.length_append, List.length_cons, List.length_nil, rows_len, zs]; first | done | omega)) only [ep_laws_szStepS, ep_laws_toStepS, ep_spec_LensJoin, ep_laws_eqStepS, ep_laws_heldStepS, hv0, hb1, hv2, hb3, hv4, hv5, hv6, d0_0, d1_0, d1_1, hv7, d2_0, d2_1, d2_2, hv8, hb9, hb10, d3_0, d3_1, d3_2, d3_3, hv11, hb12, d4_0, d4_1, d4_2, d4_3, d4_4, hv13, hb14, hv15, d5_0, d5_1, d5_2, d5_3, d5_4, hv16, gs, app_hsl, app_nil, reduceIte, reduceCtorEq, Nat.reduceAdd, Nat.reduceMul, Nat.reduceSub, Nat.reduceBEq, Nat.reduceEqDiff, Nat.reduceLeDiff, Nat.reduceLT, Nat.reduceGT, Int.reduceToNat, Int.reduceLT, Int.reduceLE, Int.reduceNeg, Int.reduceAdd, Int.reduceEq, Int.reduceNe] <;> omega
                          · rintro h ⟨c6_0, c6_1, c6_2, c6_3, c6_4, c6_5, c6_6, c6_7, c6_8, c6_9⟩
                            exact e_laws_markStepS _ _ _ hv16 nb1_0 v5.length h (by omega) c6_2
                          · rintro h v hh6 ⟨c6_0, c6_1, c6_2, c6_3, c6_4, c6_5, c6_6, c6_7, c6_8, c6_9⟩ hpost
                            obtain ⟨kk6, rfl, w6_0⟩ := hpost
                            have d6_0 : getCells hh6 nb0_0 (v4.length * 4) = some (rows (v15.b : List TStep)) := (keep_get kk6 c6_1 (by first | (simp; done) | (simp; omega))).trans c6_0
                            have d6_0l := keep_lt kk6 c6_1
                            have d6_1 : getCells hh6 nb1_0 (v5.length * 4) = some (rows (v16.b : List TStep)) := w6_0
                            have mm6_0 := len_rows w6_0
                            simp only [zs] at mm6_0
                            have d6_1l := keep_lt kk6 c6_3
                            have d6_2 : getCells hh6 nb2_0 (v7.a.length * 4) = some (rows (v7.a : List TStep)) := (keep_get kk6 c6_5 (by first | (simp; done) | (simp; omega))).trans c6_4
                            have d6_2l := keep_lt kk6 c6_5
                            have d6_3 : getCells hh6 nb3_0 (v4.length * 4) = some (rows (v4 : List TStep)) := (keep_get kk6 c6_7 (by first | (simp; done) | (simp; omega))).trans c6_6
                            have d6_3l := keep_lt kk6 c6_7
                            have d6_4 : getCells hh6 nb4_0 (v5.length * 4) = some (rows (v5 : List TStep)) := (keep_get kk6 c6_9 (by first | (simp; done) | (simp; omega))).trans c6_8
                            have d6_4l := keep_lt kk6 c6_9
                            by_cases hb17 : (decide (v16.a < 0)) = true
                            · rw [if_t hb17] at hp
                              cases hp
                            · replace hb17 := eq_false_of_ne_true hb17
                              rw [if_f hb17] at hp
                              obtain ⟨v18, hv18, hp⟩ := bind_eq hp
                              simp (disch := first | omega | (simp only [List.length_set, List.length_append, List.length_cons, List.length_nil, rows_len, zs]; first | done | omega)) only [ep_laws_szStepS, ep_laws_toStepS, ep_spec_LensJoin, ep_laws_eqStepS, ep_laws_heldStepS, hv0, hb1, hv2, hb3, hv4, hv5, hv6, d0_0, d1_0, d1_1, hv7, d2_0, d2_1, d2_2, hv8, hb9, hb10, d3_0, d3_1, d3_2, d3_3, hv11, hb12, d4_0, d4_1, d4_2, d4_3, d4_4, hv13, hb14, hv15, d5_0, d5_1, d5_2, d5_3, d5_4, hv16, d6_0, d6_1, d6_2, d6_3, d6_4, hb17, gs, app_hsl, app_nil, reduceIte, reduceCtorEq, Nat.reduceAdd, Nat.reduceMul, Nat.reduceSub, Nat.reduceBEq, Nat.reduceEqDiff, Nat.reduceLeDiff, Nat.reduceLT, Nat.reduceGT, Int.reduceToNat, Int.reduceLT, Int.reduceLE, Int.reduceNeg, Int.reduceAdd, Int.reduceEq, Int.reduceNe]
                              refine call_f (fun h => getCells h nb0_0 (v4.length * 4) = some (rows (v15.b : List TStep)) ∧ nb0_0 < h.length ∧ getCells h nb1_0 (v5.length * 4) = some (rows (v16.b : List TStep)) ∧ nb1_0 < h.length ∧ getCells h nb2_0 (v7.a.length * 4) = some (rows (v7.a : List TStep)) ∧ nb2_0 < h.length ∧ getCells h nb3_0 (v4.length * 4) = some (rows (v4 : List TStep)) ∧ nb3_0 < h.length ∧ getCells h nb4_0 (v5.length * 4) = some (rows (v5 : List TStep)) ∧ nb4_0 < h.length) (fun h v h2 => i_laws_markStepS nb2_0 v7.a.length h v18 v h2) ?_ ?_ ?_
                              · simp (disch := first | omega | (simp only [List.length_set, List.length_append, List.length_cons, List.length_nil, rows_len, zs]; first | done | omega)) only [ep_laws_szStepS, ep_laws_toStepS, ep_spec_LensJoin, ep_laws_eqStepS, ep_laws_heldStepS, hv0, hb1, hv2, hb3, hv4, hv5, hv6, d0_0, d1_0, d1_1, hv7, d2_0, d2_1, d2_2, hv8, hb9, hb10, d3_0, d3_1, d3_2, d3_3, hv11, hb12, d4_0, d4_1, d4_2, d4_3, d4_4, hv13, hb14, hv15, d5_0, d5_1, d5_2, d5_3, d5_4, hv16, d6_0, d6_1, d6_2, d6_3, d6_4, hb17, hv18, gs, app_hsl, app_nil, reduceIte, reduceCtorEq, Nat.reduceAdd, Nat.reduceMul, Nat.reduceSub, Nat.reduceBEq, Nat.reduceEqDiff, Nat.reduceLeDiff, Nat.reduceLT, Nat.reduceGT, Int.reduceToNat, Int.reduceLT, Int.reduceLE, Int.reduceNeg, Int.reduceAdd, Int.reduceEq, Int.reduceNe] <;> omega
                              · rintro h ⟨c7_0, c7_1, c7_2, c7_3, c7_4, c7_5, c7_6, c7_7, c7_8, c7_9⟩
                                exact e_laws_markStepS _ _ _ hv18 nb2_0 v7.a.length h (by omega) c7_4
                              · rintro h v hh7 ⟨c7_0, c7_1, c7_2, c7_3, c7_4, c7_5, c7_6, c7_7, c7_8, c7_9⟩ hpost
                                obtain ⟨kk7, rfl, w7_0⟩ := hpost
                                have d7_0 : getCells hh7 nb0_0 (v4.length * 4) = some (rows (v15.b : List TStep)) := (keep_get kk7 c7_1 (by first | (simp; done) | (simp; omega))).trans c7_0
                                have d7_0l := keep_lt kk7 c7_1
                                have d7_1 : getCells hh7 nb1_0 (v5.length * 4) = some (rows (v16.b : List TStep)) := (keep_get kk7 c7_3 (by first | (simp; done) | (simp; omega))).trans c7_2
                                have d7_1l := keep_lt kk7 c7_3
                                have d7_2 : getCells hh7 nb2_0 (v7.a.length * 4) = some (rows (v18.b : List TStep)) := w7_0
                                have mm7_0 := len_rows w7_0
                                simp only [zs] at mm7_0
                                have d7_2l := keep_lt kk7 c7_5
                                have d7_3 : getCells hh7 nb3_0 (v4.length * 4) = some (rows (v4 : List TStep)) := (keep_get kk7 c7_7 (by first | (simp; done) | (simp; omega))).trans c7_6
                                have d7_3l := keep_lt kk7 c7_7
                                have d7_4 : getCells hh7 nb4_0 (v5.length * 4) = some (rows (v5 : List TStep)) := (keep_get kk7 c7_9 (by first | (simp; done) | (simp; omega))).trans c7_8
                                have d7_4l := keep_lt kk7 c7_9
                                obtain ⟨v19, hv19, hp⟩ := bind_eq hp
                                by_cases hb20 : (decide (v19 < 0)) = true
                                · rw [if_t hb20] at hp
                                  cases hp
                                · replace hb20 := eq_false_of_ne_true hb20
                                  rw [if_f hb20] at hp
                                  by_cases hb21 : (decide (v19 = v18.a)) = true
                                  · rw [if_t hb21] at hp
                                    simp (disch := first | omega | (simp only [List.length_set, List.length_append, List.length_cons, List.length_nil, rows_len, zs]; first | done | omega)) only [ep_laws_szStepS, ep_laws_toStepS, ep_spec_LensJoin, ep_laws_eqStepS, ep_laws_heldStepS, hv0, hb1, hv2, hb3, hv4, hv5, hv6, d0_0, d1_0, d1_1, hv7, d2_0, d2_1, d2_2, hv8, hb9, hb10, d3_0, d3_1, d3_2, d3_3, hv11, hb12, d4_0, d4_1, d4_2, d4_3, d4_4, hv13, hb14, hv15, d5_0, d5_1, d5_2, d5_3, d5_4, hv16, d6_0, d6_1, d6_2, d6_3, d6_4, hb17, hv18, d7_0, d7_1, d7_2, d7_3, d7_4, hv19, hb20, hb21, gs, app_hsl, app_nil, reduceIte, reduceCtorEq, Nat.reduceAdd, Nat.reduceMul, Nat.reduceSub, Nat.reduceBEq, Nat.reduceEqDiff, Nat.reduceLeDiff, Nat.reduceLT, Nat.reduceGT, Int.reduceToNat, Int.reduceLT, Int.reduceLE, Int.reduceNeg, Int.reduceAdd, Int.reduceEq, Int.reduceNe]
                                    refine call_f (fun h => getCells h nb0_0 (v4.length * 4) = some (rows (v15.b : List TStep)) ∧ nb0_0 < h.length ∧ getCells h nb1_0 (v5.length * 4) = some (rows (v16.b : List TStep)) ∧ nb1_0 < h.length ∧ getCells h nb2_0 (v7.a.length * 4) = some (rows (v18.b : List TStep)) ∧ nb2_0 < h.length ∧ getCells h nb3_0 (v4.length * 4) = some (rows (v4 : List TStep)) ∧ nb3_0 < h.length ∧ getCells h nb4_0 (v5.length * 4) = some (rows (v5 : List TStep)) ∧ nb4_0 < h.length) (fun h v h2 => oo_laws_toStepS v4 h v h2) ?_ ?_ ?_
                                    · simp (disch := first | omega | (simp only [List.length_set, List.length_append, List.length_cons, List.length_nil, rows_len, zs]; first | done | omega)) only [ep_laws_szStepS, ep_laws_toStepS, ep_spec_LensJoin, ep_laws_eqStepS, ep_laws_heldStepS, hv0, hb1, hv2, hb3, hv4, hv5, hv6, d0_0, d1_0, d1_1, hv7, d2_0, d2_1, d2_2, hv8, hb9, hb10, d3_0, d3_1, d3_2, d3_3, hv11, hb12, d4_0, d4_1, d4_2, d4_3, d4_4, hv13, hb14, hv15, d5_0, d5_1, d5_2, d5_3, d5_4, hv16, d6_0, d6_1, d6_2, d6_3, d6_4, hb17, hv18, d7_0, d7_1, d7_2, d7_3, d7_4, hv19, hb20, hb21, gs, app_hsl, app_nil, reduceIte, reduceCtorEq, Nat.reduceAdd, Nat.reduceMul, Nat.reduceSub, Nat.reduceBEq, Nat.reduceEqDiff, Nat.reduceLeDiff, Nat.reduceLT, Nat.reduceGT, Int.reduceToNat, Int.reduceLT, Int.reduceLE, Int.reduceNeg, Int.reduceAdd, Int.reduceEq, Int.reduceNe] <;> omega
                                    · rintro h ⟨c8_0, c8_1, c8_2, c8_3, c8_4, c8_5, c8_6, c8_7, c8_8, c8_9⟩
                                      exact e_laws_toStepS _ _ hv4 h _ (by simp (disch := first | omega | (simp only [List.length_set, List.length_append, List.length_cons, List.length_nil, rows_len, zs]; first | done | omega)) only [ep_laws_szStepS, ep_laws_toStepS, ep_spec_LensJoin, ep_laws_eqStepS, ep_laws_heldStepS, hv0, hb1, hv2, hb3, hv4, hv5, hv6, d0_0, d1_0, d1_1, hv7, d2_0, d2_1, d2_2, hv8, hb9, hb10, d3_0, d3_1, d3_2, d3_3, hv11, hb12, d4_0, d4_1, d4_2, d4_3, d4_4, hv13, hb14, hv15, d5_0, d5_1, d5_2, d5_3, d5_4, hv16, d6_0, d6_1, d6_2, d6_3, d6_4, hb17, hv18, d7_0, d7_1, d7_2, d7_3, d7_4, hv19, hb20, hb21, c8_0, c8_1, c8_2, c8_3, c8_4, c8_5, c8_6, c8_7, c8_8, c8_9, gs, app_hsl, app_nil, reduceIte, reduceCtorEq, Nat.reduceAdd, Nat.reduceMul, Nat.reduceSub, Nat.reduceBEq, Nat.reduceEqDiff, Nat.reduceLeDiff, Nat.reduceLT, Nat.reduceGT, Int.reduceToNat, Int.reduceLT, Int.reduceLE, Int.reduceNeg, Int.reduceAdd, Int.reduceEq, Int.reduceNe])
                                    · rintro h v hh8 ⟨c8_0, c8_1, c8_2, c8_3, c8_4, c8_5, c8_6, c8_7, c8_8, c8_9⟩ hpost
                                      obtain ⟨kk8, nb8_0, rfl, lnb8_0, gnb8_0, wnb8_0⟩ := hpost
                                      have d8_0 : getCells hh8 nb0_0 (v4.length * 4) = some (rows (v15.b : List TStep)) := (keep_get kk8 c8_1 (by first | (simp; done) | (simp; omega))).trans c8_0
                                      have d8_0l := keep_lt kk8 c8_1
                                      have d8_1 : getCells hh8 nb1_0 (v5.length * 4) = some (rows (v16.b : List TStep)) := (keep_get kk8 c8_3 (by first | (simp; done) | (simp; omega))).trans c8_2
                                      have d8_1l := keep_lt kk8 c8_3
                                      have d8_2 : getCells hh8 nb2_0 (v7.a.length * 4) = some (rows (v18.b : List TStep)) := (keep_get kk8 c8_5 (by first | (simp; done) | (simp; omega))).trans c8_4
                                      have d8_2l := keep_lt kk8 c8_5
                                      have d8_3 : getCells hh8 nb3_0 (v4.length * 4) = some (rows (v4 : List TStep)) := (keep_get kk8 c8_7 (by first | (simp; done) | (simp; omega))).trans c8_6
                                      have d8_3l := keep_lt kk8 c8_7
                                      have d8_4 : getCells hh8 nb4_0 (v5.length * 4) = some (rows (v5 : List TStep)) := (keep_get kk8 c8_9 (by first | (simp; done) | (simp; omega))).trans c8_8
                                      have d8_4l := keep_lt kk8 c8_9
                                      have d8_5 := wnb8_0
                                      simp (disch := first | omega | (simp only [List.length_set, List.length_append, List.length_cons, List.length_nil, rows_len, zs]; first | done | omega)) only [ep_laws_szStepS, ep_laws_toStepS, ep_spec_LensJoin, ep_laws_eqStepS, ep_laws_heldStepS, hv0, hb1, hv2, hb3, hv4, hv5, hv6, d0_0, d1_0, d1_1, hv7, d2_0, d2_1, d2_2, hv8, hb9, hb10, d3_0, d3_1, d3_2, d3_3, hv11, hb12, d4_0, d4_1, d4_2, d4_3, d4_4, hv13, hb14, hv15, d5_0, d5_1, d5_2, d5_3, d5_4, hv16, d6_0, d6_1, d6_2, d6_3, d6_4, hb17, hv18, d7_0, d7_1, d7_2, d7_3, d7_4, hv19, hb20, hb21, d8_0, d8_1, d8_2, d8_3, d8_4, d8_5, gs, app_hsl, app_nil, reduceIte, reduceCtorEq, Nat.reduceAdd, Nat.reduceMul, Nat.reduceSub, Nat.reduceBEq, Nat.reduceEqDiff, Nat.reduceLeDiff, Nat.reduceLT, Nat.reduceGT, Int.reduceToNat, Int.reduceLT, Int.reduceLE, Int.reduceNeg, Int.reduceAdd, Int.reduceEq, Int.reduceNe]
                                      refine call_f (fun h => getCells h nb0_0 (v4.length * 4) = some (rows (v15.b : List TStep)) ∧ nb0_0 < h.length ∧ getCells h nb1_0 (v5.length * 4) = some (rows (v16.b : List TStep)) ∧ nb1_0 < h.length ∧ getCells h nb2_0 (v7.a.length * 4) = some (rows (v18.b : List TStep)) ∧ nb2_0 < h.length ∧ getCells h nb3_0 (v4.length * 4) = some (rows (v4 : List TStep)) ∧ nb3_0 < h.length ∧ getCells h nb4_0 (v5.length * 4) = some (rows (v5 : List TStep)) ∧ nb4_0 < h.length ∧ getCells h nb8_0 (v4.length * 4) = some (rows (v4 : List TStep)) ∧ nb8_0 < h.length) (fun h v h2 => oo_laws_toStepS v5 h v h2) ?_ ?_ ?_
                                      · simp (disch := first | omega | (simp only [List.length_set, List.length_append, List.length_cons, List.length_nil, rows_len, zs]; first | done | omega)) only [ep_laws_szStepS, ep_laws_toStepS, ep_spec_LensJoin, ep_laws_eqStepS, ep_laws_heldStepS, hv0, hb1, hv2, hb3, hv4, hv5, hv6, d0_0, d1_0, d1_1, hv7, d2_0, d2_1, d2_2, hv8, hb9, hb10, d3_0, d3_1, d3_2, d3_3, hv11, hb12, d4_0, d4_1, d4_2, d4_3, d4_4, hv13, hb14, hv15, d5_0, d5_1, d5_2, d5_3, d5_4, hv16, d6_0, d6_1, d6_2, d6_3, d6_4, hb17, hv18, d7_0, d7_1, d7_2, d7_3, d7_4, hv19, hb20, hb21, d8_0, d8_1, d8_2, d8_3, d8_4, d8_5, gs, app_hsl, app_nil, reduceIte, reduceCtorEq, Nat.reduceAdd, Nat.reduceMul, Nat.reduceSub, Nat.reduceBEq, Nat.reduceEqDiff, Nat.reduceLeDiff, Nat.reduceLT, Nat.reduceGT, Int.reduceToNat, Int.reduceLT, Int.reduceLE, Int.reduceNeg, Int.reduceAdd, Int.reduceEq, Int.reduceNe] <;> omega
                                      · rintro h ⟨c9_0, c9_1, c9_2, c9_3, c9_4, c9_5, c9_6, c9_7, c9_8, c9_9, c9_10, c9_11⟩
                                        exact e_laws_toStepS _ _ hv5 h _ (by simp (disch := first | omega | (simp only [List.length_set, List.length_append, List.length_cons, List.length_nil, rows_len, zs]; first | done | omega)) only [ep_laws_szStepS, ep_laws_toStepS, ep_spec_LensJoin, ep_laws_eqStepS, ep_laws_heldStepS, hv0, hb1, hv2, hb3, hv4, hv5, hv6, d0_0, d1_0, d1_1, hv7, d2_0, d2_1, d2_2, hv8, hb9, hb10, d3_0, d3_1, d3_2, d3_3, hv11, hb12, d4_0, d4_1, d4_2, d4_3, d4_4, hv13, hb14, hv15, d5_0, d5_1, d5_2, d5_3, d5_4, hv16, d6_0, d6_1, d6_2, d6_3, d6_4, hb17, hv18, d7_0, d7_1, d7_2, d7_3, d7_4, hv19, hb20, hb21, d8_0, d8_1, d8_2, d8_3, d8_4, d8_5, c9_0, c9_1, c9_2, c9_3, c9_4, c9_5, c9_6, c9_7, c9_8, c9_9, c9_10, c9_11, gs, app_hsl, app_nil, reduceIte, reduceCtorEq, Nat.reduceAdd, Nat.reduceMul, Nat.reduceSub, Nat.reduceBEq, Nat.reduceEqDiff, Nat.reduceLeDiff, Nat.reduceLT, Nat.reduceGT, Int.reduceToNat, Int.reduceLT, Int.reduceLE, Int.reduceNeg, Int.reduceAdd, Int.reduceEq, Int.reduceNe])
                                      · rintro h v hh9 ⟨c9_0, c9_1, c9_2, c9_3, c9_4, c9_5, c9_6, c9_7, c9_8, c9_9, c9_10, c9_11⟩ hpost
                                        obtain ⟨kk9, nb9_0, rfl, lnb9_0, gnb9_0, wnb9_0⟩ := hpost
                                        have d9_0 : getCells hh9 nb0_0 (v4.length * 4) = some (rows (v15.b : List TStep)) := (keep_get kk9 c9_1 (by first | (simp; done) | (simp; omega))).trans c9_0
                                        have d9_0l := keep_lt kk9 c9_1
                                        have d9_1 : getCells hh9 nb1_0 (v5.length * 4) = some (rows (v16.b : List TStep)) := (keep_get kk9 c9_3 (by first | (simp; done) | (simp; omega))).trans c9_2
                                        have d9_1l := keep_lt kk9 c9_3
                                        have d9_2 : getCells hh9 nb2_0 (v7.a.length * 4) = some (rows (v18.b : List TStep)) := (keep_get kk9 c9_5 (by first | (simp; done) | (simp; omega))).trans c9_4
                                        have d9_2l := keep_lt kk9 c9_5
                                        have d9_3 : getCells hh9 nb3_0 (v4.length * 4) = some (rows (v4 : List TStep)) := (keep_get kk9 c9_7 (by first | (simp; done) | (simp; omega))).trans c9_6
                                        have d9_3l := keep_lt kk9 c9_7
                                        have d9_4 : getCells hh9 nb4_0 (v5.length * 4) = some (rows (v5 : List TStep)) := (keep_get kk9 c9_9 (by first | (simp; done) | (simp; omega))).trans c9_8
                                        have d9_4l := keep_lt kk9 c9_9
                                        have d9_5 : getCells hh9 nb8_0 (v4.length * 4) = some (rows (v4 : List TStep)) := (keep_get kk9 c9_11 (by first | (simp; done) | (simp; omega))).trans c9_10
                                        have d9_5l := keep_lt kk9 c9_11
                                        have d9_6 := wnb9_0
                                        simp (disch := first | omega | (simp only [List.length_set, List.length_append, List.length_cons, List.length_nil, rows_len, zs]; first | done | omega)) only [ep_laws_szStepS, ep_laws_toStepS, ep_spec_LensJoin, ep_laws_eqStepS, ep_laws_heldStepS, hv0, hb1, hv2, hb3, hv4, hv5, hv6, d0_0, d1_0, d1_1, hv7, d2_0, d2_1, d2_2, hv8, hb9, hb10, d3_0, d3_1, d3_2, d3_3, hv11, hb12, d4_0, d4_1, d4_2, d4_3, d4_4, hv13, hb14, hv15, d5_0, d5_1, d5_2, d5_3, d5_4, hv16, d6_0, d6_1, d6_2, d6_3, d6_4, hb17, hv18, d7_0, d7_1, d7_2, d7_3, d7_4, hv19, hb20, hb21, d8_0, d8_1, d8_2, d8_3, d8_4, d8_5, d9_0, d9_1, d9_2, d9_3, d9_4, d9_5, d9_6, gs, app_hsl, app_nil, reduceIte, reduceCtorEq, Nat.reduceAdd, Nat.reduceMul, Nat.reduceSub, Nat.reduceBEq, Nat.reduceEqDiff, Nat.reduceLeDiff, Nat.reduceLT, Nat.reduceGT, Int.reduceToNat, Int.reduceLT, Int.reduceLE, Int.reduceNeg, Int.reduceAdd, Int.reduceEq, Int.reduceNe]
                                        refine call_f (fun h => getCells h nb0_0 (v4.length * 4) = some (rows (v15.b : List TStep)) ∧ nb0_0 < h.length ∧ getCells h nb1_0 (v5.length * 4) = some (rows (v16.b : List TStep)) ∧ nb1_0 < h.length ∧ getCells h nb2_0 (v7.a.length * 4) = some (rows (v18.b : List TStep)) ∧ nb2_0 < h.length ∧ getCells h nb3_0 (v4.length * 4) = some (rows (v4 : List TStep)) ∧ nb3_0 < h.length ∧ getCells h nb4_0 (v5.length * 4) = some (rows (v5 : List TStep)) ∧ nb4_0 < h.length ∧ getCells h nb8_0 (v4.length * 4) = some (rows (v4 : List TStep)) ∧ nb8_0 < h.length ∧ getCells h nb9_0 (v5.length * 4) = some (rows (v5 : List TStep)) ∧ nb9_0 < h.length) (fun h v h2 => oo_impl_LensJoin v7 h v h2) ?_ ?_ ?_
                                        · simp (disch := first | omega | (simp only [List.length_set, List.length_append, List.length_cons, List.length_nil, rows_len, zs]; first | done | omega)) only [ep_laws_szStepS, ep_laws_toStepS, ep_spec_LensJoin, ep_laws_eqStepS, ep_laws_heldStepS, hv0, hb1, hv2, hb3, hv4, hv5, hv6, d0_0, d1_0, d1_1, hv7, d2_0, d2_1, d2_2, hv8, hb9, hb10, d3_0, d3_1, d3_2, d3_3, hv11, hb12, d4_0, d4_1, d4_2, d4_3, d4_4, hv13, hb14, hv15, d5_0, d5_1, d5_2, d5_3, d5_4, hv16, d6_0, d6_1, d6_2, d6_3, d6_4, hb17, hv18, d7_0, d7_1, d7_2, d7_3, d7_4, hv19, hb20, hb21, d8_0, d8_1, d8_2, d8_3, d8_4, d8_5, d9_0, d9_1, d9_2, d9_3, d9_4, d9_5, d9_6, gs, app_hsl, app_nil, reduceIte, reduceCtorEq, Nat.reduceAdd, Nat.reduceMul, Nat.reduceSub, Nat.reduceBEq, Nat.reduceEqDiff, Nat.reduceLeDiff, Nat.reduceLT, Nat.reduceGT, Int.reduceToNat, Int.reduceLT, Int.reduceLE, Int.reduceNeg, Int.reduceAdd, Int.reduceEq, Int.reduceNe] <;> omega
                                        · rintro h ⟨c10_0, c10_1, c10_2, c10_3, c10_4, c10_5, c10_6, c10_7, c10_8, c10_9, c10_10, c10_11, c10_12, c10_13⟩
                                          exact e_impl_LensJoin _ _ _ hv7 h _ (by simp (disch := first | omega | (simp only [List.length_set, List.length_append, List.length_cons, List.length_nil, rows_len, zs]; first | done | omega)) only [ep_laws_szStepS, ep_laws_toStepS, ep_spec_LensJoin, ep_laws_eqStepS, ep_laws_heldStepS, hv0, hb1, hv2, hb3, hv4, hv5, hv6, d0_0, d1_0, d1_1, hv7, d2_0, d2_1, d2_2, hv8, hb9, hb10, d3_0, d3_1, d3_2, d3_3, hv11, hb12, d4_0, d4_1, d4_2, d4_3, d4_4, hv13, hb14, hv15, d5_0, d5_1, d5_2, d5_3, d5_4, hv16, d6_0, d6_1, d6_2, d6_3, d6_4, hb17, hv18, d7_0, d7_1, d7_2, d7_3, d7_4, hv19, hb20, hb21, d8_0, d8_1, d8_2, d8_3, d8_4, d8_5, d9_0, d9_1, d9_2, d9_3, d9_4, d9_5, d9_6, c10_0, c10_1, c10_2, c10_3, c10_4, c10_5, c10_6, c10_7, c10_8, c10_9, c10_10, c10_11, c10_12, c10_13, gs, app_hsl, app_nil, reduceIte, reduceCtorEq, Nat.reduceAdd, Nat.reduceMul, Nat.reduceSub, Nat.reduceBEq, Nat.reduceEqDiff, Nat.reduceLeDiff, Nat.reduceLT, Nat.reduceGT, Int.reduceToNat, Int.reduceLT, Int.reduceLE, Int.reduceNeg, Int.reduceAdd, Int.reduceEq, Int.reduceNe])
                                        · rintro h v hh10 ⟨c10_0, c10_1, c10_2, c10_3, c10_4, c10_5, c10_6, c10_7, c10_8, c10_9, c10_10, c10_11, c10_12, c10_13⟩ hpost
                                          obtain ⟨kk10, nb10_0, rfl, lnb10_0, gnb10_0, wnb10_0⟩ := hpost
                                          have d10_0 : getCells hh10 nb0_0 (v4.length * 4) = some (rows (v15.b : List TStep)) := (keep_get kk10 c10_1 (by first | (simp; done) | (simp; omega))).trans c10_0
                                          have d10_0l := keep_lt kk10 c10_1
                                          have d10_1 : getCells hh10 nb1_0 (v5.length * 4) = some (rows (v16.b : List TStep)) := (keep_get kk10 c10_3 (by first | (simp; done) | (simp; omega))).trans c10_2
                                          have d10_1l := keep_lt kk10 c10_3
                                          have d10_2 : getCells hh10 nb2_0 (v7.a.length * 4) = some (rows (v18.b : List TStep)) := (keep_get kk10 c10_5 (by first | (simp; done) | (simp; omega))).trans c10_4
                                          have d10_2l := keep_lt kk10 c10_5
                                          have d10_3 : getCells hh10 nb3_0 (v4.length * 4) = some (rows (v4 : List TStep)) := (keep_get kk10 c10_7 (by first | (simp; done) | (simp; omega))).trans c10_6
                                          have d10_3l := keep_lt kk10 c10_7
                                          have d10_4 : getCells hh10 nb4_0 (v5.length * 4) = some (rows (v5 : List TStep)) := (keep_get kk10 c10_9 (by first | (simp; done) | (simp; omega))).trans c10_8
                                          have d10_4l := keep_lt kk10 c10_9
                                          have d10_5 : getCells hh10 nb8_0 (v4.length * 4) = some (rows (v4 : List TStep)) := (keep_get kk10 c10_11 (by first | (simp; done) | (simp; omega))).trans c10_10
                                          have d10_5l := keep_lt kk10 c10_11
                                          have d10_6 : getCells hh10 nb9_0 (v5.length * 4) = some (rows (v5 : List TStep)) := (keep_get kk10 c10_13 (by first | (simp; done) | (simp; omega))).trans c10_12
                                          have d10_6l := keep_lt kk10 c10_13
                                          have d10_7 := wnb10_0
                                          cases hp
                                          simp (disch := first | omega | (simp only [List.length_set, List.length_append, List.length_cons, List.length_nil, rows_len, zs]; first | done | omega)) only [ep_laws_szStepS, ep_laws_toStepS, ep_spec_LensJoin, ep_laws_eqStepS, ep_laws_heldStepS, hv0, hb1, hv2, hb3, hv4, hv5, hv6, d0_0, d1_0, d1_1, hv7, d2_0, d2_1, d2_2, hv8, hb9, hb10, d3_0, d3_1, d3_2, d3_3, hv11, hb12, d4_0, d4_1, d4_2, d4_3, d4_4, hv13, hb14, hv15, d5_0, d5_1, d5_2, d5_3, d5_4, hv16, d6_0, d6_1, d6_2, d6_3, d6_4, hb17, hv18, d7_0, d7_1, d7_2, d7_3, d7_4, hv19, hb20, hb21, d8_0, d8_1, d8_2, d8_3, d8_4, d8_5, d9_0, d9_1, d9_2, d9_3, d9_4, d9_5, d9_6, d10_0, d10_1, d10_2, d10_3, d10_4, d10_5, d10_6, d10_7, gs, app_hsl, app_nil, reduceIte, reduceCtorEq, Nat.reduceAdd, Nat.reduceMul, Nat.reduceSub, Nat.reduceBEq, Nat.reduceEqDiff, Nat.reduceLeDiff, Nat.reduceLT, Nat.reduceGT, Int.reduceToNat, Int.reduceLT, Int.reduceLE, Int.reduceNeg, Int.reduceAdd, Int.reduceEq, Int.reduceNe]
                                  · replace hb21 := eq_false_of_ne_true hb21
                                    rw [if_f hb21] at hp
                                    cases hp
                      · replace hb14 := eq_false_of_ne_true hb14
                        rw [if_f hb14] at hp
                        cases hp
                  · replace hb12 := eq_false_of_ne_true hb12
                    rw [if_f hb12] at hp
                    cases hp
              · replace hb10 := eq_false_of_ne_true hb10
                rw [if_f hb10] at hp
                cases hp
            · replace hb9 := eq_false_of_ne_true hb9
              rw [if_f hb9] at hp
              cases hp

end Go.AM
