/- Plain functions of LogOK and their walks. No condition. -/
import Derived.Test.YtiabacjkejkbgaaLabGLogOKa
set_option linter.unusedVariables false
set_option linter.unusedSimpArgs false
set_option maxRecDepth 20000
namespace Go.AM
open Pic (enc dec dec_enc dec_sub)
open PicA (encA decA decA_encA decA_sub)
noncomputable def p_impl_VecOK_l0 (x0 : TVec) : Int → Option (Lp (Int) Bool)
  | s1 =>
    if (decide (s1 < (x0.counts.length : Int))) = true then
      (get? x0.counts s1).bind fun v3 =>
      if (decide (v3 < 0)) = true then
        some (.ret false)
      else
        if (decide (1000000000000 < v3)) = true then
          some (.ret false)
        else
          some (.go (w64 (s1 + 1)))
    else
      some (.out s1)
noncomputable def p_impl_VecOK (x0 : TVec) : Option Bool :=
  if (decide ((x0.counts.length : Int) = 16)) = true then
    (loopP (p_impl_VecOK_l0 x0) 0).bind fun ee0 => match ee0 with
    | .ret r => some r
    | .out o6 =>
      some true
  else
    some false
def c_impl_VecOK : AFn := ⟨23, (.seq (.ops [⟨(.some 1), (.box (.tmp 0)), .none, []⟩, ⟨(.some 2), (.mv (.const (.bool false))), .none, []⟩]) (.seq (.seq (.ops [⟨(.some 5), (.fieldA 0 (.tmp 1)), .none, []⟩, ⟨(.some 6), (.load 1 false (.tmp 5)), .none, []⟩, ⟨(.some 7), (.len (.tmp 6)), .none, []⟩, ⟨(.some 8), (.pu (.n (.ar .neq)) [(.tmp 7), (.const (.int .i64 16))]), .none, []⟩]) (.cond (.tmp 8) (.seq (.ops [⟨(.some 2), (.mv (.const (.bool false))), .none, []⟩]) .ret) .skip)) (.seq (.seq (.ops [⟨(.some 9), (.fieldA 0 (.tmp 1)), .none, []⟩, ⟨(.some 10), (.load 1 false (.tmp 9)), .none, []⟩, ⟨(.some 11), (.len (.tmp 10)), .none, []⟩, ⟨(.some 12), (.mv (.const (.int .i64 0))), .none, []⟩]) (.block 0 (.loop (.seq (.ops [⟨(.some 13), (.pu (.n (.ar .lss)) [(.tmp 12), (.tmp 11)]), .none, []⟩]) (.seq (.cond (.tmp 13) .skip (.exit 0)) (.seq (.block 1 (.seq (.ops [⟨(.some 14), (.idxS 1 (.tmp 10) (.tmp 12)), .none, []⟩, ⟨(.some 15), (.load 1 false (.tmp 14)), .none, []⟩, ⟨(.some 4), (.mv (.tmp 15)), .none, []⟩]) (.seq (.ops [⟨(.some 16), (.mv (.tmp 4)), .none, []⟩, ⟨(.some 17), (.pu (.n (.ar .lss)) [(.tmp 16), (.const (.int .i64 0))]), .none, []⟩, ⟨(.some 18), (.mv (.tmp 17)), .none, []⟩, ⟨(.some 19), (.mv (.tmp 4)), (.some (18, false)), []⟩, ⟨(.some 20), (.pu (.n (.ar .gtr)) [(.tmp 19), (.const (.int .i64 1000000000000))]), (.some (18, false)), []⟩, ⟨(.some 21), (.pick (.tmp 18) (.const (.bool true)) (.tmp 20)), .none, []⟩]) (.cond (.tmp 21) (.seq (.ops [⟨(.some 2), (.mv (.const (.bool false))), .none, []⟩]) .ret) .skip)))) (.ops [⟨(.some 22), (.pu (.n (.ar .add)) [(.tmp 12), (.const (.int .i64 1))]), .none, []⟩, ⟨(.some 12), (.mv (.tmp 22)), .none, []⟩]))))))) (.seq (.ops [⟨(.some 2), (.mv (.const (.bool true))), .none, []⟩]) .ret)))), [(.tmp 2)]⟩
set_option maxHeartbeats 10000000 in
theorem d_impl_VecOK {P : Program} {env : Env}  (x0 : TVec) {b : Bool} (hp : p_impl_VecOK x0 = some b) : R P env (c_impl_VecOK) ((encA (x0)).map ofI) [] (Tells true b) := by
  refine R_of (by simp [c_impl_VecOK, encA]) ?_
  unfold c_impl_VecOK
  unfold p_impl_VecOK at hp
  by_cases hb0 : (decide ((x0.counts.length : Int) = 16)) = true
  · rw [if_t hb0] at hp
    obtain ⟨ee0, hee0, hp⟩ := bind_eq hp
    simp (maxSteps := 2000000) (disch := first | omega | (simp only [List.length_set, List.length_append, List.length_cons, List.length_nil, rows_len, zs]; first | done | omega)) only [hb0, gs, reduceIte, reduceCtorEq, Nat.reduceAdd, Nat.reduceMul, Nat.reduceSub, Nat.reduceBEq, Nat.reduceEqDiff, Nat.reduceLeDiff, Nat.reduceLT, Nat.reduceGT, Int.reduceToNat, Int.reduceLT, Int.reduceLE, Int.reduceNeg, Int.reduceAdd, Int.reduceEq, Int.reduceNe, idxA_ptr, idxA_ip, retV_nil, at_app, at_app_set, enc_ob, enc_on, dec_ob, dec_on, ofI_ob, cells_ob, bookC_len, ev_ptr]
    refine W_loopP 0 (fun s t h => match s with | s1 => t 10 = .i (.sl 1 (x0.counts.map enc)) ∧ t 11 = .i (.s (.int .i64 (x0.counts.length : Int))) ∧ t 12 = .i (.s (.int .i64 s1))) (RK [.tmp 2] (Tells true)) ?_ hee0 ?_ ?_
    · rintro s1 ee tt0 hh0 ⟨ftt0_0, ftt0_1, ftt0_2⟩ hp
      rw [p_impl_VecOK_l0] at hp
      by_cases hb2 : (decide (s1 < (x0.counts.length : Int))) = true
      · rw [if_t hb2] at hp
        obtain ⟨v3, hv3, hp⟩ := bind_eq hp
        by_cases hb4 : (decide (v3 < 0)) = true
        · rw [if_t hb4] at hp
          have hp := Option.some.inj hp
          subst hp
          simp (maxSteps := 2000000) (disch := first | omega | (simp only [List.length_set, List.length_append, List.length_cons, List.length_nil, rows_len, zs]; first | done | omega)) only [hb0, ftt0_0, ftt0_1, ftt0_2, hb2, hv3, hb4, gs, reduceIte, reduceCtorEq, Nat.reduceAdd, Nat.reduceMul, Nat.reduceSub, Nat.reduceBEq, Nat.reduceEqDiff, Nat.reduceLeDiff, Nat.reduceLT, Nat.reduceGT, Int.reduceToNat, Int.reduceLT, Int.reduceLE, Int.reduceNeg, Int.reduceAdd, Int.reduceEq, Int.reduceNe, idxA_ptr, idxA_ip, retV_nil, at_app, at_app_set, enc_ob, enc_on, dec_ob, dec_on, ofI_ob, cells_ob, bookC_len, ev_ptr]
        · replace hb4 := eq_false_of_ne_true hb4
          rw [if_f hb4] at hp
          by_cases hb5 : (decide (1000000000000 < v3)) = true
          · rw [if_t hb5] at hp
            have hp := Option.some.inj hp
            subst hp
            simp (maxSteps := 2000000) (disch := first | omega | (simp only [List.length_set, List.length_append, List.length_cons, List.length_nil, rows_len, zs]; first | done | omega)) only [hb0, ftt0_0, ftt0_1, ftt0_2, hb2, hv3, hb4, hb5, gs, reduceIte, reduceCtorEq, Nat.reduceAdd, Nat.reduceMul, Nat.reduceSub, Nat.reduceBEq, Nat.reduceEqDiff, Nat.reduceLeDiff, Nat.reduceLT, Nat.reduceGT, Int.reduceToNat, Int.reduceLT, Int.reduceLE, Int.reduceNeg, Int.reduceAdd, Int.reduceEq, Int.reduceNe, idxA_ptr, idxA_ip, retV_nil, at_app, at_app_set, enc_ob, enc_on, dec_ob, dec_on, ofI_ob, cells_ob, bookC_len, ev_ptr]
          · replace hb5 := eq_false_of_ne_true hb5
            rw [if_f hb5] at hp
            have hp := Option.some.inj hp
            subst hp
            simp (maxSteps := 2000000) (disch := first | omega | (simp only [List.length_set, List.length_append, List.length_cons, List.length_nil, rows_len, zs]; first | done | omega)) only [hb0, ftt0_0, ftt0_1, ftt0_2, hb2, hv3, hb4, hb5, gs, reduceIte, reduceCtorEq, Nat.reduceAdd, Nat.reduceMul, Nat.reduceSub, Nat.reduceBEq, Nat.reduceEqDiff, Nat.reduceLeDiff, Nat.reduceLT, Nat.reduceGT, Int.reduceToNat, Int.reduceLT, Int.reduceLE, Int.reduceNeg, Int.reduceAdd, Int.reduceEq, Int.reduceNe, idxA_ptr, idxA_ip, retV_nil, at_app, at_app_set, enc_ob, enc_on, dec_ob, dec_on, ofI_ob, cells_ob, bookC_len, ev_ptr] <;> omega
      · replace hb2 := eq_false_of_ne_true hb2
        rw [if_f hb2] at hp
        have hp := Option.some.inj hp
        subst hp
        simp (maxSteps := 2000000) (disch := first | omega | (simp only [List.length_set, List.length_append, List.length_cons, List.length_nil, rows_len, zs]; first | done | omega)) only [hb0, ftt0_0, ftt0_1, ftt0_2, hb2, gs, reduceIte, reduceCtorEq, Nat.reduceAdd, Nat.reduceMul, Nat.reduceSub, Nat.reduceBEq, Nat.reduceEqDiff, Nat.reduceLeDiff, Nat.reduceLT, Nat.reduceGT, Int.reduceToNat, Int.reduceLT, Int.reduceLE, Int.reduceNeg, Int.reduceAdd, Int.reduceEq, Int.reduceNe, idxA_ptr, idxA_ip, retV_nil, at_app, at_app_set, enc_ob, enc_on, dec_ob, dec_on, ofI_ob, cells_ob, bookC_len, ev_ptr] <;> omega
    · simp (maxSteps := 2000000) (disch := first | omega | (simp only [List.length_set, List.length_append, List.length_cons, List.length_nil, rows_len, zs]; first | done | omega)) only [hb0, gs, reduceIte, reduceCtorEq, Nat.reduceAdd, Nat.reduceMul, Nat.reduceSub, Nat.reduceBEq, Nat.reduceEqDiff, Nat.reduceLeDiff, Nat.reduceLT, Nat.reduceGT, Int.reduceToNat, Int.reduceLT, Int.reduceLE, Int.reduceNeg, Int.reduceAdd, Int.reduceEq, Int.reduceNe, idxA_ptr, idxA_ip, retV_nil, at_app, at_app_set, enc_ob, enc_on, dec_ob, dec_on, ofI_ob, cells_ob, bookC_len, ev_ptr] <;> omega
    · intro x tt1 hh1 hx
      rcases ee0 with o6 | r
      · obtain ⟨rfl, ftt1_0, ftt1_1, ftt1_2⟩ := hx
        dsimp only at hp
        have hp := Option.some.inj hp
        subst hp
        simp (maxSteps := 2000000) (disch := first | omega | (simp only [List.length_set, List.length_append, List.length_cons, List.length_nil, rows_len, zs]; first | done | omega)) only [hb0, ftt1_0, ftt1_1, ftt1_2, gs, reduceIte, reduceCtorEq, Nat.reduceAdd, Nat.reduceMul, Nat.reduceSub, Nat.reduceBEq, Nat.reduceEqDiff, Nat.reduceLeDiff, Nat.reduceLT, Nat.reduceGT, Int.reduceToNat, Int.reduceLT, Int.reduceLE, Int.reduceNeg, Int.reduceAdd, Int.reduceEq, Int.reduceNe, idxA_ptr, idxA_ip, retV_nil, at_app, at_app_set, enc_ob, enc_on, dec_ob, dec_on, ofI_ob, cells_ob, bookC_len, ev_ptr]
      · obtain ⟨rfl, hx⟩ := hx
        dsimp only at hp
        cases hp
        simp only [seqK_ret, blockK_ret, retK_RK (K := Tells true), hx, and_self, true_and]
  · replace hb0 := eq_false_of_ne_true hb0
    rw [if_f hb0] at hp
    have hp := Option.some.inj hp
    subst hp
    simp (maxSteps := 2000000) (disch := first | omega | (simp only [List.length_set, List.length_append, List.length_cons, List.length_nil, rows_len, zs]; first | done | omega)) only [hb0, gs, reduceIte, reduceCtorEq, Nat.reduceAdd, Nat.reduceMul, Nat.reduceSub, Nat.reduceBEq, Nat.reduceEqDiff, Nat.reduceLeDiff, Nat.reduceLT, Nat.reduceGT, Int.reduceToNat, Int.reduceLT, Int.reduceLE, Int.reduceNeg, Int.reduceAdd, Int.reduceEq, Int.reduceNe, idxA_ptr, idxA_ip, retV_nil, at_app, at_app_set, enc_ob, enc_on, dec_ob, dec_on, ofI_ob, cells_ob, bookC_len, ev_ptr]

noncomputable def p_impl_StampLess (x0 : TStamp) (x1 : TStamp) : Option Bool :=
  if (decide (x0.time = x1.time)) = true then
    some (decide (x0.actor < x1.actor))
  else
    some (decide (x0.time < x1.time))
def c_impl_StampLess : AFn := ⟨20, (.seq (.ops [⟨(.some 2), (.box (.tmp 0)), .none, []⟩, ⟨(.some 3), (.box (.tmp 1)), .none, []⟩, ⟨(.some 4), (.mv (.const (.bool false))), .none, []⟩]) (.seq (.seq (.ops [⟨(.some 5), (.fieldA 0 (.tmp 2)), .none, []⟩, ⟨(.some 6), (.load 1 false (.tmp 5)), .none, []⟩, ⟨(.some 7), (.fieldA 0 (.tmp 3)), .none, []⟩, ⟨(.some 8), (.load 1 false (.tmp 7)), .none, []⟩, ⟨(.some 9), (.pu (.n (.ar .neq)) [(.tmp 6), (.tmp 8)]), .none, []⟩]) (.cond (.tmp 9) (.seq (.ops [⟨(.some 10), (.fieldA 0 (.tmp 2)), .none, []⟩, ⟨(.some 11), (.load 1 false (.tmp 10)), .none, []⟩, ⟨(.some 12), (.fieldA 0 (.tmp 3)), .none, []⟩, ⟨(.some 13), (.load 1 false (.tmp 12)), .none, []⟩, ⟨(.some 14), (.pu (.n (.ar .lss)) [(.tmp 11), (.tmp 13)]), .none, []⟩, ⟨(.some 4), (.mv (.tmp 14)), .none, []⟩]) .ret) .skip)) (.seq (.ops [⟨(.some 15), (.fieldA 1 (.tmp 2)), .none, []⟩, ⟨(.some 16), (.load 1 false (.tmp 15)), .none, []⟩, ⟨(.some 17), (.fieldA 1 (.tmp 3)), .none, []⟩, ⟨(.some 18), (.load 1 false (.tmp 17)), .none, []⟩, ⟨(.some 19), (.pu (.n (.ar .lss)) [(.tmp 16), (.tmp 18)]), .none, []⟩, ⟨(.some 4), (.mv (.tmp 19)), .none, []⟩]) .ret))), [(.tmp 4)]⟩
set_option maxHeartbeats 10000000 in
theorem d_impl_StampLess {P : Program} {env : Env}  (x0 : TStamp) (x1 : TStamp) {b : Bool} (hp : p_impl_StampLess x0 x1 = some b) : R P env (c_impl_StampLess) ((encA (x0, x1)).map ofI) [] (Tells true b) := by
  refine R_of (by simp [c_impl_StampLess, encA]) ?_
  unfold c_impl_StampLess
  unfold p_impl_StampLess at hp
  by_cases hb0 : (decide (x0.time = x1.time)) = true
  · rw [if_t hb0] at hp
    have hp := Option.some.inj hp
    subst hp
    simp (maxSteps := 2000000) (disch := first | omega | (simp only [List.length_set, List.length_append, List.length_cons, List.length_nil, rows_len, zs]; first | done | omega)) only [hb0, gs, reduceIte, reduceCtorEq, Nat.reduceAdd, Nat.reduceMul, Nat.reduceSub, Nat.reduceBEq, Nat.reduceEqDiff, Nat.reduceLeDiff, Nat.reduceLT, Nat.reduceGT, Int.reduceToNat, Int.reduceLT, Int.reduceLE, Int.reduceNeg, Int.reduceAdd, Int.reduceEq, Int.reduceNe, idxA_ptr, idxA_ip, retV_nil, at_app, at_app_set, enc_ob, enc_on, dec_ob, dec_on, ofI_ob, cells_ob, bookC_len, ev_ptr]
  · replace hb0 := eq_false_of_ne_true hb0
    rw [if_f hb0] at hp
    have hp := Option.some.inj hp
    subst hp
    simp (maxSteps := 2000000) (disch := first | omega | (simp only [List.length_set, List.length_append, List.length_cons, List.length_nil, rows_len, zs]; first | done | omega)) only [hb0, gs, reduceIte, reduceCtorEq, Nat.reduceAdd, Nat.reduceMul, Nat.reduceSub, Nat.reduceBEq, Nat.reduceEqDiff, Nat.reduceLeDiff, Nat.reduceLT, Nat.reduceGT, Int.reduceToNat, Int.reduceLT, Int.reduceLE, Int.reduceNeg, Int.reduceAdd, Int.reduceEq, Int.reduceNe, idxA_ptr, idxA_ip, retV_nil, at_app, at_app_set, enc_ob, enc_on, dec_ob, dec_on, ofI_ob, cells_ob, bookC_len, ev_ptr]

noncomputable def p_impl_charOK (x0 : Int) : Option Bool :=
  if (decide (0 ≤ x0)) = true then
    if (decide (x0 ≤ 1114111)) = true then
      if (decide (x0 < 55296)) = true then
        some true
      else
        some (decide (57343 < x0))
    else
      some false
  else
    some false
def c_impl_charOK : AFn := ⟨17, (.seq (.ops [⟨(.some 2), (.mv (.const (.bool false))), .none, []⟩]) (.seq (.ops [⟨(.some 3), (.mv (.tmp 0)), .none, []⟩, ⟨(.some 4), (.pu (.n (.ar .geq)) [(.tmp 3), (.const (.int .i64 0))]), .none, []⟩, ⟨(.some 5), (.mv (.tmp 4)), .none, []⟩, ⟨(.some 6), (.mv (.tmp 0)), (.some (5, true)), []⟩, ⟨(.some 7), (.pu (.n (.ar .leq)) [(.tmp 6), (.const (.int .i64 1114111))]), (.some (5, true)), []⟩, ⟨(.some 8), (.pick (.tmp 5) (.tmp 7) (.const (.bool false))), .none, []⟩, ⟨(.some 9), (.mv (.tmp 8)), .none, []⟩, ⟨(.some 10), (.mv (.tmp 0)), (.some (9, true)), []⟩, ⟨(.some 11), (.pu (.n (.ar .lss)) [(.tmp 10), (.const (.int .i64 55296))]), (.some (9, true)), []⟩, ⟨(.some 12), (.mv (.tmp 11)), (.some (9, true)), []⟩, ⟨(.some 13), (.mv (.tmp 0)), (.some (12, false)), []⟩, ⟨(.some 14), (.pu (.n (.ar .gtr)) [(.tmp 13), (.const (.int .i64 57343))]), (.some (12, false)), []⟩, ⟨(.some 15), (.pick (.tmp 12) (.const (.bool true)) (.tmp 14)), (.some (9, true)), []⟩, ⟨(.some 16), (.pick (.tmp 9) (.tmp 15) (.const (.bool false))), .none, []⟩, ⟨(.some 2), (.mv (.tmp 16)), .none, []⟩]) .ret)), [(.tmp 2)]⟩
set_option maxHeartbeats 10000000 in
theorem d_impl_charOK {P : Program} {env : Env}  (x0 : Int) {b : Bool} (hp : p_impl_charOK x0 = some b) : R P env (c_impl_charOK) ((encA (x0)).map ofI) [] (Tells true b) := by
  refine R_of (by simp [c_impl_charOK, encA]) ?_
  unfold c_impl_charOK
  unfold p_impl_charOK at hp
  by_cases hb0 : (decide (0 ≤ x0)) = true
  · rw [if_t hb0] at hp
    by_cases hb1 : (decide (x0 ≤ 1114111)) = true
    · rw [if_t hb1] at hp
      by_cases hb2 : (decide (x0 < 55296)) = true
      · rw [if_t hb2] at hp
        have hp := Option.some.inj hp
        subst hp
        simp (maxSteps := 2000000) (disch := first | omega | (simp only [List.length_set, List.length_append, List.length_cons, List.length_nil, rows_len, zs]; first | done | omega)) only [hb0, hb1, hb2, gs, reduceIte, reduceCtorEq, Nat.reduceAdd, Nat.reduceMul, Nat.reduceSub, Nat.reduceBEq, Nat.reduceEqDiff, Nat.reduceLeDiff, Nat.reduceLT, Nat.reduceGT, Int.reduceToNat, Int.reduceLT, Int.reduceLE, Int.reduceNeg, Int.reduceAdd, Int.reduceEq, Int.reduceNe, idxA_ptr, idxA_ip, retV_nil, at_app, at_app_set, enc_ob, enc_on, dec_ob, dec_on, ofI_ob, cells_ob, bookC_len, ev_ptr]
      · replace hb2 := eq_false_of_ne_true hb2
        rw [if_f hb2] at hp
        have hp := Option.some.inj hp
        subst hp
        simp (maxSteps := 2000000) (disch := first | omega | (simp only [List.length_set, List.length_append, List.length_cons, List.length_nil, rows_len, zs]; first | done | omega)) only [hb0, hb1, hb2, gs, reduceIte, reduceCtorEq, Nat.reduceAdd, Nat.reduceMul, Nat.reduceSub, Nat.reduceBEq, Nat.reduceEqDiff, Nat.reduceLeDiff, Nat.reduceLT, Nat.reduceGT, Int.reduceToNat, Int.reduceLT, Int.reduceLE, Int.reduceNeg, Int.reduceAdd, Int.reduceEq, Int.reduceNe, idxA_ptr, idxA_ip, retV_nil, at_app, at_app_set, enc_ob, enc_on, dec_ob, dec_on, ofI_ob, cells_ob, bookC_len, ev_ptr]
    · replace hb1 := eq_false_of_ne_true hb1
      rw [if_f hb1] at hp
      have hp := Option.some.inj hp
      subst hp
      simp (maxSteps := 2000000) (disch := first | omega | (simp only [List.length_set, List.length_append, List.length_cons, List.length_nil, rows_len, zs]; first | done | omega)) only [hb0, hb1, gs, reduceIte, reduceCtorEq, Nat.reduceAdd, Nat.reduceMul, Nat.reduceSub, Nat.reduceBEq, Nat.reduceEqDiff, Nat.reduceLeDiff, Nat.reduceLT, Nat.reduceGT, Int.reduceToNat, Int.reduceLT, Int.reduceLE, Int.reduceNeg, Int.reduceAdd, Int.reduceEq, Int.reduceNe, idxA_ptr, idxA_ip, retV_nil, at_app, at_app_set, enc_ob, enc_on, dec_ob, dec_on, ofI_ob, cells_ob, bookC_len, ev_ptr]
  · replace hb0 := eq_false_of_ne_true hb0
    rw [if_f hb0] at hp
    have hp := Option.some.inj hp
    subst hp
    simp (maxSteps := 2000000) (disch := first | omega | (simp only [List.length_set, List.length_append, List.length_cons, List.length_nil, rows_len, zs]; first | done | omega)) only [hb0, gs, reduceIte, reduceCtorEq, Nat.reduceAdd, Nat.reduceMul, Nat.reduceSub, Nat.reduceBEq, Nat.reduceEqDiff, Nat.reduceLeDiff, Nat.reduceLT, Nat.reduceGT, Int.reduceToNat, Int.reduceLT, Int.reduceLE, Int.reduceNeg, Int.reduceAdd, Int.reduceEq, Int.reduceNe, idxA_ptr, idxA_ip, retV_nil, at_app, at_app_set, enc_ob, enc_on, dec_ob, dec_on, ofI_ob, cells_ob, bookC_len, ev_ptr]

noncomputable def p_impl_opOK (x0 : TOp) : Option Bool :=
  (p_impl_Op_stamp x0).bind fun v0 =>
  (p_impl_StampOK v0).bind fun v1 =>
  if (v1) = true then
    if (decide (x0.seq < 1)) = true then
      some false
    else
      if (decide (1000000000000 < x0.seq)) = true then
        some false
      else
        (p_impl_VecOK x0.deps).bind fun v5 =>
        if (v5) = true then
          (get? x0.deps.counts x0.actor).bind fun v7 =>
          if (decide (v7 = w64 (x0.seq - 1))) = true then
            if (decide (x0.obj < 1)) = true then
              some false
            else
              if (decide (100 < x0.obj)) = true then
                some false
              else
                if (decide (x0.n < (-1000000000000))) = true then
                  some false
                else
                  if (decide (1000000000000 < x0.n)) = true then
                    some false
                  else
                    if (decide (x0.undo < 0)) = true then
                      some false
                    else
                      if (decide (x0.seq ≤ x0.undo)) = true then
                        some false
                      else
                        if (decide (200 < (x0.key.size : Int))) = true then
                          some false
                        else
                          if (decide (200 < (x0.text.size : Int))) = true then
                            some false
                          else
                            if ((decide (x0.at_.time = 0) && decide (x0.at_.actor = 0))) = true then
                              if (decide (x0.key = (ByteArray.mk #[]))) = true then
                                if (decide (x0.kind = 1)) = true then
                                  if (decide (x0.n = 0)) = true then
                                    some (decide (x0.at_.time = 0) && decide (x0.at_.actor = 0))
                                  else
                                    some false
                                else
                                  if (decide (x0.kind = 2)) = true then
                                    if (decide (x0.text = (ByteArray.mk #[]))) = true then
                                      (p_impl_charOK x0.n).bind fun v23 =>
                                      some v23
                                    else
                                      some false
                                  else
                                    if (decide (x0.kind = 3)) = true then
                                      if (decide (x0.text = (ByteArray.mk #[]))) = true then
                                        if (decide (x0.n = 0)) = true then
                                          some (!(decide (x0.at_.time = 0) && decide (x0.at_.actor = 0)))
                                        else
                                          some false
                                      else
                                        some false
                                    else
                                      if (decide (x0.kind = 4)) = true then
                                        if (decide (x0.text = (ByteArray.mk #[]))) = true then
                                          some (decide (x0.at_.time = 0) && decide (x0.at_.actor = 0))
                                        else
                                          some false
                                      else
                                        some false
                              else
                                if (decide (x0.kind = 1)) = true then
                                  if (decide (x0.n = 0)) = true then
                                    some (decide (x0.at_.time = 0) && decide (x0.at_.actor = 0))
                                  else
                                    some false
                                else
                                  if (decide (x0.kind = 2)) = true then
                                    some false
                                  else
                                    if (decide (x0.kind = 3)) = true then
                                      some false
                                    else
                                      if (decide (x0.kind = 4)) = true then
                                        some false
                                      else
                                        some false
                            else
                              (p_impl_StampOK x0.at_).bind fun v34 =>
                              if (v34) = true then
                                (p_impl_StampLess x0.at_ v0).bind fun v36 =>
                                if (v36) = true then
                                  if (decide (x0.key = (ByteArray.mk #[]))) = true then
                                    if (decide (x0.kind = 1)) = true then
                                      if (decide (x0.n = 0)) = true then
                                        some (decide (x0.at_.time = 0) && decide (x0.at_.actor = 0))
                                      else
                                        some false
                                    else
                                      if (decide (x0.kind = 2)) = true then
                                        if (decide (x0.text = (ByteArray.mk #[]))) = true then
                                          (p_impl_charOK x0.n).bind fun v43 =>
                                          some v43
                                        else
                                          some false
                                      else
                                        if (decide (x0.kind = 3)) = true then
                                          if (decide (x0.text = (ByteArray.mk #[]))) = true then
                                            if (decide (x0.n = 0)) = true then
                                              some (!(decide (x0.at_.time = 0) && decide (x0.at_.actor = 0)))
                                            else
                                              some false
                                          else
                                            some false
                                        else
                                          if (decide (x0.kind = 4)) = true then
                                            if (decide (x0.text = (ByteArray.mk #[]))) = true then
                                              some (decide (x0.at_.time = 0) && decide (x0.at_.actor = 0))
                                            else
                                              some false
                                          else
                                            some false
                                  else
                                    if (decide (x0.kind = 1)) = true then
                                      if (decide (x0.n = 0)) = true then
                                        some (decide (x0.at_.time = 0) && decide (x0.at_.actor = 0))
                                      else
                                        some false
                                    else
                                      if (decide (x0.kind = 2)) = true then
                                        some false
                                      else
                                        if (decide (x0.kind = 3)) = true then
                                          some false
                                        else
                                          if (decide (x0.kind = 4)) = true then
                                            some false
                                          else
                                            some false
                                else
                                  some false
                              else
                                some false
          else
            some false
        else
          some false
  else
    some false
def c_impl_opOK (f_impl_Op_stamp : Nat) (f_impl_StampOK : Nat) (f_impl_VecOK : Nat) (f_impl_StampLess : Nat) (f_impl_charOK : Nat) : AFn := ⟨145, (.seq (.ops [⟨(.some 1), (.box (.tmp 0)), .none, []⟩, ⟨(.some 2), (.mv (.const (.bool false))), .none, []⟩]) (.seq (.seq (.ops [⟨(.some 5), (.load 12 true (.tmp 1)), .none, []⟩, ⟨(.some 6), (.call (2 * f_impl_Op_stamp) [(.tmp 5)]), .none, []⟩, ⟨(.some 7), (.call (2 * f_impl_StampOK) [(.tmp 6)]), .none, []⟩, ⟨(.some 8), (.pu (.n (.un .not)) [(.tmp 7)]), .none, []⟩, ⟨(.some 9), (.mv (.tmp 8)), .none, []⟩, ⟨(.some 10), (.fieldA 1 (.tmp 1)), (.some (9, false)), []⟩, ⟨(.some 11), (.load 1 false (.tmp 10)), (.some (9, false)), []⟩, ⟨(.some 12), (.pu (.n (.ar .lss)) [(.tmp 11), (.const (.int .i64 1))]), (.some (9, false)), []⟩, ⟨(.some 13), (.pick (.tmp 9) (.const (.bool true)) (.tmp 12)), .none, []⟩, ⟨(.some 14), (.mv (.tmp 13)), .none, []⟩, ⟨(.some 15), (.fieldA 1 (.tmp 1)), (.some (14, false)), []⟩, ⟨(.some 16), (.load 1 false (.tmp 15)), (.some (14, false)), []⟩, ⟨(.some 17), (.pu (.n (.ar .gtr)) [(.tmp 16), (.const (.int .i64 1000000000000))]), (.some (14, false)), []⟩, ⟨(.some 18), (.pick (.tmp 14) (.const (.bool true)) (.tmp 17)), .none, []⟩, ⟨(.some 19), (.mv (.tmp 18)), .none, []⟩, ⟨(.some 20), (.fieldA 3 (.tmp 1)), (.some (19, false)), []⟩, ⟨(.some 21), (.load 1 true (.tmp 20)), (.some (19, false)), []⟩, ⟨(.some 22), (.call (2 * f_impl_VecOK) [(.tmp 21)]), (.some (19, false)), []⟩, ⟨(.some 23), (.pu (.n (.un .not)) [(.tmp 22)]), (.some (19, false)), []⟩, ⟨(.some 24), (.pick (.tmp 19) (.const (.bool true)) (.tmp 23)), .none, []⟩, ⟨(.some 25), (.mv (.tmp 24)), .none, []⟩, ⟨(.some 26), (.fieldA 3 (.tmp 1)), (.some (25, false)), []⟩, ⟨(.some 27), (.fieldA 0 (.tmp 26)), (.some (25, false)), []⟩, ⟨(.some 28), (.load 1 false (.tmp 27)), (.some (25, false)), []⟩, ⟨(.some 29), (.fieldA 0 (.tmp 1)), (.some (25, false)), []⟩, ⟨(.some 30), (.load 1 false (.tmp 29)), (.some (25, false)), []⟩, ⟨(.some 31), (.idxS 1 (.tmp 28) (.tmp 30)), (.some (25, false)), []⟩, ⟨(.some 32), (.load 1 false (.tmp 31)), (.some (25, false)), []⟩, ⟨(.some 33), (.fieldA 1 (.tmp 1)), (.some (25, false)), []⟩, ⟨(.some 34), (.load 1 false (.tmp 33)), (.some (25, false)), []⟩, ⟨(.some 35), (.pu (.n (.ar .sub)) [(.tmp 34), (.const (.int .i64 1))]), (.some (25, false)), []⟩, ⟨(.some 36), (.pu (.n (.ar .neq)) [(.tmp 32), (.tmp 35)]), (.some (25, false)), []⟩, ⟨(.some 37), (.pick (.tmp 25) (.const (.bool true)) (.tmp 36)), .none, []⟩]) (.cond (.tmp 37) (.seq (.ops [⟨(.some 2), (.mv (.const (.bool false))), .none, []⟩]) .ret) .skip)) (.seq (.seq (.ops [⟨(.some 38), (.fieldA 5 (.tmp 1)), .none, []⟩, ⟨(.some 39), (.load 1 false (.tmp 38)), .none, []⟩, ⟨(.some 40), (.pu (.n (.ar .lss)) [(.tmp 39), (.const (.int .i64 1))]), .none, []⟩, ⟨(.some 41), (.mv (.tmp 40)), .none, []⟩, ⟨(.some 42), (.fieldA 5 (.tmp 1)), (.some (41, false)), []⟩, ⟨(.some 43), (.load 1 false (.tmp 42)), (.some (41, false)), []⟩, ⟨(.some 44), (.pu (.n (.ar .gtr)) [(.tmp 43), (.const (.int .i64 100))]), (.some (41, false)), []⟩, ⟨(.some 45), (.pick (.tmp 41) (.const (.bool true)) (.tmp 44)), .none, []⟩, ⟨(.some 46), (.mv (.tmp 45)), .none, []⟩, ⟨(.some 47), (.fieldA 6 (.tmp 1)), (.some (46, false)), []⟩, ⟨(.some 48), (.load 1 false (.tmp 47)), (.some (46, false)), []⟩, ⟨(.some 49), (.pu (.n (.ar .lss)) [(.tmp 48), (.const (.int .i64 (-1000000000000)))]), (.some (46, false)), []⟩, ⟨(.some 50), (.pick (.tmp 46) (.const (.bool true)) (.tmp 49)), .none, []⟩, ⟨(.some 51), (.mv (.tmp 50)), .none, []⟩, ⟨(.some 52), (.fieldA 6 (.tmp 1)), (.some (51, false)), []⟩, ⟨(.some 53), (.load 1 false (.tmp 52)), (.some (51, false)), []⟩, ⟨(.some 54), (.pu (.n (.ar .gtr)) [(.tmp 53), (.const (.int .i64 1000000000000))]), (.some (51, false)), []⟩, ⟨(.some 55), (.pick (.tmp 51) (.const (.bool true)) (.tmp 54)), .none, []⟩, ⟨(.some 56), (.mv (.tmp 55)), .none, []⟩, ⟨(.some 57), (.fieldA 7 (.tmp 1)), (.some (56, false)), []⟩, ⟨(.some 58), (.load 1 false (.tmp 57)), (.some (56, false)), []⟩, ⟨(.some 59), (.pu (.n (.ar .lss)) [(.tmp 58), (.const (.int .i64 0))]), (.some (56, false)), []⟩, ⟨(.some 60), (.pick (.tmp 56) (.const (.bool true)) (.tmp 59)), .none, []⟩, ⟨(.some 61), (.mv (.tmp 60)), .none, []⟩, ⟨(.some 62), (.fieldA 7 (.tmp 1)), (.some (61, false)), []⟩, ⟨(.some 63), (.load 1 false (.tmp 62)), (.some (61, false)), []⟩, ⟨(.some 64), (.fieldA 1 (.tmp 1)), (.some (61, false)), []⟩, ⟨(.some 65), (.load 1 false (.tmp 64)), (.some (61, false)), []⟩, ⟨(.some 66), (.pu (.n (.ar .geq)) [(.tmp 63), (.tmp 65)]), (.some (61, false)), []⟩, ⟨(.some 67), (.pick (.tmp 61) (.const (.bool true)) (.tmp 66)), .none, []⟩]) (.cond (.tmp 67) (.seq (.ops [⟨(.some 2), (.mv (.const (.bool false))), .none, []⟩]) .ret) .skip)) (.seq (.seq (.ops [⟨(.some 68), (.fieldA 10 (.tmp 1)), .none, []⟩, ⟨(.some 69), (.load 1 false (.tmp 68)), .none, []⟩, ⟨(.some 70), (.pu (.n .len) [(.tmp 69)]), .none, []⟩, ⟨(.some 71), (.pu (.n (.ar .gtr)) [(.tmp 70), (.const (.int .i64 200))]), .none, []⟩, ⟨(.some 72), (.mv (.tmp 71)), .none, []⟩, ⟨(.some 73), (.fieldA 11 (.tmp 1)), (.some (72, false)), []⟩, ⟨(.some 74), (.load 1 false (.tmp 73)), (.some (72, false)), []⟩, ⟨(.some 75), (.pu (.n .len) [(.tmp 74)]), (.some (72, false)), []⟩, ⟨(.some 76), (.pu (.n (.ar .gtr)) [(.tmp 75), (.const (.int .i64 200))]), (.some (72, false)), []⟩, ⟨(.some 77), (.pick (.tmp 72) (.const (.bool true)) (.tmp 76)), .none, []⟩]) (.cond (.tmp 77) (.seq (.ops [⟨(.some 2), (.mv (.const (.bool false))), .none, []⟩]) .ret) .skip)) (.seq (.ops [⟨(.some 78), (.fieldA 8 (.tmp 1)), .none, []⟩, ⟨(.some 79), (.load 2 true (.tmp 78)), .none, []⟩, ⟨(.some 80), (.build [(.int .i64 0), (.int .i64 0)] []), .none, []⟩, ⟨(.some 81), (.aeq false [(.int .i64), (.int .i64)] (.tmp 79) (.tmp 80)), .none, []⟩, ⟨(.some 3), (.mv (.tmp 81)), .none, []⟩]) (.seq (.seq (.ops [⟨(.some 82), (.mv (.tmp 3)), .none, []⟩, ⟨(.some 83), (.pu (.n (.un .not)) [(.tmp 82)]), .none, []⟩, ⟨(.some 84), (.mv (.tmp 83)), .none, []⟩, ⟨(.some 85), (.fieldA 8 (.tmp 1)), (.some (84, true)), []⟩, ⟨(.some 86), (.load 2 true (.tmp 85)), (.some (84, true)), []⟩, ⟨(.some 87), (.call (2 * f_impl_StampOK) [(.tmp 86)]), (.some (84, true)), []⟩, ⟨(.some 88), (.pu (.n (.un .not)) [(.tmp 87)]), (.some (84, true)), []⟩, ⟨(.some 89), (.mv (.tmp 88)), (.some (84, true)), []⟩, ⟨(.some 90), (.fieldA 8 (.tmp 1)), (.some (89, false)), []⟩, ⟨(.some 91), (.load 2 true (.tmp 90)), (.some (89, false)), []⟩, ⟨(.some 92), (.load 12 true (.tmp 1)), (.some (89, false)), []⟩, ⟨(.some 93), (.call (2 * f_impl_Op_stamp) [(.tmp 92)]), (.some (89, false)), []⟩, ⟨(.some 94), (.call (2 * f_impl_StampLess) [(.tmp 91), (.tmp 93)]), (.some (89, false)), []⟩, ⟨(.some 95), (.pu (.n (.un .not)) [(.tmp 94)]), (.some (89, false)), []⟩, ⟨(.some 96), (.pick (.tmp 89) (.const (.bool true)) (.tmp 95)), (.some (84, true)), []⟩, ⟨(.some 97), (.pick (.tmp 84) (.tmp 96) (.const (.bool false))), .none, []⟩]) (.cond (.tmp 97) (.seq (.ops [⟨(.some 2), (.mv (.const (.bool false))), .none, []⟩]) .ret) .skip)) (.seq (.ops [⟨(.some 98), (.fieldA 10 (.tmp 1)), .none, []⟩, ⟨(.some 99), (.load 1 false (.tmp 98)), .none, []⟩, ⟨(.some 100), (.pu (.n (.ar .neq)) [(.tmp 99), (.const (.string ⟨#[]⟩))]), .none, []⟩, ⟨(.some 101), (.mv (.tmp 100)), .none, []⟩, ⟨(.some 102), (.fieldA 11 (.tmp 1)), (.some (101, false)), []⟩, ⟨(.some 103), (.load 1 false (.tmp 102)), (.some (101, false)), []⟩, ⟨(.some 104), (.pu (.n (.ar .neq)) [(.tmp 103), (.const (.string ⟨#[]⟩))]), (.some (101, false)), []⟩, ⟨(.some 105), (.pick (.tmp 101) (.const (.bool true)) (.tmp 104)), .none, []⟩, ⟨(.some 4), (.mv (.tmp 105)), .none, []⟩]) (.seq (.seq (.ops [⟨(.some 106), (.fieldA 4 (.tmp 1)), .none, []⟩, ⟨(.some 107), (.load 1 false (.tmp 106)), .none, []⟩]) (.block 0 (.seq (.ops [⟨(.some 109), (.pu (.n (.ar .eql)) [(.tmp 107), (.const (.int .i64 1))]), .none, []⟩, ⟨(.some 108), (.mv (.tmp 109)), .none, []⟩]) (.cond (.tmp 108) (.seq (.ops [⟨(.some 110), (.fieldA 6 (.tmp 1)), .none, []⟩, ⟨(.some 111), (.load 1 false (.tmp 110)), .none, []⟩, ⟨(.some 112), (.pu (.n (.ar .eql)) [(.tmp 111), (.const (.int .i64 0))]), .none, []⟩, ⟨(.some 113), (.mv (.tmp 112)), .none, []⟩, ⟨(.some 114), (.mv (.tmp 3)), (.some (113, true)), []⟩, ⟨(.some 115), (.pick (.tmp 113) (.tmp 114) (.const (.bool false))), .none, []⟩, ⟨(.some 2), (.mv (.tmp 115)), .none, []⟩]) .ret) (.seq (.ops [⟨(.some 117), (.pu (.n (.ar .eql)) [(.tmp 107), (.const (.int .i64 2))]), .none, []⟩, ⟨(.some 116), (.mv (.tmp 117)), .none, []⟩]) (.cond (.tmp 116) (.seq (.ops [⟨(.some 118), (.mv (.tmp 4)), .none, []⟩, ⟨(.some 119), (.pu (.n (.un .not)) [(.tmp 118)]), .none, []⟩, ⟨(.some 120), (.mv (.tmp 119)), .none, []⟩, ⟨(.some 121), (.fieldA 6 (.tmp 1)), (.some (120, true)), []⟩, ⟨(.some 122), (.load 1 false (.tmp 121)), (.some (120, true)), []⟩, ⟨(.some 123), (.call (2 * f_impl_charOK) [(.tmp 122)]), (.some (120, true)), []⟩, ⟨(.some 124), (.pick (.tmp 120) (.tmp 123) (.const (.bool false))), .none, []⟩, ⟨(.some 2), (.mv (.tmp 124)), .none, []⟩]) .ret) (.seq (.ops [⟨(.some 126), (.pu (.n (.ar .eql)) [(.tmp 107), (.const (.int .i64 3))]), .none, []⟩, ⟨(.some 125), (.mv (.tmp 126)), .none, []⟩]) (.cond (.tmp 125) (.seq (.ops [⟨(.some 127), (.mv (.tmp 4)), .none, []⟩, ⟨(.some 128), (.pu (.n (.un .not)) [(.tmp 127)]), .none, []⟩, ⟨(.some 129), (.mv (.tmp 128)), .none, []⟩, ⟨(.some 130), (.fieldA 6 (.tmp 1)), (.some (129, true)), []⟩, ⟨(.some 131), (.load 1 false (.tmp 130)), (.some (129, true)), []⟩, ⟨(.some 132), (.pu (.n (.ar .eql)) [(.tmp 131), (.const (.int .i64 0))]), (.some (129, true)), []⟩, ⟨(.some 133), (.pick (.tmp 129) (.tmp 132) (.const (.bool false))), .none, []⟩, ⟨(.some 134), (.mv (.tmp 133)), .none, []⟩, ⟨(.some 135), (.mv (.tmp 3)), (.some (134, true)), []⟩, ⟨(.some 136), (.pu (.n (.un .not)) [(.tmp 135)]), (.some (134, true)), []⟩, ⟨(.some 137), (.pick (.tmp 134) (.tmp 136) (.const (.bool false))), .none, []⟩, ⟨(.some 2), (.mv (.tmp 137)), .none, []⟩]) .ret) (.seq (.ops [⟨(.some 139), (.pu (.n (.ar .eql)) [(.tmp 107), (.const (.int .i64 4))]), .none, []⟩, ⟨(.some 138), (.mv (.tmp 139)), .none, []⟩]) (.cond (.tmp 138) (.seq (.ops [⟨(.some 140), (.mv (.tmp 4)), .none, []⟩, ⟨(.some 141), (.pu (.n (.un .not)) [(.tmp 140)]), .none, []⟩, ⟨(.some 142), (.mv (.tmp 141)), .none, []⟩, ⟨(.some 143), (.mv (.tmp 3)), (.some (142, true)), []⟩, ⟨(.some 144), (.pick (.tmp 142) (.tmp 143) (.const (.bool false))), .none, []⟩, ⟨(.some 2), (.mv (.tmp 144)), .none, []⟩]) .ret) .skip)))))))))) (.seq (.ops [⟨(.some 2), (.mv (.const (.bool false))), .none, []⟩]) .ret))))))))), [(.tmp 2)]⟩
set_option maxHeartbeats 10000000 in
theorem d_impl_opOK {P : Program} {env : Env} {f_impl_Op_stamp : Nat} {f_impl_StampOK : Nat} {f_impl_VecOK : Nat} {f_impl_StampLess : Nat} {f_impl_charOK : Nat}  (ep_impl_Op_stamp : env (2 * f_impl_Op_stamp) = pureFn true (FA fun a : TOp => p_impl_Op_stamp a)) (ep_impl_StampOK : env (2 * f_impl_StampOK) = pureFn true (FA fun a : TStamp => p_impl_StampOK a)) (ep_impl_VecOK : env (2 * f_impl_VecOK) = pureFn true (FA fun a : TVec => p_impl_VecOK a)) (ep_impl_charOK : env (2 * f_impl_charOK) = pureFn true (FA fun a : Int => p_impl_charOK a)) (ep_impl_StampLess : env (2 * f_impl_StampLess) = pureFn true (FA fun a : TStamp × TStamp => p_impl_StampLess a.1 a.2)) (x0 : TOp) {b : Bool} (hp : p_impl_opOK x0 = some b) : R P env (c_impl_opOK f_impl_Op_stamp f_impl_StampOK f_impl_VecOK f_impl_StampLess f_impl_charOK) ((encA (x0)).map ofI) [] (Tells true b) := by
  refine R_of (by simp [c_impl_opOK, encA]) ?_
  unfold c_impl_opOK
  unfold p_impl_opOK at hp
  obtain ⟨v0, hv0, hp⟩ := bind_eq hp
  obtain ⟨v1, hv1, hp⟩ := bind_eq hp
  by_cases hb2 : (v1) = true
  · rw [if_t hb2] at hp
    by_cases hb3 : (decide (x0.seq < 1)) = true
    · rw [if_t hb3] at hp
      have hp := Option.some.inj hp
      subst hp
      simp (maxSteps := 2000000) (disch := first | omega | (simp only [List.length_set, List.length_append, List.length_cons, List.length_nil, rows_len, zs]; first | done | omega)) only [ep_impl_Op_stamp, ep_impl_StampOK, ep_impl_VecOK, ep_impl_charOK, ep_impl_StampLess, hv0, hv1, hb2, hb3, gs, reduceIte, reduceCtorEq, Nat.reduceAdd, Nat.reduceMul, Nat.reduceSub, Nat.reduceBEq, Nat.reduceEqDiff, Nat.reduceLeDiff, Nat.reduceLT, Nat.reduceGT, Int.reduceToNat, Int.reduceLT, Int.reduceLE, Int.reduceNeg, Int.reduceAdd, Int.reduceEq, Int.reduceNe, idxA_ptr, idxA_ip, retV_nil, at_app, at_app_set, enc_ob, enc_on, dec_ob, dec_on, ofI_ob, cells_ob, bookC_len, ev_ptr]
    · replace hb3 := eq_false_of_ne_true hb3
      rw [if_f hb3] at hp
      by_cases hb4 : (decide (1000000000000 < x0.seq)) = true
      · rw [if_t hb4] at hp
        have hp := Option.some.inj hp
        subst hp
        simp (maxSteps := 2000000) (disch := first | omega | (simp only [List.length_set, List.length_append, List.length_cons, List.length_nil, rows_len, zs]; first | done | omega)) only [ep_impl_Op_stamp, ep_impl_StampOK, ep_impl_VecOK, ep_impl_charOK, ep_impl_StampLess, hv0, hv1, hb2, hb3, hb4, gs, reduceIte, reduceCtorEq, Nat.reduceAdd, Nat.reduceMul, Nat.reduceSub, Nat.reduceBEq, Nat.reduceEqDiff, Nat.reduceLeDiff, Nat.reduceLT, Nat.reduceGT, Int.reduceToNat, Int.reduceLT, Int.reduceLE, Int.reduceNeg, Int.reduceAdd, Int.reduceEq, Int.reduceNe, idxA_ptr, idxA_ip, retV_nil, at_app, at_app_set, enc_ob, enc_on, dec_ob, dec_on, ofI_ob, cells_ob, bookC_len, ev_ptr]
      · replace hb4 := eq_false_of_ne_true hb4
        rw [if_f hb4] at hp
        obtain ⟨v5, hv5, hp⟩ := bind_eq hp
        by_cases hb6 : (v5) = true
        · rw [if_t hb6] at hp
          obtain ⟨v7, hv7, hp⟩ := bind_eq hp
          by_cases hb8 : (decide (v7 = w64 (x0.seq - 1))) = true
          · rw [if_t hb8] at hp
            by_cases hb9 : (decide (x0.obj < 1)) = true
            · rw [if_t hb9] at hp
              have hp := Option.some.inj hp
              subst hp
              simp (maxSteps := 2000000) (disch := first | omega | (simp only [List.length_set, List.length_append, List.length_cons, List.length_nil, rows_len, zs]; first | done | omega)) only [ep_impl_Op_stamp, ep_impl_StampOK, ep_impl_VecOK, ep_impl_charOK, ep_impl_StampLess, hv0, hv1, hb2, hb3, hb4, hv5, hb6, hv7, hb8, hb9, gs, reduceIte, reduceCtorEq, Nat.reduceAdd, Nat.reduceMul, Nat.reduceSub, Nat.reduceBEq, Nat.reduceEqDiff, Nat.reduceLeDiff, Nat.reduceLT, Nat.reduceGT, Int.reduceToNat, Int.reduceLT, Int.reduceLE, Int.reduceNeg, Int.reduceAdd, Int.reduceEq, Int.reduceNe, idxA_ptr, idxA_ip, retV_nil, at_app, at_app_set, enc_ob, enc_on, dec_ob, dec_on, ofI_ob, cells_ob, bookC_len, ev_ptr]
            · replace hb9 := eq_false_of_ne_true hb9
              rw [if_f hb9] at hp
              by_cases hb10 : (decide (100 < x0.obj)) = true
              · rw [if_t hb10] at hp
                have hp := Option.some.inj hp
                subst hp
                simp (maxSteps := 2000000) (disch := first | omega | (simp only [List.length_set, List.length_append, List.length_cons, List.length_nil, rows_len, zs]; first | done | omega)) only [ep_impl_Op_stamp, ep_impl_StampOK, ep_impl_VecOK, ep_impl_charOK, ep_impl_StampLess, hv0, hv1, hb2, hb3, hb4, hv5, hb6, hv7, hb8, hb9, hb10, gs, reduceIte, reduceCtorEq, Nat.reduceAdd, Nat.reduceMul, Nat.reduceSub, Nat.reduceBEq, Nat.reduceEqDiff, Nat.reduceLeDiff, Nat.reduceLT, Nat.reduceGT, Int.reduceToNat, Int.reduceLT, Int.reduceLE, Int.reduceNeg, Int.reduceAdd, Int.reduceEq, Int.reduceNe, idxA_ptr, idxA_ip, retV_nil, at_app, at_app_set, enc_ob, enc_on, dec_ob, dec_on, ofI_ob, cells_ob, bookC_len, ev_ptr]
              · replace hb10 := eq_false_of_ne_true hb10
                rw [if_f hb10] at hp
                by_cases hb11 : (decide (x0.n < (-1000000000000))) = true
                · rw [if_t hb11] at hp
                  have hp := Option.some.inj hp
                  subst hp
                  simp (maxSteps := 2000000) (disch := first | omega | (simp only [List.length_set, List.length_append, List.length_cons, List.length_nil, rows_len, zs]; first | done | omega)) only [ep_impl_Op_stamp, ep_impl_StampOK, ep_impl_VecOK, ep_impl_charOK, ep_impl_StampLess, hv0, hv1, hb2, hb3, hb4, hv5, hb6, hv7, hb8, hb9, hb10, hb11, gs, reduceIte, reduceCtorEq, Nat.reduceAdd, Nat.reduceMul, Nat.reduceSub, Nat.reduceBEq, Nat.reduceEqDiff, Nat.reduceLeDiff, Nat.reduceLT, Nat.reduceGT, Int.reduceToNat, Int.reduceLT, Int.reduceLE, Int.reduceNeg, Int.reduceAdd, Int.reduceEq, Int.reduceNe, idxA_ptr, idxA_ip, retV_nil, at_app, at_app_set, enc_ob, enc_on, dec_ob, dec_on, ofI_ob, cells_ob, bookC_len, ev_ptr]
                · replace hb11 := eq_false_of_ne_true hb11
                  rw [if_f hb11] at hp
                  by_cases hb12 : (decide (1000000000000 < x0.n)) = true
                  · rw [if_t hb12] at hp
                    have hp := Option.some.inj hp
                    subst hp
                    simp (maxSteps := 2000000) (disch := first | omega | (simp only [List.length_set, List.length_append, List.length_cons, List.length_nil, rows_len, zs]; first | done | omega)) only [ep_impl_Op_stamp, ep_impl_StampOK, ep_impl_VecOK, ep_impl_charOK, ep_impl_StampLess, hv0, hv1, hb2, hb3, hb4, hv5, hb6, hv7, hb8, hb9, hb10, hb11, hb12, gs, reduceIte, reduceCtorEq, Nat.reduceAdd, Nat.reduceMul, Nat.reduceSub, Nat.reduceBEq, Nat.reduceEqDiff, Nat.reduceLeDiff, Nat.reduceLT, Nat.reduceGT, Int.reduceToNat, Int.reduceLT, Int.reduceLE, Int.reduceNeg, Int.reduceAdd, Int.reduceEq, Int.reduceNe, idxA_ptr, idxA_ip, retV_nil, at_app, at_app_set, enc_ob, enc_on, dec_ob, dec_on, ofI_ob, cells_ob, bookC_len, ev_ptr]
                  · replace hb12 := eq_false_of_ne_true hb12
                    rw [if_f hb12] at hp
                    by_cases hb13 : (decide (x0.undo < 0)) = true
                    · rw [if_t hb13] at hp
                      have hp := Option.some.inj hp
                      subst hp
                      simp (maxSteps := 2000000) (disch := first | omega | (simp only [List.length_set, List.length_append, List.length_cons, List.length_nil, rows_len, zs]; first | done | omega)) only [ep_impl_Op_stamp, ep_impl_StampOK, ep_impl_VecOK, ep_impl_charOK, ep_impl_StampLess, hv0, hv1, hb2, hb3, hb4, hv5, hb6, hv7, hb8, hb9, hb10, hb11, hb12, hb13, gs, reduceIte, reduceCtorEq, Nat.reduceAdd, Nat.reduceMul, Nat.reduceSub, Nat.reduceBEq, Nat.reduceEqDiff, Nat.reduceLeDiff, Nat.reduceLT, Nat.reduceGT, Int.reduceToNat, Int.reduceLT, Int.reduceLE, Int.reduceNeg, Int.reduceAdd, Int.reduceEq, Int.reduceNe, idxA_ptr, idxA_ip, retV_nil, at_app, at_app_set, enc_ob, enc_on, dec_ob, dec_on, ofI_ob, cells_ob, bookC_len, ev_ptr]
                    · replace hb13 := eq_false_of_ne_true hb13
                      rw [if_f hb13] at hp
                      by_cases hb14 : (decide (x0.seq ≤ x0.undo)) = true
                      · rw [if_t hb14] at hp
                        have hp := Option.some.inj hp
                        subst hp
                        simp (maxSteps := 2000000) (disch := first | omega | (simp only [List.length_set, List.length_append, List.length_cons, List.length_nil, rows_len, zs]; first | done | omega)) only [ep_impl_Op_stamp, ep_impl_StampOK, ep_impl_VecOK, ep_impl_charOK, ep_impl_StampLess, hv0, hv1, hb2, hb3, hb4, hv5, hb6, hv7, hb8, hb9, hb10, hb11, hb12, hb13, hb14, gs, reduceIte, reduceCtorEq, Nat.reduceAdd, Nat.reduceMul, Nat.reduceSub, Nat.reduceBEq, Nat.reduceEqDiff, Nat.reduceLeDiff, Nat.reduceLT, Nat.reduceGT, Int.reduceToNat, Int.reduceLT, Int.reduceLE, Int.reduceNeg, Int.reduceAdd, Int.reduceEq, Int.reduceNe, idxA_ptr, idxA_ip, retV_nil, at_app, at_app_set, enc_ob, enc_on, dec_ob, dec_on, ofI_ob, cells_ob, bookC_len, ev_ptr]
                      · replace hb14 := eq_false_of_ne_true hb14
                        rw [if_f hb14] at hp
                        by_cases hb15 : (decide (200 < (x0.key.size : Int))) = true
                        · rw [if_t hb15] at hp
                          have hp := Option.some.inj hp
                          subst hp
                          simp (maxSteps := 2000000) (disch := first | omega | (simp only [List.length_set, List.length_append, List.length_cons, List.length_nil, rows_len, zs]; first | done | omega)) only [ep_impl_Op_stamp, ep_impl_StampOK, ep_impl_VecOK, ep_impl_charOK, ep_impl_StampLess, hv0, hv1, hb2, hb3, hb4, hv5, hb6, hv7, hb8, hb9, hb10, hb11, hb12, hb13, hb14, hb15, gs, reduceIte, reduceCtorEq, Nat.reduceAdd, Nat.reduceMul, Nat.reduceSub, Nat.reduceBEq, Nat.reduceEqDiff, Nat.reduceLeDiff, Nat.reduceLT, Nat.reduceGT, Int.reduceToNat, Int.reduceLT, Int.reduceLE, Int.reduceNeg, Int.reduceAdd, Int.reduceEq, Int.reduceNe, idxA_ptr, idxA_ip, retV_nil, at_app, at_app_set, enc_ob, enc_on, dec_ob, dec_on, ofI_ob, cells_ob, bookC_len, ev_ptr]
                        · replace hb15 := eq_false_of_ne_true hb15
                          rw [if_f hb15] at hp
                          by_cases hb16 : (decide (200 < (x0.text.size : Int))) = true
                          · rw [if_t hb16] at hp
                            have hp := Option.some.inj hp
                            subst hp
                            simp (maxSteps := 2000000) (disch := first | omega | (simp only [List.length_set, List.length_append, List.length_cons, List.length_nil, rows_len, zs]; first | done | omega)) only [ep_impl_Op_stamp, ep_impl_StampOK, ep_impl_VecOK, ep_impl_charOK, ep_impl_StampLess, hv0, hv1, hb2, hb3, hb4, hv5, hb6, hv7, hb8, hb9, hb10, hb11, hb12, hb13, hb14, hb15, hb16, gs, reduceIte, reduceCtorEq, Nat.reduceAdd, Nat.reduceMul, Nat.reduceSub, Nat.reduceBEq, Nat.reduceEqDiff, Nat.reduceLeDiff, Nat.reduceLT, Nat.reduceGT, Int.reduceToNat, Int.reduceLT, Int.reduceLE, Int.reduceNeg, Int.reduceAdd, Int.reduceEq, Int.reduceNe, idxA_ptr, idxA_ip, retV_nil, at_app, at_app_set, enc_ob, enc_on, dec_ob, dec_on, ofI_ob, cells_ob, bookC_len, ev_ptr]
                          · replace hb16 := eq_false_of_ne_true hb16
                            rw [if_f hb16] at hp
                            by_cases hb17 : ((decide (x0.at_.time = 0) && decide (x0.at_.actor = 0))) = true
                            · rw [if_t hb17] at hp
                              by_cases hb18 : (decide (x0.key = (ByteArray.mk #[]))) = true
                              · rw [if_t hb18] at hp
                                by_cases hb19 : (decide (x0.kind = 1)) = true
                                · rw [if_t hb19] at hp
                                  by_cases hb20 : (decide (x0.n = 0)) = true
                                  · rw [if_t hb20] at hp
                                    have hp := Option.some.inj hp
                                    subst hp
                                    simp (maxSteps := 2000000) (disch := first | omega | (simp only [List.length_set, List.length_append, List.length_cons, List.length_nil, rows_len, zs]; first | done | omega)) only [ep_impl_Op_stamp, ep_impl_StampOK, ep_impl_VecOK, ep_impl_charOK, ep_impl_StampLess, hv0, hv1, hb2, hb3, hb4, hv5, hb6, hv7, hb8, hb9, hb10, hb11, hb12, hb13, hb14, hb15, hb16, hb17, hb18, hb19, hb20, gs, reduceIte, reduceCtorEq, Nat.reduceAdd, Nat.reduceMul, Nat.reduceSub, Nat.reduceBEq, Nat.reduceEqDiff, Nat.reduceLeDiff, Nat.reduceLT, Nat.reduceGT, Int.reduceToNat, Int.reduceLT, Int.reduceLE, Int.reduceNeg, Int.reduceAdd, Int.reduceEq, Int.reduceNe, idxA_ptr, idxA_ip, retV_nil, at_app, at_app_set, enc_ob, enc_on, dec_ob, dec_on, ofI_ob, cells_ob, bookC_len, ev_ptr]
                                  · replace hb20 := eq_false_of_ne_true hb20
                                    rw [if_f hb20] at hp
                                    have hp := Option.some.inj hp
                                    subst hp
                                    simp (maxSteps := 2000000) (disch := first | omega | (simp only [List.length_set, List.length_append, List.length_cons, List.length_nil, rows_len, zs]; first | done | omega)) only [ep_impl_Op_stamp, ep_impl_StampOK, ep_impl_VecOK, ep_impl_charOK, ep_impl_StampLess, hv0, hv1, hb2, hb3, hb4, hv5, hb6, hv7, hb8, hb9, hb10, hb11, hb12, hb13, hb14, hb15, hb16, hb17, hb18, hb19, hb20, gs, reduceIte, reduceCtorEq, Nat.reduceAdd, Nat.reduceMul, Nat.reduceSub, Nat.reduceBEq, Nat.reduceEqDiff, Nat.reduceLeDiff, Nat.reduceLT, Nat.reduceGT, Int.reduceToNat, Int.reduceLT, Int.reduceLE, Int.reduceNeg, Int.reduceAdd, Int.reduceEq, Int.reduceNe, idxA_ptr, idxA_ip, retV_nil, at_app, at_app_set, enc_ob, enc_on, dec_ob, dec_on, ofI_ob, cells_ob, bookC_len, ev_ptr]
                                · replace hb19 := eq_false_of_ne_true hb19
                                  rw [if_f hb19] at hp
                                  by_cases hb21 : (decide (x0.kind = 2)) = true
                                  · rw [if_t hb21] at hp
                                    by_cases hb22 : (decide (x0.text = (ByteArray.mk #[]))) = true
                                    · rw [if_t hb22] at hp
                                      obtain ⟨v23, hv23, hp⟩ := bind_eq hp
                                      have hp := Option.some.inj hp
                                      subst hp
                                      simp (maxSteps := 2000000) (disch := first | omega | (simp only [List.length_set, List.length_append, List.length_cons, List.length_nil, rows_len, zs]; first | done | omega)) only [ep_impl_Op_stamp, ep_impl_StampOK, ep_impl_VecOK, ep_impl_charOK, ep_impl_StampLess, hv0, hv1, hb2, hb3, hb4, hv5, hb6, hv7, hb8, hb9, hb10, hb11, hb12, hb13, hb14, hb15, hb16, hb17, hb18, hb19, hb21, hb22, hv23, gs, reduceIte, reduceCtorEq, Nat.reduceAdd, Nat.reduceMul, Nat.reduceSub, Nat.reduceBEq, Nat.reduceEqDiff, Nat.reduceLeDiff, Nat.reduceLT, Nat.reduceGT, Int.reduceToNat, Int.reduceLT, Int.reduceLE, Int.reduceNeg, Int.reduceAdd, Int.reduceEq, Int.reduceNe, idxA_ptr, idxA_ip, retV_nil, at_app, at_app_set, enc_ob, enc_on, dec_ob, dec_on, ofI_ob, cells_ob, bookC_len, ev_ptr]
                                    · replace hb22 := eq_false_of_ne_true hb22
                                      rw [if_f hb22] at hp
                                      have hp := Option.some.inj hp
                                      subst hp
                                      simp (maxSteps := 2000000) (disch := first | omega | (simp only [List.length_set, List.length_append, List.length_cons, List.length_nil, rows_len, zs]; first | done | omega)) only [ep_impl_Op_stamp, ep_impl_StampOK, ep_impl_VecOK, ep_impl_charOK, ep_impl_StampLess, hv0, hv1, hb2, hb3, hb4, hv5, hb6, hv7, hb8, hb9, hb10, hb11, hb12, hb13, hb14, hb15, hb16, hb17, hb18, hb19, hb21, hb22, gs, reduceIte, reduceCtorEq, Nat.reduceAdd, Nat.reduceMul, Nat.reduceSub, Nat.reduceBEq, Nat.reduceEqDiff, Nat.reduceLeDiff, Nat.reduceLT, Nat.reduceGT, Int.reduceToNat, Int.reduceLT, Int.reduceLE, Int.reduceNeg, Int.reduceAdd, Int.reduceEq, Int.reduceNe, idxA_ptr, idxA_ip, retV_nil, at_app, at_app_set, enc_ob, enc_on, dec_ob, dec_on, ofI_ob, cells_ob, bookC_len, ev_ptr]
                                  · replace hb21 := eq_false_of_ne_true hb21
                                    rw [if_f hb21] at hp
                                    by_cases hb24 : (decide (x0.kind = 3)) = true
                                    · rw [if_t hb24] at hp
                                      by_cases hb25 : (decide (x0.text = (ByteArray.mk #[]))) = true
                                      · rw [if_t hb25] at hp
                                        by_cases hb26 : (decide (x0.n = 0)) = true
                                        · rw [if_t hb26] at hp
                                          have hp := Option.some.inj hp
                                          subst hp
                                          simp (maxSteps := 2000000) (disch := first | omega | (simp only [List.length_set, List.length_append, List.length_cons, List.length_nil, rows_len, zs]; first | done | omega)) only [ep_impl_Op_stamp, ep_impl_StampOK, ep_impl_VecOK, ep_impl_charOK, ep_impl_StampLess, hv0, hv1, hb2, hb3, hb4, hv5, hb6, hv7, hb8, hb9, hb10, hb11, hb12, hb13, hb14, hb15, hb16, hb17, hb18, hb19, hb21, hb24, hb25, hb26, gs, reduceIte, reduceCtorEq, Nat.reduceAdd, Nat.reduceMul, Nat.reduceSub, Nat.reduceBEq, Nat.reduceEqDiff, Nat.reduceLeDiff, Nat.reduceLT, Nat.reduceGT, Int.reduceToNat, Int.reduceLT, Int.reduceLE, Int.reduceNeg, Int.reduceAdd, Int.reduceEq, Int.reduceNe, idxA_ptr, idxA_ip, retV_nil, at_app, at_app_set, enc_ob, enc_on, dec_ob, dec_on, ofI_ob, cells_ob, bookC_len, ev_ptr]
                                        · replace hb26 := eq_false_of_ne_true hb26
                                          rw [if_f hb26] at hp
                                          have hp := Option.some.inj hp
                                          subst hp
                                          simp (maxSteps := 2000000) (disch := first | omega | (simp only [List.length_set, List.length_append, List.length_cons, List.length_nil, rows_len, zs]; first | done | omega)) only [ep_impl_Op_stamp, ep_impl_StampOK, ep_impl_VecOK, ep_impl_charOK, ep_impl_StampLess, hv0, hv1, hb2, hb3, hb4, hv5, hb6, hv7, hb8, hb9, hb10, hb11, hb12, hb13, hb14, hb15, hb16, hb17, hb18, hb19, hb21, hb24, hb25, hb26, gs, reduceIte, reduceCtorEq, Nat.reduceAdd, Nat.reduceMul, Nat.reduceSub, Nat.reduceBEq, Nat.reduceEqDiff, Nat.reduceLeDiff, Nat.reduceLT, Nat.reduceGT, Int.reduceToNat, Int.reduceLT, Int.reduceLE, Int.reduceNeg, Int.reduceAdd, Int.reduceEq, Int.reduceNe, idxA_ptr, idxA_ip, retV_nil, at_app, at_app_set, enc_ob, enc_on, dec_ob, dec_on, ofI_ob, cells_ob, bookC_len, ev_ptr]
                                      · replace hb25 := eq_false_of_ne_true hb25
                                        rw [if_f hb25] at hp
                                        have hp := Option.some.inj hp
                                        subst hp
                                        simp (maxSteps := 2000000) (disch := first | omega | (simp only [List.length_set, List.length_append, List.length_cons, List.length_nil, rows_len, zs]; first | done | omega)) only [ep_impl_Op_stamp, ep_impl_StampOK, ep_impl_VecOK, ep_impl_charOK, ep_impl_StampLess, hv0, hv1, hb2, hb3, hb4, hv5, hb6, hv7, hb8, hb9, hb10, hb11, hb12, hb13, hb14, hb15, hb16, hb17, hb18, hb19, hb21, hb24, hb25, gs, reduceIte, reduceCtorEq, Nat.reduceAdd, Nat.reduceMul, Nat.reduceSub, Nat.reduceBEq, Nat.reduceEqDiff, Nat.reduceLeDiff, Nat.reduceLT, Nat.reduceGT, Int.reduceToNat, Int.reduceLT, Int.reduceLE, Int.reduceNeg, Int.reduceAdd, Int.reduceEq, Int.reduceNe, idxA_ptr, idxA_ip, retV_nil, at_app, at_app_set, enc_ob, enc_on, dec_ob, dec_on, ofI_ob, cells_ob, bookC_len, ev_ptr]
                                    · replace hb24 := eq_false_of_ne_true hb24
                                      rw [if_f hb24] at hp
                                      by_cases hb27 : (decide (x0.kind = 4)) = true
                                      · rw [if_t hb27] at hp
                                        by_cases hb28 : (decide (x0.text = (ByteArray.mk #[]))) = true
                                        · rw [if_t hb28] at hp
                                          have hp := Option.some.inj hp
                                          subst hp
                                          simp (maxSteps := 2000000) (disch := first | omega | (simp only [List.length_set, List.length_append, List.length_cons, List.length_nil, rows_len, zs]; first | done | omega)) only [ep_impl_Op_stamp, ep_impl_StampOK, ep_impl_VecOK, ep_impl_charOK, ep_impl_StampLess, hv0, hv1, hb2, hb3, hb4, hv5, hb6, hv7, hb8, hb9, hb10, hb11, hb12, hb13, hb14, hb15, hb16, hb17, hb18, hb19, hb21, hb24, hb27, hb28, gs, reduceIte, reduceCtorEq, Nat.reduceAdd, Nat.reduceMul, Nat.reduceSub, Nat.reduceBEq, Nat.reduceEqDiff, Nat.reduceLeDiff, Nat.reduceLT, Nat.reduceGT, Int.reduceToNat, Int.reduceLT, Int.reduceLE, Int.reduceNeg, Int.reduceAdd, Int.reduceEq, Int.reduceNe, idxA_ptr, idxA_ip, retV_nil, at_app, at_app_set, enc_ob, enc_on, dec_ob, dec_on, ofI_ob, cells_ob, bookC_len, ev_ptr]
                                        · replace hb28 := eq_false_of_ne_true hb28
                                          rw [if_f hb28] at hp
                                          have hp := Option.some.inj hp
                                          subst hp
                                          simp (maxSteps := 2000000) (disch := first | omega | (simp only [List.length_set, List.length_append, List.length_cons, List.length_nil, rows_len, zs]; first | done | omega)) only [ep_impl_Op_stamp, ep_impl_StampOK, ep_impl_VecOK, ep_impl_charOK, ep_impl_StampLess, hv0, hv1, hb2, hb3, hb4, hv5, hb6, hv7, hb8, hb9, hb10, hb11, hb12, hb13, hb14, hb15, hb16, hb17, hb18, hb19, hb21, hb24, hb27, hb28, gs, reduceIte, reduceCtorEq, Nat.reduceAdd, Nat.reduceMul, Nat.reduceSub, Nat.reduceBEq, Nat.reduceEqDiff, Nat.reduceLeDiff, Nat.reduceLT, Nat.reduceGT, Int.reduceToNat, Int.reduceLT, Int.reduceLE, Int.reduceNeg, Int.reduceAdd, Int.reduceEq, Int.reduceNe, idxA_ptr, idxA_ip, retV_nil, at_app, at_app_set, enc_ob, enc_on, dec_ob, dec_on, ofI_ob, cells_ob, bookC_len, ev_ptr]
                                      · replace hb27 := eq_false_of_ne_true hb27
                                        rw [if_f hb27] at hp
                                        have hp := Option.some.inj hp
                                        subst hp
                                        simp (maxSteps := 2000000) (disch := first | omega | (simp only [List.length_set, List.length_append, List.length_cons, List.length_nil, rows_len, zs]; first | done | omega)) only [ep_impl_Op_stamp, ep_impl_StampOK, ep_impl_VecOK, ep_impl_charOK, ep_impl_StampLess, hv0, hv1, hb2, hb3, hb4, hv5, hb6, hv7, hb8, hb9, hb10, hb11, hb12, hb13, hb14, hb15, hb16, hb17, hb18, hb19, hb21, hb24, hb27, gs, reduceIte, reduceCtorEq, Nat.reduceAdd, Nat.reduceMul, Nat.reduceSub, Nat.reduceBEq, Nat.reduceEqDiff, Nat.reduceLeDiff, Nat.reduceLT, Nat.reduceGT, Int.reduceToNat, Int.reduceLT, Int.reduceLE, Int.reduceNeg, Int.reduceAdd, Int.reduceEq, Int.reduceNe, idxA_ptr, idxA_ip, retV_nil, at_app, at_app_set, enc_ob, enc_on, dec_ob, dec_on, ofI_ob, cells_ob, bookC_len, ev_ptr]
                              · replace hb18 := eq_false_of_ne_true hb18
                                rw [if_f hb18] at hp
                                by_cases hb29 : (decide (x0.kind = 1)) = true
                                · rw [if_t hb29] at hp
                                  by_cases hb30 : (decide (x0.n = 0)) = true
                                  · rw [if_t hb30] at hp
                                    have hp := Option.some.inj hp
                                    subst hp
                                    simp (maxSteps := 2000000) (disch := first | omega | (simp only [List.length_set, List.length_append, List.length_cons, List.length_nil, rows_len, zs]; first | done | omega)) only [ep_impl_Op_stamp, ep_impl_StampOK, ep_impl_VecOK, ep_impl_charOK, ep_impl_StampLess, hv0, hv1, hb2, hb3, hb4, hv5, hb6, hv7, hb8, hb9, hb10, hb11, hb12, hb13, hb14, hb15, hb16, hb17, hb18, hb29, hb30, gs, reduceIte, reduceCtorEq, Nat.reduceAdd, Nat.reduceMul, Nat.reduceSub, Nat.reduceBEq, Nat.reduceEqDiff, Nat.reduceLeDiff, Nat.reduceLT, Nat.reduceGT, Int.reduceToNat, Int.reduceLT, Int.reduceLE, Int.reduceNeg, Int.reduceAdd, Int.reduceEq, Int.reduceNe, idxA_ptr, idxA_ip, retV_nil, at_app, at_app_set, enc_ob, enc_on, dec_ob, dec_on, ofI_ob, cells_ob, bookC_len, ev_ptr]
                                  · replace hb30 := eq_false_of_ne_true hb30
                                    rw [if_f hb30] at hp
                                    have hp := Option.some.inj hp
                                    subst hp
                                    simp (maxSteps := 2000000) (disch := first | omega | (simp only [List.length_set, List.length_append, List.length_cons, List.length_nil, rows_len, zs]; first | done | omega)) only [ep_impl_Op_stamp, ep_impl_StampOK, ep_impl_VecOK, ep_impl_charOK, ep_impl_StampLess, hv0, hv1, hb2, hb3, hb4, hv5, hb6, hv7, hb8, hb9, hb10, hb11, hb12, hb13, hb14, hb15, hb16, hb17, hb18, hb29, hb30, gs, reduceIte, reduceCtorEq, Nat.reduceAdd, Nat.reduceMul, Nat.reduceSub, Nat.reduceBEq, Nat.reduceEqDiff, Nat.reduceLeDiff, Nat.reduceLT, Nat.reduceGT, Int.reduceToNat, Int.reduceLT, Int.reduceLE, Int.reduceNeg, Int.reduceAdd, Int.reduceEq, Int.reduceNe, idxA_ptr, idxA_ip, retV_nil, at_app, at_app_set, enc_ob, enc_on, dec_ob, dec_on, ofI_ob, cells_ob, bookC_len, ev_ptr]
                                · replace hb29 := eq_false_of_ne_true hb29
                                  rw [if_f hb29] at hp
                                  by_cases hb31 : (decide (x0.kind = 2)) = true
                                  · rw [if_t hb31] at hp
                                    have hp := Option.some.inj hp
                                    subst hp
                                    simp (maxSteps := 2000000) (disch := first | omega | (simp only [List.length_set, List.length_append, List.length_cons, List.length_nil, rows_len, zs]; first | done | omega)) only [ep_impl_Op_stamp, ep_impl_StampOK, ep_impl_VecOK, ep_impl_charOK, ep_impl_StampLess, hv0, hv1, hb2, hb3, hb4, hv5, hb6, hv7, hb8, hb9, hb10, hb11, hb12, hb13, hb14, hb15, hb16, hb17, hb18, hb29, hb31, gs, reduceIte, reduceCtorEq, Nat.reduceAdd, Nat.reduceMul, Nat.reduceSub, Nat.reduceBEq, Nat.reduceEqDiff, Nat.reduceLeDiff, Nat.reduceLT, Nat.reduceGT, Int.reduceToNat, Int.reduceLT, Int.reduceLE, Int.reduceNeg, Int.reduceAdd, Int.reduceEq, Int.reduceNe, idxA_ptr, idxA_ip, retV_nil, at_app, at_app_set, enc_ob, enc_on, dec_ob, dec_on, ofI_ob, cells_ob, bookC_len, ev_ptr]
                                  · replace hb31 := eq_false_of_ne_true hb31
                                    rw [if_f hb31] at hp
                                    by_cases hb32 : (decide (x0.kind = 3)) = true
                                    · rw [if_t hb32] at hp
                                      have hp := Option.some.inj hp
                                      subst hp
                                      simp (maxSteps := 2000000) (disch := first | omega | (simp only [List.length_set, List.length_append, List.length_cons, List.length_nil, rows_len, zs]; first | done | omega)) only [ep_impl_Op_stamp, ep_impl_StampOK, ep_impl_VecOK, ep_impl_charOK, ep_impl_StampLess, hv0, hv1, hb2, hb3, hb4, hv5, hb6, hv7, hb8, hb9, hb10, hb11, hb12, hb13, hb14, hb15, hb16, hb17, hb18, hb29, hb31, hb32, gs, reduceIte, reduceCtorEq, Nat.reduceAdd, Nat.reduceMul, Nat.reduceSub, Nat.reduceBEq, Nat.reduceEqDiff, Nat.reduceLeDiff, Nat.reduceLT, Nat.reduceGT, Int.reduceToNat, Int.reduceLT, Int.reduceLE, Int.reduceNeg, Int.reduceAdd, Int.reduceEq, Int.reduceNe, idxA_ptr, idxA_ip, retV_nil, at_app, at_app_set, enc_ob, enc_on, dec_ob, dec_on, ofI_ob, cells_ob, bookC_len, ev_ptr]
                                    · replace hb32 := eq_false_of_ne_true hb32
                                      rw [if_f hb32] at hp
                                      by_cases hb33 : (decide (x0.kind = 4)) = true
                                      · rw [if_t hb33] at hp
                                        have hp := Option.some.inj hp
                                        subst hp
                                        simp (maxSteps := 2000000) (disch := first | omega | (simp only [List.length_set, List.length_append, List.length_cons, List.length_nil, rows_len, zs]; first | done | omega)) only [ep_impl_Op_stamp, ep_impl_StampOK, ep_impl_VecOK, ep_impl_charOK, ep_impl_StampLess, hv0, hv1, hb2, hb3, hb4, hv5, hb6, hv7, hb8, hb9, hb10, hb11, hb12, hb13, hb14, hb15, hb16, hb17, hb18, hb29, hb31, hb32, hb33, gs, reduceIte, reduceCtorEq, Nat.reduceAdd, Nat.reduceMul, Nat.reduceSub, Nat.reduceBEq, Nat.reduceEqDiff, Nat.reduceLeDiff, Nat.reduceLT, Nat.reduceGT, Int.reduceToNat, Int.reduceLT, Int.reduceLE, Int.reduceNeg, Int.reduceAdd, Int.reduceEq, Int.reduceNe, idxA_ptr, idxA_ip, retV_nil, at_app, at_app_set, enc_ob, enc_on, dec_ob, dec_on, ofI_ob, cells_ob, bookC_len, ev_ptr]
                                      · replace hb33 := eq_false_of_ne_true hb33
                                        rw [if_f hb33] at hp
                                        have hp := Option.some.inj hp
                                        subst hp
                                        simp (maxSteps := 2000000) (disch := first | omega | (simp only [List.length_set, List.length_append, List.length_cons, List.length_nil, rows_len, zs]; first | done | omega)) only [ep_impl_Op_stamp, ep_impl_StampOK, ep_impl_VecOK, ep_impl_charOK, ep_impl_StampLess, hv0, hv1, hb2, hb3, hb4, hv5, hb6, hv7, hb8, hb9, hb10, hb11, hb12, hb13, hb14, hb15, hb16, hb17, hb18, hb29, hb31, hb32, hb33, gs, reduceIte, reduceCtorEq, Nat.reduceAdd, Nat.reduceMul, Nat.reduceSub, Nat.reduceBEq, Nat.reduceEqDiff, Nat.reduceLeDiff, Nat.reduceLT, Nat.reduceGT, Int.reduceToNat, Int.reduceLT, Int.reduceLE, Int.reduceNeg, Int.reduceAdd, Int.reduceEq, Int.reduceNe, idxA_ptr, idxA_ip, retV_nil, at_app, at_app_set, enc_ob, enc_on, dec_ob, dec_on, ofI_ob, cells_ob, bookC_len, ev_ptr]
                            · replace hb17 := eq_false_of_ne_true hb17
                              rw [if_f hb17] at hp
                              obtain ⟨v34, hv34, hp⟩ := bind_eq hp
                              by_cases hb35 : (v34) = true
                              · rw [if_t hb35] at hp
                                obtain ⟨v36, hv36, hp⟩ := bind_eq hp
                                by_cases hb37 : (v36) = true
                                · rw [if_t hb37] at hp
                                  by_cases hb38 : (decide (x0.key = (ByteArray.mk #[]))) = true
                                  · rw [if_t hb38] at hp
                                    by_cases hb39 : (decide (x0.kind = 1)) = true
                                    · rw [if_t hb39] at hp
                                      by_cases hb40 : (decide (x0.n = 0)) = true
                                      · rw [if_t hb40] at hp
                                        have hp := Option.some.inj hp
                                        subst hp
                                        simp (maxSteps := 2000000) (disch := first | omega | (simp only [List.length_set, List.length_append, List.length_cons, List.length_nil, rows_len, zs]; first | done | omega)) only [ep_impl_Op_stamp, ep_impl_StampOK, ep_impl_VecOK, ep_impl_charOK, ep_impl_StampLess, hv0, hv1, hb2, hb3, hb4, hv5, hb6, hv7, hb8, hb9, hb10, hb11, hb12, hb13, hb14, hb15, hb16, hb17, hv34, hb35, hv36, hb37, hb38, hb39, hb40, gs, reduceIte, reduceCtorEq, Nat.reduceAdd, Nat.reduceMul, Nat.reduceSub, Nat.reduceBEq, Nat.reduceEqDiff, Nat.reduceLeDiff, Nat.reduceLT, Nat.reduceGT, Int.reduceToNat, Int.reduceLT, Int.reduceLE, Int.reduceNeg, Int.reduceAdd, Int.reduceEq, Int.reduceNe, idxA_ptr, idxA_ip, retV_nil, at_app, at_app_set, enc_ob, enc_on, dec_ob, dec_on, ofI_ob, cells_ob, bookC_len, ev_ptr]
                                      · replace hb40 := eq_false_of_ne_true hb40
                                        rw [if_f hb40] at hp
                                        have hp := Option.some.inj hp
                                        subst hp
                                        simp (maxSteps := 2000000) (disch := first | omega | (simp only [List.length_set, List.length_append, List.length_cons, List.length_nil, rows_len, zs]; first | done | omega)) only [ep_impl_Op_stamp, ep_impl_StampOK, ep_impl_VecOK, ep_impl_charOK, ep_impl_StampLess, hv0, hv1, hb2, hb3, hb4, hv5, hb6, hv7, hb8, hb9, hb10, hb11, hb12, hb13, hb14, hb15, hb16, hb17, hv34, hb35, hv36, hb37, hb38, hb39, hb40, gs, reduceIte, reduceCtorEq, Nat.reduceAdd, Nat.reduceMul, Nat.reduceSub, Nat.reduceBEq, Nat.reduceEqDiff, Nat.reduceLeDiff, Nat.reduceLT, Nat.reduceGT, Int.reduceToNat, Int.reduceLT, Int.reduceLE, Int.reduceNeg, Int.reduceAdd, Int.reduceEq, Int.reduceNe, idxA_ptr, idxA_ip, retV_nil, at_app, at_app_set, enc_ob, enc_on, dec_ob, dec_on, ofI_ob, cells_ob, bookC_len, ev_ptr]
                                    · replace hb39 := eq_false_of_ne_true hb39
                                      rw [if_f hb39] at hp
                                      by_cases hb41 : (decide (x0.kind = 2)) = true
                                      · rw [if_t hb41] at hp
                                        by_cases hb42 : (decide (x0.text = (ByteArray.mk #[]))) = true
                                        · rw [if_t hb42] at hp
                                          obtain ⟨v43, hv43, hp⟩ := bind_eq hp
                                          have hp := Option.some.inj hp
                                          subst hp
                                          simp (maxSteps := 2000000) (disch := first | omega | (simp only [List.length_set, List.length_append, List.length_cons, List.length_nil, rows_len, zs]; first | done | omega)) only [ep_impl_Op_stamp, ep_impl_StampOK, ep_impl_VecOK, ep_impl_charOK, ep_impl_StampLess, hv0, hv1, hb2, hb3, hb4, hv5, hb6, hv7, hb8, hb9, hb10, hb11, hb12, hb13, hb14, hb15, hb16, hb17, hv34, hb35, hv36, hb37, hb38, hb39, hb41, hb42, hv43, gs, reduceIte, reduceCtorEq, Nat.reduceAdd, Nat.reduceMul, Nat.reduceSub, Nat.reduceBEq, Nat.reduceEqDiff, Nat.reduceLeDiff, Nat.reduceLT, Nat.reduceGT, Int.reduceToNat, Int.reduceLT, Int.reduceLE, Int.reduceNeg, Int.reduceAdd, Int.reduceEq, Int.reduceNe, idxA_ptr, idxA_ip, retV_nil, at_app, at_app_set, enc_ob, enc_on, dec_ob, dec_on, ofI_ob, cells_ob, bookC_len, ev_ptr]
                                        · replace hb42 := eq_false_of_ne_true hb42
                                          rw [if_f hb42] at hp
                                          have hp := Option.some.inj hp
                                          subst hp
                                          simp (maxSteps := 2000000) (disch := first | omega | (simp only [List.length_set, List.length_append, List.length_cons, List.length_nil, rows_len, zs]; first | done | omega)) only [ep_impl_Op_stamp, ep_impl_StampOK, ep_impl_VecOK, ep_impl_charOK, ep_impl_StampLess, hv0, hv1, hb2, hb3, hb4, hv5, hb6, hv7, hb8, hb9, hb10, hb11, hb12, hb13, hb14, hb15, hb16, hb17, hv34, hb35, hv36, hb37, hb38, hb39, hb41, hb42, gs, reduceIte, reduceCtorEq, Nat.reduceAdd, Nat.reduceMul, Nat.reduceSub, Nat.reduceBEq, Nat.reduceEqDiff, Nat.reduceLeDiff, Nat.reduceLT, Nat.reduceGT, Int.reduceToNat, Int.reduceLT, Int.reduceLE, Int.reduceNeg, Int.reduceAdd, Int.reduceEq, Int.reduceNe, idxA_ptr, idxA_ip, retV_nil, at_app, at_app_set, enc_ob, enc_on, dec_ob, dec_on, ofI_ob, cells_ob, bookC_len, ev_ptr]
                                      · replace hb41 := eq_false_of_ne_true hb41
                                        rw [if_f hb41] at hp
                                        by_cases hb44 : (decide (x0.kind = 3)) = true
                                        · rw [if_t hb44] at hp
                                          by_cases hb45 : (decide (x0.text = (ByteArray.mk #[]))) = true
                                          · rw [if_t hb45] at hp
                                            by_cases hb46 : (decide (x0.n = 0)) = true
                                            · rw [if_t hb46] at hp
                                              have hp := Option.some.inj hp
                                              subst hp
                                              simp (maxSteps := 2000000) (disch := first | omega | (simp only [List.length_set, List.length_append, List.length_cons, List.length_nil, rows_len, zs]; first | done | omega)) only [ep_impl_Op_stamp, ep_impl_StampOK, ep_impl_VecOK, ep_impl_charOK, ep_impl_StampLess, hv0, hv1, hb2, hb3, hb4, hv5, hb6, hv7, hb8, hb9, hb10, hb11, hb12, hb13, hb14, hb15, hb16, hb17, hv34, hb35, hv36, hb37, hb38, hb39, hb41, hb44, hb45, hb46, gs, reduceIte, reduceCtorEq, Nat.reduceAdd, Nat.reduceMul, Nat.reduceSub, Nat.reduceBEq, Nat.reduceEqDiff, Nat.reduceLeDiff, Nat.reduceLT, Nat.reduceGT, Int.reduceToNat, Int.reduceLT, Int.reduceLE, Int.reduceNeg, Int.reduceAdd, Int.reduceEq, Int.reduceNe, idxA_ptr, idxA_ip, retV_nil, at_app, at_app_set, enc_ob, enc_on, dec_ob, dec_on, ofI_ob, cells_ob, bookC_len, ev_ptr]
                                            · replace hb46 := eq_false_of_ne_true hb46
                                              rw [if_f hb46] at hp
                                              have hp := Option.some.inj hp
                                              subst hp
                                              simp (maxSteps := 2000000) (disch := first | omega | (simp only [List.length_set, List.length_append, List.length_cons, List.length_nil, rows_len, zs]; first | done | omega)) only [ep_impl_Op_stamp, ep_impl_StampOK, ep_impl_VecOK, ep_impl_charOK, ep_impl_StampLess, hv0, hv1, hb2, hb3, hb4, hv5, hb6, hv7, hb8, hb9, hb10, hb11, hb12, hb13, hb14, hb15, hb16, hb17, hv34, hb35, hv36, hb37, hb38, hb39, hb41, hb44, hb45, hb46, gs, reduceIte, reduceCtorEq, Nat.reduceAdd, Nat.reduceMul, Nat.reduceSub, Nat.reduceBEq, Nat.reduceEqDiff, Nat.reduceLeDiff, Nat.reduceLT, Nat.reduceGT, Int.reduceToNat, Int.reduceLT, Int.reduceLE, Int.reduceNeg, Int.reduceAdd, Int.reduceEq, Int.reduceNe, idxA_ptr, idxA_ip, retV_nil, at_app, at_app_set, enc_ob, enc_on, dec_ob, dec_on, ofI_ob, cells_ob, bookC_len, ev_ptr]
                                          · replace hb45 := eq_false_of_ne_true hb45
                                            rw [if_f hb45] at hp
                                            have hp := Option.some.inj hp
                                            subst hp
                                            simp (maxSteps := 2000000) (disch := first | omega | (simp only [List.length_set, List.length_append, List.length_cons, List.length_nil, rows_len, zs]; first | done | omega)) only [ep_impl_Op_stamp, ep_impl_StampOK, ep_impl_VecOK, ep_impl_charOK, ep_impl_StampLess, hv0, hv1, hb2, hb3, hb4, hv5, hb6, hv7, hb8, hb9, hb10, hb11, hb12, hb13, hb14, hb15, hb16, hb17, hv34, hb35, hv36, hb37, hb38, hb39, hb41, hb44, hb45, gs, reduceIte, reduceCtorEq, Nat.reduceAdd, Nat.reduceMul, Nat.reduceSub, Nat.reduceBEq, Nat.reduceEqDiff, Nat.reduceLeDiff, Nat.reduceLT, Nat.reduceGT, Int.reduceToNat, Int.reduceLT, Int.reduceLE, Int.reduceNeg, Int.reduceAdd, Int.reduceEq, Int.reduceNe, idxA_ptr, idxA_ip, retV_nil, at_app, at_app_set, enc_ob, enc_on, dec_ob, dec_on, ofI_ob, cells_ob, bookC_len, ev_ptr]
                                        · replace hb44 := eq_false_of_ne_true hb44
                                          rw [if_f hb44] at hp
                                          by_cases hb47 : (decide (x0.kind = 4)) = true
                                          · rw [if_t hb47] at hp
                                            by_cases hb48 : (decide (x0.text = (ByteArray.mk #[]))) = true
                                            · rw [if_t hb48] at hp
                                              have hp := Option.some.inj hp
                                              subst hp
                                              simp (maxSteps := 2000000) (disch := first | omega | (simp only [List.length_set, List.length_append, List.length_cons, List.length_nil, rows_len, zs]; first | done | omega)) only [ep_impl_Op_stamp, ep_impl_StampOK, ep_impl_VecOK, ep_impl_charOK, ep_impl_StampLess, hv0, hv1, hb2, hb3, hb4, hv5, hb6, hv7, hb8, hb9, hb10, hb11, hb12, hb13, hb14, hb15, hb16, hb17, hv34, hb35, hv36, hb37, hb38, hb39, hb41, hb44, hb47, hb48, gs, reduceIte, reduceCtorEq, Nat.reduceAdd, Nat.reduceMul, Nat.reduceSub, Nat.reduceBEq, Nat.reduceEqDiff, Nat.reduceLeDiff, Nat.reduceLT, Nat.reduceGT, Int.reduceToNat, Int.reduceLT, Int.reduceLE, Int.reduceNeg, Int.reduceAdd, Int.reduceEq, Int.reduceNe, idxA_ptr, idxA_ip, retV_nil, at_app, at_app_set, enc_ob, enc_on, dec_ob, dec_on, ofI_ob, cells_ob, bookC_len, ev_ptr]
                                            · replace hb48 := eq_false_of_ne_true hb48
                                              rw [if_f hb48] at hp
                                              have hp := Option.some.inj hp
                                              subst hp
                                              simp (maxSteps := 2000000) (disch := first | omega | (simp only [List.length_set, List.length_append, List.length_cons, List.length_nil, rows_len, zs]; first | done | omega)) only [ep_impl_Op_stamp, ep_impl_StampOK, ep_impl_VecOK, ep_impl_charOK, ep_impl_StampLess, hv0, hv1, hb2, hb3, hb4, hv5, hb6, hv7, hb8, hb9, hb10, hb11, hb12, hb13, hb14, hb15, hb16, hb17, hv34, hb35, hv36, hb37, hb38, hb39, hb41, hb44, hb47, hb48, gs, reduceIte, reduceCtorEq, Nat.reduceAdd, Nat.reduceMul, Nat.reduceSub, Nat.reduceBEq, Nat.reduceEqDiff, Nat.reduceLeDiff, Nat.reduceLT, Nat.reduceGT, Int.reduceToNat, Int.reduceLT, Int.reduceLE, Int.reduceNeg, Int.reduceAdd, Int.reduceEq, Int.reduceNe, idxA_ptr, idxA_ip, retV_nil, at_app, at_app_set, enc_ob, enc_on, dec_ob, dec_on, ofI_ob, cells_ob, bookC_len, ev_ptr]
                                          · replace hb47 := eq_false_of_ne_true hb47
                                            rw [if_f hb47] at hp
                                            have hp := Option.some.inj hp
                                            subst hp
                                            simp (maxSteps := 2000000) (disch := first | omega | (simp only [List.length_set, List.length_append, List.length_cons, List.length_nil, rows_len, zs]; first | done | omega)) only [ep_impl_Op_stamp, ep_impl_StampOK, ep_impl_VecOK, ep_impl_charOK, ep_impl_StampLess, hv0, hv1, hb2, hb3, hb4, hv5, hb6, hv7, hb8, hb9, hb10, hb11, hb12, hb13, hb14, hb15, hb16, hb17, hv34, hb35, hv36, hb37, hb38, hb39, hb41, hb44, hb47, gs, reduceIte, reduceCtorEq, Nat.reduceAdd, Nat.reduceMul, Nat.reduceSub, Nat.reduceBEq, Nat.reduceEqDiff, Nat.reduceLeDiff, Nat.reduceLT, Nat.reduceGT, Int.reduceToNat, Int.reduceLT, Int.reduceLE, Int.reduceNeg, Int.reduceAdd, Int.reduceEq, Int.reduceNe, idxA_ptr, idxA_ip, retV_nil, at_app, at_app_set, enc_ob, enc_on, dec_ob, dec_on, ofI_ob, cells_ob, bookC_len, ev_ptr]
                                  · replace hb38 := eq_false_of_ne_true hb38
                                    rw [if_f hb38] at hp
                                    by_cases hb49 : (decide (x0.kind = 1)) = true
                                    · rw [if_t hb49] at hp
                                      by_cases hb50 : (decide (x0.n = 0)) = true
                                      · rw [if_t hb50] at hp
                                        have hp := Option.some.inj hp
                                        subst hp
                                        simp (maxSteps := 2000000) (disch := first | omega | (simp only [List.length_set, List.length_append, List.length_cons, List.length_nil, rows_len, zs]; first | done | omega)) only [ep_impl_Op_stamp, ep_impl_StampOK, ep_impl_VecOK, ep_impl_charOK, ep_impl_StampLess, hv0, hv1, hb2, hb3, hb4, hv5, hb6, hv7, hb8, hb9, hb10, hb11, hb12, hb13, hb14, hb15, hb16, hb17, hv34, hb35, hv36, hb37, hb38, hb49, hb50, gs, reduceIte, reduceCtorEq, Nat.reduceAdd, Nat.reduceMul, Nat.reduceSub, Nat.reduceBEq, Nat.reduceEqDiff, Nat.reduceLeDiff, Nat.reduceLT, Nat.reduceGT, Int.reduceToNat, Int.reduceLT, Int.reduceLE, Int.reduceNeg, Int.reduceAdd, Int.reduceEq, Int.reduceNe, idxA_ptr, idxA_ip, retV_nil, at_app, at_app_set, enc_ob, enc_on, dec_ob, dec_on, ofI_ob, cells_ob, bookC_len, ev_ptr]
                                      · replace hb50 := eq_false_of_ne_true hb50
                                        rw [if_f hb50] at hp
                                        have hp := Option.some.inj hp
                                        subst hp
                                        simp (maxSteps := 2000000) (disch := first | omega | (simp only [List.length_set, List.length_append, List.length_cons, List.length_nil, rows_len, zs]; first | done | omega)) only [ep_impl_Op_stamp, ep_impl_StampOK, ep_impl_VecOK, ep_impl_charOK, ep_impl_StampLess, hv0, hv1, hb2, hb3, hb4, hv5, hb6, hv7, hb8, hb9, hb10, hb11, hb12, hb13, hb14, hb15, hb16, hb17, hv34, hb35, hv36, hb37, hb38, hb49, hb50, gs, reduceIte, reduceCtorEq, Nat.reduceAdd, Nat.reduceMul, Nat.reduceSub, Nat.reduceBEq, Nat.reduceEqDiff, Nat.reduceLeDiff, Nat.reduceLT, Nat.reduceGT, Int.reduceToNat, Int.reduceLT, Int.reduceLE, Int.reduceNeg, Int.reduceAdd, Int.reduceEq, Int.reduceNe, idxA_ptr, idxA_ip, retV_nil, at_app, at_app_set, enc_ob, enc_on, dec_ob, dec_on, ofI_ob, cells_ob, bookC_len, ev_ptr]
                                    · replace hb49 := eq_false_of_ne_true hb49
                                      rw [if_f hb49] at hp
                                      by_cases hb51 : (decide (x0.kind = 2)) = true
                                      · rw [if_t hb51] at hp
                                        have hp := Option.some.inj hp
                                        subst hp
                                        simp (maxSteps := 2000000) (disch := first | omega | (simp only [List.length_set, List.length_append, List.length_cons, List.length_nil, rows_len, zs]; first | done | omega)) only [ep_impl_Op_stamp, ep_impl_StampOK, ep_impl_VecOK, ep_impl_charOK, ep_impl_StampLess, hv0, hv1, hb2, hb3, hb4, hv5, hb6, hv7, hb8, hb9, hb10, hb11, hb12, hb13, hb14, hb15, hb16, hb17, hv34, hb35, hv36, hb37, hb38, hb49, hb51, gs, reduceIte, reduceCtorEq, Nat.reduceAdd, Nat.reduceMul, Nat.reduceSub, Nat.reduceBEq, Nat.reduceEqDiff, Nat.reduceLeDiff, Nat.reduceLT, Nat.reduceGT, Int.reduceToNat, Int.reduceLT, Int.reduceLE, Int.reduceNeg, Int.reduceAdd, Int.reduceEq, Int.reduceNe, idxA_ptr, idxA_ip, retV_nil, at_app, at_app_set, enc_ob, enc_on, dec_ob, dec_on, ofI_ob, cells_ob, bookC_len, ev_ptr]
                                      · replace hb51 := eq_false_of_ne_true hb51
                                        rw [if_f hb51] at hp
                                        by_cases hb52 : (decide (x0.kind = 3)) = true
                                        · rw [if_t hb52] at hp
                                          have hp := Option.some.inj hp
                                          subst hp
                                          simp (maxSteps := 2000000) (disch := first | omega | (simp only [List.length_set, List.length_append, List.length_cons, List.length_nil, rows_len, zs]; first | done | omega)) only [ep_impl_Op_stamp, ep_impl_StampOK, ep_impl_VecOK, ep_impl_charOK, ep_impl_StampLess, hv0, hv1, hb2, hb3, hb4, hv5, hb6, hv7, hb8, hb9, hb10, hb11, hb12, hb13, hb14, hb15, hb16, hb17, hv34, hb35, hv36, hb37, hb38, hb49, hb51, hb52, gs, reduceIte, reduceCtorEq, Nat.reduceAdd, Nat.reduceMul, Nat.reduceSub, Nat.reduceBEq, Nat.reduceEqDiff, Nat.reduceLeDiff, Nat.reduceLT, Nat.reduceGT, Int.reduceToNat, Int.reduceLT, Int.reduceLE, Int.reduceNeg, Int.reduceAdd, Int.reduceEq, Int.reduceNe, idxA_ptr, idxA_ip, retV_nil, at_app, at_app_set, enc_ob, enc_on, dec_ob, dec_on, ofI_ob, cells_ob, bookC_len, ev_ptr]
                                        · replace hb52 := eq_false_of_ne_true hb52
                                          rw [if_f hb52] at hp
                                          by_cases hb53 : (decide (x0.kind = 4)) = true
                                          · rw [if_t hb53] at hp
                                            have hp := Option.some.inj hp
                                            subst hp
                                            simp (maxSteps := 2000000) (disch := first | omega | (simp only [List.length_set, List.length_append, List.length_cons, List.length_nil, rows_len, zs]; first | done | omega)) only [ep_impl_Op_stamp, ep_impl_StampOK, ep_impl_VecOK, ep_impl_charOK, ep_impl_StampLess, hv0, hv1, hb2, hb3, hb4, hv5, hb6, hv7, hb8, hb9, hb10, hb11, hb12, hb13, hb14, hb15, hb16, hb17, hv34, hb35, hv36, hb37, hb38, hb49, hb51, hb52, hb53, gs, reduceIte, reduceCtorEq, Nat.reduceAdd, Nat.reduceMul, Nat.reduceSub, Nat.reduceBEq, Nat.reduceEqDiff, Nat.reduceLeDiff, Nat.reduceLT, Nat.reduceGT, Int.reduceToNat, Int.reduceLT, Int.reduceLE, Int.reduceNeg, Int.reduceAdd, Int.reduceEq, Int.reduceNe, idxA_ptr, idxA_ip, retV_nil, at_app, at_app_set, enc_ob, enc_on, dec_ob, dec_on, ofI_ob, cells_ob, bookC_len, ev_ptr]
                                          · replace hb53 := eq_false_of_ne_true hb53
                                            rw [if_f hb53] at hp
                                            have hp := Option.some.inj hp
                                            subst hp
                                            simp (maxSteps := 2000000) (disch := first | omega | (simp only [List.length_set, List.length_append, List.length_cons, List.length_nil, rows_len, zs]; first | done | omega)) only [ep_impl_Op_stamp, ep_impl_StampOK, ep_impl_VecOK, ep_impl_charOK, ep_impl_StampLess, hv0, hv1, hb2, hb3, hb4, hv5, hb6, hv7, hb8, hb9, hb10, hb11, hb12, hb13, hb14, hb15, hb16, hb17, hv34, hb35, hv36, hb37, hb38, hb49, hb51, hb52, hb53, gs, reduceIte, reduceCtorEq, Nat.reduceAdd, Nat.reduceMul, Nat.reduceSub, Nat.reduceBEq, Nat.reduceEqDiff, Nat.reduceLeDiff, Nat.reduceLT, Nat.reduceGT, Int.reduceToNat, Int.reduceLT, Int.reduceLE, Int.reduceNeg, Int.reduceAdd, Int.reduceEq, Int.reduceNe, idxA_ptr, idxA_ip, retV_nil, at_app, at_app_set, enc_ob, enc_on, dec_ob, dec_on, ofI_ob, cells_ob, bookC_len, ev_ptr]
                                · replace hb37 := eq_false_of_ne_true hb37
                                  rw [if_f hb37] at hp
                                  have hp := Option.some.inj hp
                                  subst hp
                                  simp (maxSteps := 2000000) (disch := first | omega | (simp only [List.length_set, List.length_append, List.length_cons, List.length_nil, rows_len, zs]; first | done | omega)) only [ep_impl_Op_stamp, ep_impl_StampOK, ep_impl_VecOK, ep_impl_charOK, ep_impl_StampLess, hv0, hv1, hb2, hb3, hb4, hv5, hb6, hv7, hb8, hb9, hb10, hb11, hb12, hb13, hb14, hb15, hb16, hb17, hv34, hb35, hv36, hb37, gs, reduceIte, reduceCtorEq, Nat.reduceAdd, Nat.reduceMul, Nat.reduceSub, Nat.reduceBEq, Nat.reduceEqDiff, Nat.reduceLeDiff, Nat.reduceLT, Nat.reduceGT, Int.reduceToNat, Int.reduceLT, Int.reduceLE, Int.reduceNeg, Int.reduceAdd, Int.reduceEq, Int.reduceNe, idxA_ptr, idxA_ip, retV_nil, at_app, at_app_set, enc_ob, enc_on, dec_ob, dec_on, ofI_ob, cells_ob, bookC_len, ev_ptr]
                              · replace hb35 := eq_false_of_ne_true hb35
                                rw [if_f hb35] at hp
                                have hp := Option.some.inj hp
                                subst hp
                                simp (maxSteps := 2000000) (disch := first | omega | (simp only [List.length_set, List.length_append, List.length_cons, List.length_nil, rows_len, zs]; first | done | omega)) only [ep_impl_Op_stamp, ep_impl_StampOK, ep_impl_VecOK, ep_impl_charOK, ep_impl_StampLess, hv0, hv1, hb2, hb3, hb4, hv5, hb6, hv7, hb8, hb9, hb10, hb11, hb12, hb13, hb14, hb15, hb16, hb17, hv34, hb35, gs, reduceIte, reduceCtorEq, Nat.reduceAdd, Nat.reduceMul, Nat.reduceSub, Nat.reduceBEq, Nat.reduceEqDiff, Nat.reduceLeDiff, Nat.reduceLT, Nat.reduceGT, Int.reduceToNat, Int.reduceLT, Int.reduceLE, Int.reduceNeg, Int.reduceAdd, Int.reduceEq, Int.reduceNe, idxA_ptr, idxA_ip, retV_nil, at_app, at_app_set, enc_ob, enc_on, dec_ob, dec_on, ofI_ob, cells_ob, bookC_len, ev_ptr]
          · replace hb8 := eq_false_of_ne_true hb8
            rw [if_f hb8] at hp
            have hp := Option.some.inj hp
            subst hp
            simp (maxSteps := 2000000) (disch := first | omega | (simp only [List.length_set, List.length_append, List.length_cons, List.length_nil, rows_len, zs]; first | done | omega)) only [ep_impl_Op_stamp, ep_impl_StampOK, ep_impl_VecOK, ep_impl_charOK, ep_impl_StampLess, hv0, hv1, hb2, hb3, hb4, hv5, hb6, hv7, hb8, gs, reduceIte, reduceCtorEq, Nat.reduceAdd, Nat.reduceMul, Nat.reduceSub, Nat.reduceBEq, Nat.reduceEqDiff, Nat.reduceLeDiff, Nat.reduceLT, Nat.reduceGT, Int.reduceToNat, Int.reduceLT, Int.reduceLE, Int.reduceNeg, Int.reduceAdd, Int.reduceEq, Int.reduceNe, idxA_ptr, idxA_ip, retV_nil, at_app, at_app_set, enc_ob, enc_on, dec_ob, dec_on, ofI_ob, cells_ob, bookC_len, ev_ptr]
        · replace hb6 := eq_false_of_ne_true hb6
          rw [if_f hb6] at hp
          have hp := Option.some.inj hp
          subst hp
          simp (maxSteps := 2000000) (disch := first | omega | (simp only [List.length_set, List.length_append, List.length_cons, List.length_nil, rows_len, zs]; first | done | omega)) only [ep_impl_Op_stamp, ep_impl_StampOK, ep_impl_VecOK, ep_impl_charOK, ep_impl_StampLess, hv0, hv1, hb2, hb3, hb4, hv5, hb6, gs, reduceIte, reduceCtorEq, Nat.reduceAdd, Nat.reduceMul, Nat.reduceSub, Nat.reduceBEq, Nat.reduceEqDiff, Nat.reduceLeDiff, Nat.reduceLT, Nat.reduceGT, Int.reduceToNat, Int.reduceLT, Int.reduceLE, Int.reduceNeg, Int.reduceAdd, Int.reduceEq, Int.reduceNe, idxA_ptr, idxA_ip, retV_nil, at_app, at_app_set, enc_ob, enc_on, dec_ob, dec_on, ofI_ob, cells_ob, bookC_len, ev_ptr]
  · replace hb2 := eq_false_of_ne_true hb2
    rw [if_f hb2] at hp
    have hp := Option.some.inj hp
    subst hp
    simp (maxSteps := 2000000) (disch := first | omega | (simp only [List.length_set, List.length_append, List.length_cons, List.length_nil, rows_len, zs]; first | done | omega)) only [ep_impl_Op_stamp, ep_impl_StampOK, ep_impl_VecOK, ep_impl_charOK, ep_impl_StampLess, hv0, hv1, hb2, gs, reduceIte, reduceCtorEq, Nat.reduceAdd, Nat.reduceMul, Nat.reduceSub, Nat.reduceBEq, Nat.reduceEqDiff, Nat.reduceLeDiff, Nat.reduceLT, Nat.reduceGT, Int.reduceToNat, Int.reduceLT, Int.reduceLE, Int.reduceNeg, Int.reduceAdd, Int.reduceEq, Int.reduceNe, idxA_ptr, idxA_ip, retV_nil, at_app, at_app_set, enc_ob, enc_on, dec_ob, dec_on, ofI_ob, cells_ob, bookC_len, ev_ptr]

noncomputable def p_impl_Op_thing (x0 : TOp) : Option Int :=
  if (decide (x0.kind = 3)) = true then
    some 2
  else
    some x0.kind
def c_impl_Op_thing : AFn := ⟨8, (.seq (.ops [⟨(.some 1), (.box (.tmp 0)), .none, []⟩, ⟨(.some 2), (.mv (.const (.int .i64 0))), .none, []⟩]) (.seq (.seq (.ops [⟨(.some 3), (.fieldA 4 (.tmp 1)), .none, []⟩, ⟨(.some 4), (.load 1 false (.tmp 3)), .none, []⟩, ⟨(.some 5), (.pu (.n (.ar .eql)) [(.tmp 4), (.const (.int .i64 3))]), .none, []⟩]) (.cond (.tmp 5) (.seq (.ops [⟨(.some 2), (.mv (.const (.int .i64 2))), .none, []⟩]) .ret) .skip)) (.seq (.ops [⟨(.some 6), (.fieldA 4 (.tmp 1)), .none, []⟩, ⟨(.some 7), (.load 1 false (.tmp 6)), .none, []⟩, ⟨(.some 2), (.mv (.tmp 7)), .none, []⟩]) .ret))), [(.tmp 2)]⟩
set_option maxHeartbeats 10000000 in
theorem d_impl_Op_thing {P : Program} {env : Env}  (x0 : TOp) {b : Int} (hp : p_impl_Op_thing x0 = some b) : R P env (c_impl_Op_thing) ((encA (x0)).map ofI) [] (Tells true b) := by
  refine R_of (by simp [c_impl_Op_thing, encA]) ?_
  unfold c_impl_Op_thing
  unfold p_impl_Op_thing at hp
  by_cases hb0 : (decide (x0.kind = 3)) = true
  · rw [if_t hb0] at hp
    have hp := Option.some.inj hp
    subst hp
    simp (maxSteps := 2000000) (disch := first | omega | (simp only [List.length_set, List.length_append, List.length_cons, List.length_nil, rows_len, zs]; first | done | omega)) only [hb0, gs, reduceIte, reduceCtorEq, Nat.reduceAdd, Nat.reduceMul, Nat.reduceSub, Nat.reduceBEq, Nat.reduceEqDiff, Nat.reduceLeDiff, Nat.reduceLT, Nat.reduceGT, Int.reduceToNat, Int.reduceLT, Int.reduceLE, Int.reduceNeg, Int.reduceAdd, Int.reduceEq, Int.reduceNe, idxA_ptr, idxA_ip, retV_nil, at_app, at_app_set, enc_ob, enc_on, dec_ob, dec_on, ofI_ob, cells_ob, bookC_len, ev_ptr]
  · replace hb0 := eq_false_of_ne_true hb0
    rw [if_f hb0] at hp
    have hp := Option.some.inj hp
    subst hp
    simp (maxSteps := 2000000) (disch := first | omega | (simp only [List.length_set, List.length_append, List.length_cons, List.length_nil, rows_len, zs]; first | done | omega)) only [hb0, gs, reduceIte, reduceCtorEq, Nat.reduceAdd, Nat.reduceMul, Nat.reduceSub, Nat.reduceBEq, Nat.reduceEqDiff, Nat.reduceLeDiff, Nat.reduceLT, Nat.reduceGT, Int.reduceToNat, Int.reduceLT, Int.reduceLE, Int.reduceNeg, Int.reduceAdd, Int.reduceEq, Int.reduceNe, idxA_ptr, idxA_ip, retV_nil, at_app, at_app_set, enc_ob, enc_on, dec_ob, dec_on, ofI_ob, cells_ob, bookC_len, ev_ptr]

section
open NestC (kid rowN)
noncomputable def p_impl_book_put (x0 : TBook) (x1 : TOp) : Option TBook :=
  (get? x0.of_ x1.actor).bind fun v0 =>
  (app? 128 v0 [x1]).bind fun v1 =>
  (p_impl_Op_thing x1).bind fun v2 =>
  (get? x0.kind x1.obj).bind fun _ =>
  (p_impl_Op_stamp x1).bind fun v4 =>
  (p_impl_StampLess x0.top v4).bind fun v5 =>
  if v5 = true then some ((((x0.setOf x1.actor.toNat v1).setKind x1.obj.toNat v2).setSize (w64 (x0.size + 1))).setTop v4)
  else some (((x0.setOf x1.actor.toNat v1).setKind x1.obj.toNat v2).setSize (w64 (x0.size + 1)))
def c_impl_book_put (f_impl_Op_thing : Nat) (f_impl_Op_stamp : Nat) (f_impl_StampLess : Nat) : AFn := ⟨47, (.seq (.ops [⟨(.some 3), (.box (.tmp 1)), .none, []⟩]) (.seq (.ops [⟨(.some 4), (.mv (.tmp 0)), .none, []⟩, ⟨(.some 5), (.fieldA 0 (.tmp 3)), .none, []⟩, ⟨(.some 6), (.load 1 false (.tmp 5)), .none, []⟩, ⟨(.some 7), (.mv (.tmp 0)), .none, []⟩, ⟨(.some 8), (.fieldA 0 (.tmp 3)), .none, []⟩, ⟨(.some 9), (.load 1 false (.tmp 8)), .none, []⟩, ⟨(.some 10), (.nilChk (.tmp 7)), .none, []⟩, ⟨(.some 11), (.fieldA 0 (.tmp 10)), .none, []⟩, ⟨(.some 12), (.idxA 16 1 (.tmp 11) (.tmp 9)), .none, []⟩, ⟨(.some 13), (.load 1 false (.tmp 12)), .none, []⟩, ⟨(.some 14), (.load 12 true (.tmp 3)), .none, []⟩, ⟨(.some 15), (.buildSl 12 true 1 [(.int .i64 0), (.int .i64 0), (.int .i64 0), (.slice .none 0 0), (.int .i64 0), (.int .i64 0), (.int .i64 0), (.int .i64 0), (.int .i64 0), (.int .i64 0), (.string ⟨#[]⟩), (.string ⟨#[]⟩)] [(0, (.tmp 14))]), .none, []⟩, ⟨(.some 16), (.append 12 true 128 (.tmp 13) (.tmp 15)), .none, [(.tmp 5)]⟩, ⟨(.some 17), (.nilChk (.tmp 4)), .none, []⟩, ⟨(.some 18), (.fieldA 0 (.tmp 17)), .none, []⟩, ⟨(.some 19), (.idxA 16 1 (.tmp 18) (.tmp 6)), .none, []⟩, ⟨.none, (.store 1 (.tmp 19) (.tmp 16)), .none, []⟩]) (.seq (.ops [⟨(.some 20), (.mv (.tmp 0)), .none, []⟩, ⟨(.some 21), (.fieldA 5 (.tmp 3)), .none, []⟩, ⟨(.some 22), (.load 1 false (.tmp 21)), .none, []⟩, ⟨(.some 23), (.load 12 true (.tmp 3)), .none, []⟩, ⟨(.some 24), (.call (2 * f_impl_Op_thing) [(.tmp 23)]), .none, []⟩, ⟨(.some 25), (.nilChk (.tmp 20)), .none, []⟩, ⟨(.some 26), (.fieldA 16 (.tmp 25)), .none, []⟩, ⟨(.some 27), (.idxA 101 1 (.tmp 26) (.tmp 22)), .none, []⟩, ⟨.none, (.store 1 (.tmp 27) (.tmp 24)), .none, []⟩]) (.seq (.ops [⟨(.some 28), (.mv (.tmp 0)), .none, []⟩, ⟨(.some 29), (.nilChk (.tmp 28)), .none, []⟩, ⟨(.some 30), (.fieldA 117 (.tmp 29)), .none, []⟩, ⟨(.some 31), (.load 1 false (.tmp 30)), .none, []⟩, ⟨(.some 32), (.pu (.n (.ar .add)) [(.tmp 31), (.const (.int .i64 1))]), .none, []⟩, ⟨(.some 33), (.nilChk (.tmp 28)), .none, []⟩, ⟨(.some 34), (.fieldA 117 (.tmp 33)), .none, []⟩, ⟨.none, (.storeV [(0, false)] 1 (.tmp 34) (.tmp 32)), .none, []⟩]) (.seq (.ops [⟨(.some 35), (.mv (.tmp 0)), .none, []⟩, ⟨(.some 36), (.nilChk (.tmp 35)), .none, []⟩, ⟨(.some 37), (.fieldA 118 (.tmp 36)), .none, []⟩, ⟨(.some 38), (.load 2 true (.tmp 37)), .none, []⟩, ⟨(.some 39), (.load 12 true (.tmp 3)), .none, []⟩, ⟨(.some 40), (.call (2 * f_impl_Op_stamp) [(.tmp 39)]), .none, []⟩, ⟨(.some 41), (.call (2 * f_impl_StampLess) [(.tmp 38), (.tmp 40)]), .none, []⟩]) (.cond (.tmp 41) (.ops [⟨(.some 42), (.mv (.tmp 0)), .none, []⟩, ⟨(.some 43), (.load 12 true (.tmp 3)), .none, []⟩, ⟨(.some 44), (.call (2 * f_impl_Op_stamp) [(.tmp 43)]), .none, []⟩, ⟨(.some 45), (.nilChk (.tmp 42)), .none, []⟩, ⟨(.some 46), (.fieldA 118 (.tmp 45)), .none, []⟩, ⟨.none, (.storeV [(0, false), (0, false)] 2 (.tmp 46) (.tmp 44)), .none, []⟩]) .skip)))))), []⟩
def i_impl_book_put (pb : Nat) (h : Heap) (b : TBook) (v : V) (h2 : Heap) : Prop := h.length ≤ h2.length ∧ v = .tup [] ∧ BookAt h2 pb b
def k_impl_book_put (F : Fun) : Prop := ∀ (x0 : TBook) (x1 : TOp) (b : TBook), p_impl_book_put x0 x1 = some b → ∀ (pb : Nat) (h : Heap), BookAt h pb x0 → ∃ p, F none [.ptr pb 120 0, .agg [.i (.s (.int .i64 x1.actor)), .i (.s (.int .i64 x1.seq)), .i (.s (.int .i64 x1.time)), .i (.sl 1 (x1.deps.counts.map enc)), .i (.s (.int .i64 x1.kind)), .i (.s (.int .i64 x1.obj)), .i (.s (.int .i64 x1.n)), .i (.s (.int .i64 x1.undo)), .i (.s (.int .i64 x1.at_.time)), .i (.s (.int .i64 x1.at_.actor)), .i (.s (.string x1.key)), .i (.s (.string x1.text))]] h = some p ∧ i_impl_book_put pb h b p.1 p.2
set_option maxHeartbeats 10000000 in
theorem w_impl_book_put {P : Program} {env : Env} {f_impl_Op_thing f_impl_Op_stamp f_impl_StampLess : Nat} (ep_impl_Op_thing : env (2 * f_impl_Op_thing) = pureFn true (FA fun a : TOp => p_impl_Op_thing a)) (ep_impl_Op_stamp : env (2 * f_impl_Op_stamp) = pureFn true (FA fun a : TOp => p_impl_Op_stamp a)) (ep_impl_StampLess : env (2 * f_impl_StampLess) = pureFn true (FA fun a : TStamp × TStamp => p_impl_StampLess a.1 a.2))
    (x0 : TBook) (x1 : TOp) {b : TBook} (hp : p_impl_book_put x0 x1 = some b) (pb : Nat) (hh : Heap) (pf0 : BookAt hh pb x0) : R P env (c_impl_book_put f_impl_Op_thing f_impl_Op_stamp f_impl_StampLess) [.ptr pb 120 0, .agg [.i (.s (.int .i64 x1.actor)), .i (.s (.int .i64 x1.seq)), .i (.s (.int .i64 x1.time)), .i (.sl 1 (x1.deps.counts.map enc)), .i (.s (.int .i64 x1.kind)), .i (.s (.int .i64 x1.obj)), .i (.s (.int .i64 x1.n)), .i (.s (.int .i64 x1.undo)), .i (.s (.int .i64 x1.at_.time)), .i (.s (.int .i64 x1.at_.actor)), .i (.s (.string x1.key)), .i (.s (.string x1.text))]] hh (i_impl_book_put pb hh b) := by
  refine R_of (by simp [c_impl_book_put]) ?_
  unfold c_impl_book_put
  unfold p_impl_book_put at hp
  obtain ⟨vs, hv⟩ := pf0
  obtain ⟨v0, hv0, hp⟩ := bind_eq hp
  obtain ⟨v1, hv1, hp⟩ := bind_eq hp
  obtain ⟨v2, hv2, hp⟩ := bind_eq hp
  obtain ⟨v3, hv3, hp⟩ := bind_eq hp
  obtain ⟨v4, hv4, hp⟩ := bind_eq hp
  obtain ⟨v5, hv5, hp⟩ := bind_eq hp
  have g0 := get_some hv0
  have g3 := get_some hv3
  have ha1 : x1.actor < 16 := by have := g0.2.1; rw [x0.h1] at this; exact this
  have ho1 : x1.obj < 101 := by have := g3.2.1; rw [x0.h2] at this; exact this
  have ha0 := g0.1
  have ho0 := g3.1
  obtain ⟨u, hu⟩ : ∃ u, vs[x1.actor.toNat]? = some u := ⟨_, List.getElem?_eq_getElem (by rw [hv.len]; omega)⟩
  obtain ⟨k1, q1, l1⟩ := app_some hv1
  have hown := hv.own _ _ _ hu g0.2.2
  have hpl := gc_lt hv.row
  have hrow := hv.row
  have hl120 := getCells_len hrow
  have e1 := ld_of (R := BR x0) hu
  have e2 : ∀ u', List.take x1.actor.toNat (vs ++ BR x0) ++ u' :: List.drop (x1.actor.toNat + 1) (vs ++ BR x0) = vs.set x1.actor.toNat u' ++ BR (x0.setOf x1.actor.toNat v1) := fun u' => st_of (by rw [hv.len]; omega)
  have hvl : ∀ u', (vs.set x1.actor.toNat u').length = 16 := fun u' => by rw [List.length_set]; exact hv.len
  have e3 : ∀ u', List.take (16 + x1.obj.toNat) (vs.set x1.actor.toNat u' ++ BR (x0.setOf x1.actor.toNat v1)) ++ .i (.s (.int .i64 v2)) :: List.drop (16 + x1.obj.toNat + 1) (vs.set x1.actor.toNat u' ++ BR (x0.setOf x1.actor.toNat v1)) = vs.set x1.actor.toNat u' ++ BR ((x0.setOf x1.actor.toNat v1).setKind x1.obj.toNat v2) := fun u' => st_kind (hvl u') (by omega)
  have e4 : ∀ u', List.take 1 (List.drop 117 (vs.set x1.actor.toNat u' ++ BR ((x0.setOf x1.actor.toNat v1).setKind x1.obj.toNat v2))) = [.i (.s (.int .i64 x0.size))] := fun u' => ld_size (hvl u')
  have e5 : ∀ u', List.take 117 (vs.set x1.actor.toNat u' ++ BR ((x0.setOf x1.actor.toNat v1).setKind x1.obj.toNat v2)) ++ .i (.s (.int .i64 (w64 (x0.size + 1)))) :: List.drop 118 (vs.set x1.actor.toNat u' ++ BR ((x0.setOf x1.actor.toNat v1).setKind x1.obj.toNat v2)) = vs.set x1.actor.toNat u' ++ BR (((x0.setOf x1.actor.toNat v1).setKind x1.obj.toNat v2).setSize (w64 (x0.size + 1))) := fun u' => st_size (hvl u')
  have e6 : ∀ u', List.take 2 (List.drop 118 (vs.set x1.actor.toNat u' ++ BR (((x0.setOf x1.actor.toNat v1).setKind x1.obj.toNat v2).setSize (w64 (x0.size + 1))))) = [.i (.s (.int .i64 x0.top.time)), .i (.s (.int .i64 x0.top.actor))] := fun u' => ld_top (hvl u')
  have e7 : ∀ u', List.take 118 (vs.set x1.actor.toNat u' ++ BR (((x0.setOf x1.actor.toNat v1).setKind x1.obj.toNat v2).setSize (w64 (x0.size + 1)))) ++ .i (.s (.int .i64 v4.time)) :: .i (.s (.int .i64 v4.actor)) :: List.drop 120 (vs.set x1.actor.toNat u' ++ BR (((x0.setOf x1.actor.toNat v1).setKind x1.obj.toNat v2).setSize (w64 (x0.size + 1)))) = vs.set x1.actor.toNat u' ++ BR ((((x0.setOf x1.actor.toNat v1).setKind x1.obj.toNat v2).setSize (w64 (x0.size + 1))).setTop v4) := fun u' => st_top (hvl u')
  have hl2 : ∀ u' k, (vs.set x1.actor.toNat u' ++ BR k).length = 120 := fun u' k => by rw [List.length_append, hvl, BR_len]
  rcases hown with ⟨rfl, rfl⟩ | ⟨c, rfl, hc⟩
  · have k2 : 1 * 128 ≤ 140737488355328 := by omega
    have q2 : v1 = [x1] := q1
    cases v5 <;> (have hp := Option.some.inj hp; subst hp)
    all_goals
      simp (maxSteps := 2000000) (disch := first | omega | (simp only [List.length_set, List.length_append, List.length_cons, List.length_nil, rows_len, zs]; first | done | omega)) only [idxA_ptr, retV_nil, at_app, at_app_set, ep_impl_Op_thing, ep_impl_Op_stamp, ep_impl_StampLess, hv2, hv4, hv5, hrow, hpl, hl120, hl2, e1, e2, e3, e4, e5, e6, e7, ha0, ha1, ho0, ho1, k2, gs, reduceIte, reduceCtorEq, Nat.reduceAdd, Nat.reduceMul, Nat.reduceSub, Nat.reduceBEq, Nat.reduceEqDiff, Nat.reduceLeDiff, Nat.reduceLT, Nat.reduceGT, Int.reduceToNat, Int.reduceLT, Int.reduceLE, Int.reduceNeg, Int.reduceAdd, Int.reduceEq, Int.reduceNe, idxA_ptr, idxA_ip, retV_nil, at_app, at_app_set, enc_ob, enc_on, dec_ob, dec_on, ofI_ob, cells_ob, bookC_len, ev_ptr]
      simp only [List.set_set]
      refine ⟨by simp, rfl, _, book_put (h := hh) (c' := hh.length + 2) hv hu g0.2.2 rfl (fun c h1 h2 h3 => by rw [List.getElem?_append_left (by simpa using h1), List.getElem?_set_ne (Ne.symm h2)]) ?_ (by rw [q2]) ?_ (.inl (by omega))⟩
      · rw [getCells_congr (List.getElem?_append_left (by simpa using hpl))]
        exact set_cells hrow (hl2 _ _)
      · unfold getCells
        rw [q2, List.getElem?_append_right (by simp), List.length_set, Nat.add_sub_cancel_left]
        rfl
  · have hne := hv.ne _ _ _ _ _ _ _ hu
    have hcl := gc_lt hc
    have hcl2 := getCells_len hc
    have k2 : (v0.length + 1) * 128 ≤ 140737488355328 := by simp at k1; omega
    have q2 : rows v0 ++ [.i (.s (.int .i64 x1.actor)), .i (.s (.int .i64 x1.seq)), .i (.s (.int .i64 x1.time)), .i (.sl 1 (x1.deps.counts.map enc)), .i (.s (.int .i64 x1.kind)), .i (.s (.int .i64 x1.obj)), .i (.s (.int .i64 x1.n)), .i (.s (.int .i64 x1.undo)), .i (.s (.int .i64 x1.at_.time)), .i (.s (.int .i64 x1.at_.actor)), .i (.s (.string x1.key)), .i (.s (.string x1.text))] = rows v1 := by rw [q1, rows_append]; rfl
    have q3 : v1.length = v0.length + 1 := by simpa using l1
    have q4 : v0.length * 12 + 12 = v1.length * 12 := by omega
    cases v5 <;> (have hp := Option.some.inj hp; subst hp)
    all_goals
      simp (maxSteps := 2000000) (disch := first | omega | (simp only [List.length_set, List.length_append, List.length_cons, List.length_nil, rows_len, zs]; first | done | omega)) only [idxA_ptr, retV_nil, at_app, at_app_set, ep_impl_Op_thing, ep_impl_Op_stamp, ep_impl_StampLess, hv2, hv4, hv5, hrow, hpl, hl120, hl2, e1, e2, e3, e4, e5, e6, e7, ha0, ha1, ho0, ho1, k2, hc, hcl, hcl2, hne, Ne.symm hne, q2, gs, reduceIte, reduceCtorEq, Nat.reduceAdd, Nat.reduceMul, Nat.reduceSub, Nat.reduceBEq, Nat.reduceEqDiff, Nat.reduceLeDiff, Nat.reduceLT, Nat.reduceGT, Int.reduceToNat, Int.reduceLT, Int.reduceLE, Int.reduceNeg, Int.reduceAdd, Int.reduceEq, Int.reduceNe, idxA_ptr, idxA_ip, retV_nil, at_app, at_app_set, enc_ob, enc_on, dec_ob, dec_on, ofI_ob, cells_ob, bookC_len, ev_ptr]
      simp only [List.set_set]
      refine ⟨by simp, rfl, _, book_put (h := hh) (c' := c) hv hu g0.2.2 rfl (fun c2 h1 h2 h3 => by rw [List.getElem?_append_left (by simpa using h1), List.getElem?_set_ne (Ne.symm h2), List.getElem?_set_ne (fun e => h3 _ _ _ _ _ (by rw [e]))]) ?_ (by rw [← q4, q3]) ?_ (.inr ⟨_, _, _, _, _, rfl⟩)⟩
      · rw [getCells_congr (List.getElem?_append_left (by simpa using hpl))]
        exact set_cells ((getCells_congr (List.getElem?_set_ne hne)).trans hrow) (hl2 _ _)
      · rw [getCells_congr (List.getElem?_append_left (by simpa using hcl)), getCells_congr (List.getElem?_set_ne (Ne.symm hne))]
        exact set_cells hc (rows_len (α := TOp))
theorem ko_impl_book_put {P : Program} {env : Env} {f_impl_Op_thing f_impl_Op_stamp f_impl_StampLess : Nat} (ep_impl_Op_thing : env (2 * f_impl_Op_thing) = pureFn true (FA fun a : TOp => p_impl_Op_thing a)) (ep_impl_Op_stamp : env (2 * f_impl_Op_stamp) = pureFn true (FA fun a : TOp => p_impl_Op_stamp a)) (ep_impl_StampLess : env (2 * f_impl_StampLess) = pureFn true (FA fun a : TStamp × TStamp => p_impl_StampLess a.1 a.2)) : k_impl_book_put (runIn P env (c_impl_book_put f_impl_Op_thing f_impl_Op_stamp f_impl_StampLess)) := by
  intro x0 x1 b hp pb h a0
  exact w_impl_book_put ep_impl_Op_thing ep_impl_Op_stamp ep_impl_StampLess x0 x1 hp pb h a0
end

noncomputable def p_impl_readBook_l0 (x0 : List TOp) : TBook × Int → Option (Lp (TBook × Int) (T2 (Option TBook) Bool))
  | (s1, s2) =>
    if (decide (s2 < (x0.length : Int))) = true then
      (get? x0 s2).bind fun v4 =>
      (p_impl_opOK v4).bind fun v5 =>
      if (v5) = true then
        if (decide (0 < s2)) = true then
          (get? x0 (w64 (s2 - 1))).bind fun v8 =>
          if (decide (v4.actor < v8.actor)) = true then
            some (.ret ⟨(none : Option TBook), false⟩)
          else
            (get? s1.of_ v4.actor).bind fun v10 =>
            if (decide (v4.seq = w64 ((v10.length : Int) + 1))) = true then
              (get? s1.kind v4.obj).bind fun v14 =>
              if (decide (v14 = 0)) = true then
                (p_impl_book_put s1 v4).bind fun v17 =>
                some (.go (v17, w64 (s2 + 1)))
              else
                (p_impl_Op_thing v4).bind fun v19 =>
                if (decide (v14 = v19)) = true then
                  (p_impl_book_put s1 v4).bind fun v21 =>
                  some (.go (v21, w64 (s2 + 1)))
                else
                  some (.ret ⟨(none : Option TBook), false⟩)
            else
              some (.ret ⟨(none : Option TBook), false⟩)
        else
          (get? s1.of_ v4.actor).bind fun v22 =>
          if (decide (v4.seq = w64 ((v22.length : Int) + 1))) = true then
            (get? s1.kind v4.obj).bind fun v26 =>
            if (decide (v26 = 0)) = true then
              (p_impl_book_put s1 v4).bind fun v29 =>
              some (.go (v29, w64 (s2 + 1)))
            else
              (p_impl_Op_thing v4).bind fun v31 =>
              if (decide (v26 = v31)) = true then
                (p_impl_book_put s1 v4).bind fun v33 =>
                some (.go (v33, w64 (s2 + 1)))
              else
                some (.ret ⟨(none : Option TBook), false⟩)
          else
            some (.ret ⟨(none : Option TBook), false⟩)
      else
        some (.ret ⟨(none : Option TBook), false⟩)
    else
      some (.out (s1, s2))
noncomputable def p_impl_readBook_l1 (o34 : TBook) (v38 : TOp) : Int → Option (Lp (Int) (T2 (Option TBook) Bool))
  | s39 =>
    if (decide (s39 < (v38.deps.counts.length : Int))) = true then
      (get? v38.deps.counts s39).bind fun v41 =>
      (get? o34.of_ s39).bind fun v42 =>
      if (decide ((v42.length : Int) < v41)) = true then
        some (.ret ⟨(none : Option TBook), false⟩)
      else
        if (decide (0 < v41)) = true then
          (get? v42 (w64 (v41 - 1))).bind fun v47 =>
          (p_impl_Op_stamp v47).bind fun v49 =>
          (p_impl_Op_stamp v38).bind fun v50 =>
          (p_impl_StampLess v49 v50).bind fun v51 =>
          if (v51) = true then
            some (.go (w64 (s39 + 1)))
          else
            some (.ret ⟨(none : Option TBook), false⟩)
        else
          some (.go (w64 (s39 + 1)))
    else
      some (.out s39)
noncomputable def p_impl_readBook_l2 (x0 : List TOp) (o34 : TBook) : Int → Option (Lp (Int) (T2 (Option TBook) Bool))
  | s36 =>
    if (decide (s36 < (x0.length : Int))) = true then
      (get? x0 s36).bind fun v38 =>
      (loopP (p_impl_readBook_l1 o34 v38) 0).bind fun ee1 => match ee1 with
      | .ret r => some (.ret r)
      | .out o53 =>
        some (.go (w64 (s36 + 1)))
    else
      some (.out s36)
noncomputable def p_impl_readBook (x0 : List TOp) : Option (T2 (Option TBook) Bool) :=
  if (decide (1024 < (x0.length : Int))) = true then
    some ⟨(none : Option TBook), false⟩
  else
    (loopP (p_impl_readBook_l0 x0) (book0, 0)).bind fun ee0 => match ee0 with
    | .ret r => some r
    | .out (o34, o35) =>
      (loopP (p_impl_readBook_l2 x0 o34) 0).bind fun ee2 => match ee2 with
      | .ret r => some r
      | .out o54 =>
        some ⟨(some o34), true⟩
def c_impl_readBook (f_impl_opOK : Nat) (f_impl_Op_thing : Nat) (f_impl_book_put : Nat) (f_impl_Op_stamp : Nat) (f_impl_StampLess : Nat) : AFn := ⟨127, (.seq (.ops [⟨(.some 2), (.mv (.const (.pointer .none))), .none, []⟩, ⟨(.some 3), (.mv (.const (.bool false))), .none, []⟩]) (.seq (.seq (.ops [⟨(.some 11), (.mv (.tmp 0)), .none, []⟩, ⟨(.some 12), (.len (.tmp 11)), .none, []⟩, ⟨(.some 13), (.pu (.n (.ar .gtr)) [(.tmp 12), (.const (.int .i64 1024))]), .none, []⟩]) (.cond (.tmp 13) (.seq (.ops [⟨(.some 2), (.mv (.const (.pointer .none))), .none, []⟩, ⟨(.some 3), (.mv (.const (.bool false))), .none, []⟩]) .ret) .skip)) (.seq (.ops [⟨(.some 14), (.build [(.slice .none 0 0), (.slice .none 0 0), (.slice .none 0 0), (.slice .none 0 0), (.slice .none 0 0), (.slice .none 0 0), (.slice .none 0 0), (.slice .none 0 0), (.slice .none 0 0), (.slice .none 0 0), (.slice .none 0 0), (.slice .none 0 0), (.slice .none 0 0), (.slice .none 0 0), (.slice .none 0 0), (.slice .none 0 0), (.int .i64 0), (.int .i64 0), (.int .i64 0), (.int .i64 0), (.int .i64 0), (.int .i64 0), (.int .i64 0), (.int .i64 0), (.int .i64 0), (.int .i64 0), (.int .i64 0), (.int .i64 0), (.int .i64 0), (.int .i64 0), (.int .i64 0), (.int .i64 0), (.int .i64 0), (.int .i64 0), (.int .i64 0), (.int .i64 0), (.int .i64 0), (.int .i64 0), (.int .i64 0), (.int .i64 0), (.int .i64 0), (.int .i64 0), (.int .i64 0), (.int .i64 0), (.int .i64 0), (.int .i64 0), (.int .i64 0), (.int .i64 0), (.int .i64 0), (.int .i64 0), (.int .i64 0), (.int .i64 0), (.int .i64 0), (.int .i64 0), (.int .i64 0), (.int .i64 0), (.int .i64 0), (.int .i64 0), (.int .i64 0), (.int .i64 0), (.int .i64 0), (.int .i64 0), (.int .i64 0), (.int .i64 0), (.int .i64 0), (.int .i64 0), (.int .i64 0), (.int .i64 0), (.int .i64 0), (.int .i64 0), (.int .i64 0), (.int .i64 0), (.int .i64 0), (.int .i64 0), (.int .i64 0), (.int .i64 0), (.int .i64 0), (.int .i64 0), (.int .i64 0), (.int .i64 0), (.int .i64 0), (.int .i64 0), (.int .i64 0), (.int .i64 0), (.int .i64 0), (.int .i64 0), (.int .i64 0), (.int .i64 0), (.int .i64 0), (.int .i64 0), (.int .i64 0), (.int .i64 0), (.int .i64 0), (.int .i64 0), (.int .i64 0), (.int .i64 0), (.int .i64 0), (.int .i64 0), (.int .i64 0), (.int .i64 0), (.int .i64 0), (.int .i64 0), (.int .i64 0), (.int .i64 0), (.int .i64 0), (.int .i64 0), (.int .i64 0), (.int .i64 0), (.int .i64 0), (.int .i64 0), (.int .i64 0), (.int .i64 0), (.int .i64 0), (.int .i64 0), (.int .i64 0), (.int .i64 0), (.int .i64 0), (.int .i64 0), (.int .i64 0), (.int .i64 0)] []), .none, []⟩, ⟨(.some 15), (.box (.tmp 14)), .none, []⟩, ⟨(.some 4), (.mv (.tmp 15)), .none, []⟩]) (.seq (.seq (.ops [⟨(.some 16), (.mv (.tmp 0)), .none, []⟩, ⟨(.some 17), (.len (.tmp 16)), .none, []⟩, ⟨(.some 18), (.mv (.const (.int .i64 0))), .none, []⟩]) (.block 0 (.loop (.seq (.ops [⟨(.some 19), (.pu (.n (.ar .lss)) [(.tmp 18), (.tmp 17)]), .none, []⟩]) (.seq (.cond (.tmp 19) .skip (.exit 0)) (.seq (.block 1 (.seq (.ops [⟨(.some 20), (.mv (.tmp 18)), .none, []⟩, ⟨(.some 21), (.idxS 12 (.tmp 16) (.tmp 18)), .none, []⟩, ⟨(.some 22), (.load 12 true (.tmp 21)), .none, []⟩, ⟨(.some 6), (.allocV [(0, false), (0, false), (0, false), (1, false), (0, false), (0, false), (0, false), (0, false), (0, false), (0, false), (0, false), (0, false)] [(.int .i64 0), (.int .i64 0), (.int .i64 0), (.slice .none 0 0), (.int .i64 0), (.int .i64 0), (.int .i64 0), (.int .i64 0), (.int .i64 0), (.int .i64 0), (.string ⟨#[]⟩), (.string ⟨#[]⟩)]), .none, []⟩, ⟨(.some 5), (.mv (.tmp 20)), .none, []⟩, ⟨.none, (.storeV [(0, false), (0, false), (0, false), (1, false), (0, false), (0, false), (0, false), (0, false), (0, false), (0, false), (0, false), (0, false)] 12 (.tmp 6) (.tmp 22)), .none, []⟩]) (.seq (.seq (.ops [⟨(.some 23), (.load 12 true (.tmp 6)), .none, []⟩, ⟨(.some 24), (.call (2 * f_impl_opOK) [(.tmp 23)]), .none, []⟩, ⟨(.some 25), (.pu (.n (.un .not)) [(.tmp 24)]), .none, []⟩, ⟨(.some 26), (.mv (.tmp 25)), .none, []⟩, ⟨(.some 27), (.mv (.tmp 5)), (.some (26, false)), []⟩, ⟨(.some 28), (.pu (.n (.ar .gtr)) [(.tmp 27), (.const (.int .i64 0))]), (.some (26, false)), []⟩, ⟨(.some 29), (.mv (.tmp 28)), (.some (26, false)), []⟩, ⟨(.some 30), (.mv (.tmp 0)), (.some (29, true)), []⟩, ⟨(.some 31), (.mv (.tmp 5)), (.some (29, true)), []⟩, ⟨(.some 32), (.pu (.n (.ar .sub)) [(.tmp 31), (.const (.int .i64 1))]), (.some (29, true)), []⟩, ⟨(.some 33), (.idxS 12 (.tmp 30) (.tmp 32)), (.some (29, true)), []⟩, ⟨(.some 34), (.fieldA 0 (.tmp 33)), (.some (29, true)), []⟩, ⟨(.some 35), (.load 1 false (.tmp 34)), (.some (29, true)), []⟩, ⟨(.some 36), (.fieldA 0 (.tmp 6)), (.some (29, true)), []⟩, ⟨(.some 37), (.load 1 false (.tmp 36)), (.some (29, true)), []⟩, ⟨(.some 38), (.pu (.n (.ar .gtr)) [(.tmp 35), (.tmp 37)]), (.some (29, true)), []⟩, ⟨(.some 39), (.pick (.tmp 29) (.tmp 38) (.const (.bool false))), (.some (26, false)), []⟩, ⟨(.some 40), (.pick (.tmp 26) (.const (.bool true)) (.tmp 39)), .none, []⟩, ⟨(.some 41), (.mv (.tmp 40)), .none, []⟩, ⟨(.some 42), (.fieldA 1 (.tmp 6)), (.some (41, false)), []⟩, ⟨(.some 43), (.load 1 false (.tmp 42)), (.some (41, false)), []⟩, ⟨(.some 44), (.mv (.tmp 4)), (.some (41, false)), []⟩, ⟨(.some 45), (.fieldA 0 (.tmp 6)), (.some (41, false)), []⟩, ⟨(.some 46), (.load 1 false (.tmp 45)), (.some (41, false)), []⟩, ⟨(.some 47), (.nilChk (.tmp 44)), (.some (41, false)), []⟩, ⟨(.some 48), (.fieldA 0 (.tmp 47)), (.some (41, false)), []⟩, ⟨(.some 49), (.idxA 16 1 (.tmp 48) (.tmp 46)), (.some (41, false)), []⟩, ⟨(.some 50), (.load 1 false (.tmp 49)), (.some (41, false)), []⟩, ⟨(.some 51), (.len (.tmp 50)), (.some (41, false)), []⟩, ⟨(.some 52), (.pu (.n (.ar .add)) [(.tmp 51), (.const (.int .i64 1))]), (.some (41, false)), []⟩, ⟨(.some 53), (.pu (.n (.ar .neq)) [(.tmp 43), (.tmp 52)]), (.some (41, false)), []⟩, ⟨(.some 54), (.pick (.tmp 41) (.const (.bool true)) (.tmp 53)), .none, []⟩]) (.cond (.tmp 54) (.seq (.ops [⟨(.some 2), (.mv (.const (.pointer .none))), .none, []⟩, ⟨(.some 3), (.mv (.const (.bool false))), .none, []⟩]) .ret) .skip)) (.seq (.seq (.ops [⟨(.some 55), (.mv (.tmp 4)), .none, []⟩, ⟨(.some 56), (.fieldA 5 (.tmp 6)), .none, []⟩, ⟨(.some 57), (.load 1 false (.tmp 56)), .none, []⟩, ⟨(.some 58), (.nilChk (.tmp 55)), .none, []⟩, ⟨(.some 59), (.fieldA 16 (.tmp 58)), .none, []⟩, ⟨(.some 60), (.idxA 101 1 (.tmp 59) (.tmp 57)), .none, []⟩, ⟨(.some 61), (.load 1 false (.tmp 60)), .none, []⟩, ⟨(.some 62), (.pu (.n (.ar .neq)) [(.tmp 61), (.const (.int .i64 0))]), .none, []⟩, ⟨(.some 63), (.mv (.tmp 62)), .none, []⟩, ⟨(.some 64), (.mv (.tmp 4)), (.some (63, true)), []⟩, ⟨(.some 65), (.fieldA 5 (.tmp 6)), (.some (63, true)), []⟩, ⟨(.some 66), (.load 1 false (.tmp 65)), (.some (63, true)), []⟩, ⟨(.some 67), (.nilChk (.tmp 64)), (.some (63, true)), []⟩, ⟨(.some 68), (.fieldA 16 (.tmp 67)), (.some (63, true)), []⟩, ⟨(.some 69), (.idxA 101 1 (.tmp 68) (.tmp 66)), (.some (63, true)), []⟩, ⟨(.some 70), (.load 1 false (.tmp 69)), (.some (63, true)), []⟩, ⟨(.some 71), (.load 12 true (.tmp 6)), (.some (63, true)), []⟩, ⟨(.some 72), (.call (2 * f_impl_Op_thing) [(.tmp 71)]), (.some (63, true)), []⟩, ⟨(.some 73), (.pu (.n (.ar .neq)) [(.tmp 70), (.tmp 72)]), (.some (63, true)), []⟩, ⟨(.some 74), (.pick (.tmp 63) (.tmp 73) (.const (.bool false))), .none, []⟩]) (.cond (.tmp 74) (.seq (.ops [⟨(.some 2), (.mv (.const (.pointer .none))), .none, []⟩, ⟨(.some 3), (.mv (.const (.bool false))), .none, []⟩]) .ret) .skip)) (.ops [⟨(.some 75), (.mv (.tmp 4)), .none, []⟩, ⟨(.some 76), (.load 12 true (.tmp 6)), .none, []⟩, ⟨(.some 77), (.call (2 * f_impl_book_put + 1) [(.tmp 75), (.tmp 76)]), .none, []⟩]))))) (.ops [⟨(.some 78), (.pu (.n (.ar .add)) [(.tmp 18), (.const (.int .i64 1))]), .none, []⟩, ⟨(.some 18), (.mv (.tmp 78)), .none, []⟩]))))))) (.seq (.seq (.ops [⟨(.some 79), (.mv (.tmp 0)), .none, []⟩, ⟨(.some 80), (.len (.tmp 79)), .none, []⟩, ⟨(.some 81), (.mv (.const (.int .i64 0))), .none, []⟩]) (.block 2 (.loop (.seq (.ops [⟨(.some 82), (.pu (.n (.ar .lss)) [(.tmp 81), (.tmp 80)]), .none, []⟩]) (.seq (.cond (.tmp 82) .skip (.exit 2)) (.seq (.block 3 (.seq (.ops [⟨(.some 83), (.idxS 12 (.tmp 79) (.tmp 81)), .none, []⟩, ⟨(.some 84), (.load 12 true (.tmp 83)), .none, []⟩, ⟨(.some 8), (.allocV [(0, false), (0, false), (0, false), (1, false), (0, false), (0, false), (0, false), (0, false), (0, false), (0, false), (0, false), (0, false)] [(.int .i64 0), (.int .i64 0), (.int .i64 0), (.slice .none 0 0), (.int .i64 0), (.int .i64 0), (.int .i64 0), (.int .i64 0), (.int .i64 0), (.int .i64 0), (.string ⟨#[]⟩), (.string ⟨#[]⟩)]), .none, []⟩, ⟨.none, (.storeV [(0, false), (0, false), (0, false), (1, false), (0, false), (0, false), (0, false), (0, false), (0, false), (0, false), (0, false), (0, false)] 12 (.tmp 8) (.tmp 84)), .none, []⟩]) (.seq (.ops [⟨(.some 85), (.fieldA 3 (.tmp 8)), .none, []⟩, ⟨(.some 86), (.fieldA 0 (.tmp 85)), .none, []⟩, ⟨(.some 87), (.load 1 false (.tmp 86)), .none, []⟩, ⟨(.some 88), (.len (.tmp 87)), .none, []⟩, ⟨(.some 89), (.mv (.const (.int .i64 0))), .none, []⟩]) (.block 4 (.loop (.seq (.ops [⟨(.some 90), (.pu (.n (.ar .lss)) [(.tmp 89), (.tmp 88)]), .none, []⟩]) (.seq (.cond (.tmp 90) .skip (.exit 4)) (.seq (.block 5 (.seq (.ops [⟨(.some 91), (.mv (.tmp 89)), .none, []⟩, ⟨(.some 92), (.idxS 1 (.tmp 87) (.tmp 89)), .none, []⟩, ⟨(.some 93), (.load 1 false (.tmp 92)), .none, []⟩, ⟨(.some 9), (.mv (.tmp 91)), .none, []⟩, ⟨(.some 10), (.mv (.tmp 93)), .none, []⟩]) (.seq (.ops [⟨(.some 94), (.mv (.tmp 10)), .none, []⟩, ⟨(.some 95), (.mv (.tmp 4)), .none, []⟩, ⟨(.some 96), (.mv (.tmp 9)), .none, []⟩, ⟨(.some 97), (.nilChk (.tmp 95)), .none, []⟩, ⟨(.some 98), (.fieldA 0 (.tmp 97)), .none, []⟩, ⟨(.some 99), (.idxA 16 1 (.tmp 98) (.tmp 96)), .none, []⟩, ⟨(.some 100), (.load 1 false (.tmp 99)), .none, []⟩, ⟨(.some 101), (.len (.tmp 100)), .none, []⟩, ⟨(.some 102), (.pu (.n (.ar .gtr)) [(.tmp 94), (.tmp 101)]), .none, []⟩, ⟨(.some 103), (.mv (.tmp 102)), .none, []⟩, ⟨(.some 104), (.mv (.tmp 10)), (.some (103, false)), []⟩, ⟨(.some 105), (.pu (.n (.ar .gtr)) [(.tmp 104), (.const (.int .i64 0))]), (.some (103, false)), []⟩, ⟨(.some 106), (.mv (.tmp 105)), (.some (103, false)), []⟩, ⟨(.some 107), (.mv (.tmp 4)), (.some (106, true)), []⟩, ⟨(.some 108), (.mv (.tmp 9)), (.some (106, true)), []⟩, ⟨(.some 109), (.nilChk (.tmp 107)), (.some (106, true)), []⟩, ⟨(.some 110), (.fieldA 0 (.tmp 109)), (.some (106, true)), []⟩, ⟨(.some 111), (.idxA 16 1 (.tmp 110) (.tmp 108)), (.some (106, true)), []⟩, ⟨(.some 112), (.load 1 false (.tmp 111)), (.some (106, true)), []⟩, ⟨(.some 113), (.mv (.tmp 10)), (.some (106, true)), []⟩, ⟨(.some 114), (.pu (.n (.ar .sub)) [(.tmp 113), (.const (.int .i64 1))]), (.some (106, true)), []⟩, ⟨(.some 115), (.idxS 12 (.tmp 112) (.tmp 114)), (.some (106, true)), []⟩, ⟨(.some 116), (.load 12 true (.tmp 115)), (.some (106, true)), []⟩, ⟨(.some 117), (.call (2 * f_impl_Op_stamp) [(.tmp 116)]), (.some (106, true)), []⟩, ⟨(.some 118), (.load 12 true (.tmp 8)), (.some (106, true)), []⟩, ⟨(.some 119), (.call (2 * f_impl_Op_stamp) [(.tmp 118)]), (.some (106, true)), []⟩, ⟨(.some 120), (.call (2 * f_impl_StampLess) [(.tmp 117), (.tmp 119)]), (.some (106, true)), []⟩, ⟨(.some 121), (.pu (.n (.un .not)) [(.tmp 120)]), (.some (106, true)), []⟩, ⟨(.some 122), (.pick (.tmp 106) (.tmp 121) (.const (.bool false))), (.some (103, false)), []⟩, ⟨(.some 123), (.pick (.tmp 103) (.const (.bool true)) (.tmp 122)), .none, []⟩]) (.cond (.tmp 123) (.seq (.ops [⟨(.some 2), (.mv (.const (.pointer .none))), .none, []⟩, ⟨(.some 3), (.mv (.const (.bool false))), .none, []⟩]) .ret) .skip)))) (.ops [⟨(.some 124), (.pu (.n (.ar .add)) [(.tmp 89), (.const (.int .i64 1))]), .none, []⟩, ⟨(.some 89), (.mv (.tmp 124)), .none, []⟩]))))))))) (.ops [⟨(.some 125), (.pu (.n (.ar .add)) [(.tmp 81), (.const (.int .i64 1))]), .none, []⟩, ⟨(.some 81), (.mv (.tmp 125)), .none, []⟩]))))))) (.seq (.ops [⟨(.some 126), (.mv (.tmp 4)), .none, []⟩, ⟨(.some 2), (.mv (.tmp 126)), .none, []⟩, ⟨(.some 3), (.mv (.const (.bool true))), .none, []⟩]) .ret)))))), [(.tmp 2), (.tmp 3)]⟩
set_option maxHeartbeats 10000000 in
theorem d_impl_readBook {P : Program} {env : Env} {f_impl_opOK : Nat} {f_impl_Op_thing : Nat} {f_impl_book_put : Nat} {f_impl_Op_stamp : Nat} {f_impl_StampLess : Nat}  (ep_impl_opOK : env (2 * f_impl_opOK) = pureFn true (FA fun a : TOp => p_impl_opOK a)) (ep_impl_Op_thing : env (2 * f_impl_Op_thing) = pureFn true (FA fun a : TOp => p_impl_Op_thing a)) (ep_impl_Op_stamp : env (2 * f_impl_Op_stamp) = pureFn true (FA fun a : TOp => p_impl_Op_stamp a)) (ep_impl_StampLess : env (2 * f_impl_StampLess) = pureFn true (FA fun a : TStamp × TStamp => p_impl_StampLess a.1 a.2)) (e_impl_book_put : k_impl_book_put (env (2 * f_impl_book_put + 1))) (x0 : List TOp) {b : T2 (Option TBook) Bool} (hp : p_impl_readBook x0 = some b) : R P env (c_impl_readBook f_impl_opOK f_impl_Op_thing f_impl_book_put f_impl_Op_stamp f_impl_StampLess) ((encA (x0)).map ofI) [] (Tells false b) := by
  refine R_of (by simp [c_impl_readBook, encA]) ?_
  unfold c_impl_readBook
  unfold p_impl_readBook at hp
  try simp (maxSteps := 2000000) (disch := first | omega | (simp only [List.length_set, List.length_append, List.length_cons, List.length_nil, rows_len, zs]; first | done | omega)) only [ep_impl_opOK, ep_impl_Op_thing, ep_impl_Op_stamp, ep_impl_StampLess, gs, reduceIte, reduceCtorEq, Nat.reduceAdd, Nat.reduceMul, Nat.reduceSub, Nat.reduceBEq, Nat.reduceEqDiff, Nat.reduceLeDiff, Nat.reduceLT, Nat.reduceGT, Int.reduceToNat, Int.reduceLT, Int.reduceLE, Int.reduceNeg, Int.reduceAdd, Int.reduceEq, Int.reduceNe, idxA_ptr, idxA_ip, retV_nil, at_app, at_app_set, enc_ob, enc_on, dec_ob, dec_on, ofI_ob, cells_ob, bookC_len, ev_ptr]
  by_cases hb0 : (decide (1024 < (x0.length : Int))) = true
  · rw [if_t hb0] at hp
    have hp := Option.some.inj hp
    subst hp
    simp (maxSteps := 2000000) (disch := first | omega | (simp only [List.length_set, List.length_append, List.length_cons, List.length_nil, rows_len, zs]; first | done | omega)) only [ep_impl_opOK, ep_impl_Op_thing, ep_impl_Op_stamp, ep_impl_StampLess, hb0, gs, reduceIte, reduceCtorEq, Nat.reduceAdd, Nat.reduceMul, Nat.reduceSub, Nat.reduceBEq, Nat.reduceEqDiff, Nat.reduceLeDiff, Nat.reduceLT, Nat.reduceGT, Int.reduceToNat, Int.reduceLT, Int.reduceLE, Int.reduceNeg, Int.reduceAdd, Int.reduceEq, Int.reduceNe, idxA_ptr, idxA_ip, retV_nil, at_app, at_app_set, enc_ob, enc_on, dec_ob, dec_on, ofI_ob, cells_ob, bookC_len, ev_ptr]
  · replace hb0 := eq_false_of_ne_true hb0
    rw [if_f hb0] at hp
    obtain ⟨ee0, hee0, hp⟩ := bind_eq hp
    simp (maxSteps := 2000000) (disch := first | omega | (simp only [List.length_set, List.length_append, List.length_cons, List.length_nil, rows_len, zs]; first | done | omega)) only [ep_impl_opOK, ep_impl_Op_thing, ep_impl_Op_stamp, ep_impl_StampLess, hb0, gs, reduceIte, reduceCtorEq, Nat.reduceAdd, Nat.reduceMul, Nat.reduceSub, Nat.reduceBEq, Nat.reduceEqDiff, Nat.reduceLeDiff, Nat.reduceLT, Nat.reduceGT, Int.reduceToNat, Int.reduceLT, Int.reduceLE, Int.reduceNeg, Int.reduceAdd, Int.reduceEq, Int.reduceNe, idxA_ptr, idxA_ip, retV_nil, at_app, at_app_set, enc_ob, enc_on, dec_ob, dec_on, ofI_ob, cells_ob, bookC_len, ev_ptr]
    refine W_loopP 0 (fun s t h => match s with | (s1, s2) => t 0 = .i (.sl 12 (x0.map enc)) ∧ t 4 = .ptr 0 120 0 ∧ t 16 = .i (.sl 12 (x0.map enc)) ∧ t 17 = .i (.s (.int .i64 (x0.length : Int))) ∧ t 18 = .i (.s (.int .i64 s2)) ∧ BookAt h 0 s1 ∧ 0 < h.length) (RK [.tmp 2, .tmp 3] (Tells false)) ?_ hee0 ?_ ?_
    · rintro ⟨s1, s2⟩ ee tt0 hh0 ⟨ftt0_0, ftt0_1, ftt0_2, ftt0_3, ftt0_4, ftt0_5, ftt0_6⟩ hp
      rw [p_impl_readBook_l0] at hp
      try simp (maxSteps := 2000000) (disch := first | omega | (simp only [List.length_set, List.length_append, List.length_cons, List.length_nil, rows_len, zs]; first | done | omega)) only [ep_impl_opOK, ep_impl_Op_thing, ep_impl_Op_stamp, ep_impl_StampLess, hb0, ftt0_0, ftt0_1, ftt0_2, ftt0_3, ftt0_4, ftt0_5, ftt0_6, gs, reduceIte, reduceCtorEq, Nat.reduceAdd, Nat.reduceMul, Nat.reduceSub, Nat.reduceBEq, Nat.reduceEqDiff, Nat.reduceLeDiff, Nat.reduceLT, Nat.reduceGT, Int.reduceToNat, Int.reduceLT, Int.reduceLE, Int.reduceNeg, Int.reduceAdd, Int.reduceEq, Int.reduceNe, idxA_ptr, idxA_ip, retV_nil, at_app, at_app_set, enc_ob, enc_on, dec_ob, dec_on, ofI_ob, cells_ob, bookC_len, ev_ptr]
      by_cases hb3 : (decide (s2 < (x0.length : Int))) = true
      · rw [if_t hb3] at hp
        obtain ⟨v4, hv4, hp⟩ := bind_eq hp
        obtain ⟨v5, hv5, hp⟩ := bind_eq hp
        try simp (maxSteps := 2000000) (disch := first | omega | (simp only [List.length_set, List.length_append, List.length_cons, List.length_nil, rows_len, zs]; first | done | omega)) only [ep_impl_opOK, ep_impl_Op_thing, ep_impl_Op_stamp, ep_impl_StampLess, hb0, ftt0_0, ftt0_1, ftt0_2, ftt0_3, ftt0_4, ftt0_5, ftt0_6, hb3, hv4, hv5, gs, reduceIte, reduceCtorEq, Nat.reduceAdd, Nat.reduceMul, Nat.reduceSub, Nat.reduceBEq, Nat.reduceEqDiff, Nat.reduceLeDiff, Nat.reduceLT, Nat.reduceGT, Int.reduceToNat, Int.reduceLT, Int.reduceLE, Int.reduceNeg, Int.reduceAdd, Int.reduceEq, Int.reduceNe, idxA_ptr, idxA_ip, retV_nil, at_app, at_app_set, enc_ob, enc_on, dec_ob, dec_on, ofI_ob, cells_ob, bookC_len, ev_ptr]
        by_cases hb6 : (v5) = true
        · rw [if_t hb6] at hp
          try simp (maxSteps := 2000000) (disch := first | omega | (simp only [List.length_set, List.length_append, List.length_cons, List.length_nil, rows_len, zs]; first | done | omega)) only [ep_impl_opOK, ep_impl_Op_thing, ep_impl_Op_stamp, ep_impl_StampLess, hb0, ftt0_0, ftt0_1, ftt0_2, ftt0_3, ftt0_4, ftt0_5, ftt0_6, hb3, hv4, hv5, hb6, gs, reduceIte, reduceCtorEq, Nat.reduceAdd, Nat.reduceMul, Nat.reduceSub, Nat.reduceBEq, Nat.reduceEqDiff, Nat.reduceLeDiff, Nat.reduceLT, Nat.reduceGT, Int.reduceToNat, Int.reduceLT, Int.reduceLE, Int.reduceNeg, Int.reduceAdd, Int.reduceEq, Int.reduceNe, idxA_ptr, idxA_ip, retV_nil, at_app, at_app_set, enc_ob, enc_on, dec_ob, dec_on, ofI_ob, cells_ob, bookC_len, ev_ptr]
          by_cases hb7 : (decide (0 < s2)) = true
          · rw [if_t hb7] at hp
            obtain ⟨v8, hv8, hp⟩ := bind_eq hp
            try simp (maxSteps := 2000000) (disch := first | omega | (simp only [List.length_set, List.length_append, List.length_cons, List.length_nil, rows_len, zs]; first | done | omega)) only [ep_impl_opOK, ep_impl_Op_thing, ep_impl_Op_stamp, ep_impl_StampLess, hb0, ftt0_0, ftt0_1, ftt0_2, ftt0_3, ftt0_4, ftt0_5, ftt0_6, hb3, hv4, hv5, hb6, hb7, hv8, gs, reduceIte, reduceCtorEq, Nat.reduceAdd, Nat.reduceMul, Nat.reduceSub, Nat.reduceBEq, Nat.reduceEqDiff, Nat.reduceLeDiff, Nat.reduceLT, Nat.reduceGT, Int.reduceToNat, Int.reduceLT, Int.reduceLE, Int.reduceNeg, Int.reduceAdd, Int.reduceEq, Int.reduceNe, idxA_ptr, idxA_ip, retV_nil, at_app, at_app_set, enc_ob, enc_on, dec_ob, dec_on, ofI_ob, cells_ob, bookC_len, ev_ptr]
            by_cases hb9 : (decide (v4.actor < v8.actor)) = true
            · rw [if_t hb9] at hp
              have hp := Option.some.inj hp
              subst hp
              simp (maxSteps := 2000000) (disch := first | omega | (simp only [List.length_set, List.length_append, List.length_cons, List.length_nil, rows_len, zs]; first | done | omega)) only [ep_impl_opOK, ep_impl_Op_thing, ep_impl_Op_stamp, ep_impl_StampLess, hb0, ftt0_0, ftt0_1, ftt0_2, ftt0_3, ftt0_4, ftt0_5, ftt0_6, hb3, hv4, hv5, hb6, hb7, hv8, hb9, gs, reduceIte, reduceCtorEq, Nat.reduceAdd, Nat.reduceMul, Nat.reduceSub, Nat.reduceBEq, Nat.reduceEqDiff, Nat.reduceLeDiff, Nat.reduceLT, Nat.reduceGT, Int.reduceToNat, Int.reduceLT, Int.reduceLE, Int.reduceNeg, Int.reduceAdd, Int.reduceEq, Int.reduceNe, idxA_ptr, idxA_ip, retV_nil, at_app, at_app_set, enc_ob, enc_on, dec_ob, dec_on, ofI_ob, cells_ob, bookC_len, ev_ptr]
            · replace hb9 := eq_false_of_ne_true hb9
              rw [if_f hb9] at hp
              obtain ⟨v10, hv10, hp⟩ := bind_eq hp
              have gv10 := get_some hv10
              have bv10 : v4.actor < 16 := by have := gv10.2.1; have := (s1).h1; omega
              obtain ⟨vs11, hv11⟩ : BookAt hh0 0 s1 := by assumption
              have hr11 := hv11.row
              have hl11 := getCells_len hr11
              obtain ⟨u12, hu12⟩ : ∃ u, vs11[v4.actor.toNat]? = some u := ⟨_, List.getElem?_eq_getElem (by have := gv10.2.1; have := (s1).h1; have := hv11.len; omega)⟩
              have du12 := ld_of (R := BR s1) hu12
              have ou12 := hv11.own _ _ _ hu12 gv10.2.2
              have nu12 := ownL_lenS ou12
              try simp (maxSteps := 2000000) (disch := first | omega | (simp only [List.length_set, List.length_append, List.length_cons, List.length_nil, rows_len, zs]; first | done | omega)) only [ep_impl_opOK, ep_impl_Op_thing, ep_impl_Op_stamp, ep_impl_StampLess, hb0, ftt0_0, ftt0_1, ftt0_2, ftt0_3, ftt0_4, ftt0_5, ftt0_6, hb3, hv4, hv5, hb6, hb7, hv8, hb9, hv10, (gv10).1, bv10, hr11, hl11, du12, nu12, gs, reduceIte, reduceCtorEq, Nat.reduceAdd, Nat.reduceMul, Nat.reduceSub, Nat.reduceBEq, Nat.reduceEqDiff, Nat.reduceLeDiff, Nat.reduceLT, Nat.reduceGT, Int.reduceToNat, Int.reduceLT, Int.reduceLE, Int.reduceNeg, Int.reduceAdd, Int.reduceEq, Int.reduceNe, idxA_ptr, idxA_ip, retV_nil, at_app, at_app_set, enc_ob, enc_on, dec_ob, dec_on, ofI_ob, cells_ob, bookC_len, ev_ptr]
              by_cases hb13 : (decide (v4.seq = w64 ((v10.length : Int) + 1))) = true
              · rw [if_t hb13] at hp
                obtain ⟨v14, hv14, hp⟩ := bind_eq hp
                have gv14 := get_some hv14
                have bv14 : v4.obj < 101 := by have := gv14.2.1; have := (s1).h2; omega
                have hk15 := ld_kind (vs := vs11) (k := s1) hv11.len gv14.2.2
                try simp (maxSteps := 2000000) (disch := first | omega | (simp only [List.length_set, List.length_append, List.length_cons, List.length_nil, rows_len, zs]; first | done | omega)) only [ep_impl_opOK, ep_impl_Op_thing, ep_impl_Op_stamp, ep_impl_StampLess, hb0, ftt0_0, ftt0_1, ftt0_2, ftt0_3, ftt0_4, ftt0_5, ftt0_6, hb3, hv4, hv5, hb6, hb7, hv8, hb9, hv10, (gv10).1, bv10, hr11, hl11, du12, nu12, hb13, hv14, (gv14).1, bv14, hk15, gs, reduceIte, reduceCtorEq, Nat.reduceAdd, Nat.reduceMul, Nat.reduceSub, Nat.reduceBEq, Nat.reduceEqDiff, Nat.reduceLeDiff, Nat.reduceLT, Nat.reduceGT, Int.reduceToNat, Int.reduceLT, Int.reduceLE, Int.reduceNeg, Int.reduceAdd, Int.reduceEq, Int.reduceNe, idxA_ptr, idxA_ip, retV_nil, at_app, at_app_set, enc_ob, enc_on, dec_ob, dec_on, ofI_ob, cells_ob, bookC_len, ev_ptr]
                by_cases hb16 : (decide (v14 = 0)) = true
                · rw [if_t hb16] at hp
                  obtain ⟨v17, hv17, hp⟩ := bind_eq hp
                  simp (maxSteps := 2000000) (disch := first | omega | (simp only [List.length_set, List.length_append, List.length_cons, List.length_nil, rows_len, zs]; first | done | omega)) only [ep_impl_opOK, ep_impl_Op_thing, ep_impl_Op_stamp, ep_impl_StampLess, hb0, ftt0_0, ftt0_1, ftt0_2, ftt0_3, ftt0_4, ftt0_5, ftt0_6, hb3, hv4, hv5, hb6, hb7, hv8, hb9, hv10, (gv10).1, bv10, hr11, hl11, du12, nu12, hb13, hv14, (gv14).1, bv14, hk15, hb16, gs, reduceIte, reduceCtorEq, Nat.reduceAdd, Nat.reduceMul, Nat.reduceSub, Nat.reduceBEq, Nat.reduceEqDiff, Nat.reduceLeDiff, Nat.reduceLT, Nat.reduceGT, Int.reduceToNat, Int.reduceLT, Int.reduceLE, Int.reduceNeg, Int.reduceAdd, Int.reduceEq, Int.reduceNe, idxA_ptr, idxA_ip, retV_nil, at_app, at_app_set, enc_ob, enc_on, dec_ob, dec_on, ofI_ob, cells_ob, bookC_len, ev_ptr]
                  refine call_f (fun h => BookAt h 0 s1 ∧ 0 < h.length ∧ getCells h hh0.length 0 = some [] ∧ hh0.length < h.length ∧ getCells h (hh0.length + 1) 12 = some [.i (.s (.int .i64 v4.actor)), .i (.s (.int .i64 v4.seq)), .i (.s (.int .i64 v4.time)), .i (.sl 1 (v4.deps.counts.map enc)), .i (.s (.int .i64 v4.kind)), .i (.s (.int .i64 v4.obj)), .i (.s (.int .i64 v4.n)), .i (.s (.int .i64 v4.undo)), .i (.s (.int .i64 v4.at_.time)), .i (.s (.int .i64 v4.at_.actor)), .i (.s (.string v4.key)), .i (.s (.string v4.text))] ∧ hh0.length + 1 < h.length) (fun h v h2 => i_impl_book_put 0 h v17 v h2) ?_ ?_ ?_
                  · simp (maxSteps := 2000000) (disch := first | omega | (simp only [List.length_set, List.length_append, List.length_cons, List.length_nil, rows_len, zs]; first | done | omega)) only [ep_impl_opOK, ep_impl_Op_thing, ep_impl_Op_stamp, ep_impl_StampLess, hb0, ftt0_0, ftt0_1, ftt0_2, ftt0_3, ftt0_4, ftt0_5, ftt0_6, hb3, hv4, hv5, hb6, hb7, hv8, hb9, hv10, (gv10).1, bv10, hr11, hl11, du12, nu12, hb13, hv14, (gv14).1, bv14, hk15, hb16, hv17, gs, reduceIte, reduceCtorEq, Nat.reduceAdd, Nat.reduceMul, Nat.reduceSub, Nat.reduceBEq, Nat.reduceEqDiff, Nat.reduceLeDiff, Nat.reduceLT, Nat.reduceGT, Int.reduceToNat, Int.reduceLT, Int.reduceLE, Int.reduceNeg, Int.reduceAdd, Int.reduceEq, Int.reduceNe, idxA_ptr, idxA_ip, retV_nil, at_app, at_app_set, enc_ob, enc_on, dec_ob, dec_on, ofI_ob, cells_ob, bookC_len, ev_ptr] <;> (repeat (first | omega | assumption | exact book_ext (by assumption) | exact book_new rfl | refine And.intro ?_ ?_))
                  · rintro h ⟨c1_0, c1_1, c1_2, c1_3, c1_4, c1_5⟩
                    exact e_impl_book_put _ _ _ hv17 _ h c1_0
                  · rintro hc1 v hh1 ⟨c1_0, c1_1, c1_2, c1_3, c1_4, c1_5⟩ hpost
                    obtain ⟨kk1, rfl, w1_0⟩ := hpost
                    have d1_0 : BookAt hh1 0 v17 := w1_0
                    have d1_0l := book_lt d1_0
                    have hp := Option.some.inj hp
                    subst hp
                    simp (maxSteps := 2000000) (disch := first | omega | (simp only [List.length_set, List.length_append, List.length_cons, List.length_nil, rows_len, zs]; first | done | omega)) only [ep_impl_opOK, ep_impl_Op_thing, ep_impl_Op_stamp, ep_impl_StampLess, hb0, ftt0_0, ftt0_1, ftt0_2, ftt0_3, ftt0_4, ftt0_5, ftt0_6, hb3, hv4, hv5, hb6, hb7, hv8, hb9, hv10, (gv10).1, bv10, hr11, hl11, du12, nu12, hb13, hv14, (gv14).1, bv14, hk15, hb16, hv17, d1_0, gs, reduceIte, reduceCtorEq, Nat.reduceAdd, Nat.reduceMul, Nat.reduceSub, Nat.reduceBEq, Nat.reduceEqDiff, Nat.reduceLeDiff, Nat.reduceLT, Nat.reduceGT, Int.reduceToNat, Int.reduceLT, Int.reduceLE, Int.reduceNeg, Int.reduceAdd, Int.reduceEq, Int.reduceNe, idxA_ptr, idxA_ip, retV_nil, at_app, at_app_set, enc_ob, enc_on, dec_ob, dec_on, ofI_ob, cells_ob, bookC_len, ev_ptr] <;> (repeat (first | omega | assumption | exact book_ext (by assumption) | exact book_new rfl | refine And.intro ?_ ?_))
                · replace hb16 := eq_false_of_ne_true hb16
                  rw [if_f hb16] at hp
                  have hk18 := ld_kind (vs := vs11) (k := s1) hv11.len gv14.2.2
                  obtain ⟨v19, hv19, hp⟩ := bind_eq hp
                  try simp (maxSteps := 2000000) (disch := first | omega | (simp only [List.length_set, List.length_append, List.length_cons, List.length_nil, rows_len, zs]; first | done | omega)) only [ep_impl_opOK, ep_impl_Op_thing, ep_impl_Op_stamp, ep_impl_StampLess, hb0, ftt0_0, ftt0_1, ftt0_2, ftt0_3, ftt0_4, ftt0_5, ftt0_6, hb3, hv4, hv5, hb6, hb7, hv8, hb9, hv10, (gv10).1, bv10, hr11, hl11, du12, nu12, hb13, hv14, (gv14).1, bv14, hk15, hb16, hk18, hv19, gs, reduceIte, reduceCtorEq, Nat.reduceAdd, Nat.reduceMul, Nat.reduceSub, Nat.reduceBEq, Nat.reduceEqDiff, Nat.reduceLeDiff, Nat.reduceLT, Nat.reduceGT, Int.reduceToNat, Int.reduceLT, Int.reduceLE, Int.reduceNeg, Int.reduceAdd, Int.reduceEq, Int.reduceNe, idxA_ptr, idxA_ip, retV_nil, at_app, at_app_set, enc_ob, enc_on, dec_ob, dec_on, ofI_ob, cells_ob, bookC_len, ev_ptr]
                  by_cases hb20 : (decide (v14 = v19)) = true
                  · rw [if_t hb20] at hp
                    obtain ⟨v21, hv21, hp⟩ := bind_eq hp
                    simp (maxSteps := 2000000) (disch := first | omega | (simp only [List.length_set, List.length_append, List.length_cons, List.length_nil, rows_len, zs]; first | done | omega)) only [ep_impl_opOK, ep_impl_Op_thing, ep_impl_Op_stamp, ep_impl_StampLess, hb0, ftt0_0, ftt0_1, ftt0_2, ftt0_3, ftt0_4, ftt0_5, ftt0_6, hb3, hv4, hv5, hb6, hb7, hv8, hb9, hv10, (gv10).1, bv10, hr11, hl11, du12, nu12, hb13, hv14, (gv14).1, bv14, hk15, hb16, hk18, hv19, hb20, gs, reduceIte, reduceCtorEq, Nat.reduceAdd, Nat.reduceMul, Nat.reduceSub, Nat.reduceBEq, Nat.reduceEqDiff, Nat.reduceLeDiff, Nat.reduceLT, Nat.reduceGT, Int.reduceToNat, Int.reduceLT, Int.reduceLE, Int.reduceNeg, Int.reduceAdd, Int.reduceEq, Int.reduceNe, idxA_ptr, idxA_ip, retV_nil, at_app, at_app_set, enc_ob, enc_on, dec_ob, dec_on, ofI_ob, cells_ob, bookC_len, ev_ptr]
                    refine call_f (fun h => BookAt h 0 s1 ∧ 0 < h.length ∧ getCells h hh0.length 0 = some [] ∧ hh0.length < h.length ∧ getCells h (hh0.length + 1) 12 = some [.i (.s (.int .i64 v4.actor)), .i (.s (.int .i64 v4.seq)), .i (.s (.int .i64 v4.time)), .i (.sl 1 (v4.deps.counts.map enc)), .i (.s (.int .i64 v4.kind)), .i (.s (.int .i64 v4.obj)), .i (.s (.int .i64 v4.n)), .i (.s (.int .i64 v4.undo)), .i (.s (.int .i64 v4.at_.time)), .i (.s (.int .i64 v4.at_.actor)), .i (.s (.string v4.key)), .i (.s (.string v4.text))] ∧ hh0.length + 1 < h.length) (fun h v h2 => i_impl_book_put 0 h v21 v h2) ?_ ?_ ?_
                    · simp (maxSteps := 2000000) (disch := first | omega | (simp only [List.length_set, List.length_append, List.length_cons, List.length_nil, rows_len, zs]; first | done | omega)) only [ep_impl_opOK, ep_impl_Op_thing, ep_impl_Op_stamp, ep_impl_StampLess, hb0, ftt0_0, ftt0_1, ftt0_2, ftt0_3, ftt0_4, ftt0_5, ftt0_6, hb3, hv4, hv5, hb6, hb7, hv8, hb9, hv10, (gv10).1, bv10, hr11, hl11, du12, nu12, hb13, hv14, (gv14).1, bv14, hk15, hb16, hk18, hv19, hb20, hv21, gs, reduceIte, reduceCtorEq, Nat.reduceAdd, Nat.reduceMul, Nat.reduceSub, Nat.reduceBEq, Nat.reduceEqDiff, Nat.reduceLeDiff, Nat.reduceLT, Nat.reduceGT, Int.reduceToNat, Int.reduceLT, Int.reduceLE, Int.reduceNeg, Int.reduceAdd, Int.reduceEq, Int.reduceNe, idxA_ptr, idxA_ip, retV_nil, at_app, at_app_set, enc_ob, enc_on, dec_ob, dec_on, ofI_ob, cells_ob, bookC_len, ev_ptr] <;> (repeat (first | omega | assumption | exact book_ext (by assumption) | exact book_new rfl | refine And.intro ?_ ?_))
                    · rintro h ⟨c2_0, c2_1, c2_2, c2_3, c2_4, c2_5⟩
                      exact e_impl_book_put _ _ _ hv21 _ h c2_0
                    · rintro hc2 v hh2 ⟨c2_0, c2_1, c2_2, c2_3, c2_4, c2_5⟩ hpost
                      obtain ⟨kk2, rfl, w2_0⟩ := hpost
                      have d2_0 : BookAt hh2 0 v21 := w2_0
                      have d2_0l := book_lt d2_0
                      have hp := Option.some.inj hp
                      subst hp
                      simp (maxSteps := 2000000) (disch := first | omega | (simp only [List.length_set, List.length_append, List.length_cons, List.length_nil, rows_len, zs]; first | done | omega)) only [ep_impl_opOK, ep_impl_Op_thing, ep_impl_Op_stamp, ep_impl_StampLess, hb0, ftt0_0, ftt0_1, ftt0_2, ftt0_3, ftt0_4, ftt0_5, ftt0_6, hb3, hv4, hv5, hb6, hb7, hv8, hb9, hv10, (gv10).1, bv10, hr11, hl11, du12, nu12, hb13, hv14, (gv14).1, bv14, hk15, hb16, hk18, hv19, hb20, hv21, d2_0, gs, reduceIte, reduceCtorEq, Nat.reduceAdd, Nat.reduceMul, Nat.reduceSub, Nat.reduceBEq, Nat.reduceEqDiff, Nat.reduceLeDiff, Nat.reduceLT, Nat.reduceGT, Int.reduceToNat, Int.reduceLT, Int.reduceLE, Int.reduceNeg, Int.reduceAdd, Int.reduceEq, Int.reduceNe, idxA_ptr, idxA_ip, retV_nil, at_app, at_app_set, enc_ob, enc_on, dec_ob, dec_on, ofI_ob, cells_ob, bookC_len, ev_ptr] <;> (repeat (first | omega | assumption | exact book_ext (by assumption) | exact book_new rfl | refine And.intro ?_ ?_))
                  · replace hb20 := eq_false_of_ne_true hb20
                    rw [if_f hb20] at hp
                    have hp := Option.some.inj hp
                    subst hp
                    simp (maxSteps := 2000000) (disch := first | omega | (simp only [List.length_set, List.length_append, List.length_cons, List.length_nil, rows_len, zs]; first | done | omega)) only [ep_impl_opOK, ep_impl_Op_thing, ep_impl_Op_stamp, ep_impl_StampLess, hb0, ftt0_0, ftt0_1, ftt0_2, ftt0_3, ftt0_4, ftt0_5, ftt0_6, hb3, hv4, hv5, hb6, hb7, hv8, hb9, hv10, (gv10).1, bv10, hr11, hl11, du12, nu12, hb13, hv14, (gv14).1, bv14, hk15, hb16, hk18, hv19, hb20, gs, reduceIte, reduceCtorEq, Nat.reduceAdd, Nat.reduceMul, Nat.reduceSub, Nat.reduceBEq, Nat.reduceEqDiff, Nat.reduceLeDiff, Nat.reduceLT, Nat.reduceGT, Int.reduceToNat, Int.reduceLT, Int.reduceLE, Int.reduceNeg, Int.reduceAdd, Int.reduceEq, Int.reduceNe, idxA_ptr, idxA_ip, retV_nil, at_app, at_app_set, enc_ob, enc_on, dec_ob, dec_on, ofI_ob, cells_ob, bookC_len, ev_ptr]
              · replace hb13 := eq_false_of_ne_true hb13
                rw [if_f hb13] at hp
                have hp := Option.some.inj hp
                subst hp
                simp (maxSteps := 2000000) (disch := first | omega | (simp only [List.length_set, List.length_append, List.length_cons, List.length_nil, rows_len, zs]; first | done | omega)) only [ep_impl_opOK, ep_impl_Op_thing, ep_impl_Op_stamp, ep_impl_StampLess, hb0, ftt0_0, ftt0_1, ftt0_2, ftt0_3, ftt0_4, ftt0_5, ftt0_6, hb3, hv4, hv5, hb6, hb7, hv8, hb9, hv10, (gv10).1, bv10, hr11, hl11, du12, nu12, hb13, gs, reduceIte, reduceCtorEq, Nat.reduceAdd, Nat.reduceMul, Nat.reduceSub, Nat.reduceBEq, Nat.reduceEqDiff, Nat.reduceLeDiff, Nat.reduceLT, Nat.reduceGT, Int.reduceToNat, Int.reduceLT, Int.reduceLE, Int.reduceNeg, Int.reduceAdd, Int.reduceEq, Int.reduceNe, idxA_ptr, idxA_ip, retV_nil, at_app, at_app_set, enc_ob, enc_on, dec_ob, dec_on, ofI_ob, cells_ob, bookC_len, ev_ptr]
          · replace hb7 := eq_false_of_ne_true hb7
            rw [if_f hb7] at hp
            obtain ⟨v22, hv22, hp⟩ := bind_eq hp
            have gv22 := get_some hv22
            have bv22 : v4.actor < 16 := by have := gv22.2.1; have := (s1).h1; omega
            obtain ⟨vs23, hv23⟩ : BookAt hh0 0 s1 := by assumption
            have hr23 := hv23.row
            have hl23 := getCells_len hr23
            obtain ⟨u24, hu24⟩ : ∃ u, vs23[v4.actor.toNat]? = some u := ⟨_, List.getElem?_eq_getElem (by have := gv22.2.1; have := (s1).h1; have := hv23.len; omega)⟩
            have du24 := ld_of (R := BR s1) hu24
            have ou24 := hv23.own _ _ _ hu24 gv22.2.2
            have nu24 := ownL_lenS ou24
            try simp (maxSteps := 2000000) (disch := first | omega | (simp only [List.length_set, List.length_append, List.length_cons, List.length_nil, rows_len, zs]; first | done | omega)) only [ep_impl_opOK, ep_impl_Op_thing, ep_impl_Op_stamp, ep_impl_StampLess, hb0, ftt0_0, ftt0_1, ftt0_2, ftt0_3, ftt0_4, ftt0_5, ftt0_6, hb3, hv4, hv5, hb6, hb7, hv22, (gv22).1, bv22, hr23, hl23, du24, nu24, gs, reduceIte, reduceCtorEq, Nat.reduceAdd, Nat.reduceMul, Nat.reduceSub, Nat.reduceBEq, Nat.reduceEqDiff, Nat.reduceLeDiff, Nat.reduceLT, Nat.reduceGT, Int.reduceToNat, Int.reduceLT, Int.reduceLE, Int.reduceNeg, Int.reduceAdd, Int.reduceEq, Int.reduceNe, idxA_ptr, idxA_ip, retV_nil, at_app, at_app_set, enc_ob, enc_on, dec_ob, dec_on, ofI_ob, cells_ob, bookC_len, ev_ptr]
            by_cases hb25 : (decide (v4.seq = w64 ((v22.length : Int) + 1))) = true
            · rw [if_t hb25] at hp
              obtain ⟨v26, hv26, hp⟩ := bind_eq hp
              have gv26 := get_some hv26
              have bv26 : v4.obj < 101 := by have := gv26.2.1; have := (s1).h2; omega
              have hk27 := ld_kind (vs := vs23) (k := s1) hv23.len gv26.2.2
              try simp (maxSteps := 2000000) (disch := first | omega | (simp only [List.length_set, List.length_append, List.length_cons, List.length_nil, rows_len, zs]; first | done | omega)) only [ep_impl_opOK, ep_impl_Op_thing, ep_impl_Op_stamp, ep_impl_StampLess, hb0, ftt0_0, ftt0_1, ftt0_2, ftt0_3, ftt0_4, ftt0_5, ftt0_6, hb3, hv4, hv5, hb6, hb7, hv22, (gv22).1, bv22, hr23, hl23, du24, nu24, hb25, hv26, (gv26).1, bv26, hk27, gs, reduceIte, reduceCtorEq, Nat.reduceAdd, Nat.reduceMul, Nat.reduceSub, Nat.reduceBEq, Nat.reduceEqDiff, Nat.reduceLeDiff, Nat.reduceLT, Nat.reduceGT, Int.reduceToNat, Int.reduceLT, Int.reduceLE, Int.reduceNeg, Int.reduceAdd, Int.reduceEq, Int.reduceNe, idxA_ptr, idxA_ip, retV_nil, at_app, at_app_set, enc_ob, enc_on, dec_ob, dec_on, ofI_ob, cells_ob, bookC_len, ev_ptr]
              by_cases hb28 : (decide (v26 = 0)) = true
              · rw [if_t hb28] at hp
                obtain ⟨v29, hv29, hp⟩ := bind_eq hp
                simp (maxSteps := 2000000) (disch := first | omega | (simp only [List.length_set, List.length_append, List.length_cons, List.length_nil, rows_len, zs]; first | done | omega)) only [ep_impl_opOK, ep_impl_Op_thing, ep_impl_Op_stamp, ep_impl_StampLess, hb0, ftt0_0, ftt0_1, ftt0_2, ftt0_3, ftt0_4, ftt0_5, ftt0_6, hb3, hv4, hv5, hb6, hb7, hv22, (gv22).1, bv22, hr23, hl23, du24, nu24, hb25, hv26, (gv26).1, bv26, hk27, hb28, gs, reduceIte, reduceCtorEq, Nat.reduceAdd, Nat.reduceMul, Nat.reduceSub, Nat.reduceBEq, Nat.reduceEqDiff, Nat.reduceLeDiff, Nat.reduceLT, Nat.reduceGT, Int.reduceToNat, Int.reduceLT, Int.reduceLE, Int.reduceNeg, Int.reduceAdd, Int.reduceEq, Int.reduceNe, idxA_ptr, idxA_ip, retV_nil, at_app, at_app_set, enc_ob, enc_on, dec_ob, dec_on, ofI_ob, cells_ob, bookC_len, ev_ptr]
                refine call_f (fun h => BookAt h 0 s1 ∧ 0 < h.length ∧ getCells h hh0.length 0 = some [] ∧ hh0.length < h.length ∧ getCells h (hh0.length + 1) 12 = some [.i (.s (.int .i64 v4.actor)), .i (.s (.int .i64 v4.seq)), .i (.s (.int .i64 v4.time)), .i (.sl 1 (v4.deps.counts.map enc)), .i (.s (.int .i64 v4.kind)), .i (.s (.int .i64 v4.obj)), .i (.s (.int .i64 v4.n)), .i (.s (.int .i64 v4.undo)), .i (.s (.int .i64 v4.at_.time)), .i (.s (.int .i64 v4.at_.actor)), .i (.s (.string v4.key)), .i (.s (.string v4.text))] ∧ hh0.length + 1 < h.length) (fun h v h2 => i_impl_book_put 0 h v29 v h2) ?_ ?_ ?_
                · simp (maxSteps := 2000000) (disch := first | omega | (simp only [List.length_set, List.length_append, List.length_cons, List.length_nil, rows_len, zs]; first | done | omega)) only [ep_impl_opOK, ep_impl_Op_thing, ep_impl_Op_stamp, ep_impl_StampLess, hb0, ftt0_0, ftt0_1, ftt0_2, ftt0_3, ftt0_4, ftt0_5, ftt0_6, hb3, hv4, hv5, hb6, hb7, hv22, (gv22).1, bv22, hr23, hl23, du24, nu24, hb25, hv26, (gv26).1, bv26, hk27, hb28, hv29, gs, reduceIte, reduceCtorEq, Nat.reduceAdd, Nat.reduceMul, Nat.reduceSub, Nat.reduceBEq, Nat.reduceEqDiff, Nat.reduceLeDiff, Nat.reduceLT, Nat.reduceGT, Int.reduceToNat, Int.reduceLT, Int.reduceLE, Int.reduceNeg, Int.reduceAdd, Int.reduceEq, Int.reduceNe, idxA_ptr, idxA_ip, retV_nil, at_app, at_app_set, enc_ob, enc_on, dec_ob, dec_on, ofI_ob, cells_ob, bookC_len, ev_ptr] <;> (repeat (first | omega | assumption | exact book_ext (by assumption) | exact book_new rfl | refine And.intro ?_ ?_))
                · rintro h ⟨c3_0, c3_1, c3_2, c3_3, c3_4, c3_5⟩
                  exact e_impl_book_put _ _ _ hv29 _ h c3_0
                · rintro hc3 v hh3 ⟨c3_0, c3_1, c3_2, c3_3, c3_4, c3_5⟩ hpost
                  obtain ⟨kk3, rfl, w3_0⟩ := hpost
                  have d3_0 : BookAt hh3 0 v29 := w3_0
                  have d3_0l := book_lt d3_0
                  have hp := Option.some.inj hp
                  subst hp
                  simp (maxSteps := 2000000) (disch := first | omega | (simp only [List.length_set, List.length_append, List.length_cons, List.length_nil, rows_len, zs]; first | done | omega)) only [ep_impl_opOK, ep_impl_Op_thing, ep_impl_Op_stamp, ep_impl_StampLess, hb0, ftt0_0, ftt0_1, ftt0_2, ftt0_3, ftt0_4, ftt0_5, ftt0_6, hb3, hv4, hv5, hb6, hb7, hv22, (gv22).1, bv22, hr23, hl23, du24, nu24, hb25, hv26, (gv26).1, bv26, hk27, hb28, hv29, d3_0, gs, reduceIte, reduceCtorEq, Nat.reduceAdd, Nat.reduceMul, Nat.reduceSub, Nat.reduceBEq, Nat.reduceEqDiff, Nat.reduceLeDiff, Nat.reduceLT, Nat.reduceGT, Int.reduceToNat, Int.reduceLT, Int.reduceLE, Int.reduceNeg, Int.reduceAdd, Int.reduceEq, Int.reduceNe, idxA_ptr, idxA_ip, retV_nil, at_app, at_app_set, enc_ob, enc_on, dec_ob, dec_on, ofI_ob, cells_ob, bookC_len, ev_ptr] <;> (repeat (first | omega | assumption | exact book_ext (by assumption) | exact book_new rfl | refine And.intro ?_ ?_))
              · replace hb28 := eq_false_of_ne_true hb28
                rw [if_f hb28] at hp
                have hk30 := ld_kind (vs := vs23) (k := s1) hv23.len gv26.2.2
                obtain ⟨v31, hv31, hp⟩ := bind_eq hp
                try simp (maxSteps := 2000000) (disch := first | omega | (simp only [List.length_set, List.length_append, List.length_cons, List.length_nil, rows_len, zs]; first | done | omega)) only [ep_impl_opOK, ep_impl_Op_thing, ep_impl_Op_stamp, ep_impl_StampLess, hb0, ftt0_0, ftt0_1, ftt0_2, ftt0_3, ftt0_4, ftt0_5, ftt0_6, hb3, hv4, hv5, hb6, hb7, hv22, (gv22).1, bv22, hr23, hl23, du24, nu24, hb25, hv26, (gv26).1, bv26, hk27, hb28, hk30, hv31, gs, reduceIte, reduceCtorEq, Nat.reduceAdd, Nat.reduceMul, Nat.reduceSub, Nat.reduceBEq, Nat.reduceEqDiff, Nat.reduceLeDiff, Nat.reduceLT, Nat.reduceGT, Int.reduceToNat, Int.reduceLT, Int.reduceLE, Int.reduceNeg, Int.reduceAdd, Int.reduceEq, Int.reduceNe, idxA_ptr, idxA_ip, retV_nil, at_app, at_app_set, enc_ob, enc_on, dec_ob, dec_on, ofI_ob, cells_ob, bookC_len, ev_ptr]
                by_cases hb32 : (decide (v26 = v31)) = true
                · rw [if_t hb32] at hp
                  obtain ⟨v33, hv33, hp⟩ := bind_eq hp
                  simp (maxSteps := 2000000) (disch := first | omega | (simp only [List.length_set, List.length_append, List.length_cons, List.length_nil, rows_len, zs]; first | done | omega)) only [ep_impl_opOK, ep_impl_Op_thing, ep_impl_Op_stamp, ep_impl_StampLess, hb0, ftt0_0, ftt0_1, ftt0_2, ftt0_3, ftt0_4, ftt0_5, ftt0_6, hb3, hv4, hv5, hb6, hb7, hv22, (gv22).1, bv22, hr23, hl23, du24, nu24, hb25, hv26, (gv26).1, bv26, hk27, hb28, hk30, hv31, hb32, gs, reduceIte, reduceCtorEq, Nat.reduceAdd, Nat.reduceMul, Nat.reduceSub, Nat.reduceBEq, Nat.reduceEqDiff, Nat.reduceLeDiff, Nat.reduceLT, Nat.reduceGT, Int.reduceToNat, Int.reduceLT, Int.reduceLE, Int.reduceNeg, Int.reduceAdd, Int.reduceEq, Int.reduceNe, idxA_ptr, idxA_ip, retV_nil, at_app, at_app_set, enc_ob, enc_on, dec_ob, dec_on, ofI_ob, cells_ob, bookC_len, ev_ptr]
                  refine call_f (fun h => BookAt h 0 s1 ∧ 0 < h.length ∧ getCells h hh0.length 0 = some [] ∧ hh0.length < h.length ∧ getCells h (hh0.length + 1) 12 = some [.i (.s (.int .i64 v4.actor)), .i (.s (.int .i64 v4.seq)), .i (.s (.int .i64 v4.time)), .i (.sl 1 (v4.deps.counts.map enc)), .i (.s (.int .i64 v4.kind)), .i (.s (.int .i64 v4.obj)), .i (.s (.int .i64 v4.n)), .i (.s (.int .i64 v4.undo)), .i (.s (.int .i64 v4.at_.time)), .i (.s (.int .i64 v4.at_.actor)), .i (.s (.string v4.key)), .i (.s (.string v4.text))] ∧ hh0.length + 1 < h.length) (fun h v h2 => i_impl_book_put 0 h v33 v h2) ?_ ?_ ?_
                  · simp (maxSteps := 2000000) (disch := first | omega | (simp only [List.length_set, List.length_append, List.length_cons, List.length_nil, rows_len, zs]; first | done | omega)) only [ep_impl_opOK, ep_impl_Op_thing, ep_impl_Op_stamp, ep_impl_StampLess, hb0, ftt0_0, ftt0_1, ftt0_2, ftt0_3, ftt0_4, ftt0_5, ftt0_6, hb3, hv4, hv5, hb6, hb7, hv22, (gv22).1, bv22, hr23, hl23, du24, nu24, hb25, hv26, (gv26).1, bv26, hk27, hb28, hk30, hv31, hb32, hv33, gs, reduceIte, reduceCtorEq, Nat.reduceAdd, Nat.reduceMul, Nat.reduceSub, Nat.reduceBEq, Nat.reduceEqDiff, Nat.reduceLeDiff, Nat.reduceLT, Nat.reduceGT, Int.reduceToNat, Int.reduceLT, Int.reduceLE, Int.reduceNeg, Int.reduceAdd, Int.reduceEq, Int.reduceNe, idxA_ptr, idxA_ip, retV_nil, at_app, at_app_set, enc_ob, enc_on, dec_ob, dec_on, ofI_ob, cells_ob, bookC_len, ev_ptr] <;> (repeat (first | omega | assumption | exact book_ext (by assumption) | exact book_new rfl | refine And.intro ?_ ?_))
                  · rintro h ⟨c4_0, c4_1, c4_2, c4_3, c4_4, c4_5⟩
                    exact e_impl_book_put _ _ _ hv33 _ h c4_0
                  · rintro hc4 v hh4 ⟨c4_0, c4_1, c4_2, c4_3, c4_4, c4_5⟩ hpost
                    obtain ⟨kk4, rfl, w4_0⟩ := hpost
                    have d4_0 : BookAt hh4 0 v33 := w4_0
                    have d4_0l := book_lt d4_0
                    have hp := Option.some.inj hp
                    subst hp
                    simp (maxSteps := 2000000) (disch := first | omega | (simp only [List.length_set, List.length_append, List.length_cons, List.length_nil, rows_len, zs]; first | done | omega)) only [ep_impl_opOK, ep_impl_Op_thing, ep_impl_Op_stamp, ep_impl_StampLess, hb0, ftt0_0, ftt0_1, ftt0_2, ftt0_3, ftt0_4, ftt0_5, ftt0_6, hb3, hv4, hv5, hb6, hb7, hv22, (gv22).1, bv22, hr23, hl23, du24, nu24, hb25, hv26, (gv26).1, bv26, hk27, hb28, hk30, hv31, hb32, hv33, d4_0, gs, reduceIte, reduceCtorEq, Nat.reduceAdd, Nat.reduceMul, Nat.reduceSub, Nat.reduceBEq, Nat.reduceEqDiff, Nat.reduceLeDiff, Nat.reduceLT, Nat.reduceGT, Int.reduceToNat, Int.reduceLT, Int.reduceLE, Int.reduceNeg, Int.reduceAdd, Int.reduceEq, Int.reduceNe, idxA_ptr, idxA_ip, retV_nil, at_app, at_app_set, enc_ob, enc_on, dec_ob, dec_on, ofI_ob, cells_ob, bookC_len, ev_ptr] <;> (repeat (first | omega | assumption | exact book_ext (by assumption) | exact book_new rfl | refine And.intro ?_ ?_))
                · replace hb32 := eq_false_of_ne_true hb32
                  rw [if_f hb32] at hp
                  have hp := Option.some.inj hp
                  subst hp
                  simp (maxSteps := 2000000) (disch := first | omega | (simp only [List.length_set, List.length_append, List.length_cons, List.length_nil, rows_len, zs]; first | done | omega)) only [ep_impl_opOK, ep_impl_Op_thing, ep_impl_Op_stamp, ep_impl_StampLess, hb0, ftt0_0, ftt0_1, ftt0_2, ftt0_3, ftt0_4, ftt0_5, ftt0_6, hb3, hv4, hv5, hb6, hb7, hv22, (gv22).1, bv22, hr23, hl23, du24, nu24, hb25, hv26, (gv26).1, bv26, hk27, hb28, hk30, hv31, hb32, gs, reduceIte, reduceCtorEq, Nat.reduceAdd, Nat.reduceMul, Nat.reduceSub, Nat.reduceBEq, Nat.reduceEqDiff, Nat.reduceLeDiff, Nat.reduceLT, Nat.reduceGT, Int.reduceToNat, Int.reduceLT, Int.reduceLE, Int.reduceNeg, Int.reduceAdd, Int.reduceEq, Int.reduceNe, idxA_ptr, idxA_ip, retV_nil, at_app, at_app_set, enc_ob, enc_on, dec_ob, dec_on, ofI_ob, cells_ob, bookC_len, ev_ptr]
            · replace hb25 := eq_false_of_ne_true hb25
              rw [if_f hb25] at hp
              have hp := Option.some.inj hp
              subst hp
              simp (maxSteps := 2000000) (disch := first | omega | (simp only [List.length_set, List.length_append, List.length_cons, List.length_nil, rows_len, zs]; first | done | omega)) only [ep_impl_opOK, ep_impl_Op_thing, ep_impl_Op_stamp, ep_impl_StampLess, hb0, ftt0_0, ftt0_1, ftt0_2, ftt0_3, ftt0_4, ftt0_5, ftt0_6, hb3, hv4, hv5, hb6, hb7, hv22, (gv22).1, bv22, hr23, hl23, du24, nu24, hb25, gs, reduceIte, reduceCtorEq, Nat.reduceAdd, Nat.reduceMul, Nat.reduceSub, Nat.reduceBEq, Nat.reduceEqDiff, Nat.reduceLeDiff, Nat.reduceLT, Nat.reduceGT, Int.reduceToNat, Int.reduceLT, Int.reduceLE, Int.reduceNeg, Int.reduceAdd, Int.reduceEq, Int.reduceNe, idxA_ptr, idxA_ip, retV_nil, at_app, at_app_set, enc_ob, enc_on, dec_ob, dec_on, ofI_ob, cells_ob, bookC_len, ev_ptr]
        · replace hb6 := eq_false_of_ne_true hb6
          rw [if_f hb6] at hp
          have hp := Option.some.inj hp
          subst hp
          simp (maxSteps := 2000000) (disch := first | omega | (simp only [List.length_set, List.length_append, List.length_cons, List.length_nil, rows_len, zs]; first | done | omega)) only [ep_impl_opOK, ep_impl_Op_thing, ep_impl_Op_stamp, ep_impl_StampLess, hb0, ftt0_0, ftt0_1, ftt0_2, ftt0_3, ftt0_4, ftt0_5, ftt0_6, hb3, hv4, hv5, hb6, gs, reduceIte, reduceCtorEq, Nat.reduceAdd, Nat.reduceMul, Nat.reduceSub, Nat.reduceBEq, Nat.reduceEqDiff, Nat.reduceLeDiff, Nat.reduceLT, Nat.reduceGT, Int.reduceToNat, Int.reduceLT, Int.reduceLE, Int.reduceNeg, Int.reduceAdd, Int.reduceEq, Int.reduceNe, idxA_ptr, idxA_ip, retV_nil, at_app, at_app_set, enc_ob, enc_on, dec_ob, dec_on, ofI_ob, cells_ob, bookC_len, ev_ptr]
      · replace hb3 := eq_false_of_ne_true hb3
        rw [if_f hb3] at hp
        have hp := Option.some.inj hp
        subst hp
        simp (maxSteps := 2000000) (disch := first | omega | (simp only [List.length_set, List.length_append, List.length_cons, List.length_nil, rows_len, zs]; first | done | omega)) only [ep_impl_opOK, ep_impl_Op_thing, ep_impl_Op_stamp, ep_impl_StampLess, hb0, ftt0_0, ftt0_1, ftt0_2, ftt0_3, ftt0_4, ftt0_5, ftt0_6, hb3, gs, reduceIte, reduceCtorEq, Nat.reduceAdd, Nat.reduceMul, Nat.reduceSub, Nat.reduceBEq, Nat.reduceEqDiff, Nat.reduceLeDiff, Nat.reduceLT, Nat.reduceGT, Int.reduceToNat, Int.reduceLT, Int.reduceLE, Int.reduceNeg, Int.reduceAdd, Int.reduceEq, Int.reduceNe, idxA_ptr, idxA_ip, retV_nil, at_app, at_app_set, enc_ob, enc_on, dec_ob, dec_on, ofI_ob, cells_ob, bookC_len, ev_ptr] <;> (repeat (first | omega | assumption | exact book_ext (by assumption) | exact book_new rfl | refine And.intro ?_ ?_))
    · simp (maxSteps := 2000000) (disch := first | omega | (simp only [List.length_set, List.length_append, List.length_cons, List.length_nil, rows_len, zs]; first | done | omega)) only [ep_impl_opOK, ep_impl_Op_thing, ep_impl_Op_stamp, ep_impl_StampLess, hb0, gs, reduceIte, reduceCtorEq, Nat.reduceAdd, Nat.reduceMul, Nat.reduceSub, Nat.reduceBEq, Nat.reduceEqDiff, Nat.reduceLeDiff, Nat.reduceLT, Nat.reduceGT, Int.reduceToNat, Int.reduceLT, Int.reduceLE, Int.reduceNeg, Int.reduceAdd, Int.reduceEq, Int.reduceNe, idxA_ptr, idxA_ip, retV_nil, at_app, at_app_set, enc_ob, enc_on, dec_ob, dec_on, ofI_ob, cells_ob, bookC_len, ev_ptr] <;> (repeat (first | omega | assumption | exact book_ext (by assumption) | exact book_new rfl | refine And.intro ?_ ?_))
    · intro x tt5 hh5 hx
      rcases ee0 with ⟨o34, o35⟩ | r
      · obtain ⟨rfl, ftt5_0, ftt5_1, ftt5_2, ftt5_3, ftt5_4, ftt5_5, ftt5_6⟩ := hx
        dsimp only at hp
        obtain ⟨ee2, hee2, hp⟩ := bind_eq hp
        simp (maxSteps := 2000000) (disch := first | omega | (simp only [List.length_set, List.length_append, List.length_cons, List.length_nil, rows_len, zs]; first | done | omega)) only [ep_impl_opOK, ep_impl_Op_thing, ep_impl_Op_stamp, ep_impl_StampLess, hb0, ftt5_0, ftt5_1, ftt5_2, ftt5_3, ftt5_4, ftt5_5, ftt5_6, gs, reduceIte, reduceCtorEq, Nat.reduceAdd, Nat.reduceMul, Nat.reduceSub, Nat.reduceBEq, Nat.reduceEqDiff, Nat.reduceLeDiff, Nat.reduceLT, Nat.reduceGT, Int.reduceToNat, Int.reduceLT, Int.reduceLE, Int.reduceNeg, Int.reduceAdd, Int.reduceEq, Int.reduceNe, idxA_ptr, idxA_ip, retV_nil, at_app, at_app_set, enc_ob, enc_on, dec_ob, dec_on, ofI_ob, cells_ob, bookC_len, ev_ptr]
        refine W_loopP 2 (fun s t h => match s with | s36 => t 4 = .ptr 0 120 0 ∧ t 79 = .i (.sl 12 (x0.map enc)) ∧ t 80 = .i (.s (.int .i64 (x0.length : Int))) ∧ t 81 = .i (.s (.int .i64 s36)) ∧ BookAt h 0 o34 ∧ 0 < h.length) (RK [.tmp 2, .tmp 3] (Tells false)) ?_ hee2 ?_ ?_
        · rintro s36 ee tt6 hh6 ⟨ftt6_0, ftt6_1, ftt6_2, ftt6_3, ftt6_4, ftt6_5⟩ hp
          rw [p_impl_readBook_l2] at hp
          try simp (maxSteps := 2000000) (disch := first | omega | (simp only [List.length_set, List.length_append, List.length_cons, List.length_nil, rows_len, zs]; first | done | omega)) only [ep_impl_opOK, ep_impl_Op_thing, ep_impl_Op_stamp, ep_impl_StampLess, hb0, ftt5_0, ftt5_1, ftt5_2, ftt5_3, ftt5_4, ftt5_5, ftt5_6, ftt6_0, ftt6_1, ftt6_2, ftt6_3, ftt6_4, ftt6_5, gs, reduceIte, reduceCtorEq, Nat.reduceAdd, Nat.reduceMul, Nat.reduceSub, Nat.reduceBEq, Nat.reduceEqDiff, Nat.reduceLeDiff, Nat.reduceLT, Nat.reduceGT, Int.reduceToNat, Int.reduceLT, Int.reduceLE, Int.reduceNeg, Int.reduceAdd, Int.reduceEq, Int.reduceNe, idxA_ptr, idxA_ip, retV_nil, at_app, at_app_set, enc_ob, enc_on, dec_ob, dec_on, ofI_ob, cells_ob, bookC_len, ev_ptr]
          by_cases hb37 : (decide (s36 < (x0.length : Int))) = true
          · rw [if_t hb37] at hp
            obtain ⟨v38, hv38, hp⟩ := bind_eq hp
            obtain ⟨ee1, hee1, hp⟩ := bind_eq hp
            simp (maxSteps := 2000000) (disch := first | omega | (simp only [List.length_set, List.length_append, List.length_cons, List.length_nil, rows_len, zs]; first | done | omega)) only [ep_impl_opOK, ep_impl_Op_thing, ep_impl_Op_stamp, ep_impl_StampLess, hb0, ftt5_0, ftt5_1, ftt5_2, ftt5_3, ftt5_4, ftt5_5, ftt5_6, ftt6_0, ftt6_1, ftt6_2, ftt6_3, ftt6_4, ftt6_5, hb37, hv38, gs, reduceIte, reduceCtorEq, Nat.reduceAdd, Nat.reduceMul, Nat.reduceSub, Nat.reduceBEq, Nat.reduceEqDiff, Nat.reduceLeDiff, Nat.reduceLT, Nat.reduceGT, Int.reduceToNat, Int.reduceLT, Int.reduceLE, Int.reduceNeg, Int.reduceAdd, Int.reduceEq, Int.reduceNe, idxA_ptr, idxA_ip, retV_nil, at_app, at_app_set, enc_ob, enc_on, dec_ob, dec_on, ofI_ob, cells_ob, bookC_len, ev_ptr]
            refine W_loopP 4 (fun s t h => match s with | s39 => t 4 = .ptr 0 120 0 ∧ t 8 = .ptr (hh6.length + 1) 12 0 ∧ t 79 = .i (.sl 12 (x0.map enc)) ∧ t 80 = .i (.s (.int .i64 (x0.length : Int))) ∧ t 81 = .i (.s (.int .i64 s36)) ∧ t 87 = .i (.sl 1 (v38.deps.counts.map enc)) ∧ t 88 = .i (.s (.int .i64 (v38.deps.counts.length : Int))) ∧ t 89 = .i (.s (.int .i64 s39)) ∧ BookAt h 0 o34 ∧ 0 < h.length ∧ getCells h (hh6.length + 1) 12 = some [.i (.s (.int .i64 v38.actor)), .i (.s (.int .i64 v38.seq)), .i (.s (.int .i64 v38.time)), .i (.sl 1 (v38.deps.counts.map enc)), .i (.s (.int .i64 v38.kind)), .i (.s (.int .i64 v38.obj)), .i (.s (.int .i64 v38.n)), .i (.s (.int .i64 v38.undo)), .i (.s (.int .i64 v38.at_.time)), .i (.s (.int .i64 v38.at_.actor)), .i (.s (.string v38.key)), .i (.s (.string v38.text))] ∧ hh6.length + 1 < h.length) (RK [.tmp 2, .tmp 3] (Tells false)) ?_ hee1 ?_ ?_
            · rintro s39 ee tt7 hh7 ⟨ftt7_0, ftt7_1, ftt7_2, ftt7_3, ftt7_4, ftt7_5, ftt7_6, ftt7_7, ftt7_8, ftt7_9, ftt7_10, ftt7_11⟩ hp
              rw [p_impl_readBook_l1] at hp
              try simp (maxSteps := 2000000) (disch := first | omega | (simp only [List.length_set, List.length_append, List.length_cons, List.length_nil, rows_len, zs]; first | done | omega)) only [ep_impl_opOK, ep_impl_Op_thing, ep_impl_Op_stamp, ep_impl_StampLess, hb0, ftt5_0, ftt5_1, ftt5_2, ftt5_3, ftt5_4, ftt5_5, ftt5_6, ftt6_0, ftt6_1, ftt6_2, ftt6_3, ftt6_4, ftt6_5, hb37, hv38, ftt7_0, ftt7_1, ftt7_2, ftt7_3, ftt7_4, ftt7_5, ftt7_6, ftt7_7, ftt7_8, ftt7_9, ftt7_10, ftt7_11, gs, reduceIte, reduceCtorEq, Nat.reduceAdd, Nat.reduceMul, Nat.reduceSub, Nat.reduceBEq, Nat.reduceEqDiff, Nat.reduceLeDiff, Nat.reduceLT, Nat.reduceGT, Int.reduceToNat, Int.reduceLT, Int.reduceLE, Int.reduceNeg, Int.reduceAdd, Int.reduceEq, Int.reduceNe, idxA_ptr, idxA_ip, retV_nil, at_app, at_app_set, enc_ob, enc_on, dec_ob, dec_on, ofI_ob, cells_ob, bookC_len, ev_ptr]
              by_cases hb40 : (decide (s39 < (v38.deps.counts.length : Int))) = true
              · rw [if_t hb40] at hp
                obtain ⟨v41, hv41, hp⟩ := bind_eq hp
                obtain ⟨v42, hv42, hp⟩ := bind_eq hp
                have gv42 := get_some hv42
                have bv42 : s39 < 16 := by have := gv42.2.1; have := (o34).h1; omega
                obtain ⟨vs43, hv43⟩ : BookAt hh7 0 o34 := by assumption
                have hr43 := hv43.row
                have hl43 := getCells_len hr43
                obtain ⟨u44, hu44⟩ : ∃ u, vs43[s39.toNat]? = some u := ⟨_, List.getElem?_eq_getElem (by have := gv42.2.1; have := (o34).h1; have := hv43.len; omega)⟩
                have du44 := ld_of (R := BR o34) hu44
                have ou44 := hv43.own _ _ _ hu44 gv42.2.2
                have nu44 := ownL_lenS ou44
                try simp (maxSteps := 2000000) (disch := first | omega | (simp only [List.length_set, List.length_append, List.length_cons, List.length_nil, rows_len, zs]; first | done | omega)) only [ep_impl_opOK, ep_impl_Op_thing, ep_impl_Op_stamp, ep_impl_StampLess, hb0, ftt5_0, ftt5_1, ftt5_2, ftt5_3, ftt5_4, ftt5_5, ftt5_6, ftt6_0, ftt6_1, ftt6_2, ftt6_3, ftt6_4, ftt6_5, hb37, hv38, ftt7_0, ftt7_1, ftt7_2, ftt7_3, ftt7_4, ftt7_5, ftt7_6, ftt7_7, ftt7_8, ftt7_9, ftt7_10, ftt7_11, hb40, hv41, hv42, (gv42).1, bv42, hr43, hl43, du44, nu44, gs, reduceIte, reduceCtorEq, Nat.reduceAdd, Nat.reduceMul, Nat.reduceSub, Nat.reduceBEq, Nat.reduceEqDiff, Nat.reduceLeDiff, Nat.reduceLT, Nat.reduceGT, Int.reduceToNat, Int.reduceLT, Int.reduceLE, Int.reduceNeg, Int.reduceAdd, Int.reduceEq, Int.reduceNe, idxA_ptr, idxA_ip, retV_nil, at_app, at_app_set, enc_ob, enc_on, dec_ob, dec_on, ofI_ob, cells_ob, bookC_len, ev_ptr]
                by_cases hb45 : (decide ((v42.length : Int) < v41)) = true
                · rw [if_t hb45] at hp
                  have hp := Option.some.inj hp
                  subst hp
                  simp (maxSteps := 2000000) (disch := first | omega | (simp only [List.length_set, List.length_append, List.length_cons, List.length_nil, rows_len, zs]; first | done | omega)) only [ep_impl_opOK, ep_impl_Op_thing, ep_impl_Op_stamp, ep_impl_StampLess, hb0, ftt5_0, ftt5_1, ftt5_2, ftt5_3, ftt5_4, ftt5_5, ftt5_6, ftt6_0, ftt6_1, ftt6_2, ftt6_3, ftt6_4, ftt6_5, hb37, hv38, ftt7_0, ftt7_1, ftt7_2, ftt7_3, ftt7_4, ftt7_5, ftt7_6, ftt7_7, ftt7_8, ftt7_9, ftt7_10, ftt7_11, hb40, hv41, hv42, (gv42).1, bv42, hr43, hl43, du44, nu44, hb45, gs, reduceIte, reduceCtorEq, Nat.reduceAdd, Nat.reduceMul, Nat.reduceSub, Nat.reduceBEq, Nat.reduceEqDiff, Nat.reduceLeDiff, Nat.reduceLT, Nat.reduceGT, Int.reduceToNat, Int.reduceLT, Int.reduceLE, Int.reduceNeg, Int.reduceAdd, Int.reduceEq, Int.reduceNe, idxA_ptr, idxA_ip, retV_nil, at_app, at_app_set, enc_ob, enc_on, dec_ob, dec_on, ofI_ob, cells_ob, bookC_len, ev_ptr]
                · replace hb45 := eq_false_of_ne_true hb45
                  rw [if_f hb45] at hp
                  try simp (maxSteps := 2000000) (disch := first | omega | (simp only [List.length_set, List.length_append, List.length_cons, List.length_nil, rows_len, zs]; first | done | omega)) only [ep_impl_opOK, ep_impl_Op_thing, ep_impl_Op_stamp, ep_impl_StampLess, hb0, ftt5_0, ftt5_1, ftt5_2, ftt5_3, ftt5_4, ftt5_5, ftt5_6, ftt6_0, ftt6_1, ftt6_2, ftt6_3, ftt6_4, ftt6_5, hb37, hv38, ftt7_0, ftt7_1, ftt7_2, ftt7_3, ftt7_4, ftt7_5, ftt7_6, ftt7_7, ftt7_8, ftt7_9, ftt7_10, ftt7_11, hb40, hv41, hv42, (gv42).1, bv42, hr43, hl43, du44, nu44, hb45, gs, reduceIte, reduceCtorEq, Nat.reduceAdd, Nat.reduceMul, Nat.reduceSub, Nat.reduceBEq, Nat.reduceEqDiff, Nat.reduceLeDiff, Nat.reduceLT, Nat.reduceGT, Int.reduceToNat, Int.reduceLT, Int.reduceLE, Int.reduceNeg, Int.reduceAdd, Int.reduceEq, Int.reduceNe, idxA_ptr, idxA_ip, retV_nil, at_app, at_app_set, enc_ob, enc_on, dec_ob, dec_on, ofI_ob, cells_ob, bookC_len, ev_ptr]
                  by_cases hb46 : (decide (0 < v41)) = true
                  · rw [if_t hb46] at hp
                    obtain ⟨v47, hv47, hp⟩ := bind_eq hp
                    have gv47 := get_some hv47
                    obtain ⟨cw44, evcw44, hccw44⟩ := ownL_idx ou44 hv47
                    have hl48 : List.take 12 (List.drop (((w64 (v41 - 1)).toNat) * 12) (rows v42)) = [.i (.s (.int .i64 v47.actor)), .i (.s (.int .i64 v47.seq)), .i (.s (.int .i64 v47.time)), .i (.sl 1 (v47.deps.counts.map enc)), .i (.s (.int .i64 v47.kind)), .i (.s (.int .i64 v47.obj)), .i (.s (.int .i64 v47.n)), .i (.s (.int .i64 v47.undo)), .i (.s (.int .i64 v47.at_.time)), .i (.s (.int .i64 v47.at_.actor)), .i (.s (.string v47.key)), .i (.s (.string v47.text))] := by simpa [zs, cellsV, I.cells, enc_TOp, enc_list] using rows_get_off (k := 0) (m := 12) gv47.2.2 (Nat.le_of_ble_eq_true rfl)
                    obtain ⟨v49, hv49, hp⟩ := bind_eq hp
                    obtain ⟨v50, hv50, hp⟩ := bind_eq hp
                    obtain ⟨v51, hv51, hp⟩ := bind_eq hp
                    try simp (maxSteps := 2000000) (disch := first | omega | (simp only [List.length_set, List.length_append, List.length_cons, List.length_nil, rows_len, zs]; first | done | omega)) only [ep_impl_opOK, ep_impl_Op_thing, ep_impl_Op_stamp, ep_impl_StampLess, hb0, ftt5_0, ftt5_1, ftt5_2, ftt5_3, ftt5_4, ftt5_5, ftt5_6, ftt6_0, ftt6_1, ftt6_2, ftt6_3, ftt6_4, ftt6_5, hb37, hv38, ftt7_0, ftt7_1, ftt7_2, ftt7_3, ftt7_4, ftt7_5, ftt7_6, ftt7_7, ftt7_8, ftt7_9, ftt7_10, ftt7_11, hb40, hv41, hv42, (gv42).1, bv42, hr43, hl43, du44, nu44, hb45, hb46, hv47, (gv47).1, (gv47).2.1, evcw44, hccw44, hl48, hv49, hv50, hv51, gs, reduceIte, reduceCtorEq, Nat.reduceAdd, Nat.reduceMul, Nat.reduceSub, Nat.reduceBEq, Nat.reduceEqDiff, Nat.reduceLeDiff, Nat.reduceLT, Nat.reduceGT, Int.reduceToNat, Int.reduceLT, Int.reduceLE, Int.reduceNeg, Int.reduceAdd, Int.reduceEq, Int.reduceNe, idxA_ptr, idxA_ip, retV_nil, at_app, at_app_set, enc_ob, enc_on, dec_ob, dec_on, ofI_ob, cells_ob, bookC_len, ev_ptr]
                    by_cases hb52 : (v51) = true
                    · rw [if_t hb52] at hp
                      have hp := Option.some.inj hp
                      subst hp
                      simp (maxSteps := 2000000) (disch := first | omega | (simp only [List.length_set, List.length_append, List.length_cons, List.length_nil, rows_len, zs]; first | done | omega)) only [ep_impl_opOK, ep_impl_Op_thing, ep_impl_Op_stamp, ep_impl_StampLess, hb0, ftt5_0, ftt5_1, ftt5_2, ftt5_3, ftt5_4, ftt5_5, ftt5_6, ftt6_0, ftt6_1, ftt6_2, ftt6_3, ftt6_4, ftt6_5, hb37, hv38, ftt7_0, ftt7_1, ftt7_2, ftt7_3, ftt7_4, ftt7_5, ftt7_6, ftt7_7, ftt7_8, ftt7_9, ftt7_10, ftt7_11, hb40, hv41, hv42, (gv42).1, bv42, hr43, hl43, du44, nu44, hb45, hb46, hv47, (gv47).1, (gv47).2.1, evcw44, hccw44, hl48, hv49, hv50, hv51, hb52, gs, reduceIte, reduceCtorEq, Nat.reduceAdd, Nat.reduceMul, Nat.reduceSub, Nat.reduceBEq, Nat.reduceEqDiff, Nat.reduceLeDiff, Nat.reduceLT, Nat.reduceGT, Int.reduceToNat, Int.reduceLT, Int.reduceLE, Int.reduceNeg, Int.reduceAdd, Int.reduceEq, Int.reduceNe, idxA_ptr, idxA_ip, retV_nil, at_app, at_app_set, enc_ob, enc_on, dec_ob, dec_on, ofI_ob, cells_ob, bookC_len, ev_ptr] <;> (repeat (first | omega | assumption | exact book_ext (by assumption) | exact book_new rfl | refine And.intro ?_ ?_))
                    · replace hb52 := eq_false_of_ne_true hb52
                      rw [if_f hb52] at hp
                      have hp := Option.some.inj hp
                      subst hp
                      simp (maxSteps := 2000000) (disch := first | omega | (simp only [List.length_set, List.length_append, List.length_cons, List.length_nil, rows_len, zs]; first | done | omega)) only [ep_impl_opOK, ep_impl_Op_thing, ep_impl_Op_stamp, ep_impl_StampLess, hb0, ftt5_0, ftt5_1, ftt5_2, ftt5_3, ftt5_4, ftt5_5, ftt5_6, ftt6_0, ftt6_1, ftt6_2, ftt6_3, ftt6_4, ftt6_5, hb37, hv38, ftt7_0, ftt7_1, ftt7_2, ftt7_3, ftt7_4, ftt7_5, ftt7_6, ftt7_7, ftt7_8, ftt7_9, ftt7_10, ftt7_11, hb40, hv41, hv42, (gv42).1, bv42, hr43, hl43, du44, nu44, hb45, hb46, hv47, (gv47).1, (gv47).2.1, evcw44, hccw44, hl48, hv49, hv50, hv51, hb52, gs, reduceIte, reduceCtorEq, Nat.reduceAdd, Nat.reduceMul, Nat.reduceSub, Nat.reduceBEq, Nat.reduceEqDiff, Nat.reduceLeDiff, Nat.reduceLT, Nat.reduceGT, Int.reduceToNat, Int.reduceLT, Int.reduceLE, Int.reduceNeg, Int.reduceAdd, Int.reduceEq, Int.reduceNe, idxA_ptr, idxA_ip, retV_nil, at_app, at_app_set, enc_ob, enc_on, dec_ob, dec_on, ofI_ob, cells_ob, bookC_len, ev_ptr]
                  · replace hb46 := eq_false_of_ne_true hb46
                    rw [if_f hb46] at hp
                    have hp := Option.some.inj hp
                    subst hp
                    simp (maxSteps := 2000000) (disch := first | omega | (simp only [List.length_set, List.length_append, List.length_cons, List.length_nil, rows_len, zs]; first | done | omega)) only [ep_impl_opOK, ep_impl_Op_thing, ep_impl_Op_stamp, ep_impl_StampLess, hb0, ftt5_0, ftt5_1, ftt5_2, ftt5_3, ftt5_4, ftt5_5, ftt5_6, ftt6_0, ftt6_1, ftt6_2, ftt6_3, ftt6_4, ftt6_5, hb37, hv38, ftt7_0, ftt7_1, ftt7_2, ftt7_3, ftt7_4, ftt7_5, ftt7_6, ftt7_7, ftt7_8, ftt7_9, ftt7_10, ftt7_11, hb40, hv41, hv42, (gv42).1, bv42, hr43, hl43, du44, nu44, hb45, hb46, gs, reduceIte, reduceCtorEq, Nat.reduceAdd, Nat.reduceMul, Nat.reduceSub, Nat.reduceBEq, Nat.reduceEqDiff, Nat.reduceLeDiff, Nat.reduceLT, Nat.reduceGT, Int.reduceToNat, Int.reduceLT, Int.reduceLE, Int.reduceNeg, Int.reduceAdd, Int.reduceEq, Int.reduceNe, idxA_ptr, idxA_ip, retV_nil, at_app, at_app_set, enc_ob, enc_on, dec_ob, dec_on, ofI_ob, cells_ob, bookC_len, ev_ptr] <;> (repeat (first | omega | assumption | exact book_ext (by assumption) | exact book_new rfl | refine And.intro ?_ ?_))
              · replace hb40 := eq_false_of_ne_true hb40
                rw [if_f hb40] at hp
                have hp := Option.some.inj hp
                subst hp
                simp (maxSteps := 2000000) (disch := first | omega | (simp only [List.length_set, List.length_append, List.length_cons, List.length_nil, rows_len, zs]; first | done | omega)) only [ep_impl_opOK, ep_impl_Op_thing, ep_impl_Op_stamp, ep_impl_StampLess, hb0, ftt5_0, ftt5_1, ftt5_2, ftt5_3, ftt5_4, ftt5_5, ftt5_6, ftt6_0, ftt6_1, ftt6_2, ftt6_3, ftt6_4, ftt6_5, hb37, hv38, ftt7_0, ftt7_1, ftt7_2, ftt7_3, ftt7_4, ftt7_5, ftt7_6, ftt7_7, ftt7_8, ftt7_9, ftt7_10, ftt7_11, hb40, gs, reduceIte, reduceCtorEq, Nat.reduceAdd, Nat.reduceMul, Nat.reduceSub, Nat.reduceBEq, Nat.reduceEqDiff, Nat.reduceLeDiff, Nat.reduceLT, Nat.reduceGT, Int.reduceToNat, Int.reduceLT, Int.reduceLE, Int.reduceNeg, Int.reduceAdd, Int.reduceEq, Int.reduceNe, idxA_ptr, idxA_ip, retV_nil, at_app, at_app_set, enc_ob, enc_on, dec_ob, dec_on, ofI_ob, cells_ob, bookC_len, ev_ptr] <;> (repeat (first | omega | assumption | exact book_ext (by assumption) | exact book_new rfl | refine And.intro ?_ ?_))
            · simp (maxSteps := 2000000) (disch := first | omega | (simp only [List.length_set, List.length_append, List.length_cons, List.length_nil, rows_len, zs]; first | done | omega)) only [ep_impl_opOK, ep_impl_Op_thing, ep_impl_Op_stamp, ep_impl_StampLess, hb0, ftt5_0, ftt5_1, ftt5_2, ftt5_3, ftt5_4, ftt5_5, ftt5_6, ftt6_0, ftt6_1, ftt6_2, ftt6_3, ftt6_4, ftt6_5, hb37, hv38, gs, reduceIte, reduceCtorEq, Nat.reduceAdd, Nat.reduceMul, Nat.reduceSub, Nat.reduceBEq, Nat.reduceEqDiff, Nat.reduceLeDiff, Nat.reduceLT, Nat.reduceGT, Int.reduceToNat, Int.reduceLT, Int.reduceLE, Int.reduceNeg, Int.reduceAdd, Int.reduceEq, Int.reduceNe, idxA_ptr, idxA_ip, retV_nil, at_app, at_app_set, enc_ob, enc_on, dec_ob, dec_on, ofI_ob, cells_ob, bookC_len, ev_ptr] <;> (repeat (first | omega | assumption | exact book_ext (by assumption) | exact book_new rfl | refine And.intro ?_ ?_))
            · intro x tt8 hh8 hx
              rcases ee1 with o53 | r
              · obtain ⟨rfl, ftt8_0, ftt8_1, ftt8_2, ftt8_3, ftt8_4, ftt8_5, ftt8_6, ftt8_7, ftt8_8, ftt8_9, ftt8_10, ftt8_11⟩ := hx
                dsimp only at hp
                have hp := Option.some.inj hp
                subst hp
                simp (maxSteps := 2000000) (disch := first | omega | (simp only [List.length_set, List.length_append, List.length_cons, List.length_nil, rows_len, zs]; first | done | omega)) only [ep_impl_opOK, ep_impl_Op_thing, ep_impl_Op_stamp, ep_impl_StampLess, hb0, ftt5_0, ftt5_1, ftt5_2, ftt5_3, ftt5_4, ftt5_5, ftt5_6, ftt6_0, ftt6_1, ftt6_2, ftt6_3, ftt6_4, ftt6_5, hb37, hv38, ftt8_0, ftt8_1, ftt8_2, ftt8_3, ftt8_4, ftt8_5, ftt8_6, ftt8_7, ftt8_8, ftt8_9, ftt8_10, ftt8_11, gs, reduceIte, reduceCtorEq, Nat.reduceAdd, Nat.reduceMul, Nat.reduceSub, Nat.reduceBEq, Nat.reduceEqDiff, Nat.reduceLeDiff, Nat.reduceLT, Nat.reduceGT, Int.reduceToNat, Int.reduceLT, Int.reduceLE, Int.reduceNeg, Int.reduceAdd, Int.reduceEq, Int.reduceNe, idxA_ptr, idxA_ip, retV_nil, at_app, at_app_set, enc_ob, enc_on, dec_ob, dec_on, ofI_ob, cells_ob, bookC_len, ev_ptr] <;> (repeat (first | omega | assumption | exact book_ext (by assumption) | exact book_new rfl | refine And.intro ?_ ?_))
              · obtain ⟨rfl, hx⟩ := hx
                dsimp only at hp
                cases hp
                simp only [seqK_ret, blockK_ret, retK_RK (K := Tells false), hx, and_self, true_and]
          · replace hb37 := eq_false_of_ne_true hb37
            rw [if_f hb37] at hp
            have hp := Option.some.inj hp
            subst hp
            simp (maxSteps := 2000000) (disch := first | omega | (simp only [List.length_set, List.length_append, List.length_cons, List.length_nil, rows_len, zs]; first | done | omega)) only [ep_impl_opOK, ep_impl_Op_thing, ep_impl_Op_stamp, ep_impl_StampLess, hb0, ftt5_0, ftt5_1, ftt5_2, ftt5_3, ftt5_4, ftt5_5, ftt5_6, ftt6_0, ftt6_1, ftt6_2, ftt6_3, ftt6_4, ftt6_5, hb37, gs, reduceIte, reduceCtorEq, Nat.reduceAdd, Nat.reduceMul, Nat.reduceSub, Nat.reduceBEq, Nat.reduceEqDiff, Nat.reduceLeDiff, Nat.reduceLT, Nat.reduceGT, Int.reduceToNat, Int.reduceLT, Int.reduceLE, Int.reduceNeg, Int.reduceAdd, Int.reduceEq, Int.reduceNe, idxA_ptr, idxA_ip, retV_nil, at_app, at_app_set, enc_ob, enc_on, dec_ob, dec_on, ofI_ob, cells_ob, bookC_len, ev_ptr] <;> (repeat (first | omega | assumption | exact book_ext (by assumption) | exact book_new rfl | refine And.intro ?_ ?_))
        · simp (maxSteps := 2000000) (disch := first | omega | (simp only [List.length_set, List.length_append, List.length_cons, List.length_nil, rows_len, zs]; first | done | omega)) only [ep_impl_opOK, ep_impl_Op_thing, ep_impl_Op_stamp, ep_impl_StampLess, hb0, ftt5_0, ftt5_1, ftt5_2, ftt5_3, ftt5_4, ftt5_5, ftt5_6, gs, reduceIte, reduceCtorEq, Nat.reduceAdd, Nat.reduceMul, Nat.reduceSub, Nat.reduceBEq, Nat.reduceEqDiff, Nat.reduceLeDiff, Nat.reduceLT, Nat.reduceGT, Int.reduceToNat, Int.reduceLT, Int.reduceLE, Int.reduceNeg, Int.reduceAdd, Int.reduceEq, Int.reduceNe, idxA_ptr, idxA_ip, retV_nil, at_app, at_app_set, enc_ob, enc_on, dec_ob, dec_on, ofI_ob, cells_ob, bookC_len, ev_ptr] <;> (repeat (first | omega | assumption | exact book_ext (by assumption) | exact book_new rfl | refine And.intro ?_ ?_))
        · intro x tt9 hh9 hx
          rcases ee2 with o54 | r
          · obtain ⟨rfl, ftt9_0, ftt9_1, ftt9_2, ftt9_3, ftt9_4, ftt9_5⟩ := hx
            dsimp only at hp
            obtain ⟨y0, sy0, dy0⟩ := snap_book (n := 5) (show BookAt hh9 0 o34 by assumption)
            have hp := Option.some.inj hp
            subst hp
            simp (maxSteps := 2000000) (disch := first | omega | (simp only [List.length_set, List.length_append, List.length_cons, List.length_nil, rows_len, zs]; first | done | omega)) only [ep_impl_opOK, ep_impl_Op_thing, ep_impl_Op_stamp, ep_impl_StampLess, hb0, ftt5_0, ftt5_1, ftt5_2, ftt5_3, ftt5_4, ftt5_5, ftt5_6, ftt9_0, ftt9_1, ftt9_2, ftt9_3, ftt9_4, ftt9_5, sy0, dy0, gs, reduceIte, reduceCtorEq, Nat.reduceAdd, Nat.reduceMul, Nat.reduceSub, Nat.reduceBEq, Nat.reduceEqDiff, Nat.reduceLeDiff, Nat.reduceLT, Nat.reduceGT, Int.reduceToNat, Int.reduceLT, Int.reduceLE, Int.reduceNeg, Int.reduceAdd, Int.reduceEq, Int.reduceNe, idxA_ptr, idxA_ip, retV_nil, at_app, at_app_set, enc_ob, enc_on, dec_ob, dec_on, ofI_ob, cells_ob, bookC_len, ev_ptr]
          · obtain ⟨rfl, hx⟩ := hx
            dsimp only at hp
            cases hp
            simp only [seqK_ret, blockK_ret, retK_RK (K := Tells false), hx, and_self, true_and]
      · obtain ⟨rfl, hx⟩ := hx
        dsimp only at hp
        cases hp
        simp only [seqK_ret, blockK_ret, retK_RK (K := Tells false), hx, and_self, true_and]

noncomputable def p_impl_LogOK (x0 : List TOp) : Option Bool :=
  (p_impl_readBook x0).bind fun v0 =>
  some v0.b
def c_impl_LogOK (f_impl_readBook : Nat) : AFn := ⟨11, (.seq (.ops [⟨(.some 2), (.mv (.const (.bool false))), .none, []⟩]) (.seq (.ops [⟨(.some 6), (.mv (.tmp 0)), .none, []⟩, ⟨(.some 7), (.call (2 * f_impl_readBook) [(.tmp 6)]), .none, []⟩, ⟨(.some 5), (.mv (.tmp 7)), .none, []⟩, ⟨(.some 8), (.extract 0 (.tmp 5)), .none, []⟩, ⟨(.some 9), (.extract 1 (.tmp 5)), .none, []⟩, ⟨(.some 3), (.mv (.tmp 8)), .none, []⟩, ⟨(.some 4), (.mv (.tmp 9)), .none, []⟩]) (.seq (.ops [⟨(.some 10), (.mv (.tmp 4)), .none, []⟩, ⟨(.some 2), (.mv (.tmp 10)), .none, []⟩]) .ret))), [(.tmp 2)]⟩
set_option maxHeartbeats 10000000 in
theorem d_impl_LogOK {P : Program} {env : Env} {f_impl_readBook : Nat}  (ep_impl_readBook : env (2 * f_impl_readBook) = pureFn false (FA fun a : List TOp => p_impl_readBook a)) (x0 : List TOp) {b : Bool} (hp : p_impl_LogOK x0 = some b) : R P env (c_impl_LogOK f_impl_readBook) ((encA (x0)).map ofI) [] (Tells true b) := by
  refine R_of (by simp [c_impl_LogOK, encA]) ?_
  unfold c_impl_LogOK
  unfold p_impl_LogOK at hp
  obtain ⟨v0, hv0, hp⟩ := bind_eq hp
  have hp := Option.some.inj hp
  subst hp
  simp (maxSteps := 2000000) (disch := first | omega | (simp only [List.length_set, List.length_append, List.length_cons, List.length_nil, rows_len, zs]; first | done | omega)) only [ep_impl_readBook, hv0, gs, reduceIte, reduceCtorEq, Nat.reduceAdd, Nat.reduceMul, Nat.reduceSub, Nat.reduceBEq, Nat.reduceEqDiff, Nat.reduceLeDiff, Nat.reduceLT, Nat.reduceGT, Int.reduceToNat, Int.reduceLT, Int.reduceLE, Int.reduceNeg, Int.reduceAdd, Int.reduceEq, Int.reduceNe, idxA_ptr, idxA_ip, retV_nil, at_app, at_app_set, enc_ob, enc_on, dec_ob, dec_on, ofI_ob, cells_ob, bookC_len, ev_ptr]

noncomputable def p_laws_eqIntS_l0 (x0 : List Int) (x1 : List Int) : Int → Option (Lp (Int) Bool)
  | s1 =>
    if (decide (s1 < (x0.length : Int))) = true then
      (get? x0 s1).bind fun v3 =>
      (get? x1 s1).bind fun v4 =>
      if (decide (v3 = v4)) = true then
        some (.go (w64 (s1 + 1)))
      else
        some (.ret false)
    else
      some (.out s1)
noncomputable def p_laws_eqIntS (x0 : List Int) (x1 : List Int) : Option Bool :=
  if (decide ((x0.length : Int) = (x1.length : Int))) = true then
    (loopP (p_laws_eqIntS_l0 x0 x1) 0).bind fun ee0 => match ee0 with
    | .ret r => some r
    | .out o6 =>
      some true
  else
    some false
def c_laws_eqIntS : AFn := ⟨26, (.seq (.ops [⟨(.some 4), (.mv (.const (.bool false))), .none, []⟩]) (.seq (.seq (.ops [⟨(.some 6), (.mv (.tmp 0)), .none, []⟩, ⟨(.some 7), (.len (.tmp 6)), .none, []⟩, ⟨(.some 8), (.mv (.tmp 1)), .none, []⟩, ⟨(.some 9), (.len (.tmp 8)), .none, []⟩, ⟨(.some 10), (.pu (.n (.ar .neq)) [(.tmp 7), (.tmp 9)]), .none, []⟩]) (.cond (.tmp 10) (.seq (.ops [⟨(.some 4), (.mv (.const (.bool false))), .none, []⟩]) .ret) .skip)) (.seq (.seq (.ops [⟨(.some 5), (.mv (.const (.int .i64 0))), .none, []⟩]) (.block 0 (.loop (.seq (.seq (.ops [⟨(.some 11), (.mv (.tmp 5)), .none, []⟩, ⟨(.some 12), (.mv (.tmp 0)), .none, []⟩, ⟨(.some 13), (.len (.tmp 12)), .none, []⟩, ⟨(.some 14), (.pu (.n (.ar .lss)) [(.tmp 11), (.tmp 13)]), .none, []⟩]) (.cond (.tmp 14) .skip (.exit 0))) (.seq (.block 1 (.seq (.ops [⟨(.some 17), (.mv (.tmp 0)), .none, []⟩, ⟨(.some 18), (.mv (.tmp 5)), .none, []⟩, ⟨(.some 19), (.idxS 1 (.tmp 17) (.tmp 18)), .none, []⟩, ⟨(.some 20), (.load 1 false (.tmp 19)), .none, []⟩, ⟨(.some 21), (.mv (.tmp 1)), .none, []⟩, ⟨(.some 22), (.mv (.tmp 5)), .none, []⟩, ⟨(.some 23), (.idxS 1 (.tmp 21) (.tmp 22)), .none, []⟩, ⟨(.some 24), (.load 1 false (.tmp 23)), .none, []⟩, ⟨(.some 25), (.pu (.n (.ar .neq)) [(.tmp 20), (.tmp 24)]), .none, []⟩]) (.cond (.tmp 25) (.seq (.ops [⟨(.some 4), (.mv (.const (.bool false))), .none, []⟩]) .ret) .skip))) (.ops [⟨(.some 15), (.mv (.tmp 5)), .none, []⟩, ⟨(.some 16), (.pu (.n (.ar .add)) [(.tmp 15), (.const (.int .i64 1))]), .none, []⟩, ⟨(.some 5), (.mv (.tmp 16)), .none, []⟩])))))) (.seq (.ops [⟨(.some 4), (.mv (.const (.bool true))), .none, []⟩]) .ret)))), [(.tmp 4)]⟩
set_option maxHeartbeats 10000000 in
theorem d_laws_eqIntS {P : Program} {env : Env}  (x0 : List Int) (x1 : List Int) {b : Bool} (hp : p_laws_eqIntS x0 x1 = some b) : R P env (c_laws_eqIntS) ((encA (x0, x1)).map ofI) [] (Tells true b) := by
  refine R_of (by simp [c_laws_eqIntS, encA]) ?_
  unfold c_laws_eqIntS
  unfold p_laws_eqIntS at hp
  by_cases hb0 : (decide ((x0.length : Int) = (x1.length : Int))) = true
  · rw [if_t hb0] at hp
    obtain ⟨ee0, hee0, hp⟩ := bind_eq hp
    simp (maxSteps := 2000000) (disch := first | omega | (simp only [List.length_set, List.length_append, List.length_cons, List.length_nil, rows_len, zs]; first | done | omega)) only [hb0, gs, reduceIte, reduceCtorEq, Nat.reduceAdd, Nat.reduceMul, Nat.reduceSub, Nat.reduceBEq, Nat.reduceEqDiff, Nat.reduceLeDiff, Nat.reduceLT, Nat.reduceGT, Int.reduceToNat, Int.reduceLT, Int.reduceLE, Int.reduceNeg, Int.reduceAdd, Int.reduceEq, Int.reduceNe, idxA_ptr, idxA_ip, retV_nil, at_app, at_app_set, enc_ob, enc_on, dec_ob, dec_on, ofI_ob, cells_ob, bookC_len, ev_ptr]
    refine W_loopP 0 (fun s t h => match s with | s1 => t 0 = .i (.sl 1 (x0.map enc)) ∧ t 1 = .i (.sl 1 (x1.map enc)) ∧ t 5 = .i (.s (.int .i64 s1))) (RK [.tmp 4] (Tells true)) ?_ hee0 ?_ ?_
    · rintro s1 ee tt0 hh0 ⟨ftt0_0, ftt0_1, ftt0_2⟩ hp
      rw [p_laws_eqIntS_l0] at hp
      by_cases hb2 : (decide (s1 < (x0.length : Int))) = true
      · rw [if_t hb2] at hp
        obtain ⟨v3, hv3, hp⟩ := bind_eq hp
        obtain ⟨v4, hv4, hp⟩ := bind_eq hp
        by_cases hb5 : (decide (v3 = v4)) = true
        · rw [if_t hb5] at hp
          have hp := Option.some.inj hp
          subst hp
          simp (maxSteps := 2000000) (disch := first | omega | (simp only [List.length_set, List.length_append, List.length_cons, List.length_nil, rows_len, zs]; first | done | omega)) only [hb0, ftt0_0, ftt0_1, ftt0_2, hb2, hv3, hv4, hb5, gs, reduceIte, reduceCtorEq, Nat.reduceAdd, Nat.reduceMul, Nat.reduceSub, Nat.reduceBEq, Nat.reduceEqDiff, Nat.reduceLeDiff, Nat.reduceLT, Nat.reduceGT, Int.reduceToNat, Int.reduceLT, Int.reduceLE, Int.reduceNeg, Int.reduceAdd, Int.reduceEq, Int.reduceNe, idxA_ptr, idxA_ip, retV_nil, at_app, at_app_set, enc_ob, enc_on, dec_ob, dec_on, ofI_ob, cells_ob, bookC_len, ev_ptr] <;> omega
        · replace hb5 := eq_false_of_ne_true hb5
          rw [if_f hb5] at hp
          have hp := Option.some.inj hp
          subst hp
          simp (maxSteps := 2000000) (disch := first | omega | (simp only [List.length_set, List.length_append, List.length_cons, List.length_nil, rows_len, zs]; first | done | omega)) only [hb0, ftt0_0, ftt0_1, ftt0_2, hb2, hv3, hv4, hb5, gs, reduceIte, reduceCtorEq, Nat.reduceAdd, Nat.reduceMul, Nat.reduceSub, Nat.reduceBEq, Nat.reduceEqDiff, Nat.reduceLeDiff, Nat.reduceLT, Nat.reduceGT, Int.reduceToNat, Int.reduceLT, Int.reduceLE, Int.reduceNeg, Int.reduceAdd, Int.reduceEq, Int.reduceNe, idxA_ptr, idxA_ip, retV_nil, at_app, at_app_set, enc_ob, enc_on, dec_ob, dec_on, ofI_ob, cells_ob, bookC_len, ev_ptr]
      · replace hb2 := eq_false_of_ne_true hb2
        rw [if_f hb2] at hp
        have hp := Option.some.inj hp
        subst hp
        simp (maxSteps := 2000000) (disch := first | omega | (simp only [List.length_set, List.length_append, List.length_cons, List.length_nil, rows_len, zs]; first | done | omega)) only [hb0, ftt0_0, ftt0_1, ftt0_2, hb2, gs, reduceIte, reduceCtorEq, Nat.reduceAdd, Nat.reduceMul, Nat.reduceSub, Nat.reduceBEq, Nat.reduceEqDiff, Nat.reduceLeDiff, Nat.reduceLT, Nat.reduceGT, Int.reduceToNat, Int.reduceLT, Int.reduceLE, Int.reduceNeg, Int.reduceAdd, Int.reduceEq, Int.reduceNe, idxA_ptr, idxA_ip, retV_nil, at_app, at_app_set, enc_ob, enc_on, dec_ob, dec_on, ofI_ob, cells_ob, bookC_len, ev_ptr] <;> omega
    · simp (maxSteps := 2000000) (disch := first | omega | (simp only [List.length_set, List.length_append, List.length_cons, List.length_nil, rows_len, zs]; first | done | omega)) only [hb0, gs, reduceIte, reduceCtorEq, Nat.reduceAdd, Nat.reduceMul, Nat.reduceSub, Nat.reduceBEq, Nat.reduceEqDiff, Nat.reduceLeDiff, Nat.reduceLT, Nat.reduceGT, Int.reduceToNat, Int.reduceLT, Int.reduceLE, Int.reduceNeg, Int.reduceAdd, Int.reduceEq, Int.reduceNe, idxA_ptr, idxA_ip, retV_nil, at_app, at_app_set, enc_ob, enc_on, dec_ob, dec_on, ofI_ob, cells_ob, bookC_len, ev_ptr] <;> omega
    · intro x tt1 hh1 hx
      rcases ee0 with o6 | r
      · obtain ⟨rfl, ftt1_0, ftt1_1, ftt1_2⟩ := hx
        dsimp only at hp
        have hp := Option.some.inj hp
        subst hp
        simp (maxSteps := 2000000) (disch := first | omega | (simp only [List.length_set, List.length_append, List.length_cons, List.length_nil, rows_len, zs]; first | done | omega)) only [hb0, ftt1_0, ftt1_1, ftt1_2, gs, reduceIte, reduceCtorEq, Nat.reduceAdd, Nat.reduceMul, Nat.reduceSub, Nat.reduceBEq, Nat.reduceEqDiff, Nat.reduceLeDiff, Nat.reduceLT, Nat.reduceGT, Int.reduceToNat, Int.reduceLT, Int.reduceLE, Int.reduceNeg, Int.reduceAdd, Int.reduceEq, Int.reduceNe, idxA_ptr, idxA_ip, retV_nil, at_app, at_app_set, enc_ob, enc_on, dec_ob, dec_on, ofI_ob, cells_ob, bookC_len, ev_ptr]
      · obtain ⟨rfl, hx⟩ := hx
        dsimp only at hp
        cases hp
        simp only [seqK_ret, blockK_ret, retK_RK (K := Tells true), hx, and_self, true_and]
  · replace hb0 := eq_false_of_ne_true hb0
    rw [if_f hb0] at hp
    have hp := Option.some.inj hp
    subst hp
    simp (maxSteps := 2000000) (disch := first | omega | (simp only [List.length_set, List.length_append, List.length_cons, List.length_nil, rows_len, zs]; first | done | omega)) only [hb0, gs, reduceIte, reduceCtorEq, Nat.reduceAdd, Nat.reduceMul, Nat.reduceSub, Nat.reduceBEq, Nat.reduceEqDiff, Nat.reduceLeDiff, Nat.reduceLT, Nat.reduceGT, Int.reduceToNat, Int.reduceLT, Int.reduceLE, Int.reduceNeg, Int.reduceAdd, Int.reduceEq, Int.reduceNe, idxA_ptr, idxA_ip, retV_nil, at_app, at_app_set, enc_ob, enc_on, dec_ob, dec_on, ofI_ob, cells_ob, bookC_len, ev_ptr]

noncomputable def p_laws_eqVector (x0 : TVec) (x1 : TVec) : Option Bool :=
  (p_laws_eqIntS x0.counts x1.counts).bind fun v0 =>
  if (v0) = true then
    some true
  else
    some false
def c_laws_eqVector (f_laws_eqIntS : Nat) : AFn := ⟨11, (.seq (.ops [⟨(.some 2), (.box (.tmp 0)), .none, []⟩, ⟨(.some 3), (.box (.tmp 1)), .none, []⟩, ⟨(.some 4), (.mv (.const (.bool false))), .none, []⟩]) (.seq (.seq (.ops [⟨(.some 5), (.fieldA 0 (.tmp 2)), .none, []⟩, ⟨(.some 6), (.load 1 false (.tmp 5)), .none, []⟩, ⟨(.some 7), (.fieldA 0 (.tmp 3)), .none, []⟩, ⟨(.some 8), (.load 1 false (.tmp 7)), .none, []⟩, ⟨(.some 9), (.call (2 * f_laws_eqIntS) [(.tmp 6), (.tmp 8)]), .none, []⟩, ⟨(.some 10), (.pu (.n (.un .not)) [(.tmp 9)]), .none, []⟩]) (.cond (.tmp 10) (.seq (.ops [⟨(.some 4), (.mv (.const (.bool false))), .none, []⟩]) .ret) .skip)) (.seq (.ops [⟨(.some 4), (.mv (.const (.bool true))), .none, []⟩]) .ret))), [(.tmp 4)]⟩
set_option maxHeartbeats 10000000 in
theorem d_laws_eqVector {P : Program} {env : Env} {f_laws_eqIntS : Nat}  (ep_laws_eqIntS : env (2 * f_laws_eqIntS) = pureFn true (FA fun a : List Int × List Int => p_laws_eqIntS a.1 a.2)) (x0 : TVec) (x1 : TVec) {b : Bool} (hp : p_laws_eqVector x0 x1 = some b) : R P env (c_laws_eqVector f_laws_eqIntS) ((encA (x0, x1)).map ofI) [] (Tells true b) := by
  refine R_of (by simp [c_laws_eqVector, encA]) ?_
  unfold c_laws_eqVector
  unfold p_laws_eqVector at hp
  obtain ⟨v0, hv0, hp⟩ := bind_eq hp
  by_cases hb1 : (v0) = true
  · rw [if_t hb1] at hp
    have hp := Option.some.inj hp
    subst hp
    simp (maxSteps := 2000000) (disch := first | omega | (simp only [List.length_set, List.length_append, List.length_cons, List.length_nil, rows_len, zs]; first | done | omega)) only [ep_laws_eqIntS, hv0, hb1, gs, reduceIte, reduceCtorEq, Nat.reduceAdd, Nat.reduceMul, Nat.reduceSub, Nat.reduceBEq, Nat.reduceEqDiff, Nat.reduceLeDiff, Nat.reduceLT, Nat.reduceGT, Int.reduceToNat, Int.reduceLT, Int.reduceLE, Int.reduceNeg, Int.reduceAdd, Int.reduceEq, Int.reduceNe, idxA_ptr, idxA_ip, retV_nil, at_app, at_app_set, enc_ob, enc_on, dec_ob, dec_on, ofI_ob, cells_ob, bookC_len, ev_ptr]
  · replace hb1 := eq_false_of_ne_true hb1
    rw [if_f hb1] at hp
    have hp := Option.some.inj hp
    subst hp
    simp (maxSteps := 2000000) (disch := first | omega | (simp only [List.length_set, List.length_append, List.length_cons, List.length_nil, rows_len, zs]; first | done | omega)) only [ep_laws_eqIntS, hv0, hb1, gs, reduceIte, reduceCtorEq, Nat.reduceAdd, Nat.reduceMul, Nat.reduceSub, Nat.reduceBEq, Nat.reduceEqDiff, Nat.reduceLeDiff, Nat.reduceLT, Nat.reduceGT, Int.reduceToNat, Int.reduceLT, Int.reduceLE, Int.reduceNeg, Int.reduceAdd, Int.reduceEq, Int.reduceNe, idxA_ptr, idxA_ip, retV_nil, at_app, at_app_set, enc_ob, enc_on, dec_ob, dec_on, ofI_ob, cells_ob, bookC_len, ev_ptr]

noncomputable def p_laws_eqStamp (x0 : TStamp) (x1 : TStamp) : Option Bool :=
  if (decide (x0.time = x1.time)) = true then
    if (decide (x0.actor = x1.actor)) = true then
      some true
    else
      some false
  else
    some false
def c_laws_eqStamp : AFn := ⟨15, (.seq (.ops [⟨(.some 2), (.box (.tmp 0)), .none, []⟩, ⟨(.some 3), (.box (.tmp 1)), .none, []⟩, ⟨(.some 4), (.mv (.const (.bool false))), .none, []⟩]) (.seq (.seq (.ops [⟨(.some 5), (.fieldA 0 (.tmp 2)), .none, []⟩, ⟨(.some 6), (.load 1 false (.tmp 5)), .none, []⟩, ⟨(.some 7), (.fieldA 0 (.tmp 3)), .none, []⟩, ⟨(.some 8), (.load 1 false (.tmp 7)), .none, []⟩, ⟨(.some 9), (.pu (.n (.ar .neq)) [(.tmp 6), (.tmp 8)]), .none, []⟩]) (.cond (.tmp 9) (.seq (.ops [⟨(.some 4), (.mv (.const (.bool false))), .none, []⟩]) .ret) .skip)) (.seq (.seq (.ops [⟨(.some 10), (.fieldA 1 (.tmp 2)), .none, []⟩, ⟨(.some 11), (.load 1 false (.tmp 10)), .none, []⟩, ⟨(.some 12), (.fieldA 1 (.tmp 3)), .none, []⟩, ⟨(.some 13), (.load 1 false (.tmp 12)), .none, []⟩, ⟨(.some 14), (.pu (.n (.ar .neq)) [(.tmp 11), (.tmp 13)]), .none, []⟩]) (.cond (.tmp 14) (.seq (.ops [⟨(.some 4), (.mv (.const (.bool false))), .none, []⟩]) .ret) .skip)) (.seq (.ops [⟨(.some 4), (.mv (.const (.bool true))), .none, []⟩]) .ret)))), [(.tmp 4)]⟩
set_option maxHeartbeats 10000000 in
theorem d_laws_eqStamp {P : Program} {env : Env}  (x0 : TStamp) (x1 : TStamp) {b : Bool} (hp : p_laws_eqStamp x0 x1 = some b) : R P env (c_laws_eqStamp) ((encA (x0, x1)).map ofI) [] (Tells true b) := by
  refine R_of (by simp [c_laws_eqStamp, encA]) ?_
  unfold c_laws_eqStamp
  unfold p_laws_eqStamp at hp
  by_cases hb0 : (decide (x0.time = x1.time)) = true
  · rw [if_t hb0] at hp
    by_cases hb1 : (decide (x0.actor = x1.actor)) = true
    · rw [if_t hb1] at hp
      have hp := Option.some.inj hp
      subst hp
      simp (maxSteps := 2000000) (disch := first | omega | (simp only [List.length_set, List.length_append, List.length_cons, List.length_nil, rows_len, zs]; first | done | omega)) only [hb0, hb1, gs, reduceIte, reduceCtorEq, Nat.reduceAdd, Nat.reduceMul, Nat.reduceSub, Nat.reduceBEq, Nat.reduceEqDiff, Nat.reduceLeDiff, Nat.reduceLT, Nat.reduceGT, Int.reduceToNat, Int.reduceLT, Int.reduceLE, Int.reduceNeg, Int.reduceAdd, Int.reduceEq, Int.reduceNe, idxA_ptr, idxA_ip, retV_nil, at_app, at_app_set, enc_ob, enc_on, dec_ob, dec_on, ofI_ob, cells_ob, bookC_len, ev_ptr]
    · replace hb1 := eq_false_of_ne_true hb1
      rw [if_f hb1] at hp
      have hp := Option.some.inj hp
      subst hp
      simp (maxSteps := 2000000) (disch := first | omega | (simp only [List.length_set, List.length_append, List.length_cons, List.length_nil, rows_len, zs]; first | done | omega)) only [hb0, hb1, gs, reduceIte, reduceCtorEq, Nat.reduceAdd, Nat.reduceMul, Nat.reduceSub, Nat.reduceBEq, Nat.reduceEqDiff, Nat.reduceLeDiff, Nat.reduceLT, Nat.reduceGT, Int.reduceToNat, Int.reduceLT, Int.reduceLE, Int.reduceNeg, Int.reduceAdd, Int.reduceEq, Int.reduceNe, idxA_ptr, idxA_ip, retV_nil, at_app, at_app_set, enc_ob, enc_on, dec_ob, dec_on, ofI_ob, cells_ob, bookC_len, ev_ptr]
  · replace hb0 := eq_false_of_ne_true hb0
    rw [if_f hb0] at hp
    have hp := Option.some.inj hp
    subst hp
    simp (maxSteps := 2000000) (disch := first | omega | (simp only [List.length_set, List.length_append, List.length_cons, List.length_nil, rows_len, zs]; first | done | omega)) only [hb0, gs, reduceIte, reduceCtorEq, Nat.reduceAdd, Nat.reduceMul, Nat.reduceSub, Nat.reduceBEq, Nat.reduceEqDiff, Nat.reduceLeDiff, Nat.reduceLT, Nat.reduceGT, Int.reduceToNat, Int.reduceLT, Int.reduceLE, Int.reduceNeg, Int.reduceAdd, Int.reduceEq, Int.reduceNe, idxA_ptr, idxA_ip, retV_nil, at_app, at_app_set, enc_ob, enc_on, dec_ob, dec_on, ofI_ob, cells_ob, bookC_len, ev_ptr]

noncomputable def p_laws_eqOp (x0 : TOp) (x1 : TOp) : Option Bool :=
  if (decide (x0.actor = x1.actor)) = true then
    if (decide (x0.seq = x1.seq)) = true then
      if (decide (x0.time = x1.time)) = true then
        (p_laws_eqVector x0.deps x1.deps).bind fun v3 =>
        if (v3) = true then
          if (decide (x0.kind = x1.kind)) = true then
            if (decide (x0.obj = x1.obj)) = true then
              if (decide (x0.n = x1.n)) = true then
                if (decide (x0.undo = x1.undo)) = true then
                  (p_laws_eqStamp x0.at_ x1.at_).bind fun v9 =>
                  if (v9) = true then
                    if (decide (x0.key = x1.key)) = true then
                      if (decide (x0.text = x1.text)) = true then
                        some true
                      else
                        some false
                    else
                      some false
                  else
                    some false
                else
                  some false
              else
                some false
            else
              some false
          else
            some false
        else
          some false
      else
        some false
    else
      some false
  else
    some false
def c_laws_eqOp (f_laws_eqVector : Nat) (f_laws_eqStamp : Nat) : AFn := ⟨62, (.seq (.ops [⟨(.some 2), (.box (.tmp 0)), .none, []⟩, ⟨(.some 3), (.box (.tmp 1)), .none, []⟩, ⟨(.some 4), (.mv (.const (.bool false))), .none, []⟩]) (.seq (.seq (.ops [⟨(.some 5), (.fieldA 0 (.tmp 2)), .none, []⟩, ⟨(.some 6), (.load 1 false (.tmp 5)), .none, []⟩, ⟨(.some 7), (.fieldA 0 (.tmp 3)), .none, []⟩, ⟨(.some 8), (.load 1 false (.tmp 7)), .none, []⟩, ⟨(.some 9), (.pu (.n (.ar .neq)) [(.tmp 6), (.tmp 8)]), .none, []⟩]) (.cond (.tmp 9) (.seq (.ops [⟨(.some 4), (.mv (.const (.bool false))), .none, []⟩]) .ret) .skip)) (.seq (.seq (.ops [⟨(.some 10), (.fieldA 1 (.tmp 2)), .none, []⟩, ⟨(.some 11), (.load 1 false (.tmp 10)), .none, []⟩, ⟨(.some 12), (.fieldA 1 (.tmp 3)), .none, []⟩, ⟨(.some 13), (.load 1 false (.tmp 12)), .none, []⟩, ⟨(.some 14), (.pu (.n (.ar .neq)) [(.tmp 11), (.tmp 13)]), .none, []⟩]) (.cond (.tmp 14) (.seq (.ops [⟨(.some 4), (.mv (.const (.bool false))), .none, []⟩]) .ret) .skip)) (.seq (.seq (.ops [⟨(.some 15), (.fieldA 2 (.tmp 2)), .none, []⟩, ⟨(.some 16), (.load 1 false (.tmp 15)), .none, []⟩, ⟨(.some 17), (.fieldA 2 (.tmp 3)), .none, []⟩, ⟨(.some 18), (.load 1 false (.tmp 17)), .none, []⟩, ⟨(.some 19), (.pu (.n (.ar .neq)) [(.tmp 16), (.tmp 18)]), .none, []⟩]) (.cond (.tmp 19) (.seq (.ops [⟨(.some 4), (.mv (.const (.bool false))), .none, []⟩]) .ret) .skip)) (.seq (.seq (.ops [⟨(.some 20), (.fieldA 3 (.tmp 2)), .none, []⟩, ⟨(.some 21), (.load 1 true (.tmp 20)), .none, []⟩, ⟨(.some 22), (.fieldA 3 (.tmp 3)), .none, []⟩, ⟨(.some 23), (.load 1 true (.tmp 22)), .none, []⟩, ⟨(.some 24), (.call (2 * f_laws_eqVector) [(.tmp 21), (.tmp 23)]), .none, []⟩, ⟨(.some 25), (.pu (.n (.un .not)) [(.tmp 24)]), .none, []⟩]) (.cond (.tmp 25) (.seq (.ops [⟨(.some 4), (.mv (.const (.bool false))), .none, []⟩]) .ret) .skip)) (.seq (.seq (.ops [⟨(.some 26), (.fieldA 4 (.tmp 2)), .none, []⟩, ⟨(.some 27), (.load 1 false (.tmp 26)), .none, []⟩, ⟨(.some 28), (.fieldA 4 (.tmp 3)), .none, []⟩, ⟨(.some 29), (.load 1 false (.tmp 28)), .none, []⟩, ⟨(.some 30), (.pu (.n (.ar .neq)) [(.tmp 27), (.tmp 29)]), .none, []⟩]) (.cond (.tmp 30) (.seq (.ops [⟨(.some 4), (.mv (.const (.bool false))), .none, []⟩]) .ret) .skip)) (.seq (.seq (.ops [⟨(.some 31), (.fieldA 5 (.tmp 2)), .none, []⟩, ⟨(.some 32), (.load 1 false (.tmp 31)), .none, []⟩, ⟨(.some 33), (.fieldA 5 (.tmp 3)), .none, []⟩, ⟨(.some 34), (.load 1 false (.tmp 33)), .none, []⟩, ⟨(.some 35), (.pu (.n (.ar .neq)) [(.tmp 32), (.tmp 34)]), .none, []⟩]) (.cond (.tmp 35) (.seq (.ops [⟨(.some 4), (.mv (.const (.bool false))), .none, []⟩]) .ret) .skip)) (.seq (.seq (.ops [⟨(.some 36), (.fieldA 6 (.tmp 2)), .none, []⟩, ⟨(.some 37), (.load 1 false (.tmp 36)), .none, []⟩, ⟨(.some 38), (.fieldA 6 (.tmp 3)), .none, []⟩, ⟨(.some 39), (.load 1 false (.tmp 38)), .none, []⟩, ⟨(.some 40), (.pu (.n (.ar .neq)) [(.tmp 37), (.tmp 39)]), .none, []⟩]) (.cond (.tmp 40) (.seq (.ops [⟨(.some 4), (.mv (.const (.bool false))), .none, []⟩]) .ret) .skip)) (.seq (.seq (.ops [⟨(.some 41), (.fieldA 7 (.tmp 2)), .none, []⟩, ⟨(.some 42), (.load 1 false (.tmp 41)), .none, []⟩, ⟨(.some 43), (.fieldA 7 (.tmp 3)), .none, []⟩, ⟨(.some 44), (.load 1 false (.tmp 43)), .none, []⟩, ⟨(.some 45), (.pu (.n (.ar .neq)) [(.tmp 42), (.tmp 44)]), .none, []⟩]) (.cond (.tmp 45) (.seq (.ops [⟨(.some 4), (.mv (.const (.bool false))), .none, []⟩]) .ret) .skip)) (.seq (.seq (.ops [⟨(.some 46), (.fieldA 8 (.tmp 2)), .none, []⟩, ⟨(.some 47), (.load 2 true (.tmp 46)), .none, []⟩, ⟨(.some 48), (.fieldA 8 (.tmp 3)), .none, []⟩, ⟨(.some 49), (.load 2 true (.tmp 48)), .none, []⟩, ⟨(.some 50), (.call (2 * f_laws_eqStamp) [(.tmp 47), (.tmp 49)]), .none, []⟩, ⟨(.some 51), (.pu (.n (.un .not)) [(.tmp 50)]), .none, []⟩]) (.cond (.tmp 51) (.seq (.ops [⟨(.some 4), (.mv (.const (.bool false))), .none, []⟩]) .ret) .skip)) (.seq (.seq (.ops [⟨(.some 52), (.fieldA 10 (.tmp 2)), .none, []⟩, ⟨(.some 53), (.load 1 false (.tmp 52)), .none, []⟩, ⟨(.some 54), (.fieldA 10 (.tmp 3)), .none, []⟩, ⟨(.some 55), (.load 1 false (.tmp 54)), .none, []⟩, ⟨(.some 56), (.pu (.n (.ar .neq)) [(.tmp 53), (.tmp 55)]), .none, []⟩]) (.cond (.tmp 56) (.seq (.ops [⟨(.some 4), (.mv (.const (.bool false))), .none, []⟩]) .ret) .skip)) (.seq (.seq (.ops [⟨(.some 57), (.fieldA 11 (.tmp 2)), .none, []⟩, ⟨(.some 58), (.load 1 false (.tmp 57)), .none, []⟩, ⟨(.some 59), (.fieldA 11 (.tmp 3)), .none, []⟩, ⟨(.some 60), (.load 1 false (.tmp 59)), .none, []⟩, ⟨(.some 61), (.pu (.n (.ar .neq)) [(.tmp 58), (.tmp 60)]), .none, []⟩]) (.cond (.tmp 61) (.seq (.ops [⟨(.some 4), (.mv (.const (.bool false))), .none, []⟩]) .ret) .skip)) (.seq (.ops [⟨(.some 4), (.mv (.const (.bool true))), .none, []⟩]) .ret))))))))))))), [(.tmp 4)]⟩
set_option maxHeartbeats 10000000 in
theorem d_laws_eqOp {P : Program} {env : Env} {f_laws_eqVector : Nat} {f_laws_eqStamp : Nat}  (ep_laws_eqVector : env (2 * f_laws_eqVector) = pureFn true (FA fun a : TVec × TVec => p_laws_eqVector a.1 a.2)) (ep_laws_eqStamp : env (2 * f_laws_eqStamp) = pureFn true (FA fun a : TStamp × TStamp => p_laws_eqStamp a.1 a.2)) (x0 : TOp) (x1 : TOp) {b : Bool} (hp : p_laws_eqOp x0 x1 = some b) : R P env (c_laws_eqOp f_laws_eqVector f_laws_eqStamp) ((encA (x0, x1)).map ofI) [] (Tells true b) := by
  refine R_of (by simp [c_laws_eqOp, encA]) ?_
  unfold c_laws_eqOp
  unfold p_laws_eqOp at hp
  by_cases hb0 : (decide (x0.actor = x1.actor)) = true
  · rw [if_t hb0] at hp
    by_cases hb1 : (decide (x0.seq = x1.seq)) = true
    · rw [if_t hb1] at hp
      by_cases hb2 : (decide (x0.time = x1.time)) = true
      · rw [if_t hb2] at hp
        obtain ⟨v3, hv3, hp⟩ := bind_eq hp
        by_cases hb4 : (v3) = true
        · rw [if_t hb4] at hp
          by_cases hb5 : (decide (x0.kind = x1.kind)) = true
          · rw [if_t hb5] at hp
            by_cases hb6 : (decide (x0.obj = x1.obj)) = true
            · rw [if_t hb6] at hp
              by_cases hb7 : (decide (x0.n = x1.n)) = true
              · rw [if_t hb7] at hp
                by_cases hb8 : (decide (x0.undo = x1.undo)) = true
                · rw [if_t hb8] at hp
                  obtain ⟨v9, hv9, hp⟩ := bind_eq hp
                  by_cases hb10 : (v9) = true
                  · rw [if_t hb10] at hp
                    by_cases hb11 : (decide (x0.key = x1.key)) = true
                    · rw [if_t hb11] at hp
                      by_cases hb12 : (decide (x0.text = x1.text)) = true
                      · rw [if_t hb12] at hp
                        have hp := Option.some.inj hp
                        subst hp
                        simp (maxSteps := 2000000) (disch := first | omega | (simp only [List.length_set, List.length_append, List.length_cons, List.length_nil, rows_len, zs]; first | done | omega)) only [ep_laws_eqVector, ep_laws_eqStamp, hb0, hb1, hb2, hv3, hb4, hb5, hb6, hb7, hb8, hv9, hb10, hb11, hb12, gs, reduceIte, reduceCtorEq, Nat.reduceAdd, Nat.reduceMul, Nat.reduceSub, Nat.reduceBEq, Nat.reduceEqDiff, Nat.reduceLeDiff, Nat.reduceLT, Nat.reduceGT, Int.reduceToNat, Int.reduceLT, Int.reduceLE, Int.reduceNeg, Int.reduceAdd, Int.reduceEq, Int.reduceNe, idxA_ptr, idxA_ip, retV_nil, at_app, at_app_set, enc_ob, enc_on, dec_ob, dec_on, ofI_ob, cells_ob, bookC_len, ev_ptr]
                      · replace hb12 := eq_false_of_ne_true hb12
                        rw [if_f hb12] at hp
                        have hp := Option.some.inj hp
                        subst hp
                        simp (maxSteps := 2000000) (disch := first | omega | (simp only [List.length_set, List.length_append, List.length_cons, List.length_nil, rows_len, zs]; first | done | omega)) only [ep_laws_eqVector, ep_laws_eqStamp, hb0, hb1, hb2, hv3, hb4, hb5, hb6, hb7, hb8, hv9, hb10, hb11, hb12, gs, reduceIte, reduceCtorEq, Nat.reduceAdd, Nat.reduceMul, Nat.reduceSub, Nat.reduceBEq, Nat.reduceEqDiff, Nat.reduceLeDiff, Nat.reduceLT, Nat.reduceGT, Int.reduceToNat, Int.reduceLT, Int.reduceLE, Int.reduceNeg, Int.reduceAdd, Int.reduceEq, Int.reduceNe, idxA_ptr, idxA_ip, retV_nil, at_app, at_app_set, enc_ob, enc_on, dec_ob, dec_on, ofI_ob, cells_ob, bookC_len, ev_ptr]
                    · replace hb11 := eq_false_of_ne_true hb11
                      rw [if_f hb11] at hp
                      have hp := Option.some.inj hp
                      subst hp
                      simp (maxSteps := 2000000) (disch := first | omega | (simp only [List.length_set, List.length_append, List.length_cons, List.length_nil, rows_len, zs]; first | done | omega)) only [ep_laws_eqVector, ep_laws_eqStamp, hb0, hb1, hb2, hv3, hb4, hb5, hb6, hb7, hb8, hv9, hb10, hb11, gs, reduceIte, reduceCtorEq, Nat.reduceAdd, Nat.reduceMul, Nat.reduceSub, Nat.reduceBEq, Nat.reduceEqDiff, Nat.reduceLeDiff, Nat.reduceLT, Nat.reduceGT, Int.reduceToNat, Int.reduceLT, Int.reduceLE, Int.reduceNeg, Int.reduceAdd, Int.reduceEq, Int.reduceNe, idxA_ptr, idxA_ip, retV_nil, at_app, at_app_set, enc_ob, enc_on, dec_ob, dec_on, ofI_ob, cells_ob, bookC_len, ev_ptr]
                  · replace hb10 := eq_false_of_ne_true hb10
                    rw [if_f hb10] at hp
                    have hp := Option.some.inj hp
                    subst hp
                    simp (maxSteps := 2000000) (disch := first | omega | (simp only [List.length_set, List.length_append, List.length_cons, List.length_nil, rows_len, zs]; first | done | omega)) only [ep_laws_eqVector, ep_laws_eqStamp, hb0, hb1, hb2, hv3, hb4, hb5, hb6, hb7, hb8, hv9, hb10, gs, reduceIte, reduceCtorEq, Nat.reduceAdd, Nat.reduceMul, Nat.reduceSub, Nat.reduceBEq, Nat.reduceEqDiff, Nat.reduceLeDiff, Nat.reduceLT, Nat.reduceGT, Int.reduceToNat, Int.reduceLT, Int.reduceLE, Int.reduceNeg, Int.reduceAdd, Int.reduceEq, Int.reduceNe, idxA_ptr, idxA_ip, retV_nil, at_app, at_app_set, enc_ob, enc_on, dec_ob, dec_on, ofI_ob, cells_ob, bookC_len, ev_ptr]
                · replace hb8 := eq_false_of_ne_true hb8
                  rw [if_f hb8] at hp
                  have hp := Option.some.inj hp
                  subst hp
                  simp (maxSteps := 2000000) (disch := first | omega | (simp only [List.length_set, List.length_append, List.length_cons, List.length_nil, rows_len, zs]; first | done | omega)) only [ep_laws_eqVector, ep_laws_eqStamp, hb0, hb1, hb2, hv3, hb4, hb5, hb6, hb7, hb8, gs, reduceIte, reduceCtorEq, Nat.reduceAdd, Nat.reduceMul, Nat.reduceSub, Nat.reduceBEq, Nat.reduceEqDiff, Nat.reduceLeDiff, Nat.reduceLT, Nat.reduceGT, Int.reduceToNat, Int.reduceLT, Int.reduceLE, Int.reduceNeg, Int.reduceAdd, Int.reduceEq, Int.reduceNe, idxA_ptr, idxA_ip, retV_nil, at_app, at_app_set, enc_ob, enc_on, dec_ob, dec_on, ofI_ob, cells_ob, bookC_len, ev_ptr]
              · replace hb7 := eq_false_of_ne_true hb7
                rw [if_f hb7] at hp
                have hp := Option.some.inj hp
                subst hp
                simp (maxSteps := 2000000) (disch := first | omega | (simp only [List.length_set, List.length_append, List.length_cons, List.length_nil, rows_len, zs]; first | done | omega)) only [ep_laws_eqVector, ep_laws_eqStamp, hb0, hb1, hb2, hv3, hb4, hb5, hb6, hb7, gs, reduceIte, reduceCtorEq, Nat.reduceAdd, Nat.reduceMul, Nat.reduceSub, Nat.reduceBEq, Nat.reduceEqDiff, Nat.reduceLeDiff, Nat.reduceLT, Nat.reduceGT, Int.reduceToNat, Int.reduceLT, Int.reduceLE, Int.reduceNeg, Int.reduceAdd, Int.reduceEq, Int.reduceNe, idxA_ptr, idxA_ip, retV_nil, at_app, at_app_set, enc_ob, enc_on, dec_ob, dec_on, ofI_ob, cells_ob, bookC_len, ev_ptr]
            · replace hb6 := eq_false_of_ne_true hb6
              rw [if_f hb6] at hp
              have hp := Option.some.inj hp
              subst hp
              simp (maxSteps := 2000000) (disch := first | omega | (simp only [List.length_set, List.length_append, List.length_cons, List.length_nil, rows_len, zs]; first | done | omega)) only [ep_laws_eqVector, ep_laws_eqStamp, hb0, hb1, hb2, hv3, hb4, hb5, hb6, gs, reduceIte, reduceCtorEq, Nat.reduceAdd, Nat.reduceMul, Nat.reduceSub, Nat.reduceBEq, Nat.reduceEqDiff, Nat.reduceLeDiff, Nat.reduceLT, Nat.reduceGT, Int.reduceToNat, Int.reduceLT, Int.reduceLE, Int.reduceNeg, Int.reduceAdd, Int.reduceEq, Int.reduceNe, idxA_ptr, idxA_ip, retV_nil, at_app, at_app_set, enc_ob, enc_on, dec_ob, dec_on, ofI_ob, cells_ob, bookC_len, ev_ptr]
          · replace hb5 := eq_false_of_ne_true hb5
            rw [if_f hb5] at hp
            have hp := Option.some.inj hp
            subst hp
            simp (maxSteps := 2000000) (disch := first | omega | (simp only [List.length_set, List.length_append, List.length_cons, List.length_nil, rows_len, zs]; first | done | omega)) only [ep_laws_eqVector, ep_laws_eqStamp, hb0, hb1, hb2, hv3, hb4, hb5, gs, reduceIte, reduceCtorEq, Nat.reduceAdd, Nat.reduceMul, Nat.reduceSub, Nat.reduceBEq, Nat.reduceEqDiff, Nat.reduceLeDiff, Nat.reduceLT, Nat.reduceGT, Int.reduceToNat, Int.reduceLT, Int.reduceLE, Int.reduceNeg, Int.reduceAdd, Int.reduceEq, Int.reduceNe, idxA_ptr, idxA_ip, retV_nil, at_app, at_app_set, enc_ob, enc_on, dec_ob, dec_on, ofI_ob, cells_ob, bookC_len, ev_ptr]
        · replace hb4 := eq_false_of_ne_true hb4
          rw [if_f hb4] at hp
          have hp := Option.some.inj hp
          subst hp
          simp (maxSteps := 2000000) (disch := first | omega | (simp only [List.length_set, List.length_append, List.length_cons, List.length_nil, rows_len, zs]; first | done | omega)) only [ep_laws_eqVector, ep_laws_eqStamp, hb0, hb1, hb2, hv3, hb4, gs, reduceIte, reduceCtorEq, Nat.reduceAdd, Nat.reduceMul, Nat.reduceSub, Nat.reduceBEq, Nat.reduceEqDiff, Nat.reduceLeDiff, Nat.reduceLT, Nat.reduceGT, Int.reduceToNat, Int.reduceLT, Int.reduceLE, Int.reduceNeg, Int.reduceAdd, Int.reduceEq, Int.reduceNe, idxA_ptr, idxA_ip, retV_nil, at_app, at_app_set, enc_ob, enc_on, dec_ob, dec_on, ofI_ob, cells_ob, bookC_len, ev_ptr]
      · replace hb2 := eq_false_of_ne_true hb2
        rw [if_f hb2] at hp
        have hp := Option.some.inj hp
        subst hp
        simp (maxSteps := 2000000) (disch := first | omega | (simp only [List.length_set, List.length_append, List.length_cons, List.length_nil, rows_len, zs]; first | done | omega)) only [ep_laws_eqVector, ep_laws_eqStamp, hb0, hb1, hb2, gs, reduceIte, reduceCtorEq, Nat.reduceAdd, Nat.reduceMul, Nat.reduceSub, Nat.reduceBEq, Nat.reduceEqDiff, Nat.reduceLeDiff, Nat.reduceLT, Nat.reduceGT, Int.reduceToNat, Int.reduceLT, Int.reduceLE, Int.reduceNeg, Int.reduceAdd, Int.reduceEq, Int.reduceNe, idxA_ptr, idxA_ip, retV_nil, at_app, at_app_set, enc_ob, enc_on, dec_ob, dec_on, ofI_ob, cells_ob, bookC_len, ev_ptr]
    · replace hb1 := eq_false_of_ne_true hb1
      rw [if_f hb1] at hp
      have hp := Option.some.inj hp
      subst hp
      simp (maxSteps := 2000000) (disch := first | omega | (simp only [List.length_set, List.length_append, List.length_cons, List.length_nil, rows_len, zs]; first | done | omega)) only [ep_laws_eqVector, ep_laws_eqStamp, hb0, hb1, gs, reduceIte, reduceCtorEq, Nat.reduceAdd, Nat.reduceMul, Nat.reduceSub, Nat.reduceBEq, Nat.reduceEqDiff, Nat.reduceLeDiff, Nat.reduceLT, Nat.reduceGT, Int.reduceToNat, Int.reduceLT, Int.reduceLE, Int.reduceNeg, Int.reduceAdd, Int.reduceEq, Int.reduceNe, idxA_ptr, idxA_ip, retV_nil, at_app, at_app_set, enc_ob, enc_on, dec_ob, dec_on, ofI_ob, cells_ob, bookC_len, ev_ptr]
  · replace hb0 := eq_false_of_ne_true hb0
    rw [if_f hb0] at hp
    have hp := Option.some.inj hp
    subst hp
    simp (maxSteps := 2000000) (disch := first | omega | (simp only [List.length_set, List.length_append, List.length_cons, List.length_nil, rows_len, zs]; first | done | omega)) only [ep_laws_eqVector, ep_laws_eqStamp, hb0, gs, reduceIte, reduceCtorEq, Nat.reduceAdd, Nat.reduceMul, Nat.reduceSub, Nat.reduceBEq, Nat.reduceEqDiff, Nat.reduceLeDiff, Nat.reduceLT, Nat.reduceGT, Int.reduceToNat, Int.reduceLT, Int.reduceLE, Int.reduceNeg, Int.reduceAdd, Int.reduceEq, Int.reduceNe, idxA_ptr, idxA_ip, retV_nil, at_app, at_app_set, enc_ob, enc_on, dec_ob, dec_on, ofI_ob, cells_ob, bookC_len, ev_ptr]

noncomputable def p_laws_eqOpS_l0 (x0 : List TOp) (x1 : List TOp) : Int → Option (Lp (Int) Bool)
  | s1 =>
    if (decide (s1 < (x0.length : Int))) = true then
      (get? x0 s1).bind fun v3 =>
      (get? x1 s1).bind fun v4 =>
      (p_laws_eqOp v3 v4).bind fun v5 =>
      if (v5) = true then
        some (.go (w64 (s1 + 1)))
      else
        some (.ret false)
    else
      some (.out s1)
noncomputable def p_laws_eqOpS (x0 : List TOp) (x1 : List TOp) : Option Bool :=
  if (decide ((x0.length : Int) = (x1.length : Int))) = true then
    (loopP (p_laws_eqOpS_l0 x0 x1) 0).bind fun ee0 => match ee0 with
    | .ret r => some r
    | .out o7 =>
      some true
  else
    some false
def c_laws_eqOpS (f_laws_eqOp : Nat) : AFn := ⟨27, (.seq (.ops [⟨(.some 4), (.mv (.const (.bool false))), .none, []⟩]) (.seq (.seq (.ops [⟨(.some 6), (.mv (.tmp 0)), .none, []⟩, ⟨(.some 7), (.len (.tmp 6)), .none, []⟩, ⟨(.some 8), (.mv (.tmp 1)), .none, []⟩, ⟨(.some 9), (.len (.tmp 8)), .none, []⟩, ⟨(.some 10), (.pu (.n (.ar .neq)) [(.tmp 7), (.tmp 9)]), .none, []⟩]) (.cond (.tmp 10) (.seq (.ops [⟨(.some 4), (.mv (.const (.bool false))), .none, []⟩]) .ret) .skip)) (.seq (.seq (.ops [⟨(.some 5), (.mv (.const (.int .i64 0))), .none, []⟩]) (.block 0 (.loop (.seq (.seq (.ops [⟨(.some 11), (.mv (.tmp 5)), .none, []⟩, ⟨(.some 12), (.mv (.tmp 0)), .none, []⟩, ⟨(.some 13), (.len (.tmp 12)), .none, []⟩, ⟨(.some 14), (.pu (.n (.ar .lss)) [(.tmp 11), (.tmp 13)]), .none, []⟩]) (.cond (.tmp 14) .skip (.exit 0))) (.seq (.block 1 (.seq (.ops [⟨(.some 17), (.mv (.tmp 0)), .none, []⟩, ⟨(.some 18), (.mv (.tmp 5)), .none, []⟩, ⟨(.some 19), (.idxS 12 (.tmp 17) (.tmp 18)), .none, []⟩, ⟨(.some 20), (.load 12 true (.tmp 19)), .none, []⟩, ⟨(.some 21), (.mv (.tmp 1)), .none, []⟩, ⟨(.some 22), (.mv (.tmp 5)), .none, []⟩, ⟨(.some 23), (.idxS 12 (.tmp 21) (.tmp 22)), .none, []⟩, ⟨(.some 24), (.load 12 true (.tmp 23)), .none, []⟩, ⟨(.some 25), (.call (2 * f_laws_eqOp) [(.tmp 20), (.tmp 24)]), .none, []⟩, ⟨(.some 26), (.pu (.n (.un .not)) [(.tmp 25)]), .none, []⟩]) (.cond (.tmp 26) (.seq (.ops [⟨(.some 4), (.mv (.const (.bool false))), .none, []⟩]) .ret) .skip))) (.ops [⟨(.some 15), (.mv (.tmp 5)), .none, []⟩, ⟨(.some 16), (.pu (.n (.ar .add)) [(.tmp 15), (.const (.int .i64 1))]), .none, []⟩, ⟨(.some 5), (.mv (.tmp 16)), .none, []⟩])))))) (.seq (.ops [⟨(.some 4), (.mv (.const (.bool true))), .none, []⟩]) .ret)))), [(.tmp 4)]⟩
set_option maxHeartbeats 10000000 in
theorem d_laws_eqOpS {P : Program} {env : Env} {f_laws_eqOp : Nat}  (ep_laws_eqOp : env (2 * f_laws_eqOp) = pureFn true (FA fun a : TOp × TOp => p_laws_eqOp a.1 a.2)) (x0 : List TOp) (x1 : List TOp) {b : Bool} (hp : p_laws_eqOpS x0 x1 = some b) : R P env (c_laws_eqOpS f_laws_eqOp) ((encA (x0, x1)).map ofI) [] (Tells true b) := by
  refine R_of (by simp [c_laws_eqOpS, encA]) ?_
  unfold c_laws_eqOpS
  unfold p_laws_eqOpS at hp
  by_cases hb0 : (decide ((x0.length : Int) = (x1.length : Int))) = true
  · rw [if_t hb0] at hp
    obtain ⟨ee0, hee0, hp⟩ := bind_eq hp
    simp (maxSteps := 2000000) (disch := first | omega | (simp only [List.length_set, List.length_append, List.length_cons, List.length_nil, rows_len, zs]; first | done | omega)) only [ep_laws_eqOp, hb0, gs, reduceIte, reduceCtorEq, Nat.reduceAdd, Nat.reduceMul, Nat.reduceSub, Nat.reduceBEq, Nat.reduceEqDiff, Nat.reduceLeDiff, Nat.reduceLT, Nat.reduceGT, Int.reduceToNat, Int.reduceLT, Int.reduceLE, Int.reduceNeg, Int.reduceAdd, Int.reduceEq, Int.reduceNe, idxA_ptr, idxA_ip, retV_nil, at_app, at_app_set, enc_ob, enc_on, dec_ob, dec_on, ofI_ob, cells_ob, bookC_len, ev_ptr]
    refine W_loopP 0 (fun s t h => match s with | s1 => t 0 = .i (.sl 12 (x0.map enc)) ∧ t 1 = .i (.sl 12 (x1.map enc)) ∧ t 5 = .i (.s (.int .i64 s1))) (RK [.tmp 4] (Tells true)) ?_ hee0 ?_ ?_
    · rintro s1 ee tt0 hh0 ⟨ftt0_0, ftt0_1, ftt0_2⟩ hp
      rw [p_laws_eqOpS_l0] at hp
      by_cases hb2 : (decide (s1 < (x0.length : Int))) = true
      · rw [if_t hb2] at hp
        obtain ⟨v3, hv3, hp⟩ := bind_eq hp
        obtain ⟨v4, hv4, hp⟩ := bind_eq hp
        obtain ⟨v5, hv5, hp⟩ := bind_eq hp
        by_cases hb6 : (v5) = true
        · rw [if_t hb6] at hp
          have hp := Option.some.inj hp
          subst hp
          simp (maxSteps := 2000000) (disch := first | omega | (simp only [List.length_set, List.length_append, List.length_cons, List.length_nil, rows_len, zs]; first | done | omega)) only [ep_laws_eqOp, hb0, ftt0_0, ftt0_1, ftt0_2, hb2, hv3, hv4, hv5, hb6, gs, reduceIte, reduceCtorEq, Nat.reduceAdd, Nat.reduceMul, Nat.reduceSub, Nat.reduceBEq, Nat.reduceEqDiff, Nat.reduceLeDiff, Nat.reduceLT, Nat.reduceGT, Int.reduceToNat, Int.reduceLT, Int.reduceLE, Int.reduceNeg, Int.reduceAdd, Int.reduceEq, Int.reduceNe, idxA_ptr, idxA_ip, retV_nil, at_app, at_app_set, enc_ob, enc_on, dec_ob, dec_on, ofI_ob, cells_ob, bookC_len, ev_ptr] <;> omega
        · replace hb6 := eq_false_of_ne_true hb6
          rw [if_f hb6] at hp
          have hp := Option.some.inj hp
          subst hp
          simp (maxSteps := 2000000) (disch := first | omega | (simp only [List.length_set, List.length_append, List.length_cons, List.length_nil, rows_len, zs]; first | done | omega)) only [ep_laws_eqOp, hb0, ftt0_0, ftt0_1, ftt0_2, hb2, hv3, hv4, hv5, hb6, gs, reduceIte, reduceCtorEq, Nat.reduceAdd, Nat.reduceMul, Nat.reduceSub, Nat.reduceBEq, Nat.reduceEqDiff, Nat.reduceLeDiff, Nat.reduceLT, Nat.reduceGT, Int.reduceToNat, Int.reduceLT, Int.reduceLE, Int.reduceNeg, Int.reduceAdd, Int.reduceEq, Int.reduceNe, idxA_ptr, idxA_ip, retV_nil, at_app, at_app_set, enc_ob, enc_on, dec_ob, dec_on, ofI_ob, cells_ob, bookC_len, ev_ptr]
      · replace hb2 := eq_false_of_ne_true hb2
        rw [if_f hb2] at hp
        have hp := Option.some.inj hp
        subst hp
        simp (maxSteps := 2000000) (disch := first | omega | (simp only [List.length_set, List.length_append, List.length_cons, List.length_nil, rows_len, zs]; first | done | omega)) only [ep_laws_eqOp, hb0, ftt0_0, ftt0_1, ftt0_2, hb2, gs, reduceIte, reduceCtorEq, Nat.reduceAdd, Nat.reduceMul, Nat.reduceSub, Nat.reduceBEq, Nat.reduceEqDiff, Nat.reduceLeDiff, Nat.reduceLT, Nat.reduceGT, Int.reduceToNat, Int.reduceLT, Int.reduceLE, Int.reduceNeg, Int.reduceAdd, Int.reduceEq, Int.reduceNe, idxA_ptr, idxA_ip, retV_nil, at_app, at_app_set, enc_ob, enc_on, dec_ob, dec_on, ofI_ob, cells_ob, bookC_len, ev_ptr] <;> omega
    · simp (maxSteps := 2000000) (disch := first | omega | (simp only [List.length_set, List.length_append, List.length_cons, List.length_nil, rows_len, zs]; first | done | omega)) only [ep_laws_eqOp, hb0, gs, reduceIte, reduceCtorEq, Nat.reduceAdd, Nat.reduceMul, Nat.reduceSub, Nat.reduceBEq, Nat.reduceEqDiff, Nat.reduceLeDiff, Nat.reduceLT, Nat.reduceGT, Int.reduceToNat, Int.reduceLT, Int.reduceLE, Int.reduceNeg, Int.reduceAdd, Int.reduceEq, Int.reduceNe, idxA_ptr, idxA_ip, retV_nil, at_app, at_app_set, enc_ob, enc_on, dec_ob, dec_on, ofI_ob, cells_ob, bookC_len, ev_ptr] <;> omega
    · intro x tt1 hh1 hx
      rcases ee0 with o7 | r
      · obtain ⟨rfl, ftt1_0, ftt1_1, ftt1_2⟩ := hx
        dsimp only at hp
        have hp := Option.some.inj hp
        subst hp
        simp (maxSteps := 2000000) (disch := first | omega | (simp only [List.length_set, List.length_append, List.length_cons, List.length_nil, rows_len, zs]; first | done | omega)) only [ep_laws_eqOp, hb0, ftt1_0, ftt1_1, ftt1_2, gs, reduceIte, reduceCtorEq, Nat.reduceAdd, Nat.reduceMul, Nat.reduceSub, Nat.reduceBEq, Nat.reduceEqDiff, Nat.reduceLeDiff, Nat.reduceLT, Nat.reduceGT, Int.reduceToNat, Int.reduceLT, Int.reduceLE, Int.reduceNeg, Int.reduceAdd, Int.reduceEq, Int.reduceNe, idxA_ptr, idxA_ip, retV_nil, at_app, at_app_set, enc_ob, enc_on, dec_ob, dec_on, ofI_ob, cells_ob, bookC_len, ev_ptr]
      · obtain ⟨rfl, hx⟩ := hx
        dsimp only at hp
        cases hp
        simp only [seqK_ret, blockK_ret, retK_RK (K := Tells true), hx, and_self, true_and]
  · replace hb0 := eq_false_of_ne_true hb0
    rw [if_f hb0] at hp
    have hp := Option.some.inj hp
    subst hp
    simp (maxSteps := 2000000) (disch := first | omega | (simp only [List.length_set, List.length_append, List.length_cons, List.length_nil, rows_len, zs]; first | done | omega)) only [ep_laws_eqOp, hb0, gs, reduceIte, reduceCtorEq, Nat.reduceAdd, Nat.reduceMul, Nat.reduceSub, Nat.reduceBEq, Nat.reduceEqDiff, Nat.reduceLeDiff, Nat.reduceLT, Nat.reduceGT, Int.reduceToNat, Int.reduceLT, Int.reduceLE, Int.reduceNeg, Int.reduceAdd, Int.reduceEq, Int.reduceNe, idxA_ptr, idxA_ip, retV_nil, at_app, at_app_set, enc_ob, enc_on, dec_ob, dec_on, ofI_ob, cells_ob, bookC_len, ev_ptr]

noncomputable def p_laws_FnExactLogOK (x0 : List TOp) : Option Bool :=
  (p_laws_szOpS x0 1048576).bind fun v0 =>
  if (decide (v0 < 0)) = true then
    some true
  else
    (p_laws_toOpS x0).bind fun v2 =>
    (p_spec_LogOK v2).bind fun v3 =>
    (p_impl_LogOK v2).bind fun v4 =>
    if ((xor true (v4 == v3))) = true then
      some false
    else
      (p_laws_eqOpS v2 v2).bind fun v6 =>
      if (v6) = true then
        some true
      else
        some false
def c_laws_FnExactLogOK (f_laws_szOpS : Nat) (f_laws_toOpS : Nat) (f_spec_LogOK : Nat) (f_impl_LogOK : Nat) (f_laws_eqOpS : Nat) : AFn := ⟨27, (.seq (.ops [⟨(.some 2), (.mv (.const (.bool false))), .none, []⟩]) (.seq (.ops [⟨(.some 3), (.mv (.const (.int .i64 1048576))), .none, []⟩]) (.seq (.ops [⟨(.some 7), (.mv (.tmp 0)), .none, []⟩, ⟨(.some 8), (.mv (.tmp 3)), .none, []⟩, ⟨(.some 9), (.call (2 * f_laws_szOpS) [(.tmp 7), (.tmp 8)]), .none, []⟩, ⟨(.some 3), (.mv (.tmp 9)), .none, []⟩]) (.seq (.seq (.ops [⟨(.some 10), (.mv (.tmp 3)), .none, []⟩, ⟨(.some 11), (.pu (.n (.ar .lss)) [(.tmp 10), (.const (.int .i64 0))]), .none, []⟩]) (.cond (.tmp 11) (.seq (.ops [⟨(.some 2), (.mv (.const (.bool true))), .none, []⟩]) .ret) .skip)) (.seq (.ops [⟨(.some 12), (.mv (.tmp 0)), .none, []⟩, ⟨(.some 13), (.call (2 * f_laws_toOpS) [(.tmp 12)]), .none, []⟩, ⟨(.some 14), (.call (2 * f_spec_LogOK) [(.tmp 13)]), .none, []⟩, ⟨(.some 4), (.mv (.tmp 14)), .none, []⟩]) (.seq (.ops [⟨(.some 15), (.mv (.tmp 0)), .none, []⟩, ⟨(.some 16), (.call (2 * f_laws_toOpS + 1) [(.tmp 15)]), .none, []⟩, ⟨(.some 5), (.mv (.tmp 16)), .none, []⟩]) (.seq (.ops [⟨(.some 17), (.mv (.tmp 5)), .none, []⟩, ⟨(.some 18), (.call (2 * f_impl_LogOK) [(.tmp 17)]), .none, []⟩, ⟨(.some 6), (.mv (.tmp 18)), .none, []⟩]) (.seq (.seq (.ops [⟨(.some 19), (.mv (.tmp 6)), .none, []⟩, ⟨(.some 20), (.mv (.tmp 4)), .none, []⟩, ⟨(.some 21), (.pu (.n (.beq true)) [(.tmp 19), (.tmp 20)]), .none, []⟩]) (.cond (.tmp 21) (.seq (.ops [⟨(.some 2), (.mv (.const (.bool false))), .none, []⟩]) .ret) .skip)) (.seq (.seq (.ops [⟨(.some 22), (.mv (.tmp 5)), .none, []⟩, ⟨(.some 23), (.mv (.tmp 0)), .none, []⟩, ⟨(.some 24), (.call (2 * f_laws_toOpS + 1) [(.tmp 23)]), .none, []⟩, ⟨(.some 25), (.call (2 * f_laws_eqOpS) [(.tmp 22), (.tmp 24)]), .none, []⟩, ⟨(.some 26), (.pu (.n (.un .not)) [(.tmp 25)]), .none, []⟩]) (.cond (.tmp 26) (.seq (.ops [⟨(.some 2), (.mv (.const (.bool false))), .none, []⟩]) .ret) .skip)) (.seq (.ops [⟨(.some 2), (.mv (.const (.bool true))), .none, []⟩]) .ret)))))))))), [(.tmp 2)]⟩
set_option maxHeartbeats 10000000 in
theorem d_laws_FnExactLogOK {P : Program} {env : Env} {f_laws_szOpS : Nat} {f_laws_toOpS : Nat} {f_spec_LogOK : Nat} {f_impl_LogOK : Nat} {f_laws_eqOpS : Nat}  (ep_laws_szOpS : env (2 * f_laws_szOpS) = pureFn true (FA fun a : List TOp × Int => p_laws_szOpS a.1 a.2)) (ep_laws_toOpS : env (2 * f_laws_toOpS) = pureFn false (FA fun a : List TOp => p_laws_toOpS a)) (ep_spec_LogOK : env (2 * f_spec_LogOK) = pureFn true (FA fun a : List TOp => p_spec_LogOK a)) (ep_impl_LogOK : env (2 * f_impl_LogOK) = pureFn true (FA fun a : List TOp => p_impl_LogOK a)) (ep_laws_eqOpS : env (2 * f_laws_eqOpS) = pureFn true (FA fun a : List TOp × List TOp => p_laws_eqOpS a.1 a.2)) (e_laws_toOpS : k_laws_toOpS (env (2 * f_laws_toOpS + 1))) (x0 : List TOp) (hp : p_laws_FnExactLogOK x0 = some true) : R P env (c_laws_FnExactLogOK f_laws_szOpS f_laws_toOpS f_spec_LogOK f_impl_LogOK f_laws_eqOpS) ((encA (x0)).map ofI) [] (fun v _ => v = .i (iB true)) := by
  refine R_of (by simp [c_laws_FnExactLogOK, encA]) ?_
  unfold c_laws_FnExactLogOK
  unfold p_laws_FnExactLogOK at hp
  obtain ⟨v0, hv0, hp⟩ := bind_eq hp
  by_cases hb1 : (decide (v0 < 0)) = true
  · rw [if_t hb1] at hp
    cases hp
    simp (maxSteps := 2000000) (disch := first | omega | (simp only [List.length_set, List.length_append, List.length_cons, List.length_nil, rows_len, zs]; first | done | omega)) only [ep_laws_szOpS, ep_laws_toOpS, ep_spec_LogOK, ep_impl_LogOK, ep_laws_eqOpS, hv0, hb1, gs, reduceIte, reduceCtorEq, Nat.reduceAdd, Nat.reduceMul, Nat.reduceSub, Nat.reduceBEq, Nat.reduceEqDiff, Nat.reduceLeDiff, Nat.reduceLT, Nat.reduceGT, Int.reduceToNat, Int.reduceLT, Int.reduceLE, Int.reduceNeg, Int.reduceAdd, Int.reduceEq, Int.reduceNe, idxA_ptr, idxA_ip, retV_nil, at_app, at_app_set, enc_ob, enc_on, dec_ob, dec_on, ofI_ob, cells_ob, bookC_len, ev_ptr]
  · replace hb1 := eq_false_of_ne_true hb1
    rw [if_f hb1] at hp
    obtain ⟨v2, hv2, hp⟩ := bind_eq hp
    obtain ⟨v3, hv3, hp⟩ := bind_eq hp
    simp (maxSteps := 2000000) (disch := first | omega | (simp only [List.length_set, List.length_append, List.length_cons, List.length_nil, rows_len, zs]; first | done | omega)) only [ep_laws_szOpS, ep_laws_toOpS, ep_spec_LogOK, ep_impl_LogOK, ep_laws_eqOpS, hv0, hb1, hv2, hv3, gs, reduceIte, reduceCtorEq, Nat.reduceAdd, Nat.reduceMul, Nat.reduceSub, Nat.reduceBEq, Nat.reduceEqDiff, Nat.reduceLeDiff, Nat.reduceLT, Nat.reduceGT, Int.reduceToNat, Int.reduceLT, Int.reduceLE, Int.reduceNeg, Int.reduceAdd, Int.reduceEq, Int.reduceNe, idxA_ptr, idxA_ip, retV_nil, at_app, at_app_set, enc_ob, enc_on, dec_ob, dec_on, ofI_ob, cells_ob, bookC_len, ev_ptr]
    refine call_f (fun h => True) (fun h v h2 => oo_laws_toOpS v2 h v h2) ?_ ?_ ?_
    · simp (maxSteps := 2000000) (disch := first | omega | (simp only [List.length_set, List.length_append, List.length_cons, List.length_nil, rows_len, zs]; first | done | omega)) only [ep_laws_szOpS, ep_laws_toOpS, ep_spec_LogOK, ep_impl_LogOK, ep_laws_eqOpS, hv0, hb1, hv2, hv3, gs, reduceIte, reduceCtorEq, Nat.reduceAdd, Nat.reduceMul, Nat.reduceSub, Nat.reduceBEq, Nat.reduceEqDiff, Nat.reduceLeDiff, Nat.reduceLT, Nat.reduceGT, Int.reduceToNat, Int.reduceLT, Int.reduceLE, Int.reduceNeg, Int.reduceAdd, Int.reduceEq, Int.reduceNe, idxA_ptr, idxA_ip, retV_nil, at_app, at_app_set, enc_ob, enc_on, dec_ob, dec_on, ofI_ob, cells_ob, bookC_len, ev_ptr] <;> omega
    · rintro h _
      exact e_laws_toOpS _ _ hv2 h _ (by simp (maxSteps := 2000000) (disch := first | omega | (simp only [List.length_set, List.length_append, List.length_cons, List.length_nil, rows_len, zs]; first | done | omega)) only [ep_laws_szOpS, ep_laws_toOpS, ep_spec_LogOK, ep_impl_LogOK, ep_laws_eqOpS, hv0, hb1, hv2, hv3, gs, reduceIte, reduceCtorEq, Nat.reduceAdd, Nat.reduceMul, Nat.reduceSub, Nat.reduceBEq, Nat.reduceEqDiff, Nat.reduceLeDiff, Nat.reduceLT, Nat.reduceGT, Int.reduceToNat, Int.reduceLT, Int.reduceLE, Int.reduceNeg, Int.reduceAdd, Int.reduceEq, Int.reduceNe, idxA_ptr, idxA_ip, retV_nil, at_app, at_app_set, enc_ob, enc_on, dec_ob, dec_on, ofI_ob, cells_ob, bookC_len, ev_ptr])
    · rintro hc0 nb0_0 hh0 _ hpost
      obtain ⟨kk0, _, rfl, wnb0_0⟩ := hpost
      have d0_0 := wnb0_0
      have d0_0l := nest_lt d0_0
      have d0_0s : snap 9 false hh0 nb0_0 = some (.sl 12 (v2.map enc)) := snap_nest (n := 5) d0_0
      have d0_0n : lenS nb0_0 = some v2.length := nest_lenS d0_0
      obtain ⟨v4, hv4, hp⟩ := bind_eq hp
      by_cases hb5 : ((xor true (v4 == v3))) = true
      · rw [if_t hb5] at hp
        cases hp
      · replace hb5 := eq_false_of_ne_true hb5
        rw [if_f hb5] at hp
        simp (maxSteps := 2000000) (disch := first | omega | (simp only [List.length_set, List.length_append, List.length_cons, List.length_nil, rows_len, zs]; first | done | omega)) only [ep_laws_szOpS, ep_laws_toOpS, ep_spec_LogOK, ep_impl_LogOK, ep_laws_eqOpS, hv0, hb1, hv2, hv3, d0_0, d0_0s, d0_0n, hv4, hb5, gs, reduceIte, reduceCtorEq, Nat.reduceAdd, Nat.reduceMul, Nat.reduceSub, Nat.reduceBEq, Nat.reduceEqDiff, Nat.reduceLeDiff, Nat.reduceLT, Nat.reduceGT, Int.reduceToNat, Int.reduceLT, Int.reduceLE, Int.reduceNeg, Int.reduceAdd, Int.reduceEq, Int.reduceNe, idxA_ptr, idxA_ip, retV_nil, at_app, at_app_set, enc_ob, enc_on, dec_ob, dec_on, ofI_ob, cells_ob, bookC_len, ev_ptr]
        refine call_f (fun h => NestV h hc0.length hh0.length nb0_0 (v2 : List TOp) ∧ hh0.length ≤ h.length) (fun h v h2 => oo_laws_toOpS v2 h v h2) ?_ ?_ ?_
        · simp (maxSteps := 2000000) (disch := first | omega | (simp only [List.length_set, List.length_append, List.length_cons, List.length_nil, rows_len, zs]; first | done | omega)) only [ep_laws_szOpS, ep_laws_toOpS, ep_spec_LogOK, ep_impl_LogOK, ep_laws_eqOpS, hv0, hb1, hv2, hv3, d0_0, d0_0s, d0_0n, hv4, hb5, gs, reduceIte, reduceCtorEq, Nat.reduceAdd, Nat.reduceMul, Nat.reduceSub, Nat.reduceBEq, Nat.reduceEqDiff, Nat.reduceLeDiff, Nat.reduceLT, Nat.reduceGT, Int.reduceToNat, Int.reduceLT, Int.reduceLE, Int.reduceNeg, Int.reduceAdd, Int.reduceEq, Int.reduceNe, idxA_ptr, idxA_ip, retV_nil, at_app, at_app_set, enc_ob, enc_on, dec_ob, dec_on, ofI_ob, cells_ob, bookC_len, ev_ptr] <;> omega
        · rintro h ⟨c1_0, c1_1⟩
          exact e_laws_toOpS _ _ hv2 h _ (by simp (maxSteps := 2000000) (disch := first | omega | (simp only [List.length_set, List.length_append, List.length_cons, List.length_nil, rows_len, zs]; first | done | omega)) only [ep_laws_szOpS, ep_laws_toOpS, ep_spec_LogOK, ep_impl_LogOK, ep_laws_eqOpS, hv0, hb1, hv2, hv3, d0_0, d0_0s, d0_0n, hv4, hb5, c1_0, c1_1, gs, reduceIte, reduceCtorEq, Nat.reduceAdd, Nat.reduceMul, Nat.reduceSub, Nat.reduceBEq, Nat.reduceEqDiff, Nat.reduceLeDiff, Nat.reduceLT, Nat.reduceGT, Int.reduceToNat, Int.reduceLT, Int.reduceLE, Int.reduceNeg, Int.reduceAdd, Int.reduceEq, Int.reduceNe, idxA_ptr, idxA_ip, retV_nil, at_app, at_app_set, enc_ob, enc_on, dec_ob, dec_on, ofI_ob, cells_ob, bookC_len, ev_ptr])
        · rintro hc1 nb1_0 hh1 ⟨c1_0, c1_1⟩ hpost
          obtain ⟨kk1, _, rfl, wnb1_0⟩ := hpost
          have d1_0 : NestV hh1 hc0.length hh0.length nb0_0 (v2 : List TOp) := nest_keep c1_0 kk1 (by intro b hb; first | (simp at hb; done) | (simp at hb; omega))
          have d1_0l := nest_lt d1_0
          have d1_0s : snap 9 false hh1 nb0_0 = some (.sl 12 (v2.map enc)) := snap_nest (n := 5) d1_0
          have d1_0n : lenS nb0_0 = some v2.length := nest_lenS d1_0
          have d1_1 := wnb1_0
          have d1_1l := nest_lt d1_1
          have d1_1s : snap 9 false hh1 nb1_0 = some (.sl 12 (v2.map enc)) := snap_nest (n := 5) d1_1
          have d1_1n : lenS nb1_0 = some v2.length := nest_lenS d1_1
          obtain ⟨v6, hv6, hp⟩ := bind_eq hp
          by_cases hb7 : (v6) = true
          · rw [if_t hb7] at hp
            cases hp
            simp (maxSteps := 2000000) (disch := first | omega | (simp only [List.length_set, List.length_append, List.length_cons, List.length_nil, rows_len, zs]; first | done | omega)) only [ep_laws_szOpS, ep_laws_toOpS, ep_spec_LogOK, ep_impl_LogOK, ep_laws_eqOpS, hv0, hb1, hv2, hv3, d0_0, d0_0s, d0_0n, hv4, hb5, d1_0, d1_0s, d1_0n, d1_1, d1_1s, d1_1n, hv6, hb7, gs, reduceIte, reduceCtorEq, Nat.reduceAdd, Nat.reduceMul, Nat.reduceSub, Nat.reduceBEq, Nat.reduceEqDiff, Nat.reduceLeDiff, Nat.reduceLT, Nat.reduceGT, Int.reduceToNat, Int.reduceLT, Int.reduceLE, Int.reduceNeg, Int.reduceAdd, Int.reduceEq, Int.reduceNe, idxA_ptr, idxA_ip, retV_nil, at_app, at_app_set, enc_ob, enc_on, dec_ob, dec_on, ofI_ob, cells_ob, bookC_len, ev_ptr]
          · replace hb7 := eq_false_of_ne_true hb7
            rw [if_f hb7] at hp
            cases hp

end Go.AM
