/- Plain functions of BranchBase and their walks. No condition. -/
import Derived.Test.YtiabacjkejkbgaaLabGLogOKb
set_option linter.unusedVariables false
set_option linter.unusedSimpArgs false
set_option maxRecDepth 20000
namespace Go.AM
open Pic (enc dec dec_enc dec_sub)
open PicA (encA decA decA_encA decA_sub)
noncomputable def p_spec_l05Same_l0 (x0 : List Int) (x1 : List Int) : Int → Option (Lp (Int) Bool)
  | s1 =>
    if (decide (s1 < (x0.length : Int))) = true then
      (get? x0 s1).bind fun v3 =>
      (get? x1 s1).bind fun v4 =>
      if (decide (v3 = v4)) = true then
        some (.go (w64 (s1 + 1)))
      else
        some (.ret false)
    else
      some (.out s1)
noncomputable def p_spec_l05Same (x0 : List Int) (x1 : List Int) : Option Bool :=
  if (decide ((x0.length : Int) = (x1.length : Int))) = true then
    (loopP (p_spec_l05Same_l0 x0 x1) 0).bind fun ee0 => match ee0 with
    | .ret r => some r
    | .out o6 =>
      some true
  else
    some false
def c_spec_l05Same : AFn := ⟨26, (.seq (.ops [⟨(.some 4), (.mv (.const (.bool false))), .none, []⟩]) (.seq (.seq (.ops [⟨(.some 6), (.mv (.tmp 0)), .none, []⟩, ⟨(.some 7), (.len (.tmp 6)), .none, []⟩, ⟨(.some 8), (.mv (.tmp 1)), .none, []⟩, ⟨(.some 9), (.len (.tmp 8)), .none, []⟩, ⟨(.some 10), (.pu (.n (.ar .neq)) [(.tmp 7), (.tmp 9)]), .none, []⟩]) (.cond (.tmp 10) (.seq (.ops [⟨(.some 4), (.mv (.const (.bool false))), .none, []⟩]) .ret) .skip)) (.seq (.seq (.ops [⟨(.some 5), (.mv (.const (.int .i64 0))), .none, []⟩]) (.block 0 (.loop (.seq (.seq (.ops [⟨(.some 11), (.mv (.tmp 5)), .none, []⟩, ⟨(.some 12), (.mv (.tmp 0)), .none, []⟩, ⟨(.some 13), (.len (.tmp 12)), .none, []⟩, ⟨(.some 14), (.pu (.n (.ar .lss)) [(.tmp 11), (.tmp 13)]), .none, []⟩]) (.cond (.tmp 14) .skip (.exit 0))) (.seq (.block 1 (.seq (.ops [⟨(.some 17), (.mv (.tmp 0)), .none, []⟩, ⟨(.some 18), (.mv (.tmp 5)), .none, []⟩, ⟨(.some 19), (.idxS 1 (.tmp 17) (.tmp 18)), .none, []⟩, ⟨(.some 20), (.load 1 false (.tmp 19)), .none, []⟩, ⟨(.some 21), (.mv (.tmp 1)), .none, []⟩, ⟨(.some 22), (.mv (.tmp 5)), .none, []⟩, ⟨(.some 23), (.idxS 1 (.tmp 21) (.tmp 22)), .none, []⟩, ⟨(.some 24), (.load 1 false (.tmp 23)), .none, []⟩, ⟨(.some 25), (.pu (.n (.ar .neq)) [(.tmp 20), (.tmp 24)]), .none, []⟩]) (.cond (.tmp 25) (.seq (.ops [⟨(.some 4), (.mv (.const (.bool false))), .none, []⟩]) .ret) .skip))) (.ops [⟨(.some 15), (.mv (.tmp 5)), .none, []⟩, ⟨(.some 16), (.pu (.n (.ar .add)) [(.tmp 15), (.const (.int .i64 1))]), .none, []⟩, ⟨(.some 5), (.mv (.tmp 16)), .none, []⟩])))))) (.seq (.ops [⟨(.some 4), (.mv (.const (.bool true))), .none, []⟩]) .ret)))), [(.tmp 4)]⟩
set_option maxHeartbeats 10000000 in
theorem d_spec_l05Same {P : Program} {env : Env}  (x0 : List Int) (x1 : List Int) {b : Bool} (hp : p_spec_l05Same x0 x1 = some b) : R P env (c_spec_l05Same) ((encA (x0, x1)).map ofI) [] (Tells true b) := by
  refine R_of (by simp [c_spec_l05Same, encA]) ?_
  unfold c_spec_l05Same
  unfold p_spec_l05Same at hp
  by_cases hb0 : (decide ((x0.length : Int) = (x1.length : Int))) = true
  · rw [if_t hb0] at hp
    obtain ⟨ee0, hee0, hp⟩ := bind_eq hp
    simp (maxSteps := 2000000) (disch := first | omega | (simp only [ls]; first | done | omega)) only [hb0, gx, Int.reduceToNat]
    refine W_loopP 0 (fun s t h => match s with | s1 => t 0 = .i (.sl 1 (x0.map enc)) ∧ t 1 = .i (.sl 1 (x1.map enc)) ∧ t 5 = .i (.s (.int .i64 s1))) (RK [.tmp 4] (Tells true)) ?_ hee0 ?_ ?_
    · rintro s1 ee tt0 hh0 ⟨ftt0_0, ftt0_1, ftt0_2⟩ hp
      rw [p_spec_l05Same_l0] at hp
      by_cases hb2 : (decide (s1 < (x0.length : Int))) = true
      · rw [if_t hb2] at hp
        obtain ⟨v3, hv3, hp⟩ := bind_eq hp
        obtain ⟨v4, hv4, hp⟩ := bind_eq hp
        by_cases hb5 : (decide (v3 = v4)) = true
        · rw [if_t hb5] at hp
          have hp := Option.some.inj hp
          subst hp
          simp (maxSteps := 2000000) (disch := first | omega | (simp only [ls]; first | done | omega)) only [hb0, ftt0_0, ftt0_1, ftt0_2, hb2, hv3, hv4, hb5, gx, Int.reduceToNat] <;> omega
        · replace hb5 := eq_false_of_ne_true hb5
          rw [if_f hb5] at hp
          have hp := Option.some.inj hp
          subst hp
          simp (maxSteps := 2000000) (disch := first | omega | (simp only [ls]; first | done | omega)) only [hb0, ftt0_0, ftt0_1, ftt0_2, hb2, hv3, hv4, hb5, gx, Int.reduceToNat]
      · replace hb2 := eq_false_of_ne_true hb2
        rw [if_f hb2] at hp
        have hp := Option.some.inj hp
        subst hp
        simp (maxSteps := 2000000) (disch := first | omega | (simp only [ls]; first | done | omega)) only [hb0, ftt0_0, ftt0_1, ftt0_2, hb2, gx, Int.reduceToNat] <;> omega
    · simp (maxSteps := 2000000) (disch := first | omega | (simp only [ls]; first | done | omega)) only [hb0, gx, Int.reduceToNat] <;> omega
    · intro x tt1 hh1 hx
      rcases ee0 with o6 | r
      · obtain ⟨rfl, ftt1_0, ftt1_1, ftt1_2⟩ := hx
        dsimp only at hp
        have hp := Option.some.inj hp
        subst hp
        simp (maxSteps := 2000000) (disch := first | omega | (simp only [ls]; first | done | omega)) only [hb0, ftt1_0, ftt1_1, ftt1_2, gx, Int.reduceToNat]
      · obtain ⟨rfl, hx⟩ := hx
        dsimp only at hp
        cases hp
        simp only [seqK_ret, blockK_ret, retK_RK (K := Tells true), hx, and_self, true_and]
  · replace hb0 := eq_false_of_ne_true hb0
    rw [if_f hb0] at hp
    have hp := Option.some.inj hp
    subst hp
    simp (maxSteps := 2000000) (disch := first | omega | (simp only [ls]; first | done | omega)) only [hb0, gx, Int.reduceToNat]

noncomputable def p_spec_l08SameOp (x0 : TOp) (x1 : TOp) : Option Bool :=
  if (decide (x0.actor = x1.actor)) = true then
    if (decide (x0.seq = x1.seq)) = true then
      if (decide (x0.time = x1.time)) = true then
        (p_spec_l05Same x0.deps.counts x1.deps.counts).bind fun v3 =>
        if (v3) = true then
          if (decide (x0.kind = x1.kind)) = true then
            if (decide (x0.obj = x1.obj)) = true then
              if (decide (x0.n = x1.n)) = true then
                if (decide (x0.undo = x1.undo)) = true then
                  if ((decide (x0.at_.time = x1.at_.time) && decide (x0.at_.actor = x1.at_.actor))) = true then
                    if (decide (x0.key = x1.key)) = true then
                      some (decide (x0.text = x1.text))
                    else
                      some false
                  else
                    some false
                else
                  some false
              else
                some false
            else
              some false
          else
            some false
        else
          some false
      else
        some false
    else
      some false
  else
    some false
def c_spec_l08SameOp (f_spec_l05Same : Nat) : AFn := ⟨82, (.seq (.ops [⟨(.some 2), (.box (.tmp 0)), .none, []⟩, ⟨(.some 3), (.box (.tmp 1)), .none, []⟩, ⟨(.some 4), (.mv (.const (.bool false))), .none, []⟩]) (.seq (.ops [⟨(.some 5), (.fieldA 0 (.tmp 2)), .none, []⟩, ⟨(.some 6), (.load 1 false (.tmp 5)), .none, []⟩, ⟨(.some 7), (.fieldA 0 (.tmp 3)), .none, []⟩, ⟨(.some 8), (.load 1 false (.tmp 7)), .none, []⟩, ⟨(.some 9), (.pu (.n (.ar .eql)) [(.tmp 6), (.tmp 8)]), .none, []⟩, ⟨(.some 10), (.mv (.tmp 9)), .none, []⟩, ⟨(.some 11), (.fieldA 1 (.tmp 2)), (.some (10, true)), []⟩, ⟨(.some 12), (.load 1 false (.tmp 11)), (.some (10, true)), []⟩, ⟨(.some 13), (.fieldA 1 (.tmp 3)), (.some (10, true)), []⟩, ⟨(.some 14), (.load 1 false (.tmp 13)), (.some (10, true)), []⟩, ⟨(.some 15), (.pu (.n (.ar .eql)) [(.tmp 12), (.tmp 14)]), (.some (10, true)), []⟩, ⟨(.some 16), (.pick (.tmp 10) (.tmp 15) (.const (.bool false))), .none, []⟩, ⟨(.some 17), (.mv (.tmp 16)), .none, []⟩, ⟨(.some 18), (.fieldA 2 (.tmp 2)), (.some (17, true)), []⟩, ⟨(.some 19), (.load 1 false (.tmp 18)), (.some (17, true)), []⟩, ⟨(.some 20), (.fieldA 2 (.tmp 3)), (.some (17, true)), []⟩, ⟨(.some 21), (.load 1 false (.tmp 20)), (.some (17, true)), []⟩, ⟨(.some 22), (.pu (.n (.ar .eql)) [(.tmp 19), (.tmp 21)]), (.some (17, true)), []⟩, ⟨(.some 23), (.pick (.tmp 17) (.tmp 22) (.const (.bool false))), .none, []⟩, ⟨(.some 24), (.mv (.tmp 23)), .none, []⟩, ⟨(.some 25), (.fieldA 3 (.tmp 2)), (.some (24, true)), []⟩, ⟨(.some 26), (.fieldA 0 (.tmp 25)), (.some (24, true)), []⟩, ⟨(.some 27), (.load 1 false (.tmp 26)), (.some (24, true)), []⟩, ⟨(.some 28), (.fieldA 3 (.tmp 3)), (.some (24, true)), []⟩, ⟨(.some 29), (.fieldA 0 (.tmp 28)), (.some (24, true)), []⟩, ⟨(.some 30), (.load 1 false (.tmp 29)), (.some (24, true)), []⟩, ⟨(.some 31), (.call (2 * f_spec_l05Same) [(.tmp 27), (.tmp 30)]), (.some (24, true)), []⟩, ⟨(.some 32), (.pick (.tmp 24) (.tmp 31) (.const (.bool false))), .none, []⟩, ⟨(.some 33), (.mv (.tmp 32)), .none, []⟩, ⟨(.some 34), (.fieldA 4 (.tmp 2)), (.some (33, true)), []⟩, ⟨(.some 35), (.load 1 false (.tmp 34)), (.some (33, true)), []⟩, ⟨(.some 36), (.fieldA 4 (.tmp 3)), (.some (33, true)), []⟩, ⟨(.some 37), (.load 1 false (.tmp 36)), (.some (33, true)), []⟩, ⟨(.some 38), (.pu (.n (.ar .eql)) [(.tmp 35), (.tmp 37)]), (.some (33, true)), []⟩, ⟨(.some 39), (.pick (.tmp 33) (.tmp 38) (.const (.bool false))), .none, []⟩, ⟨(.some 40), (.mv (.tmp 39)), .none, []⟩, ⟨(.some 41), (.fieldA 5 (.tmp 2)), (.some (40, true)), []⟩, ⟨(.some 42), (.load 1 false (.tmp 41)), (.some (40, true)), []⟩, ⟨(.some 43), (.fieldA 5 (.tmp 3)), (.some (40, true)), []⟩, ⟨(.some 44), (.load 1 false (.tmp 43)), (.some (40, true)), []⟩, ⟨(.some 45), (.pu (.n (.ar .eql)) [(.tmp 42), (.tmp 44)]), (.some (40, true)), []⟩, ⟨(.some 46), (.pick (.tmp 40) (.tmp 45) (.const (.bool false))), .none, []⟩, ⟨(.some 47), (.mv (.tmp 46)), .none, []⟩, ⟨(.some 48), (.fieldA 6 (.tmp 2)), (.some (47, true)), []⟩, ⟨(.some 49), (.load 1 false (.tmp 48)), (.some (47, true)), []⟩, ⟨(.some 50), (.fieldA 6 (.tmp 3)), (.some (47, true)), []⟩, ⟨(.some 51), (.load 1 false (.tmp 50)), (.some (47, true)), []⟩, ⟨(.some 52), (.pu (.n (.ar .eql)) [(.tmp 49), (.tmp 51)]), (.some (47, true)), []⟩, ⟨(.some 53), (.pick (.tmp 47) (.tmp 52) (.const (.bool false))), .none, []⟩, ⟨(.some 54), (.mv (.tmp 53)), .none, []⟩, ⟨(.some 55), (.fieldA 7 (.tmp 2)), (.some (54, true)), []⟩, ⟨(.some 56), (.load 1 false (.tmp 55)), (.some (54, true)), []⟩, ⟨(.some 57), (.fieldA 7 (.tmp 3)), (.some (54, true)), []⟩, ⟨(.some 58), (.load 1 false (.tmp 57)), (.some (54, true)), []⟩, ⟨(.some 59), (.pu (.n (.ar .eql)) [(.tmp 56), (.tmp 58)]), (.some (54, true)), []⟩, ⟨(.some 60), (.pick (.tmp 54) (.tmp 59) (.const (.bool false))), .none, []⟩, ⟨(.some 61), (.mv (.tmp 60)), .none, []⟩, ⟨(.some 62), (.fieldA 8 (.tmp 2)), (.some (61, true)), []⟩, ⟨(.some 63), (.load 2 true (.tmp 62)), (.some (61, true)), []⟩, ⟨(.some 64), (.fieldA 8 (.tmp 3)), (.some (61, true)), []⟩, ⟨(.some 65), (.load 2 true (.tmp 64)), (.some (61, true)), []⟩, ⟨(.some 66), (.aeq false [(.int .i64), (.int .i64)] (.tmp 63) (.tmp 65)), (.some (61, true)), []⟩, ⟨(.some 67), (.pick (.tmp 61) (.tmp 66) (.const (.bool false))), .none, []⟩, ⟨(.some 68), (.mv (.tmp 67)), .none, []⟩, ⟨(.some 69), (.fieldA 10 (.tmp 2)), (.some (68, true)), []⟩, ⟨(.some 70), (.load 1 false (.tmp 69)), (.some (68, true)), []⟩, ⟨(.some 71), (.fieldA 10 (.tmp 3)), (.some (68, true)), []⟩, ⟨(.some 72), (.load 1 false (.tmp 71)), (.some (68, true)), []⟩, ⟨(.some 73), (.pu (.n (.ar .eql)) [(.tmp 70), (.tmp 72)]), (.some (68, true)), []⟩, ⟨(.some 74), (.pick (.tmp 68) (.tmp 73) (.const (.bool false))), .none, []⟩, ⟨(.some 75), (.mv (.tmp 74)), .none, []⟩, ⟨(.some 76), (.fieldA 11 (.tmp 2)), (.some (75, true)), []⟩, ⟨(.some 77), (.load 1 false (.tmp 76)), (.some (75, true)), []⟩, ⟨(.some 78), (.fieldA 11 (.tmp 3)), (.some (75, true)), []⟩, ⟨(.some 79), (.load 1 false (.tmp 78)), (.some (75, true)), []⟩, ⟨(.some 80), (.pu (.n (.ar .eql)) [(.tmp 77), (.tmp 79)]), (.some (75, true)), []⟩, ⟨(.some 81), (.pick (.tmp 75) (.tmp 80) (.const (.bool false))), .none, []⟩, ⟨(.some 4), (.mv (.tmp 81)), .none, []⟩]) .ret)), [(.tmp 4)]⟩
set_option maxHeartbeats 10000000 in
theorem d_spec_l08SameOp {P : Program} {env : Env} {f_spec_l05Same : Nat}  (ep_spec_l05Same : env (2 * f_spec_l05Same) = pureFn true (FA fun a : List Int × List Int => p_spec_l05Same a.1 a.2)) (x0 : TOp) (x1 : TOp) {b : Bool} (hp : p_spec_l08SameOp x0 x1 = some b) : R P env (c_spec_l08SameOp f_spec_l05Same) ((encA (x0, x1)).map ofI) [] (Tells true b) := by
  refine R_of (by simp [c_spec_l08SameOp, encA]) ?_
  unfold c_spec_l08SameOp
  unfold p_spec_l08SameOp at hp
  by_cases hb0 : (decide (x0.actor = x1.actor)) = true
  · rw [if_t hb0] at hp
    by_cases hb1 : (decide (x0.seq = x1.seq)) = true
    · rw [if_t hb1] at hp
      by_cases hb2 : (decide (x0.time = x1.time)) = true
      · rw [if_t hb2] at hp
        obtain ⟨v3, hv3, hp⟩ := bind_eq hp
        by_cases hb4 : (v3) = true
        · rw [if_t hb4] at hp
          by_cases hb5 : (decide (x0.kind = x1.kind)) = true
          · rw [if_t hb5] at hp
            by_cases hb6 : (decide (x0.obj = x1.obj)) = true
            · rw [if_t hb6] at hp
              by_cases hb7 : (decide (x0.n = x1.n)) = true
              · rw [if_t hb7] at hp
                by_cases hb8 : (decide (x0.undo = x1.undo)) = true
                · rw [if_t hb8] at hp
                  by_cases hb9 : ((decide (x0.at_.time = x1.at_.time) && decide (x0.at_.actor = x1.at_.actor))) = true
                  · rw [if_t hb9] at hp
                    by_cases hb10 : (decide (x0.key = x1.key)) = true
                    · rw [if_t hb10] at hp
                      have hp := Option.some.inj hp
                      subst hp
                      simp (maxSteps := 2000000) (disch := first | omega | (simp only [ls]; first | done | omega)) only [ep_spec_l05Same, hb0, hb1, hb2, hv3, hb4, hb5, hb6, hb7, hb8, hb9, hb10, gx, Int.reduceToNat]
                    · replace hb10 := eq_false_of_ne_true hb10
                      rw [if_f hb10] at hp
                      have hp := Option.some.inj hp
                      subst hp
                      simp (maxSteps := 2000000) (disch := first | omega | (simp only [ls]; first | done | omega)) only [ep_spec_l05Same, hb0, hb1, hb2, hv3, hb4, hb5, hb6, hb7, hb8, hb9, hb10, gx, Int.reduceToNat]
                  · replace hb9 := eq_false_of_ne_true hb9
                    rw [if_f hb9] at hp
                    have hp := Option.some.inj hp
                    subst hp
                    simp (maxSteps := 2000000) (disch := first | omega | (simp only [ls]; first | done | omega)) only [ep_spec_l05Same, hb0, hb1, hb2, hv3, hb4, hb5, hb6, hb7, hb8, hb9, gx, Int.reduceToNat]
                · replace hb8 := eq_false_of_ne_true hb8
                  rw [if_f hb8] at hp
                  have hp := Option.some.inj hp
                  subst hp
                  simp (maxSteps := 2000000) (disch := first | omega | (simp only [ls]; first | done | omega)) only [ep_spec_l05Same, hb0, hb1, hb2, hv3, hb4, hb5, hb6, hb7, hb8, gx, Int.reduceToNat]
              · replace hb7 := eq_false_of_ne_true hb7
                rw [if_f hb7] at hp
                have hp := Option.some.inj hp
                subst hp
                simp (maxSteps := 2000000) (disch := first | omega | (simp only [ls]; first | done | omega)) only [ep_spec_l05Same, hb0, hb1, hb2, hv3, hb4, hb5, hb6, hb7, gx, Int.reduceToNat]
            · replace hb6 := eq_false_of_ne_true hb6
              rw [if_f hb6] at hp
              have hp := Option.some.inj hp
              subst hp
              simp (maxSteps := 2000000) (disch := first | omega | (simp only [ls]; first | done | omega)) only [ep_spec_l05Same, hb0, hb1, hb2, hv3, hb4, hb5, hb6, gx, Int.reduceToNat]
          · replace hb5 := eq_false_of_ne_true hb5
            rw [if_f hb5] at hp
            have hp := Option.some.inj hp
            subst hp
            simp (maxSteps := 2000000) (disch := first | omega | (simp only [ls]; first | done | omega)) only [ep_spec_l05Same, hb0, hb1, hb2, hv3, hb4, hb5, gx, Int.reduceToNat]
        · replace hb4 := eq_false_of_ne_true hb4
          rw [if_f hb4] at hp
          have hp := Option.some.inj hp
          subst hp
          simp (maxSteps := 2000000) (disch := first | omega | (simp only [ls]; first | done | omega)) only [ep_spec_l05Same, hb0, hb1, hb2, hv3, hb4, gx, Int.reduceToNat]
      · replace hb2 := eq_false_of_ne_true hb2
        rw [if_f hb2] at hp
        have hp := Option.some.inj hp
        subst hp
        simp (maxSteps := 2000000) (disch := first | omega | (simp only [ls]; first | done | omega)) only [ep_spec_l05Same, hb0, hb1, hb2, gx, Int.reduceToNat]
    · replace hb1 := eq_false_of_ne_true hb1
      rw [if_f hb1] at hp
      have hp := Option.some.inj hp
      subst hp
      simp (maxSteps := 2000000) (disch := first | omega | (simp only [ls]; first | done | omega)) only [ep_spec_l05Same, hb0, hb1, gx, Int.reduceToNat]
  · replace hb0 := eq_false_of_ne_true hb0
    rw [if_f hb0] at hp
    have hp := Option.some.inj hp
    subst hp
    simp (maxSteps := 2000000) (disch := first | omega | (simp only [ls]; first | done | omega)) only [ep_spec_l05Same, hb0, gx, Int.reduceToNat]

noncomputable def p_spec_l11Code_l0 (x0 : List TOp) (x1 : List TOp) : Int → Option (Lp (Int) Int)
  | s4 =>
    if (decide (s4 < (x0.length : Int))) = true then
      (get? x0 s4).bind fun v6 =>
      (p_spec_l08Find x1 v6.actor v6.seq).bind fun v7 =>
      if (decide (0 ≤ v7)) = true then
        (get? x1 v7).bind fun v9 =>
        (p_spec_l08SameOp v6 v9).bind fun v10 =>
        if (v10) = true then
          some (.go (w64 (s4 + 1)))
        else
          some (.ret 16)
      else
        some (.go (w64 (s4 + 1)))
    else
      some (.out s4)
noncomputable def p_spec_l11Code (x0 : List TOp) (x1 : List TOp) : Option Int :=
  (p_spec_LogOK x0).bind fun v0 =>
  if (v0) = true then
    (p_spec_LogOK x1).bind fun v2 =>
    if (v2) = true then
      (loopP (p_spec_l11Code_l0 x0 x1) 0).bind fun ee0 => match ee0 with
      | .ret r => some r
      | .out o12 =>
        some 0
    else
      some 1
  else
    some 1
def c_spec_l11Code (f_spec_LogOK : Nat) (f_spec_l08Find : Nat) (f_spec_l08SameOp : Nat) : AFn := ⟨47, (.seq (.ops [⟨(.some 4), (.mv (.const (.int .i64 0))), .none, []⟩]) (.seq (.seq (.ops [⟨(.some 7), (.mv (.tmp 0)), .none, []⟩, ⟨(.some 8), (.call (2 * f_spec_LogOK) [(.tmp 7)]), .none, []⟩, ⟨(.some 9), (.pu (.n (.un .not)) [(.tmp 8)]), .none, []⟩, ⟨(.some 10), (.mv (.tmp 9)), .none, []⟩, ⟨(.some 11), (.mv (.tmp 1)), (.some (10, false)), []⟩, ⟨(.some 12), (.call (2 * f_spec_LogOK) [(.tmp 11)]), (.some (10, false)), []⟩, ⟨(.some 13), (.pu (.n (.un .not)) [(.tmp 12)]), (.some (10, false)), []⟩, ⟨(.some 14), (.pick (.tmp 10) (.const (.bool true)) (.tmp 13)), .none, []⟩]) (.cond (.tmp 14) (.seq (.ops [⟨(.some 4), (.mv (.const (.int .i64 1))), .none, []⟩]) .ret) .skip)) (.seq (.seq (.ops [⟨(.some 5), (.mv (.const (.int .i64 0))), .none, []⟩]) (.block 0 (.loop (.seq (.seq (.ops [⟨(.some 15), (.mv (.tmp 5)), .none, []⟩, ⟨(.some 16), (.mv (.tmp 0)), .none, []⟩, ⟨(.some 17), (.len (.tmp 16)), .none, []⟩, ⟨(.some 18), (.pu (.n (.ar .lss)) [(.tmp 15), (.tmp 17)]), .none, []⟩]) (.cond (.tmp 18) .skip (.exit 0))) (.seq (.block 1 (.seq (.ops [⟨(.some 21), (.mv (.tmp 1)), .none, []⟩, ⟨(.some 22), (.mv (.tmp 0)), .none, []⟩, ⟨(.some 23), (.mv (.tmp 5)), .none, []⟩, ⟨(.some 24), (.idxS 12 (.tmp 22) (.tmp 23)), .none, []⟩, ⟨(.some 25), (.fieldA 0 (.tmp 24)), .none, []⟩, ⟨(.some 26), (.load 1 false (.tmp 25)), .none, []⟩, ⟨(.some 27), (.mv (.tmp 0)), .none, []⟩, ⟨(.some 28), (.mv (.tmp 5)), .none, []⟩, ⟨(.some 29), (.idxS 12 (.tmp 27) (.tmp 28)), .none, []⟩, ⟨(.some 30), (.fieldA 1 (.tmp 29)), .none, []⟩, ⟨(.some 31), (.load 1 false (.tmp 30)), .none, []⟩, ⟨(.some 32), (.call (2 * f_spec_l08Find) [(.tmp 21), (.tmp 26), (.tmp 31)]), .none, []⟩, ⟨(.some 6), (.mv (.tmp 32)), .none, []⟩]) (.seq (.ops [⟨(.some 33), (.mv (.tmp 6)), .none, []⟩, ⟨(.some 34), (.pu (.n (.ar .geq)) [(.tmp 33), (.const (.int .i64 0))]), .none, []⟩, ⟨(.some 35), (.mv (.tmp 34)), .none, []⟩, ⟨(.some 36), (.mv (.tmp 0)), (.some (35, true)), []⟩, ⟨(.some 37), (.mv (.tmp 5)), (.some (35, true)), []⟩, ⟨(.some 38), (.idxS 12 (.tmp 36) (.tmp 37)), (.some (35, true)), []⟩, ⟨(.some 39), (.load 12 true (.tmp 38)), (.some (35, true)), []⟩, ⟨(.some 40), (.mv (.tmp 1)), (.some (35, true)), []⟩, ⟨(.some 41), (.mv (.tmp 6)), (.some (35, true)), []⟩, ⟨(.some 42), (.idxS 12 (.tmp 40) (.tmp 41)), (.some (35, true)), []⟩, ⟨(.some 43), (.load 12 true (.tmp 42)), (.some (35, true)), []⟩, ⟨(.some 44), (.call (2 * f_spec_l08SameOp) [(.tmp 39), (.tmp 43)]), (.some (35, true)), []⟩, ⟨(.some 45), (.pu (.n (.un .not)) [(.tmp 44)]), (.some (35, true)), []⟩, ⟨(.some 46), (.pick (.tmp 35) (.tmp 45) (.const (.bool false))), .none, []⟩]) (.cond (.tmp 46) (.seq (.ops [⟨(.some 4), (.mv (.const (.int .i64 16))), .none, []⟩]) .ret) .skip)))) (.ops [⟨(.some 19), (.mv (.tmp 5)), .none, []⟩, ⟨(.some 20), (.pu (.n (.ar .add)) [(.tmp 19), (.const (.int .i64 1))]), .none, []⟩, ⟨(.some 5), (.mv (.tmp 20)), .none, []⟩])))))) (.seq (.ops [⟨(.some 4), (.mv (.const (.int .i64 0))), .none, []⟩]) .ret)))), [(.tmp 4)]⟩
set_option maxHeartbeats 10000000 in
theorem d_spec_l11Code {P : Program} {env : Env} {f_spec_LogOK : Nat} {f_spec_l08Find : Nat} {f_spec_l08SameOp : Nat}  (ep_spec_LogOK : env (2 * f_spec_LogOK) = pureFn true (FA fun a : List TOp => p_spec_LogOK a)) (ep_spec_l08Find : env (2 * f_spec_l08Find) = pureFn true (FA fun a : List TOp × Int × Int => p_spec_l08Find a.1 a.2.1 a.2.2)) (ep_spec_l08SameOp : env (2 * f_spec_l08SameOp) = pureFn true (FA fun a : TOp × TOp => p_spec_l08SameOp a.1 a.2)) (x0 : List TOp) (x1 : List TOp) {b : Int} (hp : p_spec_l11Code x0 x1 = some b) : R P env (c_spec_l11Code f_spec_LogOK f_spec_l08Find f_spec_l08SameOp) ((encA (x0, x1)).map ofI) [] (Tells true b) := by
  refine R_of (by simp [c_spec_l11Code, encA]) ?_
  unfold c_spec_l11Code
  unfold p_spec_l11Code at hp
  obtain ⟨v0, hv0, hp⟩ := bind_eq hp
  by_cases hb1 : (v0) = true
  · rw [if_t hb1] at hp
    obtain ⟨v2, hv2, hp⟩ := bind_eq hp
    by_cases hb3 : (v2) = true
    · rw [if_t hb3] at hp
      obtain ⟨ee0, hee0, hp⟩ := bind_eq hp
      simp (maxSteps := 2000000) (disch := first | omega | (simp only [ls]; first | done | omega)) only [ep_spec_LogOK, ep_spec_l08Find, ep_spec_l08SameOp, hv0, hb1, hv2, hb3, gx, Int.reduceToNat]
      refine W_loopP 0 (fun s t h => match s with | s4 => t 0 = .i (.sl 12 (x0.map enc)) ∧ t 1 = .i (.sl 12 (x1.map enc)) ∧ t 5 = .i (.s (.int .i64 s4))) (RK [.tmp 4] (Tells true)) ?_ hee0 ?_ ?_
      · rintro s4 ee tt0 hh0 ⟨ftt0_0, ftt0_1, ftt0_2⟩ hp
        rw [p_spec_l11Code_l0] at hp
        by_cases hb5 : (decide (s4 < (x0.length : Int))) = true
        · rw [if_t hb5] at hp
          obtain ⟨v6, hv6, hp⟩ := bind_eq hp
          obtain ⟨v7, hv7, hp⟩ := bind_eq hp
          by_cases hb8 : (decide (0 ≤ v7)) = true
          · rw [if_t hb8] at hp
            obtain ⟨v9, hv9, hp⟩ := bind_eq hp
            obtain ⟨v10, hv10, hp⟩ := bind_eq hp
            by_cases hb11 : (v10) = true
            · rw [if_t hb11] at hp
              have hp := Option.some.inj hp
              subst hp
              simp (maxSteps := 2000000) (disch := first | omega | (simp only [ls]; first | done | omega)) only [ep_spec_LogOK, ep_spec_l08Find, ep_spec_l08SameOp, hv0, hb1, hv2, hb3, ftt0_0, ftt0_1, ftt0_2, hb5, hv6, hv7, hb8, hv9, hv10, hb11, gx, Int.reduceToNat] <;> omega
            · replace hb11 := eq_false_of_ne_true hb11
              rw [if_f hb11] at hp
              have hp := Option.some.inj hp
              subst hp
              simp (maxSteps := 2000000) (disch := first | omega | (simp only [ls]; first | done | omega)) only [ep_spec_LogOK, ep_spec_l08Find, ep_spec_l08SameOp, hv0, hb1, hv2, hb3, ftt0_0, ftt0_1, ftt0_2, hb5, hv6, hv7, hb8, hv9, hv10, hb11, gx, Int.reduceToNat]
          · replace hb8 := eq_false_of_ne_true hb8
            rw [if_f hb8] at hp
            have hp := Option.some.inj hp
            subst hp
            simp (maxSteps := 2000000) (disch := first | omega | (simp only [ls]; first | done | omega)) only [ep_spec_LogOK, ep_spec_l08Find, ep_spec_l08SameOp, hv0, hb1, hv2, hb3, ftt0_0, ftt0_1, ftt0_2, hb5, hv6, hv7, hb8, gx, Int.reduceToNat] <;> omega
        · replace hb5 := eq_false_of_ne_true hb5
          rw [if_f hb5] at hp
          have hp := Option.some.inj hp
          subst hp
          simp (maxSteps := 2000000) (disch := first | omega | (simp only [ls]; first | done | omega)) only [ep_spec_LogOK, ep_spec_l08Find, ep_spec_l08SameOp, hv0, hb1, hv2, hb3, ftt0_0, ftt0_1, ftt0_2, hb5, gx, Int.reduceToNat] <;> omega
      · simp (maxSteps := 2000000) (disch := first | omega | (simp only [ls]; first | done | omega)) only [ep_spec_LogOK, ep_spec_l08Find, ep_spec_l08SameOp, hv0, hb1, hv2, hb3, gx, Int.reduceToNat] <;> omega
      · intro x tt1 hh1 hx
        rcases ee0 with o12 | r
        · obtain ⟨rfl, ftt1_0, ftt1_1, ftt1_2⟩ := hx
          dsimp only at hp
          have hp := Option.some.inj hp
          subst hp
          simp (maxSteps := 2000000) (disch := first | omega | (simp only [ls]; first | done | omega)) only [ep_spec_LogOK, ep_spec_l08Find, ep_spec_l08SameOp, hv0, hb1, hv2, hb3, ftt1_0, ftt1_1, ftt1_2, gx, Int.reduceToNat]
        · obtain ⟨rfl, hx⟩ := hx
          dsimp only at hp
          cases hp
          simp only [seqK_ret, blockK_ret, retK_RK (K := Tells true), hx, and_self, true_and]
    · replace hb3 := eq_false_of_ne_true hb3
      rw [if_f hb3] at hp
      have hp := Option.some.inj hp
      subst hp
      simp (maxSteps := 2000000) (disch := first | omega | (simp only [ls]; first | done | omega)) only [ep_spec_LogOK, ep_spec_l08Find, ep_spec_l08SameOp, hv0, hb1, hv2, hb3, gx, Int.reduceToNat]
  · replace hb1 := eq_false_of_ne_true hb1
    rw [if_f hb1] at hp
    have hp := Option.some.inj hp
    subst hp
    simp (maxSteps := 2000000) (disch := first | omega | (simp only [ls]; first | done | omega)) only [ep_spec_LogOK, ep_spec_l08Find, ep_spec_l08SameOp, hv0, hb1, gx, Int.reduceToNat]

noncomputable def p_spec_VecMeet_l0 (x0 : TVec) (x1 : TVec) : List Int × Int → Option (Lp (List Int × Int) (T2 TVec Int))
  | (s4, s5) =>
    if (decide (s5 < 16)) = true then
      (get? x0.counts s5).bind fun v7 =>
      (get? x1.counts s5).bind fun v8 =>
      (app? 8 s4 ([(if v8 < v7 then v8 else v7)])).bind fun v9 =>
      some (.go (v9, w64 (s5 + 1)))
    else
      some (.out (s4, s5))
noncomputable def p_spec_VecMeet (x0 : TVec) (x1 : TVec) : Option (T2 TVec Int) :=
  (p_spec_VecOK x0).bind fun v0 =>
  if (v0) = true then
    (p_spec_VecOK x1).bind fun v2 =>
    if (v2) = true then
      (loopP (p_spec_VecMeet_l0 x0 x1) (([] : List Int), 0)).bind fun ee0 => match ee0 with
      | .ret r => some r
      | .out (o10, o11) =>
        some ⟨(TVec.mk o10), 0⟩
    else
      some ⟨(TVec.mk ([])), 1⟩
  else
    some ⟨(TVec.mk ([])), 1⟩
def c_spec_VecMeet (f_spec_VecOK : Nat) : AFn := ⟨39, (.seq (.ops [⟨(.some 2), (.box (.tmp 0)), .none, []⟩, ⟨(.some 3), (.box (.tmp 1)), .none, []⟩, ⟨(.some 4), (.allocV [(1, false)] [(.slice .none 0 0)]), .none, []⟩, ⟨(.some 5), (.mv (.const (.int .i64 0))), .none, []⟩]) (.seq (.seq (.ops [⟨(.some 8), (.load 1 true (.tmp 2)), .none, []⟩, ⟨(.some 9), (.call (2 * f_spec_VecOK) [(.tmp 8)]), .none, []⟩, ⟨(.some 10), (.pu (.n (.un .not)) [(.tmp 9)]), .none, []⟩, ⟨(.some 11), (.mv (.tmp 10)), .none, []⟩, ⟨(.some 12), (.load 1 true (.tmp 3)), (.some (11, false)), []⟩, ⟨(.some 13), (.call (2 * f_spec_VecOK) [(.tmp 12)]), (.some (11, false)), []⟩, ⟨(.some 14), (.pu (.n (.un .not)) [(.tmp 13)]), (.some (11, false)), []⟩, ⟨(.some 15), (.pick (.tmp 11) (.const (.bool true)) (.tmp 14)), .none, []⟩]) (.cond (.tmp 15) (.seq (.ops [⟨(.some 16), (.build [(.slice .none 0 0)] []), .none, []⟩, ⟨.none, (.storeV [(1, false)] 1 (.tmp 4) (.tmp 16)), .none, []⟩, ⟨(.some 5), (.mv (.const (.int .i64 1))), .none, []⟩]) .ret) .skip)) (.seq (.ops [⟨(.some 17), (.build [(.slice .none 0 0)] []), .none, []⟩, ⟨(.some 6), (.allocV [(1, false)] [(.slice .none 0 0)]), .none, []⟩, ⟨.none, (.storeV [(1, false)] 1 (.tmp 6) (.tmp 17)), .none, []⟩]) (.seq (.seq (.ops [⟨(.some 7), (.mv (.const (.int .i64 0))), .none, []⟩]) (.block 0 (.loop (.seq (.seq (.ops [⟨(.some 18), (.mv (.tmp 7)), .none, []⟩, ⟨(.some 19), (.pu (.n (.ar .lss)) [(.tmp 18), (.const (.int .i64 16))]), .none, []⟩]) (.cond (.tmp 19) .skip (.exit 0))) (.seq (.block 1 (.ops [⟨(.some 22), (.fieldA 0 (.tmp 6)), .none, []⟩, ⟨(.some 23), (.load 1 false (.tmp 22)), .none, []⟩, ⟨(.some 24), (.fieldA 0 (.tmp 2)), .none, []⟩, ⟨(.some 25), (.load 1 false (.tmp 24)), .none, []⟩, ⟨(.some 26), (.mv (.tmp 7)), .none, []⟩, ⟨(.some 27), (.idxS 1 (.tmp 25) (.tmp 26)), .none, []⟩, ⟨(.some 28), (.load 1 false (.tmp 27)), .none, []⟩, ⟨(.some 29), (.fieldA 0 (.tmp 3)), .none, []⟩, ⟨(.some 30), (.load 1 false (.tmp 29)), .none, []⟩, ⟨(.some 31), (.mv (.tmp 7)), .none, []⟩, ⟨(.some 32), (.idxS 1 (.tmp 30) (.tmp 31)), .none, []⟩, ⟨(.some 33), (.load 1 false (.tmp 32)), .none, []⟩, ⟨(.some 34), (.pu (.n .min) [(.tmp 28), (.tmp 33)]), .none, []⟩, ⟨(.some 35), (.buildSl 1 false 1 [(.int .i64 0)] [(0, (.tmp 34))]), .none, []⟩, ⟨(.some 36), (.append 1 false 8 (.tmp 23) (.tmp 35)), .none, []⟩, ⟨(.some 37), (.fieldA 0 (.tmp 6)), .none, []⟩, ⟨.none, (.store 1 (.tmp 37) (.tmp 36)), .none, []⟩])) (.ops [⟨(.some 20), (.mv (.tmp 7)), .none, []⟩, ⟨(.some 21), (.pu (.n (.ar .add)) [(.tmp 20), (.const (.int .i64 1))]), .none, []⟩, ⟨(.some 7), (.mv (.tmp 21)), .none, []⟩])))))) (.seq (.ops [⟨(.some 38), (.load 1 true (.tmp 6)), .none, []⟩, ⟨.none, (.storeV [(1, false)] 1 (.tmp 4) (.tmp 38)), .none, []⟩, ⟨(.some 5), (.mv (.const (.int .i64 0))), .none, []⟩]) .ret))))), [(.cell 4 1 true), (.tmp 5)]⟩
set_option maxHeartbeats 10000000 in
theorem d_spec_VecMeet {P : Program} {env : Env} {f_spec_VecOK : Nat}  (ep_spec_VecOK : env (2 * f_spec_VecOK) = pureFn true (FA fun a : TVec => p_spec_VecOK a)) (x0 : TVec) (x1 : TVec) {b : T2 TVec Int} (hp : p_spec_VecMeet x0 x1 = some b) : R P env (c_spec_VecMeet f_spec_VecOK) ((encA (x0, x1)).map ofI) [] (Tells true b) := by
  refine R_of (by simp [c_spec_VecMeet, encA]) ?_
  unfold c_spec_VecMeet
  unfold p_spec_VecMeet at hp
  obtain ⟨v0, hv0, hp⟩ := bind_eq hp
  by_cases hb1 : (v0) = true
  · rw [if_t hb1] at hp
    obtain ⟨v2, hv2, hp⟩ := bind_eq hp
    by_cases hb3 : (v2) = true
    · rw [if_t hb3] at hp
      obtain ⟨ee0, hee0, hp⟩ := bind_eq hp
      simp (maxSteps := 2000000) (disch := first | omega | (simp only [ls]; first | done | omega)) only [ep_spec_VecOK, hv0, hb1, hv2, hb3, gx, Int.reduceToNat]
      refine W_loopP 0 (fun s t h => match s with | (s4, s5) => t 2 = .ptr 0 1 0 ∧ t 3 = .ptr 1 1 0 ∧ t 4 = .ptr 3 1 0 ∧ t 6 = .ptr 5 1 0 ∧ t 7 = .i (.s (.int .i64 s5)) ∧ getCells h 0 1 = some [.i (.sl 1 (x0.counts.map enc))] ∧ 0 < h.length ∧ getCells h 1 1 = some [.i (.sl 1 (x1.counts.map enc))] ∧ 1 < h.length ∧ getCells h 2 0 = some (rows ([] : List Int)) ∧ 2 < h.length ∧ getCells h 3 1 = some [.hsl 2 0 0 1 false 0] ∧ 3 < h.length ∧ getCells h 5 1 = some [.hsl 6 s4.length 0 1 false s4.length] ∧ 5 < h.length ∧ getCells h 6 s4.length = some (rows (s4 : List Int)) ∧ 6 < h.length) (RK [.cell 4 1 true, .tmp 5] (Tells true)) ?_ hee0 ?_ ?_
      · rintro ⟨s4, s5⟩ ee tt0 hh0 ⟨ftt0_0, ftt0_1, ftt0_2, ftt0_3, ftt0_4, ftt0_5, ftt0_6, ftt0_7, ftt0_8, ftt0_9, ftt0_10, ftt0_11, ftt0_12, ftt0_13, ftt0_14, ftt0_15, ftt0_16⟩ hp
        have ztt0_9 := len_rows ftt0_9
        simp only [zs] at ztt0_9
        rw [p_spec_VecMeet_l0] at hp
        by_cases hb6 : (decide (s5 < 16)) = true
        · rw [if_t hb6] at hp
          obtain ⟨v7, hv7, hp⟩ := bind_eq hp
          obtain ⟨v8, hv8, hp⟩ := bind_eq hp
          obtain ⟨v9, hv9, hp⟩ := bind_eq hp
          obtain ⟨kv9, qv9, lv9⟩ := app_some hv9
          have rv9 : rows s4 ++ [.i (.s (.int .i64 (if v8 < v7 then v8 else v7)))] = rows v9 := by rw [qv9, rows_append]; rfl
          have mv9 : s4.length + 1 = v9.length := by simp at lv9; omega
          have nv9 : (s4.length + 1) * 8 ≤ 140737488355328 := by simp at kv9; omega
          have hp := Option.some.inj hp
          subst hp
          simp (maxSteps := 2000000) (disch := first | omega | (simp only [ls]; first | done | omega)) only [ep_spec_VecOK, hv0, hb1, hv2, hb3, ftt0_0, ftt0_1, ftt0_2, ftt0_3, ftt0_4, ftt0_5, ftt0_6, ftt0_7, ftt0_8, ftt0_9, ftt0_10, ftt0_11, ftt0_12, ftt0_13, ftt0_14, ftt0_15, ftt0_16, hb6, hv7, hv8, hv9, rv9, nv9, gx, Int.reduceToNat] <;> omega
        · replace hb6 := eq_false_of_ne_true hb6
          rw [if_f hb6] at hp
          have hp := Option.some.inj hp
          subst hp
          simp (maxSteps := 2000000) (disch := first | omega | (simp only [ls]; first | done | omega)) only [ep_spec_VecOK, hv0, hb1, hv2, hb3, ftt0_0, ftt0_1, ftt0_2, ftt0_3, ftt0_4, ftt0_5, ftt0_6, ftt0_7, ftt0_8, ftt0_9, ftt0_10, ftt0_11, ftt0_12, ftt0_13, ftt0_14, ftt0_15, ftt0_16, hb6, gx, Int.reduceToNat] <;> omega
      · simp (maxSteps := 2000000) (disch := first | omega | (simp only [ls]; first | done | omega)) only [ep_spec_VecOK, hv0, hb1, hv2, hb3, gx, Int.reduceToNat] <;> omega
      · intro x tt1 hh1 hx
        rcases ee0 with ⟨o10, o11⟩ | r
        · obtain ⟨rfl, ftt1_0, ftt1_1, ftt1_2, ftt1_3, ftt1_4, ftt1_5, ftt1_6, ftt1_7, ftt1_8, ftt1_9, ftt1_10, ftt1_11, ftt1_12, ftt1_13, ftt1_14, ftt1_15, ftt1_16⟩ := hx
          have ztt1_9 := len_rows ftt1_9
          simp only [zs] at ztt1_9
          dsimp only at hp
          have hp := Option.some.inj hp
          subst hp
          simp (maxSteps := 2000000) (disch := first | omega | (simp only [ls]; first | done | omega)) only [ep_spec_VecOK, hv0, hb1, hv2, hb3, ftt1_0, ftt1_1, ftt1_2, ftt1_3, ftt1_4, ftt1_5, ftt1_6, ftt1_7, ftt1_8, ftt1_9, ftt1_10, ftt1_11, ftt1_12, ftt1_13, ftt1_14, ftt1_15, ftt1_16, gx, Int.reduceToNat]
        · obtain ⟨rfl, hx⟩ := hx
          dsimp only at hp
          cases hp
          simp only [seqK_ret, blockK_ret, retK_RK (K := Tells true), hx, and_self, true_and]
    · replace hb3 := eq_false_of_ne_true hb3
      rw [if_f hb3] at hp
      have hp := Option.some.inj hp
      subst hp
      simp (maxSteps := 2000000) (disch := first | omega | (simp only [ls]; first | done | omega)) only [ep_spec_VecOK, hv0, hb1, hv2, hb3, gx, Int.reduceToNat]
  · replace hb1 := eq_false_of_ne_true hb1
    rw [if_f hb1] at hp
    have hp := Option.some.inj hp
    subst hp
    simp (maxSteps := 2000000) (disch := first | omega | (simp only [ls]; first | done | omega)) only [ep_spec_VecOK, hv0, hb1, gx, Int.reduceToNat]

noncomputable def p_spec_BranchBase (x0 : List TOp) (x1 : List TOp) : Option (T2 TVec Int) :=
  (p_spec_l11Code x0 x1).bind fun v0 =>
  if (decide (v0 = 0)) = true then
    (p_spec_l08Counts x0).bind fun v2 =>
    (p_spec_l08Counts x1).bind fun v3 =>
    (p_spec_VecMeet v2 v3).bind fun v4 =>
    some ⟨v4.a, v4.b⟩
  else
    some ⟨(TVec.mk ([])), v0⟩
def c_spec_BranchBase (f_spec_l11Code : Nat) (f_spec_l08Counts : Nat) (f_spec_VecMeet : Nat) : AFn := ⟨21, (.seq (.ops [⟨(.some 4), (.allocV [(1, false)] [(.slice .none 0 0)]), .none, []⟩, ⟨(.some 5), (.mv (.const (.int .i64 0))), .none, []⟩]) (.seq (.ops [⟨(.some 7), (.mv (.tmp 0)), .none, []⟩, ⟨(.some 8), (.mv (.tmp 1)), .none, []⟩, ⟨(.some 9), (.call (2 * f_spec_l11Code) [(.tmp 7), (.tmp 8)]), .none, []⟩, ⟨(.some 6), (.mv (.tmp 9)), .none, []⟩]) (.seq (.seq (.ops [⟨(.some 10), (.mv (.tmp 6)), .none, []⟩, ⟨(.some 11), (.pu (.n (.ar .neq)) [(.tmp 10), (.const (.int .i64 0))]), .none, []⟩]) (.cond (.tmp 11) (.seq (.ops [⟨(.some 12), (.build [(.slice .none 0 0)] []), .none, []⟩, ⟨(.some 13), (.mv (.tmp 6)), .none, []⟩, ⟨.none, (.storeV [(1, false)] 1 (.tmp 4) (.tmp 12)), .none, []⟩, ⟨(.some 5), (.mv (.tmp 13)), .none, []⟩]) .ret) .skip)) (.seq (.ops [⟨(.some 14), (.mv (.tmp 0)), .none, []⟩, ⟨(.some 15), (.call (2 * f_spec_l08Counts) [(.tmp 14)]), .none, []⟩, ⟨(.some 16), (.mv (.tmp 1)), .none, []⟩, ⟨(.some 17), (.call (2 * f_spec_l08Counts) [(.tmp 16)]), .none, []⟩, ⟨(.some 18), (.call (2 * f_spec_VecMeet) [(.tmp 15), (.tmp 17)]), .none, []⟩, ⟨(.some 19), (.extract 0 (.tmp 18)), .none, []⟩, ⟨(.some 20), (.extract 1 (.tmp 18)), .none, []⟩, ⟨.none, (.storeV [(1, false)] 1 (.tmp 4) (.tmp 19)), .none, []⟩, ⟨(.some 5), (.mv (.tmp 20)), .none, []⟩]) .ret)))), [(.cell 4 1 true), (.tmp 5)]⟩
set_option maxHeartbeats 10000000 in
theorem d_spec_BranchBase {P : Program} {env : Env} {f_spec_l11Code : Nat} {f_spec_l08Counts : Nat} {f_spec_VecMeet : Nat}  (ep_spec_l11Code : env (2 * f_spec_l11Code) = pureFn true (FA fun a : List TOp × List TOp => p_spec_l11Code a.1 a.2)) (ep_spec_l08Counts : env (2 * f_spec_l08Counts) = pureFn true (FA fun a : List TOp => p_spec_l08Counts a)) (ep_spec_VecMeet : env (2 * f_spec_VecMeet) = pureFn true (FA fun a : TVec × TVec => p_spec_VecMeet a.1 a.2)) (x0 : List TOp) (x1 : List TOp) {b : T2 TVec Int} (hp : p_spec_BranchBase x0 x1 = some b) : R P env (c_spec_BranchBase f_spec_l11Code f_spec_l08Counts f_spec_VecMeet) ((encA (x0, x1)).map ofI) [] (Tells false b) := by
  refine R_of (by simp [c_spec_BranchBase, encA]) ?_
  unfold c_spec_BranchBase
  unfold p_spec_BranchBase at hp
  obtain ⟨v0, hv0, hp⟩ := bind_eq hp
  by_cases hb1 : (decide (v0 = 0)) = true
  · rw [if_t hb1] at hp
    obtain ⟨v2, hv2, hp⟩ := bind_eq hp
    obtain ⟨v3, hv3, hp⟩ := bind_eq hp
    obtain ⟨v4, hv4, hp⟩ := bind_eq hp
    have hp := Option.some.inj hp
    subst hp
    simp (maxSteps := 2000000) (disch := first | omega | (simp only [ls]; first | done | omega)) only [ep_spec_l11Code, ep_spec_l08Counts, ep_spec_VecMeet, hv0, hb1, hv2, hv3, hv4, gx, Int.reduceToNat]
  · replace hb1 := eq_false_of_ne_true hb1
    rw [if_f hb1] at hp
    have hp := Option.some.inj hp
    subst hp
    simp (maxSteps := 2000000) (disch := first | omega | (simp only [ls]; first | done | omega)) only [ep_spec_l11Code, ep_spec_l08Counts, ep_spec_VecMeet, hv0, hb1, gx, Int.reduceToNat]

noncomputable def p_impl_vecSame_l0 (x0 : TVec) (x1 : TVec) : Int → Option (Lp (Int) Bool)
  | s1 =>
    if (decide (s1 < (x0.counts.length : Int))) = true then
      (get? x0.counts s1).bind fun v3 =>
      (get? x1.counts s1).bind fun v4 =>
      if (decide (v3 = v4)) = true then
        some (.go (w64 (s1 + 1)))
      else
        some (.ret false)
    else
      some (.out s1)
noncomputable def p_impl_vecSame (x0 : TVec) (x1 : TVec) : Option Bool :=
  if (decide ((x0.counts.length : Int) = (x1.counts.length : Int))) = true then
    (loopP (p_impl_vecSame_l0 x0 x1) 0).bind fun ee0 => match ee0 with
    | .ret r => some r
    | .out o6 =>
      some true
  else
    some false
def c_impl_vecSame : AFn := ⟨30, (.seq (.ops [⟨(.some 2), (.box (.tmp 0)), .none, []⟩, ⟨(.some 3), (.box (.tmp 1)), .none, []⟩, ⟨(.some 4), (.mv (.const (.bool false))), .none, []⟩]) (.seq (.seq (.ops [⟨(.some 7), (.fieldA 0 (.tmp 2)), .none, []⟩, ⟨(.some 8), (.load 1 false (.tmp 7)), .none, []⟩, ⟨(.some 9), (.len (.tmp 8)), .none, []⟩, ⟨(.some 10), (.fieldA 0 (.tmp 3)), .none, []⟩, ⟨(.some 11), (.load 1 false (.tmp 10)), .none, []⟩, ⟨(.some 12), (.len (.tmp 11)), .none, []⟩, ⟨(.some 13), (.pu (.n (.ar .neq)) [(.tmp 9), (.tmp 12)]), .none, []⟩]) (.cond (.tmp 13) (.seq (.ops [⟨(.some 4), (.mv (.const (.bool false))), .none, []⟩]) .ret) .skip)) (.seq (.seq (.ops [⟨(.some 14), (.fieldA 0 (.tmp 2)), .none, []⟩, ⟨(.some 15), (.load 1 false (.tmp 14)), .none, []⟩, ⟨(.some 16), (.len (.tmp 15)), .none, []⟩, ⟨(.some 17), (.mv (.const (.int .i64 0))), .none, []⟩]) (.block 0 (.loop (.seq (.ops [⟨(.some 18), (.pu (.n (.ar .lss)) [(.tmp 17), (.tmp 16)]), .none, []⟩]) (.seq (.cond (.tmp 18) .skip (.exit 0)) (.seq (.block 1 (.seq (.ops [⟨(.some 19), (.mv (.tmp 17)), .none, []⟩, ⟨(.some 20), (.idxS 1 (.tmp 15) (.tmp 17)), .none, []⟩, ⟨(.some 21), (.load 1 false (.tmp 20)), .none, []⟩, ⟨(.some 5), (.mv (.tmp 19)), .none, []⟩, ⟨(.some 6), (.mv (.tmp 21)), .none, []⟩]) (.seq (.ops [⟨(.some 22), (.mv (.tmp 6)), .none, []⟩, ⟨(.some 23), (.fieldA 0 (.tmp 3)), .none, []⟩, ⟨(.some 24), (.load 1 false (.tmp 23)), .none, []⟩, ⟨(.some 25), (.mv (.tmp 5)), .none, []⟩, ⟨(.some 26), (.idxS 1 (.tmp 24) (.tmp 25)), .none, []⟩, ⟨(.some 27), (.load 1 false (.tmp 26)), .none, []⟩, ⟨(.some 28), (.pu (.n (.ar .neq)) [(.tmp 22), (.tmp 27)]), .none, []⟩]) (.cond (.tmp 28) (.seq (.ops [⟨(.some 4), (.mv (.const (.bool false))), .none, []⟩]) .ret) .skip)))) (.ops [⟨(.some 29), (.pu (.n (.ar .add)) [(.tmp 17), (.const (.int .i64 1))]), .none, []⟩, ⟨(.some 17), (.mv (.tmp 29)), .none, []⟩]))))))) (.seq (.ops [⟨(.some 4), (.mv (.const (.bool true))), .none, []⟩]) .ret)))), [(.tmp 4)]⟩
set_option maxHeartbeats 10000000 in
theorem d_impl_vecSame {P : Program} {env : Env}  (x0 : TVec) (x1 : TVec) {b : Bool} (hp : p_impl_vecSame x0 x1 = some b) : R P env (c_impl_vecSame) ((encA (x0, x1)).map ofI) [] (Tells true b) := by
  refine R_of (by simp [c_impl_vecSame, encA]) ?_
  unfold c_impl_vecSame
  unfold p_impl_vecSame at hp
  by_cases hb0 : (decide ((x0.counts.length : Int) = (x1.counts.length : Int))) = true
  · rw [if_t hb0] at hp
    obtain ⟨ee0, hee0, hp⟩ := bind_eq hp
    simp (maxSteps := 2000000) (disch := first | omega | (simp only [ls]; first | done | omega)) only [hb0, gx, Int.reduceToNat]
    refine W_loopP 0 (fun s t h => match s with | s1 => t 3 = .ptr 1 1 0 ∧ t 15 = .i (.sl 1 (x0.counts.map enc)) ∧ t 16 = .i (.s (.int .i64 (x0.counts.length : Int))) ∧ t 17 = .i (.s (.int .i64 s1)) ∧ getCells h 1 1 = some [.i (.sl 1 (x1.counts.map enc))] ∧ 1 < h.length) (RK [.tmp 4] (Tells true)) ?_ hee0 ?_ ?_
    · rintro s1 ee tt0 hh0 ⟨ftt0_0, ftt0_1, ftt0_2, ftt0_3, ftt0_4, ftt0_5⟩ hp
      rw [p_impl_vecSame_l0] at hp
      by_cases hb2 : (decide (s1 < (x0.counts.length : Int))) = true
      · rw [if_t hb2] at hp
        obtain ⟨v3, hv3, hp⟩ := bind_eq hp
        obtain ⟨v4, hv4, hp⟩ := bind_eq hp
        by_cases hb5 : (decide (v3 = v4)) = true
        · rw [if_t hb5] at hp
          have hp := Option.some.inj hp
          subst hp
          simp (maxSteps := 2000000) (disch := first | omega | (simp only [ls]; first | done | omega)) only [hb0, ftt0_0, ftt0_1, ftt0_2, ftt0_3, ftt0_4, ftt0_5, hb2, hv3, hv4, hb5, gx, Int.reduceToNat] <;> omega
        · replace hb5 := eq_false_of_ne_true hb5
          rw [if_f hb5] at hp
          have hp := Option.some.inj hp
          subst hp
          simp (maxSteps := 2000000) (disch := first | omega | (simp only [ls]; first | done | omega)) only [hb0, ftt0_0, ftt0_1, ftt0_2, ftt0_3, ftt0_4, ftt0_5, hb2, hv3, hv4, hb5, gx, Int.reduceToNat]
      · replace hb2 := eq_false_of_ne_true hb2
        rw [if_f hb2] at hp
        have hp := Option.some.inj hp
        subst hp
        simp (maxSteps := 2000000) (disch := first | omega | (simp only [ls]; first | done | omega)) only [hb0, ftt0_0, ftt0_1, ftt0_2, ftt0_3, ftt0_4, ftt0_5, hb2, gx, Int.reduceToNat] <;> omega
    · simp (maxSteps := 2000000) (disch := first | omega | (simp only [ls]; first | done | omega)) only [hb0, gx, Int.reduceToNat] <;> omega
    · intro x tt1 hh1 hx
      rcases ee0 with o6 | r
      · obtain ⟨rfl, ftt1_0, ftt1_1, ftt1_2, ftt1_3, ftt1_4, ftt1_5⟩ := hx
        dsimp only at hp
        have hp := Option.some.inj hp
        subst hp
        simp (maxSteps := 2000000) (disch := first | omega | (simp only [ls]; first | done | omega)) only [hb0, ftt1_0, ftt1_1, ftt1_2, ftt1_3, ftt1_4, ftt1_5, gx, Int.reduceToNat]
      · obtain ⟨rfl, hx⟩ := hx
        dsimp only at hp
        cases hp
        simp only [seqK_ret, blockK_ret, retK_RK (K := Tells true), hx, and_self, true_and]
  · replace hb0 := eq_false_of_ne_true hb0
    rw [if_f hb0] at hp
    have hp := Option.some.inj hp
    subst hp
    simp (maxSteps := 2000000) (disch := first | omega | (simp only [ls]; first | done | omega)) only [hb0, gx, Int.reduceToNat]

noncomputable def p_impl_opSame (x0 : TOp) (x1 : TOp) : Option Bool :=
  (p_impl_vecSame x0.deps x1.deps).bind fun v0 =>
  if (v0) = true then
    if (decide (x0.actor = x1.actor)) = true then
      if (decide (x0.seq = x1.seq)) = true then
        if (decide (x0.time = x1.time)) = true then
          if (decide (x0.kind = x1.kind)) = true then
            if (decide (x0.obj = x1.obj)) = true then
              if (decide (x0.n = x1.n)) = true then
                if (decide (x0.undo = x1.undo)) = true then
                  if ((decide (x0.at_.time = x1.at_.time) && decide (x0.at_.actor = x1.at_.actor))) = true then
                    if (decide (x0.key = x1.key)) = true then
                      some (decide (x0.text = x1.text))
                    else
                      some false
                  else
                    some false
                else
                  some false
              else
                some false
            else
              some false
          else
            some false
        else
          some false
      else
        some false
    else
      some false
  else
    some false
def c_impl_opSame (f_impl_vecSame : Nat) : AFn := ⟨79, (.seq (.ops [⟨(.some 2), (.box (.tmp 0)), .none, []⟩, ⟨(.some 3), (.box (.tmp 1)), .none, []⟩, ⟨(.some 4), (.mv (.const (.bool false))), .none, []⟩]) (.seq (.seq (.ops [⟨(.some 5), (.fieldA 3 (.tmp 2)), .none, []⟩, ⟨(.some 6), (.load 1 true (.tmp 5)), .none, []⟩, ⟨(.some 7), (.fieldA 3 (.tmp 3)), .none, []⟩, ⟨(.some 8), (.load 1 true (.tmp 7)), .none, []⟩, ⟨(.some 9), (.call (2 * f_impl_vecSame) [(.tmp 6), (.tmp 8)]), .none, []⟩, ⟨(.some 10), (.pu (.n (.un .not)) [(.tmp 9)]), .none, []⟩]) (.cond (.tmp 10) (.seq (.ops [⟨(.some 4), (.mv (.const (.bool false))), .none, []⟩]) .ret) .skip)) (.seq (.ops [⟨(.some 11), (.fieldA 0 (.tmp 2)), .none, []⟩, ⟨(.some 12), (.load 1 false (.tmp 11)), .none, []⟩, ⟨(.some 13), (.fieldA 0 (.tmp 3)), .none, []⟩, ⟨(.some 14), (.load 1 false (.tmp 13)), .none, []⟩, ⟨(.some 15), (.pu (.n (.ar .eql)) [(.tmp 12), (.tmp 14)]), .none, []⟩, ⟨(.some 16), (.mv (.tmp 15)), .none, []⟩, ⟨(.some 17), (.fieldA 1 (.tmp 2)), (.some (16, true)), []⟩, ⟨(.some 18), (.load 1 false (.tmp 17)), (.some (16, true)), []⟩, ⟨(.some 19), (.fieldA 1 (.tmp 3)), (.some (16, true)), []⟩, ⟨(.some 20), (.load 1 false (.tmp 19)), (.some (16, true)), []⟩, ⟨(.some 21), (.pu (.n (.ar .eql)) [(.tmp 18), (.tmp 20)]), (.some (16, true)), []⟩, ⟨(.some 22), (.pick (.tmp 16) (.tmp 21) (.const (.bool false))), .none, []⟩, ⟨(.some 23), (.mv (.tmp 22)), .none, []⟩, ⟨(.some 24), (.fieldA 2 (.tmp 2)), (.some (23, true)), []⟩, ⟨(.some 25), (.load 1 false (.tmp 24)), (.some (23, true)), []⟩, ⟨(.some 26), (.fieldA 2 (.tmp 3)), (.some (23, true)), []⟩, ⟨(.some 27), (.load 1 false (.tmp 26)), (.some (23, true)), []⟩, ⟨(.some 28), (.pu (.n (.ar .eql)) [(.tmp 25), (.tmp 27)]), (.some (23, true)), []⟩, ⟨(.some 29), (.pick (.tmp 23) (.tmp 28) (.const (.bool false))), .none, []⟩, ⟨(.some 30), (.mv (.tmp 29)), .none, []⟩, ⟨(.some 31), (.fieldA 4 (.tmp 2)), (.some (30, true)), []⟩, ⟨(.some 32), (.load 1 false (.tmp 31)), (.some (30, true)), []⟩, ⟨(.some 33), (.fieldA 4 (.tmp 3)), (.some (30, true)), []⟩, ⟨(.some 34), (.load 1 false (.tmp 33)), (.some (30, true)), []⟩, ⟨(.some 35), (.pu (.n (.ar .eql)) [(.tmp 32), (.tmp 34)]), (.some (30, true)), []⟩, ⟨(.some 36), (.pick (.tmp 30) (.tmp 35) (.const (.bool false))), .none, []⟩, ⟨(.some 37), (.mv (.tmp 36)), .none, []⟩, ⟨(.some 38), (.fieldA 5 (.tmp 2)), (.some (37, true)), []⟩, ⟨(.some 39), (.load 1 false (.tmp 38)), (.some (37, true)), []⟩, ⟨(.some 40), (.fieldA 5 (.tmp 3)), (.some (37, true)), []⟩, ⟨(.some 41), (.load 1 false (.tmp 40)), (.some (37, true)), []⟩, ⟨(.some 42), (.pu (.n (.ar .eql)) [(.tmp 39), (.tmp 41)]), (.some (37, true)), []⟩, ⟨(.some 43), (.pick (.tmp 37) (.tmp 42) (.const (.bool false))), .none, []⟩, ⟨(.some 44), (.mv (.tmp 43)), .none, []⟩, ⟨(.some 45), (.fieldA 6 (.tmp 2)), (.some (44, true)), []⟩, ⟨(.some 46), (.load 1 false (.tmp 45)), (.some (44, true)), []⟩, ⟨(.some 47), (.fieldA 6 (.tmp 3)), (.some (44, true)), []⟩, ⟨(.some 48), (.load 1 false (.tmp 47)), (.some (44, true)), []⟩, ⟨(.some 49), (.pu (.n (.ar .eql)) [(.tmp 46), (.tmp 48)]), (.some (44, true)), []⟩, ⟨(.some 50), (.pick (.tmp 44) (.tmp 49) (.const (.bool false))), .none, []⟩, ⟨(.some 51), (.mv (.tmp 50)), .none, []⟩, ⟨(.some 52), (.fieldA 7 (.tmp 2)), (.some (51, true)), []⟩, ⟨(.some 53), (.load 1 false (.tmp 52)), (.some (51, true)), []⟩, ⟨(.some 54), (.fieldA 7 (.tmp 3)), (.some (51, true)), []⟩, ⟨(.some 55), (.load 1 false (.tmp 54)), (.some (51, true)), []⟩, ⟨(.some 56), (.pu (.n (.ar .eql)) [(.tmp 53), (.tmp 55)]), (.some (51, true)), []⟩, ⟨(.some 57), (.pick (.tmp 51) (.tmp 56) (.const (.bool false))), .none, []⟩, ⟨(.some 58), (.mv (.tmp 57)), .none, []⟩, ⟨(.some 59), (.fieldA 8 (.tmp 2)), (.some (58, true)), []⟩, ⟨(.some 60), (.load 2 true (.tmp 59)), (.some (58, true)), []⟩, ⟨(.some 61), (.fieldA 8 (.tmp 3)), (.some (58, true)), []⟩, ⟨(.some 62), (.load 2 true (.tmp 61)), (.some (58, true)), []⟩, ⟨(.some 63), (.aeq false [(.int .i64), (.int .i64)] (.tmp 60) (.tmp 62)), (.some (58, true)), []⟩, ⟨(.some 64), (.pick (.tmp 58) (.tmp 63) (.const (.bool false))), .none, []⟩, ⟨(.some 65), (.mv (.tmp 64)), .none, []⟩, ⟨(.some 66), (.fieldA 10 (.tmp 2)), (.some (65, true)), []⟩, ⟨(.some 67), (.load 1 false (.tmp 66)), (.some (65, true)), []⟩, ⟨(.some 68), (.fieldA 10 (.tmp 3)), (.some (65, true)), []⟩, ⟨(.some 69), (.load 1 false (.tmp 68)), (.some (65, true)), []⟩, ⟨(.some 70), (.pu (.n (.ar .eql)) [(.tmp 67), (.tmp 69)]), (.some (65, true)), []⟩, ⟨(.some 71), (.pick (.tmp 65) (.tmp 70) (.const (.bool false))), .none, []⟩, ⟨(.some 72), (.mv (.tmp 71)), .none, []⟩, ⟨(.some 73), (.fieldA 11 (.tmp 2)), (.some (72, true)), []⟩, ⟨(.some 74), (.load 1 false (.tmp 73)), (.some (72, true)), []⟩, ⟨(.some 75), (.fieldA 11 (.tmp 3)), (.some (72, true)), []⟩, ⟨(.some 76), (.load 1 false (.tmp 75)), (.some (72, true)), []⟩, ⟨(.some 77), (.pu (.n (.ar .eql)) [(.tmp 74), (.tmp 76)]), (.some (72, true)), []⟩, ⟨(.some 78), (.pick (.tmp 72) (.tmp 77) (.const (.bool false))), .none, []⟩, ⟨(.some 4), (.mv (.tmp 78)), .none, []⟩]) .ret))), [(.tmp 4)]⟩
set_option maxHeartbeats 10000000 in
theorem d_impl_opSame {P : Program} {env : Env} {f_impl_vecSame : Nat}  (ep_impl_vecSame : env (2 * f_impl_vecSame) = pureFn true (FA fun a : TVec × TVec => p_impl_vecSame a.1 a.2)) (x0 : TOp) (x1 : TOp) {b : Bool} (hp : p_impl_opSame x0 x1 = some b) : R P env (c_impl_opSame f_impl_vecSame) ((encA (x0, x1)).map ofI) [] (Tells true b) := by
  refine R_of (by simp [c_impl_opSame, encA]) ?_
  unfold c_impl_opSame
  unfold p_impl_opSame at hp
  obtain ⟨v0, hv0, hp⟩ := bind_eq hp
  by_cases hb1 : (v0) = true
  · rw [if_t hb1] at hp
    by_cases hb2 : (decide (x0.actor = x1.actor)) = true
    · rw [if_t hb2] at hp
      by_cases hb3 : (decide (x0.seq = x1.seq)) = true
      · rw [if_t hb3] at hp
        by_cases hb4 : (decide (x0.time = x1.time)) = true
        · rw [if_t hb4] at hp
          by_cases hb5 : (decide (x0.kind = x1.kind)) = true
          · rw [if_t hb5] at hp
            by_cases hb6 : (decide (x0.obj = x1.obj)) = true
            · rw [if_t hb6] at hp
              by_cases hb7 : (decide (x0.n = x1.n)) = true
              · rw [if_t hb7] at hp
                by_cases hb8 : (decide (x0.undo = x1.undo)) = true
                · rw [if_t hb8] at hp
                  by_cases hb9 : ((decide (x0.at_.time = x1.at_.time) && decide (x0.at_.actor = x1.at_.actor))) = true
                  · rw [if_t hb9] at hp
                    by_cases hb10 : (decide (x0.key = x1.key)) = true
                    · rw [if_t hb10] at hp
                      have hp := Option.some.inj hp
                      subst hp
                      simp (maxSteps := 2000000) (disch := first | omega | (simp only [ls]; first | done | omega)) only [ep_impl_vecSame, hv0, hb1, hb2, hb3, hb4, hb5, hb6, hb7, hb8, hb9, hb10, gx, Int.reduceToNat]
                    · replace hb10 := eq_false_of_ne_true hb10
                      rw [if_f hb10] at hp
                      have hp := Option.some.inj hp
                      subst hp
                      simp (maxSteps := 2000000) (disch := first | omega | (simp only [ls]; first | done | omega)) only [ep_impl_vecSame, hv0, hb1, hb2, hb3, hb4, hb5, hb6, hb7, hb8, hb9, hb10, gx, Int.reduceToNat]
                  · replace hb9 := eq_false_of_ne_true hb9
                    rw [if_f hb9] at hp
                    have hp := Option.some.inj hp
                    subst hp
                    simp (maxSteps := 2000000) (disch := first | omega | (simp only [ls]; first | done | omega)) only [ep_impl_vecSame, hv0, hb1, hb2, hb3, hb4, hb5, hb6, hb7, hb8, hb9, gx, Int.reduceToNat]
                · replace hb8 := eq_false_of_ne_true hb8
                  rw [if_f hb8] at hp
                  have hp := Option.some.inj hp
                  subst hp
                  simp (maxSteps := 2000000) (disch := first | omega | (simp only [ls]; first | done | omega)) only [ep_impl_vecSame, hv0, hb1, hb2, hb3, hb4, hb5, hb6, hb7, hb8, gx, Int.reduceToNat]
              · replace hb7 := eq_false_of_ne_true hb7
                rw [if_f hb7] at hp
                have hp := Option.some.inj hp
                subst hp
                simp (maxSteps := 2000000) (disch := first | omega | (simp only [ls]; first | done | omega)) only [ep_impl_vecSame, hv0, hb1, hb2, hb3, hb4, hb5, hb6, hb7, gx, Int.reduceToNat]
            · replace hb6 := eq_false_of_ne_true hb6
              rw [if_f hb6] at hp
              have hp := Option.some.inj hp
              subst hp
              simp (maxSteps := 2000000) (disch := first | omega | (simp only [ls]; first | done | omega)) only [ep_impl_vecSame, hv0, hb1, hb2, hb3, hb4, hb5, hb6, gx, Int.reduceToNat]
          · replace hb5 := eq_false_of_ne_true hb5
            rw [if_f hb5] at hp
            have hp := Option.some.inj hp
            subst hp
            simp (maxSteps := 2000000) (disch := first | omega | (simp only [ls]; first | done | omega)) only [ep_impl_vecSame, hv0, hb1, hb2, hb3, hb4, hb5, gx, Int.reduceToNat]
        · replace hb4 := eq_false_of_ne_true hb4
          rw [if_f hb4] at hp
          have hp := Option.some.inj hp
          subst hp
          simp (maxSteps := 2000000) (disch := first | omega | (simp only [ls]; first | done | omega)) only [ep_impl_vecSame, hv0, hb1, hb2, hb3, hb4, gx, Int.reduceToNat]
      · replace hb3 := eq_false_of_ne_true hb3
        rw [if_f hb3] at hp
        have hp := Option.some.inj hp
        subst hp
        simp (maxSteps := 2000000) (disch := first | omega | (simp only [ls]; first | done | omega)) only [ep_impl_vecSame, hv0, hb1, hb2, hb3, gx, Int.reduceToNat]
    · replace hb2 := eq_false_of_ne_true hb2
      rw [if_f hb2] at hp
      have hp := Option.some.inj hp
      subst hp
      simp (maxSteps := 2000000) (disch := first | omega | (simp only [ls]; first | done | omega)) only [ep_impl_vecSame, hv0, hb1, hb2, gx, Int.reduceToNat]
  · replace hb1 := eq_false_of_ne_true hb1
    rw [if_f hb1] at hp
    have hp := Option.some.inj hp
    subst hp
    simp (maxSteps := 2000000) (disch := first | omega | (simp only [ls]; first | done | omega)) only [ep_impl_vecSame, hv0, hb1, gx, Int.reduceToNat]

noncomputable def p_impl_readTwo_l0 (v0 : T2 (Option TBook) Bool) (v2 : T2 (Option TBook) Bool) (s4 : Int) : Int → Option (Lp (Int) (T3 (Option TBook) (Option TBook) Int))
  | s6 =>
    (v0.a).bind fun v7 =>
    (get? v7.of_ s4).bind fun v8 =>
    if (decide (s6 < (v8.length : Int))) = true then
      (v2.a).bind fun v11 =>
      (get? v11.of_ s4).bind fun v12 =>
      if (decide (s6 < (v12.length : Int))) = true then
        (get? v8 s6).bind fun v16 =>
        (get? v12 s6).bind fun v18 =>
        (p_impl_opSame v16 v18).bind fun v19 =>
        if (v19) = true then
          some (.go (w64 (s6 + 1)))
        else
          some (.ret ⟨(none : Option TBook), (none : Option TBook), 16⟩)
      else
        some (.out s6)
    else
      some (.out s6)
noncomputable def p_impl_readTwo_l1 (v0 : T2 (Option TBook) Bool) (v2 : T2 (Option TBook) Bool) : Int → Option (Lp (Int) (T3 (Option TBook) (Option TBook) Int))
  | s4 =>
    if (decide (s4 < 16)) = true then
      (loopP (p_impl_readTwo_l0 v0 v2 s4) 0).bind fun ee0 => match ee0 with
      | .ret r => some (.ret r)
      | .out o21 =>
        some (.go (w64 (s4 + 1)))
    else
      some (.out s4)
noncomputable def p_impl_readTwo (x0 : List TOp) (x1 : List TOp) : Option (T3 (Option TBook) (Option TBook) Int) :=
  (p_impl_readBook x0).bind fun v0 =>
  if (v0.b) = true then
    (p_impl_readBook x1).bind fun v2 =>
    if (v2.b) = true then
      (loopP (p_impl_readTwo_l1 v0 v2) 0).bind fun ee1 => match ee1 with
      | .ret r => some r
      | .out o22 =>
        some ⟨v0.a, v2.a, 0⟩
    else
      some ⟨(none : Option TBook), (none : Option TBook), 1⟩
  else
    some ⟨(none : Option TBook), (none : Option TBook), 1⟩
def c_impl_readTwo (f_impl_readBook : Nat) (f_impl_opSame : Nat) : AFn := ⟨74, (.seq (.ops [⟨(.some 4), (.mv (.const (.pointer .none))), .none, []⟩, ⟨(.some 5), (.mv (.const (.pointer .none))), .none, []⟩, ⟨(.some 6), (.mv (.const (.int .i64 0))), .none, []⟩]) (.seq (.ops [⟨(.some 13), (.mv (.tmp 0)), .none, []⟩, ⟨(.some 14), (.call (2 * f_impl_readBook) [(.tmp 13)]), .none, []⟩, ⟨(.some 12), (.mv (.tmp 14)), .none, []⟩, ⟨(.some 15), (.extract 0 (.tmp 12)), .none, []⟩, ⟨(.some 16), (.extract 1 (.tmp 12)), .none, []⟩, ⟨(.some 7), (.mv (.tmp 15)), .none, []⟩, ⟨(.some 8), (.mv (.tmp 16)), .none, []⟩]) (.seq (.seq (.ops [⟨(.some 17), (.mv (.tmp 8)), .none, []⟩, ⟨(.some 18), (.pu (.n (.un .not)) [(.tmp 17)]), .none, []⟩]) (.cond (.tmp 18) (.seq (.ops [⟨(.some 4), (.mv (.const (.pointer .none))), .none, []⟩, ⟨(.some 5), (.mv (.const (.pointer .none))), .none, []⟩, ⟨(.some 6), (.mv (.const (.int .i64 1))), .none, []⟩]) .ret) .skip)) (.seq (.ops [⟨(.some 20), (.mv (.tmp 1)), .none, []⟩, ⟨(.some 21), (.call (2 * f_impl_readBook) [(.tmp 20)]), .none, []⟩, ⟨(.some 19), (.mv (.tmp 21)), .none, []⟩, ⟨(.some 22), (.extract 0 (.tmp 19)), .none, []⟩, ⟨(.some 23), (.extract 1 (.tmp 19)), .none, []⟩, ⟨(.some 9), (.mv (.tmp 22)), .none, []⟩, ⟨(.some 8), (.mv (.tmp 23)), .none, []⟩]) (.seq (.seq (.ops [⟨(.some 24), (.mv (.tmp 8)), .none, []⟩, ⟨(.some 25), (.pu (.n (.un .not)) [(.tmp 24)]), .none, []⟩]) (.cond (.tmp 25) (.seq (.ops [⟨(.some 4), (.mv (.const (.pointer .none))), .none, []⟩, ⟨(.some 5), (.mv (.const (.pointer .none))), .none, []⟩, ⟨(.some 6), (.mv (.const (.int .i64 1))), .none, []⟩]) .ret) .skip)) (.seq (.seq (.ops [⟨(.some 26), (.mv (.const (.int .i64 0))), .none, []⟩]) (.block 0 (.loop (.seq (.ops [⟨(.some 27), (.pu (.n (.ar .lss)) [(.tmp 26), (.const (.int .i64 16))]), .none, []⟩]) (.seq (.cond (.tmp 27) .skip (.exit 0)) (.seq (.block 1 (.seq (.ops [⟨(.some 28), (.mv (.tmp 26)), .none, []⟩, ⟨(.some 10), (.mv (.tmp 28)), .none, []⟩]) (.seq (.ops [⟨(.some 11), (.mv (.const (.int .i64 0))), .none, []⟩]) (.block 2 (.loop (.seq (.seq (.ops [⟨(.some 29), (.mv (.tmp 11)), .none, []⟩, ⟨(.some 30), (.mv (.tmp 7)), .none, []⟩, ⟨(.some 31), (.mv (.tmp 10)), .none, []⟩, ⟨(.some 32), (.nilChk (.tmp 30)), .none, []⟩, ⟨(.some 33), (.fieldA 0 (.tmp 32)), .none, []⟩, ⟨(.some 34), (.idxA 16 1 (.tmp 33) (.tmp 31)), .none, []⟩, ⟨(.some 35), (.load 1 false (.tmp 34)), .none, []⟩, ⟨(.some 36), (.len (.tmp 35)), .none, []⟩, ⟨(.some 37), (.pu (.n (.ar .lss)) [(.tmp 29), (.tmp 36)]), .none, []⟩, ⟨(.some 38), (.mv (.tmp 37)), .none, []⟩, ⟨(.some 39), (.mv (.tmp 11)), (.some (38, true)), []⟩, ⟨(.some 40), (.mv (.tmp 9)), (.some (38, true)), []⟩, ⟨(.some 41), (.mv (.tmp 10)), (.some (38, true)), []⟩, ⟨(.some 42), (.nilChk (.tmp 40)), (.some (38, true)), []⟩, ⟨(.some 43), (.fieldA 0 (.tmp 42)), (.some (38, true)), []⟩, ⟨(.some 44), (.idxA 16 1 (.tmp 43) (.tmp 41)), (.some (38, true)), []⟩, ⟨(.some 45), (.load 1 false (.tmp 44)), (.some (38, true)), []⟩, ⟨(.some 46), (.len (.tmp 45)), (.some (38, true)), []⟩, ⟨(.some 47), (.pu (.n (.ar .lss)) [(.tmp 39), (.tmp 46)]), (.some (38, true)), []⟩, ⟨(.some 48), (.pick (.tmp 38) (.tmp 47) (.const (.bool false))), .none, []⟩]) (.cond (.tmp 48) .skip (.exit 2))) (.seq (.block 3 (.seq (.ops [⟨(.some 51), (.mv (.tmp 7)), .none, []⟩, ⟨(.some 52), (.mv (.tmp 10)), .none, []⟩, ⟨(.some 53), (.nilChk (.tmp 51)), .none, []⟩, ⟨(.some 54), (.fieldA 0 (.tmp 53)), .none, []⟩, ⟨(.some 55), (.idxA 16 1 (.tmp 54) (.tmp 52)), .none, []⟩, ⟨(.some 56), (.load 1 false (.tmp 55)), .none, []⟩, ⟨(.some 57), (.mv (.tmp 11)), .none, []⟩, ⟨(.some 58), (.idxS 12 (.tmp 56) (.tmp 57)), .none, []⟩, ⟨(.some 59), (.load 12 true (.tmp 58)), .none, []⟩, ⟨(.some 60), (.mv (.tmp 9)), .none, []⟩, ⟨(.some 61), (.mv (.tmp 10)), .none, []⟩, ⟨(.some 62), (.nilChk (.tmp 60)), .none, []⟩, ⟨(.some 63), (.fieldA 0 (.tmp 62)), .none, []⟩, ⟨(.some 64), (.idxA 16 1 (.tmp 63) (.tmp 61)), .none, []⟩, ⟨(.some 65), (.load 1 false (.tmp 64)), .none, []⟩, ⟨(.some 66), (.mv (.tmp 11)), .none, []⟩, ⟨(.some 67), (.idxS 12 (.tmp 65) (.tmp 66)), .none, []⟩, ⟨(.some 68), (.load 12 true (.tmp 67)), .none, []⟩, ⟨(.some 69), (.call (2 * f_impl_opSame) [(.tmp 59), (.tmp 68)]), .none, []⟩, ⟨(.some 70), (.pu (.n (.un .not)) [(.tmp 69)]), .none, []⟩]) (.cond (.tmp 70) (.seq (.ops [⟨(.some 4), (.mv (.const (.pointer .none))), .none, []⟩, ⟨(.some 5), (.mv (.const (.pointer .none))), .none, []⟩, ⟨(.some 6), (.mv (.const (.int .i64 16))), .none, []⟩]) .ret) .skip))) (.ops [⟨(.some 49), (.mv (.tmp 11)), .none, []⟩, ⟨(.some 50), (.pu (.n (.ar .add)) [(.tmp 49), (.const (.int .i64 1))]), .none, []⟩, ⟨(.some 11), (.mv (.tmp 50)), .none, []⟩])))))))) (.ops [⟨(.some 71), (.pu (.n (.ar .add)) [(.tmp 26), (.const (.int .i64 1))]), .none, []⟩, ⟨(.some 26), (.mv (.tmp 71)), .none, []⟩]))))))) (.seq (.ops [⟨(.some 72), (.mv (.tmp 7)), .none, []⟩, ⟨(.some 73), (.mv (.tmp 9)), .none, []⟩, ⟨(.some 4), (.mv (.tmp 72)), .none, []⟩, ⟨(.some 5), (.mv (.tmp 73)), .none, []⟩, ⟨(.some 6), (.mv (.const (.int .i64 0))), .none, []⟩]) .ret))))))), [(.tmp 4), (.tmp 5), (.tmp 6)]⟩
set_option maxHeartbeats 10000000 in
theorem d_impl_readTwo {P : Program} {env : Env} {f_impl_readBook : Nat} {f_impl_opSame : Nat}  (ep_impl_readBook : env (2 * f_impl_readBook) = pureFn false (FA fun a : List TOp => p_impl_readBook a)) (ep_impl_opSame : env (2 * f_impl_opSame) = pureFn true (FA fun a : TOp × TOp => p_impl_opSame a.1 a.2)) (x0 : List TOp) (x1 : List TOp) {b : T3 (Option TBook) (Option TBook) Int} (hp : p_impl_readTwo x0 x1 = some b) : R P env (c_impl_readTwo f_impl_readBook f_impl_opSame) ((encA (x0, x1)).map ofI) [] (Tells false b) := by
  refine R_of (by simp [c_impl_readTwo, encA]) ?_
  unfold c_impl_readTwo
  unfold p_impl_readTwo at hp
  obtain ⟨v0, hv0, hp⟩ := bind_eq hp
  by_cases hb1 : (v0.b) = true
  · rw [if_t hb1] at hp
    obtain ⟨v2, hv2, hp⟩ := bind_eq hp
    by_cases hb3 : (v2.b) = true
    · rw [if_t hb3] at hp
      obtain ⟨ee1, hee1, hp⟩ := bind_eq hp
      simp (maxSteps := 2000000) (disch := first | omega | (simp only [ls]; first | done | omega)) only [ep_impl_readBook, ep_impl_opSame, hv0, hb1, hv2, hb3, gx, Int.reduceToNat]
      refine W_loopP 0 (fun s t h => match s with | s4 => t 7 = .i (enc (v0.a : Option TBook)) ∧ t 9 = .i (enc (v2.a : Option TBook)) ∧ t 26 = .i (.s (.int .i64 s4))) (RK [.tmp 4, .tmp 5, .tmp 6] (Tells false)) ?_ hee1 ?_ ?_
      · rintro s4 ee tt0 hh0 ⟨ftt0_0, ftt0_1, ftt0_2⟩ hp
        rw [p_impl_readTwo_l1] at hp
        by_cases hb5 : (decide (s4 < 16)) = true
        · rw [if_t hb5] at hp
          obtain ⟨ee0, hee0, hp⟩ := bind_eq hp
          simp (maxSteps := 2000000) (disch := first | omega | (simp only [ls]; first | done | omega)) only [ep_impl_readBook, ep_impl_opSame, hv0, hb1, hv2, hb3, ftt0_0, ftt0_1, ftt0_2, hb5, gx, Int.reduceToNat]
          refine W_loopP 2 (fun s t h => match s with | s6 => t 7 = .i (enc (v0.a : Option TBook)) ∧ t 9 = .i (enc (v2.a : Option TBook)) ∧ t 10 = .i (.s (.int .i64 s4)) ∧ t 11 = .i (.s (.int .i64 s6)) ∧ t 26 = .i (.s (.int .i64 s4))) (RK [.tmp 4, .tmp 5, .tmp 6] (Tells false)) ?_ hee0 ?_ ?_
          · rintro s6 ee tt1 hh1 ⟨ftt1_0, ftt1_1, ftt1_2, ftt1_3, ftt1_4⟩ hp
            rw [p_impl_readTwo_l0] at hp
            obtain ⟨v7, hv7, hp⟩ := bind_eq hp
            obtain ⟨v8, hv8, hp⟩ := bind_eq hp
            have gv8 := get_some hv8
            have bv8 : s4 < 16 := by have := gv8.2.1; have := (v7).h1; omega
            have hk9 := ip_of hv8
            have hk9l : 1 ≤ _ := ip_len0 (k := v7) (i := s4) (by have := gv8.2.1; have := (v7).h1; omega)
            by_cases hb10 : (decide (s6 < (v8.length : Int))) = true
            · rw [if_t hb10] at hp
              obtain ⟨v11, hv11, hp⟩ := bind_eq hp
              obtain ⟨v12, hv12, hp⟩ := bind_eq hp
              have gv12 := get_some hv12
              have bv12 : s4 < 16 := by have := gv12.2.1; have := (v11).h1; omega
              have hk13 := ip_of hv12
              have hk13l : 1 ≤ _ := ip_len0 (k := v11) (i := s4) (by have := gv12.2.1; have := (v11).h1; omega)
              by_cases hb14 : (decide (s6 < (v12.length : Int))) = true
              · rw [if_t hb14] at hp
                have hk15 := ip_of hv8
                have hk15l : 1 ≤ _ := ip_len0 (k := v7) (i := s4) (by have := gv8.2.1; have := (v7).h1; omega)
                obtain ⟨v16, hv16, hp⟩ := bind_eq hp
                have hk17 := ip_of hv12
                have hk17l : 1 ≤ _ := ip_len0 (k := v11) (i := s4) (by have := gv12.2.1; have := (v11).h1; omega)
                obtain ⟨v18, hv18, hp⟩ := bind_eq hp
                obtain ⟨v19, hv19, hp⟩ := bind_eq hp
                by_cases hb20 : (v19) = true
                · rw [if_t hb20] at hp
                  have hp := Option.some.inj hp
                  subst hp
                  simp (maxSteps := 2000000) (disch := first | omega | (simp only [ls]; first | done | omega)) only [ep_impl_readBook, ep_impl_opSame, hv0, hb1, hv2, hb3, ftt0_0, ftt0_1, ftt0_2, hb5, ftt1_0, ftt1_1, ftt1_2, ftt1_3, ftt1_4, hv7, hv8, (gv8).1, bv8, hk9, hk9l, hb10, hv11, hv12, (gv12).1, bv12, hk13, hk13l, hb14, hk15, hk15l, hv16, hk17, hk17l, hv18, hv19, hb20, gx, Int.reduceToNat] <;> omega
                · replace hb20 := eq_false_of_ne_true hb20
                  rw [if_f hb20] at hp
                  have hp := Option.some.inj hp
                  subst hp
                  simp (maxSteps := 2000000) (disch := first | omega | (simp only [ls]; first | done | omega)) only [ep_impl_readBook, ep_impl_opSame, hv0, hb1, hv2, hb3, ftt0_0, ftt0_1, ftt0_2, hb5, ftt1_0, ftt1_1, ftt1_2, ftt1_3, ftt1_4, hv7, hv8, (gv8).1, bv8, hk9, hk9l, hb10, hv11, hv12, (gv12).1, bv12, hk13, hk13l, hb14, hk15, hk15l, hv16, hk17, hk17l, hv18, hv19, hb20, gx, Int.reduceToNat]
              · replace hb14 := eq_false_of_ne_true hb14
                rw [if_f hb14] at hp
                have hp := Option.some.inj hp
                subst hp
                simp (maxSteps := 2000000) (disch := first | omega | (simp only [ls]; first | done | omega)) only [ep_impl_readBook, ep_impl_opSame, hv0, hb1, hv2, hb3, ftt0_0, ftt0_1, ftt0_2, hb5, ftt1_0, ftt1_1, ftt1_2, ftt1_3, ftt1_4, hv7, hv8, (gv8).1, bv8, hk9, hk9l, hb10, hv11, hv12, (gv12).1, bv12, hk13, hk13l, hb14, gx, Int.reduceToNat] <;> omega
            · replace hb10 := eq_false_of_ne_true hb10
              rw [if_f hb10] at hp
              have hp := Option.some.inj hp
              subst hp
              simp (maxSteps := 2000000) (disch := first | omega | (simp only [ls]; first | done | omega)) only [ep_impl_readBook, ep_impl_opSame, hv0, hb1, hv2, hb3, ftt0_0, ftt0_1, ftt0_2, hb5, ftt1_0, ftt1_1, ftt1_2, ftt1_3, ftt1_4, hv7, hv8, (gv8).1, bv8, hk9, hk9l, hb10, gx, Int.reduceToNat] <;> omega
          · simp (maxSteps := 2000000) (disch := first | omega | (simp only [ls]; first | done | omega)) only [ep_impl_readBook, ep_impl_opSame, hv0, hb1, hv2, hb3, ftt0_0, ftt0_1, ftt0_2, hb5, gx, Int.reduceToNat] <;> omega
          · intro x tt2 hh2 hx
            rcases ee0 with o21 | r
            · obtain ⟨rfl, ftt2_0, ftt2_1, ftt2_2, ftt2_3, ftt2_4⟩ := hx
              dsimp only at hp
              have hp := Option.some.inj hp
              subst hp
              simp (maxSteps := 2000000) (disch := first | omega | (simp only [ls]; first | done | omega)) only [ep_impl_readBook, ep_impl_opSame, hv0, hb1, hv2, hb3, ftt0_0, ftt0_1, ftt0_2, hb5, ftt2_0, ftt2_1, ftt2_2, ftt2_3, ftt2_4, gx, Int.reduceToNat] <;> omega
            · obtain ⟨rfl, hx⟩ := hx
              dsimp only at hp
              cases hp
              simp only [seqK_ret, blockK_ret, retK_RK (K := Tells false), hx, and_self, true_and]
        · replace hb5 := eq_false_of_ne_true hb5
          rw [if_f hb5] at hp
          have hp := Option.some.inj hp
          subst hp
          simp (maxSteps := 2000000) (disch := first | omega | (simp only [ls]; first | done | omega)) only [ep_impl_readBook, ep_impl_opSame, hv0, hb1, hv2, hb3, ftt0_0, ftt0_1, ftt0_2, hb5, gx, Int.reduceToNat] <;> omega
      · simp (maxSteps := 2000000) (disch := first | omega | (simp only [ls]; first | done | omega)) only [ep_impl_readBook, ep_impl_opSame, hv0, hb1, hv2, hb3, gx, Int.reduceToNat] <;> omega
      · intro x tt3 hh3 hx
        rcases ee1 with o22 | r
        · obtain ⟨rfl, ftt3_0, ftt3_1, ftt3_2⟩ := hx
          dsimp only at hp
          have hp := Option.some.inj hp
          subst hp
          simp (maxSteps := 2000000) (disch := first | omega | (simp only [ls]; first | done | omega)) only [ep_impl_readBook, ep_impl_opSame, hv0, hb1, hv2, hb3, ftt3_0, ftt3_1, ftt3_2, gx, Int.reduceToNat]
        · obtain ⟨rfl, hx⟩ := hx
          dsimp only at hp
          cases hp
          simp only [seqK_ret, blockK_ret, retK_RK (K := Tells false), hx, and_self, true_and]
    · replace hb3 := eq_false_of_ne_true hb3
      rw [if_f hb3] at hp
      have hp := Option.some.inj hp
      subst hp
      simp (maxSteps := 2000000) (disch := first | omega | (simp only [ls]; first | done | omega)) only [ep_impl_readBook, ep_impl_opSame, hv0, hb1, hv2, hb3, gx, Int.reduceToNat]
  · replace hb1 := eq_false_of_ne_true hb1
    rw [if_f hb1] at hp
    have hp := Option.some.inj hp
    subst hp
    simp (maxSteps := 2000000) (disch := first | omega | (simp only [ls]; first | done | omega)) only [ep_impl_readBook, ep_impl_opSame, hv0, hb1, gx, Int.reduceToNat]

noncomputable def p_impl_book_vector_l0 (x0 : Option TBook) : List Int × Int → Option (Lp (List Int × Int) TVec)
  | (s1, s2) =>
    if (decide (s2 < 16)) = true then
      (x0).bind fun v4 =>
      (get? v4.of_ s2).bind fun v5 =>
      (get? s1 s2).bind fun v7 =>
      some (.go ((s1.set s2.toNat (v5.length : Int)), w64 (s2 + 1)))
    else
      some (.out (s1, s2))
noncomputable def p_impl_book_vector (x0 : Option TBook) : Option TVec :=
  ((mkL 16 8 16 0 : Option (List Int))).bind fun v0 =>
  (loopP (p_impl_book_vector_l0 x0) (v0, 0)).bind fun ee0 => match ee0 with
  | .ret r => some r
  | .out (o9, o10) =>
    some (TVec.mk o9)
def c_impl_book_vector : AFn := ⟨22, (.seq (.ops [⟨(.some 2), (.allocV [(1, false)] [(.slice .none 0 0)]), .none, []⟩]) (.seq (.ops [⟨(.some 5), (.makeSl 1 false 8 [(.int .i64 0)] (.const (.int .i64 16)) (.const (.int .i64 16))), .none, []⟩, ⟨(.some 3), (.mv (.tmp 5)), .none, []⟩]) (.seq (.seq (.ops [⟨(.some 6), (.mv (.const (.int .i64 0))), .none, []⟩]) (.block 0 (.loop (.seq (.ops [⟨(.some 7), (.pu (.n (.ar .lss)) [(.tmp 6), (.const (.int .i64 16))]), .none, []⟩]) (.seq (.cond (.tmp 7) .skip (.exit 0)) (.seq (.block 1 (.seq (.ops [⟨(.some 8), (.mv (.tmp 6)), .none, []⟩, ⟨(.some 4), (.mv (.tmp 8)), .none, []⟩]) (.ops [⟨(.some 9), (.mv (.tmp 3)), .none, []⟩, ⟨(.some 10), (.mv (.tmp 4)), .none, []⟩, ⟨(.some 11), (.mv (.tmp 0)), .none, []⟩, ⟨(.some 12), (.mv (.tmp 4)), .none, []⟩, ⟨(.some 13), (.nilChk (.tmp 11)), .none, []⟩, ⟨(.some 14), (.fieldA 0 (.tmp 13)), .none, []⟩, ⟨(.some 15), (.idxA 16 1 (.tmp 14) (.tmp 12)), .none, []⟩, ⟨(.some 16), (.load 1 false (.tmp 15)), .none, []⟩, ⟨(.some 17), (.len (.tmp 16)), .none, []⟩, ⟨(.some 18), (.idxS 1 (.tmp 9) (.tmp 10)), .none, []⟩, ⟨.none, (.storeV [(0, false)] 1 (.tmp 18) (.tmp 17)), .none, []⟩]))) (.ops [⟨(.some 19), (.pu (.n (.ar .add)) [(.tmp 6), (.const (.int .i64 1))]), .none, []⟩, ⟨(.some 6), (.mv (.tmp 19)), .none, []⟩]))))))) (.seq (.ops [⟨(.some 20), (.mv (.tmp 3)), .none, []⟩, ⟨(.some 21), (.build [(.slice .none 0 0)] [(0, (1, (.tmp 20)))]), .none, []⟩, ⟨.none, (.storeV [(1, false)] 1 (.tmp 2) (.tmp 21)), .none, []⟩]) .ret)))), [(.cell 2 1 true)]⟩
def o_impl_book_vector (b : TVec) (v : V) (h : Heap) : Prop := ∃ n0 : Nat, v = .agg [.hsl n0 b.counts.length 0 1 false b.counts.length] ∧ getCells h n0 b.counts.length = some (rows b.counts)
def oo_impl_book_vector (b : TVec) (h : Heap) (v : V) (h2 : Heap) : Prop := Keep [] h h2 ∧ ∃ n0 : Nat, v = .agg [.hsl n0 b.counts.length 0 1 false b.counts.length] ∧ n0 < h2.length ∧ h.length ≤ n0 ∧ getCells h2 n0 b.counts.length = some (rows b.counts)
def k_impl_book_vector (F : Fun) : Prop := ∀ (x0 : Option TBook) (b : TVec), p_impl_book_vector x0 = some b → ∀ (h : Heap) (args : List V), snapA 9 false h args = some (encA (x0)) → ∃ p, F none args h = some p ∧ oo_impl_book_vector b h p.1 p.2
set_option maxHeartbeats 10000000 in
theorem w_impl_book_vector {P : Program} {env : Env}  (x0 : Option TBook) {b : TVec} (hp : p_impl_book_vector x0 = some b) : R P env (c_impl_book_vector) ((encA (x0)).map ofI) [] (o_impl_book_vector b) := by
  refine R_of (by simp [c_impl_book_vector, encA]) ?_
  unfold c_impl_book_vector
  unfold p_impl_book_vector at hp
  obtain ⟨v0, hv0, hp⟩ := bind_eq hp
  obtain ⟨kv0, qv0, lv0⟩ := mkL_some hv0
  have rv0 : [.i (.s (.int .i64 0)), .i (.s (.int .i64 0)), .i (.s (.int .i64 0)), .i (.s (.int .i64 0)), .i (.s (.int .i64 0)), .i (.s (.int .i64 0)), .i (.s (.int .i64 0)), .i (.s (.int .i64 0)), .i (.s (.int .i64 0)), .i (.s (.int .i64 0)), .i (.s (.int .i64 0)), .i (.s (.int .i64 0)), .i (.s (.int .i64 0)), .i (.s (.int .i64 0)), .i (.s (.int .i64 0)), .i (.s (.int .i64 0))] = rows v0 := by rw [qv0]; rfl
  have mv0 : 16 = v0.length := by rw [lv0]; simp
  obtain ⟨ee0, hee0, hp⟩ := bind_eq hp
  simp (maxSteps := 2000000) (disch := first | omega | (simp only [ls]; first | done | omega)) only [hv0, rv0, kv0.1, kv0.2.1, kv0.2.2.1, kv0.2.2.2, gx, Int.reduceToNat]
  refine W_loopP 0 (fun s t h => match s with | (s1, s2) => t 0 = .i (enc (x0 : Option TBook)) ∧ t 2 = .ptr 1 1 0 ∧ t 3 = .hsl 2 16 0 1 false 16 ∧ t 6 = .i (.s (.int .i64 s2)) ∧ getCells h 0 0 = some (rows ([] : List Int)) ∧ 0 < h.length ∧ getCells h 1 1 = some [.hsl 0 0 0 1 false 0] ∧ 1 < h.length ∧ getCells h 2 16 = some (rows (s1 : List Int)) ∧ 2 < h.length) (RK [.cell 2 1 true] (o_impl_book_vector)) ?_ hee0 ?_ ?_
  · rintro ⟨s1, s2⟩ ee tt0 hh0 ⟨ftt0_0, ftt0_1, ftt0_2, ftt0_3, ftt0_4, ftt0_5, ftt0_6, ftt0_7, ftt0_8, ftt0_9⟩ hp
    have ztt0_4 := len_rows ftt0_4
    simp only [zs] at ztt0_4
    have ztt0_8 := len_rows ftt0_8
    simp only [zs] at ztt0_8
    rw [p_impl_book_vector_l0] at hp
    by_cases hb3 : (decide (s2 < 16)) = true
    · rw [if_t hb3] at hp
      obtain ⟨v4, hv4, hp⟩ := bind_eq hp
      obtain ⟨v5, hv5, hp⟩ := bind_eq hp
      have gv5 := get_some hv5
      have bv5 : s2 < 16 := by have := gv5.2.1; have := (v4).h1; omega
      have hk6 := ip_of hv5
      have hk6l : 1 ≤ _ := ip_len0 (k := v4) (i := s2) (by have := gv5.2.1; have := (v4).h1; omega)
      obtain ⟨v7, hv7, hp⟩ := bind_eq hp
      have gv7 := get_some hv7
      have hs8 : List.take s2.toNat (rows s1) ++ .i (.s (.int .i64 (v5.length : Int))) :: List.drop (s2.toNat + 1) (rows s1) = rows (s1.set s2.toNat (v5.length : Int)) := by simpa [splice, zs, cellsV, I.cells, enc_int] using rows_set_off (y := (v5.length : Int)) (ys := [.i (.s (.int .i64 (v5.length : Int)))]) (k := 0) gv7.2.2 (Nat.le_of_ble_eq_true rfl) (by rfl)
      have hp := Option.some.inj hp
      subst hp
      simp (maxSteps := 2000000) (disch := first | omega | (simp only [ls]; first | done | omega)) only [hv0, rv0, kv0.1, kv0.2.1, kv0.2.2.1, kv0.2.2.2, ftt0_0, ftt0_1, ftt0_2, ftt0_3, ftt0_4, ftt0_5, ftt0_6, ftt0_7, ftt0_8, ftt0_9, hb3, hv4, hv5, (gv5).1, bv5, hk6, hk6l, hv7, (gv7).1, (gv7).2.1, hs8, gx, Int.reduceToNat] <;> omega
    · replace hb3 := eq_false_of_ne_true hb3
      rw [if_f hb3] at hp
      have hp := Option.some.inj hp
      subst hp
      simp (maxSteps := 2000000) (disch := first | omega | (simp only [ls]; first | done | omega)) only [hv0, rv0, kv0.1, kv0.2.1, kv0.2.2.1, kv0.2.2.2, ftt0_0, ftt0_1, ftt0_2, ftt0_3, ftt0_4, ftt0_5, ftt0_6, ftt0_7, ftt0_8, ftt0_9, hb3, gx, Int.reduceToNat] <;> omega
  · simp (maxSteps := 2000000) (disch := first | omega | (simp only [ls]; first | done | omega)) only [hv0, rv0, kv0.1, kv0.2.1, kv0.2.2.1, kv0.2.2.2, gx, Int.reduceToNat] <;> omega
  · intro x tt1 hh1 hx
    rcases ee0 with ⟨o9, o10⟩ | r
    · obtain ⟨rfl, ftt1_0, ftt1_1, ftt1_2, ftt1_3, ftt1_4, ftt1_5, ftt1_6, ftt1_7, ftt1_8, ftt1_9⟩ := hx
      have ztt1_4 := len_rows ftt1_4
      simp only [zs] at ztt1_4
      have ztt1_8 := len_rows ftt1_8
      simp only [zs] at ztt1_8
      dsimp only at hp
      have hp := Option.some.inj hp
      subst hp
      simp (maxSteps := 2000000) (disch := first | omega | (simp only [ls]; first | done | omega)) only [hv0, rv0, kv0.1, kv0.2.1, kv0.2.2.1, kv0.2.2.2, ftt1_0, ftt1_1, ftt1_2, ftt1_3, ftt1_4, ftt1_5, ftt1_6, ftt1_7, ftt1_8, ftt1_9, gx, Int.reduceToNat]
      refine ⟨2, ?_⟩
      simp (maxSteps := 2000000) (disch := first | omega | (simp only [ls]; first | done | omega)) only [hv0, rv0, kv0.1, kv0.2.1, kv0.2.2.1, kv0.2.2.2, ftt1_0, ftt1_1, ftt1_2, ftt1_3, ftt1_4, ftt1_5, ftt1_6, ftt1_7, ftt1_8, ftt1_9, o_impl_book_vector, (show (o9).length = 16 from by first | omega | rfl), gx, Int.reduceToNat] <;> omega
    · obtain ⟨rfl, hx⟩ := hx
      dsimp only at hp
      cases hp
      simp only [seqK_ret, blockK_ret, retK_RK (K := o_impl_book_vector), hx, and_self, true_and]
theorem ko_impl_book_vector {P : Program} {env : Env}  : k_impl_book_vector (ownFn P env (c_impl_book_vector)) := by
  intro x0 b hp h args has
  obtain ⟨⟨v, H2⟩, hr, n0, rfl, wn0⟩ := w_impl_book_vector x0 hp
  exact ⟨_, own_call has hr rfl, keep_moved, n0 + h.length, rfl, (moved_lt wn0).2, (moved_lt wn0).1, moved_rows wn0⟩

noncomputable def p_impl_VecMeet_l0 (x0 : TVec) (x1 : TVec) : List Int × Int → Option (Lp (List Int × Int) (T2 TVec Int))
  | (s5, s6) =>
    if (decide (s6 < 16)) = true then
      (get? x0.counts s6).bind fun v8 =>
      (get? x1.counts s6).bind fun v9 =>
      (get? s5 s6).bind fun v10 =>
      some (.go ((s5.set s6.toNat (if v9 < v8 then v9 else v8)), w64 (s6 + 1)))
    else
      some (.out (s5, s6))
noncomputable def p_impl_VecMeet (x0 : TVec) (x1 : TVec) : Option (T2 TVec Int) :=
  (p_impl_VecOK x0).bind fun v0 =>
  if (v0) = true then
    (p_impl_VecOK x1).bind fun v2 =>
    if (v2) = true then
      ((mkL 16 8 16 0 : Option (List Int))).bind fun v4 =>
      (loopP (p_impl_VecMeet_l0 x0 x1) (v4, 0)).bind fun ee0 => match ee0 with
      | .ret r => some r
      | .out (o12, o13) =>
        some ⟨(TVec.mk o12), 0⟩
    else
      some ⟨(TVec.mk ([])), 1⟩
  else
    some ⟨(TVec.mk ([])), 1⟩
def c_impl_VecMeet (f_impl_VecOK : Nat) : AFn := ⟨40, (.seq (.ops [⟨(.some 2), (.box (.tmp 0)), .none, []⟩, ⟨(.some 3), (.box (.tmp 1)), .none, []⟩, ⟨(.some 4), (.allocV [(1, false)] [(.slice .none 0 0)]), .none, []⟩, ⟨(.some 5), (.mv (.const (.int .i64 0))), .none, []⟩]) (.seq (.seq (.ops [⟨(.some 8), (.load 1 true (.tmp 2)), .none, []⟩, ⟨(.some 9), (.call (2 * f_impl_VecOK) [(.tmp 8)]), .none, []⟩, ⟨(.some 10), (.pu (.n (.un .not)) [(.tmp 9)]), .none, []⟩, ⟨(.some 11), (.mv (.tmp 10)), .none, []⟩, ⟨(.some 12), (.load 1 true (.tmp 3)), (.some (11, false)), []⟩, ⟨(.some 13), (.call (2 * f_impl_VecOK) [(.tmp 12)]), (.some (11, false)), []⟩, ⟨(.some 14), (.pu (.n (.un .not)) [(.tmp 13)]), (.some (11, false)), []⟩, ⟨(.some 15), (.pick (.tmp 11) (.const (.bool true)) (.tmp 14)), .none, []⟩]) (.cond (.tmp 15) (.seq (.ops [⟨(.some 16), (.build [(.slice .none 0 0)] []), .none, []⟩, ⟨.none, (.storeV [(1, false)] 1 (.tmp 4) (.tmp 16)), .none, []⟩, ⟨(.some 5), (.mv (.const (.int .i64 1))), .none, []⟩]) .ret) .skip)) (.seq (.ops [⟨(.some 17), (.makeSl 1 false 8 [(.int .i64 0)] (.const (.int .i64 16)) (.const (.int .i64 16))), .none, []⟩, ⟨(.some 6), (.mv (.tmp 17)), .none, []⟩]) (.seq (.seq (.ops [⟨(.some 18), (.mv (.tmp 6)), .none, []⟩, ⟨(.some 19), (.len (.tmp 18)), .none, []⟩, ⟨(.some 20), (.mv (.const (.int .i64 0))), .none, []⟩]) (.block 0 (.loop (.seq (.ops [⟨(.some 21), (.pu (.n (.ar .lss)) [(.tmp 20), (.tmp 19)]), .none, []⟩]) (.seq (.cond (.tmp 21) .skip (.exit 0)) (.seq (.block 1 (.seq (.ops [⟨(.some 22), (.mv (.tmp 20)), .none, []⟩, ⟨(.some 7), (.mv (.tmp 22)), .none, []⟩]) (.ops [⟨(.some 23), (.mv (.tmp 6)), .none, []⟩, ⟨(.some 24), (.mv (.tmp 7)), .none, []⟩, ⟨(.some 25), (.fieldA 0 (.tmp 2)), .none, []⟩, ⟨(.some 26), (.load 1 false (.tmp 25)), .none, []⟩, ⟨(.some 27), (.mv (.tmp 7)), .none, []⟩, ⟨(.some 28), (.idxS 1 (.tmp 26) (.tmp 27)), .none, []⟩, ⟨(.some 29), (.load 1 false (.tmp 28)), .none, []⟩, ⟨(.some 30), (.fieldA 0 (.tmp 3)), .none, []⟩, ⟨(.some 31), (.load 1 false (.tmp 30)), .none, []⟩, ⟨(.some 32), (.mv (.tmp 7)), .none, []⟩, ⟨(.some 33), (.idxS 1 (.tmp 31) (.tmp 32)), .none, []⟩, ⟨(.some 34), (.load 1 false (.tmp 33)), .none, []⟩, ⟨(.some 35), (.pu (.n .min) [(.tmp 29), (.tmp 34)]), .none, []⟩, ⟨(.some 36), (.idxS 1 (.tmp 23) (.tmp 24)), .none, []⟩, ⟨.none, (.store 1 (.tmp 36) (.tmp 35)), .none, []⟩]))) (.ops [⟨(.some 37), (.pu (.n (.ar .add)) [(.tmp 20), (.const (.int .i64 1))]), .none, []⟩, ⟨(.some 20), (.mv (.tmp 37)), .none, []⟩]))))))) (.seq (.ops [⟨(.some 38), (.mv (.tmp 6)), .none, []⟩, ⟨(.some 39), (.build [(.slice .none 0 0)] [(0, (1, (.tmp 38)))]), .none, []⟩, ⟨.none, (.storeV [(1, false)] 1 (.tmp 4) (.tmp 39)), .none, []⟩, ⟨(.some 5), (.mv (.const (.int .i64 0))), .none, []⟩]) .ret))))), [(.cell 4 1 true), (.tmp 5)]⟩
def o_impl_VecMeet (b : T2 TVec Int) (v : V) (h : Heap) : Prop := ∃ n0 : Nat, v = .tup [.agg [.hsl n0 b.a.counts.length 0 1 false b.a.counts.length], .i (.s (.int .i64 b.b))] ∧ getCells h n0 b.a.counts.length = some (rows b.a.counts)
def oo_impl_VecMeet (b : T2 TVec Int) (h : Heap) (v : V) (h2 : Heap) : Prop := Keep [] h h2 ∧ ∃ n0 : Nat, v = .tup [.agg [.hsl n0 b.a.counts.length 0 1 false b.a.counts.length], .i (.s (.int .i64 b.b))] ∧ n0 < h2.length ∧ h.length ≤ n0 ∧ getCells h2 n0 b.a.counts.length = some (rows b.a.counts)
def k_impl_VecMeet (F : Fun) : Prop := ∀ (x0 : TVec) (x1 : TVec) (b : T2 TVec Int), p_impl_VecMeet x0 x1 = some b → ∀ (h : Heap) (args : List V), snapA 9 false h args = some (encA (x0, x1)) → ∃ p, F none args h = some p ∧ oo_impl_VecMeet b h p.1 p.2
set_option maxHeartbeats 10000000 in
theorem w_impl_VecMeet {P : Program} {env : Env} {f_impl_VecOK : Nat}  (ep_impl_VecOK : env (2 * f_impl_VecOK) = pureFn true (FA fun a : TVec => p_impl_VecOK a)) (x0 : TVec) (x1 : TVec) {b : T2 TVec Int} (hp : p_impl_VecMeet x0 x1 = some b) : R P env (c_impl_VecMeet f_impl_VecOK) ((encA (x0, x1)).map ofI) [] (o_impl_VecMeet b) := by
  refine R_of (by simp [c_impl_VecMeet, encA]) ?_
  unfold c_impl_VecMeet
  unfold p_impl_VecMeet at hp
  obtain ⟨v0, hv0, hp⟩ := bind_eq hp
  by_cases hb1 : (v0) = true
  · rw [if_t hb1] at hp
    obtain ⟨v2, hv2, hp⟩ := bind_eq hp
    by_cases hb3 : (v2) = true
    · rw [if_t hb3] at hp
      obtain ⟨v4, hv4, hp⟩ := bind_eq hp
      obtain ⟨kv4, qv4, lv4⟩ := mkL_some hv4
      have rv4 : [.i (.s (.int .i64 0)), .i (.s (.int .i64 0)), .i (.s (.int .i64 0)), .i (.s (.int .i64 0)), .i (.s (.int .i64 0)), .i (.s (.int .i64 0)), .i (.s (.int .i64 0)), .i (.s (.int .i64 0)), .i (.s (.int .i64 0)), .i (.s (.int .i64 0)), .i (.s (.int .i64 0)), .i (.s (.int .i64 0)), .i (.s (.int .i64 0)), .i (.s (.int .i64 0)), .i (.s (.int .i64 0)), .i (.s (.int .i64 0))] = rows v4 := by rw [qv4]; rfl
      have mv4 : 16 = v4.length := by rw [lv4]; simp
      obtain ⟨ee0, hee0, hp⟩ := bind_eq hp
      simp (maxSteps := 2000000) (disch := first | omega | (simp only [ls]; first | done | omega)) only [ep_impl_VecOK, hv0, hb1, hv2, hb3, hv4, rv4, kv4.1, kv4.2.1, kv4.2.2.1, kv4.2.2.2, gx, Int.reduceToNat]
      refine W_loopP 0 (fun s t h => match s with | (s5, s6) => t 2 = .ptr 0 1 0 ∧ t 3 = .ptr 1 1 0 ∧ t 4 = .ptr 3 1 0 ∧ t 6 = .hsl 4 16 0 1 false 16 ∧ t 19 = .i (.s (.int .i64 16)) ∧ t 20 = .i (.s (.int .i64 s6)) ∧ getCells h 0 1 = some [.i (.sl 1 (x0.counts.map enc))] ∧ 0 < h.length ∧ getCells h 1 1 = some [.i (.sl 1 (x1.counts.map enc))] ∧ 1 < h.length ∧ getCells h 2 0 = some (rows ([] : List Int)) ∧ 2 < h.length ∧ getCells h 3 1 = some [.hsl 2 0 0 1 false 0] ∧ 3 < h.length ∧ getCells h 4 16 = some (rows (s5 : List Int)) ∧ 4 < h.length) (RK [.cell 4 1 true, .tmp 5] (o_impl_VecMeet)) ?_ hee0 ?_ ?_
      · rintro ⟨s5, s6⟩ ee tt0 hh0 ⟨ftt0_0, ftt0_1, ftt0_2, ftt0_3, ftt0_4, ftt0_5, ftt0_6, ftt0_7, ftt0_8, ftt0_9, ftt0_10, ftt0_11, ftt0_12, ftt0_13, ftt0_14, ftt0_15⟩ hp
        have ztt0_10 := len_rows ftt0_10
        simp only [zs] at ztt0_10
        have ztt0_14 := len_rows ftt0_14
        simp only [zs] at ztt0_14
        rw [p_impl_VecMeet_l0] at hp
        by_cases hb7 : (decide (s6 < 16)) = true
        · rw [if_t hb7] at hp
          obtain ⟨v8, hv8, hp⟩ := bind_eq hp
          obtain ⟨v9, hv9, hp⟩ := bind_eq hp
          obtain ⟨v10, hv10, hp⟩ := bind_eq hp
          have gv10 := get_some hv10
          have hs11 : List.take s6.toNat (rows s5) ++ .i (.s (.int .i64 (if v9 < v8 then v9 else v8))) :: List.drop (s6.toNat + 1) (rows s5) = rows (s5.set s6.toNat (if v9 < v8 then v9 else v8)) := by simpa [splice, zs, cellsV, I.cells, enc_int] using rows_set_off (y := (if v9 < v8 then v9 else v8)) (ys := [.i (.s (.int .i64 (if v9 < v8 then v9 else v8)))]) (k := 0) gv10.2.2 (Nat.le_of_ble_eq_true rfl) (by rfl)
          have hp := Option.some.inj hp
          subst hp
          simp (maxSteps := 2000000) (disch := first | omega | (simp only [ls]; first | done | omega)) only [ep_impl_VecOK, hv0, hb1, hv2, hb3, hv4, rv4, kv4.1, kv4.2.1, kv4.2.2.1, kv4.2.2.2, ftt0_0, ftt0_1, ftt0_2, ftt0_3, ftt0_4, ftt0_5, ftt0_6, ftt0_7, ftt0_8, ftt0_9, ftt0_10, ftt0_11, ftt0_12, ftt0_13, ftt0_14, ftt0_15, hb7, hv8, hv9, hv10, (gv10).1, (gv10).2.1, hs11, gx, Int.reduceToNat] <;> omega
        · replace hb7 := eq_false_of_ne_true hb7
          rw [if_f hb7] at hp
          have hp := Option.some.inj hp
          subst hp
          simp (maxSteps := 2000000) (disch := first | omega | (simp only [ls]; first | done | omega)) only [ep_impl_VecOK, hv0, hb1, hv2, hb3, hv4, rv4, kv4.1, kv4.2.1, kv4.2.2.1, kv4.2.2.2, ftt0_0, ftt0_1, ftt0_2, ftt0_3, ftt0_4, ftt0_5, ftt0_6, ftt0_7, ftt0_8, ftt0_9, ftt0_10, ftt0_11, ftt0_12, ftt0_13, ftt0_14, ftt0_15, hb7, gx, Int.reduceToNat] <;> omega
      · simp (maxSteps := 2000000) (disch := first | omega | (simp only [ls]; first | done | omega)) only [ep_impl_VecOK, hv0, hb1, hv2, hb3, hv4, rv4, kv4.1, kv4.2.1, kv4.2.2.1, kv4.2.2.2, gx, Int.reduceToNat] <;> omega
      · intro x tt1 hh1 hx
        rcases ee0 with ⟨o12, o13⟩ | r
        · obtain ⟨rfl, ftt1_0, ftt1_1, ftt1_2, ftt1_3, ftt1_4, ftt1_5, ftt1_6, ftt1_7, ftt1_8, ftt1_9, ftt1_10, ftt1_11, ftt1_12, ftt1_13, ftt1_14, ftt1_15⟩ := hx
          have ztt1_10 := len_rows ftt1_10
          simp only [zs] at ztt1_10
          have ztt1_14 := len_rows ftt1_14
          simp only [zs] at ztt1_14
          dsimp only at hp
          have hp := Option.some.inj hp
          subst hp
          simp (maxSteps := 2000000) (disch := first | omega | (simp only [ls]; first | done | omega)) only [ep_impl_VecOK, hv0, hb1, hv2, hb3, hv4, rv4, kv4.1, kv4.2.1, kv4.2.2.1, kv4.2.2.2, ftt1_0, ftt1_1, ftt1_2, ftt1_3, ftt1_4, ftt1_5, ftt1_6, ftt1_7, ftt1_8, ftt1_9, ftt1_10, ftt1_11, ftt1_12, ftt1_13, ftt1_14, ftt1_15, gx, Int.reduceToNat]
          refine ⟨4, ?_⟩
          simp (maxSteps := 2000000) (disch := first | omega | (simp only [ls]; first | done | omega)) only [ep_impl_VecOK, hv0, hb1, hv2, hb3, hv4, rv4, kv4.1, kv4.2.1, kv4.2.2.1, kv4.2.2.2, ftt1_0, ftt1_1, ftt1_2, ftt1_3, ftt1_4, ftt1_5, ftt1_6, ftt1_7, ftt1_8, ftt1_9, ftt1_10, ftt1_11, ftt1_12, ftt1_13, ftt1_14, ftt1_15, o_impl_VecMeet, (show (o12).length = 16 from by first | omega | rfl), gx, Int.reduceToNat] <;> omega
        · obtain ⟨rfl, hx⟩ := hx
          dsimp only at hp
          cases hp
          simp only [seqK_ret, blockK_ret, retK_RK (K := o_impl_VecMeet), hx, and_self, true_and]
    · replace hb3 := eq_false_of_ne_true hb3
      rw [if_f hb3] at hp
      have hp := Option.some.inj hp
      subst hp
      simp (maxSteps := 2000000) (disch := first | omega | (simp only [ls]; first | done | omega)) only [ep_impl_VecOK, hv0, hb1, hv2, hb3, gx, Int.reduceToNat]
      refine ⟨4, ?_⟩
      simp (maxSteps := 2000000) (disch := first | omega | (simp only [ls]; first | done | omega)) only [ep_impl_VecOK, hv0, hb1, hv2, hb3, o_impl_VecMeet, gx, Int.reduceToNat] <;> omega
  · replace hb1 := eq_false_of_ne_true hb1
    rw [if_f hb1] at hp
    have hp := Option.some.inj hp
    subst hp
    simp (maxSteps := 2000000) (disch := first | omega | (simp only [ls]; first | done | omega)) only [ep_impl_VecOK, hv0, hb1, gx, Int.reduceToNat]
    refine ⟨4, ?_⟩
    simp (maxSteps := 2000000) (disch := first | omega | (simp only [ls]; first | done | omega)) only [ep_impl_VecOK, hv0, hb1, o_impl_VecMeet, gx, Int.reduceToNat] <;> omega
theorem ko_impl_VecMeet {P : Program} {env : Env} {f_impl_VecOK : Nat}  (ep_impl_VecOK : env (2 * f_impl_VecOK) = pureFn true (FA fun a : TVec => p_impl_VecOK a)) : k_impl_VecMeet (ownFn P env (c_impl_VecMeet f_impl_VecOK)) := by
  intro x0 x1 b hp h args has
  obtain ⟨⟨v, H2⟩, hr, n0, rfl, wn0⟩ := w_impl_VecMeet ep_impl_VecOK x0 x1 hp
  exact ⟨_, own_call has hr rfl, keep_moved, n0 + h.length, rfl, (moved_lt wn0).2, (moved_lt wn0).1, moved_rows wn0⟩

noncomputable def p_impl_BranchBase (x0 : List TOp) (x1 : List TOp) : Option (T2 TVec Int) :=
  (p_impl_readTwo x0 x1).bind fun v0 =>
  if (decide (v0.c = 0)) = true then
    (p_impl_book_vector v0.a).bind fun v2 =>
    (p_impl_book_vector v0.b).bind fun v3 =>
    (p_impl_VecMeet v2 v3).bind fun v4 =>
    some ⟨v4.a, v4.b⟩
  else
    some ⟨(TVec.mk ([])), v0.c⟩
def c_impl_BranchBase (f_impl_readTwo : Nat) (f_impl_book_vector : Nat) (f_impl_VecMeet : Nat) : AFn := ⟨27, (.seq (.ops [⟨(.some 4), (.allocV [(1, false)] [(.slice .none 0 0)]), .none, []⟩, ⟨(.some 5), (.mv (.const (.int .i64 0))), .none, []⟩]) (.seq (.ops [⟨(.some 10), (.mv (.tmp 0)), .none, []⟩, ⟨(.some 11), (.mv (.tmp 1)), .none, []⟩, ⟨(.some 12), (.call (2 * f_impl_readTwo) [(.tmp 10), (.tmp 11)]), .none, []⟩, ⟨(.some 9), (.mv (.tmp 12)), .none, []⟩, ⟨(.some 13), (.extract 0 (.tmp 9)), .none, []⟩, ⟨(.some 14), (.extract 1 (.tmp 9)), .none, []⟩, ⟨(.some 15), (.extract 2 (.tmp 9)), .none, []⟩, ⟨(.some 6), (.mv (.tmp 13)), .none, []⟩, ⟨(.some 7), (.mv (.tmp 14)), .none, []⟩, ⟨(.some 8), (.mv (.tmp 15)), .none, []⟩]) (.seq (.seq (.ops [⟨(.some 16), (.mv (.tmp 8)), .none, []⟩, ⟨(.some 17), (.pu (.n (.ar .neq)) [(.tmp 16), (.const (.int .i64 0))]), .none, []⟩]) (.cond (.tmp 17) (.seq (.ops [⟨(.some 18), (.build [(.slice .none 0 0)] []), .none, []⟩, ⟨(.some 19), (.mv (.tmp 8)), .none, []⟩, ⟨.none, (.storeV [(1, false)] 1 (.tmp 4) (.tmp 18)), .none, []⟩, ⟨(.some 5), (.mv (.tmp 19)), .none, []⟩]) .ret) .skip)) (.seq (.ops [⟨(.some 20), (.mv (.tmp 6)), .none, []⟩, ⟨(.some 21), (.call (2 * f_impl_book_vector + 1) [(.tmp 20)]), .none, []⟩, ⟨(.some 22), (.mv (.tmp 7)), .none, []⟩, ⟨(.some 23), (.call (2 * f_impl_book_vector + 1) [(.tmp 22)]), .none, []⟩, ⟨(.some 24), (.call (2 * f_impl_VecMeet + 1) [(.tmp 21), (.tmp 23)]), .none, []⟩, ⟨(.some 25), (.extract 0 (.tmp 24)), .none, []⟩, ⟨(.some 26), (.extract 1 (.tmp 24)), .none, []⟩, ⟨.none, (.storeV [(1, false)] 1 (.tmp 4) (.tmp 25)), .none, []⟩, ⟨(.some 5), (.mv (.tmp 26)), .none, []⟩]) .ret)))), [(.cell 4 1 true), (.tmp 5)]⟩
def o_impl_BranchBase (b : T2 TVec Int) (v : V) (h : Heap) : Prop := ∃ n0 : Nat, v = .tup [.agg [.hsl n0 b.a.counts.length 0 1 false b.a.counts.length], .i (.s (.int .i64 b.b))] ∧ getCells h n0 b.a.counts.length = some (rows b.a.counts)
def oo_impl_BranchBase (b : T2 TVec Int) (h : Heap) (v : V) (h2 : Heap) : Prop := Keep [] h h2 ∧ ∃ n0 : Nat, v = .tup [.agg [.hsl n0 b.a.counts.length 0 1 false b.a.counts.length], .i (.s (.int .i64 b.b))] ∧ n0 < h2.length ∧ h.length ≤ n0 ∧ getCells h2 n0 b.a.counts.length = some (rows b.a.counts)
def k_impl_BranchBase (F : Fun) : Prop := ∀ (x0 : List TOp) (x1 : List TOp) (b : T2 TVec Int), p_impl_BranchBase x0 x1 = some b → ∀ (h : Heap) (args : List V), snapA 9 false h args = some (encA (x0, x1)) → ∃ p, F none args h = some p ∧ oo_impl_BranchBase b h p.1 p.2
set_option maxHeartbeats 10000000 in
theorem w_impl_BranchBase {P : Program} {env : Env} {f_impl_readTwo : Nat} {f_impl_book_vector : Nat} {f_impl_VecMeet : Nat}  (ep_impl_readTwo : env (2 * f_impl_readTwo) = pureFn false (FA fun a : List TOp × List TOp => p_impl_readTwo a.1 a.2)) (e_impl_book_vector : k_impl_book_vector (env (2 * f_impl_book_vector + 1))) (e_impl_VecMeet : k_impl_VecMeet (env (2 * f_impl_VecMeet + 1))) (x0 : List TOp) (x1 : List TOp) {b : T2 TVec Int} (hp : p_impl_BranchBase x0 x1 = some b) : R P env (c_impl_BranchBase f_impl_readTwo f_impl_book_vector f_impl_VecMeet) ((encA (x0, x1)).map ofI) [] (o_impl_BranchBase b) := by
  refine R_of (by simp [c_impl_BranchBase, encA]) ?_
  unfold c_impl_BranchBase
  unfold p_impl_BranchBase at hp
  obtain ⟨v0, hv0, hp⟩ := bind_eq hp
  by_cases hb1 : (decide (v0.c = 0)) = true
  · rw [if_t hb1] at hp
    obtain ⟨v2, hv2, hp⟩ := bind_eq hp
    simp (maxSteps := 2000000) (disch := first | omega | (simp only [ls]; first | done | omega)) only [ep_impl_readTwo, hv0, hb1, gx, Int.reduceToNat]
    refine call_f (fun h => getCells h 0 0 = some [] ∧ 0 < h.length ∧ getCells h 1 1 = some [.hsl 0 0 0 1 false 0] ∧ 1 < h.length) (fun h v h2 => oo_impl_book_vector v2 h v h2) ?_ ?_ ?_
    · simp (maxSteps := 2000000) (disch := first | omega | (simp only [ls]; first | done | omega)) only [ep_impl_readTwo, hv0, hb1, hv2, gx, Int.reduceToNat] <;> omega
    · rintro h ⟨c0_0, c0_1, c0_2, c0_3⟩
      exact e_impl_book_vector _ _ hv2 h _ (by simp (maxSteps := 2000000) (disch := first | omega | (simp only [ls]; first | done | omega)) only [ep_impl_readTwo, hv0, hb1, hv2, c0_0, c0_1, c0_2, c0_3, gx, Int.reduceToNat])
    · rintro hc0 v hh0 ⟨c0_0, c0_1, c0_2, c0_3⟩ hpost
      obtain ⟨kk0, nb0_0, rfl, lnb0_0, gnb0_0, wnb0_0⟩ := hpost
      have d0_0 : getCells hh0 0 0 = some [] := (keep_get kk0 c0_1 (by first | (simp; done) | (simp; omega))).trans c0_0
      have d0_0l := keep_lt kk0 c0_1
      have d0_1 : getCells hh0 1 1 = some [.hsl 0 0 0 1 false 0] := (keep_get kk0 c0_3 (by first | (simp; done) | (simp; omega))).trans c0_2
      have d0_1l := keep_lt kk0 c0_3
      have d0_2 := wnb0_0
      obtain ⟨v3, hv3, hp⟩ := bind_eq hp
      simp (maxSteps := 2000000) (disch := first | omega | (simp only [ls]; first | done | omega)) only [ep_impl_readTwo, hv0, hb1, hv2, d0_0, d0_1, d0_2, gx, Int.reduceToNat]
      refine call_f (fun h => getCells h 0 0 = some [] ∧ 0 < h.length ∧ getCells h 1 1 = some [.hsl 0 0 0 1 false 0] ∧ 1 < h.length ∧ getCells h nb0_0 v2.counts.length = some (rows (v2.counts : List Int)) ∧ nb0_0 < h.length) (fun h v h2 => oo_impl_book_vector v3 h v h2) ?_ ?_ ?_
      · simp (maxSteps := 2000000) (disch := first | omega | (simp only [ls]; first | done | omega)) only [ep_impl_readTwo, hv0, hb1, hv2, d0_0, d0_1, d0_2, hv3, gx, Int.reduceToNat] <;> omega
      · rintro h ⟨c1_0, c1_1, c1_2, c1_3, c1_4, c1_5⟩
        exact e_impl_book_vector _ _ hv3 h _ (by simp (maxSteps := 2000000) (disch := first | omega | (simp only [ls]; first | done | omega)) only [ep_impl_readTwo, hv0, hb1, hv2, d0_0, d0_1, d0_2, hv3, c1_0, c1_1, c1_2, c1_3, c1_4, c1_5, gx, Int.reduceToNat])
      · rintro hc1 v hh1 ⟨c1_0, c1_1, c1_2, c1_3, c1_4, c1_5⟩ hpost
        obtain ⟨kk1, nb1_0, rfl, lnb1_0, gnb1_0, wnb1_0⟩ := hpost
        have d1_0 : getCells hh1 0 0 = some [] := (keep_get kk1 c1_1 (by first | (simp; done) | (simp; omega))).trans c1_0
        have d1_0l := keep_lt kk1 c1_1
        have d1_1 : getCells hh1 1 1 = some [.hsl 0 0 0 1 false 0] := (keep_get kk1 c1_3 (by first | (simp; done) | (simp; omega))).trans c1_2
        have d1_1l := keep_lt kk1 c1_3
        have d1_2 : getCells hh1 nb0_0 v2.counts.length = some (rows (v2.counts : List Int)) := (keep_get kk1 c1_5 (by first | (simp; done) | (simp; omega))).trans c1_4
        have d1_2l := keep_lt kk1 c1_5
        have d1_3 := wnb1_0
        obtain ⟨v4, hv4, hp⟩ := bind_eq hp
        simp (maxSteps := 2000000) (disch := first | omega | (simp only [ls]; first | done | omega)) only [ep_impl_readTwo, hv0, hb1, hv2, d0_0, d0_1, d0_2, hv3, d1_0, d1_1, d1_2, d1_3, gx, Int.reduceToNat]
        refine call_f (fun h => getCells h 0 0 = some [] ∧ 0 < h.length ∧ getCells h 1 1 = some [.hsl 0 0 0 1 false 0] ∧ 1 < h.length ∧ getCells h nb0_0 v2.counts.length = some (rows (v2.counts : List Int)) ∧ nb0_0 < h.length ∧ getCells h nb1_0 v3.counts.length = some (rows (v3.counts : List Int)) ∧ nb1_0 < h.length) (fun h v h2 => oo_impl_VecMeet v4 h v h2) ?_ ?_ ?_
        · simp (maxSteps := 2000000) (disch := first | omega | (simp only [ls]; first | done | omega)) only [ep_impl_readTwo, hv0, hb1, hv2, d0_0, d0_1, d0_2, hv3, d1_0, d1_1, d1_2, d1_3, hv4, gx, Int.reduceToNat] <;> omega
        · rintro h ⟨c2_0, c2_1, c2_2, c2_3, c2_4, c2_5, c2_6, c2_7⟩
          exact e_impl_VecMeet _ _ _ hv4 h _ (by simp (maxSteps := 2000000) (disch := first | omega | (simp only [ls]; first | done | omega)) only [ep_impl_readTwo, hv0, hb1, hv2, d0_0, d0_1, d0_2, hv3, d1_0, d1_1, d1_2, d1_3, hv4, c2_0, c2_1, c2_2, c2_3, c2_4, c2_5, c2_6, c2_7, gx, Int.reduceToNat])
        · rintro hc2 v hh2 ⟨c2_0, c2_1, c2_2, c2_3, c2_4, c2_5, c2_6, c2_7⟩ hpost
          obtain ⟨kk2, nb2_0, rfl, lnb2_0, gnb2_0, wnb2_0⟩ := hpost
          have d2_0 : getCells hh2 0 0 = some [] := (keep_get kk2 c2_1 (by first | (simp; done) | (simp; omega))).trans c2_0
          have d2_0l := keep_lt kk2 c2_1
          have d2_1 : getCells hh2 1 1 = some [.hsl 0 0 0 1 false 0] := (keep_get kk2 c2_3 (by first | (simp; done) | (simp; omega))).trans c2_2
          have d2_1l := keep_lt kk2 c2_3
          have d2_2 : getCells hh2 nb0_0 v2.counts.length = some (rows (v2.counts : List Int)) := (keep_get kk2 c2_5 (by first | (simp; done) | (simp; omega))).trans c2_4
          have d2_2l := keep_lt kk2 c2_5
          have d2_3 : getCells hh2 nb1_0 v3.counts.length = some (rows (v3.counts : List Int)) := (keep_get kk2 c2_7 (by first | (simp; done) | (simp; omega))).trans c2_6
          have d2_3l := keep_lt kk2 c2_7
          have d2_4 := wnb2_0
          have hp := Option.some.inj hp
          subst hp
          simp (maxSteps := 2000000) (disch := first | omega | (simp only [ls]; first | done | omega)) only [ep_impl_readTwo, hv0, hb1, hv2, d0_0, d0_1, d0_2, hv3, d1_0, d1_1, d1_2, d1_3, hv4, d2_0, d2_1, d2_2, d2_3, d2_4, gx, Int.reduceToNat]
          refine ⟨nb2_0, ?_⟩
          simp (maxSteps := 2000000) (disch := first | omega | (simp only [ls]; first | done | omega)) only [ep_impl_readTwo, hv0, hb1, hv2, d0_0, d0_1, d0_2, hv3, d1_0, d1_1, d1_2, d1_3, hv4, d2_0, d2_1, d2_2, d2_3, d2_4, o_impl_BranchBase, gx, Int.reduceToNat] <;> omega
  · replace hb1 := eq_false_of_ne_true hb1
    rw [if_f hb1] at hp
    have hp := Option.some.inj hp
    subst hp
    simp (maxSteps := 2000000) (disch := first | omega | (simp only [ls]; first | done | omega)) only [ep_impl_readTwo, hv0, hb1, gx, Int.reduceToNat]
    refine ⟨2, ?_⟩
    simp (maxSteps := 2000000) (disch := first | omega | (simp only [ls]; first | done | omega)) only [ep_impl_readTwo, hv0, hb1, o_impl_BranchBase, gx, Int.reduceToNat] <;> omega
theorem ko_impl_BranchBase {P : Program} {env : Env} {f_impl_readTwo : Nat} {f_impl_book_vector : Nat} {f_impl_VecMeet : Nat}  (ep_impl_readTwo : env (2 * f_impl_readTwo) = pureFn false (FA fun a : List TOp × List TOp => p_impl_readTwo a.1 a.2)) (e_impl_book_vector : k_impl_book_vector (env (2 * f_impl_book_vector + 1))) (e_impl_VecMeet : k_impl_VecMeet (env (2 * f_impl_VecMeet + 1))) : k_impl_BranchBase (ownFn P env (c_impl_BranchBase f_impl_readTwo f_impl_book_vector f_impl_VecMeet)) := by
  intro x0 x1 b hp h args has
  obtain ⟨⟨v, H2⟩, hr, n0, rfl, wn0⟩ := w_impl_BranchBase ep_impl_readTwo e_impl_book_vector e_impl_VecMeet x0 x1 hp
  exact ⟨_, own_call has hr rfl, keep_moved, n0 + h.length, rfl, (moved_lt wn0).2, (moved_lt wn0).1, moved_rows wn0⟩

noncomputable def p_laws_markIntS_l0 : List Int × Int × Int → Option (Lp (List Int × Int × Int) (T2 Int (List Int)))
  | (s0, s1, s2) =>
    if (decide (s2 < (s0.length : Int))) = true then
      (get? s0 s2).bind fun v5 =>
      some (.go ((s0.set s2.toNat s1), w64 (s1 + 1), w64 (s2 + 1)))
    else
      some (.out (s0, s1, s2))
noncomputable def p_laws_markIntS (x0 : List Int) (x1 : Int) : Option (T2 Int (List Int)) :=
  (loopP (p_laws_markIntS_l0) (x0, x1, 0)).bind fun ee0 => match ee0 with
  | .ret r => some r
  | .out (o7, o8, o9) =>
    some ⟨o8, o7⟩
def c_laws_markIntS : AFn := ⟨19, (.seq (.ops [⟨(.some 4), (.mv (.const (.int .i64 0))), .none, []⟩]) (.seq (.seq (.ops [⟨(.some 5), (.mv (.const (.int .i64 0))), .none, []⟩]) (.block 0 (.loop (.seq (.seq (.ops [⟨(.some 6), (.mv (.tmp 5)), .none, []⟩, ⟨(.some 7), (.mv (.tmp 0)), .none, []⟩, ⟨(.some 8), (.len (.tmp 7)), .none, []⟩, ⟨(.some 9), (.pu (.n (.ar .lss)) [(.tmp 6), (.tmp 8)]), .none, []⟩]) (.cond (.tmp 9) .skip (.exit 0))) (.seq (.block 1 (.seq (.ops [⟨(.some 12), (.mv (.tmp 0)), .none, []⟩, ⟨(.some 13), (.mv (.tmp 5)), .none, []⟩, ⟨(.some 14), (.mv (.tmp 1)), .none, []⟩, ⟨(.some 15), (.idxS 1 (.tmp 12) (.tmp 13)), .none, []⟩, ⟨.none, (.storeV [(0, false)] 1 (.tmp 15) (.tmp 14)), .none, []⟩]) (.ops [⟨(.some 16), (.mv (.tmp 1)), .none, []⟩, ⟨(.some 17), (.pu (.n (.ar .add)) [(.tmp 16), (.const (.int .i64 1))]), .none, []⟩, ⟨(.some 1), (.mv (.tmp 17)), .none, []⟩]))) (.ops [⟨(.some 10), (.mv (.tmp 5)), .none, []⟩, ⟨(.some 11), (.pu (.n (.ar .add)) [(.tmp 10), (.const (.int .i64 1))]), .none, []⟩, ⟨(.some 5), (.mv (.tmp 11)), .none, []⟩])))))) (.seq (.ops [⟨(.some 18), (.mv (.tmp 1)), .none, []⟩, ⟨(.some 4), (.mv (.tmp 18)), .none, []⟩]) .ret))), [(.tmp 4)]⟩
def i_laws_markIntS (pb0 pn0 : Nat) (h : Heap) (b : T2 Int (List Int)) (v : V) (h2 : Heap) : Prop := Keep [pb0] h h2 ∧ v = .i (.s (.int .i64 b.a)) ∧ getCells h2 pb0 pn0 = some (rows b.b)
def k_laws_markIntS (F : Fun) : Prop := ∀ (x0 : List Int) (x1 : Int) (b : T2 Int (List Int)), p_laws_markIntS x0 x1 = some b → ∀ (pb0 pn0 : Nat) (h : Heap), pn0 = (x0).length → getCells h pb0 pn0 = some (rows x0) → ∃ p, F none [.hsl pb0 pn0 0 1 false pn0, .i (.s (.int .i64 x1))] h = some p ∧ i_laws_markIntS pb0 pn0 h b p.1 p.2
set_option maxHeartbeats 10000000 in
theorem w_laws_markIntS {P : Program} {env : Env}  (x0 : List Int) (x1 : Int) {b : T2 Int (List Int)} (hp : p_laws_markIntS x0 x1 = some b) (pb0 pn0 : Nat) (hh : Heap) (pm0 : pn0 = (x0).length) (pf0 : getCells hh pb0 pn0 = some (rows x0)) : R P env (c_laws_markIntS) [.hsl pb0 pn0 0 1 false pn0, .i (.s (.int .i64 x1))] hh (i_laws_markIntS pb0 pn0 hh b) := by
  have pl0 := gc_lt pf0
  have pg0 : getCells hh pb0 x0.length = some (rows x0) := by rw [← pm0]; exact pf0
  refine R_of (by simp [c_laws_markIntS, encA]) ?_
  unfold c_laws_markIntS
  unfold p_laws_markIntS at hp
  obtain ⟨ee0, hee0, hp⟩ := bind_eq hp
  simp (maxSteps := 2000000) (disch := first | omega | (simp only [ls]; first | done | omega)) only [pf0, pg0, gx, Int.reduceToNat]
  refine W_loopP 0 (fun s t h => match s with | (s0, s1, s2) => t 0 = .hsl pb0 pn0 0 1 false pn0 ∧ t 1 = .i (.s (.int .i64 s1)) ∧ t 5 = .i (.s (.int .i64 s2)) ∧ getCells h pb0 pn0 = some (rows (s0 : List Int)) ∧ pb0 < h.length ∧ Keep [pb0] hh h) (RK [.tmp 4] (i_laws_markIntS pb0 pn0 hh)) ?_ hee0 ?_ ?_
  · rintro ⟨s0, s1, s2⟩ ee tt0 hh0 ⟨ftt0_0, ftt0_1, ftt0_2, ftt0_3, ftt0_4, ftt0_5⟩ hp
    have ztt0_3 := len_rows ftt0_3
    simp only [zs] at ztt0_3
    rw [p_laws_markIntS_l0] at hp
    have hz3 : ((pn0 : Nat) : Int) = (s0.length : Int) := by omega
    by_cases hb4 : (decide (s2 < (s0.length : Int))) = true
    · rw [if_t hb4] at hp
      obtain ⟨v5, hv5, hp⟩ := bind_eq hp
      have gv5 := get_some hv5
      have hs6 : List.take s2.toNat (rows s0) ++ .i (.s (.int .i64 s1)) :: List.drop (s2.toNat + 1) (rows s0) = rows (s0.set s2.toNat s1) := by simpa [splice, zs, cellsV, I.cells, enc_int] using rows_set_off (y := s1) (ys := [.i (.s (.int .i64 s1))]) (k := 0) gv5.2.2 (Nat.le_of_ble_eq_true rfl) (by rfl)
      have hp := Option.some.inj hp
      subst hp
      simp (maxSteps := 2000000) (disch := first | omega | (simp only [ls]; first | done | omega)) only [i_laws_markIntS, pf0, pg0, ftt0_0, ftt0_1, ftt0_2, ftt0_3, ftt0_4, ftt0_5, hz3, hb4, hv5, (gv5).1, (gv5).2.1, hs6, gx, Int.reduceToNat] <;> (repeat (first | omega | assumption | rfl | exact keep_refl | refine keep_app ?_ | (refine keep_set (by first | (left; simp; done) | (right; simp; omega)) ?_) | refine And.intro ?_ ?_))
    · replace hb4 := eq_false_of_ne_true hb4
      rw [if_f hb4] at hp
      have hp := Option.some.inj hp
      subst hp
      simp (maxSteps := 2000000) (disch := first | omega | (simp only [ls]; first | done | omega)) only [i_laws_markIntS, pf0, pg0, ftt0_0, ftt0_1, ftt0_2, ftt0_3, ftt0_4, ftt0_5, hz3, hb4, gx, Int.reduceToNat] <;> (repeat (first | omega | assumption | rfl | exact keep_refl | refine keep_app ?_ | (refine keep_set (by first | (left; simp; done) | (right; simp; omega)) ?_) | refine And.intro ?_ ?_))
  · simp (maxSteps := 2000000) (disch := first | omega | (simp only [ls]; first | done | omega)) only [i_laws_markIntS, pf0, pg0, gx, Int.reduceToNat] <;> (repeat (first | omega | assumption | rfl | exact keep_refl | refine keep_app ?_ | (refine keep_set (by first | (left; simp; done) | (right; simp; omega)) ?_) | refine And.intro ?_ ?_))
  · intro x tt1 hh1 hx
    rcases ee0 with ⟨o7, o8, o9⟩ | r
    · obtain ⟨rfl, ftt1_0, ftt1_1, ftt1_2, ftt1_3, ftt1_4, ftt1_5⟩ := hx
      have ztt1_3 := len_rows ftt1_3
      simp only [zs] at ztt1_3
      dsimp only at hp
      have hp := Option.some.inj hp
      subst hp
      simp (maxSteps := 2000000) (disch := first | omega | (simp only [ls]; first | done | omega)) only [i_laws_markIntS, pf0, pg0, ftt1_0, ftt1_1, ftt1_2, ftt1_3, ftt1_4, ftt1_5, gx, Int.reduceToNat] <;> (repeat (first | omega | assumption | rfl | exact keep_refl | refine keep_app ?_ | (refine keep_set (by first | (left; simp; done) | (right; simp; omega)) ?_) | refine And.intro ?_ ?_))
    · obtain ⟨rfl, hx⟩ := hx
      dsimp only at hp
      cases hp
      simp only [seqK_ret, blockK_ret, retK_RK (K := i_laws_markIntS pb0 pn0 hh), hx, and_self, true_and]
theorem ko_laws_markIntS {P : Program} {env : Env}  : k_laws_markIntS (runIn P env (c_laws_markIntS)) := by
  intro x0 x1 b hp pb0 pn0 h a0 a1
  exact w_laws_markIntS x0 x1 hp pb0 pn0 h a0 a1

noncomputable def p_laws_markText_l0 : Int × ByteArray → Option (Lp (Int × ByteArray) ByteArray)
  | (s1, s2) =>
    if (decide (0 < s1)) = true then
      (cat? (strOfNums [(IntKind.wrap .u8 (w64 (48 + (Int.tmod s1 10))))]) s2).bind fun v4 =>
      some (.go (w64 (Int.tdiv s1 10), v4))
    else
      some (.out (s1, s2))
noncomputable def p_laws_markText (x0 : Int) : Option ByteArray :=
  if (decide (x0 ≤ 0)) = true then
    some (ByteArray.mk #[109, 48])
  else
    (loopP (p_laws_markText_l0) (x0, (ByteArray.mk #[]))).bind fun ee0 => match ee0 with
    | .ret r => some r
    | .out (o5, o6) =>
      (cat? (ByteArray.mk #[109]) o6).bind fun v7 =>
      some v7
def c_laws_markText : AFn := ⟨20, (.seq (.ops [⟨(.some 2), (.mv (.const (.string ⟨#[]⟩))), .none, []⟩]) (.seq (.seq (.ops [⟨(.some 4), (.mv (.tmp 0)), .none, []⟩, ⟨(.some 5), (.pu (.n (.ar .leq)) [(.tmp 4), (.const (.int .i64 0))]), .none, []⟩]) (.cond (.tmp 5) (.seq (.ops [⟨(.some 2), (.mv (.const (.string ⟨#[109, 48]⟩))), .none, []⟩]) .ret) .skip)) (.seq (.ops [⟨(.some 3), (.mv (.const (.string ⟨#[]⟩))), .none, []⟩]) (.seq (.block 0 (.loop (.seq (.seq (.ops [⟨(.some 6), (.mv (.tmp 0)), .none, []⟩, ⟨(.some 7), (.pu (.n (.ar .gtr)) [(.tmp 6), (.const (.int .i64 0))]), .none, []⟩]) (.cond (.tmp 7) .skip (.exit 0))) (.block 1 (.seq (.ops [⟨(.some 8), (.mv (.tmp 0)), .none, []⟩, ⟨(.some 9), (.pu (.n (.ar .rem)) [(.tmp 8), (.const (.int .i64 10))]), .none, []⟩, ⟨(.some 10), (.pu (.n (.ar .add)) [(.const (.int .i64 48)), (.tmp 9)]), .none, []⟩, ⟨(.some 11), (.pu (.n (.conv .u8)) [(.tmp 10)]), .none, []⟩, ⟨(.some 12), (.buildSl 1 false 1 [(.int .u8 0)] [(0, (.tmp 11))]), .none, []⟩, ⟨(.some 13), (.b2s (.tmp 12)), .none, []⟩, ⟨(.some 14), (.mv (.tmp 3)), .none, []⟩, ⟨(.some 15), (.pu (.n (.ar .add)) [(.tmp 13), (.tmp 14)]), .none, []⟩, ⟨(.some 3), (.mv (.tmp 15)), .none, []⟩]) (.ops [⟨(.some 16), (.mv (.tmp 0)), .none, []⟩, ⟨(.some 17), (.pu (.n (.ar .quo)) [(.tmp 16), (.const (.int .i64 10))]), .none, []⟩, ⟨(.some 0), (.mv (.tmp 17)), .none, []⟩])))))) (.seq (.ops [⟨(.some 18), (.mv (.tmp 3)), .none, []⟩, ⟨(.some 19), (.pu (.n (.ar .add)) [(.const (.string ⟨#[109]⟩)), (.tmp 18)]), .none, []⟩, ⟨(.some 2), (.mv (.tmp 19)), .none, []⟩]) .ret))))), [(.tmp 2)]⟩
set_option maxHeartbeats 10000000 in
theorem d_laws_markText {P : Program} {env : Env}  (x0 : Int) {b : ByteArray} (hp : p_laws_markText x0 = some b) : R P env (c_laws_markText) ((encA (x0)).map ofI) [] (Tells true b) := by
  refine R_of (by simp [c_laws_markText, encA]) ?_
  unfold c_laws_markText
  unfold p_laws_markText at hp
  by_cases hb0 : (decide (x0 ≤ 0)) = true
  · rw [if_t hb0] at hp
    have hp := Option.some.inj hp
    subst hp
    simp (maxSteps := 2000000) (disch := first | omega | (simp only [ls]; first | done | omega)) only [hb0, gx, Int.reduceToNat]
  · replace hb0 := eq_false_of_ne_true hb0
    rw [if_f hb0] at hp
    obtain ⟨ee0, hee0, hp⟩ := bind_eq hp
    simp (maxSteps := 2000000) (disch := first | omega | (simp only [ls]; first | done | omega)) only [hb0, gx, Int.reduceToNat]
    refine W_loopP 0 (fun s t h => match s with | (s1, s2) => t 0 = .i (.s (.int .i64 s1)) ∧ t 3 = .i (.s (.string s2))) (RK [.tmp 2] (Tells true)) ?_ hee0 ?_ ?_
    · rintro ⟨s1, s2⟩ ee tt0 hh0 ⟨ftt0_0, ftt0_1⟩ hp
      rw [p_laws_markText_l0] at hp
      by_cases hb3 : (decide (0 < s1)) = true
      · rw [if_t hb3] at hp
        obtain ⟨v4, hv4, hp⟩ := bind_eq hp
        have hp := Option.some.inj hp
        subst hp
        simp (maxSteps := 2000000) (disch := first | omega | (simp only [ls]; first | done | omega)) only [hb0, ftt0_0, ftt0_1, hb3, hv4, gx, Int.reduceToNat] <;> omega
      · replace hb3 := eq_false_of_ne_true hb3
        rw [if_f hb3] at hp
        have hp := Option.some.inj hp
        subst hp
        simp (maxSteps := 2000000) (disch := first | omega | (simp only [ls]; first | done | omega)) only [hb0, ftt0_0, ftt0_1, hb3, gx, Int.reduceToNat] <;> omega
    · simp (maxSteps := 2000000) (disch := first | omega | (simp only [ls]; first | done | omega)) only [hb0, gx, Int.reduceToNat] <;> omega
    · intro x tt1 hh1 hx
      rcases ee0 with ⟨o5, o6⟩ | r
      · obtain ⟨rfl, ftt1_0, ftt1_1⟩ := hx
        dsimp only at hp
        obtain ⟨v7, hv7, hp⟩ := bind_eq hp
        have hp := Option.some.inj hp
        subst hp
        simp (maxSteps := 2000000) (disch := first | omega | (simp only [ls]; first | done | omega)) only [hb0, ftt1_0, ftt1_1, hv7, gx, Int.reduceToNat]
      · obtain ⟨rfl, hx⟩ := hx
        dsimp only at hp
        cases hp
        simp only [seqK_ret, blockK_ret, retK_RK (K := Tells true), hx, and_self, true_and]

section
open NestC (kid rowN)
noncomputable def p_laws_markOpS_r (x : TOp) (k : Int) : Option (T2 Int TOp) :=
  (p_laws_markIntS x.deps.counts (w64 (w64 (w64 (k + 1) + 1) + 1))).bind fun r =>
  (p_laws_markText (w64 (w64 (w64 (w64 (w64 (w64 (r.a + 1) + 1) + 1) + 1) + 1) + 1))).bind fun v1 =>
  (p_laws_markText (w64 (w64 (w64 (w64 (w64 (w64 (w64 (r.a + 1) + 1) + 1) + 1) + 1) + 1) + 1))).bind fun v2 =>
  some ⟨w64 (w64 (w64 (w64 (w64 (w64 (w64 (w64 (r.a + 1) + 1) + 1) + 1) + 1) + 1) + 1) + 1), ⟨k, w64 (k + 1), w64 (w64 (k + 1) + 1), ⟨r.b⟩, r.a, w64 (r.a + 1), w64 (w64 (r.a + 1) + 1), w64 (w64 (w64 (r.a + 1) + 1) + 1), ⟨w64 (w64 (w64 (w64 (r.a + 1) + 1) + 1) + 1), w64 (w64 (w64 (w64 (w64 (r.a + 1) + 1) + 1) + 1) + 1)⟩, v1, v2⟩⟩
noncomputable def p_laws_markOpS_l0 (x0 : List TOp) : List TOp × Int → Option (Lp (List TOp × Int) (T2 Int (List TOp)))
  | (s1, k) =>
    if s1.length < x0.length then
      (get? x0 (s1.length : Int)).bind fun v4 =>
      (p_laws_markOpS_r v4 k).bind fun v5 =>
      if (s1.length : Int) + 1 < 9223372036854775808 then some (.go (s1 ++ [v5.b], v5.a)) else none
    else
      some (.out (s1, k))
noncomputable def p_laws_markOpS (x0 : List TOp) (x1 : Int) : Option (T2 Int (List TOp)) :=
  (loopP (p_laws_markOpS_l0 x0) ([], x1)).bind fun ee0 => match ee0 with
    | .ret r => some r
    | .out (o8, k) => some ⟨k, o8⟩
def c_laws_markOpS (f_laws_markIntS : Nat) (f_laws_markText : Nat) : AFn := ⟨102, (.seq (.ops [⟨(.some 4), (.mv (.const (.int .i64 0))), .none, []⟩]) (.seq (.seq (.ops [⟨(.some 5), (.mv (.const (.int .i64 0))), .none, []⟩]) (.block 0 (.loop (.seq (.seq (.ops [⟨(.some 6), (.mv (.tmp 5)), .none, []⟩, ⟨(.some 7), (.mv (.tmp 0)), .none, []⟩, ⟨(.some 8), (.len (.tmp 7)), .none, []⟩, ⟨(.some 9), (.pu (.n (.ar .lss)) [(.tmp 6), (.tmp 8)]), .none, []⟩]) (.cond (.tmp 9) .skip (.exit 0))) (.seq (.block 1 (.seq (.ops [⟨(.some 12), (.mv (.tmp 0)), .none, []⟩, ⟨(.some 13), (.mv (.tmp 5)), .none, []⟩, ⟨(.some 14), (.mv (.tmp 1)), .none, []⟩, ⟨(.some 15), (.idxS 12 (.tmp 12) (.tmp 13)), .none, []⟩, ⟨(.some 16), (.fieldA 0 (.tmp 15)), .none, []⟩, ⟨.none, (.storeV [(0, false)] 1 (.tmp 16) (.tmp 14)), .none, []⟩]) (.seq (.ops [⟨(.some 17), (.mv (.tmp 1)), .none, []⟩, ⟨(.some 18), (.pu (.n (.ar .add)) [(.tmp 17), (.const (.int .i64 1))]), .none, []⟩, ⟨(.some 1), (.mv (.tmp 18)), .none, []⟩]) (.seq (.ops [⟨(.some 19), (.mv (.tmp 0)), .none, []⟩, ⟨(.some 20), (.mv (.tmp 5)), .none, []⟩, ⟨(.some 21), (.mv (.tmp 1)), .none, []⟩, ⟨(.some 22), (.idxS 12 (.tmp 19) (.tmp 20)), .none, []⟩, ⟨(.some 23), (.fieldA 1 (.tmp 22)), .none, []⟩, ⟨.none, (.storeV [(0, false)] 1 (.tmp 23) (.tmp 21)), .none, []⟩]) (.seq (.ops [⟨(.some 24), (.mv (.tmp 1)), .none, []⟩, ⟨(.some 25), (.pu (.n (.ar .add)) [(.tmp 24), (.const (.int .i64 1))]), .none, []⟩, ⟨(.some 1), (.mv (.tmp 25)), .none, []⟩]) (.seq (.ops [⟨(.some 26), (.mv (.tmp 0)), .none, []⟩, ⟨(.some 27), (.mv (.tmp 5)), .none, []⟩, ⟨(.some 28), (.mv (.tmp 1)), .none, []⟩, ⟨(.some 29), (.idxS 12 (.tmp 26) (.tmp 27)), .none, []⟩, ⟨(.some 30), (.fieldA 2 (.tmp 29)), .none, []⟩, ⟨.none, (.storeV [(0, false)] 1 (.tmp 30) (.tmp 28)), .none, []⟩]) (.seq (.ops [⟨(.some 31), (.mv (.tmp 1)), .none, []⟩, ⟨(.some 32), (.pu (.n (.ar .add)) [(.tmp 31), (.const (.int .i64 1))]), .none, []⟩, ⟨(.some 1), (.mv (.tmp 32)), .none, []⟩]) (.seq (.ops [⟨(.some 33), (.mv (.tmp 0)), .none, []⟩, ⟨(.some 34), (.mv (.tmp 5)), .none, []⟩, ⟨(.some 35), (.idxS 12 (.tmp 33) (.tmp 34)), .none, []⟩, ⟨(.some 36), (.fieldA 3 (.tmp 35)), .none, []⟩, ⟨(.some 37), (.fieldA 0 (.tmp 36)), .none, []⟩, ⟨(.some 38), (.load 1 false (.tmp 37)), .none, []⟩, ⟨(.some 39), (.mv (.tmp 1)), .none, []⟩, ⟨(.some 40), (.call (2 * f_laws_markIntS + 1) [(.tmp 38), (.tmp 39)]), .none, []⟩, ⟨(.some 1), (.mv (.tmp 40)), .none, []⟩]) (.seq (.ops [⟨(.some 41), (.mv (.tmp 0)), .none, []⟩, ⟨(.some 42), (.mv (.tmp 5)), .none, []⟩, ⟨(.some 43), (.mv (.tmp 1)), .none, []⟩, ⟨(.some 44), (.idxS 12 (.tmp 41) (.tmp 42)), .none, []⟩, ⟨(.some 45), (.fieldA 4 (.tmp 44)), .none, []⟩, ⟨.none, (.storeV [(0, false)] 1 (.tmp 45) (.tmp 43)), .none, []⟩]) (.seq (.ops [⟨(.some 46), (.mv (.tmp 1)), .none, []⟩, ⟨(.some 47), (.pu (.n (.ar .add)) [(.tmp 46), (.const (.int .i64 1))]), .none, []⟩, ⟨(.some 1), (.mv (.tmp 47)), .none, []⟩]) (.seq (.ops [⟨(.some 48), (.mv (.tmp 0)), .none, []⟩, ⟨(.some 49), (.mv (.tmp 5)), .none, []⟩, ⟨(.some 50), (.mv (.tmp 1)), .none, []⟩, ⟨(.some 51), (.idxS 12 (.tmp 48) (.tmp 49)), .none, []⟩, ⟨(.some 52), (.fieldA 5 (.tmp 51)), .none, []⟩, ⟨.none, (.storeV [(0, false)] 1 (.tmp 52) (.tmp 50)), .none, []⟩]) (.seq (.ops [⟨(.some 53), (.mv (.tmp 1)), .none, []⟩, ⟨(.some 54), (.pu (.n (.ar .add)) [(.tmp 53), (.const (.int .i64 1))]), .none, []⟩, ⟨(.some 1), (.mv (.tmp 54)), .none, []⟩]) (.seq (.ops [⟨(.some 55), (.mv (.tmp 0)), .none, []⟩, ⟨(.some 56), (.mv (.tmp 5)), .none, []⟩, ⟨(.some 57), (.mv (.tmp 1)), .none, []⟩, ⟨(.some 58), (.idxS 12 (.tmp 55) (.tmp 56)), .none, []⟩, ⟨(.some 59), (.fieldA 6 (.tmp 58)), .none, []⟩, ⟨.none, (.storeV [(0, false)] 1 (.tmp 59) (.tmp 57)), .none, []⟩]) (.seq (.ops [⟨(.some 60), (.mv (.tmp 1)), .none, []⟩, ⟨(.some 61), (.pu (.n (.ar .add)) [(.tmp 60), (.const (.int .i64 1))]), .none, []⟩, ⟨(.some 1), (.mv (.tmp 61)), .none, []⟩]) (.seq (.ops [⟨(.some 62), (.mv (.tmp 0)), .none, []⟩, ⟨(.some 63), (.mv (.tmp 5)), .none, []⟩, ⟨(.some 64), (.mv (.tmp 1)), .none, []⟩, ⟨(.some 65), (.idxS 12 (.tmp 62) (.tmp 63)), .none, []⟩, ⟨(.some 66), (.fieldA 7 (.tmp 65)), .none, []⟩, ⟨.none, (.storeV [(0, false)] 1 (.tmp 66) (.tmp 64)), .none, []⟩]) (.seq (.ops [⟨(.some 67), (.mv (.tmp 1)), .none, []⟩, ⟨(.some 68), (.pu (.n (.ar .add)) [(.tmp 67), (.const (.int .i64 1))]), .none, []⟩, ⟨(.some 1), (.mv (.tmp 68)), .none, []⟩]) (.seq (.ops [⟨(.some 69), (.mv (.tmp 0)), .none, []⟩, ⟨(.some 70), (.mv (.tmp 5)), .none, []⟩, ⟨(.some 71), (.mv (.tmp 1)), .none, []⟩, ⟨(.some 72), (.idxS 12 (.tmp 69) (.tmp 70)), .none, []⟩, ⟨(.some 73), (.fieldA 8 (.tmp 72)), .none, []⟩, ⟨(.some 74), (.fieldA 0 (.tmp 73)), .none, []⟩, ⟨.none, (.storeV [(0, false)] 1 (.tmp 74) (.tmp 71)), .none, []⟩]) (.seq (.ops [⟨(.some 75), (.mv (.tmp 1)), .none, []⟩, ⟨(.some 76), (.pu (.n (.ar .add)) [(.tmp 75), (.const (.int .i64 1))]), .none, []⟩, ⟨(.some 1), (.mv (.tmp 76)), .none, []⟩]) (.seq (.ops [⟨(.some 77), (.mv (.tmp 0)), .none, []⟩, ⟨(.some 78), (.mv (.tmp 5)), .none, []⟩, ⟨(.some 79), (.mv (.tmp 1)), .none, []⟩, ⟨(.some 80), (.idxS 12 (.tmp 77) (.tmp 78)), .none, []⟩, ⟨(.some 81), (.fieldA 8 (.tmp 80)), .none, []⟩, ⟨(.some 82), (.fieldA 1 (.tmp 81)), .none, []⟩, ⟨.none, (.storeV [(0, false)] 1 (.tmp 82) (.tmp 79)), .none, []⟩]) (.seq (.ops [⟨(.some 83), (.mv (.tmp 1)), .none, []⟩, ⟨(.some 84), (.pu (.n (.ar .add)) [(.tmp 83), (.const (.int .i64 1))]), .none, []⟩, ⟨(.some 1), (.mv (.tmp 84)), .none, []⟩]) (.seq (.ops [⟨(.some 85), (.mv (.tmp 0)), .none, []⟩, ⟨(.some 86), (.mv (.tmp 5)), .none, []⟩, ⟨(.some 87), (.mv (.tmp 1)), .none, []⟩, ⟨(.some 88), (.call (2 * f_laws_markText) [(.tmp 87)]), .none, []⟩, ⟨(.some 89), (.idxS 12 (.tmp 85) (.tmp 86)), .none, []⟩, ⟨(.some 90), (.fieldA 10 (.tmp 89)), .none, []⟩, ⟨.none, (.storeV [(0, false)] 1 (.tmp 90) (.tmp 88)), .none, []⟩]) (.seq (.ops [⟨(.some 91), (.mv (.tmp 1)), .none, []⟩, ⟨(.some 92), (.pu (.n (.ar .add)) [(.tmp 91), (.const (.int .i64 1))]), .none, []⟩, ⟨(.some 1), (.mv (.tmp 92)), .none, []⟩]) (.seq (.ops [⟨(.some 93), (.mv (.tmp 0)), .none, []⟩, ⟨(.some 94), (.mv (.tmp 5)), .none, []⟩, ⟨(.some 95), (.mv (.tmp 1)), .none, []⟩, ⟨(.some 96), (.call (2 * f_laws_markText) [(.tmp 95)]), .none, []⟩, ⟨(.some 97), (.idxS 12 (.tmp 93) (.tmp 94)), .none, []⟩, ⟨(.some 98), (.fieldA 11 (.tmp 97)), .none, []⟩, ⟨.none, (.storeV [(0, false)] 1 (.tmp 98) (.tmp 96)), .none, []⟩]) (.ops [⟨(.some 99), (.mv (.tmp 1)), .none, []⟩, ⟨(.some 100), (.pu (.n (.ar .add)) [(.tmp 99), (.const (.int .i64 1))]), .none, []⟩, ⟨(.some 1), (.mv (.tmp 100)), .none, []⟩])))))))))))))))))))))))) (.ops [⟨(.some 10), (.mv (.tmp 5)), .none, []⟩, ⟨(.some 11), (.pu (.n (.ar .add)) [(.tmp 10), (.const (.int .i64 1))]), .none, []⟩, ⟨(.some 5), (.mv (.tmp 11)), .none, []⟩])))))) (.seq (.ops [⟨(.some 101), (.mv (.tmp 1)), .none, []⟩, ⟨(.some 4), (.mv (.tmp 101)), .none, []⟩]) .ret))), [(.tmp 4)]⟩
def i_laws_markOpS (lo hi : Nat) (pv : V) (h : Heap) (b : T2 Int (List TOp)) (v : V) (h2 : Heap) : Prop := KeepI lo hi h h2 ∧ v = .i (.s (.int .i64 b.a)) ∧ NestV h2 lo hi pv b.b
def k_laws_markOpS (F : Fun) : Prop := ∀ (x0 : List TOp) (x1 : Int) (b : T2 Int (List TOp)), p_laws_markOpS x0 x1 = some b → ∀ (lo hi : Nat) (v : V) (h : Heap), NestV h lo hi v x0 → ∃ p, F none [v, .i (.s (.int .i64 x1))] h = some p ∧ i_laws_markOpS lo hi v h b p.1 p.2
def MkI (hh : Heap) (lo hi b : Nat) (gs : List Nat) (x0 : List TOp) (h : Heap) (s1 : List TOp) : Prop := KeepI lo hi hh h ∧ s1.length ≤ x0.length ∧ Nest h lo hi b gs (s1 ++ x0.drop s1.length)
set_option maxHeartbeats 10000000 in
theorem w_laws_markOpS {P : Program} {env : Env} {f_laws_markIntS f_laws_markText : Nat} (ep_laws_markText : env (2 * f_laws_markText) = pureFn true (FA fun a : Int => p_laws_markText a)) (e_laws_markIntS : k_laws_markIntS (env (2 * f_laws_markIntS + 1)))
    (x0 : List TOp) (x1 : Int) {b : T2 Int (List TOp)} (hp : p_laws_markOpS x0 x1 = some b) (lo hi : Nat) (pv : V) (hh : Heap) (pf0 : NestV hh lo hi pv x0) : R P env (c_laws_markOpS f_laws_markIntS f_laws_markText) [pv, .i (.s (.int .i64 x1))] hh (i_laws_markOpS lo hi pv hh b) := by
  refine R_of (by simp [c_laws_markOpS, encA]) ?_
  unfold c_laws_markOpS
  unfold p_laws_markOpS at hp
  obtain ⟨qb, qs, rfl, hN0⟩ := pf0
  obtain ⟨ee0, hee0, hp⟩ := bind_eq hp
  simp (maxSteps := 2000000) (disch := first | omega | (simp only [ls]; first | done | omega)) only [ep_laws_markText, gx, Int.reduceToNat]
  refine W_loopP 0 (fun (s1, k) t h => t 0 = .hsl qb (x0.length * 12) 0 12 true x0.length ∧ t 1 = .i (.s (.int .i64 k)) ∧ t 5 = .i (.s (.int .i64 (s1.length : Int))) ∧ MkI hh lo hi qb qs x0 h s1) (RK [.tmp 4] (i_laws_markOpS lo hi (.hsl qb (x0.length * Pic.z TOp) 0 (Pic.z TOp) true x0.length) hh)) ?_ hee0 ?_ ?_
  · rintro ⟨s1, k⟩ ee tt0 hh0 ⟨f0, f1, f2, f3⟩ hp
    rw [p_laws_markOpS_l0] at hp
    by_cases hb3 : s1.length < x0.length
    · rw [if_pos hb3] at hp
      obtain ⟨v4, hv4, hp⟩ := bind_eq hp
      obtain ⟨v5, hv5, hp⟩ := bind_eq hp
      split at hp
      case isFalse => cases hp
      rename_i hw0
      have hb4 : decide ((s1.length : Int) < (x0.length : Int)) = true := by simpa using hb3
      have hp := Option.some.inj hp
      subst hp
      unfold p_laws_markOpS_r at hv5
      obtain ⟨r, hr, hv5⟩ := bind_eq hv5
      obtain ⟨w1, hw1, hv5⟩ := bind_eq hv5
      obtain ⟨w2, hw2, hv5⟩ := bind_eq hv5
      have hv5 := Option.some.inj hv5
      subst hv5
      have g4 := get_some hv4
      rw [Int.toNat_natCast] at g4
      obtain ⟨hK, hle, hN⟩ := f3
      have hd : x0.drop s1.length = v4 :: x0.drop (s1.length + 1) := by
        rw [List.drop_eq_getElem_cons hb3]
        congr 1
        have := g4.2.2
        rw [List.getElem?_eq_getElem hb3] at this
        exact Option.some.inj this
      rw [hd] at hN
      obtain ⟨A, B, g, hA, hB, hrow, hkid, hg1, hg2, hgb, hb1, hb2, htop, hclose⟩ := nest_open hN
      have hn12 : (s1.length + ((x0.drop (s1.length + 1)).length + 1)) * Pic.z TOp = x0.length * 12 := by rw [z_TOp, List.length_drop]; congr 1; omega
      rw [hn12] at hrow hclose
      rw [z_TOp] at hA hB
      simp only [rowN, List.cons_append, List.nil_append, kid, iN, iS] at hrow hclose hkid
      have hlr := getCells_len hrow
      have hnn : (0:Int) ≤ (s1.length : Int) := by omega
      have hbl := gc_lt hrow
      have hAl : A.length + (B.length + 1 + 1 + 1 + 1 + 1 + 1 + 1 + 1 + 1 + 1 + 1 + 1) = x0.length * 12 := by rw [List.length_drop] at hB; omega
      simp (maxSteps := 2000000) (disch := first | omega | (simp only [ls]; first | done | omega)) only [ep_laws_markText, hv4, hb4, hb3, hAl, hbl, f0, f1, f2, hrow, hlr, hnn, Int.toNat_natCast, take_at hA, take_at0 hA, drop_at hA, drop_at0 hA, drop_at2 hA, take_at2 hA, drop_at3 hA, gx, Int.reduceToNat]
      refine call_f (fun h => getCells h qb (x0.length * 12) = some (A ++ V.i (I.s (Value.int IntKind.i64 k)) :: V.i (I.s (Value.int IntKind.i64 (w64 (k + 1)))) :: V.i (I.s (Value.int IntKind.i64 (w64 (w64 (k + 1) + 1)))) :: V.hsl g v4.deps.counts.length 0 1 false v4.deps.counts.length :: V.i (I.s (Value.int IntKind.i64 v4.kind)) :: V.i (I.s (Value.int IntKind.i64 v4.obj)) :: V.i (I.s (Value.int IntKind.i64 v4.n)) :: V.i (I.s (Value.int IntKind.i64 v4.undo)) :: V.i (I.s (Value.int IntKind.i64 v4.at_.time)) :: V.i (I.s (Value.int IntKind.i64 v4.at_.actor)) :: V.i (I.s (Value.string v4.key)) :: V.i (I.s (Value.string v4.text)) :: B) ∧ getCells h g v4.deps.counts.length = some (rows v4.deps.counts) ∧ Keep [qb, g] hh0 h) (fun h v h2 => i_laws_markIntS g v4.deps.counts.length h r v h2) ?_ ?_ ?_
      · exact ⟨by simp (maxSteps := 2000000) (disch := first | omega | (simp only [ls]; first | done | omega)) only [hrow, hlr, hAl, hbl, gx, Int.reduceToNat], by simp (maxSteps := 2000000) (disch := first | omega | (simp only [ls]; first | done | omega)) only [hkid, hgb, gx, Int.reduceToNat], keep_set (.inl (by simp)) (keep_set (.inl (by simp)) (keep_set (.inl (by simp)) keep_refl))⟩
      · rintro h ⟨c0, c1, c2⟩
        exact e_laws_markIntS _ _ _ hr g v4.deps.counts.length h rfl c1
      · rintro hc v hh1 ⟨c0, c1, c2⟩ hpost
        obtain ⟨kk, rfl, w⟩ := hpost
        have d0 := (keep_get kk (gc_lt c0) (by simp; omega)).trans c0
        have hbl1 := gc_lt d0
        have lr := len_rows w
        rw [show Pic.z Int = 1 from rfl, Nat.mul_one] at lr
        have hw : w64 ((s1.length : Int) + 1) = (s1.length : Int) + 1 := wrap_s (by omega) (by omega)
        have hlr1 := getCells_len d0
        simp (maxSteps := 2000000) (disch := first | omega | (simp only [ls]; first | done | omega)) only [ep_laws_markText, hw1, hw2, hv4, hb4, hb3, hAl, hbl1, f0, f1, f2, d0, hlr1, hnn, hw, Int.toNat_natCast, Int.natCast_add, take_at hA, take_at0 hA, drop_at hA, drop_at0 hA, drop_at2 hA, take_at2 hA, drop_at3 hA, gx, Int.reduceToNat]
        simp only [List.set_set]
        have hk2 := fun s => keep_set (s := s) (b := qb) (.inl (by simp)) (keep_trans c2 kk (by intro b hb; simp at hb; left; simp [hb]))
        refine ⟨⟨Nat.le_trans hK.len (hk2 _).len, fun c hc hn => ((hk2 _).at_ c (Nat.lt_of_lt_of_le hc hK.len) (by simp; omega)).trans (hK.at_ c hc hn)⟩, by simp; omega, ?_⟩
        rw [List.length_append, List.length_singleton, List.append_assoc, List.singleton_append]
        refine hclose _ _ (hk2 _).len (fun c h1 h2 h3 => (hk2 _).at_ c h1 (by simp [h2, h3])) ?_ ?_
        · rw [set_cells d0]
          · simp only [rowN, List.cons_append, List.nil_append, iN, iS, ← lr]
          · simp only [List.length_append, List.length_cons]
            omega
        · rw [getCells_congr (List.getElem?_set_ne (Ne.symm hgb))]
          simp only [kid, ← lr]
          exact w
    · rw [if_neg hb3] at hp
      have hb4 : decide ((s1.length : Int) < (x0.length : Int)) = false := by simpa using hb3
      have hp := Option.some.inj hp
      subst hp
      simp (maxSteps := 2000000) (disch := first | omega | (simp only [ls]; first | done | omega)) only [hb4, f0, f1, f2, f3, gx, Int.reduceToNat]
  · have : MkI hh lo hi qb qs x0 hh [] := ⟨keepI_refl, Nat.zero_le _, by simpa using hN0⟩
    simp (maxSteps := 2000000) (disch := first | omega | (simp only [ls]; first | done | omega)) only [this, gx, Int.reduceToNat]
  · intro x tt1 hh1 hx
    rcases ee0 with ⟨o8, k8⟩ | r
    · obtain ⟨rfl, f0, f1, f2, hK, hle, hN⟩ := hx
      dsimp only at hp
      have hp := Option.some.inj hp
      subst hp
      have hq : x0.length ≤ o8.length := loopP_outQ (Q := fun o : List TOp × Int => x0.length ≤ o.1.length) hee0 (fun s o h => by
        obtain ⟨s1, s2⟩ := s
        rw [p_laws_markOpS_l0] at h
        split at h
        · obtain ⟨_, _, h⟩ := bind_eq h
          obtain ⟨_, _, h⟩ := bind_eq h
          split at h <;> cases h
        · cases h
          dsimp only
          omega)
      have he : x0.length = o8.length := by omega
      rw [List.drop_eq_nil_of_le hq, List.append_nil] at hN
      have hd : i_laws_markOpS lo hi (.hsl qb (x0.length * 12) 0 12 true x0.length) hh ⟨k8, o8⟩ (.i (.s (.int .i64 k8))) hh1 := ⟨hK, rfl, qb, qs, by rw [he, z_TOp], hN⟩
      rw [z_TOp]
      simp (maxSteps := 2000000) (disch := first | omega | (simp only [ls]; first | done | omega)) only [f0, f1, f2, hd, gx, Int.reduceToNat]
    · obtain ⟨rfl, hx⟩ := hx
      dsimp only at hp
      cases hp
      simp only [seqK_ret, blockK_ret, retK_RK, hx, and_self, true_and]
theorem ko_laws_markOpS {P : Program} {env : Env} {f_laws_markIntS f_laws_markText : Nat} (ep_laws_markText : env (2 * f_laws_markText) = pureFn true (FA fun a : Int => p_laws_markText a)) (e_laws_markIntS : k_laws_markIntS (env (2 * f_laws_markIntS + 1))) : k_laws_markOpS (runIn P env (c_laws_markOpS f_laws_markIntS f_laws_markText)) := by
  intro x0 x1 b hp lo hi v h a0
  exact w_laws_markOpS ep_laws_markText e_laws_markIntS x0 x1 hp lo hi v h a0
end

noncomputable def p_laws_markVector (x0 : TVec) (x1 : Int) : Option (T2 Int TVec) :=
  (p_laws_markIntS x0.counts x1).bind fun v0 =>
  some ⟨v0.a, (TVec.mk v0.b)⟩
def c_laws_markVector (f_laws_markIntS : Nat) : AFn := ⟨10, (.seq (.ops [⟨(.some 2), (.box (.tmp 0)), .none, []⟩, ⟨(.some 4), (.mv (.const (.int .i64 0))), .none, []⟩]) (.seq (.ops [⟨(.some 5), (.fieldA 0 (.tmp 2)), .none, []⟩, ⟨(.some 6), (.load 1 false (.tmp 5)), .none, []⟩, ⟨(.some 7), (.mv (.tmp 1)), .none, []⟩, ⟨(.some 8), (.call (2 * f_laws_markIntS + 1) [(.tmp 6), (.tmp 7)]), .none, []⟩, ⟨(.some 1), (.mv (.tmp 8)), .none, []⟩]) (.seq (.ops [⟨(.some 9), (.mv (.tmp 1)), .none, []⟩, ⟨(.some 4), (.mv (.tmp 9)), .none, []⟩]) .ret))), [(.tmp 4)]⟩
def i_laws_markVector (pb0 pn0 : Nat) (h : Heap) (b : T2 Int TVec) (v : V) (h2 : Heap) : Prop := Keep [pb0] h h2 ∧ v = .i (.s (.int .i64 b.a)) ∧ getCells h2 pb0 pn0 = some (rows b.b.counts)
def k_laws_markVector (F : Fun) : Prop := ∀ (x0 : TVec) (x1 : Int) (b : T2 Int TVec), p_laws_markVector x0 x1 = some b → ∀ (pb0 pn0 : Nat) (h : Heap), pn0 = (x0.counts).length → getCells h pb0 pn0 = some (rows x0.counts) → ∃ p, F none [.agg [.hsl pb0 pn0 0 1 false pn0], .i (.s (.int .i64 x1))] h = some p ∧ i_laws_markVector pb0 pn0 h b p.1 p.2
set_option maxHeartbeats 10000000 in
theorem w_laws_markVector {P : Program} {env : Env} {f_laws_markIntS : Nat}  (e_laws_markIntS : k_laws_markIntS (env (2 * f_laws_markIntS + 1))) (x0 : TVec) (x1 : Int) {b : T2 Int TVec} (hp : p_laws_markVector x0 x1 = some b) (pb0 pn0 : Nat) (hh : Heap) (pm0 : pn0 = (x0.counts).length) (pf0 : getCells hh pb0 pn0 = some (rows x0.counts)) : R P env (c_laws_markVector f_laws_markIntS) [.agg [.hsl pb0 pn0 0 1 false pn0], .i (.s (.int .i64 x1))] hh (i_laws_markVector pb0 pn0 hh b) := by
  have pl0 := gc_lt pf0
  have pg0 : getCells hh pb0 x0.counts.length = some (rows x0.counts) := by rw [← pm0]; exact pf0
  refine R_of (by simp [c_laws_markVector, encA]) ?_
  unfold c_laws_markVector
  unfold p_laws_markVector at hp
  obtain ⟨v0, hv0, hp⟩ := bind_eq hp
  simp (maxSteps := 2000000) (disch := first | omega | (simp only [ls]; first | done | omega)) only [pf0, pg0, gx, Int.reduceToNat]
  refine call_f (fun h => getCells h pb0 pn0 = some (rows (x0.counts : List Int)) ∧ pb0 < h.length ∧ getCells h hh.length 1 = some [.hsl pb0 pn0 0 1 false pn0] ∧ hh.length < h.length ∧ Keep [pb0] hh h) (fun h v h2 => i_laws_markIntS pb0 pn0 h v0 v h2) ?_ ?_ ?_
  · simp (maxSteps := 2000000) (disch := first | omega | (simp only [ls]; first | done | omega)) only [i_laws_markVector, pf0, pg0, hv0, gx, Int.reduceToNat] <;> (repeat (first | omega | assumption | rfl | exact keep_refl | refine keep_app ?_ | (refine keep_set (by first | (left; simp; done) | (right; simp; omega)) ?_) | refine And.intro ?_ ?_))
  · rintro h ⟨c0_0, c0_1, c0_2, c0_3, c0_4⟩
    exact e_laws_markIntS _ _ _ hv0 pb0 pn0 h (by first | omega | rfl) c0_0
  · rintro hc0 v hh0 ⟨c0_0, c0_1, c0_2, c0_3, c0_4⟩ hpost
    obtain ⟨kk0, rfl, w0_0⟩ := hpost
    have d0_0 : getCells hh0 pb0 pn0 = some (rows (v0.b : List Int)) := w0_0
    have mm0_0 := len_rows w0_0
    simp only [zs] at mm0_0
    have d0_0l := keep_lt kk0 c0_1
    have d0_1 : getCells hh0 hh.length 1 = some [.hsl pb0 pn0 0 1 false pn0] := (keep_get kk0 c0_3 (by first | (simp; done) | (simp; omega))).trans c0_2
    have d0_1l := keep_lt kk0 c0_3
    have kp0 : Keep [pb0] hh hh0 := keep_trans c0_4 kk0 (by intro b hb; first | (simp at hb; done) | (simp at hb ⊢; omega))
    have hp := Option.some.inj hp
    subst hp
    simp (maxSteps := 2000000) (disch := first | omega | (simp only [ls]; first | done | omega)) only [i_laws_markVector, pf0, pg0, hv0, d0_0, d0_1, gx, Int.reduceToNat] <;> (repeat (first | omega | assumption | rfl | exact keep_refl | refine keep_app ?_ | (refine keep_set (by first | (left; simp; done) | (right; simp; omega)) ?_) | refine And.intro ?_ ?_))
theorem ko_laws_markVector {P : Program} {env : Env} {f_laws_markIntS : Nat}  (e_laws_markIntS : k_laws_markIntS (env (2 * f_laws_markIntS + 1))) : k_laws_markVector (runIn P env (c_laws_markVector f_laws_markIntS)) := by
  intro x0 x1 b hp pb0 pn0 h a0 a1
  exact w_laws_markVector e_laws_markIntS x0 x1 hp pb0 pn0 h a0 a1

noncomputable def p_laws_heldIntS_l0 (x0 : List Int) : Int × Int → Option (Lp (Int × Int) Int)
  | (s0, s1) =>
    if (decide (s1 < (x0.length : Int))) = true then
      (get? x0 s1).bind fun v3 =>
      if (decide (v3 = s0)) = true then
        some (.go (w64 (s0 + 1), w64 (s1 + 1)))
      else
        some (.ret (-1))
    else
      some (.out (s0, s1))
noncomputable def p_laws_heldIntS (x0 : List Int) (x1 : Int) : Option Int :=
  (loopP (p_laws_heldIntS_l0 x0) (x1, 0)).bind fun ee0 => match ee0 with
  | .ret r => some r
  | .out (o5, o6) =>
    some o5
def c_laws_heldIntS : AFn := ⟨21, (.seq (.ops [⟨(.some 4), (.mv (.const (.int .i64 0))), .none, []⟩]) (.seq (.seq (.ops [⟨(.some 5), (.mv (.const (.int .i64 0))), .none, []⟩]) (.block 0 (.loop (.seq (.seq (.ops [⟨(.some 6), (.mv (.tmp 5)), .none, []⟩, ⟨(.some 7), (.mv (.tmp 0)), .none, []⟩, ⟨(.some 8), (.len (.tmp 7)), .none, []⟩, ⟨(.some 9), (.pu (.n (.ar .lss)) [(.tmp 6), (.tmp 8)]), .none, []⟩]) (.cond (.tmp 9) .skip (.exit 0))) (.seq (.block 1 (.seq (.seq (.ops [⟨(.some 12), (.mv (.tmp 0)), .none, []⟩, ⟨(.some 13), (.mv (.tmp 5)), .none, []⟩, ⟨(.some 14), (.idxS 1 (.tmp 12) (.tmp 13)), .none, []⟩, ⟨(.some 15), (.load 1 false (.tmp 14)), .none, []⟩, ⟨(.some 16), (.mv (.tmp 1)), .none, []⟩, ⟨(.some 17), (.pu (.n (.ar .neq)) [(.tmp 15), (.tmp 16)]), .none, []⟩]) (.cond (.tmp 17) (.seq (.ops [⟨(.some 4), (.mv (.const (.int .i64 (-1)))), .none, []⟩]) .ret) .skip)) (.ops [⟨(.some 18), (.mv (.tmp 1)), .none, []⟩, ⟨(.some 19), (.pu (.n (.ar .add)) [(.tmp 18), (.const (.int .i64 1))]), .none, []⟩, ⟨(.some 1), (.mv (.tmp 19)), .none, []⟩]))) (.ops [⟨(.some 10), (.mv (.tmp 5)), .none, []⟩, ⟨(.some 11), (.pu (.n (.ar .add)) [(.tmp 10), (.const (.int .i64 1))]), .none, []⟩, ⟨(.some 5), (.mv (.tmp 11)), .none, []⟩])))))) (.seq (.ops [⟨(.some 20), (.mv (.tmp 1)), .none, []⟩, ⟨(.some 4), (.mv (.tmp 20)), .none, []⟩]) .ret))), [(.tmp 4)]⟩
set_option maxHeartbeats 10000000 in
theorem d_laws_heldIntS {P : Program} {env : Env}  (x0 : List Int) (x1 : Int) {b : Int} (hp : p_laws_heldIntS x0 x1 = some b) : R P env (c_laws_heldIntS) ((encA (x0, x1)).map ofI) [] (Tells true b) := by
  refine R_of (by simp [c_laws_heldIntS, encA]) ?_
  unfold c_laws_heldIntS
  unfold p_laws_heldIntS at hp
  obtain ⟨ee0, hee0, hp⟩ := bind_eq hp
  simp (maxSteps := 2000000) (disch := first | omega | (simp only [ls]; first | done | omega)) only [gx, Int.reduceToNat]
  refine W_loopP 0 (fun s t h => match s with | (s0, s1) => t 0 = .i (.sl 1 (x0.map enc)) ∧ t 1 = .i (.s (.int .i64 s0)) ∧ t 5 = .i (.s (.int .i64 s1))) (RK [.tmp 4] (Tells true)) ?_ hee0 ?_ ?_
  · rintro ⟨s0, s1⟩ ee tt0 hh0 ⟨ftt0_0, ftt0_1, ftt0_2⟩ hp
    rw [p_laws_heldIntS_l0] at hp
    by_cases hb2 : (decide (s1 < (x0.length : Int))) = true
    · rw [if_t hb2] at hp
      obtain ⟨v3, hv3, hp⟩ := bind_eq hp
      by_cases hb4 : (decide (v3 = s0)) = true
      · rw [if_t hb4] at hp
        have hp := Option.some.inj hp
        subst hp
        simp (maxSteps := 2000000) (disch := first | omega | (simp only [ls]; first | done | omega)) only [ftt0_0, ftt0_1, ftt0_2, hb2, hv3, hb4, gx, Int.reduceToNat] <;> omega
      · replace hb4 := eq_false_of_ne_true hb4
        rw [if_f hb4] at hp
        have hp := Option.some.inj hp
        subst hp
        simp (maxSteps := 2000000) (disch := first | omega | (simp only [ls]; first | done | omega)) only [ftt0_0, ftt0_1, ftt0_2, hb2, hv3, hb4, gx, Int.reduceToNat]
    · replace hb2 := eq_false_of_ne_true hb2
      rw [if_f hb2] at hp
      have hp := Option.some.inj hp
      subst hp
      simp (maxSteps := 2000000) (disch := first | omega | (simp only [ls]; first | done | omega)) only [ftt0_0, ftt0_1, ftt0_2, hb2, gx, Int.reduceToNat] <;> omega
  · simp (maxSteps := 2000000) (disch := first | omega | (simp only [ls]; first | done | omega)) only [gx, Int.reduceToNat] <;> omega
  · intro x tt1 hh1 hx
    rcases ee0 with ⟨o5, o6⟩ | r
    · obtain ⟨rfl, ftt1_0, ftt1_1, ftt1_2⟩ := hx
      dsimp only at hp
      have hp := Option.some.inj hp
      subst hp
      simp (maxSteps := 2000000) (disch := first | omega | (simp only [ls]; first | done | omega)) only [ftt1_0, ftt1_1, ftt1_2, gx, Int.reduceToNat]
    · obtain ⟨rfl, hx⟩ := hx
      dsimp only at hp
      cases hp
      simp only [seqK_ret, blockK_ret, retK_RK (K := Tells true), hx, and_self, true_and]

noncomputable def p_laws_heldVector (x0 : TVec) (x1 : Int) : Option Int :=
  (p_laws_heldIntS x0.counts x1).bind fun v0 =>
  if (decide (v0 < 0)) = true then
    some (-1)
  else
    some v0
def c_laws_heldVector (f_laws_heldIntS : Nat) : AFn := ⟨12, (.seq (.ops [⟨(.some 2), (.box (.tmp 0)), .none, []⟩, ⟨(.some 4), (.mv (.const (.int .i64 0))), .none, []⟩]) (.seq (.ops [⟨(.some 5), (.fieldA 0 (.tmp 2)), .none, []⟩, ⟨(.some 6), (.load 1 false (.tmp 5)), .none, []⟩, ⟨(.some 7), (.mv (.tmp 1)), .none, []⟩, ⟨(.some 8), (.call (2 * f_laws_heldIntS) [(.tmp 6), (.tmp 7)]), .none, []⟩, ⟨(.some 1), (.mv (.tmp 8)), .none, []⟩]) (.seq (.seq (.ops [⟨(.some 9), (.mv (.tmp 1)), .none, []⟩, ⟨(.some 10), (.pu (.n (.ar .lss)) [(.tmp 9), (.const (.int .i64 0))]), .none, []⟩]) (.cond (.tmp 10) (.seq (.ops [⟨(.some 4), (.mv (.const (.int .i64 (-1)))), .none, []⟩]) .ret) .skip)) (.seq (.ops [⟨(.some 11), (.mv (.tmp 1)), .none, []⟩, ⟨(.some 4), (.mv (.tmp 11)), .none, []⟩]) .ret)))), [(.tmp 4)]⟩
set_option maxHeartbeats 10000000 in
theorem d_laws_heldVector {P : Program} {env : Env} {f_laws_heldIntS : Nat}  (ep_laws_heldIntS : env (2 * f_laws_heldIntS) = pureFn true (FA fun a : List Int × Int => p_laws_heldIntS a.1 a.2)) (x0 : TVec) (x1 : Int) {b : Int} (hp : p_laws_heldVector x0 x1 = some b) : R P env (c_laws_heldVector f_laws_heldIntS) ((encA (x0, x1)).map ofI) [] (Tells true b) := by
  refine R_of (by simp [c_laws_heldVector, encA]) ?_
  unfold c_laws_heldVector
  unfold p_laws_heldVector at hp
  obtain ⟨v0, hv0, hp⟩ := bind_eq hp
  by_cases hb1 : (decide (v0 < 0)) = true
  · rw [if_t hb1] at hp
    have hp := Option.some.inj hp
    subst hp
    simp (maxSteps := 2000000) (disch := first | omega | (simp only [ls]; first | done | omega)) only [ep_laws_heldIntS, hv0, hb1, gx, Int.reduceToNat]
  · replace hb1 := eq_false_of_ne_true hb1
    rw [if_f hb1] at hp
    have hp := Option.some.inj hp
    subst hp
    simp (maxSteps := 2000000) (disch := first | omega | (simp only [ls]; first | done | omega)) only [ep_laws_heldIntS, hv0, hb1, gx, Int.reduceToNat]

noncomputable def p_laws_FnExactBranchBase (x0 : List TOp) (x1 : List TOp) : Option Bool :=
  (p_laws_szOpS x0 1048576).bind fun v0 =>
  if (decide (v0 < 0)) = true then
    some true
  else
    (p_laws_szOpS x1 v0).bind fun v2 =>
    if (decide (v2 < 0)) = true then
      some true
    else
      (p_laws_toOpS x0).bind fun v4 =>
      (p_laws_toOpS x1).bind fun v5 =>
      (p_spec_BranchBase v4 v5).bind fun v6 =>
      (p_impl_BranchBase v4 v5).bind fun v7 =>
      (p_laws_eqVector v7.a v6.a).bind fun v8 =>
      if (v8) = true then
        if (decide (v7.b = v6.b)) = true then
          (p_laws_eqOpS v4 v4).bind fun v11 =>
          if (v11) = true then
            (p_laws_eqOpS v5 v5).bind fun v13 =>
            if (v13) = true then
              (p_laws_markOpS v4 1).bind fun v15 =>
              (p_laws_markOpS v5 v15.a).bind fun v16 =>
              if (decide (v16.a < 0)) = true then
                some false
              else
                (p_laws_markVector v7.a 1).bind fun v18 =>
                (p_laws_heldVector v18.b 1).bind fun v19 =>
                if (decide (v19 < 0)) = true then
                  some false
                else
                  if (decide (v19 = v18.a)) = true then
                    some true
                  else
                    some false
            else
              some false
          else
            some false
        else
          some false
      else
        some false
def c_laws_FnExactBranchBase (f_laws_szOpS : Nat) (f_laws_toOpS : Nat) (f_spec_BranchBase : Nat) (f_impl_BranchBase : Nat) (f_laws_eqVector : Nat) (f_laws_eqOpS : Nat) (f_laws_markOpS : Nat) (f_laws_markVector : Nat) (f_laws_heldVector : Nat) : AFn := ⟨119, (.seq (.ops [⟨(.some 4), (.mv (.const (.bool false))), .none, []⟩]) (.seq (.ops [⟨(.some 5), (.mv (.const (.int .i64 1048576))), .none, []⟩]) (.seq (.ops [⟨(.some 17), (.mv (.tmp 0)), .none, []⟩, ⟨(.some 18), (.mv (.tmp 5)), .none, []⟩, ⟨(.some 19), (.call (2 * f_laws_szOpS) [(.tmp 17), (.tmp 18)]), .none, []⟩, ⟨(.some 5), (.mv (.tmp 19)), .none, []⟩]) (.seq (.seq (.ops [⟨(.some 20), (.mv (.tmp 5)), .none, []⟩, ⟨(.some 21), (.pu (.n (.ar .lss)) [(.tmp 20), (.const (.int .i64 0))]), .none, []⟩]) (.cond (.tmp 21) (.seq (.ops [⟨(.some 4), (.mv (.const (.bool true))), .none, []⟩]) .ret) .skip)) (.seq (.ops [⟨(.some 22), (.mv (.tmp 1)), .none, []⟩, ⟨(.some 23), (.mv (.tmp 5)), .none, []⟩, ⟨(.some 24), (.call (2 * f_laws_szOpS) [(.tmp 22), (.tmp 23)]), .none, []⟩, ⟨(.some 5), (.mv (.tmp 24)), .none, []⟩]) (.seq (.seq (.ops [⟨(.some 25), (.mv (.tmp 5)), .none, []⟩, ⟨(.some 26), (.pu (.n (.ar .lss)) [(.tmp 25), (.const (.int .i64 0))]), .none, []⟩]) (.cond (.tmp 26) (.seq (.ops [⟨(.some 4), (.mv (.const (.bool true))), .none, []⟩]) .ret) .skip)) (.seq (.ops [⟨(.some 28), (.mv (.tmp 0)), .none, []⟩, ⟨(.some 29), (.call (2 * f_laws_toOpS) [(.tmp 28)]), .none, []⟩, ⟨(.some 30), (.mv (.tmp 1)), .none, []⟩, ⟨(.some 31), (.call (2 * f_laws_toOpS) [(.tmp 30)]), .none, []⟩, ⟨(.some 32), (.call (2 * f_spec_BranchBase) [(.tmp 29), (.tmp 31)]), .none, []⟩, ⟨(.some 27), (.mv (.tmp 32)), .none, []⟩, ⟨(.some 33), (.extract 0 (.tmp 27)), .none, []⟩, ⟨(.some 34), (.extract 1 (.tmp 27)), .none, []⟩, ⟨(.some 6), (.allocV [(1, false)] [(.slice .none 0 0)]), .none, []⟩, ⟨.none, (.storeV [(1, false)] 1 (.tmp 6) (.tmp 33)), .none, []⟩, ⟨(.some 7), (.mv (.tmp 34)), .none, []⟩]) (.seq (.ops [⟨(.some 35), (.mv (.tmp 0)), .none, []⟩, ⟨(.some 36), (.call (2 * f_laws_toOpS + 1) [(.tmp 35)]), .none, []⟩, ⟨(.some 8), (.mv (.tmp 36)), .none, []⟩]) (.seq (.ops [⟨(.some 37), (.mv (.tmp 1)), .none, []⟩, ⟨(.some 38), (.call (2 * f_laws_toOpS + 1) [(.tmp 37)]), .none, []⟩, ⟨(.some 9), (.mv (.tmp 38)), .none, []⟩]) (.seq (.ops [⟨(.some 40), (.mv (.tmp 8)), .none, []⟩, ⟨(.some 41), (.mv (.tmp 9)), .none, []⟩, ⟨(.some 42), (.call (2 * f_impl_BranchBase + 1) [(.tmp 40), (.tmp 41)]), .none, []⟩, ⟨(.some 39), (.mv (.tmp 42)), .none, []⟩, ⟨(.some 43), (.extract 0 (.tmp 39)), .none, []⟩, ⟨(.some 44), (.extract 1 (.tmp 39)), .none, []⟩, ⟨(.some 10), (.allocV [(1, false)] [(.slice .none 0 0)]), .none, []⟩, ⟨.none, (.storeV [(1, false)] 1 (.tmp 10) (.tmp 43)), .none, []⟩, ⟨(.some 11), (.mv (.tmp 44)), .none, []⟩]) (.seq (.seq (.ops [⟨(.some 45), (.load 1 true (.tmp 10)), .none, []⟩, ⟨(.some 46), (.load 1 true (.tmp 6)), .none, []⟩, ⟨(.some 47), (.call (2 * f_laws_eqVector) [(.tmp 45), (.tmp 46)]), .none, []⟩, ⟨(.some 48), (.pu (.n (.un .not)) [(.tmp 47)]), .none, []⟩, ⟨(.some 49), (.mv (.tmp 48)), .none, []⟩, ⟨(.some 50), (.mv (.tmp 11)), (.some (49, false)), []⟩, ⟨(.some 51), (.mv (.tmp 7)), (.some (49, false)), []⟩, ⟨(.some 52), (.pu (.n (.ar .neq)) [(.tmp 50), (.tmp 51)]), (.some (49, false)), []⟩, ⟨(.some 53), (.pick (.tmp 49) (.const (.bool true)) (.tmp 52)), .none, []⟩]) (.cond (.tmp 53) (.seq (.ops [⟨(.some 4), (.mv (.const (.bool false))), .none, []⟩]) .ret) .skip)) (.seq (.seq (.ops [⟨(.some 54), (.mv (.tmp 8)), .none, []⟩, ⟨(.some 55), (.mv (.tmp 0)), .none, []⟩, ⟨(.some 56), (.call (2 * f_laws_toOpS + 1) [(.tmp 55)]), .none, []⟩, ⟨(.some 57), (.call (2 * f_laws_eqOpS) [(.tmp 54), (.tmp 56)]), .none, []⟩, ⟨(.some 58), (.pu (.n (.un .not)) [(.tmp 57)]), .none, []⟩]) (.cond (.tmp 58) (.seq (.ops [⟨(.some 4), (.mv (.const (.bool false))), .none, []⟩]) .ret) .skip)) (.seq (.seq (.ops [⟨(.some 59), (.mv (.tmp 9)), .none, []⟩, ⟨(.some 60), (.mv (.tmp 1)), .none, []⟩, ⟨(.some 61), (.call (2 * f_laws_toOpS + 1) [(.tmp 60)]), .none, []⟩, ⟨(.some 62), (.call (2 * f_laws_eqOpS) [(.tmp 59), (.tmp 61)]), .none, []⟩, ⟨(.some 63), (.pu (.n (.un .not)) [(.tmp 62)]), .none, []⟩]) (.cond (.tmp 63) (.seq (.ops [⟨(.some 4), (.mv (.const (.bool false))), .none, []⟩]) .ret) .skip)) (.seq (.ops [⟨(.some 12), (.mv (.const (.int .i64 1))), .none, []⟩]) (.seq (.ops [⟨(.some 64), (.mv (.tmp 8)), .none, []⟩, ⟨(.some 65), (.mv (.tmp 12)), .none, []⟩, ⟨(.some 66), (.call (2 * f_laws_markOpS + 1) [(.tmp 64), (.tmp 65)]), .none, []⟩, ⟨(.some 12), (.mv (.tmp 66)), .none, []⟩]) (.seq (.ops [⟨(.some 67), (.mv (.tmp 9)), .none, []⟩, ⟨(.some 68), (.mv (.tmp 12)), .none, []⟩, ⟨(.some 69), (.call (2 * f_laws_markOpS + 1) [(.tmp 67), (.tmp 68)]), .none, []⟩, ⟨(.some 12), (.mv (.tmp 69)), .none, []⟩]) (.seq (.seq (.ops [⟨(.some 70), (.mv (.tmp 12)), .none, []⟩, ⟨(.some 71), (.pu (.n (.ar .lss)) [(.tmp 70), (.const (.int .i64 0))]), .none, []⟩, ⟨(.some 72), (.mv (.tmp 71)), .none, []⟩, ⟨(.some 73), (.load 1 true (.tmp 10)), (.some (72, false)), []⟩, ⟨(.some 74), (.load 1 true (.tmp 6)), (.some (72, false)), []⟩, ⟨(.some 75), (.call (2 * f_laws_eqVector) [(.tmp 73), (.tmp 74)]), (.some (72, false)), []⟩, ⟨(.some 76), (.pu (.n (.un .not)) [(.tmp 75)]), (.some (72, false)), []⟩, ⟨(.some 77), (.pick (.tmp 72) (.const (.bool true)) (.tmp 76)), .none, []⟩, ⟨(.some 78), (.mv (.tmp 77)), .none, []⟩, ⟨(.some 79), (.mv (.tmp 11)), (.some (78, false)), []⟩, ⟨(.some 80), (.mv (.tmp 7)), (.some (78, false)), []⟩, ⟨(.some 81), (.pu (.n (.ar .neq)) [(.tmp 79), (.tmp 80)]), (.some (78, false)), []⟩, ⟨(.some 82), (.pick (.tmp 78) (.const (.bool true)) (.tmp 81)), .none, []⟩]) (.cond (.tmp 82) (.seq (.ops [⟨(.some 4), (.mv (.const (.bool false))), .none, []⟩]) .ret) .skip)) (.seq (.ops [⟨(.some 13), (.mv (.const (.int .i64 1))), .none, []⟩]) (.seq (.ops [⟨(.some 83), (.load 1 true (.tmp 10)), .none, []⟩, ⟨(.some 84), (.mv (.tmp 13)), .none, []⟩, ⟨(.some 85), (.call (2 * f_laws_markVector + 1) [(.tmp 83), (.tmp 84)]), .none, []⟩, ⟨(.some 13), (.mv (.tmp 85)), .none, []⟩]) (.seq (.ops [⟨(.some 14), (.mv (.const (.int .i64 1))), .none, []⟩]) (.seq (.ops [⟨(.some 86), (.load 1 true (.tmp 10)), .none, []⟩, ⟨(.some 87), (.mv (.tmp 14)), .none, []⟩, ⟨(.some 88), (.call (2 * f_laws_heldVector) [(.tmp 86), (.tmp 87)]), .none, []⟩, ⟨(.some 14), (.mv (.tmp 88)), .none, []⟩]) (.seq (.seq (.ops [⟨(.some 89), (.mv (.tmp 14)), .none, []⟩, ⟨(.some 90), (.pu (.n (.ar .lss)) [(.tmp 89), (.const (.int .i64 0))]), .none, []⟩]) (.cond (.tmp 90) (.seq (.ops [⟨(.some 4), (.mv (.const (.bool false))), .none, []⟩]) .ret) .skip)) (.seq (.seq (.ops [⟨(.some 91), (.mv (.tmp 14)), .none, []⟩, ⟨(.some 92), (.mv (.tmp 13)), .none, []⟩, ⟨(.some 93), (.pu (.n (.ar .neq)) [(.tmp 91), (.tmp 92)]), .none, []⟩]) (.cond (.tmp 93) (.seq (.ops [⟨(.some 4), (.mv (.const (.bool false))), .none, []⟩]) .ret) .skip)) (.seq (.ops [⟨(.some 95), (.mv (.tmp 0)), .none, []⟩, ⟨(.some 96), (.call (2 * f_laws_toOpS + 1) [(.tmp 95)]), .none, []⟩, ⟨(.some 97), (.mv (.tmp 1)), .none, []⟩, ⟨(.some 98), (.call (2 * f_laws_toOpS + 1) [(.tmp 97)]), .none, []⟩, ⟨(.some 99), (.call (2 * f_impl_BranchBase + 1) [(.tmp 96), (.tmp 98)]), .none, []⟩, ⟨(.some 94), (.mv (.tmp 99)), .none, []⟩, ⟨(.some 100), (.extract 0 (.tmp 94)), .none, []⟩, ⟨(.some 101), (.extract 1 (.tmp 94)), .none, []⟩, ⟨(.some 15), (.allocV [(1, false)] [(.slice .none 0 0)]), .none, []⟩, ⟨.none, (.storeV [(1, false)] 1 (.tmp 15) (.tmp 100)), .none, []⟩, ⟨(.some 16), (.mv (.tmp 101)), .none, []⟩]) (.seq (.seq (.ops [⟨(.some 102), (.load 1 true (.tmp 15)), .none, []⟩, ⟨(.some 103), (.load 1 true (.tmp 6)), .none, []⟩, ⟨(.some 104), (.call (2 * f_laws_eqVector) [(.tmp 102), (.tmp 103)]), .none, []⟩, ⟨(.some 105), (.pu (.n (.un .not)) [(.tmp 104)]), .none, []⟩, ⟨(.some 106), (.mv (.tmp 105)), .none, []⟩, ⟨(.some 107), (.mv (.tmp 16)), (.some (106, false)), []⟩, ⟨(.some 108), (.mv (.tmp 7)), (.some (106, false)), []⟩, ⟨(.some 109), (.pu (.n (.ar .neq)) [(.tmp 107), (.tmp 108)]), (.some (106, false)), []⟩, ⟨(.some 110), (.pick (.tmp 106) (.const (.bool true)) (.tmp 109)), .none, []⟩]) (.cond (.tmp 110) (.seq (.ops [⟨(.some 4), (.mv (.const (.bool false))), .none, []⟩]) .ret) .skip)) (.seq (.ops [⟨(.some 14), (.mv (.const (.int .i64 1))), .none, []⟩]) (.seq (.ops [⟨(.some 111), (.load 1 true (.tmp 10)), .none, []⟩, ⟨(.some 112), (.mv (.tmp 14)), .none, []⟩, ⟨(.some 113), (.call (2 * f_laws_heldVector) [(.tmp 111), (.tmp 112)]), .none, []⟩, ⟨(.some 14), (.mv (.tmp 113)), .none, []⟩]) (.seq (.seq (.ops [⟨(.some 114), (.mv (.tmp 14)), .none, []⟩, ⟨(.some 115), (.pu (.n (.ar .lss)) [(.tmp 114), (.const (.int .i64 0))]), .none, []⟩]) (.cond (.tmp 115) (.seq (.ops [⟨(.some 4), (.mv (.const (.bool false))), .none, []⟩]) .ret) .skip)) (.seq (.seq (.ops [⟨(.some 116), (.mv (.tmp 14)), .none, []⟩, ⟨(.some 117), (.mv (.tmp 13)), .none, []⟩, ⟨(.some 118), (.pu (.n (.ar .neq)) [(.tmp 116), (.tmp 117)]), .none, []⟩]) (.cond (.tmp 118) (.seq (.ops [⟨(.some 4), (.mv (.const (.bool false))), .none, []⟩]) .ret) .skip)) (.seq (.ops [⟨(.some 4), (.mv (.const (.bool true))), .none, []⟩]) .ret)))))))))))))))))))))))))))))), [(.tmp 4)]⟩
set_option maxHeartbeats 10000000 in
theorem d_laws_FnExactBranchBase {P : Program} {env : Env} {f_laws_szOpS : Nat} {f_laws_toOpS : Nat} {f_spec_BranchBase : Nat} {f_impl_BranchBase : Nat} {f_laws_eqVector : Nat} {f_laws_eqOpS : Nat} {f_laws_markOpS : Nat} {f_laws_markVector : Nat} {f_laws_heldVector : Nat}  (ep_laws_szOpS : env (2 * f_laws_szOpS) = pureFn true (FA fun a : List TOp × Int => p_laws_szOpS a.1 a.2)) (ep_laws_toOpS : env (2 * f_laws_toOpS) = pureFn false (FA fun a : List TOp => p_laws_toOpS a)) (ep_spec_BranchBase : env (2 * f_spec_BranchBase) = pureFn false (FA fun a : List TOp × List TOp => p_spec_BranchBase a.1 a.2)) (ep_laws_eqVector : env (2 * f_laws_eqVector) = pureFn true (FA fun a : TVec × TVec => p_laws_eqVector a.1 a.2)) (ep_laws_eqOpS : env (2 * f_laws_eqOpS) = pureFn true (FA fun a : List TOp × List TOp => p_laws_eqOpS a.1 a.2)) (ep_laws_heldVector : env (2 * f_laws_heldVector) = pureFn true (FA fun a : TVec × Int => p_laws_heldVector a.1 a.2)) (e_laws_toOpS : k_laws_toOpS (env (2 * f_laws_toOpS + 1))) (e_impl_BranchBase : k_impl_BranchBase (env (2 * f_impl_BranchBase + 1))) (e_laws_markOpS : k_laws_markOpS (env (2 * f_laws_markOpS + 1))) (e_laws_markVector : k_laws_markVector (env (2 * f_laws_markVector + 1))) (x0 : List TOp) (x1 : List TOp) (hp : p_laws_FnExactBranchBase x0 x1 = some true) : R P env (c_laws_FnExactBranchBase f_laws_szOpS f_laws_toOpS f_spec_BranchBase f_impl_BranchBase f_laws_eqVector f_laws_eqOpS f_laws_markOpS f_laws_markVector f_laws_heldVector) ((encA (x0, x1)).map ofI) [] (fun v _ => v = .i (iB true)) := by
  refine R_of (by simp [c_laws_FnExactBranchBase, encA]) ?_
  unfold c_laws_FnExactBranchBase
  unfold p_laws_FnExactBranchBase at hp
  obtain ⟨v0, hv0, hp⟩ := bind_eq hp
  by_cases hb1 : (decide (v0 < 0)) = true
  · rw [if_t hb1] at hp
    cases hp
    simp (maxSteps := 2000000) (disch := first | omega | (simp only [ls]; first | done | omega)) only [ep_laws_szOpS, ep_laws_toOpS, ep_spec_BranchBase, ep_laws_eqVector, ep_laws_eqOpS, ep_laws_heldVector, hv0, hb1, gx, Int.reduceToNat]
  · replace hb1 := eq_false_of_ne_true hb1
    rw [if_f hb1] at hp
    obtain ⟨v2, hv2, hp⟩ := bind_eq hp
    by_cases hb3 : (decide (v2 < 0)) = true
    · rw [if_t hb3] at hp
      cases hp
      simp (maxSteps := 2000000) (disch := first | omega | (simp only [ls]; first | done | omega)) only [ep_laws_szOpS, ep_laws_toOpS, ep_spec_BranchBase, ep_laws_eqVector, ep_laws_eqOpS, ep_laws_heldVector, hv0, hb1, hv2, hb3, gx, Int.reduceToNat]
    · replace hb3 := eq_false_of_ne_true hb3
      rw [if_f hb3] at hp
      obtain ⟨v4, hv4, hp⟩ := bind_eq hp
      obtain ⟨v5, hv5, hp⟩ := bind_eq hp
      obtain ⟨v6, hv6, hp⟩ := bind_eq hp
      simp (maxSteps := 2000000) (disch := first | omega | (simp only [ls]; first | done | omega)) only [ep_laws_szOpS, ep_laws_toOpS, ep_spec_BranchBase, ep_laws_eqVector, ep_laws_eqOpS, ep_laws_heldVector, hv0, hb1, hv2, hb3, hv4, hv5, hv6, gx, Int.reduceToNat]
      refine call_f (fun h => getCells h 0 0 = some [] ∧ 0 < h.length ∧ getCells h 1 1 = some [.i (.sl 1 (v6.a.counts.map enc))] ∧ 1 < h.length) (fun h v h2 => oo_laws_toOpS v4 h v h2) ?_ ?_ ?_
      · simp (maxSteps := 2000000) (disch := first | omega | (simp only [ls]; first | done | omega)) only [ep_laws_szOpS, ep_laws_toOpS, ep_spec_BranchBase, ep_laws_eqVector, ep_laws_eqOpS, ep_laws_heldVector, hv0, hb1, hv2, hb3, hv4, hv5, hv6, gx, Int.reduceToNat] <;> (repeat (first | omega | assumption | exact nest_ext (by assumption) | exact nest_wide (by assumption) (Nat.zero_le _) (by first | omega | (simp; omega)) (Nat.le_refl _) | exact nest_wide (nest_ext (by assumption)) (Nat.zero_le _) (by first | omega | (simp; omega)) (Nat.le_refl _) | exact nest_virt (by simp (maxSteps := 2000000) (disch := first | omega | (simp only [ls]; first | done | omega)) only [ep_laws_szOpS, ep_laws_toOpS, ep_spec_BranchBase, ep_laws_eqVector, ep_laws_eqOpS, ep_laws_heldVector, hv0, hb1, hv2, hb3, hv4, hv5, hv6, gx, Int.reduceToNat]) (by omega) (by first | omega | (simp; done) | (simp; omega)) (by first | omega | (simp; done) | (simp; omega)) | refine nest_ext ?_ | refine nest_set ?_ (by omega) | refine And.intro ?_ ?_))
      · rintro h ⟨c0_0, c0_1, c0_2, c0_3⟩
        exact e_laws_toOpS _ _ hv4 h _ (by simp (maxSteps := 2000000) (disch := first | omega | (simp only [ls]; first | done | omega)) only [ep_laws_szOpS, ep_laws_toOpS, ep_spec_BranchBase, ep_laws_eqVector, ep_laws_eqOpS, ep_laws_heldVector, hv0, hb1, hv2, hb3, hv4, hv5, hv6, c0_0, c0_1, c0_2, c0_3, gx, Int.reduceToNat])
      · rintro hc0 nb0_0 hh0 ⟨c0_0, c0_1, c0_2, c0_3⟩ hpost
        obtain ⟨kk0, _, rfl, wnb0_0⟩ := hpost
        have d0_0 : getCells hh0 0 0 = some [] := (keep_get kk0 c0_1 (by first | (simp; done) | (simp; omega))).trans c0_0
        have d0_0l := keep_lt kk0 c0_1
        have d0_1 : getCells hh0 1 1 = some [.i (.sl 1 (v6.a.counts.map enc))] := (keep_get kk0 c0_3 (by first | (simp; done) | (simp; omega))).trans c0_2
        have d0_1l := keep_lt kk0 c0_3
        have d0_2 := wnb0_0
        have d0_2l := nest_lt d0_2
        have d0_2s : snap 9 false hh0 nb0_0 = some (.sl 12 (v4.map enc)) := snap_nest (n := 5) d0_2
        have d0_2n : lenS nb0_0 = some v4.length := nest_lenS d0_2
        simp (maxSteps := 2000000) (disch := first | omega | (simp only [ls]; first | done | omega)) only [ep_laws_szOpS, ep_laws_toOpS, ep_spec_BranchBase, ep_laws_eqVector, ep_laws_eqOpS, ep_laws_heldVector, hv0, hb1, hv2, hb3, hv4, hv5, hv6, d0_0, d0_1, d0_2, d0_2s, d0_2n, gx, Int.reduceToNat]
        refine call_f (fun h => getCells h 0 0 = some [] ∧ 0 < h.length ∧ getCells h 1 1 = some [.i (.sl 1 (v6.a.counts.map enc))] ∧ 1 < h.length ∧ NestV h hc0.length hh0.length nb0_0 (v4 : List TOp) ∧ hh0.length ≤ h.length) (fun h v h2 => oo_laws_toOpS v5 h v h2) ?_ ?_ ?_
        · simp (maxSteps := 2000000) (disch := first | omega | (simp only [ls]; first | done | omega)) only [ep_laws_szOpS, ep_laws_toOpS, ep_spec_BranchBase, ep_laws_eqVector, ep_laws_eqOpS, ep_laws_heldVector, hv0, hb1, hv2, hb3, hv4, hv5, hv6, d0_0, d0_1, d0_2, d0_2s, d0_2n, gx, Int.reduceToNat] <;> (repeat (first | omega | assumption | exact nest_ext (by assumption) | exact nest_wide (by assumption) (Nat.zero_le _) (by first | omega | (simp; omega)) (Nat.le_refl _) | exact nest_wide (nest_ext (by assumption)) (Nat.zero_le _) (by first | omega | (simp; omega)) (Nat.le_refl _) | exact nest_virt (by simp (maxSteps := 2000000) (disch := first | omega | (simp only [ls]; first | done | omega)) only [ep_laws_szOpS, ep_laws_toOpS, ep_spec_BranchBase, ep_laws_eqVector, ep_laws_eqOpS, ep_laws_heldVector, hv0, hb1, hv2, hb3, hv4, hv5, hv6, d0_0, d0_1, d0_2, d0_2s, d0_2n, gx, Int.reduceToNat]) (by omega) (by first | omega | (simp; done) | (simp; omega)) (by first | omega | (simp; done) | (simp; omega)) | refine nest_ext ?_ | refine nest_set ?_ (by omega) | refine And.intro ?_ ?_))
        · rintro h ⟨c1_0, c1_1, c1_2, c1_3, c1_4, c1_5⟩
          have sc1_2 : snap 9 false h nb0_0 = some (.sl 12 (v4.map enc)) := snap_nest (n := 5) c1_4
          exact e_laws_toOpS _ _ hv5 h _ (by simp (maxSteps := 2000000) (disch := first | omega | (simp only [ls]; first | done | omega)) only [ep_laws_szOpS, ep_laws_toOpS, ep_spec_BranchBase, ep_laws_eqVector, ep_laws_eqOpS, ep_laws_heldVector, hv0, hb1, hv2, hb3, hv4, hv5, hv6, d0_0, d0_1, d0_2, d0_2s, d0_2n, c1_0, c1_1, c1_2, c1_3, c1_4, c1_5, sc1_2, gx, Int.reduceToNat])
        · rintro hc1 nb1_0 hh1 ⟨c1_0, c1_1, c1_2, c1_3, c1_4, c1_5⟩ hpost
          obtain ⟨kk1, _, rfl, wnb1_0⟩ := hpost
          have d1_0 : getCells hh1 0 0 = some [] := (keep_get kk1 c1_1 (by first | (simp; done) | (simp; omega))).trans c1_0
          have d1_0l := keep_lt kk1 c1_1
          have d1_1 : getCells hh1 1 1 = some [.i (.sl 1 (v6.a.counts.map enc))] := (keep_get kk1 c1_3 (by first | (simp; done) | (simp; omega))).trans c1_2
          have d1_1l := keep_lt kk1 c1_3
          have d1_2 : NestV hh1 hc0.length hh0.length nb0_0 (v4 : List TOp) := nest_keep c1_4 kk1 (by intro b hb; first | (simp at hb; done) | (simp at hb; omega))
          have d1_2l := nest_lt d1_2
          have d1_2s : snap 9 false hh1 nb0_0 = some (.sl 12 (v4.map enc)) := snap_nest (n := 5) d1_2
          have d1_2n : lenS nb0_0 = some v4.length := nest_lenS d1_2
          have d1_3 := wnb1_0
          have d1_3l := nest_lt d1_3
          have d1_3s : snap 9 false hh1 nb1_0 = some (.sl 12 (v5.map enc)) := snap_nest (n := 5) d1_3
          have d1_3n : lenS nb1_0 = some v5.length := nest_lenS d1_3
          obtain ⟨v7, hv7, hp⟩ := bind_eq hp
          simp (maxSteps := 2000000) (disch := first | omega | (simp only [ls]; first | done | omega)) only [ep_laws_szOpS, ep_laws_toOpS, ep_spec_BranchBase, ep_laws_eqVector, ep_laws_eqOpS, ep_laws_heldVector, hv0, hb1, hv2, hb3, hv4, hv5, hv6, d0_0, d0_1, d0_2, d0_2s, d0_2n, d1_0, d1_1, d1_2, d1_2s, d1_2n, d1_3, d1_3s, d1_3n, gx, Int.reduceToNat]
          refine call_f (fun h => getCells h 0 0 = some [] ∧ 0 < h.length ∧ getCells h 1 1 = some [.i (.sl 1 (v6.a.counts.map enc))] ∧ 1 < h.length ∧ NestV h hc0.length hh0.length nb0_0 (v4 : List TOp) ∧ hh0.length ≤ h.length ∧ NestV h hc1.length hh1.length nb1_0 (v5 : List TOp) ∧ hh1.length ≤ h.length) (fun h v h2 => oo_impl_BranchBase v7 h v h2) ?_ ?_ ?_
          · simp (maxSteps := 2000000) (disch := first | omega | (simp only [ls]; first | done | omega)) only [ep_laws_szOpS, ep_laws_toOpS, ep_spec_BranchBase, ep_laws_eqVector, ep_laws_eqOpS, ep_laws_heldVector, hv0, hb1, hv2, hb3, hv4, hv5, hv6, d0_0, d0_1, d0_2, d0_2s, d0_2n, d1_0, d1_1, d1_2, d1_2s, d1_2n, d1_3, d1_3s, d1_3n, hv7, gx, Int.reduceToNat] <;> (repeat (first | omega | assumption | exact nest_ext (by assumption) | exact nest_wide (by assumption) (Nat.zero_le _) (by first | omega | (simp; omega)) (Nat.le_refl _) | exact nest_wide (nest_ext (by assumption)) (Nat.zero_le _) (by first | omega | (simp; omega)) (Nat.le_refl _) | exact nest_virt (by simp (maxSteps := 2000000) (disch := first | omega | (simp only [ls]; first | done | omega)) only [ep_laws_szOpS, ep_laws_toOpS, ep_spec_BranchBase, ep_laws_eqVector, ep_laws_eqOpS, ep_laws_heldVector, hv0, hb1, hv2, hb3, hv4, hv5, hv6, d0_0, d0_1, d0_2, d0_2s, d0_2n, d1_0, d1_1, d1_2, d1_2s, d1_2n, d1_3, d1_3s, d1_3n, hv7, gx, Int.reduceToNat]) (by omega) (by first | omega | (simp; done) | (simp; omega)) (by first | omega | (simp; done) | (simp; omega)) | refine nest_ext ?_ | refine nest_set ?_ (by omega) | refine And.intro ?_ ?_))
          · rintro h ⟨c2_0, c2_1, c2_2, c2_3, c2_4, c2_5, c2_6, c2_7⟩
            have sc2_2 : snap 9 false h nb0_0 = some (.sl 12 (v4.map enc)) := snap_nest (n := 5) c2_4
            have sc2_3 : snap 9 false h nb1_0 = some (.sl 12 (v5.map enc)) := snap_nest (n := 5) c2_6
            exact e_impl_BranchBase _ _ _ hv7 h _ (by simp (maxSteps := 2000000) (disch := first | omega | (simp only [ls]; first | done | omega)) only [ep_laws_szOpS, ep_laws_toOpS, ep_spec_BranchBase, ep_laws_eqVector, ep_laws_eqOpS, ep_laws_heldVector, hv0, hb1, hv2, hb3, hv4, hv5, hv6, d0_0, d0_1, d0_2, d0_2s, d0_2n, d1_0, d1_1, d1_2, d1_2s, d1_2n, d1_3, d1_3s, d1_3n, hv7, c2_0, c2_1, c2_2, c2_3, c2_4, c2_5, c2_6, c2_7, sc2_2, sc2_3, gx, Int.reduceToNat])
          · rintro hc2 v hh2 ⟨c2_0, c2_1, c2_2, c2_3, c2_4, c2_5, c2_6, c2_7⟩ hpost
            obtain ⟨kk2, nb2_0, rfl, lnb2_0, gnb2_0, wnb2_0⟩ := hpost
            have d2_0 : getCells hh2 0 0 = some [] := (keep_get kk2 c2_1 (by first | (simp; done) | (simp; omega))).trans c2_0
            have d2_0l := keep_lt kk2 c2_1
            have d2_1 : getCells hh2 1 1 = some [.i (.sl 1 (v6.a.counts.map enc))] := (keep_get kk2 c2_3 (by first | (simp; done) | (simp; omega))).trans c2_2
            have d2_1l := keep_lt kk2 c2_3
            have d2_2 : NestV hh2 hc0.length hh0.length nb0_0 (v4 : List TOp) := nest_keep c2_4 kk2 (by intro b hb; first | (simp at hb; done) | (simp at hb; omega))
            have d2_2l := nest_lt d2_2
            have d2_2s : snap 9 false hh2 nb0_0 = some (.sl 12 (v4.map enc)) := snap_nest (n := 5) d2_2
            have d2_2n : lenS nb0_0 = some v4.length := nest_lenS d2_2
            have d2_3 : NestV hh2 hc1.length hh1.length nb1_0 (v5 : List TOp) := nest_keep c2_6 kk2 (by intro b hb; first | (simp at hb; done) | (simp at hb; omega))
            have d2_3l := nest_lt d2_3
            have d2_3s : snap 9 false hh2 nb1_0 = some (.sl 12 (v5.map enc)) := snap_nest (n := 5) d2_3
            have d2_3n : lenS nb1_0 = some v5.length := nest_lenS d2_3
            have d2_4 := wnb2_0
            obtain ⟨v8, hv8, hp⟩ := bind_eq hp
            by_cases hb9 : (v8) = true
            · rw [if_t hb9] at hp
              by_cases hb10 : (decide (v7.b = v6.b)) = true
              · rw [if_t hb10] at hp
                simp (maxSteps := 2000000) (disch := first | omega | (simp only [ls]; first | done | omega)) only [ep_laws_szOpS, ep_laws_toOpS, ep_spec_BranchBase, ep_laws_eqVector, ep_laws_eqOpS, ep_laws_heldVector, hv0, hb1, hv2, hb3, hv4, hv5, hv6, d0_0, d0_1, d0_2, d0_2s, d0_2n, d1_0, d1_1, d1_2, d1_2s, d1_2n, d1_3, d1_3s, d1_3n, hv7, d2_0, d2_1, d2_2, d2_2s, d2_2n, d2_3, d2_3s, d2_3n, d2_4, hv8, hb9, hb10, gx, Int.reduceToNat]
                refine call_f (fun h => getCells h 0 0 = some [] ∧ 0 < h.length ∧ getCells h 1 1 = some [.i (.sl 1 (v6.a.counts.map enc))] ∧ 1 < h.length ∧ NestV h hc0.length hh0.length nb0_0 (v4 : List TOp) ∧ hh0.length ≤ h.length ∧ NestV h hc1.length hh1.length nb1_0 (v5 : List TOp) ∧ hh1.length ≤ h.length ∧ getCells h nb2_0 v7.a.counts.length = some (rows (v7.a.counts : List Int)) ∧ nb2_0 < h.length ∧ getCells h hh2.length 0 = some [] ∧ hh2.length < h.length ∧ getCells h (hh2.length + 1) 1 = some [.hsl nb2_0 v7.a.counts.length 0 1 false v7.a.counts.length] ∧ hh2.length + 1 < h.length) (fun h v h2 => oo_laws_toOpS v4 h v h2) ?_ ?_ ?_
                · simp (maxSteps := 2000000) (disch := first | omega | (simp only [ls]; first | done | omega)) only [ep_laws_szOpS, ep_laws_toOpS, ep_spec_BranchBase, ep_laws_eqVector, ep_laws_eqOpS, ep_laws_heldVector, hv0, hb1, hv2, hb3, hv4, hv5, hv6, d0_0, d0_1, d0_2, d0_2s, d0_2n, d1_0, d1_1, d1_2, d1_2s, d1_2n, d1_3, d1_3s, d1_3n, hv7, d2_0, d2_1, d2_2, d2_2s, d2_2n, d2_3, d2_3s, d2_3n, d2_4, hv8, hb9, hb10, gx, Int.reduceToNat] <;> (repeat (first | omega | assumption | exact nest_ext (by assumption) | exact nest_wide (by assumption) (Nat.zero_le _) (by first | omega | (simp; omega)) (Nat.le_refl _) | exact nest_wide (nest_ext (by assumption)) (Nat.zero_le _) (by first | omega | (simp; omega)) (Nat.le_refl _) | exact nest_virt (by simp (maxSteps := 2000000) (disch := first | omega | (simp only [ls]; first | done | omega)) only [ep_laws_szOpS, ep_laws_toOpS, ep_spec_BranchBase, ep_laws_eqVector, ep_laws_eqOpS, ep_laws_heldVector, hv0, hb1, hv2, hb3, hv4, hv5, hv6, d0_0, d0_1, d0_2, d0_2s, d0_2n, d1_0, d1_1, d1_2, d1_2s, d1_2n, d1_3, d1_3s, d1_3n, hv7, d2_0, d2_1, d2_2, d2_2s, d2_2n, d2_3, d2_3s, d2_3n, d2_4, hv8, hb9, hb10, gx, Int.reduceToNat]) (by omega) (by first | omega | (simp; done) | (simp; omega)) (by first | omega | (simp; done) | (simp; omega)) | refine nest_ext ?_ | refine nest_set ?_ (by omega) | refine And.intro ?_ ?_))
                · rintro h ⟨c3_0, c3_1, c3_2, c3_3, c3_4, c3_5, c3_6, c3_7, c3_8, c3_9, c3_10, c3_11, c3_12, c3_13⟩
                  have sc3_2 : snap 9 false h nb0_0 = some (.sl 12 (v4.map enc)) := snap_nest (n := 5) c3_4
                  have sc3_3 : snap 9 false h nb1_0 = some (.sl 12 (v5.map enc)) := snap_nest (n := 5) c3_6
                  exact e_laws_toOpS _ _ hv4 h _ (by simp (maxSteps := 2000000) (disch := first | omega | (simp only [ls]; first | done | omega)) only [ep_laws_szOpS, ep_laws_toOpS, ep_spec_BranchBase, ep_laws_eqVector, ep_laws_eqOpS, ep_laws_heldVector, hv0, hb1, hv2, hb3, hv4, hv5, hv6, d0_0, d0_1, d0_2, d0_2s, d0_2n, d1_0, d1_1, d1_2, d1_2s, d1_2n, d1_3, d1_3s, d1_3n, hv7, d2_0, d2_1, d2_2, d2_2s, d2_2n, d2_3, d2_3s, d2_3n, d2_4, hv8, hb9, hb10, c3_0, c3_1, c3_2, c3_3, c3_4, c3_5, c3_6, c3_7, c3_8, c3_9, c3_10, c3_11, c3_12, c3_13, sc3_2, sc3_3, gx, Int.reduceToNat])
                · rintro hc3 nb3_0 hh3 ⟨c3_0, c3_1, c3_2, c3_3, c3_4, c3_5, c3_6, c3_7, c3_8, c3_9, c3_10, c3_11, c3_12, c3_13⟩ hpost
                  obtain ⟨kk3, _, rfl, wnb3_0⟩ := hpost
                  have d3_0 : getCells hh3 0 0 = some [] := (keep_get kk3 c3_1 (by first | (simp; done) | (simp; omega))).trans c3_0
                  have d3_0l := keep_lt kk3 c3_1
                  have d3_1 : getCells hh3 1 1 = some [.i (.sl 1 (v6.a.counts.map enc))] := (keep_get kk3 c3_3 (by first | (simp; done) | (simp; omega))).trans c3_2
                  have d3_1l := keep_lt kk3 c3_3
                  have d3_2 : NestV hh3 hc0.length hh0.length nb0_0 (v4 : List TOp) := nest_keep c3_4 kk3 (by intro b hb; first | (simp at hb; done) | (simp at hb; omega))
                  have d3_2l := nest_lt d3_2
                  have d3_2s : snap 9 false hh3 nb0_0 = some (.sl 12 (v4.map enc)) := snap_nest (n := 5) d3_2
                  have d3_2n : lenS nb0_0 = some v4.length := nest_lenS d3_2
                  have d3_3 : NestV hh3 hc1.length hh1.length nb1_0 (v5 : List TOp) := nest_keep c3_6 kk3 (by intro b hb; first | (simp at hb; done) | (simp at hb; omega))
                  have d3_3l := nest_lt d3_3
                  have d3_3s : snap 9 false hh3 nb1_0 = some (.sl 12 (v5.map enc)) := snap_nest (n := 5) d3_3
                  have d3_3n : lenS nb1_0 = some v5.length := nest_lenS d3_3
                  have d3_4 : getCells hh3 nb2_0 v7.a.counts.length = some (rows (v7.a.counts : List Int)) := (keep_get kk3 c3_9 (by first | (simp; done) | (simp; omega))).trans c3_8
                  have d3_4l := keep_lt kk3 c3_9
                  have d3_5 : getCells hh3 hh2.length 0 = some [] := (keep_get kk3 c3_11 (by first | (simp; done) | (simp; omega))).trans c3_10
                  have d3_5l := keep_lt kk3 c3_11
                  have d3_6 : getCells hh3 (hh2.length + 1) 1 = some [.hsl nb2_0 v7.a.counts.length 0 1 false v7.a.counts.length] := (keep_get kk3 c3_13 (by first | (simp; done) | (simp; omega))).trans c3_12
                  have d3_6l := keep_lt kk3 c3_13
                  have d3_7 := wnb3_0
                  have d3_7l := nest_lt d3_7
                  have d3_7s : snap 9 false hh3 nb3_0 = some (.sl 12 (v4.map enc)) := snap_nest (n := 5) d3_7
                  have d3_7n : lenS nb3_0 = some v4.length := nest_lenS d3_7
                  obtain ⟨v11, hv11, hp⟩ := bind_eq hp
                  by_cases hb12 : (v11) = true
                  · rw [if_t hb12] at hp
                    simp (maxSteps := 2000000) (disch := first | omega | (simp only [ls]; first | done | omega)) only [ep_laws_szOpS, ep_laws_toOpS, ep_spec_BranchBase, ep_laws_eqVector, ep_laws_eqOpS, ep_laws_heldVector, hv0, hb1, hv2, hb3, hv4, hv5, hv6, d0_0, d0_1, d0_2, d0_2s, d0_2n, d1_0, d1_1, d1_2, d1_2s, d1_2n, d1_3, d1_3s, d1_3n, hv7, d2_0, d2_1, d2_2, d2_2s, d2_2n, d2_3, d2_3s, d2_3n, d2_4, hv8, hb9, hb10, d3_0, d3_1, d3_2, d3_2s, d3_2n, d3_3, d3_3s, d3_3n, d3_4, d3_5, d3_6, d3_7, d3_7s, d3_7n, hv11, hb12, gx, Int.reduceToNat]
                    refine call_f (fun h => getCells h 0 0 = some [] ∧ 0 < h.length ∧ getCells h 1 1 = some [.i (.sl 1 (v6.a.counts.map enc))] ∧ 1 < h.length ∧ NestV h hc0.length hh0.length nb0_0 (v4 : List TOp) ∧ hh0.length ≤ h.length ∧ NestV h hc1.length hh1.length nb1_0 (v5 : List TOp) ∧ hh1.length ≤ h.length ∧ getCells h nb2_0 v7.a.counts.length = some (rows (v7.a.counts : List Int)) ∧ nb2_0 < h.length ∧ getCells h hh2.length 0 = some [] ∧ hh2.length < h.length ∧ getCells h (hh2.length + 1) 1 = some [.hsl nb2_0 v7.a.counts.length 0 1 false v7.a.counts.length] ∧ hh2.length + 1 < h.length ∧ NestV h hc3.length hh3.length nb3_0 (v4 : List TOp) ∧ hh3.length ≤ h.length) (fun h v h2 => oo_laws_toOpS v5 h v h2) ?_ ?_ ?_
                    · simp (maxSteps := 2000000) (disch := first | omega | (simp only [ls]; first | done | omega)) only [ep_laws_szOpS, ep_laws_toOpS, ep_spec_BranchBase, ep_laws_eqVector, ep_laws_eqOpS, ep_laws_heldVector, hv0, hb1, hv2, hb3, hv4, hv5, hv6, d0_0, d0_1, d0_2, d0_2s, d0_2n, d1_0, d1_1, d1_2, d1_2s, d1_2n, d1_3, d1_3s, d1_3n, hv7, d2_0, d2_1, d2_2, d2_2s, d2_2n, d2_3, d2_3s, d2_3n, d2_4, hv8, hb9, hb10, d3_0, d3_1, d3_2, d3_2s, d3_2n, d3_3, d3_3s, d3_3n, d3_4, d3_5, d3_6, d3_7, d3_7s, d3_7n, hv11, hb12, gx, Int.reduceToNat] <;> (repeat (first | omega | assumption | exact nest_ext (by assumption) | exact nest_wide (by assumption) (Nat.zero_le _) (by first | omega | (simp; omega)) (Nat.le_refl _) | exact nest_wide (nest_ext (by assumption)) (Nat.zero_le _) (by first | omega | (simp; omega)) (Nat.le_refl _) | exact nest_virt (by simp (maxSteps := 2000000) (disch := first | omega | (simp only [ls]; first | done | omega)) only [ep_laws_szOpS, ep_laws_toOpS, ep_spec_BranchBase, ep_laws_eqVector, ep_laws_eqOpS, ep_laws_heldVector, hv0, hb1, hv2, hb3, hv4, hv5, hv6, d0_0, d0_1, d0_2, d0_2s, d0_2n, d1_0, d1_1, d1_2, d1_2s, d1_2n, d1_3, d1_3s, d1_3n, hv7, d2_0, d2_1, d2_2, d2_2s, d2_2n, d2_3, d2_3s, d2_3n, d2_4, hv8, hb9, hb10, d3_0, d3_1, d3_2, d3_2s, d3_2n, d3_3, d3_3s, d3_3n, d3_4, d3_5, d3_6, d3_7, d3_7s, d3_7n, hv11, hb12, gx, Int.reduceToNat]) (by omega) (by first | omega | (simp; done) | (simp; omega)) (by first | omega | (simp; done) | (simp; omega)) | refine nest_ext ?_ | refine nest_set ?_ (by omega) | refine And.intro ?_ ?_))
                    · rintro h ⟨c4_0, c4_1, c4_2, c4_3, c4_4, c4_5, c4_6, c4_7, c4_8, c4_9, c4_10, c4_11, c4_12, c4_13, c4_14, c4_15⟩
                      have sc4_2 : snap 9 false h nb0_0 = some (.sl 12 (v4.map enc)) := snap_nest (n := 5) c4_4
                      have sc4_3 : snap 9 false h nb1_0 = some (.sl 12 (v5.map enc)) := snap_nest (n := 5) c4_6
                      have sc4_7 : snap 9 false h nb3_0 = some (.sl 12 (v4.map enc)) := snap_nest (n := 5) c4_14
                      exact e_laws_toOpS _ _ hv5 h _ (by simp (maxSteps := 2000000) (disch := first | omega | (simp only [ls]; first | done | omega)) only [ep_laws_szOpS, ep_laws_toOpS, ep_spec_BranchBase, ep_laws_eqVector, ep_laws_eqOpS, ep_laws_heldVector, hv0, hb1, hv2, hb3, hv4, hv5, hv6, d0_0, d0_1, d0_2, d0_2s, d0_2n, d1_0, d1_1, d1_2, d1_2s, d1_2n, d1_3, d1_3s, d1_3n, hv7, d2_0, d2_1, d2_2, d2_2s, d2_2n, d2_3, d2_3s, d2_3n, d2_4, hv8, hb9, hb10, d3_0, d3_1, d3_2, d3_2s, d3_2n, d3_3, d3_3s, d3_3n, d3_4, d3_5, d3_6, d3_7, d3_7s, d3_7n, hv11, hb12, c4_0, c4_1, c4_2, c4_3, c4_4, c4_5, c4_6, c4_7, c4_8, c4_9, c4_10, c4_11, c4_12, c4_13, c4_14, c4_15, sc4_2, sc4_3, sc4_7, gx, Int.reduceToNat])
                    · rintro hc4 nb4_0 hh4 ⟨c4_0, c4_1, c4_2, c4_3, c4_4, c4_5, c4_6, c4_7, c4_8, c4_9, c4_10, c4_11, c4_12, c4_13, c4_14, c4_15⟩ hpost
                      obtain ⟨kk4, _, rfl, wnb4_0⟩ := hpost
                      have d4_0 : getCells hh4 0 0 = some [] := (keep_get kk4 c4_1 (by first | (simp; done) | (simp; omega))).trans c4_0
                      have d4_0l := keep_lt kk4 c4_1
                      have d4_1 : getCells hh4 1 1 = some [.i (.sl 1 (v6.a.counts.map enc))] := (keep_get kk4 c4_3 (by first | (simp; done) | (simp; omega))).trans c4_2
                      have d4_1l := keep_lt kk4 c4_3
                      have d4_2 : NestV hh4 hc0.length hh0.length nb0_0 (v4 : List TOp) := nest_keep c4_4 kk4 (by intro b hb; first | (simp at hb; done) | (simp at hb; omega))
                      have d4_2l := nest_lt d4_2
                      have d4_2s : snap 9 false hh4 nb0_0 = some (.sl 12 (v4.map enc)) := snap_nest (n := 5) d4_2
                      have d4_2n : lenS nb0_0 = some v4.length := nest_lenS d4_2
                      have d4_3 : NestV hh4 hc1.length hh1.length nb1_0 (v5 : List TOp) := nest_keep c4_6 kk4 (by intro b hb; first | (simp at hb; done) | (simp at hb; omega))
                      have d4_3l := nest_lt d4_3
                      have d4_3s : snap 9 false hh4 nb1_0 = some (.sl 12 (v5.map enc)) := snap_nest (n := 5) d4_3
                      have d4_3n : lenS nb1_0 = some v5.length := nest_lenS d4_3
                      have d4_4 : getCells hh4 nb2_0 v7.a.counts.length = some (rows (v7.a.counts : List Int)) := (keep_get kk4 c4_9 (by first | (simp; done) | (simp; omega))).trans c4_8
                      have d4_4l := keep_lt kk4 c4_9
                      have d4_5 : getCells hh4 hh2.length 0 = some [] := (keep_get kk4 c4_11 (by first | (simp; done) | (simp; omega))).trans c4_10
                      have d4_5l := keep_lt kk4 c4_11
                      have d4_6 : getCells hh4 (hh2.length + 1) 1 = some [.hsl nb2_0 v7.a.counts.length 0 1 false v7.a.counts.length] := (keep_get kk4 c4_13 (by first | (simp; done) | (simp; omega))).trans c4_12
                      have d4_6l := keep_lt kk4 c4_13
                      have d4_7 : NestV hh4 hc3.length hh3.length nb3_0 (v4 : List TOp) := nest_keep c4_14 kk4 (by intro b hb; first | (simp at hb; done) | (simp at hb; omega))
                      have d4_7l := nest_lt d4_7
                      have d4_7s : snap 9 false hh4 nb3_0 = some (.sl 12 (v4.map enc)) := snap_nest (n := 5) d4_7
                      have d4_7n : lenS nb3_0 = some v4.length := nest_lenS d4_7
                      have d4_8 := wnb4_0
                      have d4_8l := nest_lt d4_8
                      have d4_8s : snap 9 false hh4 nb4_0 = some (.sl 12 (v5.map enc)) := snap_nest (n := 5) d4_8
                      have d4_8n : lenS nb4_0 = some v5.length := nest_lenS d4_8
                      obtain ⟨v13, hv13, hp⟩ := bind_eq hp
                      by_cases hb14 : (v13) = true
                      · rw [if_t hb14] at hp
                        obtain ⟨v15, hv15, hp⟩ := bind_eq hp
                        simp (maxSteps := 2000000) (disch := first | omega | (simp only [ls]; first | done | omega)) only [ep_laws_szOpS, ep_laws_toOpS, ep_spec_BranchBase, ep_laws_eqVector, ep_laws_eqOpS, ep_laws_heldVector, hv0, hb1, hv2, hb3, hv4, hv5, hv6, d0_0, d0_1, d0_2, d0_2s, d0_2n, d1_0, d1_1, d1_2, d1_2s, d1_2n, d1_3, d1_3s, d1_3n, hv7, d2_0, d2_1, d2_2, d2_2s, d2_2n, d2_3, d2_3s, d2_3n, d2_4, hv8, hb9, hb10, d3_0, d3_1, d3_2, d3_2s, d3_2n, d3_3, d3_3s, d3_3n, d3_4, d3_5, d3_6, d3_7, d3_7s, d3_7n, hv11, hb12, d4_0, d4_1, d4_2, d4_2s, d4_2n, d4_3, d4_3s, d4_3n, d4_4, d4_5, d4_6, d4_7, d4_7s, d4_7n, d4_8, d4_8s, d4_8n, hv13, hb14, gx, Int.reduceToNat]
                        refine call_f (fun h => getCells h 0 0 = some [] ∧ 0 < h.length ∧ getCells h 1 1 = some [.i (.sl 1 (v6.a.counts.map enc))] ∧ 1 < h.length ∧ NestV h hc0.length hh0.length nb0_0 (v4 : List TOp) ∧ hh0.length ≤ h.length ∧ NestV h hc1.length hh1.length nb1_0 (v5 : List TOp) ∧ hh1.length ≤ h.length ∧ getCells h nb2_0 v7.a.counts.length = some (rows (v7.a.counts : List Int)) ∧ nb2_0 < h.length ∧ getCells h hh2.length 0 = some [] ∧ hh2.length < h.length ∧ getCells h (hh2.length + 1) 1 = some [.hsl nb2_0 v7.a.counts.length 0 1 false v7.a.counts.length] ∧ hh2.length + 1 < h.length ∧ NestV h hc3.length hh3.length nb3_0 (v4 : List TOp) ∧ hh3.length ≤ h.length ∧ NestV h hc4.length hh4.length nb4_0 (v5 : List TOp) ∧ hh4.length ≤ h.length) (fun h v h2 => i_laws_markOpS hc0.length hh0.length nb0_0 h v15 v h2) ?_ ?_ ?_
                        · simp (maxSteps := 2000000) (disch := first | omega | (simp only [ls]; first | done | omega)) only [ep_laws_szOpS, ep_laws_toOpS, ep_spec_BranchBase, ep_laws_eqVector, ep_laws_eqOpS, ep_laws_heldVector, hv0, hb1, hv2, hb3, hv4, hv5, hv6, d0_0, d0_1, d0_2, d0_2s, d0_2n, d1_0, d1_1, d1_2, d1_2s, d1_2n, d1_3, d1_3s, d1_3n, hv7, d2_0, d2_1, d2_2, d2_2s, d2_2n, d2_3, d2_3s, d2_3n, d2_4, hv8, hb9, hb10, d3_0, d3_1, d3_2, d3_2s, d3_2n, d3_3, d3_3s, d3_3n, d3_4, d3_5, d3_6, d3_7, d3_7s, d3_7n, hv11, hb12, d4_0, d4_1, d4_2, d4_2s, d4_2n, d4_3, d4_3s, d4_3n, d4_4, d4_5, d4_6, d4_7, d4_7s, d4_7n, d4_8, d4_8s, d4_8n, hv13, hb14, hv15, gx, Int.reduceToNat] <;> (repeat (first | omega | assumption | exact nest_ext (by assumption) | exact nest_wide (by assumption) (Nat.zero_le _) (by first | omega | (simp; omega)) (Nat.le_refl _) | exact nest_wide (nest_ext (by assumption)) (Nat.zero_le _) (by first | omega | (simp; omega)) (Nat.le_refl _) | exact nest_virt (by simp (maxSteps := 2000000) (disch := first | omega | (simp only [ls]; first | done | omega)) only [ep_laws_szOpS, ep_laws_toOpS, ep_spec_BranchBase, ep_laws_eqVector, ep_laws_eqOpS, ep_laws_heldVector, hv0, hb1, hv2, hb3, hv4, hv5, hv6, d0_0, d0_1, d0_2, d0_2s, d0_2n, d1_0, d1_1, d1_2, d1_2s, d1_2n, d1_3, d1_3s, d1_3n, hv7, d2_0, d2_1, d2_2, d2_2s, d2_2n, d2_3, d2_3s, d2_3n, d2_4, hv8, hb9, hb10, d3_0, d3_1, d3_2, d3_2s, d3_2n, d3_3, d3_3s, d3_3n, d3_4, d3_5, d3_6, d3_7, d3_7s, d3_7n, hv11, hb12, d4_0, d4_1, d4_2, d4_2s, d4_2n, d4_3, d4_3s, d4_3n, d4_4, d4_5, d4_6, d4_7, d4_7s, d4_7n, d4_8, d4_8s, d4_8n, hv13, hb14, hv15, gx, Int.reduceToNat]) (by omega) (by first | omega | (simp; done) | (simp; omega)) (by first | omega | (simp; done) | (simp; omega)) | refine nest_ext ?_ | refine nest_set ?_ (by omega) | refine And.intro ?_ ?_))
                        · rintro h ⟨c5_0, c5_1, c5_2, c5_3, c5_4, c5_5, c5_6, c5_7, c5_8, c5_9, c5_10, c5_11, c5_12, c5_13, c5_14, c5_15, c5_16, c5_17⟩
                          have sc5_2 : snap 9 false h nb0_0 = some (.sl 12 (v4.map enc)) := snap_nest (n := 5) c5_4
                          have sc5_3 : snap 9 false h nb1_0 = some (.sl 12 (v5.map enc)) := snap_nest (n := 5) c5_6
                          have sc5_7 : snap 9 false h nb3_0 = some (.sl 12 (v4.map enc)) := snap_nest (n := 5) c5_14
                          have sc5_8 : snap 9 false h nb4_0 = some (.sl 12 (v5.map enc)) := snap_nest (n := 5) c5_16
                          exact e_laws_markOpS _ _ _ hv15 _ _ _ h c5_4
                        · rintro hc5 v hh5 ⟨c5_0, c5_1, c5_2, c5_3, c5_4, c5_5, c5_6, c5_7, c5_8, c5_9, c5_10, c5_11, c5_12, c5_13, c5_14, c5_15, c5_16, c5_17⟩ hpost
                          obtain ⟨kk5, rfl, w5_0⟩ := hpost
                          have d5_0 : getCells hh5 0 0 = some [] := (keepI_get kk5 c5_1 (by omega)).trans c5_0
                          have d5_0l := keepI_lt kk5 c5_1
                          have d5_1 : getCells hh5 1 1 = some [.i (.sl 1 (v6.a.counts.map enc))] := (keepI_get kk5 c5_3 (by omega)).trans c5_2
                          have d5_1l := keepI_lt kk5 c5_3
                          have d5_2 : NestV hh5 hc0.length hh0.length nb0_0 (v15.b : List TOp) := w5_0
                          have d5_2l := nest_lt d5_2
                          have d5_2s : snap 9 false hh5 nb0_0 = some (.sl 12 (v15.b.map enc)) := snap_nest (n := 5) d5_2
                          have d5_2n : lenS nb0_0 = some v15.b.length := nest_lenS d5_2
                          have d5_3 : NestV hh5 hc1.length hh1.length nb1_0 (v5 : List TOp) := nest_keepI c5_6 kk5 (by omega)
                          have d5_3l := nest_lt d5_3
                          have d5_3s : snap 9 false hh5 nb1_0 = some (.sl 12 (v5.map enc)) := snap_nest (n := 5) d5_3
                          have d5_3n : lenS nb1_0 = some v5.length := nest_lenS d5_3
                          have d5_4 : getCells hh5 nb2_0 v7.a.counts.length = some (rows (v7.a.counts : List Int)) := (keepI_get kk5 c5_9 (by omega)).trans c5_8
                          have d5_4l := keepI_lt kk5 c5_9
                          have d5_5 : getCells hh5 hh2.length 0 = some [] := (keepI_get kk5 c5_11 (by omega)).trans c5_10
                          have d5_5l := keepI_lt kk5 c5_11
                          have d5_6 : getCells hh5 (hh2.length + 1) 1 = some [.hsl nb2_0 v7.a.counts.length 0 1 false v7.a.counts.length] := (keepI_get kk5 c5_13 (by omega)).trans c5_12
                          have d5_6l := keepI_lt kk5 c5_13
                          have d5_7 : NestV hh5 hc3.length hh3.length nb3_0 (v4 : List TOp) := nest_keepI c5_14 kk5 (by omega)
                          have d5_7l := nest_lt d5_7
                          have d5_7s : snap 9 false hh5 nb3_0 = some (.sl 12 (v4.map enc)) := snap_nest (n := 5) d5_7
                          have d5_7n : lenS nb3_0 = some v4.length := nest_lenS d5_7
                          have d5_8 : NestV hh5 hc4.length hh4.length nb4_0 (v5 : List TOp) := nest_keepI c5_16 kk5 (by omega)
                          have d5_8l := nest_lt d5_8
                          have d5_8s : snap 9 false hh5 nb4_0 = some (.sl 12 (v5.map enc)) := snap_nest (n := 5) d5_8
                          have d5_8n : lenS nb4_0 = some v5.length := nest_lenS d5_8
                          obtain ⟨v16, hv16, hp⟩ := bind_eq hp
                          simp (maxSteps := 2000000) (disch := first | omega | (simp only [ls]; first | done | omega)) only [ep_laws_szOpS, ep_laws_toOpS, ep_spec_BranchBase, ep_laws_eqVector, ep_laws_eqOpS, ep_laws_heldVector, hv0, hb1, hv2, hb3, hv4, hv5, hv6, d0_0, d0_1, d0_2, d0_2s, d0_2n, d1_0, d1_1, d1_2, d1_2s, d1_2n, d1_3, d1_3s, d1_3n, hv7, d2_0, d2_1, d2_2, d2_2s, d2_2n, d2_3, d2_3s, d2_3n, d2_4, hv8, hb9, hb10, d3_0, d3_1, d3_2, d3_2s, d3_2n, d3_3, d3_3s, d3_3n, d3_4, d3_5, d3_6, d3_7, d3_7s, d3_7n, hv11, hb12, d4_0, d4_1, d4_2, d4_2s, d4_2n, d4_3, d4_3s, d4_3n, d4_4, d4_5, d4_6, d4_7, d4_7s, d4_7n, d4_8, d4_8s, d4_8n, hv13, hb14, hv15, d5_0, d5_1, d5_2, d5_2s, d5_2n, d5_3, d5_3s, d5_3n, d5_4, d5_5, d5_6, d5_7, d5_7s, d5_7n, d5_8, d5_8s, d5_8n, gx, Int.reduceToNat]
                          refine call_f (fun h => getCells h 0 0 = some [] ∧ 0 < h.length ∧ getCells h 1 1 = some [.i (.sl 1 (v6.a.counts.map enc))] ∧ 1 < h.length ∧ NestV h hc0.length hh0.length nb0_0 (v15.b : List TOp) ∧ hh0.length ≤ h.length ∧ NestV h hc1.length hh1.length nb1_0 (v5 : List TOp) ∧ hh1.length ≤ h.length ∧ getCells h nb2_0 v7.a.counts.length = some (rows (v7.a.counts : List Int)) ∧ nb2_0 < h.length ∧ getCells h hh2.length 0 = some [] ∧ hh2.length < h.length ∧ getCells h (hh2.length + 1) 1 = some [.hsl nb2_0 v7.a.counts.length 0 1 false v7.a.counts.length] ∧ hh2.length + 1 < h.length ∧ NestV h hc3.length hh3.length nb3_0 (v4 : List TOp) ∧ hh3.length ≤ h.length ∧ NestV h hc4.length hh4.length nb4_0 (v5 : List TOp) ∧ hh4.length ≤ h.length) (fun h v h2 => i_laws_markOpS hc1.length hh1.length nb1_0 h v16 v h2) ?_ ?_ ?_
                          · simp (maxSteps := 2000000) (disch := first | omega | (simp only [ls]; first | done | omega)) only [ep_laws_szOpS, ep_laws_toOpS, ep_spec_BranchBase, ep_laws_eqVector, ep_laws_eqOpS, ep_laws_heldVector, hv0, hb1, hv2, hb3, hv4, hv5, hv6, d0_0, d0_1, d0_2, d0_2s, d0_2n, d1_0, d1_1, d1_2, d1_2s, d1_2n, d1_3, d1_3s, d1_3n, hv7, d2_0, d2_1, d2_2, d2_2s, d2_2n, d2_3, d2_3s, d2_3n, d2_4, hv8, hb9, hb10, d3_0, d3_1, d3_2, d3_2s, d3_2n, d3_3, d3_3s, d3_3n, d3_4, d3_5, d3_6, d3_7, d3_7s, d3_7n, hv11, hb12, d4_0, d4_1, d4_2, d4_2s, d4_2n, d4_3, d4_3s, d4_3n, d4_4, d4_5, d4_6, d4_7, d4_7s, d4_7n, d4_8, d4_8s, d4_8n, hv13, hb14, hv15, d5_0, d5_1, d5_2, d5_2s, d5_2n, d5_3, d5_3s, d5_3n, d5_4, d5_5, d5_6, d5_7, d5_7s, d5_7n, d5_8, d5_8s, d5_8n, hv16, gx, Int.reduceToNat] <;> (repeat (first | omega | assumption | exact nest_ext (by assumption) | exact nest_wide (by assumption) (Nat.zero_le _) (by first | omega | (simp; omega)) (Nat.le_refl _) | exact nest_wide (nest_ext (by assumption)) (Nat.zero_le _) (by first | omega | (simp; omega)) (Nat.le_refl _) | exact nest_virt (by simp (maxSteps := 2000000) (disch := first | omega | (simp only [ls]; first | done | omega)) only [ep_laws_szOpS, ep_laws_toOpS, ep_spec_BranchBase, ep_laws_eqVector, ep_laws_eqOpS, ep_laws_heldVector, hv0, hb1, hv2, hb3, hv4, hv5, hv6, d0_0, d0_1, d0_2, d0_2s, d0_2n, d1_0, d1_1, d1_2, d1_2s, d1_2n, d1_3, d1_3s, d1_3n, hv7, d2_0, d2_1, d2_2, d2_2s, d2_2n, d2_3, d2_3s, d2_3n, d2_4, hv8, hb9, hb10, d3_0, d3_1, d3_2, d3_2s, d3_2n, d3_3, d3_3s, d3_3n, d3_4, d3_5, d3_6, d3_7, d3_7s, d3_7n, hv11, hb12, d4_0, d4_1, d4_2, d4_2s, d4_2n, d4_3, d4_3s, d4_3n, d4_4, d4_5, d4_6, d4_7, d4_7s, d4_7n, d4_8, d4_8s, d4_8n, hv13, hb14, hv15, d5_0, d5_1, d5_2, d5_2s, d5_2n, d5_3, d5_3s, d5_3n, d5_4, d5_5, d5_6, d5_7, d5_7s, d5_7n, d5_8, d5_8s, d5_8n, hv16, gx, Int.reduceToNat]) (by omega) (by first | omega | (simp; done) | (simp; omega)) (by first | omega | (simp; done) | (simp; omega)) | refine nest_ext ?_ | refine nest_set ?_ (by omega) | refine And.intro ?_ ?_))
                          · rintro h ⟨c6_0, c6_1, c6_2, c6_3, c6_4, c6_5, c6_6, c6_7, c6_8, c6_9, c6_10, c6_11, c6_12, c6_13, c6_14, c6_15, c6_16, c6_17⟩
                            have sc6_2 : snap 9 false h nb0_0 = some (.sl 12 (v15.b.map enc)) := snap_nest (n := 5) c6_4
                            have sc6_3 : snap 9 false h nb1_0 = some (.sl 12 (v5.map enc)) := snap_nest (n := 5) c6_6
                            have sc6_7 : snap 9 false h nb3_0 = some (.sl 12 (v4.map enc)) := snap_nest (n := 5) c6_14
                            have sc6_8 : snap 9 false h nb4_0 = some (.sl 12 (v5.map enc)) := snap_nest (n := 5) c6_16
                            exact e_laws_markOpS _ _ _ hv16 _ _ _ h c6_6
                          · rintro hc6 v hh6 ⟨c6_0, c6_1, c6_2, c6_3, c6_4, c6_5, c6_6, c6_7, c6_8, c6_9, c6_10, c6_11, c6_12, c6_13, c6_14, c6_15, c6_16, c6_17⟩ hpost
                            obtain ⟨kk6, rfl, w6_0⟩ := hpost
                            have d6_0 : getCells hh6 0 0 = some [] := (keepI_get kk6 c6_1 (by omega)).trans c6_0
                            have d6_0l := keepI_lt kk6 c6_1
                            have d6_1 : getCells hh6 1 1 = some [.i (.sl 1 (v6.a.counts.map enc))] := (keepI_get kk6 c6_3 (by omega)).trans c6_2
                            have d6_1l := keepI_lt kk6 c6_3
                            have d6_2 : NestV hh6 hc0.length hh0.length nb0_0 (v15.b : List TOp) := nest_keepI c6_4 kk6 (by omega)
                            have d6_2l := nest_lt d6_2
                            have d6_2s : snap 9 false hh6 nb0_0 = some (.sl 12 (v15.b.map enc)) := snap_nest (n := 5) d6_2
                            have d6_2n : lenS nb0_0 = some v15.b.length := nest_lenS d6_2
                            have d6_3 : NestV hh6 hc1.length hh1.length nb1_0 (v16.b : List TOp) := w6_0
                            have d6_3l := nest_lt d6_3
                            have d6_3s : snap 9 false hh6 nb1_0 = some (.sl 12 (v16.b.map enc)) := snap_nest (n := 5) d6_3
                            have d6_3n : lenS nb1_0 = some v16.b.length := nest_lenS d6_3
                            have d6_4 : getCells hh6 nb2_0 v7.a.counts.length = some (rows (v7.a.counts : List Int)) := (keepI_get kk6 c6_9 (by omega)).trans c6_8
                            have d6_4l := keepI_lt kk6 c6_9
                            have d6_5 : getCells hh6 hh2.length 0 = some [] := (keepI_get kk6 c6_11 (by omega)).trans c6_10
                            have d6_5l := keepI_lt kk6 c6_11
                            have d6_6 : getCells hh6 (hh2.length + 1) 1 = some [.hsl nb2_0 v7.a.counts.length 0 1 false v7.a.counts.length] := (keepI_get kk6 c6_13 (by omega)).trans c6_12
                            have d6_6l := keepI_lt kk6 c6_13
                            have d6_7 : NestV hh6 hc3.length hh3.length nb3_0 (v4 : List TOp) := nest_keepI c6_14 kk6 (by omega)
                            have d6_7l := nest_lt d6_7
                            have d6_7s : snap 9 false hh6 nb3_0 = some (.sl 12 (v4.map enc)) := snap_nest (n := 5) d6_7
                            have d6_7n : lenS nb3_0 = some v4.length := nest_lenS d6_7
                            have d6_8 : NestV hh6 hc4.length hh4.length nb4_0 (v5 : List TOp) := nest_keepI c6_16 kk6 (by omega)
                            have d6_8l := nest_lt d6_8
                            have d6_8s : snap 9 false hh6 nb4_0 = some (.sl 12 (v5.map enc)) := snap_nest (n := 5) d6_8
                            have d6_8n : lenS nb4_0 = some v5.length := nest_lenS d6_8
                            by_cases hb17 : (decide (v16.a < 0)) = true
                            · rw [if_t hb17] at hp
                              cases hp
                            · replace hb17 := eq_false_of_ne_true hb17
                              rw [if_f hb17] at hp
                              obtain ⟨v18, hv18, hp⟩ := bind_eq hp
                              simp (maxSteps := 2000000) (disch := first | omega | (simp only [ls]; first | done | omega)) only [ep_laws_szOpS, ep_laws_toOpS, ep_spec_BranchBase, ep_laws_eqVector, ep_laws_eqOpS, ep_laws_heldVector, hv0, hb1, hv2, hb3, hv4, hv5, hv6, d0_0, d0_1, d0_2, d0_2s, d0_2n, d1_0, d1_1, d1_2, d1_2s, d1_2n, d1_3, d1_3s, d1_3n, hv7, d2_0, d2_1, d2_2, d2_2s, d2_2n, d2_3, d2_3s, d2_3n, d2_4, hv8, hb9, hb10, d3_0, d3_1, d3_2, d3_2s, d3_2n, d3_3, d3_3s, d3_3n, d3_4, d3_5, d3_6, d3_7, d3_7s, d3_7n, hv11, hb12, d4_0, d4_1, d4_2, d4_2s, d4_2n, d4_3, d4_3s, d4_3n, d4_4, d4_5, d4_6, d4_7, d4_7s, d4_7n, d4_8, d4_8s, d4_8n, hv13, hb14, hv15, d5_0, d5_1, d5_2, d5_2s, d5_2n, d5_3, d5_3s, d5_3n, d5_4, d5_5, d5_6, d5_7, d5_7s, d5_7n, d5_8, d5_8s, d5_8n, hv16, d6_0, d6_1, d6_2, d6_2s, d6_2n, d6_3, d6_3s, d6_3n, d6_4, d6_5, d6_6, d6_7, d6_7s, d6_7n, d6_8, d6_8s, d6_8n, hb17, gx, Int.reduceToNat]
                              refine call_f (fun h => getCells h 0 0 = some [] ∧ 0 < h.length ∧ getCells h 1 1 = some [.i (.sl 1 (v6.a.counts.map enc))] ∧ 1 < h.length ∧ NestV h hc0.length hh0.length nb0_0 (v15.b : List TOp) ∧ hh0.length ≤ h.length ∧ NestV h hc1.length hh1.length nb1_0 (v16.b : List TOp) ∧ hh1.length ≤ h.length ∧ getCells h nb2_0 v7.a.counts.length = some (rows (v7.a.counts : List Int)) ∧ nb2_0 < h.length ∧ getCells h hh2.length 0 = some [] ∧ hh2.length < h.length ∧ getCells h (hh2.length + 1) 1 = some [.hsl nb2_0 v7.a.counts.length 0 1 false v7.a.counts.length] ∧ hh2.length + 1 < h.length ∧ NestV h hc3.length hh3.length nb3_0 (v4 : List TOp) ∧ hh3.length ≤ h.length ∧ NestV h hc4.length hh4.length nb4_0 (v5 : List TOp) ∧ hh4.length ≤ h.length) (fun h v h2 => i_laws_markVector nb2_0 v7.a.counts.length h v18 v h2) ?_ ?_ ?_
                              · simp (maxSteps := 2000000) (disch := first | omega | (simp only [ls]; first | done | omega)) only [ep_laws_szOpS, ep_laws_toOpS, ep_spec_BranchBase, ep_laws_eqVector, ep_laws_eqOpS, ep_laws_heldVector, hv0, hb1, hv2, hb3, hv4, hv5, hv6, d0_0, d0_1, d0_2, d0_2s, d0_2n, d1_0, d1_1, d1_2, d1_2s, d1_2n, d1_3, d1_3s, d1_3n, hv7, d2_0, d2_1, d2_2, d2_2s, d2_2n, d2_3, d2_3s, d2_3n, d2_4, hv8, hb9, hb10, d3_0, d3_1, d3_2, d3_2s, d3_2n, d3_3, d3_3s, d3_3n, d3_4, d3_5, d3_6, d3_7, d3_7s, d3_7n, hv11, hb12, d4_0, d4_1, d4_2, d4_2s, d4_2n, d4_3, d4_3s, d4_3n, d4_4, d4_5, d4_6, d4_7, d4_7s, d4_7n, d4_8, d4_8s, d4_8n, hv13, hb14, hv15, d5_0, d5_1, d5_2, d5_2s, d5_2n, d5_3, d5_3s, d5_3n, d5_4, d5_5, d5_6, d5_7, d5_7s, d5_7n, d5_8, d5_8s, d5_8n, hv16, d6_0, d6_1, d6_2, d6_2s, d6_2n, d6_3, d6_3s, d6_3n, d6_4, d6_5, d6_6, d6_7, d6_7s, d6_7n, d6_8, d6_8s, d6_8n, hb17, hv18, gx, Int.reduceToNat] <;> (repeat (first | omega | assumption | exact nest_ext (by assumption) | exact nest_wide (by assumption) (Nat.zero_le _) (by first | omega | (simp; omega)) (Nat.le_refl _) | exact nest_wide (nest_ext (by assumption)) (Nat.zero_le _) (by first | omega | (simp; omega)) (Nat.le_refl _) | exact nest_virt (by simp (maxSteps := 2000000) (disch := first | omega | (simp only [ls]; first | done | omega)) only [ep_laws_szOpS, ep_laws_toOpS, ep_spec_BranchBase, ep_laws_eqVector, ep_laws_eqOpS, ep_laws_heldVector, hv0, hb1, hv2, hb3, hv4, hv5, hv6, d0_0, d0_1, d0_2, d0_2s, d0_2n, d1_0, d1_1, d1_2, d1_2s, d1_2n, d1_3, d1_3s, d1_3n, hv7, d2_0, d2_1, d2_2, d2_2s, d2_2n, d2_3, d2_3s, d2_3n, d2_4, hv8, hb9, hb10, d3_0, d3_1, d3_2, d3_2s, d3_2n, d3_3, d3_3s, d3_3n, d3_4, d3_5, d3_6, d3_7, d3_7s, d3_7n, hv11, hb12, d4_0, d4_1, d4_2, d4_2s, d4_2n, d4_3, d4_3s, d4_3n, d4_4, d4_5, d4_6, d4_7, d4_7s, d4_7n, d4_8, d4_8s, d4_8n, hv13, hb14, hv15, d5_0, d5_1, d5_2, d5_2s, d5_2n, d5_3, d5_3s, d5_3n, d5_4, d5_5, d5_6, d5_7, d5_7s, d5_7n, d5_8, d5_8s, d5_8n, hv16, d6_0, d6_1, d6_2, d6_2s, d6_2n, d6_3, d6_3s, d6_3n, d6_4, d6_5, d6_6, d6_7, d6_7s, d6_7n, d6_8, d6_8s, d6_8n, hb17, hv18, gx, Int.reduceToNat]) (by omega) (by first | omega | (simp; done) | (simp; omega)) (by first | omega | (simp; done) | (simp; omega)) | refine nest_ext ?_ | refine nest_set ?_ (by omega) | refine And.intro ?_ ?_))
                              · rintro h ⟨c7_0, c7_1, c7_2, c7_3, c7_4, c7_5, c7_6, c7_7, c7_8, c7_9, c7_10, c7_11, c7_12, c7_13, c7_14, c7_15, c7_16, c7_17⟩
                                have sc7_2 : snap 9 false h nb0_0 = some (.sl 12 (v15.b.map enc)) := snap_nest (n := 5) c7_4
                                have sc7_3 : snap 9 false h nb1_0 = some (.sl 12 (v16.b.map enc)) := snap_nest (n := 5) c7_6
                                have sc7_7 : snap 9 false h nb3_0 = some (.sl 12 (v4.map enc)) := snap_nest (n := 5) c7_14
                                have sc7_8 : snap 9 false h nb4_0 = some (.sl 12 (v5.map enc)) := snap_nest (n := 5) c7_16
                                exact e_laws_markVector _ _ _ hv18 nb2_0 v7.a.counts.length h (by first | omega | rfl) c7_8
                              · rintro hc7 v hh7 ⟨c7_0, c7_1, c7_2, c7_3, c7_4, c7_5, c7_6, c7_7, c7_8, c7_9, c7_10, c7_11, c7_12, c7_13, c7_14, c7_15, c7_16, c7_17⟩ hpost
                                obtain ⟨kk7, rfl, w7_0⟩ := hpost
                                have d7_0 : getCells hh7 0 0 = some [] := (keep_get kk7 c7_1 (by first | (simp; done) | (simp; omega))).trans c7_0
                                have d7_0l := keep_lt kk7 c7_1
                                have d7_1 : getCells hh7 1 1 = some [.i (.sl 1 (v6.a.counts.map enc))] := (keep_get kk7 c7_3 (by first | (simp; done) | (simp; omega))).trans c7_2
                                have d7_1l := keep_lt kk7 c7_3
                                have d7_2 : NestV hh7 hc0.length hh0.length nb0_0 (v15.b : List TOp) := nest_keep c7_4 kk7 (by intro b hb; first | (simp at hb; done) | (simp at hb; omega))
                                have d7_2l := nest_lt d7_2
                                have d7_2s : snap 9 false hh7 nb0_0 = some (.sl 12 (v15.b.map enc)) := snap_nest (n := 5) d7_2
                                have d7_2n : lenS nb0_0 = some v15.b.length := nest_lenS d7_2
                                have d7_3 : NestV hh7 hc1.length hh1.length nb1_0 (v16.b : List TOp) := nest_keep c7_6 kk7 (by intro b hb; first | (simp at hb; done) | (simp at hb; omega))
                                have d7_3l := nest_lt d7_3
                                have d7_3s : snap 9 false hh7 nb1_0 = some (.sl 12 (v16.b.map enc)) := snap_nest (n := 5) d7_3
                                have d7_3n : lenS nb1_0 = some v16.b.length := nest_lenS d7_3
                                have d7_4 : getCells hh7 nb2_0 v7.a.counts.length = some (rows (v18.b.counts : List Int)) := w7_0
                                have mm7_0 := len_rows w7_0
                                simp only [zs] at mm7_0
                                have d7_4l := keep_lt kk7 c7_9
                                have d7_5 : getCells hh7 hh2.length 0 = some [] := (keep_get kk7 c7_11 (by first | (simp; done) | (simp; omega))).trans c7_10
                                have d7_5l := keep_lt kk7 c7_11
                                have d7_6 : getCells hh7 (hh2.length + 1) 1 = some [.hsl nb2_0 v7.a.counts.length 0 1 false v7.a.counts.length] := (keep_get kk7 c7_13 (by first | (simp; done) | (simp; omega))).trans c7_12
                                have d7_6l := keep_lt kk7 c7_13
                                have d7_7 : NestV hh7 hc3.length hh3.length nb3_0 (v4 : List TOp) := nest_keep c7_14 kk7 (by intro b hb; first | (simp at hb; done) | (simp at hb; omega))
                                have d7_7l := nest_lt d7_7
                                have d7_7s : snap 9 false hh7 nb3_0 = some (.sl 12 (v4.map enc)) := snap_nest (n := 5) d7_7
                                have d7_7n : lenS nb3_0 = some v4.length := nest_lenS d7_7
                                have d7_8 : NestV hh7 hc4.length hh4.length nb4_0 (v5 : List TOp) := nest_keep c7_16 kk7 (by intro b hb; first | (simp at hb; done) | (simp at hb; omega))
                                have d7_8l := nest_lt d7_8
                                have d7_8s : snap 9 false hh7 nb4_0 = some (.sl 12 (v5.map enc)) := snap_nest (n := 5) d7_8
                                have d7_8n : lenS nb4_0 = some v5.length := nest_lenS d7_8
                                obtain ⟨v19, hv19, hp⟩ := bind_eq hp
                                by_cases hb20 : (decide (v19 < 0)) = true
                                · rw [if_t hb20] at hp
                                  cases hp
                                · replace hb20 := eq_false_of_ne_true hb20
                                  rw [if_f hb20] at hp
                                  by_cases hb21 : (decide (v19 = v18.a)) = true
                                  · rw [if_t hb21] at hp
                                    simp (maxSteps := 2000000) (disch := first | omega | (simp only [ls]; first | done | omega)) only [ep_laws_szOpS, ep_laws_toOpS, ep_spec_BranchBase, ep_laws_eqVector, ep_laws_eqOpS, ep_laws_heldVector, hv0, hb1, hv2, hb3, hv4, hv5, hv6, d0_0, d0_1, d0_2, d0_2s, d0_2n, d1_0, d1_1, d1_2, d1_2s, d1_2n, d1_3, d1_3s, d1_3n, hv7, d2_0, d2_1, d2_2, d2_2s, d2_2n, d2_3, d2_3s, d2_3n, d2_4, hv8, hb9, hb10, d3_0, d3_1, d3_2, d3_2s, d3_2n, d3_3, d3_3s, d3_3n, d3_4, d3_5, d3_6, d3_7, d3_7s, d3_7n, hv11, hb12, d4_0, d4_1, d4_2, d4_2s, d4_2n, d4_3, d4_3s, d4_3n, d4_4, d4_5, d4_6, d4_7, d4_7s, d4_7n, d4_8, d4_8s, d4_8n, hv13, hb14, hv15, d5_0, d5_1, d5_2, d5_2s, d5_2n, d5_3, d5_3s, d5_3n, d5_4, d5_5, d5_6, d5_7, d5_7s, d5_7n, d5_8, d5_8s, d5_8n, hv16, d6_0, d6_1, d6_2, d6_2s, d6_2n, d6_3, d6_3s, d6_3n, d6_4, d6_5, d6_6, d6_7, d6_7s, d6_7n, d6_8, d6_8s, d6_8n, hb17, hv18, d7_0, d7_1, d7_2, d7_2s, d7_2n, d7_3, d7_3s, d7_3n, d7_4, d7_5, d7_6, d7_7, d7_7s, d7_7n, d7_8, d7_8s, d7_8n, hv19, hb20, hb21, gx, Int.reduceToNat]
                                    refine call_f (fun h => getCells h 0 0 = some [] ∧ 0 < h.length ∧ getCells h 1 1 = some [.i (.sl 1 (v6.a.counts.map enc))] ∧ 1 < h.length ∧ NestV h hc0.length hh0.length nb0_0 (v15.b : List TOp) ∧ hh0.length ≤ h.length ∧ NestV h hc1.length hh1.length nb1_0 (v16.b : List TOp) ∧ hh1.length ≤ h.length ∧ getCells h nb2_0 v7.a.counts.length = some (rows (v18.b.counts : List Int)) ∧ nb2_0 < h.length ∧ getCells h hh2.length 0 = some [] ∧ hh2.length < h.length ∧ getCells h (hh2.length + 1) 1 = some [.hsl nb2_0 v7.a.counts.length 0 1 false v7.a.counts.length] ∧ hh2.length + 1 < h.length ∧ NestV h hc3.length hh3.length nb3_0 (v4 : List TOp) ∧ hh3.length ≤ h.length ∧ NestV h hc4.length hh4.length nb4_0 (v5 : List TOp) ∧ hh4.length ≤ h.length) (fun h v h2 => oo_laws_toOpS v4 h v h2) ?_ ?_ ?_
                                    · simp (maxSteps := 2000000) (disch := first | omega | (simp only [ls]; first | done | omega)) only [ep_laws_szOpS, ep_laws_toOpS, ep_spec_BranchBase, ep_laws_eqVector, ep_laws_eqOpS, ep_laws_heldVector, hv0, hb1, hv2, hb3, hv4, hv5, hv6, d0_0, d0_1, d0_2, d0_2s, d0_2n, d1_0, d1_1, d1_2, d1_2s, d1_2n, d1_3, d1_3s, d1_3n, hv7, d2_0, d2_1, d2_2, d2_2s, d2_2n, d2_3, d2_3s, d2_3n, d2_4, hv8, hb9, hb10, d3_0, d3_1, d3_2, d3_2s, d3_2n, d3_3, d3_3s, d3_3n, d3_4, d3_5, d3_6, d3_7, d3_7s, d3_7n, hv11, hb12, d4_0, d4_1, d4_2, d4_2s, d4_2n, d4_3, d4_3s, d4_3n, d4_4, d4_5, d4_6, d4_7, d4_7s, d4_7n, d4_8, d4_8s, d4_8n, hv13, hb14, hv15, d5_0, d5_1, d5_2, d5_2s, d5_2n, d5_3, d5_3s, d5_3n, d5_4, d5_5, d5_6, d5_7, d5_7s, d5_7n, d5_8, d5_8s, d5_8n, hv16, d6_0, d6_1, d6_2, d6_2s, d6_2n, d6_3, d6_3s, d6_3n, d6_4, d6_5, d6_6, d6_7, d6_7s, d6_7n, d6_8, d6_8s, d6_8n, hb17, hv18, d7_0, d7_1, d7_2, d7_2s, d7_2n, d7_3, d7_3s, d7_3n, d7_4, d7_5, d7_6, d7_7, d7_7s, d7_7n, d7_8, d7_8s, d7_8n, hv19, hb20, hb21, gx, Int.reduceToNat] <;> (repeat (first | omega | assumption | exact nest_ext (by assumption) | exact nest_wide (by assumption) (Nat.zero_le _) (by first | omega | (simp; omega)) (Nat.le_refl _) | exact nest_wide (nest_ext (by assumption)) (Nat.zero_le _) (by first | omega | (simp; omega)) (Nat.le_refl _) | exact nest_virt (by simp (maxSteps := 2000000) (disch := first | omega | (simp only [ls]; first | done | omega)) only [ep_laws_szOpS, ep_laws_toOpS, ep_spec_BranchBase, ep_laws_eqVector, ep_laws_eqOpS, ep_laws_heldVector, hv0, hb1, hv2, hb3, hv4, hv5, hv6, d0_0, d0_1, d0_2, d0_2s, d0_2n, d1_0, d1_1, d1_2, d1_2s, d1_2n, d1_3, d1_3s, d1_3n, hv7, d2_0, d2_1, d2_2, d2_2s, d2_2n, d2_3, d2_3s, d2_3n, d2_4, hv8, hb9, hb10, d3_0, d3_1, d3_2, d3_2s, d3_2n, d3_3, d3_3s, d3_3n, d3_4, d3_5, d3_6, d3_7, d3_7s, d3_7n, hv11, hb12, d4_0, d4_1, d4_2, d4_2s, d4_2n, d4_3, d4_3s, d4_3n, d4_4, d4_5, d4_6, d4_7, d4_7s, d4_7n, d4_8, d4_8s, d4_8n, hv13, hb14, hv15, d5_0, d5_1, d5_2, d5_2s, d5_2n, d5_3, d5_3s, d5_3n, d5_4, d5_5, d5_6, d5_7, d5_7s, d5_7n, d5_8, d5_8s, d5_8n, hv16, d6_0, d6_1, d6_2, d6_2s, d6_2n, d6_3, d6_3s, d6_3n, d6_4, d6_5, d6_6, d6_7, d6_7s, d6_7n, d6_8, d6_8s, d6_8n, hb17, hv18, d7_0, d7_1, d7_2, d7_2s, d7_2n, d7_3, d7_3s, d7_3n, d7_4, d7_5, d7_6, d7_7, d7_7s, d7_7n, d7_8, d7_8s, d7_8n, hv19, hb20, hb21, gx, Int.reduceToNat]) (by omega) (by first | omega | (simp; done) | (simp; omega)) (by first | omega | (simp; done) | (simp; omega)) | refine nest_ext ?_ | refine nest_set ?_ (by omega) | refine And.intro ?_ ?_))
                                    · rintro h ⟨c8_0, c8_1, c8_2, c8_3, c8_4, c8_5, c8_6, c8_7, c8_8, c8_9, c8_10, c8_11, c8_12, c8_13, c8_14, c8_15, c8_16, c8_17⟩
                                      have sc8_2 : snap 9 false h nb0_0 = some (.sl 12 (v15.b.map enc)) := snap_nest (n := 5) c8_4
                                      have sc8_3 : snap 9 false h nb1_0 = some (.sl 12 (v16.b.map enc)) := snap_nest (n := 5) c8_6
                                      have sc8_7 : snap 9 false h nb3_0 = some (.sl 12 (v4.map enc)) := snap_nest (n := 5) c8_14
                                      have sc8_8 : snap 9 false h nb4_0 = some (.sl 12 (v5.map enc)) := snap_nest (n := 5) c8_16
                                      exact e_laws_toOpS _ _ hv4 h _ (by simp (maxSteps := 2000000) (disch := first | omega | (simp only [ls]; first | done | omega)) only [ep_laws_szOpS, ep_laws_toOpS, ep_spec_BranchBase, ep_laws_eqVector, ep_laws_eqOpS, ep_laws_heldVector, hv0, hb1, hv2, hb3, hv4, hv5, hv6, d0_0, d0_1, d0_2, d0_2s, d0_2n, d1_0, d1_1, d1_2, d1_2s, d1_2n, d1_3, d1_3s, d1_3n, hv7, d2_0, d2_1, d2_2, d2_2s, d2_2n, d2_3, d2_3s, d2_3n, d2_4, hv8, hb9, hb10, d3_0, d3_1, d3_2, d3_2s, d3_2n, d3_3, d3_3s, d3_3n, d3_4, d3_5, d3_6, d3_7, d3_7s, d3_7n, hv11, hb12, d4_0, d4_1, d4_2, d4_2s, d4_2n, d4_3, d4_3s, d4_3n, d4_4, d4_5, d4_6, d4_7, d4_7s, d4_7n, d4_8, d4_8s, d4_8n, hv13, hb14, hv15, d5_0, d5_1, d5_2, d5_2s, d5_2n, d5_3, d5_3s, d5_3n, d5_4, d5_5, d5_6, d5_7, d5_7s, d5_7n, d5_8, d5_8s, d5_8n, hv16, d6_0, d6_1, d6_2, d6_2s, d6_2n, d6_3, d6_3s, d6_3n, d6_4, d6_5, d6_6, d6_7, d6_7s, d6_7n, d6_8, d6_8s, d6_8n, hb17, hv18, d7_0, d7_1, d7_2, d7_2s, d7_2n, d7_3, d7_3s, d7_3n, d7_4, d7_5, d7_6, d7_7, d7_7s, d7_7n, d7_8, d7_8s, d7_8n, hv19, hb20, hb21, c8_0, c8_1, c8_2, c8_3, c8_4, c8_5, c8_6, c8_7, c8_8, c8_9, c8_10, c8_11, c8_12, c8_13, c8_14, c8_15, c8_16, c8_17, sc8_2, sc8_3, sc8_7, sc8_8, gx, Int.reduceToNat])
                                    · rintro hc8 nb8_0 hh8 ⟨c8_0, c8_1, c8_2, c8_3, c8_4, c8_5, c8_6, c8_7, c8_8, c8_9, c8_10, c8_11, c8_12, c8_13, c8_14, c8_15, c8_16, c8_17⟩ hpost
                                      obtain ⟨kk8, _, rfl, wnb8_0⟩ := hpost
                                      have d8_0 : getCells hh8 0 0 = some [] := (keep_get kk8 c8_1 (by first | (simp; done) | (simp; omega))).trans c8_0
                                      have d8_0l := keep_lt kk8 c8_1
                                      have d8_1 : getCells hh8 1 1 = some [.i (.sl 1 (v6.a.counts.map enc))] := (keep_get kk8 c8_3 (by first | (simp; done) | (simp; omega))).trans c8_2
                                      have d8_1l := keep_lt kk8 c8_3
                                      have d8_2 : NestV hh8 hc0.length hh0.length nb0_0 (v15.b : List TOp) := nest_keep c8_4 kk8 (by intro b hb; first | (simp at hb; done) | (simp at hb; omega))
                                      have d8_2l := nest_lt d8_2
                                      have d8_2s : snap 9 false hh8 nb0_0 = some (.sl 12 (v15.b.map enc)) := snap_nest (n := 5) d8_2
                                      have d8_2n : lenS nb0_0 = some v15.b.length := nest_lenS d8_2
                                      have d8_3 : NestV hh8 hc1.length hh1.length nb1_0 (v16.b : List TOp) := nest_keep c8_6 kk8 (by intro b hb; first | (simp at hb; done) | (simp at hb; omega))
                                      have d8_3l := nest_lt d8_3
                                      have d8_3s : snap 9 false hh8 nb1_0 = some (.sl 12 (v16.b.map enc)) := snap_nest (n := 5) d8_3
                                      have d8_3n : lenS nb1_0 = some v16.b.length := nest_lenS d8_3
                                      have d8_4 : getCells hh8 nb2_0 v7.a.counts.length = some (rows (v18.b.counts : List Int)) := (keep_get kk8 c8_9 (by first | (simp; done) | (simp; omega))).trans c8_8
                                      have d8_4l := keep_lt kk8 c8_9
                                      have d8_5 : getCells hh8 hh2.length 0 = some [] := (keep_get kk8 c8_11 (by first | (simp; done) | (simp; omega))).trans c8_10
                                      have d8_5l := keep_lt kk8 c8_11
                                      have d8_6 : getCells hh8 (hh2.length + 1) 1 = some [.hsl nb2_0 v7.a.counts.length 0 1 false v7.a.counts.length] := (keep_get kk8 c8_13 (by first | (simp; done) | (simp; omega))).trans c8_12
                                      have d8_6l := keep_lt kk8 c8_13
                                      have d8_7 : NestV hh8 hc3.length hh3.length nb3_0 (v4 : List TOp) := nest_keep c8_14 kk8 (by intro b hb; first | (simp at hb; done) | (simp at hb; omega))
                                      have d8_7l := nest_lt d8_7
                                      have d8_7s : snap 9 false hh8 nb3_0 = some (.sl 12 (v4.map enc)) := snap_nest (n := 5) d8_7
                                      have d8_7n : lenS nb3_0 = some v4.length := nest_lenS d8_7
                                      have d8_8 : NestV hh8 hc4.length hh4.length nb4_0 (v5 : List TOp) := nest_keep c8_16 kk8 (by intro b hb; first | (simp at hb; done) | (simp at hb; omega))
                                      have d8_8l := nest_lt d8_8
                                      have d8_8s : snap 9 false hh8 nb4_0 = some (.sl 12 (v5.map enc)) := snap_nest (n := 5) d8_8
                                      have d8_8n : lenS nb4_0 = some v5.length := nest_lenS d8_8
                                      have d8_9 := wnb8_0
                                      have d8_9l := nest_lt d8_9
                                      have d8_9s : snap 9 false hh8 nb8_0 = some (.sl 12 (v4.map enc)) := snap_nest (n := 5) d8_9
                                      have d8_9n : lenS nb8_0 = some v4.length := nest_lenS d8_9
                                      simp (maxSteps := 2000000) (disch := first | omega | (simp only [ls]; first | done | omega)) only [ep_laws_szOpS, ep_laws_toOpS, ep_spec_BranchBase, ep_laws_eqVector, ep_laws_eqOpS, ep_laws_heldVector, hv0, hb1, hv2, hb3, hv4, hv5, hv6, d0_0, d0_1, d0_2, d0_2s, d0_2n, d1_0, d1_1, d1_2, d1_2s, d1_2n, d1_3, d1_3s, d1_3n, hv7, d2_0, d2_1, d2_2, d2_2s, d2_2n, d2_3, d2_3s, d2_3n, d2_4, hv8, hb9, hb10, d3_0, d3_1, d3_2, d3_2s, d3_2n, d3_3, d3_3s, d3_3n, d3_4, d3_5, d3_6, d3_7, d3_7s, d3_7n, hv11, hb12, d4_0, d4_1, d4_2, d4_2s, d4_2n, d4_3, d4_3s, d4_3n, d4_4, d4_5, d4_6, d4_7, d4_7s, d4_7n, d4_8, d4_8s, d4_8n, hv13, hb14, hv15, d5_0, d5_1, d5_2, d5_2s, d5_2n, d5_3, d5_3s, d5_3n, d5_4, d5_5, d5_6, d5_7, d5_7s, d5_7n, d5_8, d5_8s, d5_8n, hv16, d6_0, d6_1, d6_2, d6_2s, d6_2n, d6_3, d6_3s, d6_3n, d6_4, d6_5, d6_6, d6_7, d6_7s, d6_7n, d6_8, d6_8s, d6_8n, hb17, hv18, d7_0, d7_1, d7_2, d7_2s, d7_2n, d7_3, d7_3s, d7_3n, d7_4, d7_5, d7_6, d7_7, d7_7s, d7_7n, d7_8, d7_8s, d7_8n, hv19, hb20, hb21, d8_0, d8_1, d8_2, d8_2s, d8_2n, d8_3, d8_3s, d8_3n, d8_4, d8_5, d8_6, d8_7, d8_7s, d8_7n, d8_8, d8_8s, d8_8n, d8_9, d8_9s, d8_9n, gx, Int.reduceToNat]
                                      refine call_f (fun h => getCells h 0 0 = some [] ∧ 0 < h.length ∧ getCells h 1 1 = some [.i (.sl 1 (v6.a.counts.map enc))] ∧ 1 < h.length ∧ NestV h hc0.length hh0.length nb0_0 (v15.b : List TOp) ∧ hh0.length ≤ h.length ∧ NestV h hc1.length hh1.length nb1_0 (v16.b : List TOp) ∧ hh1.length ≤ h.length ∧ getCells h nb2_0 v7.a.counts.length = some (rows (v18.b.counts : List Int)) ∧ nb2_0 < h.length ∧ getCells h hh2.length 0 = some [] ∧ hh2.length < h.length ∧ getCells h (hh2.length + 1) 1 = some [.hsl nb2_0 v7.a.counts.length 0 1 false v7.a.counts.length] ∧ hh2.length + 1 < h.length ∧ NestV h hc3.length hh3.length nb3_0 (v4 : List TOp) ∧ hh3.length ≤ h.length ∧ NestV h hc4.length hh4.length nb4_0 (v5 : List TOp) ∧ hh4.length ≤ h.length ∧ NestV h hc8.length hh8.length nb8_0 (v4 : List TOp) ∧ hh8.length ≤ h.length) (fun h v h2 => oo_laws_toOpS v5 h v h2) ?_ ?_ ?_
                                      · simp (maxSteps := 2000000) (disch := first | omega | (simp only [ls]; first | done | omega)) only [ep_laws_szOpS, ep_laws_toOpS, ep_spec_BranchBase, ep_laws_eqVector, ep_laws_eqOpS, ep_laws_heldVector, hv0, hb1, hv2, hb3, hv4, hv5, hv6, d0_0, d0_1, d0_2, d0_2s, d0_2n, d1_0, d1_1, d1_2, d1_2s, d1_2n, d1_3, d1_3s, d1_3n, hv7, d2_0, d2_1, d2_2, d2_2s, d2_2n, d2_3, d2_3s, d2_3n, d2_4, hv8, hb9, hb10, d3_0, d3_1, d3_2, d3_2s, d3_2n, d3_3, d3_3s, d3_3n, d3_4, d3_5, d3_6, d3_7, d3_7s, d3_7n, hv11, hb12, d4_0, d4_1, d4_2, d4_2s, d4_2n, d4_3, d4_3s, d4_3n, d4_4, d4_5, d4_6, d4_7, d4_7s, d4_7n, d4_8, d4_8s, d4_8n, hv13, hb14, hv15, d5_0, d5_1, d5_2, d5_2s, d5_2n, d5_3, d5_3s, d5_3n, d5_4, d5_5, d5_6, d5_7, d5_7s, d5_7n, d5_8, d5_8s, d5_8n, hv16, d6_0, d6_1, d6_2, d6_2s, d6_2n, d6_3, d6_3s, d6_3n, d6_4, d6_5, d6_6, d6_7, d6_7s, d6_7n, d6_8, d6_8s, d6_8n, hb17, hv18, d7_0, d7_1, d7_2, d7_2s, d7_2n, d7_3, d7_3s, d7_3n, d7_4, d7_5, d7_6, d7_7, d7_7s, d7_7n, d7_8, d7_8s, d7_8n, hv19, hb20, hb21, d8_0, d8_1, d8_2, d8_2s, d8_2n, d8_3, d8_3s, d8_3n, d8_4, d8_5, d8_6, d8_7, d8_7s, d8_7n, d8_8, d8_8s, d8_8n, d8_9, d8_9s, d8_9n, gx, Int.reduceToNat] <;> (repeat (first | omega | assumption | exact nest_ext (by assumption) | exact nest_wide (by assumption) (Nat.zero_le _) (by first | omega | (simp; omega)) (Nat.le_refl _) | exact nest_wide (nest_ext (by assumption)) (Nat.zero_le _) (by first | omega | (simp; omega)) (Nat.le_refl _) | exact nest_virt (by simp (maxSteps := 2000000) (disch := first | omega | (simp only [ls]; first | done | omega)) only [ep_laws_szOpS, ep_laws_toOpS, ep_spec_BranchBase, ep_laws_eqVector, ep_laws_eqOpS, ep_laws_heldVector, hv0, hb1, hv2, hb3, hv4, hv5, hv6, d0_0, d0_1, d0_2, d0_2s, d0_2n, d1_0, d1_1, d1_2, d1_2s, d1_2n, d1_3, d1_3s, d1_3n, hv7, d2_0, d2_1, d2_2, d2_2s, d2_2n, d2_3, d2_3s, d2_3n, d2_4, hv8, hb9, hb10, d3_0, d3_1, d3_2, d3_2s, d3_2n, d3_3, d3_3s, d3_3n, d3_4, d3_5, d3_6, d3_7, d3_7s, d3_7n, hv11, hb12, d4_0, d4_1, d4_2, d4_2s, d4_2n, d4_3, d4_3s, d4_3n, d4_4, d4_5, d4_6, d4_7, d4_7s, d4_7n, d4_8, d4_8s, d4_8n, hv13, hb14, hv15, d5_0, d5_1, d5_2, d5_2s, d5_2n, d5_3, d5_3s, d5_3n, d5_4, d5_5, d5_6, d5_7, d5_7s, d5_7n, d5_8, d5_8s, d5_8n, hv16, d6_0, d6_1, d6_2, d6_2s, d6_2n, d6_3, d6_3s, d6_3n, d6_4, d6_5, d6_6, d6_7, d6_7s, d6_7n, d6_8, d6_8s, d6_8n, hb17, hv18, d7_0, d7_1, d7_2, d7_2s, d7_2n, d7_3, d7_3s, d7_3n, d7_4, d7_5, d7_6, d7_7, d7_7s, d7_7n, d7_8, d7_8s, d7_8n, hv19, hb20, hb21, d8_0, d8_1, d8_2, d8_2s, d8_2n, d8_3, d8_3s, d8_3n, d8_4, d8_5, d8_6, d8_7, d8_7s, d8_7n, d8_8, d8_8s, d8_8n, d8_9, d8_9s, d8_9n, gx, Int.reduceToNat]) (by omega) (by first | omega | (simp; done) | (simp; omega)) (by first | omega | (simp; done) | (simp; omega)) | refine nest_ext ?_ | refine nest_set ?_ (by omega) | refine And.intro ?_ ?_))
                                      · rintro h ⟨c9_0, c9_1, c9_2, c9_3, c9_4, c9_5, c9_6, c9_7, c9_8, c9_9, c9_10, c9_11, c9_12, c9_13, c9_14, c9_15, c9_16, c9_17, c9_18, c9_19⟩
                                        have sc9_2 : snap 9 false h nb0_0 = some (.sl 12 (v15.b.map enc)) := snap_nest (n := 5) c9_4
                                        have sc9_3 : snap 9 false h nb1_0 = some (.sl 12 (v16.b.map enc)) := snap_nest (n := 5) c9_6
                                        have sc9_7 : snap 9 false h nb3_0 = some (.sl 12 (v4.map enc)) := snap_nest (n := 5) c9_14
                                        have sc9_8 : snap 9 false h nb4_0 = some (.sl 12 (v5.map enc)) := snap_nest (n := 5) c9_16
                                        have sc9_9 : snap 9 false h nb8_0 = some (.sl 12 (v4.map enc)) := snap_nest (n := 5) c9_18
                                        exact e_laws_toOpS _ _ hv5 h _ (by simp (maxSteps := 2000000) (disch := first | omega | (simp only [ls]; first | done | omega)) only [ep_laws_szOpS, ep_laws_toOpS, ep_spec_BranchBase, ep_laws_eqVector, ep_laws_eqOpS, ep_laws_heldVector, hv0, hb1, hv2, hb3, hv4, hv5, hv6, d0_0, d0_1, d0_2, d0_2s, d0_2n, d1_0, d1_1, d1_2, d1_2s, d1_2n, d1_3, d1_3s, d1_3n, hv7, d2_0, d2_1, d2_2, d2_2s, d2_2n, d2_3, d2_3s, d2_3n, d2_4, hv8, hb9, hb10, d3_0, d3_1, d3_2, d3_2s, d3_2n, d3_3, d3_3s, d3_3n, d3_4, d3_5, d3_6, d3_7, d3_7s, d3_7n, hv11, hb12, d4_0, d4_1, d4_2, d4_2s, d4_2n, d4_3, d4_3s, d4_3n, d4_4, d4_5, d4_6, d4_7, d4_7s, d4_7n, d4_8, d4_8s, d4_8n, hv13, hb14, hv15, d5_0, d5_1, d5_2, d5_2s, d5_2n, d5_3, d5_3s, d5_3n, d5_4, d5_5, d5_6, d5_7, d5_7s, d5_7n, d5_8, d5_8s, d5_8n, hv16, d6_0, d6_1, d6_2, d6_2s, d6_2n, d6_3, d6_3s, d6_3n, d6_4, d6_5, d6_6, d6_7, d6_7s, d6_7n, d6_8, d6_8s, d6_8n, hb17, hv18, d7_0, d7_1, d7_2, d7_2s, d7_2n, d7_3, d7_3s, d7_3n, d7_4, d7_5, d7_6, d7_7, d7_7s, d7_7n, d7_8, d7_8s, d7_8n, hv19, hb20, hb21, d8_0, d8_1, d8_2, d8_2s, d8_2n, d8_3, d8_3s, d8_3n, d8_4, d8_5, d8_6, d8_7, d8_7s, d8_7n, d8_8, d8_8s, d8_8n, d8_9, d8_9s, d8_9n, c9_0, c9_1, c9_2, c9_3, c9_4, c9_5, c9_6, c9_7, c9_8, c9_9, c9_10, c9_11, c9_12, c9_13, c9_14, c9_15, c9_16, c9_17, c9_18, c9_19, sc9_2, sc9_3, sc9_7, sc9_8, sc9_9, gx, Int.reduceToNat])
                                      · rintro hc9 nb9_0 hh9 ⟨c9_0, c9_1, c9_2, c9_3, c9_4, c9_5, c9_6, c9_7, c9_8, c9_9, c9_10, c9_11, c9_12, c9_13, c9_14, c9_15, c9_16, c9_17, c9_18, c9_19⟩ hpost
                                        obtain ⟨kk9, _, rfl, wnb9_0⟩ := hpost
                                        have d9_0 : getCells hh9 0 0 = some [] := (keep_get kk9 c9_1 (by first | (simp; done) | (simp; omega))).trans c9_0
                                        have d9_0l := keep_lt kk9 c9_1
                                        have d9_1 : getCells hh9 1 1 = some [.i (.sl 1 (v6.a.counts.map enc))] := (keep_get kk9 c9_3 (by first | (simp; done) | (simp; omega))).trans c9_2
                                        have d9_1l := keep_lt kk9 c9_3
                                        have d9_2 : NestV hh9 hc0.length hh0.length nb0_0 (v15.b : List TOp) := nest_keep c9_4 kk9 (by intro b hb; first | (simp at hb; done) | (simp at hb; omega))
                                        have d9_2l := nest_lt d9_2
                                        have d9_2s : snap 9 false hh9 nb0_0 = some (.sl 12 (v15.b.map enc)) := snap_nest (n := 5) d9_2
                                        have d9_2n : lenS nb0_0 = some v15.b.length := nest_lenS d9_2
                                        have d9_3 : NestV hh9 hc1.length hh1.length nb1_0 (v16.b : List TOp) := nest_keep c9_6 kk9 (by intro b hb; first | (simp at hb; done) | (simp at hb; omega))
                                        have d9_3l := nest_lt d9_3
                                        have d9_3s : snap 9 false hh9 nb1_0 = some (.sl 12 (v16.b.map enc)) := snap_nest (n := 5) d9_3
                                        have d9_3n : lenS nb1_0 = some v16.b.length := nest_lenS d9_3
                                        have d9_4 : getCells hh9 nb2_0 v7.a.counts.length = some (rows (v18.b.counts : List Int)) := (keep_get kk9 c9_9 (by first | (simp; done) | (simp; omega))).trans c9_8
                                        have d9_4l := keep_lt kk9 c9_9
                                        have d9_5 : getCells hh9 hh2.length 0 = some [] := (keep_get kk9 c9_11 (by first | (simp; done) | (simp; omega))).trans c9_10
                                        have d9_5l := keep_lt kk9 c9_11
                                        have d9_6 : getCells hh9 (hh2.length + 1) 1 = some [.hsl nb2_0 v7.a.counts.length 0 1 false v7.a.counts.length] := (keep_get kk9 c9_13 (by first | (simp; done) | (simp; omega))).trans c9_12
                                        have d9_6l := keep_lt kk9 c9_13
                                        have d9_7 : NestV hh9 hc3.length hh3.length nb3_0 (v4 : List TOp) := nest_keep c9_14 kk9 (by intro b hb; first | (simp at hb; done) | (simp at hb; omega))
                                        have d9_7l := nest_lt d9_7
                                        have d9_7s : snap 9 false hh9 nb3_0 = some (.sl 12 (v4.map enc)) := snap_nest (n := 5) d9_7
                                        have d9_7n : lenS nb3_0 = some v4.length := nest_lenS d9_7
                                        have d9_8 : NestV hh9 hc4.length hh4.length nb4_0 (v5 : List TOp) := nest_keep c9_16 kk9 (by intro b hb; first | (simp at hb; done) | (simp at hb; omega))
                                        have d9_8l := nest_lt d9_8
                                        have d9_8s : snap 9 false hh9 nb4_0 = some (.sl 12 (v5.map enc)) := snap_nest (n := 5) d9_8
                                        have d9_8n : lenS nb4_0 = some v5.length := nest_lenS d9_8
                                        have d9_9 : NestV hh9 hc8.length hh8.length nb8_0 (v4 : List TOp) := nest_keep c9_18 kk9 (by intro b hb; first | (simp at hb; done) | (simp at hb; omega))
                                        have d9_9l := nest_lt d9_9
                                        have d9_9s : snap 9 false hh9 nb8_0 = some (.sl 12 (v4.map enc)) := snap_nest (n := 5) d9_9
                                        have d9_9n : lenS nb8_0 = some v4.length := nest_lenS d9_9
                                        have d9_10 := wnb9_0
                                        have d9_10l := nest_lt d9_10
                                        have d9_10s : snap 9 false hh9 nb9_0 = some (.sl 12 (v5.map enc)) := snap_nest (n := 5) d9_10
                                        have d9_10n : lenS nb9_0 = some v5.length := nest_lenS d9_10
                                        simp (maxSteps := 2000000) (disch := first | omega | (simp only [ls]; first | done | omega)) only [ep_laws_szOpS, ep_laws_toOpS, ep_spec_BranchBase, ep_laws_eqVector, ep_laws_eqOpS, ep_laws_heldVector, hv0, hb1, hv2, hb3, hv4, hv5, hv6, d0_0, d0_1, d0_2, d0_2s, d0_2n, d1_0, d1_1, d1_2, d1_2s, d1_2n, d1_3, d1_3s, d1_3n, hv7, d2_0, d2_1, d2_2, d2_2s, d2_2n, d2_3, d2_3s, d2_3n, d2_4, hv8, hb9, hb10, d3_0, d3_1, d3_2, d3_2s, d3_2n, d3_3, d3_3s, d3_3n, d3_4, d3_5, d3_6, d3_7, d3_7s, d3_7n, hv11, hb12, d4_0, d4_1, d4_2, d4_2s, d4_2n, d4_3, d4_3s, d4_3n, d4_4, d4_5, d4_6, d4_7, d4_7s, d4_7n, d4_8, d4_8s, d4_8n, hv13, hb14, hv15, d5_0, d5_1, d5_2, d5_2s, d5_2n, d5_3, d5_3s, d5_3n, d5_4, d5_5, d5_6, d5_7, d5_7s, d5_7n, d5_8, d5_8s, d5_8n, hv16, d6_0, d6_1, d6_2, d6_2s, d6_2n, d6_3, d6_3s, d6_3n, d6_4, d6_5, d6_6, d6_7, d6_7s, d6_7n, d6_8, d6_8s, d6_8n, hb17, hv18, d7_0, d7_1, d7_2, d7_2s, d7_2n, d7_3, d7_3s, d7_3n, d7_4, d7_5, d7_6, d7_7, d7_7s, d7_7n, d7_8, d7_8s, d7_8n, hv19, hb20, hb21, d8_0, d8_1, d8_2, d8_2s, d8_2n, d8_3, d8_3s, d8_3n, d8_4, d8_5, d8_6, d8_7, d8_7s, d8_7n, d8_8, d8_8s, d8_8n, d8_9, d8_9s, d8_9n, d9_0, d9_1, d9_2, d9_2s, d9_2n, d9_3, d9_3s, d9_3n, d9_4, d9_5, d9_6, d9_7, d9_7s, d9_7n, d9_8, d9_8s, d9_8n, d9_9, d9_9s, d9_9n, d9_10, d9_10s, d9_10n, gx, Int.reduceToNat]
                                        refine call_f (fun h => getCells h 0 0 = some [] ∧ 0 < h.length ∧ getCells h 1 1 = some [.i (.sl 1 (v6.a.counts.map enc))] ∧ 1 < h.length ∧ NestV h hc0.length hh0.length nb0_0 (v15.b : List TOp) ∧ hh0.length ≤ h.length ∧ NestV h hc1.length hh1.length nb1_0 (v16.b : List TOp) ∧ hh1.length ≤ h.length ∧ getCells h nb2_0 v7.a.counts.length = some (rows (v18.b.counts : List Int)) ∧ nb2_0 < h.length ∧ getCells h hh2.length 0 = some [] ∧ hh2.length < h.length ∧ getCells h (hh2.length + 1) 1 = some [.hsl nb2_0 v7.a.counts.length 0 1 false v7.a.counts.length] ∧ hh2.length + 1 < h.length ∧ NestV h hc3.length hh3.length nb3_0 (v4 : List TOp) ∧ hh3.length ≤ h.length ∧ NestV h hc4.length hh4.length nb4_0 (v5 : List TOp) ∧ hh4.length ≤ h.length ∧ NestV h hc8.length hh8.length nb8_0 (v4 : List TOp) ∧ hh8.length ≤ h.length ∧ NestV h hc9.length hh9.length nb9_0 (v5 : List TOp) ∧ hh9.length ≤ h.length) (fun h v h2 => oo_impl_BranchBase v7 h v h2) ?_ ?_ ?_
                                        · simp (maxSteps := 2000000) (disch := first | omega | (simp only [ls]; first | done | omega)) only [ep_laws_szOpS, ep_laws_toOpS, ep_spec_BranchBase, ep_laws_eqVector, ep_laws_eqOpS, ep_laws_heldVector, hv0, hb1, hv2, hb3, hv4, hv5, hv6, d0_0, d0_1, d0_2, d0_2s, d0_2n, d1_0, d1_1, d1_2, d1_2s, d1_2n, d1_3, d1_3s, d1_3n, hv7, d2_0, d2_1, d2_2, d2_2s, d2_2n, d2_3, d2_3s, d2_3n, d2_4, hv8, hb9, hb10, d3_0, d3_1, d3_2, d3_2s, d3_2n, d3_3, d3_3s, d3_3n, d3_4, d3_5, d3_6, d3_7, d3_7s, d3_7n, hv11, hb12, d4_0, d4_1, d4_2, d4_2s, d4_2n, d4_3, d4_3s, d4_3n, d4_4, d4_5, d4_6, d4_7, d4_7s, d4_7n, d4_8, d4_8s, d4_8n, hv13, hb14, hv15, d5_0, d5_1, d5_2, d5_2s, d5_2n, d5_3, d5_3s, d5_3n, d5_4, d5_5, d5_6, d5_7, d5_7s, d5_7n, d5_8, d5_8s, d5_8n, hv16, d6_0, d6_1, d6_2, d6_2s, d6_2n, d6_3, d6_3s, d6_3n, d6_4, d6_5, d6_6, d6_7, d6_7s, d6_7n, d6_8, d6_8s, d6_8n, hb17, hv18, d7_0, d7_1, d7_2, d7_2s, d7_2n, d7_3, d7_3s, d7_3n, d7_4, d7_5, d7_6, d7_7, d7_7s, d7_7n, d7_8, d7_8s, d7_8n, hv19, hb20, hb21, d8_0, d8_1, d8_2, d8_2s, d8_2n, d8_3, d8_3s, d8_3n, d8_4, d8_5, d8_6, d8_7, d8_7s, d8_7n, d8_8, d8_8s, d8_8n, d8_9, d8_9s, d8_9n, d9_0, d9_1, d9_2, d9_2s, d9_2n, d9_3, d9_3s, d9_3n, d9_4, d9_5, d9_6, d9_7, d9_7s, d9_7n, d9_8, d9_8s, d9_8n, d9_9, d9_9s, d9_9n, d9_10, d9_10s, d9_10n, gx, Int.reduceToNat] <;> (repeat (first | omega | assumption | exact nest_ext (by assumption) | exact nest_wide (by assumption) (Nat.zero_le _) (by first | omega | (simp; omega)) (Nat.le_refl _) | exact nest_wide (nest_ext (by assumption)) (Nat.zero_le _) (by first | omega | (simp; omega)) (Nat.le_refl _) | exact nest_virt (by simp (maxSteps := 2000000) (disch := first | omega | (simp only [ls]; first | done | omega)) only [ep_laws_szOpS, ep_laws_toOpS, ep_spec_BranchBase, ep_laws_eqVector, ep_laws_eqOpS, ep_laws_heldVector, hv0, hb1, hv2, hb3, hv4, hv5, hv6, d0_0, d0_1, d0_2, d0_2s, d0_2n, d1_0, d1_1, d1_2, d1_2s, d1_2n, d1_3, d1_3s, d1_3n, hv7, d2_0, d2_1, d2_2, d2_2s, d2_2n, d2_3, d2_3s, d2_3n, d2_4, hv8, hb9, hb10, d3_0, d3_1, d3_2, d3_2s, d3_2n, d3_3, d3_3s, d3_3n, d3_4, d3_5, d3_6, d3_7, d3_7s, d3_7n, hv11, hb12, d4_0, d4_1, d4_2, d4_2s, d4_2n, d4_3, d4_3s, d4_3n, d4_4, d4_5, d4_6, d4_7, d4_7s, d4_7n, d4_8, d4_8s, d4_8n, hv13, hb14, hv15, d5_0, d5_1, d5_2, d5_2s, d5_2n, d5_3, d5_3s, d5_3n, d5_4, d5_5, d5_6, d5_7, d5_7s, d5_7n, d5_8, d5_8s, d5_8n, hv16, d6_0, d6_1, d6_2, d6_2s, d6_2n, d6_3, d6_3s, d6_3n, d6_4, d6_5, d6_6, d6_7, d6_7s, d6_7n, d6_8, d6_8s, d6_8n, hb17, hv18, d7_0, d7_1, d7_2, d7_2s, d7_2n, d7_3, d7_3s, d7_3n, d7_4, d7_5, d7_6, d7_7, d7_7s, d7_7n, d7_8, d7_8s, d7_8n, hv19, hb20, hb21, d8_0, d8_1, d8_2, d8_2s, d8_2n, d8_3, d8_3s, d8_3n, d8_4, d8_5, d8_6, d8_7, d8_7s, d8_7n, d8_8, d8_8s, d8_8n, d8_9, d8_9s, d8_9n, d9_0, d9_1, d9_2, d9_2s, d9_2n, d9_3, d9_3s, d9_3n, d9_4, d9_5, d9_6, d9_7, d9_7s, d9_7n, d9_8, d9_8s, d9_8n, d9_9, d9_9s, d9_9n, d9_10, d9_10s, d9_10n, gx, Int.reduceToNat]) (by omega) (by first | omega | (simp; done) | (simp; omega)) (by first | omega | (simp; done) | (simp; omega)) | refine nest_ext ?_ | refine nest_set ?_ (by omega) | refine And.intro ?_ ?_))
                                        · rintro h ⟨c10_0, c10_1, c10_2, c10_3, c10_4, c10_5, c10_6, c10_7, c10_8, c10_9, c10_10, c10_11, c10_12, c10_13, c10_14, c10_15, c10_16, c10_17, c10_18, c10_19, c10_20, c10_21⟩
                                          have sc10_2 : snap 9 false h nb0_0 = some (.sl 12 (v15.b.map enc)) := snap_nest (n := 5) c10_4
                                          have sc10_3 : snap 9 false h nb1_0 = some (.sl 12 (v16.b.map enc)) := snap_nest (n := 5) c10_6
                                          have sc10_7 : snap 9 false h nb3_0 = some (.sl 12 (v4.map enc)) := snap_nest (n := 5) c10_14
                                          have sc10_8 : snap 9 false h nb4_0 = some (.sl 12 (v5.map enc)) := snap_nest (n := 5) c10_16
                                          have sc10_9 : snap 9 false h nb8_0 = some (.sl 12 (v4.map enc)) := snap_nest (n := 5) c10_18
                                          have sc10_10 : snap 9 false h nb9_0 = some (.sl 12 (v5.map enc)) := snap_nest (n := 5) c10_20
                                          exact e_impl_BranchBase _ _ _ hv7 h _ (by simp (maxSteps := 2000000) (disch := first | omega | (simp only [ls]; first | done | omega)) only [ep_laws_szOpS, ep_laws_toOpS, ep_spec_BranchBase, ep_laws_eqVector, ep_laws_eqOpS, ep_laws_heldVector, hv0, hb1, hv2, hb3, hv4, hv5, hv6, d0_0, d0_1, d0_2, d0_2s, d0_2n, d1_0, d1_1, d1_2, d1_2s, d1_2n, d1_3, d1_3s, d1_3n, hv7, d2_0, d2_1, d2_2, d2_2s, d2_2n, d2_3, d2_3s, d2_3n, d2_4, hv8, hb9, hb10, d3_0, d3_1, d3_2, d3_2s, d3_2n, d3_3, d3_3s, d3_3n, d3_4, d3_5, d3_6, d3_7, d3_7s, d3_7n, hv11, hb12, d4_0, d4_1, d4_2, d4_2s, d4_2n, d4_3, d4_3s, d4_3n, d4_4, d4_5, d4_6, d4_7, d4_7s, d4_7n, d4_8, d4_8s, d4_8n, hv13, hb14, hv15, d5_0, d5_1, d5_2, d5_2s, d5_2n, d5_3, d5_3s, d5_3n, d5_4, d5_5, d5_6, d5_7, d5_7s, d5_7n, d5_8, d5_8s, d5_8n, hv16, d6_0, d6_1, d6_2, d6_2s, d6_2n, d6_3, d6_3s, d6_3n, d6_4, d6_5, d6_6, d6_7, d6_7s, d6_7n, d6_8, d6_8s, d6_8n, hb17, hv18, d7_0, d7_1, d7_2, d7_2s, d7_2n, d7_3, d7_3s, d7_3n, d7_4, d7_5, d7_6, d7_7, d7_7s, d7_7n, d7_8, d7_8s, d7_8n, hv19, hb20, hb21, d8_0, d8_1, d8_2, d8_2s, d8_2n, d8_3, d8_3s, d8_3n, d8_4, d8_5, d8_6, d8_7, d8_7s, d8_7n, d8_8, d8_8s, d8_8n, d8_9, d8_9s, d8_9n, d9_0, d9_1, d9_2, d9_2s, d9_2n, d9_3, d9_3s, d9_3n, d9_4, d9_5, d9_6, d9_7, d9_7s, d9_7n, d9_8, d9_8s, d9_8n, d9_9, d9_9s, d9_9n, d9_10, d9_10s, d9_10n, c10_0, c10_1, c10_2, c10_3, c10_4, c10_5, c10_6, c10_7, c10_8, c10_9, c10_10, c10_11, c10_12, c10_13, c10_14, c10_15, c10_16, c10_17, c10_18, c10_19, c10_20, c10_21, sc10_2, sc10_3, sc10_7, sc10_8, sc10_9, sc10_10, gx, Int.reduceToNat])
                                        · rintro hc10 v hh10 ⟨c10_0, c10_1, c10_2, c10_3, c10_4, c10_5, c10_6, c10_7, c10_8, c10_9, c10_10, c10_11, c10_12, c10_13, c10_14, c10_15, c10_16, c10_17, c10_18, c10_19, c10_20, c10_21⟩ hpost
                                          obtain ⟨kk10, nb10_0, rfl, lnb10_0, gnb10_0, wnb10_0⟩ := hpost
                                          have d10_0 : getCells hh10 0 0 = some [] := (keep_get kk10 c10_1 (by first | (simp; done) | (simp; omega))).trans c10_0
                                          have d10_0l := keep_lt kk10 c10_1
                                          have d10_1 : getCells hh10 1 1 = some [.i (.sl 1 (v6.a.counts.map enc))] := (keep_get kk10 c10_3 (by first | (simp; done) | (simp; omega))).trans c10_2
                                          have d10_1l := keep_lt kk10 c10_3
                                          have d10_2 : NestV hh10 hc0.length hh0.length nb0_0 (v15.b : List TOp) := nest_keep c10_4 kk10 (by intro b hb; first | (simp at hb; done) | (simp at hb; omega))
                                          have d10_2l := nest_lt d10_2
                                          have d10_2s : snap 9 false hh10 nb0_0 = some (.sl 12 (v15.b.map enc)) := snap_nest (n := 5) d10_2
                                          have d10_2n : lenS nb0_0 = some v15.b.length := nest_lenS d10_2
                                          have d10_3 : NestV hh10 hc1.length hh1.length nb1_0 (v16.b : List TOp) := nest_keep c10_6 kk10 (by intro b hb; first | (simp at hb; done) | (simp at hb; omega))
                                          have d10_3l := nest_lt d10_3
                                          have d10_3s : snap 9 false hh10 nb1_0 = some (.sl 12 (v16.b.map enc)) := snap_nest (n := 5) d10_3
                                          have d10_3n : lenS nb1_0 = some v16.b.length := nest_lenS d10_3
                                          have d10_4 : getCells hh10 nb2_0 v7.a.counts.length = some (rows (v18.b.counts : List Int)) := (keep_get kk10 c10_9 (by first | (simp; done) | (simp; omega))).trans c10_8
                                          have d10_4l := keep_lt kk10 c10_9
                                          have d10_5 : getCells hh10 hh2.length 0 = some [] := (keep_get kk10 c10_11 (by first | (simp; done) | (simp; omega))).trans c10_10
                                          have d10_5l := keep_lt kk10 c10_11
                                          have d10_6 : getCells hh10 (hh2.length + 1) 1 = some [.hsl nb2_0 v7.a.counts.length 0 1 false v7.a.counts.length] := (keep_get kk10 c10_13 (by first | (simp; done) | (simp; omega))).trans c10_12
                                          have d10_6l := keep_lt kk10 c10_13
                                          have d10_7 : NestV hh10 hc3.length hh3.length nb3_0 (v4 : List TOp) := nest_keep c10_14 kk10 (by intro b hb; first | (simp at hb; done) | (simp at hb; omega))
                                          have d10_7l := nest_lt d10_7
                                          have d10_7s : snap 9 false hh10 nb3_0 = some (.sl 12 (v4.map enc)) := snap_nest (n := 5) d10_7
                                          have d10_7n : lenS nb3_0 = some v4.length := nest_lenS d10_7
                                          have d10_8 : NestV hh10 hc4.length hh4.length nb4_0 (v5 : List TOp) := nest_keep c10_16 kk10 (by intro b hb; first | (simp at hb; done) | (simp at hb; omega))
                                          have d10_8l := nest_lt d10_8
                                          have d10_8s : snap 9 false hh10 nb4_0 = some (.sl 12 (v5.map enc)) := snap_nest (n := 5) d10_8
                                          have d10_8n : lenS nb4_0 = some v5.length := nest_lenS d10_8
                                          have d10_9 : NestV hh10 hc8.length hh8.length nb8_0 (v4 : List TOp) := nest_keep c10_18 kk10 (by intro b hb; first | (simp at hb; done) | (simp at hb; omega))
                                          have d10_9l := nest_lt d10_9
                                          have d10_9s : snap 9 false hh10 nb8_0 = some (.sl 12 (v4.map enc)) := snap_nest (n := 5) d10_9
                                          have d10_9n : lenS nb8_0 = some v4.length := nest_lenS d10_9
                                          have d10_10 : NestV hh10 hc9.length hh9.length nb9_0 (v5 : List TOp) := nest_keep c10_20 kk10 (by intro b hb; first | (simp at hb; done) | (simp at hb; omega))
                                          have d10_10l := nest_lt d10_10
                                          have d10_10s : snap 9 false hh10 nb9_0 = some (.sl 12 (v5.map enc)) := snap_nest (n := 5) d10_10
                                          have d10_10n : lenS nb9_0 = some v5.length := nest_lenS d10_10
                                          have d10_11 := wnb10_0
                                          cases hp
                                          simp (maxSteps := 2000000) (disch := first | omega | (simp only [ls]; first | done | omega)) only [ep_laws_szOpS, ep_laws_toOpS, ep_spec_BranchBase, ep_laws_eqVector, ep_laws_eqOpS, ep_laws_heldVector, hv0, hb1, hv2, hb3, hv4, hv5, hv6, d0_0, d0_1, d0_2, d0_2s, d0_2n, d1_0, d1_1, d1_2, d1_2s, d1_2n, d1_3, d1_3s, d1_3n, hv7, d2_0, d2_1, d2_2, d2_2s, d2_2n, d2_3, d2_3s, d2_3n, d2_4, hv8, hb9, hb10, d3_0, d3_1, d3_2, d3_2s, d3_2n, d3_3, d3_3s, d3_3n, d3_4, d3_5, d3_6, d3_7, d3_7s, d3_7n, hv11, hb12, d4_0, d4_1, d4_2, d4_2s, d4_2n, d4_3, d4_3s, d4_3n, d4_4, d4_5, d4_6, d4_7, d4_7s, d4_7n, d4_8, d4_8s, d4_8n, hv13, hb14, hv15, d5_0, d5_1, d5_2, d5_2s, d5_2n, d5_3, d5_3s, d5_3n, d5_4, d5_5, d5_6, d5_7, d5_7s, d5_7n, d5_8, d5_8s, d5_8n, hv16, d6_0, d6_1, d6_2, d6_2s, d6_2n, d6_3, d6_3s, d6_3n, d6_4, d6_5, d6_6, d6_7, d6_7s, d6_7n, d6_8, d6_8s, d6_8n, hb17, hv18, d7_0, d7_1, d7_2, d7_2s, d7_2n, d7_3, d7_3s, d7_3n, d7_4, d7_5, d7_6, d7_7, d7_7s, d7_7n, d7_8, d7_8s, d7_8n, hv19, hb20, hb21, d8_0, d8_1, d8_2, d8_2s, d8_2n, d8_3, d8_3s, d8_3n, d8_4, d8_5, d8_6, d8_7, d8_7s, d8_7n, d8_8, d8_8s, d8_8n, d8_9, d8_9s, d8_9n, d9_0, d9_1, d9_2, d9_2s, d9_2n, d9_3, d9_3s, d9_3n, d9_4, d9_5, d9_6, d9_7, d9_7s, d9_7n, d9_8, d9_8s, d9_8n, d9_9, d9_9s, d9_9n, d9_10, d9_10s, d9_10n, d10_0, d10_1, d10_2, d10_2s, d10_2n, d10_3, d10_3s, d10_3n, d10_4, d10_5, d10_6, d10_7, d10_7s, d10_7n, d10_8, d10_8s, d10_8n, d10_9, d10_9s, d10_9n, d10_10, d10_10s, d10_10n, d10_11, gx, Int.reduceToNat]
                                  · replace hb21 := eq_false_of_ne_true hb21
                                    rw [if_f hb21] at hp
                                    cases hp
                      · replace hb14 := eq_false_of_ne_true hb14
                        rw [if_f hb14] at hp
                        cases hp
                  · replace hb12 := eq_false_of_ne_true hb12
                    rw [if_f hb12] at hp
                    cases hp
              · replace hb10 := eq_false_of_ne_true hb10
                rw [if_f hb10] at hp
                cases hp
            · replace hb9 := eq_false_of_ne_true hb9
              rw [if_f hb9] at hp
              cases hp

end Go.AM
