/- Plain functions of BranchAhead and their walks. No condition. -/
import Derived.Test.YtiabacjkejkbgaaLabGLogOKb
set_option linter.unusedVariables false
set_option linter.unusedSimpArgs false
set_option maxRecDepth 20000
namespace Go.AM
open Pic (enc dec dec_enc dec_sub)
open PicA (encA decA decA_encA decA_sub)
noncomputable def p_spec_l05Same_l0 (x0 : List Int) (x1 : List Int) : Int → Option (Lp (Int) Bool)
  | s1 =>
    if (decide (s1 < (x0.length : Int))) = true then
      (get? x0 s1).bind fun v3 =>
      (get? x1 s1).bind fun v4 =>
      if (decide (v3 = v4)) = true then
        some (.go (w64 (s1 + 1)))
      else
        some (.ret false)
    else
      some (.out s1)
noncomputable def p_spec_l05Same (x0 : List Int) (x1 : List Int) : Option Bool :=
  if (decide ((x0.length : Int) = (x1.length : Int))) = true then
    (loopP (p_spec_l05Same_l0 x0 x1) 0).bind fun ee0 => match ee0 with
    | .ret r => some r
    | .out o6 =>
      some true
  else
    some false
def c_spec_l05Same : AFn := ⟨26, (.seq (.ops [⟨(.some 4), (.mv (.const (.bool false))), .none, []⟩]) (.seq (.seq (.ops [⟨(.some 6), (.mv (.tmp 0)), .none, []⟩, ⟨(.some 7), (.len (.tmp 6)), .none, []⟩, ⟨(.some 8), (.mv (.tmp 1)), .none, []⟩, ⟨(.some 9), (.len (.tmp 8)), .none, []⟩, ⟨(.some 10), (.pu (.n (.ar .neq)) [(.tmp 7), (.tmp 9)]), .none, []⟩]) (.cond (.tmp 10) (.seq (.ops [⟨(.some 4), (.mv (.const (.bool false))), .none, []⟩]) .ret) .skip)) (.seq (.seq (.ops [⟨(.some 5), (.mv (.const (.int .i64 0))), .none, []⟩]) (.block 0 (.loop (.seq (.seq (.ops [⟨(.some 11), (.mv (.tmp 5)), .none, []⟩, ⟨(.some 12), (.mv (.tmp 0)), .none, []⟩, ⟨(.some 13), (.len (.tmp 12)), .none, []⟩, ⟨(.some 14), (.pu (.n (.ar .lss)) [(.tmp 11), (.tmp 13)]), .none, []⟩]) (.cond (.tmp 14) .skip (.exit 0))) (.seq (.block 1 (.seq (.ops [⟨(.some 17), (.mv (.tmp 0)), .none, []⟩, ⟨(.some 18), (.mv (.tmp 5)), .none, []⟩, ⟨(.some 19), (.idxS 1 (.tmp 17) (.tmp 18)), .none, []⟩, ⟨(.some 20), (.load 1 false (.tmp 19)), .none, []⟩, ⟨(.some 21), (.mv (.tmp 1)), .none, []⟩, ⟨(.some 22), (.mv (.tmp 5)), .none, []⟩, ⟨(.some 23), (.idxS 1 (.tmp 21) (.tmp 22)), .none, []⟩, ⟨(.some 24), (.load 1 false (.tmp 23)), .none, []⟩, ⟨(.some 25), (.pu (.n (.ar .neq)) [(.tmp 20), (.tmp 24)]), .none, []⟩]) (.cond (.tmp 25) (.seq (.ops [⟨(.some 4), (.mv (.const (.bool false))), .none, []⟩]) .ret) .skip))) (.ops [⟨(.some 15), (.mv (.tmp 5)), .none, []⟩, ⟨(.some 16), (.pu (.n (.ar .add)) [(.tmp 15), (.const (.int .i64 1))]), .none, []⟩, ⟨(.some 5), (.mv (.tmp 16)), .none, []⟩])))))) (.seq (.ops [⟨(.some 4), (.mv (.const (.bool true))), .none, []⟩]) .ret)))), [(.tmp 4)]⟩
set_option maxHeartbeats 10000000 in
theorem d_spec_l05Same {P : Program} {env : Env}  (x0 : List Int) (x1 : List Int) {b : Bool} (hp : p_spec_l05Same x0 x1 = some b) : R P env (c_spec_l05Same) ((encA (x0, x1)).map ofI) [] (Tells true b) := by
  refine R_of (by simp [c_spec_l05Same, encA]) ?_
  unfold c_spec_l05Same
  unfold p_spec_l05Same at hp
  by_cases hb0 : (decide ((x0.length : Int) = (x1.length : Int))) = true
  · rw [if_t hb0] at hp
    obtain ⟨ee0, hee0, hp⟩ := bind_eq hp
    simp (maxSteps := 2000000) (disch := first | omega | (simp only [ls]; first | done | omega)) only [hb0, gx, Int.reduceToNat]
    refine W_loopP 0 (fun s t h => match s with | s1 => t 0 = .i (.sl 1 (x0.map enc)) ∧ t 1 = .i (.sl 1 (x1.map enc)) ∧ t 5 = .i (.s (.int .i64 s1))) (RK [.tmp 4] (Tells true)) ?_ hee0 ?_ ?_
    · rintro s1 ee tt0 hh0 ⟨ftt0_0, ftt0_1, ftt0_2⟩ hp
      rw [p_spec_l05Same_l0] at hp
      by_cases hb2 : (decide (s1 < (x0.length : Int))) = true
      · rw [if_t hb2] at hp
        obtain ⟨v3, hv3, hp⟩ := bind_eq hp
        obtain ⟨v4, hv4, hp⟩ := bind_eq hp
        by_cases hb5 : (decide (v3 = v4)) = true
        · rw [if_t hb5] at hp
          have hp := Option.some.inj hp
          subst hp
          simp (maxSteps := 2000000) (disch := first | omega | (simp only [ls]; first | done | omega)) only [hb0, ftt0_0, ftt0_1, ftt0_2, hb2, hv3, hv4, hb5, gx, Int.reduceToNat] <;> omega
        · replace hb5 := eq_false_of_ne_true hb5
          rw [if_f hb5] at hp
          have hp := Option.some.inj hp
          subst hp
          simp (maxSteps := 2000000) (disch := first | omega | (simp only [ls]; first | done | omega)) only [hb0, ftt0_0, ftt0_1, ftt0_2, hb2, hv3, hv4, hb5, gx, Int.reduceToNat]
      · replace hb2 := eq_false_of_ne_true hb2
        rw [if_f hb2] at hp
        have hp := Option.some.inj hp
        subst hp
        simp (maxSteps := 2000000) (disch := first | omega | (simp only [ls]; first | done | omega)) only [hb0, ftt0_0, ftt0_1, ftt0_2, hb2, gx, Int.reduceToNat] <;> omega
    · simp (maxSteps := 2000000) (disch := first | omega | (simp only [ls]; first | done | omega)) only [hb0, gx, Int.reduceToNat] <;> omega
    · intro x tt1 hh1 hx
      rcases ee0 with o6 | r
      · obtain ⟨rfl, ftt1_0, ftt1_1, ftt1_2⟩ := hx
        dsimp only at hp
        have hp := Option.some.inj hp
        subst hp
        simp (maxSteps := 2000000) (disch := first | omega | (simp only [ls]; first | done | omega)) only [hb0, ftt1_0, ftt1_1, ftt1_2, gx, Int.reduceToNat]
      · obtain ⟨rfl, hx⟩ := hx
        dsimp only at hp
        cases hp
        simp only [seqK_ret, blockK_ret, retK_RK (K := Tells true), hx, and_self, true_and]
  · replace hb0 := eq_false_of_ne_true hb0
    rw [if_f hb0] at hp
    have hp := Option.some.inj hp
    subst hp
    simp (maxSteps := 2000000) (disch := first | omega | (simp only [ls]; first | done | omega)) only [hb0, gx, Int.reduceToNat]

noncomputable def p_spec_l08SameOp (x0 : TOp) (x1 : TOp) : Option Bool :=
  if (decide (x0.actor = x1.actor)) = true then
    if (decide (x0.seq = x1.seq)) = true then
      if (decide (x0.time = x1.time)) = true then
        (p_spec_l05Same x0.deps.counts x1.deps.counts).bind fun v3 =>
        if (v3) = true then
          if (decide (x0.kind = x1.kind)) = true then
            if (decide (x0.obj = x1.obj)) = true then
              if (decide (x0.n = x1.n)) = true then
                if (decide (x0.undo = x1.undo)) = true then
                  if ((decide (x0.at_.time = x1.at_.time) && decide (x0.at_.actor = x1.at_.actor))) = true then
                    if (decide (x0.key = x1.key)) = true then
                      some (decide (x0.text = x1.text))
                    else
                      some false
                  else
                    some false
                else
                  some false
              else
                some false
            else
              some false
          else
            some false
        else
          some false
      else
        some false
    else
      some false
  else
    some false
def c_spec_l08SameOp (f_spec_l05Same : Nat) : AFn := ⟨82, (.seq (.ops [⟨(.some 2), (.box (.tmp 0)), .none, []⟩, ⟨(.some 3), (.box (.tmp 1)), .none, []⟩, ⟨(.some 4), (.mv (.const (.bool false))), .none, []⟩]) (.seq (.ops [⟨(.some 5), (.fieldA 0 (.tmp 2)), .none, []⟩, ⟨(.some 6), (.load 1 false (.tmp 5)), .none, []⟩, ⟨(.some 7), (.fieldA 0 (.tmp 3)), .none, []⟩, ⟨(.some 8), (.load 1 false (.tmp 7)), .none, []⟩, ⟨(.some 9), (.pu (.n (.ar .eql)) [(.tmp 6), (.tmp 8)]), .none, []⟩, ⟨(.some 10), (.mv (.tmp 9)), .none, []⟩, ⟨(.some 11), (.fieldA 1 (.tmp 2)), (.some (10, true)), []⟩, ⟨(.some 12), (.load 1 false (.tmp 11)), (.some (10, true)), []⟩, ⟨(.some 13), (.fieldA 1 (.tmp 3)), (.some (10, true)), []⟩, ⟨(.some 14), (.load 1 false (.tmp 13)), (.some (10, true)), []⟩, ⟨(.some 15), (.pu (.n (.ar .eql)) [(.tmp 12), (.tmp 14)]), (.some (10, true)), []⟩, ⟨(.some 16), (.pick (.tmp 10) (.tmp 15) (.const (.bool false))), .none, []⟩, ⟨(.some 17), (.mv (.tmp 16)), .none, []⟩, ⟨(.some 18), (.fieldA 2 (.tmp 2)), (.some (17, true)), []⟩, ⟨(.some 19), (.load 1 false (.tmp 18)), (.some (17, true)), []⟩, ⟨(.some 20), (.fieldA 2 (.tmp 3)), (.some (17, true)), []⟩, ⟨(.some 21), (.load 1 false (.tmp 20)), (.some (17, true)), []⟩, ⟨(.some 22), (.pu (.n (.ar .eql)) [(.tmp 19), (.tmp 21)]), (.some (17, true)), []⟩, ⟨(.some 23), (.pick (.tmp 17) (.tmp 22) (.const (.bool false))), .none, []⟩, ⟨(.some 24), (.mv (.tmp 23)), .none, []⟩, ⟨(.some 25), (.fieldA 3 (.tmp 2)), (.some (24, true)), []⟩, ⟨(.some 26), (.fieldA 0 (.tmp 25)), (.some (24, true)), []⟩, ⟨(.some 27), (.load 1 false (.tmp 26)), (.some (24, true)), []⟩, ⟨(.some 28), (.fieldA 3 (.tmp 3)), (.some (24, true)), []⟩, ⟨(.some 29), (.fieldA 0 (.tmp 28)), (.some (24, true)), []⟩, ⟨(.some 30), (.load 1 false (.tmp 29)), (.some (24, true)), []⟩, ⟨(.some 31), (.call (2 * f_spec_l05Same) [(.tmp 27), (.tmp 30)]), (.some (24, true)), []⟩, ⟨(.some 32), (.pick (.tmp 24) (.tmp 31) (.const (.bool false))), .none, []⟩, ⟨(.some 33), (.mv (.tmp 32)), .none, []⟩, ⟨(.some 34), (.fieldA 4 (.tmp 2)), (.some (33, true)), []⟩, ⟨(.some 35), (.load 1 false (.tmp 34)), (.some (33, true)), []⟩, ⟨(.some 36), (.fieldA 4 (.tmp 3)), (.some (33, true)), []⟩, ⟨(.some 37), (.load 1 false (.tmp 36)), (.some (33, true)), []⟩, ⟨(.some 38), (.pu (.n (.ar .eql)) [(.tmp 35), (.tmp 37)]), (.some (33, true)), []⟩, ⟨(.some 39), (.pick (.tmp 33) (.tmp 38) (.const (.bool false))), .none, []⟩, ⟨(.some 40), (.mv (.tmp 39)), .none, []⟩, ⟨(.some 41), (.fieldA 5 (.tmp 2)), (.some (40, true)), []⟩, ⟨(.some 42), (.load 1 false (.tmp 41)), (.some (40, true)), []⟩, ⟨(.some 43), (.fieldA 5 (.tmp 3)), (.some (40, true)), []⟩, ⟨(.some 44), (.load 1 false (.tmp 43)), (.some (40, true)), []⟩, ⟨(.some 45), (.pu (.n (.ar .eql)) [(.tmp 42), (.tmp 44)]), (.some (40, true)), []⟩, ⟨(.some 46), (.pick (.tmp 40) (.tmp 45) (.const (.bool false))), .none, []⟩, ⟨(.some 47), (.mv (.tmp 46)), .none, []⟩, ⟨(.some 48), (.fieldA 6 (.tmp 2)), (.some (47, true)), []⟩, ⟨(.some 49), (.load 1 false (.tmp 48)), (.some (47, true)), []⟩, ⟨(.some 50), (.fieldA 6 (.tmp 3)), (.some (47, true)), []⟩, ⟨(.some 51), (.load 1 false (.tmp 50)), (.some (47, true)), []⟩, ⟨(.some 52), (.pu (.n (.ar .eql)) [(.tmp 49), (.tmp 51)]), (.some (47, true)), []⟩, ⟨(.some 53), (.pick (.tmp 47) (.tmp 52) (.const (.bool false))), .none, []⟩, ⟨(.some 54), (.mv (.tmp 53)), .none, []⟩, ⟨(.some 55), (.fieldA 7 (.tmp 2)), (.some (54, true)), []⟩, ⟨(.some 56), (.load 1 false (.tmp 55)), (.some (54, true)), []⟩, ⟨(.some 57), (.fieldA 7 (.tmp 3)), (.some (54, true)), []⟩, ⟨(.some 58), (.load 1 false (.tmp 57)), (.some (54, true)), []⟩, ⟨(.some 59), (.pu (.n (.ar .eql)) [(.tmp 56), (.tmp 58)]), (.some (54, true)), []⟩, ⟨(.some 60), (.pick (.tmp 54) (.tmp 59) (.const (.bool false))), .none, []⟩, ⟨(.some 61), (.mv (.tmp 60)), .none, []⟩, ⟨(.some 62), (.fieldA 8 (.tmp 2)), (.some (61, true)), []⟩, ⟨(.some 63), (.load 2 true (.tmp 62)), (.some (61, true)), []⟩, ⟨(.some 64), (.fieldA 8 (.tmp 3)), (.some (61, true)), []⟩, ⟨(.some 65), (.load 2 true (.tmp 64)), (.some (61, true)), []⟩, ⟨(.some 66), (.aeq false [(.int .i64), (.int .i64)] (.tmp 63) (.tmp 65)), (.some (61, true)), []⟩, ⟨(.some 67), (.pick (.tmp 61) (.tmp 66) (.const (.bool false))), .none, []⟩, ⟨(.some 68), (.mv (.tmp 67)), .none, []⟩, ⟨(.some 69), (.fieldA 10 (.tmp 2)), (.some (68, true)), []⟩, ⟨(.some 70), (.load 1 false (.tmp 69)), (.some (68, true)), []⟩, ⟨(.some 71), (.fieldA 10 (.tmp 3)), (.some (68, true)), []⟩, ⟨(.some 72), (.load 1 false (.tmp 71)), (.some (68, true)), []⟩, ⟨(.some 73), (.pu (.n (.ar .eql)) [(.tmp 70), (.tmp 72)]), (.some (68, true)), []⟩, ⟨(.some 74), (.pick (.tmp 68) (.tmp 73) (.const (.bool false))), .none, []⟩, ⟨(.some 75), (.mv (.tmp 74)), .none, []⟩, ⟨(.some 76), (.fieldA 11 (.tmp 2)), (.some (75, true)), []⟩, ⟨(.some 77), (.load 1 false (.tmp 76)), (.some (75, true)), []⟩, ⟨(.some 78), (.fieldA 11 (.tmp 3)), (.some (75, true)), []⟩, ⟨(.some 79), (.load 1 false (.tmp 78)), (.some (75, true)), []⟩, ⟨(.some 80), (.pu (.n (.ar .eql)) [(.tmp 77), (.tmp 79)]), (.some (75, true)), []⟩, ⟨(.some 81), (.pick (.tmp 75) (.tmp 80) (.const (.bool false))), .none, []⟩, ⟨(.some 4), (.mv (.tmp 81)), .none, []⟩]) .ret)), [(.tmp 4)]⟩
set_option maxHeartbeats 10000000 in
theorem d_spec_l08SameOp {P : Program} {env : Env} {f_spec_l05Same : Nat}  (ep_spec_l05Same : env (2 * f_spec_l05Same) = pureFn true (FA fun a : List Int × List Int => p_spec_l05Same a.1 a.2)) (x0 : TOp) (x1 : TOp) {b : Bool} (hp : p_spec_l08SameOp x0 x1 = some b) : R P env (c_spec_l08SameOp f_spec_l05Same) ((encA (x0, x1)).map ofI) [] (Tells true b) := by
  refine R_of (by simp [c_spec_l08SameOp, encA]) ?_
  unfold c_spec_l08SameOp
  unfold p_spec_l08SameOp at hp
  by_cases hb0 : (decide (x0.actor = x1.actor)) = true
  · rw [if_t hb0] at hp
    by_cases hb1 : (decide (x0.seq = x1.seq)) = true
    · rw [if_t hb1] at hp
      by_cases hb2 : (decide (x0.time = x1.time)) = true
      · rw [if_t hb2] at hp
        obtain ⟨v3, hv3, hp⟩ := bind_eq hp
        by_cases hb4 : (v3) = true
        · rw [if_t hb4] at hp
          by_cases hb5 : (decide (x0.kind = x1.kind)) = true
          · rw [if_t hb5] at hp
            by_cases hb6 : (decide (x0.obj = x1.obj)) = true
            · rw [if_t hb6] at hp
              by_cases hb7 : (decide (x0.n = x1.n)) = true
              · rw [if_t hb7] at hp
                by_cases hb8 : (decide (x0.undo = x1.undo)) = true
                · rw [if_t hb8] at hp
                  by_cases hb9 : ((decide (x0.at_.time = x1.at_.time) && decide (x0.at_.actor = x1.at_.actor))) = true
                  · rw [if_t hb9] at hp
                    by_cases hb10 : (decide (x0.key = x1.key)) = true
                    · rw [if_t hb10] at hp
                      have hp := Option.some.inj hp
                      subst hp
                      simp (maxSteps := 2000000) (disch := first | omega | (simp only [ls]; first | done | omega)) only [ep_spec_l05Same, hb0, hb1, hb2, hv3, hb4, hb5, hb6, hb7, hb8, hb9, hb10, gx, Int.reduceToNat]
                    · replace hb10 := eq_false_of_ne_true hb10
                      rw [if_f hb10] at hp
                      have hp := Option.some.inj hp
                      subst hp
                      simp (maxSteps := 2000000) (disch := first | omega | (simp only [ls]; first | done | omega)) only [ep_spec_l05Same, hb0, hb1, hb2, hv3, hb4, hb5, hb6, hb7, hb8, hb9, hb10, gx, Int.reduceToNat]
                  · replace hb9 := eq_false_of_ne_true hb9
                    rw [if_f hb9] at hp
                    have hp := Option.some.inj hp
                    subst hp
                    simp (maxSteps := 2000000) (disch := first | omega | (simp only [ls]; first | done | omega)) only [ep_spec_l05Same, hb0, hb1, hb2, hv3, hb4, hb5, hb6, hb7, hb8, hb9, gx, Int.reduceToNat]
                · replace hb8 := eq_false_of_ne_true hb8
                  rw [if_f hb8] at hp
                  have hp := Option.some.inj hp
                  subst hp
                  simp (maxSteps := 2000000) (disch := first | omega | (simp only [ls]; first | done | omega)) only [ep_spec_l05Same, hb0, hb1, hb2, hv3, hb4, hb5, hb6, hb7, hb8, gx, Int.reduceToNat]
              · replace hb7 := eq_false_of_ne_true hb7
                rw [if_f hb7] at hp
                have hp := Option.some.inj hp
                subst hp
                simp (maxSteps := 2000000) (disch := first | omega | (simp only [ls]; first | done | omega)) only [ep_spec_l05Same, hb0, hb1, hb2, hv3, hb4, hb5, hb6, hb7, gx, Int.reduceToNat]
            · replace hb6 := eq_false_of_ne_true hb6
              rw [if_f hb6] at hp
              have hp := Option.some.inj hp
              subst hp
              simp (maxSteps := 2000000) (disch := first | omega | (simp only [ls]; first | done | omega)) only [ep_spec_l05Same, hb0, hb1, hb2, hv3, hb4, hb5, hb6, gx, Int.reduceToNat]
          · replace hb5 := eq_false_of_ne_true hb5
            rw [if_f hb5] at hp
            have hp := Option.some.inj hp
            subst hp
            simp (maxSteps := 2000000) (disch := first | omega | (simp only [ls]; first | done | omega)) only [ep_spec_l05Same, hb0, hb1, hb2, hv3, hb4, hb5, gx, Int.reduceToNat]
        · replace hb4 := eq_false_of_ne_true hb4
          rw [if_f hb4] at hp
          have hp := Option.some.inj hp
          subst hp
          simp (maxSteps := 2000000) (disch := first | omega | (simp only [ls]; first | done | omega)) only [ep_spec_l05Same, hb0, hb1, hb2, hv3, hb4, gx, Int.reduceToNat]
      · replace hb2 := eq_false_of_ne_true hb2
        rw [if_f hb2] at hp
        have hp := Option.some.inj hp
        subst hp
        simp (maxSteps := 2000000) (disch := first | omega | (simp only [ls]; first | done | omega)) only [ep_spec_l05Same, hb0, hb1, hb2, gx, Int.reduceToNat]
    · replace hb1 := eq_false_of_ne_true hb1
      rw [if_f hb1] at hp
      have hp := Option.some.inj hp
      subst hp
      simp (maxSteps := 2000000) (disch := first | omega | (simp only [ls]; first | done | omega)) only [ep_spec_l05Same, hb0, hb1, gx, Int.reduceToNat]
  · replace hb0 := eq_false_of_ne_true hb0
    rw [if_f hb0] at hp
    have hp := Option.some.inj hp
    subst hp
    simp (maxSteps := 2000000) (disch := first | omega | (simp only [ls]; first | done | omega)) only [ep_spec_l05Same, hb0, gx, Int.reduceToNat]

noncomputable def p_spec_l11Code_l0 (x0 : List TOp) (x1 : List TOp) : Int → Option (Lp (Int) Int)
  | s4 =>
    if (decide (s4 < (x0.length : Int))) = true then
      (get? x0 s4).bind fun v6 =>
      (p_spec_l08Find x1 v6.actor v6.seq).bind fun v7 =>
      if (decide (0 ≤ v7)) = true then
        (get? x1 v7).bind fun v9 =>
        (p_spec_l08SameOp v6 v9).bind fun v10 =>
        if (v10) = true then
          some (.go (w64 (s4 + 1)))
        else
          some (.ret 16)
      else
        some (.go (w64 (s4 + 1)))
    else
      some (.out s4)
noncomputable def p_spec_l11Code (x0 : List TOp) (x1 : List TOp) : Option Int :=
  (p_spec_LogOK x0).bind fun v0 =>
  if (v0) = true then
    (p_spec_LogOK x1).bind fun v2 =>
    if (v2) = true then
      (loopP (p_spec_l11Code_l0 x0 x1) 0).bind fun ee0 => match ee0 with
      | .ret r => some r
      | .out o12 =>
        some 0
    else
      some 1
  else
    some 1
def c_spec_l11Code (f_spec_LogOK : Nat) (f_spec_l08Find : Nat) (f_spec_l08SameOp : Nat) : AFn := ⟨47, (.seq (.ops [⟨(.some 4), (.mv (.const (.int .i64 0))), .none, []⟩]) (.seq (.seq (.ops [⟨(.some 7), (.mv (.tmp 0)), .none, []⟩, ⟨(.some 8), (.call (2 * f_spec_LogOK) [(.tmp 7)]), .none, []⟩, ⟨(.some 9), (.pu (.n (.un .not)) [(.tmp 8)]), .none, []⟩, ⟨(.some 10), (.mv (.tmp 9)), .none, []⟩, ⟨(.some 11), (.mv (.tmp 1)), (.some (10, false)), []⟩, ⟨(.some 12), (.call (2 * f_spec_LogOK) [(.tmp 11)]), (.some (10, false)), []⟩, ⟨(.some 13), (.pu (.n (.un .not)) [(.tmp 12)]), (.some (10, false)), []⟩, ⟨(.some 14), (.pick (.tmp 10) (.const (.bool true)) (.tmp 13)), .none, []⟩]) (.cond (.tmp 14) (.seq (.ops [⟨(.some 4), (.mv (.const (.int .i64 1))), .none, []⟩]) .ret) .skip)) (.seq (.seq (.ops [⟨(.some 5), (.mv (.const (.int .i64 0))), .none, []⟩]) (.block 0 (.loop (.seq (.seq (.ops [⟨(.some 15), (.mv (.tmp 5)), .none, []⟩, ⟨(.some 16), (.mv (.tmp 0)), .none, []⟩, ⟨(.some 17), (.len (.tmp 16)), .none, []⟩, ⟨(.some 18), (.pu (.n (.ar .lss)) [(.tmp 15), (.tmp 17)]), .none, []⟩]) (.cond (.tmp 18) .skip (.exit 0))) (.seq (.block 1 (.seq (.ops [⟨(.some 21), (.mv (.tmp 1)), .none, []⟩, ⟨(.some 22), (.mv (.tmp 0)), .none, []⟩, ⟨(.some 23), (.mv (.tmp 5)), .none, []⟩, ⟨(.some 24), (.idxS 12 (.tmp 22) (.tmp 23)), .none, []⟩, ⟨(.some 25), (.fieldA 0 (.tmp 24)), .none, []⟩, ⟨(.some 26), (.load 1 false (.tmp 25)), .none, []⟩, ⟨(.some 27), (.mv (.tmp 0)), .none, []⟩, ⟨(.some 28), (.mv (.tmp 5)), .none, []⟩, ⟨(.some 29), (.idxS 12 (.tmp 27) (.tmp 28)), .none, []⟩, ⟨(.some 30), (.fieldA 1 (.tmp 29)), .none, []⟩, ⟨(.some 31), (.load 1 false (.tmp 30)), .none, []⟩, ⟨(.some 32), (.call (2 * f_spec_l08Find) [(.tmp 21), (.tmp 26), (.tmp 31)]), .none, []⟩, ⟨(.some 6), (.mv (.tmp 32)), .none, []⟩]) (.seq (.ops [⟨(.some 33), (.mv (.tmp 6)), .none, []⟩, ⟨(.some 34), (.pu (.n (.ar .geq)) [(.tmp 33), (.const (.int .i64 0))]), .none, []⟩, ⟨(.some 35), (.mv (.tmp 34)), .none, []⟩, ⟨(.some 36), (.mv (.tmp 0)), (.some (35, true)), []⟩, ⟨(.some 37), (.mv (.tmp 5)), (.some (35, true)), []⟩, ⟨(.some 38), (.idxS 12 (.tmp 36) (.tmp 37)), (.some (35, true)), []⟩, ⟨(.some 39), (.load 12 true (.tmp 38)), (.some (35, true)), []⟩, ⟨(.some 40), (.mv (.tmp 1)), (.some (35, true)), []⟩, ⟨(.some 41), (.mv (.tmp 6)), (.some (35, true)), []⟩, ⟨(.some 42), (.idxS 12 (.tmp 40) (.tmp 41)), (.some (35, true)), []⟩, ⟨(.some 43), (.load 12 true (.tmp 42)), (.some (35, true)), []⟩, ⟨(.some 44), (.call (2 * f_spec_l08SameOp) [(.tmp 39), (.tmp 43)]), (.some (35, true)), []⟩, ⟨(.some 45), (.pu (.n (.un .not)) [(.tmp 44)]), (.some (35, true)), []⟩, ⟨(.some 46), (.pick (.tmp 35) (.tmp 45) (.const (.bool false))), .none, []⟩]) (.cond (.tmp 46) (.seq (.ops [⟨(.some 4), (.mv (.const (.int .i64 16))), .none, []⟩]) .ret) .skip)))) (.ops [⟨(.some 19), (.mv (.tmp 5)), .none, []⟩, ⟨(.some 20), (.pu (.n (.ar .add)) [(.tmp 19), (.const (.int .i64 1))]), .none, []⟩, ⟨(.some 5), (.mv (.tmp 20)), .none, []⟩])))))) (.seq (.ops [⟨(.some 4), (.mv (.const (.int .i64 0))), .none, []⟩]) .ret)))), [(.tmp 4)]⟩
set_option maxHeartbeats 10000000 in
theorem d_spec_l11Code {P : Program} {env : Env} {f_spec_LogOK : Nat} {f_spec_l08Find : Nat} {f_spec_l08SameOp : Nat}  (ep_spec_LogOK : env (2 * f_spec_LogOK) = pureFn true (FA fun a : List TOp => p_spec_LogOK a)) (ep_spec_l08Find : env (2 * f_spec_l08Find) = pureFn true (FA fun a : List TOp × Int × Int => p_spec_l08Find a.1 a.2.1 a.2.2)) (ep_spec_l08SameOp : env (2 * f_spec_l08SameOp) = pureFn true (FA fun a : TOp × TOp => p_spec_l08SameOp a.1 a.2)) (x0 : List TOp) (x1 : List TOp) {b : Int} (hp : p_spec_l11Code x0 x1 = some b) : R P env (c_spec_l11Code f_spec_LogOK f_spec_l08Find f_spec_l08SameOp) ((encA (x0, x1)).map ofI) [] (Tells true b) := by
  refine R_of (by simp [c_spec_l11Code, encA]) ?_
  have hO0 := @opc_virtC
  have hO1 := @opc_nilsOf
  have hO2 := @opc_virtV
  have hO3 := @opc_nilsV
  have hO4 := @opc_one
  have hO5 := @opc_splice
  have hO6 := @opc_virtVw
  have hO7 := @opc_nilsVw
  have hO8 := @opc_onew
  unfold c_spec_l11Code
  unfold p_spec_l11Code at hp
  obtain ⟨v0, hv0, hp⟩ := bind_eq hp
  by_cases hb1 : (v0) = true
  · rw [if_t hb1] at hp
    obtain ⟨v2, hv2, hp⟩ := bind_eq hp
    by_cases hb3 : (v2) = true
    · rw [if_t hb3] at hp
      obtain ⟨ee0, hee0, hp⟩ := bind_eq hp
      simp (maxSteps := 2000000) (disch := first | omega | (simp only [ls]; first | done | omega)) only [hO0, hO1, hO2, hO3, hO4, hO5, hO6, hO7, hO8, ep_spec_LogOK, ep_spec_l08Find, ep_spec_l08SameOp, hv0, hb1, hv2, hb3, gx, Int.reduceToNat]
      refine W_loopP 0 (fun s t h => match s with | s4 => t 0 = .i (.sl 12 (x0.map enc)) ∧ t 1 = .i (.sl 12 (x1.map enc)) ∧ t 5 = .i (.s (.int .i64 s4))) (RK [.tmp 4] (Tells true)) ?_ hee0 ?_ ?_
      · rintro s4 ee tt0 hh0 ⟨ftt0_0, ftt0_1, ftt0_2⟩ hp
        rw [p_spec_l11Code_l0] at hp
        by_cases hb5 : (decide (s4 < (x0.length : Int))) = true
        · rw [if_t hb5] at hp
          obtain ⟨v6, hv6, hp⟩ := bind_eq hp
          obtain ⟨v7, hv7, hp⟩ := bind_eq hp
          by_cases hb8 : (decide (0 ≤ v7)) = true
          · rw [if_t hb8] at hp
            obtain ⟨v9, hv9, hp⟩ := bind_eq hp
            obtain ⟨v10, hv10, hp⟩ := bind_eq hp
            by_cases hb11 : (v10) = true
            · rw [if_t hb11] at hp
              have hp := Option.some.inj hp
              subst hp
              simp (maxSteps := 2000000) (disch := first | omega | (simp only [ls]; first | done | omega)) only [hO0, hO1, hO2, hO3, hO4, hO5, hO6, hO7, hO8, ep_spec_LogOK, ep_spec_l08Find, ep_spec_l08SameOp, hv0, hb1, hv2, hb3, ftt0_0, ftt0_1, ftt0_2, hb5, hv6, hv7, hb8, hv9, hv10, hb11, gx, Int.reduceToNat] <;> omega
            · replace hb11 := eq_false_of_ne_true hb11
              rw [if_f hb11] at hp
              have hp := Option.some.inj hp
              subst hp
              simp (maxSteps := 2000000) (disch := first | omega | (simp only [ls]; first | done | omega)) only [hO0, hO1, hO2, hO3, hO4, hO5, hO6, hO7, hO8, ep_spec_LogOK, ep_spec_l08Find, ep_spec_l08SameOp, hv0, hb1, hv2, hb3, ftt0_0, ftt0_1, ftt0_2, hb5, hv6, hv7, hb8, hv9, hv10, hb11, gx, Int.reduceToNat]
          · replace hb8 := eq_false_of_ne_true hb8
            rw [if_f hb8] at hp
            have hp := Option.some.inj hp
            subst hp
            simp (maxSteps := 2000000) (disch := first | omega | (simp only [ls]; first | done | omega)) only [hO0, hO1, hO2, hO3, hO4, hO5, hO6, hO7, hO8, ep_spec_LogOK, ep_spec_l08Find, ep_spec_l08SameOp, hv0, hb1, hv2, hb3, ftt0_0, ftt0_1, ftt0_2, hb5, hv6, hv7, hb8, gx, Int.reduceToNat] <;> omega
        · replace hb5 := eq_false_of_ne_true hb5
          rw [if_f hb5] at hp
          have hp := Option.some.inj hp
          subst hp
          simp (maxSteps := 2000000) (disch := first | omega | (simp only [ls]; first | done | omega)) only [hO0, hO1, hO2, hO3, hO4, hO5, hO6, hO7, hO8, ep_spec_LogOK, ep_spec_l08Find, ep_spec_l08SameOp, hv0, hb1, hv2, hb3, ftt0_0, ftt0_1, ftt0_2, hb5, gx, Int.reduceToNat] <;> omega
      · simp (maxSteps := 2000000) (disch := first | omega | (simp only [ls]; first | done | omega)) only [hO0, hO1, hO2, hO3, hO4, hO5, hO6, hO7, hO8, ep_spec_LogOK, ep_spec_l08Find, ep_spec_l08SameOp, hv0, hb1, hv2, hb3, gx, Int.reduceToNat] <;> omega
      · intro x tt1 hh1 hx
        rcases ee0 with o12 | r
        · obtain ⟨rfl, ftt1_0, ftt1_1, ftt1_2⟩ := hx
          dsimp only at hp
          have hp := Option.some.inj hp
          subst hp
          simp (maxSteps := 2000000) (disch := first | omega | (simp only [ls]; first | done | omega)) only [hO0, hO1, hO2, hO3, hO4, hO5, hO6, hO7, hO8, ep_spec_LogOK, ep_spec_l08Find, ep_spec_l08SameOp, hv0, hb1, hv2, hb3, ftt1_0, ftt1_1, ftt1_2, gx, Int.reduceToNat]
        · obtain ⟨rfl, hx⟩ := hx
          dsimp only at hp
          cases hp
          simp only [seqK_ret, blockK_ret, retK_RK (K := Tells true), hx, and_self, true_and]
    · replace hb3 := eq_false_of_ne_true hb3
      rw [if_f hb3] at hp
      have hp := Option.some.inj hp
      subst hp
      simp (maxSteps := 2000000) (disch := first | omega | (simp only [ls]; first | done | omega)) only [hO0, hO1, hO2, hO3, hO4, hO5, hO6, hO7, hO8, ep_spec_LogOK, ep_spec_l08Find, ep_spec_l08SameOp, hv0, hb1, hv2, hb3, gx, Int.reduceToNat]
  · replace hb1 := eq_false_of_ne_true hb1
    rw [if_f hb1] at hp
    have hp := Option.some.inj hp
    subst hp
    simp (maxSteps := 2000000) (disch := first | omega | (simp only [ls]; first | done | omega)) only [hO0, hO1, hO2, hO3, hO4, hO5, hO6, hO7, hO8, ep_spec_LogOK, ep_spec_l08Find, ep_spec_l08SameOp, hv0, hb1, gx, Int.reduceToNat]

noncomputable def p_spec_l02Copy (x0 : TVec) : Option TVec :=
  (app? 8 ([] : List Int) x0.counts).bind fun v0 =>
  some (TVec.mk v0)
def c_spec_l02Copy : AFn := ⟨8, (.seq (.ops [⟨(.some 1), (.box (.tmp 0)), .none, []⟩, ⟨(.some 2), (.allocV [(1, false)] [(.slice .none 0 0)]), .none, []⟩]) (.seq (.ops [⟨(.some 3), (.buildSl 1 false 0 [(.int .i64 0)] []), .none, []⟩, ⟨(.some 4), (.fieldA 0 (.tmp 1)), .none, []⟩, ⟨(.some 5), (.load 1 false (.tmp 4)), .none, []⟩, ⟨(.some 6), (.append 1 false 8 (.tmp 3) (.tmp 5)), .none, []⟩, ⟨(.some 7), (.build [(.slice .none 0 0)] [(0, (1, (.tmp 6)))]), .none, []⟩, ⟨.none, (.storeV [(1, false)] 1 (.tmp 2) (.tmp 7)), .none, []⟩]) .ret)), [(.cell 2 1 true)]⟩
def o_spec_l02Copy (b : TVec) (v : V) (h : Heap) : Prop := ∃ n0 : Nat, v = .agg [.hsl n0 b.counts.length 0 1 false b.counts.length] ∧ getCells h n0 b.counts.length = some (rows b.counts)
def oo_spec_l02Copy (b : TVec) (h : Heap) (v : V) (h2 : Heap) : Prop := Keep [] h h2 ∧ ∃ n0 : Nat, v = .agg [.hsl n0 b.counts.length 0 1 false b.counts.length] ∧ n0 < h2.length ∧ h.length ≤ n0 ∧ getCells h2 n0 b.counts.length = some (rows b.counts)
def k_spec_l02Copy (F : Fun) : Prop := ∀ (x0 : TVec) (b : TVec), p_spec_l02Copy x0 = some b → ∀ (h : Heap) (args : List V), snapA 9 false h args = some (encA (x0)) → ∃ p, F none args h = some p ∧ oo_spec_l02Copy b h p.1 p.2
set_option maxHeartbeats 10000000 in
theorem w_spec_l02Copy {P : Program} {env : Env}  (x0 : TVec) {b : TVec} (hp : p_spec_l02Copy x0 = some b) : R P env (c_spec_l02Copy) ((encA (x0)).map ofI) [] (o_spec_l02Copy b) := by
  refine R_of (by simp [c_spec_l02Copy, encA]) ?_
  unfold c_spec_l02Copy
  unfold p_spec_l02Copy at hp
  obtain ⟨v0, hv0, hp⟩ := bind_eq hp
  simp (maxSteps := 2000000) (disch := first | omega | (simp only [ls]; first | done | omega)) only [gx, Int.reduceToNat]
  refine app_f (b := 3) (xs := ([] : List Int)) (ys := x0.counts) (fun h => getCells h 0 1 = some [.i (.sl 1 (x0.counts.map enc))] ∧ 0 < h.length ∧ getCells h 1 0 = some [] ∧ 1 < h.length ∧ getCells h 2 1 = some [.hsl 1 0 0 1 false 0] ∧ 2 < h.length ∧ getCells h 3 0 = some [] ∧ 3 < h.length) ?_ ?_ hv0 rfl (by first | rfl | omega | (simp; omega)) (by first | rfl | omega | (simp; omega)) (by first | rfl | omega | (simp; omega)) ?_
  · simp (maxSteps := 2000000) (disch := first | omega | (simp only [ls]; first | done | omega)) only [hv0, gx, Int.reduceToNat] <;> omega
  · rintro h ⟨c0_0, c0_1, c0_2, c0_3, c0_4, c0_5, c0_6, c0_7⟩
    exact gc_eq c0_6 (by omega)
  · rintro h hh0 ⟨c0_0, c0_1, c0_2, c0_3, c0_4, c0_5, c0_6, c0_7⟩ kk0 w0
    have d0_0 : getCells hh0 0 1 = some [.i (.sl 1 (x0.counts.map enc))] := (keep_get kk0 c0_1 (by first | (simp; done) | (simp; omega))).trans c0_0
    have d0_0l := keep_lt kk0 c0_1
    have d0_1 : getCells hh0 1 0 = some [] := (keep_get kk0 c0_3 (by first | (simp; done) | (simp; omega))).trans c0_2
    have d0_1l := keep_lt kk0 c0_3
    have d0_2 : getCells hh0 2 1 = some [.hsl 1 0 0 1 false 0] := (keep_get kk0 c0_5 (by first | (simp; done) | (simp; omega))).trans c0_4
    have d0_2l := keep_lt kk0 c0_5
    have d0_3 : getCells hh0 3 v0.length = some (rows (v0 : List Int)) := by simpa only [Nat.mul_one] using w0
    have d0_3l := keep_lt kk0 c0_7
    have hp := Option.some.inj hp
    subst hp
    simp (maxSteps := 2000000) (disch := first | omega | (simp only [ls]; first | done | omega)) only [hv0, d0_0, d0_1, d0_2, d0_3, gx, Int.reduceToNat]
    refine ⟨3, ?_⟩
    simp (maxSteps := 2000000) (disch := first | omega | (simp only [ls]; first | done | omega)) only [hv0, d0_0, d0_1, d0_2, d0_3, o_spec_l02Copy, gx, Int.reduceToNat] <;> omega
theorem ko_spec_l02Copy {P : Program} {env : Env}  : k_spec_l02Copy (ownFn P env (c_spec_l02Copy)) := by
  intro x0 b hp h args has
  obtain ⟨⟨v, H2⟩, hr, n0, rfl, wn0⟩ := w_spec_l02Copy x0 hp
  exact ⟨_, own_call has hr rfl, keep_moved, n0 + h.length, rfl, (moved_lt wn0).2, (moved_lt wn0).1, moved_rows wn0⟩

noncomputable def p_spec_l08CopyOp (x0 : TOp) : Option TOp :=
  (p_spec_l02Copy x0.deps).bind fun v0 =>
  some (TOp.mk x0.actor x0.seq x0.time v0 x0.kind x0.obj x0.n x0.undo x0.at_ x0.key x0.text)
def c_spec_l08CopyOp (f_spec_l02Copy : Nat) : AFn := ⟨8, (.seq (.ops [⟨(.some 1), (.box (.tmp 0)), .none, []⟩, ⟨(.some 2), (.allocV [(0, false), (0, false), (0, false), (1, false), (0, false), (0, false), (0, false), (0, false), (0, false), (0, false), (0, false), (0, false)] [(.int .i64 0), (.int .i64 0), (.int .i64 0), (.slice .none 0 0), (.int .i64 0), (.int .i64 0), (.int .i64 0), (.int .i64 0), (.int .i64 0), (.int .i64 0), (.string ⟨#[]⟩), (.string ⟨#[]⟩)]), .none, []⟩]) (.seq (.ops [⟨(.some 3), (.fieldA 3 (.tmp 1)), .none, []⟩, ⟨(.some 4), (.load 1 true (.tmp 3)), .none, []⟩, ⟨(.some 5), (.call (2 * f_spec_l02Copy + 1) [(.tmp 4)]), .none, []⟩, ⟨(.some 6), (.fieldA 3 (.tmp 1)), .none, []⟩, ⟨.none, (.storeV [(1, false)] 1 (.tmp 6) (.tmp 5)), .none, []⟩]) (.seq (.ops [⟨(.some 7), (.load 12 true (.tmp 1)), .none, []⟩, ⟨.none, (.storeV [(0, false), (0, false), (0, false), (1, false), (0, false), (0, false), (0, false), (0, false), (0, false), (0, false), (0, false), (0, false)] 12 (.tmp 2) (.tmp 7)), .none, []⟩]) .ret))), [(.cell 2 12 true)]⟩
set_option maxHeartbeats 10000000 in
theorem d_spec_l08CopyOp {P : Program} {env : Env} {f_spec_l02Copy : Nat}  (e_spec_l02Copy : k_spec_l02Copy (env (2 * f_spec_l02Copy + 1))) (x0 : TOp) {b : TOp} (hp : p_spec_l08CopyOp x0 = some b) : R P env (c_spec_l08CopyOp f_spec_l02Copy) ((encA (x0)).map ofI) [] (Tells true b) := by
  refine R_of (by simp [c_spec_l08CopyOp, encA]) ?_
  have hO0 := @opc_virtC
  have hO1 := @opc_nilsOf
  have hO2 := @opc_virtV
  have hO3 := @opc_nilsV
  have hO4 := @opc_one
  have hO5 := @opc_splice
  have hO6 := @opc_virtVw
  have hO7 := @opc_nilsVw
  have hO8 := @opc_onew
  unfold c_spec_l08CopyOp
  unfold p_spec_l08CopyOp at hp
  obtain ⟨v0, hv0, hp⟩ := bind_eq hp
  simp (maxSteps := 2000000) (disch := first | omega | (simp only [ls]; first | done | omega)) only [hO0, hO1, hO2, hO3, hO4, hO5, hO6, hO7, hO8, gx, Int.reduceToNat]
  refine call_f (fun h => getCells h 0 12 = some [.i (.s (.int .i64 x0.actor)), .i (.s (.int .i64 x0.seq)), .i (.s (.int .i64 x0.time)), .i (.sl 1 (x0.deps.counts.map enc)), .i (.s (.int .i64 x0.kind)), .i (.s (.int .i64 x0.obj)), .i (.s (.int .i64 x0.n)), .i (.s (.int .i64 x0.undo)), .i (.s (.int .i64 x0.at_.time)), .i (.s (.int .i64 x0.at_.actor)), .i (.s (.string x0.key)), .i (.s (.string x0.text))] ∧ 0 < h.length ∧ getCells h 1 0 = some [] ∧ 1 < h.length ∧ getCells h 2 12 = some [.i (.s (.int .i64 0)), .i (.s (.int .i64 0)), .i (.s (.int .i64 0)), .hsl 1 0 0 1 false 0, .i (.s (.int .i64 0)), .i (.s (.int .i64 0)), .i (.s (.int .i64 0)), .i (.s (.int .i64 0)), .i (.s (.int .i64 0)), .i (.s (.int .i64 0)), .i (.s (.string (ByteArray.mk #[]))), .i (.s (.string (ByteArray.mk #[])))] ∧ 2 < h.length) (fun h v h2 => oo_spec_l02Copy v0 h v h2) ?_ ?_ ?_
  · simp (maxSteps := 2000000) (disch := first | omega | (simp only [ls]; first | done | omega)) only [hO0, hO1, hO2, hO3, hO4, hO5, hO6, hO7, hO8, hv0, gx, Int.reduceToNat] <;> omega
  · rintro h ⟨c0_0, c0_1, c0_2, c0_3, c0_4, c0_5⟩
    exact e_spec_l02Copy _ _ hv0 h _ (by simp (maxSteps := 2000000) (disch := first | omega | (simp only [ls]; first | done | omega)) only [hO0, hO1, hO2, hO3, hO4, hO5, hO6, hO7, hO8, hv0, c0_0, c0_1, c0_2, c0_3, c0_4, c0_5, gx, Int.reduceToNat])
  · rintro hc0 v hh0 ⟨c0_0, c0_1, c0_2, c0_3, c0_4, c0_5⟩ hpost
    obtain ⟨kk0, nb0_0, rfl, lnb0_0, gnb0_0, wnb0_0⟩ := hpost
    have d0_0 : getCells hh0 0 12 = some [.i (.s (.int .i64 x0.actor)), .i (.s (.int .i64 x0.seq)), .i (.s (.int .i64 x0.time)), .i (.sl 1 (x0.deps.counts.map enc)), .i (.s (.int .i64 x0.kind)), .i (.s (.int .i64 x0.obj)), .i (.s (.int .i64 x0.n)), .i (.s (.int .i64 x0.undo)), .i (.s (.int .i64 x0.at_.time)), .i (.s (.int .i64 x0.at_.actor)), .i (.s (.string x0.key)), .i (.s (.string x0.text))] := (keep_get kk0 c0_1 (by first | (simp; done) | (simp; omega))).trans c0_0
    have d0_0l := keep_lt kk0 c0_1
    have d0_1 : getCells hh0 1 0 = some [] := (keep_get kk0 c0_3 (by first | (simp; done) | (simp; omega))).trans c0_2
    have d0_1l := keep_lt kk0 c0_3
    have d0_2 : getCells hh0 2 12 = some [.i (.s (.int .i64 0)), .i (.s (.int .i64 0)), .i (.s (.int .i64 0)), .hsl 1 0 0 1 false 0, .i (.s (.int .i64 0)), .i (.s (.int .i64 0)), .i (.s (.int .i64 0)), .i (.s (.int .i64 0)), .i (.s (.int .i64 0)), .i (.s (.int .i64 0)), .i (.s (.string (ByteArray.mk #[]))), .i (.s (.string (ByteArray.mk #[])))] := (keep_get kk0 c0_5 (by first | (simp; done) | (simp; omega))).trans c0_4
    have d0_2l := keep_lt kk0 c0_5
    have d0_3 := wnb0_0
    have hp := Option.some.inj hp
    subst hp
    simp (maxSteps := 2000000) (disch := first | omega | (simp only [ls]; first | done | omega)) only [hO0, hO1, hO2, hO3, hO4, hO5, hO6, hO7, hO8, hv0, d0_0, d0_1, d0_2, d0_3, gx, Int.reduceToNat]

noncomputable def p_spec_LogSince_l0 (x0 : List TOp) (x1 : TVec) : List TOp × Int → Option (Lp (List TOp × Int) (T2 (List TOp) Int))
  | (s4, s5) =>
    if (decide (s5 < (x0.length : Int))) = true then
      (get? x0 s5).bind fun v7 =>
      (get? x1.counts v7.actor).bind fun v8 =>
      if (decide (v8 < v7.seq)) = true then
        (p_spec_l08CopyOp v7).bind fun v10 =>
        (app? 128 s4 ([v10])).bind fun v11 =>
        some (.go (v11, w64 (s5 + 1)))
      else
        some (.go (s4, w64 (s5 + 1)))
    else
      some (.out (s4, s5))
noncomputable def p_spec_LogSince (x0 : List TOp) (x1 : TVec) : Option (T2 (List TOp) Int) :=
  (p_spec_LogOK x0).bind fun v0 =>
  if (v0) = true then
    (p_spec_VecOK x1).bind fun v2 =>
    if (v2) = true then
      (loopP (p_spec_LogSince_l0 x0 x1) (([] : List TOp), 0)).bind fun ee0 => match ee0 with
      | .ret r => some r
      | .out (o12, o13) =>
        some ⟨o12, 0⟩
    else
      some ⟨[], 1⟩
  else
    some ⟨[], 1⟩
def c_spec_LogSince (f_spec_LogOK : Nat) (f_spec_VecOK : Nat) (f_spec_l08CopyOp : Nat) : AFn := ⟨48, (.seq (.ops [⟨(.some 3), (.box (.tmp 1)), .none, []⟩, ⟨(.some 4), (.vnil 12 true), .none, []⟩, ⟨(.some 5), (.mv (.const (.int .i64 0))), .none, []⟩]) (.seq (.seq (.ops [⟨(.some 8), (.mv (.tmp 0)), .none, []⟩, ⟨(.some 9), (.call (2 * f_spec_LogOK) [(.tmp 8)]), .none, []⟩, ⟨(.some 10), (.pu (.n (.un .not)) [(.tmp 9)]), .none, []⟩, ⟨(.some 11), (.mv (.tmp 10)), .none, []⟩, ⟨(.some 12), (.load 1 true (.tmp 3)), (.some (11, false)), []⟩, ⟨(.some 13), (.call (2 * f_spec_VecOK) [(.tmp 12)]), (.some (11, false)), []⟩, ⟨(.some 14), (.pu (.n (.un .not)) [(.tmp 13)]), (.some (11, false)), []⟩, ⟨(.some 15), (.pick (.tmp 11) (.const (.bool true)) (.tmp 14)), .none, []⟩]) (.cond (.tmp 15) (.seq (.ops [⟨(.some 16), (.buildSl 12 true 0 [(.int .i64 0), (.int .i64 0), (.int .i64 0), (.slice .none 0 0), (.int .i64 0), (.int .i64 0), (.int .i64 0), (.int .i64 0), (.int .i64 0), (.int .i64 0), (.string ⟨#[]⟩), (.string ⟨#[]⟩)] []), .none, []⟩, ⟨(.some 4), (.mv (.tmp 16)), .none, []⟩, ⟨(.some 5), (.mv (.const (.int .i64 1))), .none, []⟩]) .ret) .skip)) (.seq (.ops [⟨(.some 17), (.buildSl 12 true 0 [(.int .i64 0), (.int .i64 0), (.int .i64 0), (.slice .none 0 0), (.int .i64 0), (.int .i64 0), (.int .i64 0), (.int .i64 0), (.int .i64 0), (.int .i64 0), (.string ⟨#[]⟩), (.string ⟨#[]⟩)] []), .none, []⟩, ⟨(.some 6), (.mv (.tmp 17)), .none, []⟩]) (.seq (.seq (.ops [⟨(.some 7), (.mv (.const (.int .i64 0))), .none, []⟩]) (.block 0 (.loop (.seq (.seq (.ops [⟨(.some 18), (.mv (.tmp 7)), .none, []⟩, ⟨(.some 19), (.mv (.tmp 0)), .none, []⟩, ⟨(.some 20), (.len (.tmp 19)), .none, []⟩, ⟨(.some 21), (.pu (.n (.ar .lss)) [(.tmp 18), (.tmp 20)]), .none, []⟩]) (.cond (.tmp 21) .skip (.exit 0))) (.seq (.block 1 (.seq (.ops [⟨(.some 24), (.mv (.tmp 0)), .none, []⟩, ⟨(.some 25), (.mv (.tmp 7)), .none, []⟩, ⟨(.some 26), (.idxS 12 (.tmp 24) (.tmp 25)), .none, []⟩, ⟨(.some 27), (.fieldA 1 (.tmp 26)), .none, []⟩, ⟨(.some 28), (.load 1 false (.tmp 27)), .none, []⟩, ⟨(.some 29), (.fieldA 0 (.tmp 3)), .none, []⟩, ⟨(.some 30), (.load 1 false (.tmp 29)), .none, []⟩, ⟨(.some 31), (.mv (.tmp 0)), .none, []⟩, ⟨(.some 32), (.mv (.tmp 7)), .none, []⟩, ⟨(.some 33), (.idxS 12 (.tmp 31) (.tmp 32)), .none, []⟩, ⟨(.some 34), (.fieldA 0 (.tmp 33)), .none, []⟩, ⟨(.some 35), (.load 1 false (.tmp 34)), .none, []⟩, ⟨(.some 36), (.idxS 1 (.tmp 30) (.tmp 35)), .none, []⟩, ⟨(.some 37), (.load 1 false (.tmp 36)), .none, []⟩, ⟨(.some 38), (.pu (.n (.ar .gtr)) [(.tmp 28), (.tmp 37)]), .none, []⟩]) (.cond (.tmp 38) (.ops [⟨(.some 39), (.mv (.tmp 6)), .none, []⟩, ⟨(.some 40), (.mv (.tmp 0)), .none, []⟩, ⟨(.some 41), (.mv (.tmp 7)), .none, []⟩, ⟨(.some 42), (.idxS 12 (.tmp 40) (.tmp 41)), .none, []⟩, ⟨(.some 43), (.load 12 true (.tmp 42)), .none, []⟩, ⟨(.some 44), (.call (2 * f_spec_l08CopyOp) [(.tmp 43)]), .none, []⟩, ⟨(.some 45), (.buildSl 12 true 1 [(.int .i64 0), (.int .i64 0), (.int .i64 0), (.slice .none 0 0), (.int .i64 0), (.int .i64 0), (.int .i64 0), (.int .i64 0), (.int .i64 0), (.int .i64 0), (.string ⟨#[]⟩), (.string ⟨#[]⟩)] [(0, (.tmp 44))]), .none, []⟩, ⟨(.some 46), (.append 12 true 128 (.tmp 39) (.tmp 45)), .none, []⟩, ⟨(.some 6), (.mv (.tmp 46)), .none, []⟩]) .skip))) (.ops [⟨(.some 22), (.mv (.tmp 7)), .none, []⟩, ⟨(.some 23), (.pu (.n (.ar .add)) [(.tmp 22), (.const (.int .i64 1))]), .none, []⟩, ⟨(.some 7), (.mv (.tmp 23)), .none, []⟩])))))) (.seq (.ops [⟨(.some 47), (.mv (.tmp 6)), .none, []⟩, ⟨(.some 4), (.mv (.tmp 47)), .none, []⟩, ⟨(.some 5), (.mv (.const (.int .i64 0))), .none, []⟩]) .ret))))), [(.tmp 4), (.tmp 5)]⟩
set_option maxHeartbeats 10000000 in
theorem d_spec_LogSince {P : Program} {env : Env} {f_spec_LogOK : Nat} {f_spec_VecOK : Nat} {f_spec_l08CopyOp : Nat}  (ep_spec_LogOK : env (2 * f_spec_LogOK) = pureFn true (FA fun a : List TOp => p_spec_LogOK a)) (ep_spec_VecOK : env (2 * f_spec_VecOK) = pureFn true (FA fun a : TVec => p_spec_VecOK a)) (ep_spec_l08CopyOp : env (2 * f_spec_l08CopyOp) = pureFn true (FA fun a : TOp => p_spec_l08CopyOp a)) (x0 : List TOp) (x1 : TVec) {b : T2 (List TOp) Int} (hp : p_spec_LogSince x0 x1 = some b) : R P env (c_spec_LogSince f_spec_LogOK f_spec_VecOK f_spec_l08CopyOp) ((encA (x0, x1)).map ofI) [] (Tells false b) := by
  refine R_of (by simp [c_spec_LogSince, encA]) ?_
  have hO0 := @opc_virtC
  have hO1 := @opc_nilsOf
  have hO2 := @opc_virtV
  have hO3 := @opc_nilsV
  have hO4 := @opc_one
  have hO5 := @opc_splice
  have hO6 := @opc_virtVw
  have hO7 := @opc_nilsVw
  have hO8 := @opc_onew
  unfold c_spec_LogSince
  unfold p_spec_LogSince at hp
  obtain ⟨v0, hv0, hp⟩ := bind_eq hp
  by_cases hb1 : (v0) = true
  · rw [if_t hb1] at hp
    obtain ⟨v2, hv2, hp⟩ := bind_eq hp
    by_cases hb3 : (v2) = true
    · rw [if_t hb3] at hp
      obtain ⟨ee0, hee0, hp⟩ := bind_eq hp
      simp (maxSteps := 2000000) (disch := first | omega | (simp only [ls]; first | done | omega)) only [hO0, hO1, hO2, hO3, hO4, hO5, hO6, hO7, hO8, ep_spec_LogOK, ep_spec_VecOK, ep_spec_l08CopyOp, hv0, hb1, hv2, hb3, gx, Int.reduceToNat]
      refine W_loopP 0 (fun s t h => match s with | (s4, s5) => t 0 = .i (.sl 12 (x0.map enc)) ∧ t 3 = .ptr 0 1 0 ∧ t 6 = .hsl 2 (s4.length * 12) 0 12 true s4.length ∧ t 7 = .i (.s (.int .i64 s5)) ∧ getCells h 0 1 = some [.i (.sl 1 (x1.counts.map enc))] ∧ 0 < h.length ∧ getCells h 2 (s4.length * 12) = some (rows (s4 : List TOp)) ∧ 2 < h.length) (RK [.tmp 4, .tmp 5] (Tells false)) ?_ hee0 ?_ ?_
      · rintro ⟨s4, s5⟩ ee tt0 hh0 ⟨ftt0_0, ftt0_1, ftt0_2, ftt0_3, ftt0_4, ftt0_5, ftt0_6, ftt0_7⟩ hp
        rw [p_spec_LogSince_l0] at hp
        by_cases hb6 : (decide (s5 < (x0.length : Int))) = true
        · rw [if_t hb6] at hp
          obtain ⟨v7, hv7, hp⟩ := bind_eq hp
          obtain ⟨v8, hv8, hp⟩ := bind_eq hp
          by_cases hb9 : (decide (v8 < v7.seq)) = true
          · rw [if_t hb9] at hp
            obtain ⟨v10, hv10, hp⟩ := bind_eq hp
            obtain ⟨v11, hv11, hp⟩ := bind_eq hp
            obtain ⟨kv11, qv11, lv11⟩ := app_some hv11
            have rv11 : rows s4 ++ [.i (.s (.int .i64 v10.actor)), .i (.s (.int .i64 v10.seq)), .i (.s (.int .i64 v10.time)), .i (.sl 1 (v10.deps.counts.map enc)), .i (.s (.int .i64 v10.kind)), .i (.s (.int .i64 v10.obj)), .i (.s (.int .i64 v10.n)), .i (.s (.int .i64 v10.undo)), .i (.s (.int .i64 v10.at_.time)), .i (.s (.int .i64 v10.at_.actor)), .i (.s (.string v10.key)), .i (.s (.string v10.text))] = rows v11 := by rw [qv11, rows_append]; rfl
            have mv11 : s4.length + 1 = v11.length := by simp at lv11; omega
            have nv11 : (s4.length + 1) * 128 ≤ 140737488355328 := by simp at kv11; omega
            have hp := Option.some.inj hp
            subst hp
            simp (maxSteps := 2000000) (disch := first | omega | (simp only [ls]; first | done | omega)) only [hO0, hO1, hO2, hO3, hO4, hO5, hO6, hO7, hO8, ep_spec_LogOK, ep_spec_VecOK, ep_spec_l08CopyOp, hv0, hb1, hv2, hb3, ftt0_0, ftt0_1, ftt0_2, ftt0_3, ftt0_4, ftt0_5, ftt0_6, ftt0_7, hb6, hv7, hv8, hb9, hv10, hv11, rv11, nv11, gx, Int.reduceToNat] <;> omega
          · replace hb9 := eq_false_of_ne_true hb9
            rw [if_f hb9] at hp
            have hp := Option.some.inj hp
            subst hp
            simp (maxSteps := 2000000) (disch := first | omega | (simp only [ls]; first | done | omega)) only [hO0, hO1, hO2, hO3, hO4, hO5, hO6, hO7, hO8, ep_spec_LogOK, ep_spec_VecOK, ep_spec_l08CopyOp, hv0, hb1, hv2, hb3, ftt0_0, ftt0_1, ftt0_2, ftt0_3, ftt0_4, ftt0_5, ftt0_6, ftt0_7, hb6, hv7, hv8, hb9, gx, Int.reduceToNat] <;> omega
        · replace hb6 := eq_false_of_ne_true hb6
          rw [if_f hb6] at hp
          have hp := Option.some.inj hp
          subst hp
          simp (maxSteps := 2000000) (disch := first | omega | (simp only [ls]; first | done | omega)) only [hO0, hO1, hO2, hO3, hO4, hO5, hO6, hO7, hO8, ep_spec_LogOK, ep_spec_VecOK, ep_spec_l08CopyOp, hv0, hb1, hv2, hb3, ftt0_0, ftt0_1, ftt0_2, ftt0_3, ftt0_4, ftt0_5, ftt0_6, ftt0_7, hb6, gx, Int.reduceToNat] <;> omega
      · simp (maxSteps := 2000000) (disch := first | omega | (simp only [ls]; first | done | omega)) only [hO0, hO1, hO2, hO3, hO4, hO5, hO6, hO7, hO8, ep_spec_LogOK, ep_spec_VecOK, ep_spec_l08CopyOp, hv0, hb1, hv2, hb3, gx, Int.reduceToNat] <;> omega
      · intro x tt1 hh1 hx
        rcases ee0 with ⟨o12, o13⟩ | r
        · obtain ⟨rfl, ftt1_0, ftt1_1, ftt1_2, ftt1_3, ftt1_4, ftt1_5, ftt1_6, ftt1_7⟩ := hx
          dsimp only at hp
          have hp := Option.some.inj hp
          subst hp
          simp (maxSteps := 2000000) (disch := first | omega | (simp only [ls]; first | done | omega)) only [hO0, hO1, hO2, hO3, hO4, hO5, hO6, hO7, hO8, ep_spec_LogOK, ep_spec_VecOK, ep_spec_l08CopyOp, hv0, hb1, hv2, hb3, ftt1_0, ftt1_1, ftt1_2, ftt1_3, ftt1_4, ftt1_5, ftt1_6, ftt1_7, gx, Int.reduceToNat]
        · obtain ⟨rfl, hx⟩ := hx
          dsimp only at hp
          cases hp
          simp only [seqK_ret, blockK_ret, retK_RK (K := Tells false), hx, and_self, true_and]
    · replace hb3 := eq_false_of_ne_true hb3
      rw [if_f hb3] at hp
      have hp := Option.some.inj hp
      subst hp
      simp (maxSteps := 2000000) (disch := first | omega | (simp only [ls]; first | done | omega)) only [hO0, hO1, hO2, hO3, hO4, hO5, hO6, hO7, hO8, ep_spec_LogOK, ep_spec_VecOK, ep_spec_l08CopyOp, hv0, hb1, hv2, hb3, gx, Int.reduceToNat]
  · replace hb1 := eq_false_of_ne_true hb1
    rw [if_f hb1] at hp
    have hp := Option.some.inj hp
    subst hp
    simp (maxSteps := 2000000) (disch := first | omega | (simp only [ls]; first | done | omega)) only [hO0, hO1, hO2, hO3, hO4, hO5, hO6, hO7, hO8, ep_spec_LogOK, ep_spec_VecOK, ep_spec_l08CopyOp, hv0, hb1, gx, Int.reduceToNat]

noncomputable def p_spec_BranchAhead (x0 : List TOp) (x1 : List TOp) : Option (T2 (List TOp) Int) :=
  (p_spec_l11Code x0 x1).bind fun v0 =>
  if (decide (v0 = 0)) = true then
    (p_spec_l08Counts x1).bind fun v2 =>
    (p_spec_LogSince x0 v2).bind fun v3 =>
    some ⟨v3.a, v3.b⟩
  else
    some ⟨[], v0⟩
def c_spec_BranchAhead (f_spec_l11Code : Nat) (f_spec_l08Counts : Nat) (f_spec_LogSince : Nat) : AFn := ⟨20, (.seq (.ops [⟨(.some 4), (.vnil 12 true), .none, []⟩, ⟨(.some 5), (.mv (.const (.int .i64 0))), .none, []⟩]) (.seq (.ops [⟨(.some 7), (.mv (.tmp 0)), .none, []⟩, ⟨(.some 8), (.mv (.tmp 1)), .none, []⟩, ⟨(.some 9), (.call (2 * f_spec_l11Code) [(.tmp 7), (.tmp 8)]), .none, []⟩, ⟨(.some 6), (.mv (.tmp 9)), .none, []⟩]) (.seq (.seq (.ops [⟨(.some 10), (.mv (.tmp 6)), .none, []⟩, ⟨(.some 11), (.pu (.n (.ar .neq)) [(.tmp 10), (.const (.int .i64 0))]), .none, []⟩]) (.cond (.tmp 11) (.seq (.ops [⟨(.some 12), (.buildSl 12 true 0 [(.int .i64 0), (.int .i64 0), (.int .i64 0), (.slice .none 0 0), (.int .i64 0), (.int .i64 0), (.int .i64 0), (.int .i64 0), (.int .i64 0), (.int .i64 0), (.string ⟨#[]⟩), (.string ⟨#[]⟩)] []), .none, []⟩, ⟨(.some 13), (.mv (.tmp 6)), .none, []⟩, ⟨(.some 4), (.mv (.tmp 12)), .none, []⟩, ⟨(.some 5), (.mv (.tmp 13)), .none, []⟩]) .ret) .skip)) (.seq (.ops [⟨(.some 14), (.mv (.tmp 0)), .none, []⟩, ⟨(.some 15), (.mv (.tmp 1)), .none, []⟩, ⟨(.some 16), (.call (2 * f_spec_l08Counts) [(.tmp 15)]), .none, []⟩, ⟨(.some 17), (.call (2 * f_spec_LogSince) [(.tmp 14), (.tmp 16)]), .none, []⟩, ⟨(.some 18), (.extract 0 (.tmp 17)), .none, []⟩, ⟨(.some 19), (.extract 1 (.tmp 17)), .none, []⟩, ⟨(.some 4), (.mv (.tmp 18)), .none, []⟩, ⟨(.some 5), (.mv (.tmp 19)), .none, []⟩]) .ret)))), [(.tmp 4), (.tmp 5)]⟩
set_option maxHeartbeats 10000000 in
theorem d_spec_BranchAhead {P : Program} {env : Env} {f_spec_l11Code : Nat} {f_spec_l08Counts : Nat} {f_spec_LogSince : Nat}  (ep_spec_l11Code : env (2 * f_spec_l11Code) = pureFn true (FA fun a : List TOp × List TOp => p_spec_l11Code a.1 a.2)) (ep_spec_l08Counts : env (2 * f_spec_l08Counts) = pureFn true (FA fun a : List TOp => p_spec_l08Counts a)) (ep_spec_LogSince : env (2 * f_spec_LogSince) = pureFn false (FA fun a : List TOp × TVec => p_spec_LogSince a.1 a.2)) (x0 : List TOp) (x1 : List TOp) {b : T2 (List TOp) Int} (hp : p_spec_BranchAhead x0 x1 = some b) : R P env (c_spec_BranchAhead f_spec_l11Code f_spec_l08Counts f_spec_LogSince) ((encA (x0, x1)).map ofI) [] (Tells false b) := by
  refine R_of (by simp [c_spec_BranchAhead, encA]) ?_
  have hO0 := @opc_virtC
  have hO1 := @opc_nilsOf
  have hO2 := @opc_virtV
  have hO3 := @opc_nilsV
  have hO4 := @opc_one
  have hO5 := @opc_splice
  have hO6 := @opc_virtVw
  have hO7 := @opc_nilsVw
  have hO8 := @opc_onew
  unfold c_spec_BranchAhead
  unfold p_spec_BranchAhead at hp
  obtain ⟨v0, hv0, hp⟩ := bind_eq hp
  by_cases hb1 : (decide (v0 = 0)) = true
  · rw [if_t hb1] at hp
    obtain ⟨v2, hv2, hp⟩ := bind_eq hp
    obtain ⟨v3, hv3, hp⟩ := bind_eq hp
    have hp := Option.some.inj hp
    subst hp
    simp (maxSteps := 2000000) (disch := first | omega | (simp only [ls]; first | done | omega)) only [hO0, hO1, hO2, hO3, hO4, hO5, hO6, hO7, hO8, ep_spec_l11Code, ep_spec_l08Counts, ep_spec_LogSince, hv0, hb1, hv2, hv3, gx, Int.reduceToNat]
  · replace hb1 := eq_false_of_ne_true hb1
    rw [if_f hb1] at hp
    have hp := Option.some.inj hp
    subst hp
    simp (maxSteps := 2000000) (disch := first | omega | (simp only [ls]; first | done | omega)) only [hO0, hO1, hO2, hO3, hO4, hO5, hO6, hO7, hO8, ep_spec_l11Code, ep_spec_l08Counts, ep_spec_LogSince, hv0, hb1, gx, Int.reduceToNat]

noncomputable def p_impl_vecSame_l0 (x0 : TVec) (x1 : TVec) : Int → Option (Lp (Int) Bool)
  | s1 =>
    if (decide (s1 < (x0.counts.length : Int))) = true then
      (get? x0.counts s1).bind fun v3 =>
      (get? x1.counts s1).bind fun v4 =>
      if (decide (v3 = v4)) = true then
        some (.go (w64 (s1 + 1)))
      else
        some (.ret false)
    else
      some (.out s1)
noncomputable def p_impl_vecSame (x0 : TVec) (x1 : TVec) : Option Bool :=
  if (decide ((x0.counts.length : Int) = (x1.counts.length : Int))) = true then
    (loopP (p_impl_vecSame_l0 x0 x1) 0).bind fun ee0 => match ee0 with
    | .ret r => some r
    | .out o6 =>
      some true
  else
    some false
def c_impl_vecSame : AFn := ⟨30, (.seq (.ops [⟨(.some 2), (.box (.tmp 0)), .none, []⟩, ⟨(.some 3), (.box (.tmp 1)), .none, []⟩, ⟨(.some 4), (.mv (.const (.bool false))), .none, []⟩]) (.seq (.seq (.ops [⟨(.some 7), (.fieldA 0 (.tmp 2)), .none, []⟩, ⟨(.some 8), (.load 1 false (.tmp 7)), .none, []⟩, ⟨(.some 9), (.len (.tmp 8)), .none, []⟩, ⟨(.some 10), (.fieldA 0 (.tmp 3)), .none, []⟩, ⟨(.some 11), (.load 1 false (.tmp 10)), .none, []⟩, ⟨(.some 12), (.len (.tmp 11)), .none, []⟩, ⟨(.some 13), (.pu (.n (.ar .neq)) [(.tmp 9), (.tmp 12)]), .none, []⟩]) (.cond (.tmp 13) (.seq (.ops [⟨(.some 4), (.mv (.const (.bool false))), .none, []⟩]) .ret) .skip)) (.seq (.seq (.ops [⟨(.some 14), (.fieldA 0 (.tmp 2)), .none, []⟩, ⟨(.some 15), (.load 1 false (.tmp 14)), .none, []⟩, ⟨(.some 16), (.len (.tmp 15)), .none, []⟩, ⟨(.some 17), (.mv (.const (.int .i64 0))), .none, []⟩]) (.block 0 (.loop (.seq (.ops [⟨(.some 18), (.pu (.n (.ar .lss)) [(.tmp 17), (.tmp 16)]), .none, []⟩]) (.seq (.cond (.tmp 18) .skip (.exit 0)) (.seq (.block 1 (.seq (.ops [⟨(.some 19), (.mv (.tmp 17)), .none, []⟩, ⟨(.some 20), (.idxS 1 (.tmp 15) (.tmp 17)), .none, []⟩, ⟨(.some 21), (.load 1 false (.tmp 20)), .none, []⟩, ⟨(.some 5), (.mv (.tmp 19)), .none, []⟩, ⟨(.some 6), (.mv (.tmp 21)), .none, []⟩]) (.seq (.ops [⟨(.some 22), (.mv (.tmp 6)), .none, []⟩, ⟨(.some 23), (.fieldA 0 (.tmp 3)), .none, []⟩, ⟨(.some 24), (.load 1 false (.tmp 23)), .none, []⟩, ⟨(.some 25), (.mv (.tmp 5)), .none, []⟩, ⟨(.some 26), (.idxS 1 (.tmp 24) (.tmp 25)), .none, []⟩, ⟨(.some 27), (.load 1 false (.tmp 26)), .none, []⟩, ⟨(.some 28), (.pu (.n (.ar .neq)) [(.tmp 22), (.tmp 27)]), .none, []⟩]) (.cond (.tmp 28) (.seq (.ops [⟨(.some 4), (.mv (.const (.bool false))), .none, []⟩]) .ret) .skip)))) (.ops [⟨(.some 29), (.pu (.n (.ar .add)) [(.tmp 17), (.const (.int .i64 1))]), .none, []⟩, ⟨(.some 17), (.mv (.tmp 29)), .none, []⟩]))))))) (.seq (.ops [⟨(.some 4), (.mv (.const (.bool true))), .none, []⟩]) .ret)))), [(.tmp 4)]⟩
set_option maxHeartbeats 10000000 in
theorem d_impl_vecSame {P : Program} {env : Env}  (x0 : TVec) (x1 : TVec) {b : Bool} (hp : p_impl_vecSame x0 x1 = some b) : R P env (c_impl_vecSame) ((encA (x0, x1)).map ofI) [] (Tells true b) := by
  refine R_of (by simp [c_impl_vecSame, encA]) ?_
  unfold c_impl_vecSame
  unfold p_impl_vecSame at hp
  by_cases hb0 : (decide ((x0.counts.length : Int) = (x1.counts.length : Int))) = true
  · rw [if_t hb0] at hp
    obtain ⟨ee0, hee0, hp⟩ := bind_eq hp
    simp (maxSteps := 2000000) (disch := first | omega | (simp only [ls]; first | done | omega)) only [hb0, gx, Int.reduceToNat]
    refine W_loopP 0 (fun s t h => match s with | s1 => t 3 = .ptr 1 1 0 ∧ t 15 = .i (.sl 1 (x0.counts.map enc)) ∧ t 16 = .i (.s (.int .i64 (x0.counts.length : Int))) ∧ t 17 = .i (.s (.int .i64 s1)) ∧ getCells h 1 1 = some [.i (.sl 1 (x1.counts.map enc))] ∧ 1 < h.length) (RK [.tmp 4] (Tells true)) ?_ hee0 ?_ ?_
    · rintro s1 ee tt0 hh0 ⟨ftt0_0, ftt0_1, ftt0_2, ftt0_3, ftt0_4, ftt0_5⟩ hp
      rw [p_impl_vecSame_l0] at hp
      by_cases hb2 : (decide (s1 < (x0.counts.length : Int))) = true
      · rw [if_t hb2] at hp
        obtain ⟨v3, hv3, hp⟩ := bind_eq hp
        obtain ⟨v4, hv4, hp⟩ := bind_eq hp
        by_cases hb5 : (decide (v3 = v4)) = true
        · rw [if_t hb5] at hp
          have hp := Option.some.inj hp
          subst hp
          simp (maxSteps := 2000000) (disch := first | omega | (simp only [ls]; first | done | omega)) only [hb0, ftt0_0, ftt0_1, ftt0_2, ftt0_3, ftt0_4, ftt0_5, hb2, hv3, hv4, hb5, gx, Int.reduceToNat] <;> omega
        · replace hb5 := eq_false_of_ne_true hb5
          rw [if_f hb5] at hp
          have hp := Option.some.inj hp
          subst hp
          simp (maxSteps := 2000000) (disch := first | omega | (simp only [ls]; first | done | omega)) only [hb0, ftt0_0, ftt0_1, ftt0_2, ftt0_3, ftt0_4, ftt0_5, hb2, hv3, hv4, hb5, gx, Int.reduceToNat]
      · replace hb2 := eq_false_of_ne_true hb2
        rw [if_f hb2] at hp
        have hp := Option.some.inj hp
        subst hp
        simp (maxSteps := 2000000) (disch := first | omega | (simp only [ls]; first | done | omega)) only [hb0, ftt0_0, ftt0_1, ftt0_2, ftt0_3, ftt0_4, ftt0_5, hb2, gx, Int.reduceToNat] <;> omega
    · simp (maxSteps := 2000000) (disch := first | omega | (simp only [ls]; first | done | omega)) only [hb0, gx, Int.reduceToNat] <;> omega
    · intro x tt1 hh1 hx
      rcases ee0 with o6 | r
      · obtain ⟨rfl, ftt1_0, ftt1_1, ftt1_2, ftt1_3, ftt1_4, ftt1_5⟩ := hx
        dsimp only at hp
        have hp := Option.some.inj hp
        subst hp
        simp (maxSteps := 2000000) (disch := first | omega | (simp only [ls]; first | done | omega)) only [hb0, ftt1_0, ftt1_1, ftt1_2, ftt1_3, ftt1_4, ftt1_5, gx, Int.reduceToNat]
      · obtain ⟨rfl, hx⟩ := hx
        dsimp only at hp
        cases hp
        simp only [seqK_ret, blockK_ret, retK_RK (K := Tells true), hx, and_self, true_and]
  · replace hb0 := eq_false_of_ne_true hb0
    rw [if_f hb0] at hp
    have hp := Option.some.inj hp
    subst hp
    simp (maxSteps := 2000000) (disch := first | omega | (simp only [ls]; first | done | omega)) only [hb0, gx, Int.reduceToNat]

noncomputable def p_impl_opSame (x0 : TOp) (x1 : TOp) : Option Bool :=
  (p_impl_vecSame x0.deps x1.deps).bind fun v0 =>
  if (v0) = true then
    if (decide (x0.actor = x1.actor)) = true then
      if (decide (x0.seq = x1.seq)) = true then
        if (decide (x0.time = x1.time)) = true then
          if (decide (x0.kind = x1.kind)) = true then
            if (decide (x0.obj = x1.obj)) = true then
              if (decide (x0.n = x1.n)) = true then
                if (decide (x0.undo = x1.undo)) = true then
                  if ((decide (x0.at_.time = x1.at_.time) && decide (x0.at_.actor = x1.at_.actor))) = true then
                    if (decide (x0.key = x1.key)) = true then
                      some (decide (x0.text = x1.text))
                    else
                      some false
                  else
                    some false
                else
                  some false
              else
                some false
            else
              some false
          else
            some false
        else
          some false
      else
        some false
    else
      some false
  else
    some false
def c_impl_opSame (f_impl_vecSame : Nat) : AFn := ⟨79, (.seq (.ops [⟨(.some 2), (.box (.tmp 0)), .none, []⟩, ⟨(.some 3), (.box (.tmp 1)), .none, []⟩, ⟨(.some 4), (.mv (.const (.bool false))), .none, []⟩]) (.seq (.seq (.ops [⟨(.some 5), (.fieldA 3 (.tmp 2)), .none, []⟩, ⟨(.some 6), (.load 1 true (.tmp 5)), .none, []⟩, ⟨(.some 7), (.fieldA 3 (.tmp 3)), .none, []⟩, ⟨(.some 8), (.load 1 true (.tmp 7)), .none, []⟩, ⟨(.some 9), (.call (2 * f_impl_vecSame) [(.tmp 6), (.tmp 8)]), .none, []⟩, ⟨(.some 10), (.pu (.n (.un .not)) [(.tmp 9)]), .none, []⟩]) (.cond (.tmp 10) (.seq (.ops [⟨(.some 4), (.mv (.const (.bool false))), .none, []⟩]) .ret) .skip)) (.seq (.ops [⟨(.some 11), (.fieldA 0 (.tmp 2)), .none, []⟩, ⟨(.some 12), (.load 1 false (.tmp 11)), .none, []⟩, ⟨(.some 13), (.fieldA 0 (.tmp 3)), .none, []⟩, ⟨(.some 14), (.load 1 false (.tmp 13)), .none, []⟩, ⟨(.some 15), (.pu (.n (.ar .eql)) [(.tmp 12), (.tmp 14)]), .none, []⟩, ⟨(.some 16), (.mv (.tmp 15)), .none, []⟩, ⟨(.some 17), (.fieldA 1 (.tmp 2)), (.some (16, true)), []⟩, ⟨(.some 18), (.load 1 false (.tmp 17)), (.some (16, true)), []⟩, ⟨(.some 19), (.fieldA 1 (.tmp 3)), (.some (16, true)), []⟩, ⟨(.some 20), (.load 1 false (.tmp 19)), (.some (16, true)), []⟩, ⟨(.some 21), (.pu (.n (.ar .eql)) [(.tmp 18), (.tmp 20)]), (.some (16, true)), []⟩, ⟨(.some 22), (.pick (.tmp 16) (.tmp 21) (.const (.bool false))), .none, []⟩, ⟨(.some 23), (.mv (.tmp 22)), .none, []⟩, ⟨(.some 24), (.fieldA 2 (.tmp 2)), (.some (23, true)), []⟩, ⟨(.some 25), (.load 1 false (.tmp 24)), (.some (23, true)), []⟩, ⟨(.some 26), (.fieldA 2 (.tmp 3)), (.some (23, true)), []⟩, ⟨(.some 27), (.load 1 false (.tmp 26)), (.some (23, true)), []⟩, ⟨(.some 28), (.pu (.n (.ar .eql)) [(.tmp 25), (.tmp 27)]), (.some (23, true)), []⟩, ⟨(.some 29), (.pick (.tmp 23) (.tmp 28) (.const (.bool false))), .none, []⟩, ⟨(.some 30), (.mv (.tmp 29)), .none, []⟩, ⟨(.some 31), (.fieldA 4 (.tmp 2)), (.some (30, true)), []⟩, ⟨(.some 32), (.load 1 false (.tmp 31)), (.some (30, true)), []⟩, ⟨(.some 33), (.fieldA 4 (.tmp 3)), (.some (30, true)), []⟩, ⟨(.some 34), (.load 1 false (.tmp 33)), (.some (30, true)), []⟩, ⟨(.some 35), (.pu (.n (.ar .eql)) [(.tmp 32), (.tmp 34)]), (.some (30, true)), []⟩, ⟨(.some 36), (.pick (.tmp 30) (.tmp 35) (.const (.bool false))), .none, []⟩, ⟨(.some 37), (.mv (.tmp 36)), .none, []⟩, ⟨(.some 38), (.fieldA 5 (.tmp 2)), (.some (37, true)), []⟩, ⟨(.some 39), (.load 1 false (.tmp 38)), (.some (37, true)), []⟩, ⟨(.some 40), (.fieldA 5 (.tmp 3)), (.some (37, true)), []⟩, ⟨(.some 41), (.load 1 false (.tmp 40)), (.some (37, true)), []⟩, ⟨(.some 42), (.pu (.n (.ar .eql)) [(.tmp 39), (.tmp 41)]), (.some (37, true)), []⟩, ⟨(.some 43), (.pick (.tmp 37) (.tmp 42) (.const (.bool false))), .none, []⟩, ⟨(.some 44), (.mv (.tmp 43)), .none, []⟩, ⟨(.some 45), (.fieldA 6 (.tmp 2)), (.some (44, true)), []⟩, ⟨(.some 46), (.load 1 false (.tmp 45)), (.some (44, true)), []⟩, ⟨(.some 47), (.fieldA 6 (.tmp 3)), (.some (44, true)), []⟩, ⟨(.some 48), (.load 1 false (.tmp 47)), (.some (44, true)), []⟩, ⟨(.some 49), (.pu (.n (.ar .eql)) [(.tmp 46), (.tmp 48)]), (.some (44, true)), []⟩, ⟨(.some 50), (.pick (.tmp 44) (.tmp 49) (.const (.bool false))), .none, []⟩, ⟨(.some 51), (.mv (.tmp 50)), .none, []⟩, ⟨(.some 52), (.fieldA 7 (.tmp 2)), (.some (51, true)), []⟩, ⟨(.some 53), (.load 1 false (.tmp 52)), (.some (51, true)), []⟩, ⟨(.some 54), (.fieldA 7 (.tmp 3)), (.some (51, true)), []⟩, ⟨(.some 55), (.load 1 false (.tmp 54)), (.some (51, true)), []⟩, ⟨(.some 56), (.pu (.n (.ar .eql)) [(.tmp 53), (.tmp 55)]), (.some (51, true)), []⟩, ⟨(.some 57), (.pick (.tmp 51) (.tmp 56) (.const (.bool false))), .none, []⟩, ⟨(.some 58), (.mv (.tmp 57)), .none, []⟩, ⟨(.some 59), (.fieldA 8 (.tmp 2)), (.some (58, true)), []⟩, ⟨(.some 60), (.load 2 true (.tmp 59)), (.some (58, true)), []⟩, ⟨(.some 61), (.fieldA 8 (.tmp 3)), (.some (58, true)), []⟩, ⟨(.some 62), (.load 2 true (.tmp 61)), (.some (58, true)), []⟩, ⟨(.some 63), (.aeq false [(.int .i64), (.int .i64)] (.tmp 60) (.tmp 62)), (.some (58, true)), []⟩, ⟨(.some 64), (.pick (.tmp 58) (.tmp 63) (.const (.bool false))), .none, []⟩, ⟨(.some 65), (.mv (.tmp 64)), .none, []⟩, ⟨(.some 66), (.fieldA 10 (.tmp 2)), (.some (65, true)), []⟩, ⟨(.some 67), (.load 1 false (.tmp 66)), (.some (65, true)), []⟩, ⟨(.some 68), (.fieldA 10 (.tmp 3)), (.some (65, true)), []⟩, ⟨(.some 69), (.load 1 false (.tmp 68)), (.some (65, true)), []⟩, ⟨(.some 70), (.pu (.n (.ar .eql)) [(.tmp 67), (.tmp 69)]), (.some (65, true)), []⟩, ⟨(.some 71), (.pick (.tmp 65) (.tmp 70) (.const (.bool false))), .none, []⟩, ⟨(.some 72), (.mv (.tmp 71)), .none, []⟩, ⟨(.some 73), (.fieldA 11 (.tmp 2)), (.some (72, true)), []⟩, ⟨(.some 74), (.load 1 false (.tmp 73)), (.some (72, true)), []⟩, ⟨(.some 75), (.fieldA 11 (.tmp 3)), (.some (72, true)), []⟩, ⟨(.some 76), (.load 1 false (.tmp 75)), (.some (72, true)), []⟩, ⟨(.some 77), (.pu (.n (.ar .eql)) [(.tmp 74), (.tmp 76)]), (.some (72, true)), []⟩, ⟨(.some 78), (.pick (.tmp 72) (.tmp 77) (.const (.bool false))), .none, []⟩, ⟨(.some 4), (.mv (.tmp 78)), .none, []⟩]) .ret))), [(.tmp 4)]⟩
set_option maxHeartbeats 10000000 in
theorem d_impl_opSame {P : Program} {env : Env} {f_impl_vecSame : Nat}  (ep_impl_vecSame : env (2 * f_impl_vecSame) = pureFn true (FA fun a : TVec × TVec => p_impl_vecSame a.1 a.2)) (x0 : TOp) (x1 : TOp) {b : Bool} (hp : p_impl_opSame x0 x1 = some b) : R P env (c_impl_opSame f_impl_vecSame) ((encA (x0, x1)).map ofI) [] (Tells true b) := by
  refine R_of (by simp [c_impl_opSame, encA]) ?_
  unfold c_impl_opSame
  unfold p_impl_opSame at hp
  obtain ⟨v0, hv0, hp⟩ := bind_eq hp
  by_cases hb1 : (v0) = true
  · rw [if_t hb1] at hp
    by_cases hb2 : (decide (x0.actor = x1.actor)) = true
    · rw [if_t hb2] at hp
      by_cases hb3 : (decide (x0.seq = x1.seq)) = true
      · rw [if_t hb3] at hp
        by_cases hb4 : (decide (x0.time = x1.time)) = true
        · rw [if_t hb4] at hp
          by_cases hb5 : (decide (x0.kind = x1.kind)) = true
          · rw [if_t hb5] at hp
            by_cases hb6 : (decide (x0.obj = x1.obj)) = true
            · rw [if_t hb6] at hp
              by_cases hb7 : (decide (x0.n = x1.n)) = true
              · rw [if_t hb7] at hp
                by_cases hb8 : (decide (x0.undo = x1.undo)) = true
                · rw [if_t hb8] at hp
                  by_cases hb9 : ((decide (x0.at_.time = x1.at_.time) && decide (x0.at_.actor = x1.at_.actor))) = true
                  · rw [if_t hb9] at hp
                    by_cases hb10 : (decide (x0.key = x1.key)) = true
                    · rw [if_t hb10] at hp
                      have hp := Option.some.inj hp
                      subst hp
                      simp (maxSteps := 2000000) (disch := first | omega | (simp only [ls]; first | done | omega)) only [ep_impl_vecSame, hv0, hb1, hb2, hb3, hb4, hb5, hb6, hb7, hb8, hb9, hb10, gx, Int.reduceToNat]
                    · replace hb10 := eq_false_of_ne_true hb10
                      rw [if_f hb10] at hp
                      have hp := Option.some.inj hp
                      subst hp
                      simp (maxSteps := 2000000) (disch := first | omega | (simp only [ls]; first | done | omega)) only [ep_impl_vecSame, hv0, hb1, hb2, hb3, hb4, hb5, hb6, hb7, hb8, hb9, hb10, gx, Int.reduceToNat]
                  · replace hb9 := eq_false_of_ne_true hb9
                    rw [if_f hb9] at hp
                    have hp := Option.some.inj hp
                    subst hp
                    simp (maxSteps := 2000000) (disch := first | omega | (simp only [ls]; first | done | omega)) only [ep_impl_vecSame, hv0, hb1, hb2, hb3, hb4, hb5, hb6, hb7, hb8, hb9, gx, Int.reduceToNat]
                · replace hb8 := eq_false_of_ne_true hb8
                  rw [if_f hb8] at hp
                  have hp := Option.some.inj hp
                  subst hp
                  simp (maxSteps := 2000000) (disch := first | omega | (simp only [ls]; first | done | omega)) only [ep_impl_vecSame, hv0, hb1, hb2, hb3, hb4, hb5, hb6, hb7, hb8, gx, Int.reduceToNat]
              · replace hb7 := eq_false_of_ne_true hb7
                rw [if_f hb7] at hp
                have hp := Option.some.inj hp
                subst hp
                simp (maxSteps := 2000000) (disch := first | omega | (simp only [ls]; first | done | omega)) only [ep_impl_vecSame, hv0, hb1, hb2, hb3, hb4, hb5, hb6, hb7, gx, Int.reduceToNat]
            · replace hb6 := eq_false_of_ne_true hb6
              rw [if_f hb6] at hp
              have hp := Option.some.inj hp
              subst hp
              simp (maxSteps := 2000000) (disch := first | omega | (simp only [ls]; first | done | omega)) only [ep_impl_vecSame, hv0, hb1, hb2, hb3, hb4, hb5, hb6, gx, Int.reduceToNat]
          · replace hb5 := eq_false_of_ne_true hb5
            rw [if_f hb5] at hp
            have hp := Option.some.inj hp
            subst hp
            simp (maxSteps := 2000000) (disch := first | omega | (simp only [ls]; first | done | omega)) only [ep_impl_vecSame, hv0, hb1, hb2, hb3, hb4, hb5, gx, Int.reduceToNat]
        · replace hb4 := eq_false_of_ne_true hb4
          rw [if_f hb4] at hp
          have hp := Option.some.inj hp
          subst hp
          simp (maxSteps := 2000000) (disch := first | omega | (simp only [ls]; first | done | omega)) only [ep_impl_vecSame, hv0, hb1, hb2, hb3, hb4, gx, Int.reduceToNat]
      · replace hb3 := eq_false_of_ne_true hb3
        rw [if_f hb3] at hp
        have hp := Option.some.inj hp
        subst hp
        simp (maxSteps := 2000000) (disch := first | omega | (simp only [ls]; first | done | omega)) only [ep_impl_vecSame, hv0, hb1, hb2, hb3, gx, Int.reduceToNat]
    · replace hb2 := eq_false_of_ne_true hb2
      rw [if_f hb2] at hp
      have hp := Option.some.inj hp
      subst hp
      simp (maxSteps := 2000000) (disch := first | omega | (simp only [ls]; first | done | omega)) only [ep_impl_vecSame, hv0, hb1, hb2, gx, Int.reduceToNat]
  · replace hb1 := eq_false_of_ne_true hb1
    rw [if_f hb1] at hp
    have hp := Option.some.inj hp
    subst hp
    simp (maxSteps := 2000000) (disch := first | omega | (simp only [ls]; first | done | omega)) only [ep_impl_vecSame, hv0, hb1, gx, Int.reduceToNat]

noncomputable def p_impl_readTwo_l0 (v0 : T2 (Option TBook) Bool) (v2 : T2 (Option TBook) Bool) (s4 : Int) : Int → Option (Lp (Int) (T3 (Option TBook) (Option TBook) Int))
  | s6 =>
    (v0.a).bind fun v7 =>
    (get? v7.of_ s4).bind fun v8 =>
    if (decide (s6 < (v8.length : Int))) = true then
      (v2.a).bind fun v11 =>
      (get? v11.of_ s4).bind fun v12 =>
      if (decide (s6 < (v12.length : Int))) = true then
        (get? v8 s6).bind fun v16 =>
        (get? v12 s6).bind fun v18 =>
        (p_impl_opSame v16 v18).bind fun v19 =>
        if (v19) = true then
          some (.go (w64 (s6 + 1)))
        else
          some (.ret ⟨(none : Option TBook), (none : Option TBook), 16⟩)
      else
        some (.out s6)
    else
      some (.out s6)
noncomputable def p_impl_readTwo_l1 (v0 : T2 (Option TBook) Bool) (v2 : T2 (Option TBook) Bool) : Int → Option (Lp (Int) (T3 (Option TBook) (Option TBook) Int))
  | s4 =>
    if (decide (s4 < 16)) = true then
      (loopP (p_impl_readTwo_l0 v0 v2 s4) 0).bind fun ee0 => match ee0 with
      | .ret r => some (.ret r)
      | .out o21 =>
        some (.go (w64 (s4 + 1)))
    else
      some (.out s4)
noncomputable def p_impl_readTwo (x0 : List TOp) (x1 : List TOp) : Option (T3 (Option TBook) (Option TBook) Int) :=
  (p_impl_readBook x0).bind fun v0 =>
  if (v0.b) = true then
    (p_impl_readBook x1).bind fun v2 =>
    if (v2.b) = true then
      (loopP (p_impl_readTwo_l1 v0 v2) 0).bind fun ee1 => match ee1 with
      | .ret r => some r
      | .out o22 =>
        some ⟨v0.a, v2.a, 0⟩
    else
      some ⟨(none : Option TBook), (none : Option TBook), 1⟩
  else
    some ⟨(none : Option TBook), (none : Option TBook), 1⟩
def c_impl_readTwo (f_impl_readBook : Nat) (f_impl_opSame : Nat) : AFn := ⟨74, (.seq (.ops [⟨(.some 4), (.mv (.const (.pointer .none))), .none, []⟩, ⟨(.some 5), (.mv (.const (.pointer .none))), .none, []⟩, ⟨(.some 6), (.mv (.const (.int .i64 0))), .none, []⟩]) (.seq (.ops [⟨(.some 13), (.mv (.tmp 0)), .none, []⟩, ⟨(.some 14), (.call (2 * f_impl_readBook) [(.tmp 13)]), .none, []⟩, ⟨(.some 12), (.mv (.tmp 14)), .none, []⟩, ⟨(.some 15), (.extract 0 (.tmp 12)), .none, []⟩, ⟨(.some 16), (.extract 1 (.tmp 12)), .none, []⟩, ⟨(.some 7), (.mv (.tmp 15)), .none, []⟩, ⟨(.some 8), (.mv (.tmp 16)), .none, []⟩]) (.seq (.seq (.ops [⟨(.some 17), (.mv (.tmp 8)), .none, []⟩, ⟨(.some 18), (.pu (.n (.un .not)) [(.tmp 17)]), .none, []⟩]) (.cond (.tmp 18) (.seq (.ops [⟨(.some 4), (.mv (.const (.pointer .none))), .none, []⟩, ⟨(.some 5), (.mv (.const (.pointer .none))), .none, []⟩, ⟨(.some 6), (.mv (.const (.int .i64 1))), .none, []⟩]) .ret) .skip)) (.seq (.ops [⟨(.some 20), (.mv (.tmp 1)), .none, []⟩, ⟨(.some 21), (.call (2 * f_impl_readBook) [(.tmp 20)]), .none, []⟩, ⟨(.some 19), (.mv (.tmp 21)), .none, []⟩, ⟨(.some 22), (.extract 0 (.tmp 19)), .none, []⟩, ⟨(.some 23), (.extract 1 (.tmp 19)), .none, []⟩, ⟨(.some 9), (.mv (.tmp 22)), .none, []⟩, ⟨(.some 8), (.mv (.tmp 23)), .none, []⟩]) (.seq (.seq (.ops [⟨(.some 24), (.mv (.tmp 8)), .none, []⟩, ⟨(.some 25), (.pu (.n (.un .not)) [(.tmp 24)]), .none, []⟩]) (.cond (.tmp 25) (.seq (.ops [⟨(.some 4), (.mv (.const (.pointer .none))), .none, []⟩, ⟨(.some 5), (.mv (.const (.pointer .none))), .none, []⟩, ⟨(.some 6), (.mv (.const (.int .i64 1))), .none, []⟩]) .ret) .skip)) (.seq (.seq (.ops [⟨(.some 26), (.mv (.const (.int .i64 0))), .none, []⟩]) (.block 0 (.loop (.seq (.ops [⟨(.some 27), (.pu (.n (.ar .lss)) [(.tmp 26), (.const (.int .i64 16))]), .none, []⟩]) (.seq (.cond (.tmp 27) .skip (.exit 0)) (.seq (.block 1 (.seq (.ops [⟨(.some 28), (.mv (.tmp 26)), .none, []⟩, ⟨(.some 10), (.mv (.tmp 28)), .none, []⟩]) (.seq (.ops [⟨(.some 11), (.mv (.const (.int .i64 0))), .none, []⟩]) (.block 2 (.loop (.seq (.seq (.ops [⟨(.some 29), (.mv (.tmp 11)), .none, []⟩, ⟨(.some 30), (.mv (.tmp 7)), .none, []⟩, ⟨(.some 31), (.mv (.tmp 10)), .none, []⟩, ⟨(.some 32), (.nilChk (.tmp 30)), .none, []⟩, ⟨(.some 33), (.fieldA 0 (.tmp 32)), .none, []⟩, ⟨(.some 34), (.idxA 16 1 (.tmp 33) (.tmp 31)), .none, []⟩, ⟨(.some 35), (.load 1 false (.tmp 34)), .none, []⟩, ⟨(.some 36), (.len (.tmp 35)), .none, []⟩, ⟨(.some 37), (.pu (.n (.ar .lss)) [(.tmp 29), (.tmp 36)]), .none, []⟩, ⟨(.some 38), (.mv (.tmp 37)), .none, []⟩, ⟨(.some 39), (.mv (.tmp 11)), (.some (38, true)), []⟩, ⟨(.some 40), (.mv (.tmp 9)), (.some (38, true)), []⟩, ⟨(.some 41), (.mv (.tmp 10)), (.some (38, true)), []⟩, ⟨(.some 42), (.nilChk (.tmp 40)), (.some (38, true)), []⟩, ⟨(.some 43), (.fieldA 0 (.tmp 42)), (.some (38, true)), []⟩, ⟨(.some 44), (.idxA 16 1 (.tmp 43) (.tmp 41)), (.some (38, true)), []⟩, ⟨(.some 45), (.load 1 false (.tmp 44)), (.some (38, true)), []⟩, ⟨(.some 46), (.len (.tmp 45)), (.some (38, true)), []⟩, ⟨(.some 47), (.pu (.n (.ar .lss)) [(.tmp 39), (.tmp 46)]), (.some (38, true)), []⟩, ⟨(.some 48), (.pick (.tmp 38) (.tmp 47) (.const (.bool false))), .none, []⟩]) (.cond (.tmp 48) .skip (.exit 2))) (.seq (.block 3 (.seq (.ops [⟨(.some 51), (.mv (.tmp 7)), .none, []⟩, ⟨(.some 52), (.mv (.tmp 10)), .none, []⟩, ⟨(.some 53), (.nilChk (.tmp 51)), .none, []⟩, ⟨(.some 54), (.fieldA 0 (.tmp 53)), .none, []⟩, ⟨(.some 55), (.idxA 16 1 (.tmp 54) (.tmp 52)), .none, []⟩, ⟨(.some 56), (.load 1 false (.tmp 55)), .none, []⟩, ⟨(.some 57), (.mv (.tmp 11)), .none, []⟩, ⟨(.some 58), (.idxS 12 (.tmp 56) (.tmp 57)), .none, []⟩, ⟨(.some 59), (.load 12 true (.tmp 58)), .none, []⟩, ⟨(.some 60), (.mv (.tmp 9)), .none, []⟩, ⟨(.some 61), (.mv (.tmp 10)), .none, []⟩, ⟨(.some 62), (.nilChk (.tmp 60)), .none, []⟩, ⟨(.some 63), (.fieldA 0 (.tmp 62)), .none, []⟩, ⟨(.some 64), (.idxA 16 1 (.tmp 63) (.tmp 61)), .none, []⟩, ⟨(.some 65), (.load 1 false (.tmp 64)), .none, []⟩, ⟨(.some 66), (.mv (.tmp 11)), .none, []⟩, ⟨(.some 67), (.idxS 12 (.tmp 65) (.tmp 66)), .none, []⟩, ⟨(.some 68), (.load 12 true (.tmp 67)), .none, []⟩, ⟨(.some 69), (.call (2 * f_impl_opSame) [(.tmp 59), (.tmp 68)]), .none, []⟩, ⟨(.some 70), (.pu (.n (.un .not)) [(.tmp 69)]), .none, []⟩]) (.cond (.tmp 70) (.seq (.ops [⟨(.some 4), (.mv (.const (.pointer .none))), .none, []⟩, ⟨(.some 5), (.mv (.const (.pointer .none))), .none, []⟩, ⟨(.some 6), (.mv (.const (.int .i64 16))), .none, []⟩]) .ret) .skip))) (.ops [⟨(.some 49), (.mv (.tmp 11)), .none, []⟩, ⟨(.some 50), (.pu (.n (.ar .add)) [(.tmp 49), (.const (.int .i64 1))]), .none, []⟩, ⟨(.some 11), (.mv (.tmp 50)), .none, []⟩])))))))) (.ops [⟨(.some 71), (.pu (.n (.ar .add)) [(.tmp 26), (.const (.int .i64 1))]), .none, []⟩, ⟨(.some 26), (.mv (.tmp 71)), .none, []⟩]))))))) (.seq (.ops [⟨(.some 72), (.mv (.tmp 7)), .none, []⟩, ⟨(.some 73), (.mv (.tmp 9)), .none, []⟩, ⟨(.some 4), (.mv (.tmp 72)), .none, []⟩, ⟨(.some 5), (.mv (.tmp 73)), .none, []⟩, ⟨(.some 6), (.mv (.const (.int .i64 0))), .none, []⟩]) .ret))))))), [(.tmp 4), (.tmp 5), (.tmp 6)]⟩
set_option maxHeartbeats 10000000 in
theorem d_impl_readTwo {P : Program} {env : Env} {f_impl_readBook : Nat} {f_impl_opSame : Nat}  (ep_impl_readBook : env (2 * f_impl_readBook) = pureFn false (FA fun a : List TOp => p_impl_readBook a)) (ep_impl_opSame : env (2 * f_impl_opSame) = pureFn true (FA fun a : TOp × TOp => p_impl_opSame a.1 a.2)) (x0 : List TOp) (x1 : List TOp) {b : T3 (Option TBook) (Option TBook) Int} (hp : p_impl_readTwo x0 x1 = some b) : R P env (c_impl_readTwo f_impl_readBook f_impl_opSame) ((encA (x0, x1)).map ofI) [] (Tells false b) := by
  refine R_of (by simp [c_impl_readTwo, encA]) ?_
  have hO0 := @opc_virtC
  have hO1 := @opc_nilsOf
  have hO2 := @opc_virtV
  have hO3 := @opc_nilsV
  have hO4 := @opc_one
  have hO5 := @opc_splice
  have hO6 := @opc_virtVw
  have hO7 := @opc_nilsVw
  have hO8 := @opc_onew
  unfold c_impl_readTwo
  unfold p_impl_readTwo at hp
  obtain ⟨v0, hv0, hp⟩ := bind_eq hp
  by_cases hb1 : (v0.b) = true
  · rw [if_t hb1] at hp
    obtain ⟨v2, hv2, hp⟩ := bind_eq hp
    by_cases hb3 : (v2.b) = true
    · rw [if_t hb3] at hp
      obtain ⟨ee1, hee1, hp⟩ := bind_eq hp
      simp (maxSteps := 2000000) (disch := first | omega | (simp only [ls]; first | done | omega)) only [hO0, hO1, hO2, hO3, hO4, hO5, hO6, hO7, hO8, ep_impl_readBook, ep_impl_opSame, hv0, hb1, hv2, hb3, gx, Int.reduceToNat]
      refine W_loopP 0 (fun s t h => match s with | s4 => t 7 = .i (enc (v0.a : Option TBook)) ∧ t 9 = .i (enc (v2.a : Option TBook)) ∧ t 26 = .i (.s (.int .i64 s4))) (RK [.tmp 4, .tmp 5, .tmp 6] (Tells false)) ?_ hee1 ?_ ?_
      · rintro s4 ee tt0 hh0 ⟨ftt0_0, ftt0_1, ftt0_2⟩ hp
        rw [p_impl_readTwo_l1] at hp
        by_cases hb5 : (decide (s4 < 16)) = true
        · rw [if_t hb5] at hp
          obtain ⟨ee0, hee0, hp⟩ := bind_eq hp
          simp (maxSteps := 2000000) (disch := first | omega | (simp only [ls]; first | done | omega)) only [hO0, hO1, hO2, hO3, hO4, hO5, hO6, hO7, hO8, ep_impl_readBook, ep_impl_opSame, hv0, hb1, hv2, hb3, ftt0_0, ftt0_1, ftt0_2, hb5, gx, Int.reduceToNat]
          refine W_loopP 2 (fun s t h => match s with | s6 => t 7 = .i (enc (v0.a : Option TBook)) ∧ t 9 = .i (enc (v2.a : Option TBook)) ∧ t 10 = .i (.s (.int .i64 s4)) ∧ t 11 = .i (.s (.int .i64 s6)) ∧ t 26 = .i (.s (.int .i64 s4))) (RK [.tmp 4, .tmp 5, .tmp 6] (Tells false)) ?_ hee0 ?_ ?_
          · rintro s6 ee tt1 hh1 ⟨ftt1_0, ftt1_1, ftt1_2, ftt1_3, ftt1_4⟩ hp
            rw [p_impl_readTwo_l0] at hp
            obtain ⟨v7, hv7, hp⟩ := bind_eq hp
            obtain ⟨v8, hv8, hp⟩ := bind_eq hp
            have gv8 := get_some hv8
            have bv8 : s4 < 16 := by have := gv8.2.1; have := (v7).h1; omega
            have hk9 := ip_of hv8
            have hk9l : 1 ≤ _ := ip_len0 (k := v7) (i := s4) (by have := gv8.2.1; have := (v7).h1; omega)
            by_cases hb10 : (decide (s6 < (v8.length : Int))) = true
            · rw [if_t hb10] at hp
              obtain ⟨v11, hv11, hp⟩ := bind_eq hp
              obtain ⟨v12, hv12, hp⟩ := bind_eq hp
              have gv12 := get_some hv12
              have bv12 : s4 < 16 := by have := gv12.2.1; have := (v11).h1; omega
              have hk13 := ip_of hv12
              have hk13l : 1 ≤ _ := ip_len0 (k := v11) (i := s4) (by have := gv12.2.1; have := (v11).h1; omega)
              by_cases hb14 : (decide (s6 < (v12.length : Int))) = true
              · rw [if_t hb14] at hp
                have hk15 := ip_of hv8
                have hk15l : 1 ≤ _ := ip_len0 (k := v7) (i := s4) (by have := gv8.2.1; have := (v7).h1; omega)
                obtain ⟨v16, hv16, hp⟩ := bind_eq hp
                have hk17 := ip_of hv12
                have hk17l : 1 ≤ _ := ip_len0 (k := v11) (i := s4) (by have := gv12.2.1; have := (v11).h1; omega)
                obtain ⟨v18, hv18, hp⟩ := bind_eq hp
                obtain ⟨v19, hv19, hp⟩ := bind_eq hp
                by_cases hb20 : (v19) = true
                · rw [if_t hb20] at hp
                  have hp := Option.some.inj hp
                  subst hp
                  simp (maxSteps := 2000000) (disch := first | omega | (simp only [ls]; first | done | omega)) only [hO0, hO1, hO2, hO3, hO4, hO5, hO6, hO7, hO8, ep_impl_readBook, ep_impl_opSame, hv0, hb1, hv2, hb3, ftt0_0, ftt0_1, ftt0_2, hb5, ftt1_0, ftt1_1, ftt1_2, ftt1_3, ftt1_4, hv7, hv8, (gv8).1, bv8, hk9, hk9l, hb10, hv11, hv12, (gv12).1, bv12, hk13, hk13l, hb14, hk15, hk15l, hv16, hk17, hk17l, hv18, hv19, hb20, gx, Int.reduceToNat] <;> omega
                · replace hb20 := eq_false_of_ne_true hb20
                  rw [if_f hb20] at hp
                  have hp := Option.some.inj hp
                  subst hp
                  simp (maxSteps := 2000000) (disch := first | omega | (simp only [ls]; first | done | omega)) only [hO0, hO1, hO2, hO3, hO4, hO5, hO6, hO7, hO8, ep_impl_readBook, ep_impl_opSame, hv0, hb1, hv2, hb3, ftt0_0, ftt0_1, ftt0_2, hb5, ftt1_0, ftt1_1, ftt1_2, ftt1_3, ftt1_4, hv7, hv8, (gv8).1, bv8, hk9, hk9l, hb10, hv11, hv12, (gv12).1, bv12, hk13, hk13l, hb14, hk15, hk15l, hv16, hk17, hk17l, hv18, hv19, hb20, gx, Int.reduceToNat]
              · replace hb14 := eq_false_of_ne_true hb14
                rw [if_f hb14] at hp
                have hp := Option.some.inj hp
                subst hp
                simp (maxSteps := 2000000) (disch := first | omega | (simp only [ls]; first | done | omega)) only [hO0, hO1, hO2, hO3, hO4, hO5, hO6, hO7, hO8, ep_impl_readBook, ep_impl_opSame, hv0, hb1, hv2, hb3, ftt0_0, ftt0_1, ftt0_2, hb5, ftt1_0, ftt1_1, ftt1_2, ftt1_3, ftt1_4, hv7, hv8, (gv8).1, bv8, hk9, hk9l, hb10, hv11, hv12, (gv12).1, bv12, hk13, hk13l, hb14, gx, Int.reduceToNat] <;> omega
            · replace hb10 := eq_false_of_ne_true hb10
              rw [if_f hb10] at hp
              have hp := Option.some.inj hp
              subst hp
              simp (maxSteps := 2000000) (disch := first | omega | (simp only [ls]; first | done | omega)) only [hO0, hO1, hO2, hO3, hO4, hO5, hO6, hO7, hO8, ep_impl_readBook, ep_impl_opSame, hv0, hb1, hv2, hb3, ftt0_0, ftt0_1, ftt0_2, hb5, ftt1_0, ftt1_1, ftt1_2, ftt1_3, ftt1_4, hv7, hv8, (gv8).1, bv8, hk9, hk9l, hb10, gx, Int.reduceToNat] <;> omega
          · simp (maxSteps := 2000000) (disch := first | omega | (simp only [ls]; first | done | omega)) only [hO0, hO1, hO2, hO3, hO4, hO5, hO6, hO7, hO8, ep_impl_readBook, ep_impl_opSame, hv0, hb1, hv2, hb3, ftt0_0, ftt0_1, ftt0_2, hb5, gx, Int.reduceToNat] <;> omega
          · intro x tt2 hh2 hx
            rcases ee0 with o21 | r
            · obtain ⟨rfl, ftt2_0, ftt2_1, ftt2_2, ftt2_3, ftt2_4⟩ := hx
              dsimp only at hp
              have hp := Option.some.inj hp
              subst hp
              simp (maxSteps := 2000000) (disch := first | omega | (simp only [ls]; first | done | omega)) only [hO0, hO1, hO2, hO3, hO4, hO5, hO6, hO7, hO8, ep_impl_readBook, ep_impl_opSame, hv0, hb1, hv2, hb3, ftt0_0, ftt0_1, ftt0_2, hb5, ftt2_0, ftt2_1, ftt2_2, ftt2_3, ftt2_4, gx, Int.reduceToNat] <;> omega
            · obtain ⟨rfl, hx⟩ := hx
              dsimp only at hp
              cases hp
              simp only [seqK_ret, blockK_ret, retK_RK (K := Tells false), hx, and_self, true_and]
        · replace hb5 := eq_false_of_ne_true hb5
          rw [if_f hb5] at hp
          have hp := Option.some.inj hp
          subst hp
          simp (maxSteps := 2000000) (disch := first | omega | (simp only [ls]; first | done | omega)) only [hO0, hO1, hO2, hO3, hO4, hO5, hO6, hO7, hO8, ep_impl_readBook, ep_impl_opSame, hv0, hb1, hv2, hb3, ftt0_0, ftt0_1, ftt0_2, hb5, gx, Int.reduceToNat] <;> omega
      · simp (maxSteps := 2000000) (disch := first | omega | (simp only [ls]; first | done | omega)) only [hO0, hO1, hO2, hO3, hO4, hO5, hO6, hO7, hO8, ep_impl_readBook, ep_impl_opSame, hv0, hb1, hv2, hb3, gx, Int.reduceToNat] <;> omega
      · intro x tt3 hh3 hx
        rcases ee1 with o22 | r
        · obtain ⟨rfl, ftt3_0, ftt3_1, ftt3_2⟩ := hx
          dsimp only at hp
          have hp := Option.some.inj hp
          subst hp
          simp (maxSteps := 2000000) (disch := first | omega | (simp only [ls]; first | done | omega)) only [hO0, hO1, hO2, hO3, hO4, hO5, hO6, hO7, hO8, ep_impl_readBook, ep_impl_opSame, hv0, hb1, hv2, hb3, ftt3_0, ftt3_1, ftt3_2, gx, Int.reduceToNat]
        · obtain ⟨rfl, hx⟩ := hx
          dsimp only at hp
          cases hp
          simp only [seqK_ret, blockK_ret, retK_RK (K := Tells false), hx, and_self, true_and]
    · replace hb3 := eq_false_of_ne_true hb3
      rw [if_f hb3] at hp
      have hp := Option.some.inj hp
      subst hp
      simp (maxSteps := 2000000) (disch := first | omega | (simp only [ls]; first | done | omega)) only [hO0, hO1, hO2, hO3, hO4, hO5, hO6, hO7, hO8, ep_impl_readBook, ep_impl_opSame, hv0, hb1, hv2, hb3, gx, Int.reduceToNat]
  · replace hb1 := eq_false_of_ne_true hb1
    rw [if_f hb1] at hp
    have hp := Option.some.inj hp
    subst hp
    simp (maxSteps := 2000000) (disch := first | omega | (simp only [ls]; first | done | omega)) only [hO0, hO1, hO2, hO3, hO4, hO5, hO6, hO7, hO8, ep_impl_readBook, ep_impl_opSame, hv0, hb1, gx, Int.reduceToNat]

noncomputable def p_impl_vecCopy (x0 : TVec) : Option TVec :=
  (app? 8 ([] : List Int) x0.counts).bind fun v0 =>
  some (TVec.mk v0)
def c_impl_vecCopy : AFn := ⟨7, (.seq (.ops [⟨(.some 1), (.box (.tmp 0)), .none, []⟩, ⟨(.some 2), (.allocV [(1, false)] [(.slice .none 0 0)]), .none, []⟩]) (.seq (.ops [⟨(.some 3), (.fieldA 0 (.tmp 1)), .none, []⟩, ⟨(.some 4), (.load 1 false (.tmp 3)), .none, []⟩, ⟨(.some 5), (.appendV 1 false 8 (.tmp 4)), .none, []⟩, ⟨(.some 6), (.build [(.slice .none 0 0)] [(0, (1, (.tmp 5)))]), .none, []⟩, ⟨.none, (.storeV [(1, false)] 1 (.tmp 2) (.tmp 6)), .none, []⟩]) .ret)), [(.cell 2 1 true)]⟩
def o_impl_vecCopy (b : TVec) (v : V) (h : Heap) : Prop := ∃ n0 : Nat, v = .agg [.hsl n0 b.counts.length 0 1 false b.counts.length] ∧ getCells h n0 b.counts.length = some (rows b.counts)
def oo_impl_vecCopy (b : TVec) (h : Heap) (v : V) (h2 : Heap) : Prop := Keep [] h h2 ∧ ∃ n0 : Nat, v = .agg [.hsl n0 b.counts.length 0 1 false b.counts.length] ∧ n0 < h2.length ∧ h.length ≤ n0 ∧ getCells h2 n0 b.counts.length = some (rows b.counts)
def k_impl_vecCopy (F : Fun) : Prop := ∀ (x0 : TVec) (b : TVec), p_impl_vecCopy x0 = some b → ∀ (h : Heap) (args : List V), snapA 9 false h args = some (encA (x0)) → ∃ p, F none args h = some p ∧ oo_impl_vecCopy b h p.1 p.2
set_option maxHeartbeats 10000000 in
theorem w_impl_vecCopy {P : Program} {env : Env}  (x0 : TVec) {b : TVec} (hp : p_impl_vecCopy x0 = some b) : R P env (c_impl_vecCopy) ((encA (x0)).map ofI) [] (o_impl_vecCopy b) := by
  refine R_of (by simp [c_impl_vecCopy, encA]) ?_
  unfold c_impl_vecCopy
  unfold p_impl_vecCopy at hp
  obtain ⟨v0, hv0, hp⟩ := bind_eq hp
  simp (maxSteps := 2000000) (disch := first | omega | (simp only [ls]; first | done | omega)) only [gx, Int.reduceToNat]
  refine app_f (b := 3) (xs := ([] : List Int)) (ys := x0.counts) (fun h => getCells h 0 1 = some [.i (.sl 1 (x0.counts.map enc))] ∧ 0 < h.length ∧ getCells h 1 0 = some [] ∧ 1 < h.length ∧ getCells h 2 1 = some [.hsl 1 0 0 1 false 0] ∧ 2 < h.length ∧ getCells h 3 0 = some [] ∧ 3 < h.length) ?_ ?_ hv0 rfl (by first | rfl | omega | (simp; omega)) (by first | rfl | omega | (simp; omega)) (by first | rfl | omega | (simp; omega)) ?_
  · simp (maxSteps := 2000000) (disch := first | omega | (simp only [ls]; first | done | omega)) only [hv0, gx, Int.reduceToNat] <;> omega
  · rintro h ⟨c0_0, c0_1, c0_2, c0_3, c0_4, c0_5, c0_6, c0_7⟩
    exact gc_eq c0_6 (by omega)
  · rintro h hh0 ⟨c0_0, c0_1, c0_2, c0_3, c0_4, c0_5, c0_6, c0_7⟩ kk0 w0
    have d0_0 : getCells hh0 0 1 = some [.i (.sl 1 (x0.counts.map enc))] := (keep_get kk0 c0_1 (by first | (simp; done) | (simp; omega))).trans c0_0
    have d0_0l := keep_lt kk0 c0_1
    have d0_1 : getCells hh0 1 0 = some [] := (keep_get kk0 c0_3 (by first | (simp; done) | (simp; omega))).trans c0_2
    have d0_1l := keep_lt kk0 c0_3
    have d0_2 : getCells hh0 2 1 = some [.hsl 1 0 0 1 false 0] := (keep_get kk0 c0_5 (by first | (simp; done) | (simp; omega))).trans c0_4
    have d0_2l := keep_lt kk0 c0_5
    have d0_3 : getCells hh0 3 v0.length = some (rows (v0 : List Int)) := by simpa only [Nat.mul_one] using w0
    have d0_3l := keep_lt kk0 c0_7
    have hp := Option.some.inj hp
    subst hp
    simp (maxSteps := 2000000) (disch := first | omega | (simp only [ls]; first | done | omega)) only [hv0, d0_0, d0_1, d0_2, d0_3, gx, Int.reduceToNat]
    refine ⟨3, ?_⟩
    simp (maxSteps := 2000000) (disch := first | omega | (simp only [ls]; first | done | omega)) only [hv0, d0_0, d0_1, d0_2, d0_3, o_impl_vecCopy, gx, Int.reduceToNat] <;> omega
theorem ko_impl_vecCopy {P : Program} {env : Env}  : k_impl_vecCopy (ownFn P env (c_impl_vecCopy)) := by
  intro x0 b hp h args has
  obtain ⟨⟨v, H2⟩, hr, n0, rfl, wn0⟩ := w_impl_vecCopy x0 hp
  exact ⟨_, own_call has hr rfl, keep_moved, n0 + h.length, rfl, (moved_lt wn0).2, (moved_lt wn0).1, moved_rows wn0⟩

noncomputable def p_impl_opCopy (x0 : TOp) : Option TOp :=
  (p_impl_vecCopy x0.deps).bind fun v0 =>
  some (TOp.mk x0.actor x0.seq x0.time v0 x0.kind x0.obj x0.n x0.undo x0.at_ x0.key x0.text)
def c_impl_opCopy (f_impl_vecCopy : Nat) : AFn := ⟨8, (.seq (.ops [⟨(.some 1), (.box (.tmp 0)), .none, []⟩, ⟨(.some 2), (.allocV [(0, false), (0, false), (0, false), (1, false), (0, false), (0, false), (0, false), (0, false), (0, false), (0, false), (0, false), (0, false)] [(.int .i64 0), (.int .i64 0), (.int .i64 0), (.slice .none 0 0), (.int .i64 0), (.int .i64 0), (.int .i64 0), (.int .i64 0), (.int .i64 0), (.int .i64 0), (.string ⟨#[]⟩), (.string ⟨#[]⟩)]), .none, []⟩]) (.seq (.ops [⟨(.some 3), (.fieldA 3 (.tmp 1)), .none, []⟩, ⟨(.some 4), (.load 1 true (.tmp 3)), .none, []⟩, ⟨(.some 5), (.call (2 * f_impl_vecCopy + 1) [(.tmp 4)]), .none, []⟩, ⟨(.some 6), (.fieldA 3 (.tmp 1)), .none, []⟩, ⟨.none, (.storeV [(1, false)] 1 (.tmp 6) (.tmp 5)), .none, []⟩]) (.seq (.ops [⟨(.some 7), (.load 12 true (.tmp 1)), .none, []⟩, ⟨.none, (.storeV [(0, false), (0, false), (0, false), (1, false), (0, false), (0, false), (0, false), (0, false), (0, false), (0, false), (0, false), (0, false)] 12 (.tmp 2) (.tmp 7)), .none, []⟩]) .ret))), [(.cell 2 12 true)]⟩
def o_impl_opCopy (b : TOp) (v : V) (h : Heap) : Prop := ∃ n0 : Nat, v = .agg [.i (.s (.int .i64 b.actor)), .i (.s (.int .i64 b.seq)), .i (.s (.int .i64 b.time)), .hsl n0 b.deps.counts.length 0 1 false b.deps.counts.length, .i (.s (.int .i64 b.kind)), .i (.s (.int .i64 b.obj)), .i (.s (.int .i64 b.n)), .i (.s (.int .i64 b.undo)), .i (.s (.int .i64 b.at_.time)), .i (.s (.int .i64 b.at_.actor)), .i (.s (.string b.key)), .i (.s (.string b.text))] ∧ getCells h n0 b.deps.counts.length = some (rows b.deps.counts)
def oo_impl_opCopy (b : TOp) (h : Heap) (v : V) (h2 : Heap) : Prop := Keep [] h h2 ∧ ∃ n0 : Nat, v = .agg [.i (.s (.int .i64 b.actor)), .i (.s (.int .i64 b.seq)), .i (.s (.int .i64 b.time)), .hsl n0 b.deps.counts.length 0 1 false b.deps.counts.length, .i (.s (.int .i64 b.kind)), .i (.s (.int .i64 b.obj)), .i (.s (.int .i64 b.n)), .i (.s (.int .i64 b.undo)), .i (.s (.int .i64 b.at_.time)), .i (.s (.int .i64 b.at_.actor)), .i (.s (.string b.key)), .i (.s (.string b.text))] ∧ n0 < h2.length ∧ h.length ≤ n0 ∧ getCells h2 n0 b.deps.counts.length = some (rows b.deps.counts)
def k_impl_opCopy (F : Fun) : Prop := ∀ (x0 : TOp) (b : TOp), p_impl_opCopy x0 = some b → ∀ (h : Heap) (args : List V), snapA 9 false h args = some (encA (x0)) → ∃ p, F none args h = some p ∧ oo_impl_opCopy b h p.1 p.2
set_option maxHeartbeats 10000000 in
theorem w_impl_opCopy {P : Program} {env : Env} {f_impl_vecCopy : Nat}  (e_impl_vecCopy : k_impl_vecCopy (env (2 * f_impl_vecCopy + 1))) (x0 : TOp) {b : TOp} (hp : p_impl_opCopy x0 = some b) : R P env (c_impl_opCopy f_impl_vecCopy) ((encA (x0)).map ofI) [] (o_impl_opCopy b) := by
  refine R_of (by simp [c_impl_opCopy, encA]) ?_
  have hO0 := @opc_virtC
  have hO1 := @opc_nilsOf
  have hO2 := @opc_virtV
  have hO3 := @opc_nilsV
  have hO4 := @opc_one
  have hO5 := @opc_splice
  have hO6 := @opc_virtVw
  have hO7 := @opc_nilsVw
  have hO8 := @opc_onew
  unfold c_impl_opCopy
  unfold p_impl_opCopy at hp
  obtain ⟨v0, hv0, hp⟩ := bind_eq hp
  simp (maxSteps := 2000000) (disch := first | omega | (simp only [ls]; first | done | omega)) only [hO0, hO1, hO2, hO3, hO4, hO5, hO6, hO7, hO8, gx, Int.reduceToNat]
  refine call_f (fun h => getCells h 0 12 = some [.i (.s (.int .i64 x0.actor)), .i (.s (.int .i64 x0.seq)), .i (.s (.int .i64 x0.time)), .i (.sl 1 (x0.deps.counts.map enc)), .i (.s (.int .i64 x0.kind)), .i (.s (.int .i64 x0.obj)), .i (.s (.int .i64 x0.n)), .i (.s (.int .i64 x0.undo)), .i (.s (.int .i64 x0.at_.time)), .i (.s (.int .i64 x0.at_.actor)), .i (.s (.string x0.key)), .i (.s (.string x0.text))] ∧ 0 < h.length ∧ getCells h 1 0 = some [] ∧ 1 < h.length ∧ getCells h 2 12 = some [.i (.s (.int .i64 0)), .i (.s (.int .i64 0)), .i (.s (.int .i64 0)), .hsl 1 0 0 1 false 0, .i (.s (.int .i64 0)), .i (.s (.int .i64 0)), .i (.s (.int .i64 0)), .i (.s (.int .i64 0)), .i (.s (.int .i64 0)), .i (.s (.int .i64 0)), .i (.s (.string (ByteArray.mk #[]))), .i (.s (.string (ByteArray.mk #[])))] ∧ 2 < h.length) (fun h v h2 => oo_impl_vecCopy v0 h v h2) ?_ ?_ ?_
  · simp (maxSteps := 2000000) (disch := first | omega | (simp only [ls]; first | done | omega)) only [hO0, hO1, hO2, hO3, hO4, hO5, hO6, hO7, hO8, hv0, gx, Int.reduceToNat] <;> omega
  · rintro h ⟨c0_0, c0_1, c0_2, c0_3, c0_4, c0_5⟩
    exact e_impl_vecCopy _ _ hv0 h _ (by simp (maxSteps := 2000000) (disch := first | omega | (simp only [ls]; first | done | omega)) only [hO0, hO1, hO2, hO3, hO4, hO5, hO6, hO7, hO8, hv0, c0_0, c0_1, c0_2, c0_3, c0_4, c0_5, gx, Int.reduceToNat])
  · rintro hc0 v hh0 ⟨c0_0, c0_1, c0_2, c0_3, c0_4, c0_5⟩ hpost
    obtain ⟨kk0, nb0_0, rfl, lnb0_0, gnb0_0, wnb0_0⟩ := hpost
    have d0_0 : getCells hh0 0 12 = some [.i (.s (.int .i64 x0.actor)), .i (.s (.int .i64 x0.seq)), .i (.s (.int .i64 x0.time)), .i (.sl 1 (x0.deps.counts.map enc)), .i (.s (.int .i64 x0.kind)), .i (.s (.int .i64 x0.obj)), .i (.s (.int .i64 x0.n)), .i (.s (.int .i64 x0.undo)), .i (.s (.int .i64 x0.at_.time)), .i (.s (.int .i64 x0.at_.actor)), .i (.s (.string x0.key)), .i (.s (.string x0.text))] := (keep_get kk0 c0_1 (by first | (simp; done) | (simp; omega))).trans c0_0
    have d0_0l := keep_lt kk0 c0_1
    have d0_1 : getCells hh0 1 0 = some [] := (keep_get kk0 c0_3 (by first | (simp; done) | (simp; omega))).trans c0_2
    have d0_1l := keep_lt kk0 c0_3
    have d0_2 : getCells hh0 2 12 = some [.i (.s (.int .i64 0)), .i (.s (.int .i64 0)), .i (.s (.int .i64 0)), .hsl 1 0 0 1 false 0, .i (.s (.int .i64 0)), .i (.s (.int .i64 0)), .i (.s (.int .i64 0)), .i (.s (.int .i64 0)), .i (.s (.int .i64 0)), .i (.s (.int .i64 0)), .i (.s (.string (ByteArray.mk #[]))), .i (.s (.string (ByteArray.mk #[])))] := (keep_get kk0 c0_5 (by first | (simp; done) | (simp; omega))).trans c0_4
    have d0_2l := keep_lt kk0 c0_5
    have d0_3 := wnb0_0
    have hp := Option.some.inj hp
    subst hp
    simp (maxSteps := 2000000) (disch := first | omega | (simp only [ls]; first | done | omega)) only [hO0, hO1, hO2, hO3, hO4, hO5, hO6, hO7, hO8, hv0, d0_0, d0_1, d0_2, d0_3, gx, Int.reduceToNat]
    refine ⟨nb0_0, ?_⟩
    simp (maxSteps := 2000000) (disch := first | omega | (simp only [ls]; first | done | omega)) only [hO0, hO1, hO2, hO3, hO4, hO5, hO6, hO7, hO8, hv0, d0_0, d0_1, d0_2, d0_3, o_impl_opCopy, gx, Int.reduceToNat] <;> omega
theorem ko_impl_opCopy {P : Program} {env : Env} {f_impl_vecCopy : Nat}  (e_impl_vecCopy : k_impl_vecCopy (env (2 * f_impl_vecCopy + 1))) : k_impl_opCopy (ownFn P env (c_impl_opCopy f_impl_vecCopy)) := by
  intro x0 b hp h args has
  obtain ⟨⟨v, H2⟩, hr, n0, rfl, wn0⟩ := w_impl_opCopy e_impl_vecCopy x0 hp
  exact ⟨_, own_call has hr rfl, keep_moved, n0 + h.length, rfl, (moved_lt wn0).2, (moved_lt wn0).1, moved_rows wn0⟩

noncomputable def p_impl_book_ahead_l1 (x0 : Option TBook) (s1 : Int) : List TOp × Int → Option (Lp (List TOp × Int) (List TOp))
  | (s6, s7) =>
    (x0).bind fun v8 =>
    (get? v8.of_ s1).bind fun v9 =>
    if (decide (s7 < (v9.length : Int))) = true then
      (get? v9 s7).bind fun v13 =>
      (p_impl_opCopy v13).bind fun v14 =>
      (app? 128 s6 [v14]).bind fun v15 =>
      some (.go (v15, w64 (s7 + 1)))
    else
      some (.out (s6, s7))
noncomputable def p_impl_book_ahead_l2 (x0 : Option TBook) (x1 : Option TBook) : List TOp × Int → Option (Lp (List TOp × Int) (List TOp))
  | (s0, s1) =>
    if (decide (s1 < 16)) = true then
      (x1).bind fun v3 =>
      (get? v3.of_ s1).bind fun v4 =>
      (loopP (p_impl_book_ahead_l1 x0 s1) (s0, (v4.length : Int))).bind fun ee1 => match ee1 with
      | .ret r => some (.ret r)
      | .out (o16, o17) =>
        some (.go (o16, w64 (s1 + 1)))
    else
      some (.out (s0, s1))
noncomputable def p_impl_book_ahead (x0 : Option TBook) (x1 : Option TBook) : Option (List TOp) :=
  (loopP (p_impl_book_ahead_l2 x0 x1) (([] : List TOp), 0)).bind fun ee2 => match ee2 with
  | .ret r => some r
  | .out (o18, o19) =>
    some o18
def c_impl_book_ahead (f_impl_opCopy : Nat) : AFn := ⟨44, (.seq (.ops [⟨(.some 4), (.vnil 12 true), .none, []⟩]) (.seq (.ops [⟨(.some 5), (.vnil 12 true), .none, []⟩]) (.seq (.seq (.ops [⟨(.some 8), (.mv (.const (.int .i64 0))), .none, []⟩]) (.block 0 (.loop (.seq (.ops [⟨(.some 9), (.pu (.n (.ar .lss)) [(.tmp 8), (.const (.int .i64 16))]), .none, []⟩]) (.seq (.cond (.tmp 9) .skip (.exit 0)) (.seq (.block 1 (.seq (.ops [⟨(.some 10), (.mv (.tmp 8)), .none, []⟩, ⟨(.some 6), (.mv (.tmp 10)), .none, []⟩]) (.seq (.ops [⟨(.some 11), (.mv (.tmp 1)), .none, []⟩, ⟨(.some 12), (.mv (.tmp 6)), .none, []⟩, ⟨(.some 13), (.nilChk (.tmp 11)), .none, []⟩, ⟨(.some 14), (.fieldA 0 (.tmp 13)), .none, []⟩, ⟨(.some 15), (.idxA 16 1 (.tmp 14) (.tmp 12)), .none, []⟩, ⟨(.some 16), (.load 1 false (.tmp 15)), .none, []⟩, ⟨(.some 17), (.len (.tmp 16)), .none, []⟩, ⟨(.some 7), (.mv (.tmp 17)), .none, []⟩]) (.block 2 (.loop (.seq (.seq (.ops [⟨(.some 18), (.mv (.tmp 7)), .none, []⟩, ⟨(.some 19), (.mv (.tmp 0)), .none, []⟩, ⟨(.some 20), (.mv (.tmp 6)), .none, []⟩, ⟨(.some 21), (.nilChk (.tmp 19)), .none, []⟩, ⟨(.some 22), (.fieldA 0 (.tmp 21)), .none, []⟩, ⟨(.some 23), (.idxA 16 1 (.tmp 22) (.tmp 20)), .none, []⟩, ⟨(.some 24), (.load 1 false (.tmp 23)), .none, []⟩, ⟨(.some 25), (.len (.tmp 24)), .none, []⟩, ⟨(.some 26), (.pu (.n (.ar .lss)) [(.tmp 18), (.tmp 25)]), .none, []⟩]) (.cond (.tmp 26) .skip (.exit 2))) (.seq (.block 3 (.ops [⟨(.some 29), (.mv (.tmp 5)), .none, []⟩, ⟨(.some 30), (.mv (.tmp 0)), .none, []⟩, ⟨(.some 31), (.mv (.tmp 6)), .none, []⟩, ⟨(.some 32), (.nilChk (.tmp 30)), .none, []⟩, ⟨(.some 33), (.fieldA 0 (.tmp 32)), .none, []⟩, ⟨(.some 34), (.idxA 16 1 (.tmp 33) (.tmp 31)), .none, []⟩, ⟨(.some 35), (.load 1 false (.tmp 34)), .none, []⟩, ⟨(.some 36), (.mv (.tmp 7)), .none, []⟩, ⟨(.some 37), (.idxS 12 (.tmp 35) (.tmp 36)), .none, []⟩, ⟨(.some 38), (.load 12 true (.tmp 37)), .none, []⟩, ⟨(.some 39), (.call (2 * f_impl_opCopy + 1) [(.tmp 38)]), .none, []⟩, ⟨(.some 40), (.buildSl 12 true 1 [(.int .i64 0), (.int .i64 0), (.int .i64 0), (.slice .none 0 0), (.int .i64 0), (.int .i64 0), (.int .i64 0), (.int .i64 0), (.int .i64 0), (.int .i64 0), (.string ⟨#[]⟩), (.string ⟨#[]⟩)] [(0, (.tmp 39))]), .none, []⟩, ⟨(.some 41), (.append 12 true 128 (.tmp 29) (.tmp 40)), .none, []⟩, ⟨(.some 5), (.mv (.tmp 41)), .none, []⟩])) (.ops [⟨(.some 27), (.mv (.tmp 7)), .none, []⟩, ⟨(.some 28), (.pu (.n (.ar .add)) [(.tmp 27), (.const (.int .i64 1))]), .none, []⟩, ⟨(.some 7), (.mv (.tmp 28)), .none, []⟩])))))))) (.ops [⟨(.some 42), (.pu (.n (.ar .add)) [(.tmp 8), (.const (.int .i64 1))]), .none, []⟩, ⟨(.some 8), (.mv (.tmp 42)), .none, []⟩]))))))) (.seq (.ops [⟨(.some 43), (.mv (.tmp 5)), .none, []⟩, ⟨(.some 4), (.mv (.tmp 43)), .none, []⟩]) .ret)))), [(.tmp 4)]⟩
def o_impl_book_ahead (b : List TOp) (v : V) (h : Heap) : Prop := ∃ n0 : V, v = n0 ∧ NestV h 0 h.length n0 b
def oo_impl_book_ahead (b : List TOp) (h : Heap) (v : V) (h2 : Heap) : Prop := Keep [] h h2 ∧ ∃ n0 : V, v = n0 ∧ NestV h2 h.length h2.length n0 b
def k_impl_book_ahead (F : Fun) : Prop := ∀ (x0 : Option TBook) (x1 : Option TBook) (b : List TOp), p_impl_book_ahead x0 x1 = some b → ∀ (h : Heap) (args : List V), snapA 9 false h args = some (encA (x0, x1)) → ∃ p, F none args h = some p ∧ oo_impl_book_ahead b h p.1 p.2
set_option maxHeartbeats 10000000 in
theorem w_impl_book_ahead {P : Program} {env : Env} {f_impl_opCopy : Nat}  (e_impl_opCopy : k_impl_opCopy (env (2 * f_impl_opCopy + 1))) (x0 : Option TBook) (x1 : Option TBook) {b : List TOp} (hp : p_impl_book_ahead x0 x1 = some b) : R P env (c_impl_book_ahead f_impl_opCopy) ((encA (x0, x1)).map ofI) [] (o_impl_book_ahead b) := by
  refine R_of (by simp [c_impl_book_ahead, encA]) ?_
  have hO0 := @opc_virtC
  have hO1 := @opc_nilsOf
  have hO2 := @opc_virtV
  have hO3 := @opc_nilsV
  have hO4 := @opc_one
  have hO5 := @opc_splice
  have hO6 := @opc_virtVw
  have hO7 := @opc_nilsVw
  have hO8 := @opc_onew
  unfold c_impl_book_ahead
  unfold p_impl_book_ahead at hp
  obtain ⟨ee2, hee2, hp⟩ := bind_eq hp
  simp (maxSteps := 2000000) (disch := first | omega | (simp only [ls]; first | done | omega)) only [hO0, hO1, hO2, hO3, hO4, hO5, hO6, hO7, hO8, gx, Int.reduceToNat]
  refine W_loopP 0 (fun s t h => match s with | (s0, s1) => ∃ bkv0_5 : V, ∃ bkh0_5 : Nat, t 0 = .i (enc (x0 : Option TBook)) ∧ t 1 = .i (enc (x1 : Option TBook)) ∧ t 5 = bkv0_5 ∧ t 8 = .i (.s (.int .i64 s1)) ∧ NestV h 1 bkh0_5 bkv0_5 (s0 : List TOp) ∧ bkh0_5 ≤ h.length) (RK [.tmp 4] (o_impl_book_ahead)) ?_ hee2 ?_ ?_
  · rintro ⟨s0, s1⟩ ee tt0 hh0 ⟨bkv0_5, bkh0_5, ftt0_0, ftt0_1, ftt0_2, ftt0_3, ftt0_4, ftt0_5⟩ hp
    rw [p_impl_book_ahead_l2] at hp
    by_cases hb2 : (decide (s1 < 16)) = true
    · rw [if_t hb2] at hp
      obtain ⟨v3, hv3, hp⟩ := bind_eq hp
      obtain ⟨v4, hv4, hp⟩ := bind_eq hp
      have gv4 := get_some hv4
      have bv4 : s1 < 16 := by have := gv4.2.1; have := (v3).h1; omega
      have hk5 := ip_of hv4
      have hk5l : 1 ≤ _ := ip_len0 (k := v3) (i := s1) (by have := gv4.2.1; have := (v3).h1; omega)
      obtain ⟨ee1, hee1, hp⟩ := bind_eq hp
      simp (maxSteps := 2000000) (disch := first | omega | (simp only [ls]; first | done | omega)) only [hO0, hO1, hO2, hO3, hO4, hO5, hO6, hO7, hO8, ftt0_0, ftt0_1, ftt0_2, ftt0_3, ftt0_4, ftt0_5, hb2, hv3, hv4, (gv4).1, bv4, hk5, hk5l, gx, Int.reduceToNat]
      refine W_loopP 2 (fun s t h => match s with | (s6, s7) => ∃ bkv1_5 : V, ∃ bkh1_5 : Nat, t 0 = .i (enc (x0 : Option TBook)) ∧ t 1 = .i (enc (x1 : Option TBook)) ∧ t 5 = bkv1_5 ∧ t 6 = .i (.s (.int .i64 s1)) ∧ t 7 = .i (.s (.int .i64 s7)) ∧ t 8 = .i (.s (.int .i64 s1)) ∧ NestV h 1 bkh1_5 bkv1_5 (s6 : List TOp) ∧ bkh1_5 ≤ h.length) (RK [.tmp 4] (o_impl_book_ahead)) ?_ hee1 ?_ ?_
      · rintro ⟨s6, s7⟩ ee tt1 hh1 ⟨bkv1_5, bkh1_5, ftt1_0, ftt1_1, ftt1_2, ftt1_3, ftt1_4, ftt1_5, ftt1_6, ftt1_7⟩ hp
        rw [p_impl_book_ahead_l1] at hp
        obtain ⟨v8, hv8, hp⟩ := bind_eq hp
        obtain ⟨v9, hv9, hp⟩ := bind_eq hp
        have gv9 := get_some hv9
        have bv9 : s1 < 16 := by have := gv9.2.1; have := (v8).h1; omega
        have hk10 := ip_of hv9
        have hk10l : 1 ≤ _ := ip_len0 (k := v8) (i := s1) (by have := gv9.2.1; have := (v8).h1; omega)
        by_cases hb11 : (decide (s7 < (v9.length : Int))) = true
        · rw [if_t hb11] at hp
          have hk12 := ip_of hv9
          have hk12l : 1 ≤ _ := ip_len0 (k := v8) (i := s1) (by have := gv9.2.1; have := (v8).h1; omega)
          obtain ⟨v13, hv13, hp⟩ := bind_eq hp
          obtain ⟨v14, hv14, hp⟩ := bind_eq hp
          simp (maxSteps := 2000000) (disch := first | omega | (simp only [ls]; first | done | omega)) only [hO0, hO1, hO2, hO3, hO4, hO5, hO6, hO7, hO8, ftt0_0, ftt0_1, ftt0_2, ftt0_3, ftt0_4, ftt0_5, hb2, hv3, hv4, (gv4).1, bv4, hk5, hk5l, ftt1_0, ftt1_1, ftt1_2, ftt1_3, ftt1_4, ftt1_5, ftt1_6, ftt1_7, hv8, hv9, (gv9).1, bv9, hk10, hk10l, hb11, hk12, hk12l, hv13, gx, Int.reduceToNat]
          refine call_f (fun h => NestV h 1 bkh1_5 bkv1_5 (s6 : List TOp) ∧ bkh1_5 ≤ h.length) (fun h v h2 => oo_impl_opCopy v14 h v h2) ?_ ?_ ?_
          · simp (maxSteps := 2000000) (disch := first | omega | (simp only [ls]; first | done | omega)) only [hO0, hO1, hO2, hO3, hO4, hO5, hO6, hO7, hO8, ftt0_0, ftt0_1, ftt0_2, ftt0_3, ftt0_4, ftt0_5, hb2, hv3, hv4, (gv4).1, bv4, hk5, hk5l, ftt1_0, ftt1_1, ftt1_2, ftt1_3, ftt1_4, ftt1_5, ftt1_6, ftt1_7, hv8, hv9, (gv9).1, bv9, hk10, hk10l, hb11, hk12, hk12l, hv13, hv14, gx, Int.reduceToNat] <;> (repeat (first | refine And.intro ?_ ?_ | assumption | exact nest_ext (by assumption) | exact nest_wide (by assumption) (Nat.zero_le _) (by first | omega | (simp; omega)) (Nat.le_refl _) | exact nest_wide (nest_ext (by assumption)) (Nat.zero_le _) (by first | omega | (simp; omega)) (Nat.le_refl _) | exact nest_virt (by simp (maxSteps := 2000000) (disch := first | omega | (simp only [ls]; first | done | omega)) only [hO0, hO1, hO2, hO3, hO4, hO5, hO6, hO7, hO8, ftt0_0, ftt0_1, ftt0_2, ftt0_3, ftt0_4, ftt0_5, hb2, hv3, hv4, (gv4).1, bv4, hk5, hk5l, ftt1_0, ftt1_1, ftt1_2, ftt1_3, ftt1_4, ftt1_5, ftt1_6, ftt1_7, hv8, hv9, (gv9).1, bv9, hk10, hk10l, hb11, hk12, hk12l, hv13, hv14, gx, Int.reduceToNat]) (by omega) (by first | omega | (simp; done) | (simp; omega)) (by first | omega | (simp; done) | (simp; omega)) | refine nest_ext ?_ | refine nest_set ?_ (by omega) | omega))
          · rintro h ⟨c2_0, c2_1⟩
            have sc2_0 : snap 9 false h bkv1_5 = some (.sl 12 (s6.map enc)) := snap_nest (n := 5) c2_0
            exact e_impl_opCopy _ _ hv14 h _ (by simp (maxSteps := 2000000) (disch := first | omega | (simp only [ls]; first | done | omega)) only [hO0, hO1, hO2, hO3, hO4, hO5, hO6, hO7, hO8, ftt0_0, ftt0_1, ftt0_2, ftt0_3, ftt0_4, ftt0_5, hb2, hv3, hv4, (gv4).1, bv4, hk5, hk5l, ftt1_0, ftt1_1, ftt1_2, ftt1_3, ftt1_4, ftt1_5, ftt1_6, ftt1_7, hv8, hv9, (gv9).1, bv9, hk10, hk10l, hb11, hk12, hk12l, hv13, hv14, c2_0, c2_1, sc2_0, gx, Int.reduceToNat])
          · rintro hc2 v hh2 ⟨c2_0, c2_1⟩ hpost
            obtain ⟨kk2, nb2_0, rfl, lnb2_0, gnb2_0, wnb2_0⟩ := hpost
            have d2_0 : NestV hh2 1 bkh1_5 bkv1_5 (s6 : List TOp) := nest_keep c2_0 kk2 (by intro b hb; first | (simp at hb; done) | (simp at hb; omega))
            have d2_0l := nest_lt d2_0
            have d2_0s : snap 9 false hh2 bkv1_5 = some (.sl 12 (s6.map enc)) := snap_nest (n := 5) d2_0
            have d2_0n : lenS bkv1_5 = some s6.length := nest_lenS d2_0
            have d2_1 := wnb2_0
            obtain ⟨v15, hv15, hp⟩ := bind_eq hp
            simp (maxSteps := 2000000) (disch := first | omega | (simp only [ls]; first | done | omega)) only [hO0, hO1, hO2, hO3, hO4, hO5, hO6, hO7, hO8, ftt0_0, ftt0_1, ftt0_2, ftt0_3, ftt0_4, ftt0_5, hb2, hv3, hv4, (gv4).1, bv4, hk5, hk5l, ftt1_0, ftt1_1, ftt1_2, ftt1_3, ftt1_4, ftt1_5, ftt1_6, ftt1_7, hv8, hv9, (gv9).1, bv9, hk10, hk10l, hb11, hk12, hk12l, hv13, hv14, d2_0, d2_0s, d2_0n, d2_1, gx, Int.reduceToNat]
            refine app_nest_f (lo := 1) (hi := bkh1_5) (g := nb2_0) (x := (v14 : TOp)) (xs := s6) (fun h => NestV h 1 bkh1_5 bkv1_5 (s6 : List TOp) ∧ bkh1_5 ≤ h.length ∧ getCells h nb2_0 v14.deps.counts.length = some (rows (v14.deps.counts : List Int)) ∧ nb2_0 < h.length) ?_ ?_ hv15 ?_ (by omega) ?_
            · simp (maxSteps := 2000000) (disch := first | omega | (simp only [ls]; first | done | omega)) only [hO0, hO1, hO2, hO3, hO4, hO5, hO6, hO7, hO8, ftt0_0, ftt0_1, ftt0_2, ftt0_3, ftt0_4, ftt0_5, hb2, hv3, hv4, (gv4).1, bv4, hk5, hk5l, ftt1_0, ftt1_1, ftt1_2, ftt1_3, ftt1_4, ftt1_5, ftt1_6, ftt1_7, hv8, hv9, (gv9).1, bv9, hk10, hk10l, hb11, hk12, hk12l, hv13, hv14, d2_0, d2_0s, d2_0n, d2_1, hv15, gx, Int.reduceToNat] <;> (repeat (first | refine And.intro ?_ ?_ | assumption | exact nest_ext (by assumption) | exact nest_wide (by assumption) (Nat.zero_le _) (by first | omega | (simp; omega)) (Nat.le_refl _) | exact nest_wide (nest_ext (by assumption)) (Nat.zero_le _) (by first | omega | (simp; omega)) (Nat.le_refl _) | exact nest_virt (by simp (maxSteps := 2000000) (disch := first | omega | (simp only [ls]; first | done | omega)) only [hO0, hO1, hO2, hO3, hO4, hO5, hO6, hO7, hO8, ftt0_0, ftt0_1, ftt0_2, ftt0_3, ftt0_4, ftt0_5, hb2, hv3, hv4, (gv4).1, bv4, hk5, hk5l, ftt1_0, ftt1_1, ftt1_2, ftt1_3, ftt1_4, ftt1_5, ftt1_6, ftt1_7, hv8, hv9, (gv9).1, bv9, hk10, hk10l, hb11, hk12, hk12l, hv13, hv14, d2_0, d2_0s, d2_0n, d2_1, hv15, gx, Int.reduceToNat]) (by omega) (by first | omega | (simp; done) | (simp; omega)) (by first | omega | (simp; done) | (simp; omega)) | refine nest_ext ?_ | refine nest_set ?_ (by omega) | omega))
            · rintro h ⟨c3_0, c3_1, c3_2, c3_3⟩
              exact c3_0
            · rintro h ⟨c3_0, c3_1, c3_2, c3_3⟩
              first | exact c3_2 | exact gc_eq c3_2 (by first | rfl | omega | (simp; omega))
            · rintro h0 nv3 hh3 ⟨c3_0, c3_1, c3_2, c3_3⟩ kk3 w3
              have d3_0 : NestV hh3 1 (nb2_0 + 1) nv3 (v15 : List TOp) := w3
              have d3_0l := nest_lt d3_0
              have d3_0n : lenS nv3 = some v15.length := nest_lenS d3_0
              have hp := Option.some.inj hp
              subst hp
              simp (maxSteps := 2000000) (disch := first | omega | (simp only [ls]; first | done | omega)) only [hO0, hO1, hO2, hO3, hO4, hO5, hO6, hO7, hO8, ftt0_0, ftt0_1, ftt0_2, ftt0_3, ftt0_4, ftt0_5, hb2, hv3, hv4, (gv4).1, bv4, hk5, hk5l, ftt1_0, ftt1_1, ftt1_2, ftt1_3, ftt1_4, ftt1_5, ftt1_6, ftt1_7, hv8, hv9, (gv9).1, bv9, hk10, hk10l, hb11, hk12, hk12l, hv13, hv14, d2_0, d2_0s, d2_0n, d2_1, hv15, d3_0, d3_0n, gx, Int.reduceToNat]
              refine ⟨nv3, nb2_0 + 1, ?_⟩
              simp (maxSteps := 2000000) (disch := first | omega | (simp only [ls]; first | done | omega)) only [hO0, hO1, hO2, hO3, hO4, hO5, hO6, hO7, hO8, ftt0_0, ftt0_1, ftt0_2, ftt0_3, ftt0_4, ftt0_5, hb2, hv3, hv4, (gv4).1, bv4, hk5, hk5l, ftt1_0, ftt1_1, ftt1_2, ftt1_3, ftt1_4, ftt1_5, ftt1_6, ftt1_7, hv8, hv9, (gv9).1, bv9, hk10, hk10l, hb11, hk12, hk12l, hv13, hv14, d2_0, d2_0s, d2_0n, d2_1, hv15, d3_0, d3_0n, gx, Int.reduceToNat] <;> (repeat (first | refine And.intro ?_ ?_ | assumption | exact nest_ext (by assumption) | exact nest_wide (by assumption) (Nat.zero_le _) (by first | omega | (simp; omega)) (Nat.le_refl _) | exact nest_wide (nest_ext (by assumption)) (Nat.zero_le _) (by first | omega | (simp; omega)) (Nat.le_refl _) | exact nest_virt (by simp (maxSteps := 2000000) (disch := first | omega | (simp only [ls]; first | done | omega)) only [hO0, hO1, hO2, hO3, hO4, hO5, hO6, hO7, hO8, ftt0_0, ftt0_1, ftt0_2, ftt0_3, ftt0_4, ftt0_5, hb2, hv3, hv4, (gv4).1, bv4, hk5, hk5l, ftt1_0, ftt1_1, ftt1_2, ftt1_3, ftt1_4, ftt1_5, ftt1_6, ftt1_7, hv8, hv9, (gv9).1, bv9, hk10, hk10l, hb11, hk12, hk12l, hv13, hv14, d2_0, d2_0s, d2_0n, d2_1, hv15, d3_0, d3_0n, gx, Int.reduceToNat]) (by omega) (by first | omega | (simp; done) | (simp; omega)) (by first | omega | (simp; done) | (simp; omega)) | refine nest_ext ?_ | refine nest_set ?_ (by omega) | omega))
        · replace hb11 := eq_false_of_ne_true hb11
          rw [if_f hb11] at hp
          have hp := Option.some.inj hp
          subst hp
          simp (maxSteps := 2000000) (disch := first | omega | (simp only [ls]; first | done | omega)) only [hO0, hO1, hO2, hO3, hO4, hO5, hO6, hO7, hO8, ftt0_0, ftt0_1, ftt0_2, ftt0_3, ftt0_4, ftt0_5, hb2, hv3, hv4, (gv4).1, bv4, hk5, hk5l, ftt1_0, ftt1_1, ftt1_2, ftt1_3, ftt1_4, ftt1_5, ftt1_6, ftt1_7, hv8, hv9, (gv9).1, bv9, hk10, hk10l, hb11, gx, Int.reduceToNat]
          refine ⟨bkv1_5, bkh1_5, ?_⟩
          simp (maxSteps := 2000000) (disch := first | omega | (simp only [ls]; first | done | omega)) only [hO0, hO1, hO2, hO3, hO4, hO5, hO6, hO7, hO8, ftt0_0, ftt0_1, ftt0_2, ftt0_3, ftt0_4, ftt0_5, hb2, hv3, hv4, (gv4).1, bv4, hk5, hk5l, ftt1_0, ftt1_1, ftt1_2, ftt1_3, ftt1_4, ftt1_5, ftt1_6, ftt1_7, hv8, hv9, (gv9).1, bv9, hk10, hk10l, hb11, gx, Int.reduceToNat] <;> (repeat (first | refine And.intro ?_ ?_ | assumption | exact nest_ext (by assumption) | exact nest_wide (by assumption) (Nat.zero_le _) (by first | omega | (simp; omega)) (Nat.le_refl _) | exact nest_wide (nest_ext (by assumption)) (Nat.zero_le _) (by first | omega | (simp; omega)) (Nat.le_refl _) | exact nest_virt (by simp (maxSteps := 2000000) (disch := first | omega | (simp only [ls]; first | done | omega)) only [hO0, hO1, hO2, hO3, hO4, hO5, hO6, hO7, hO8, ftt0_0, ftt0_1, ftt0_2, ftt0_3, ftt0_4, ftt0_5, hb2, hv3, hv4, (gv4).1, bv4, hk5, hk5l, ftt1_0, ftt1_1, ftt1_2, ftt1_3, ftt1_4, ftt1_5, ftt1_6, ftt1_7, hv8, hv9, (gv9).1, bv9, hk10, hk10l, hb11, gx, Int.reduceToNat]) (by omega) (by first | omega | (simp; done) | (simp; omega)) (by first | omega | (simp; done) | (simp; omega)) | refine nest_ext ?_ | refine nest_set ?_ (by omega) | omega))
      · refine ⟨bkv0_5, bkh0_5, ?_⟩
        simp (maxSteps := 2000000) (disch := first | omega | (simp only [ls]; first | done | omega)) only [hO0, hO1, hO2, hO3, hO4, hO5, hO6, hO7, hO8, ftt0_0, ftt0_1, ftt0_2, ftt0_3, ftt0_4, ftt0_5, hb2, hv3, hv4, (gv4).1, bv4, hk5, hk5l, gx, Int.reduceToNat] <;> (repeat (first | refine And.intro ?_ ?_ | assumption | exact nest_ext (by assumption) | exact nest_wide (by assumption) (Nat.zero_le _) (by first | omega | (simp; omega)) (Nat.le_refl _) | exact nest_wide (nest_ext (by assumption)) (Nat.zero_le _) (by first | omega | (simp; omega)) (Nat.le_refl _) | exact nest_virt (by simp (maxSteps := 2000000) (disch := first | omega | (simp only [ls]; first | done | omega)) only [hO0, hO1, hO2, hO3, hO4, hO5, hO6, hO7, hO8, ftt0_0, ftt0_1, ftt0_2, ftt0_3, ftt0_4, ftt0_5, hb2, hv3, hv4, (gv4).1, bv4, hk5, hk5l, gx, Int.reduceToNat]) (by omega) (by first | omega | (simp; done) | (simp; omega)) (by first | omega | (simp; done) | (simp; omega)) | refine nest_ext ?_ | refine nest_set ?_ (by omega) | omega))
      · intro x tt4 hh4 hx
        rcases ee1 with ⟨o16, o17⟩ | r
        · obtain ⟨rfl, bov1_5, boh1_5, ftt4_0, ftt4_1, ftt4_2, ftt4_3, ftt4_4, ftt4_5, ftt4_6, ftt4_7⟩ := hx
          dsimp only at hp
          have hp := Option.some.inj hp
          subst hp
          simp (maxSteps := 2000000) (disch := first | omega | (simp only [ls]; first | done | omega)) only [hO0, hO1, hO2, hO3, hO4, hO5, hO6, hO7, hO8, ftt0_0, ftt0_1, ftt0_2, ftt0_3, ftt0_4, ftt0_5, hb2, hv3, hv4, (gv4).1, bv4, hk5, hk5l, ftt4_0, ftt4_1, ftt4_2, ftt4_3, ftt4_4, ftt4_5, ftt4_6, ftt4_7, gx, Int.reduceToNat]
          refine ⟨bov1_5, boh1_5, ?_⟩
          simp (maxSteps := 2000000) (disch := first | omega | (simp only [ls]; first | done | omega)) only [hO0, hO1, hO2, hO3, hO4, hO5, hO6, hO7, hO8, ftt0_0, ftt0_1, ftt0_2, ftt0_3, ftt0_4, ftt0_5, hb2, hv3, hv4, (gv4).1, bv4, hk5, hk5l, ftt4_0, ftt4_1, ftt4_2, ftt4_3, ftt4_4, ftt4_5, ftt4_6, ftt4_7, gx, Int.reduceToNat] <;> (repeat (first | refine And.intro ?_ ?_ | assumption | exact nest_ext (by assumption) | exact nest_wide (by assumption) (Nat.zero_le _) (by first | omega | (simp; omega)) (Nat.le_refl _) | exact nest_wide (nest_ext (by assumption)) (Nat.zero_le _) (by first | omega | (simp; omega)) (Nat.le_refl _) | exact nest_virt (by simp (maxSteps := 2000000) (disch := first | omega | (simp only [ls]; first | done | omega)) only [hO0, hO1, hO2, hO3, hO4, hO5, hO6, hO7, hO8, ftt0_0, ftt0_1, ftt0_2, ftt0_3, ftt0_4, ftt0_5, hb2, hv3, hv4, (gv4).1, bv4, hk5, hk5l, ftt4_0, ftt4_1, ftt4_2, ftt4_3, ftt4_4, ftt4_5, ftt4_6, ftt4_7, gx, Int.reduceToNat]) (by omega) (by first | omega | (simp; done) | (simp; omega)) (by first | omega | (simp; done) | (simp; omega)) | refine nest_ext ?_ | refine nest_set ?_ (by omega) | omega))
        · obtain ⟨rfl, hx⟩ := hx
          dsimp only at hp
          cases hp
          simp only [seqK_ret, blockK_ret, retK_RK (K := o_impl_book_ahead), hx, and_self, true_and]
    · replace hb2 := eq_false_of_ne_true hb2
      rw [if_f hb2] at hp
      have hp := Option.some.inj hp
      subst hp
      simp (maxSteps := 2000000) (disch := first | omega | (simp only [ls]; first | done | omega)) only [hO0, hO1, hO2, hO3, hO4, hO5, hO6, hO7, hO8, ftt0_0, ftt0_1, ftt0_2, ftt0_3, ftt0_4, ftt0_5, hb2, gx, Int.reduceToNat]
      refine ⟨bkv0_5, bkh0_5, ?_⟩
      simp (maxSteps := 2000000) (disch := first | omega | (simp only [ls]; first | done | omega)) only [hO0, hO1, hO2, hO3, hO4, hO5, hO6, hO7, hO8, ftt0_0, ftt0_1, ftt0_2, ftt0_3, ftt0_4, ftt0_5, hb2, gx, Int.reduceToNat] <;> (repeat (first | refine And.intro ?_ ?_ | assumption | exact nest_ext (by assumption) | exact nest_wide (by assumption) (Nat.zero_le _) (by first | omega | (simp; omega)) (Nat.le_refl _) | exact nest_wide (nest_ext (by assumption)) (Nat.zero_le _) (by first | omega | (simp; omega)) (Nat.le_refl _) | exact nest_virt (by simp (maxSteps := 2000000) (disch := first | omega | (simp only [ls]; first | done | omega)) only [hO0, hO1, hO2, hO3, hO4, hO5, hO6, hO7, hO8, ftt0_0, ftt0_1, ftt0_2, ftt0_3, ftt0_4, ftt0_5, hb2, gx, Int.reduceToNat]) (by omega) (by first | omega | (simp; done) | (simp; omega)) (by first | omega | (simp; done) | (simp; omega)) | refine nest_ext ?_ | refine nest_set ?_ (by omega) | omega))
  · refine ⟨(.hsl 1 0 0 12 true 0), 2, ?_⟩
    simp (maxSteps := 2000000) (disch := first | omega | (simp only [ls]; first | done | omega)) only [hO0, hO1, hO2, hO3, hO4, hO5, hO6, hO7, hO8, gx, Int.reduceToNat] <;> (repeat (first | refine And.intro ?_ ?_ | assumption | exact nest_ext (by assumption) | exact nest_wide (by assumption) (Nat.zero_le _) (by first | omega | (simp; omega)) (Nat.le_refl _) | exact nest_wide (nest_ext (by assumption)) (Nat.zero_le _) (by first | omega | (simp; omega)) (Nat.le_refl _) | exact nest_virt (by simp (maxSteps := 2000000) (disch := first | omega | (simp only [ls]; first | done | omega)) only [hO0, hO1, hO2, hO3, hO4, hO5, hO6, hO7, hO8, gx, Int.reduceToNat]) (by omega) (by first | omega | (simp; done) | (simp; omega)) (by first | omega | (simp; done) | (simp; omega)) | refine nest_ext ?_ | refine nest_set ?_ (by omega) | omega))
  · intro x tt5 hh5 hx
    rcases ee2 with ⟨o18, o19⟩ | r
    · obtain ⟨rfl, bov0_5, boh0_5, ftt5_0, ftt5_1, ftt5_2, ftt5_3, ftt5_4, ftt5_5⟩ := hx
      dsimp only at hp
      have hp := Option.some.inj hp
      subst hp
      simp (maxSteps := 2000000) (disch := first | omega | (simp only [ls]; first | done | omega)) only [hO0, hO1, hO2, hO3, hO4, hO5, hO6, hO7, hO8, ftt5_0, ftt5_1, ftt5_2, ftt5_3, ftt5_4, ftt5_5, gx, Int.reduceToNat]
      refine ⟨bov0_5, ?_⟩
      simp (maxSteps := 2000000) (disch := first | omega | (simp only [ls]; first | done | omega)) only [hO0, hO1, hO2, hO3, hO4, hO5, hO6, hO7, hO8, ftt5_0, ftt5_1, ftt5_2, ftt5_3, ftt5_4, ftt5_5, o_impl_book_ahead, gx, Int.reduceToNat] <;> (repeat (first | refine And.intro ?_ ?_ | assumption | exact nest_ext (by assumption) | exact nest_wide (by assumption) (Nat.zero_le _) (by first | omega | (simp; omega)) (Nat.le_refl _) | exact nest_wide (nest_ext (by assumption)) (Nat.zero_le _) (by first | omega | (simp; omega)) (Nat.le_refl _) | exact nest_virt (by simp (maxSteps := 2000000) (disch := first | omega | (simp only [ls]; first | done | omega)) only [hO0, hO1, hO2, hO3, hO4, hO5, hO6, hO7, hO8, ftt5_0, ftt5_1, ftt5_2, ftt5_3, ftt5_4, ftt5_5, o_impl_book_ahead, gx, Int.reduceToNat]) (by omega) (by first | omega | (simp; done) | (simp; omega)) (by first | omega | (simp; done) | (simp; omega)) | refine nest_ext ?_ | refine nest_set ?_ (by omega) | omega))
    · obtain ⟨rfl, hx⟩ := hx
      dsimp only at hp
      cases hp
      simp only [seqK_ret, blockK_ret, retK_RK (K := o_impl_book_ahead), hx, and_self, true_and]
theorem ko_impl_book_ahead {P : Program} {env : Env} {f_impl_opCopy : Nat}  (e_impl_opCopy : k_impl_opCopy (env (2 * f_impl_opCopy + 1))) : k_impl_book_ahead (ownFn P env (c_impl_book_ahead f_impl_opCopy)) := by
  intro x0 x1 b hp h args has
  obtain ⟨⟨v, H2⟩, hr, n0, rfl, wn0⟩ := w_impl_book_ahead e_impl_opCopy x0 x1 hp
  exact ⟨_, own_call has hr (nest_hand wn0), keep_moved, _, rfl, nest_movedO wn0⟩

noncomputable def p_impl_BranchAhead (x0 : List TOp) (x1 : List TOp) : Option (T2 (List TOp) Int) :=
  (p_impl_readTwo x0 x1).bind fun v0 =>
  if (decide (v0.c = 0)) = true then
    (p_impl_book_ahead v0.a v0.b).bind fun v2 =>
    some ⟨v2, 0⟩
  else
    some ⟨[], v0.c⟩
def c_impl_BranchAhead (f_impl_readTwo : Nat) (f_impl_book_ahead : Nat) : AFn := ⟨22, (.seq (.ops [⟨(.some 4), (.vnil 12 true), .none, []⟩, ⟨(.some 5), (.mv (.const (.int .i64 0))), .none, []⟩]) (.seq (.ops [⟨(.some 10), (.mv (.tmp 0)), .none, []⟩, ⟨(.some 11), (.mv (.tmp 1)), .none, []⟩, ⟨(.some 12), (.call (2 * f_impl_readTwo) [(.tmp 10), (.tmp 11)]), .none, []⟩, ⟨(.some 9), (.mv (.tmp 12)), .none, []⟩, ⟨(.some 13), (.extract 0 (.tmp 9)), .none, []⟩, ⟨(.some 14), (.extract 1 (.tmp 9)), .none, []⟩, ⟨(.some 15), (.extract 2 (.tmp 9)), .none, []⟩, ⟨(.some 6), (.mv (.tmp 13)), .none, []⟩, ⟨(.some 7), (.mv (.tmp 14)), .none, []⟩, ⟨(.some 8), (.mv (.tmp 15)), .none, []⟩]) (.seq (.seq (.ops [⟨(.some 16), (.mv (.tmp 8)), .none, []⟩, ⟨(.some 17), (.pu (.n (.ar .neq)) [(.tmp 16), (.const (.int .i64 0))]), .none, []⟩]) (.cond (.tmp 17) (.seq (.ops [⟨(.some 18), (.mv (.tmp 8)), .none, []⟩, ⟨(.some 4), (.vnil 12 true), .none, []⟩, ⟨(.some 5), (.mv (.tmp 18)), .none, []⟩]) .ret) .skip)) (.seq (.ops [⟨(.some 19), (.mv (.tmp 6)), .none, []⟩, ⟨(.some 20), (.mv (.tmp 7)), .none, []⟩, ⟨(.some 21), (.call (2 * f_impl_book_ahead + 1) [(.tmp 19), (.tmp 20)]), .none, []⟩, ⟨(.some 4), (.mv (.tmp 21)), .none, []⟩, ⟨(.some 5), (.mv (.const (.int .i64 0))), .none, []⟩]) .ret)))), [(.tmp 4), (.tmp 5)]⟩
def o_impl_BranchAhead (b : T2 (List TOp) Int) (v : V) (h : Heap) : Prop := ∃ n0 : V, v = .tup [n0, .i (.s (.int .i64 b.b))] ∧ NestV h 0 h.length n0 b.a
def oo_impl_BranchAhead (b : T2 (List TOp) Int) (h : Heap) (v : V) (h2 : Heap) : Prop := Keep [] h h2 ∧ ∃ n0 : V, v = .tup [n0, .i (.s (.int .i64 b.b))] ∧ NestV h2 h.length h2.length n0 b.a
def k_impl_BranchAhead (F : Fun) : Prop := ∀ (x0 : List TOp) (x1 : List TOp) (b : T2 (List TOp) Int), p_impl_BranchAhead x0 x1 = some b → ∀ (h : Heap) (args : List V), snapA 9 false h args = some (encA (x0, x1)) → ∃ p, F none args h = some p ∧ oo_impl_BranchAhead b h p.1 p.2
set_option maxHeartbeats 10000000 in
theorem w_impl_BranchAhead {P : Program} {env : Env} {f_impl_readTwo : Nat} {f_impl_book_ahead : Nat}  (ep_impl_readTwo : env (2 * f_impl_readTwo) = pureFn false (FA fun a : List TOp × List TOp => p_impl_readTwo a.1 a.2)) (e_impl_book_ahead : k_impl_book_ahead (env (2 * f_impl_book_ahead + 1))) (x0 : List TOp) (x1 : List TOp) {b : T2 (List TOp) Int} (hp : p_impl_BranchAhead x0 x1 = some b) : R P env (c_impl_BranchAhead f_impl_readTwo f_impl_book_ahead) ((encA (x0, x1)).map ofI) [] (o_impl_BranchAhead b) := by
  refine R_of (by simp [c_impl_BranchAhead, encA]) ?_
  unfold c_impl_BranchAhead
  unfold p_impl_BranchAhead at hp
  obtain ⟨v0, hv0, hp⟩ := bind_eq hp
  by_cases hb1 : (decide (v0.c = 0)) = true
  · rw [if_t hb1] at hp
    obtain ⟨v2, hv2, hp⟩ := bind_eq hp
    simp (maxSteps := 2000000) (disch := first | omega | (simp only [ls]; first | done | omega)) only [ep_impl_readTwo, hv0, hb1, gx, Int.reduceToNat]
    refine call_f (fun h => getCells h 0 0 = some [] ∧ 0 < h.length) (fun h v h2 => oo_impl_book_ahead v2 h v h2) ?_ ?_ ?_
    · simp (maxSteps := 2000000) (disch := first | omega | (simp only [ls]; first | done | omega)) only [ep_impl_readTwo, hv0, hb1, hv2, gx, Int.reduceToNat] <;> (repeat (first | refine And.intro ?_ ?_ | assumption | exact nest_ext (by assumption) | exact nest_wide (by assumption) (Nat.zero_le _) (by first | omega | (simp; omega)) (Nat.le_refl _) | exact nest_wide (nest_ext (by assumption)) (Nat.zero_le _) (by first | omega | (simp; omega)) (Nat.le_refl _) | exact nest_virt (by simp (maxSteps := 2000000) (disch := first | omega | (simp only [ls]; first | done | omega)) only [ep_impl_readTwo, hv0, hb1, hv2, gx, Int.reduceToNat]) (by omega) (by first | omega | (simp; done) | (simp; omega)) (by first | omega | (simp; done) | (simp; omega)) | refine nest_ext ?_ | refine nest_set ?_ (by omega) | omega))
    · rintro h ⟨c0_0, c0_1⟩
      exact e_impl_book_ahead _ _ _ hv2 h _ (by simp (maxSteps := 2000000) (disch := first | omega | (simp only [ls]; first | done | omega)) only [ep_impl_readTwo, hv0, hb1, hv2, c0_0, c0_1, gx, Int.reduceToNat])
    · rintro hc0 nb0_0 hh0 ⟨c0_0, c0_1⟩ hpost
      obtain ⟨kk0, _, rfl, wnb0_0⟩ := hpost
      have d0_0 : getCells hh0 0 0 = some [] := (keep_get kk0 c0_1 (by first | (simp; done) | (simp; omega))).trans c0_0
      have d0_0l := keep_lt kk0 c0_1
      have d0_1 := wnb0_0
      have d0_1l := nest_lt d0_1
      have d0_1s : snap 9 false hh0 nb0_0 = some (.sl 12 (v2.map enc)) := snap_nest (n := 5) d0_1
      have d0_1n : lenS nb0_0 = some v2.length := nest_lenS d0_1
      have hp := Option.some.inj hp
      subst hp
      simp (maxSteps := 2000000) (disch := first | omega | (simp only [ls]; first | done | omega)) only [ep_impl_readTwo, hv0, hb1, hv2, d0_0, d0_1, d0_1s, d0_1n, gx, Int.reduceToNat]
      refine ⟨nb0_0, ?_⟩
      simp (maxSteps := 2000000) (disch := first | omega | (simp only [ls]; first | done | omega)) only [ep_impl_readTwo, hv0, hb1, hv2, d0_0, d0_1, d0_1s, d0_1n, o_impl_BranchAhead, gx, Int.reduceToNat] <;> (repeat (first | refine And.intro ?_ ?_ | assumption | exact nest_ext (by assumption) | exact nest_wide (by assumption) (Nat.zero_le _) (by first | omega | (simp; omega)) (Nat.le_refl _) | exact nest_wide (nest_ext (by assumption)) (Nat.zero_le _) (by first | omega | (simp; omega)) (Nat.le_refl _) | exact nest_virt (by simp (maxSteps := 2000000) (disch := first | omega | (simp only [ls]; first | done | omega)) only [ep_impl_readTwo, hv0, hb1, hv2, d0_0, d0_1, d0_1s, d0_1n, o_impl_BranchAhead, gx, Int.reduceToNat]) (by omega) (by first | omega | (simp; done) | (simp; omega)) (by first | omega | (simp; done) | (simp; omega)) | refine nest_ext ?_ | refine nest_set ?_ (by omega) | omega))
  · replace hb1 := eq_false_of_ne_true hb1
    rw [if_f hb1] at hp
    have hp := Option.some.inj hp
    subst hp
    simp (maxSteps := 2000000) (disch := first | omega | (simp only [ls]; first | done | omega)) only [ep_impl_readTwo, hv0, hb1, gx, Int.reduceToNat]
    refine ⟨(.hsl 1 0 0 12 true 0), ?_⟩
    simp (maxSteps := 2000000) (disch := first | omega | (simp only [ls]; first | done | omega)) only [ep_impl_readTwo, hv0, hb1, o_impl_BranchAhead, gx, Int.reduceToNat] <;> (repeat (first | refine And.intro ?_ ?_ | assumption | exact nest_ext (by assumption) | exact nest_wide (by assumption) (Nat.zero_le _) (by first | omega | (simp; omega)) (Nat.le_refl _) | exact nest_wide (nest_ext (by assumption)) (Nat.zero_le _) (by first | omega | (simp; omega)) (Nat.le_refl _) | exact nest_virt (by simp (maxSteps := 2000000) (disch := first | omega | (simp only [ls]; first | done | omega)) only [ep_impl_readTwo, hv0, hb1, o_impl_BranchAhead, gx, Int.reduceToNat]) (by omega) (by first | omega | (simp; done) | (simp; omega)) (by first | omega | (simp; done) | (simp; omega)) | refine nest_ext ?_ | refine nest_set ?_ (by omega) | omega))
theorem ko_impl_BranchAhead {P : Program} {env : Env} {f_impl_readTwo : Nat} {f_impl_book_ahead : Nat}  (ep_impl_readTwo : env (2 * f_impl_readTwo) = pureFn false (FA fun a : List TOp × List TOp => p_impl_readTwo a.1 a.2)) (e_impl_book_ahead : k_impl_book_ahead (env (2 * f_impl_book_ahead + 1))) : k_impl_BranchAhead (ownFn P env (c_impl_BranchAhead f_impl_readTwo f_impl_book_ahead)) := by
  intro x0 x1 b hp h args has
  obtain ⟨⟨v, H2⟩, hr, n0, rfl, wn0⟩ := w_impl_BranchAhead ep_impl_readTwo e_impl_book_ahead x0 x1 hp
  exact ⟨_, own_call has hr (by obtain ⟨_, _, rfl, _⟩ := wn0; first | rfl | simp [V.handed, V.good]), keep_moved, n0.shift h.length, rfl, nest_movedO wn0⟩

noncomputable def p_laws_markIntS_l0 : List Int × Int × Int → Option (Lp (List Int × Int × Int) (T2 Int (List Int)))
  | (s0, s1, s2) =>
    if (decide (s2 < (s0.length : Int))) = true then
      (get? s0 s2).bind fun v5 =>
      some (.go ((s0.set s2.toNat s1), w64 (s1 + 1), w64 (s2 + 1)))
    else
      some (.out (s0, s1, s2))
noncomputable def p_laws_markIntS (x0 : List Int) (x1 : Int) : Option (T2 Int (List Int)) :=
  (loopP (p_laws_markIntS_l0) (x0, x1, 0)).bind fun ee0 => match ee0 with
  | .ret r => some r
  | .out (o7, o8, o9) =>
    some ⟨o8, o7⟩
def c_laws_markIntS : AFn := ⟨19, (.seq (.ops [⟨(.some 4), (.mv (.const (.int .i64 0))), .none, []⟩]) (.seq (.seq (.ops [⟨(.some 5), (.mv (.const (.int .i64 0))), .none, []⟩]) (.block 0 (.loop (.seq (.seq (.ops [⟨(.some 6), (.mv (.tmp 5)), .none, []⟩, ⟨(.some 7), (.mv (.tmp 0)), .none, []⟩, ⟨(.some 8), (.len (.tmp 7)), .none, []⟩, ⟨(.some 9), (.pu (.n (.ar .lss)) [(.tmp 6), (.tmp 8)]), .none, []⟩]) (.cond (.tmp 9) .skip (.exit 0))) (.seq (.block 1 (.seq (.ops [⟨(.some 12), (.mv (.tmp 0)), .none, []⟩, ⟨(.some 13), (.mv (.tmp 5)), .none, []⟩, ⟨(.some 14), (.mv (.tmp 1)), .none, []⟩, ⟨(.some 15), (.idxS 1 (.tmp 12) (.tmp 13)), .none, []⟩, ⟨.none, (.storeV [(0, false)] 1 (.tmp 15) (.tmp 14)), .none, []⟩]) (.ops [⟨(.some 16), (.mv (.tmp 1)), .none, []⟩, ⟨(.some 17), (.pu (.n (.ar .add)) [(.tmp 16), (.const (.int .i64 1))]), .none, []⟩, ⟨(.some 1), (.mv (.tmp 17)), .none, []⟩]))) (.ops [⟨(.some 10), (.mv (.tmp 5)), .none, []⟩, ⟨(.some 11), (.pu (.n (.ar .add)) [(.tmp 10), (.const (.int .i64 1))]), .none, []⟩, ⟨(.some 5), (.mv (.tmp 11)), .none, []⟩])))))) (.seq (.ops [⟨(.some 18), (.mv (.tmp 1)), .none, []⟩, ⟨(.some 4), (.mv (.tmp 18)), .none, []⟩]) .ret))), [(.tmp 4)]⟩
def i_laws_markIntS (pb0 pn0 : Nat) (h : Heap) (b : T2 Int (List Int)) (v : V) (h2 : Heap) : Prop := Keep [pb0] h h2 ∧ v = .i (.s (.int .i64 b.a)) ∧ getCells h2 pb0 pn0 = some (rows b.b)
def k_laws_markIntS (F : Fun) : Prop := ∀ (x0 : List Int) (x1 : Int) (b : T2 Int (List Int)), p_laws_markIntS x0 x1 = some b → ∀ (pb0 pn0 : Nat) (h : Heap), pn0 = (x0).length → getCells h pb0 pn0 = some (rows x0) → ∃ p, F none [.hsl pb0 pn0 0 1 false pn0, .i (.s (.int .i64 x1))] h = some p ∧ i_laws_markIntS pb0 pn0 h b p.1 p.2
set_option maxHeartbeats 10000000 in
theorem w_laws_markIntS {P : Program} {env : Env}  (x0 : List Int) (x1 : Int) {b : T2 Int (List Int)} (hp : p_laws_markIntS x0 x1 = some b) (pb0 pn0 : Nat) (hh : Heap) (pm0 : pn0 = (x0).length) (pf0 : getCells hh pb0 pn0 = some (rows x0)) : R P env (c_laws_markIntS) [.hsl pb0 pn0 0 1 false pn0, .i (.s (.int .i64 x1))] hh (i_laws_markIntS pb0 pn0 hh b) := by
  have pl0 := gc_lt pf0
  have pg0 : getCells hh pb0 x0.length = some (rows x0) := by rw [← pm0]; exact pf0
  refine R_of (by simp [c_laws_markIntS, encA]) ?_
  unfold c_laws_markIntS
  unfold p_laws_markIntS at hp
  obtain ⟨ee0, hee0, hp⟩ := bind_eq hp
  simp (maxSteps := 2000000) (disch := first | omega | (simp only [ls]; first | done | omega)) only [pf0, pg0, gx, Int.reduceToNat]
  refine W_loopP 0 (fun s t h => match s with | (s0, s1, s2) => t 0 = .hsl pb0 pn0 0 1 false pn0 ∧ t 1 = .i (.s (.int .i64 s1)) ∧ t 5 = .i (.s (.int .i64 s2)) ∧ getCells h pb0 pn0 = some (rows (s0 : List Int)) ∧ pb0 < h.length ∧ Keep [pb0] hh h) (RK [.tmp 4] (i_laws_markIntS pb0 pn0 hh)) ?_ hee0 ?_ ?_
  · rintro ⟨s0, s1, s2⟩ ee tt0 hh0 ⟨ftt0_0, ftt0_1, ftt0_2, ftt0_3, ftt0_4, ftt0_5⟩ hp
    have ztt0_3 := len_rows ftt0_3
    simp only [zs] at ztt0_3
    rw [p_laws_markIntS_l0] at hp
    have hz3 : ((pn0 : Nat) : Int) = (s0.length : Int) := by omega
    by_cases hb4 : (decide (s2 < (s0.length : Int))) = true
    · rw [if_t hb4] at hp
      obtain ⟨v5, hv5, hp⟩ := bind_eq hp
      have gv5 := get_some hv5
      have hs6 : List.take s2.toNat (rows s0) ++ .i (.s (.int .i64 s1)) :: List.drop (s2.toNat + 1) (rows s0) = rows (s0.set s2.toNat s1) := by simpa [splice, zs, cellsV, I.cells, enc_int] using rows_set_off (y := s1) (ys := [.i (.s (.int .i64 s1))]) (k := 0) gv5.2.2 (Nat.le_of_ble_eq_true rfl) (by rfl)
      have hp := Option.some.inj hp
      subst hp
      simp (maxSteps := 2000000) (disch := first | omega | (simp only [ls]; first | done | omega)) only [i_laws_markIntS, pf0, pg0, ftt0_0, ftt0_1, ftt0_2, ftt0_3, ftt0_4, ftt0_5, hz3, hb4, hv5, (gv5).1, (gv5).2.1, hs6, gx, Int.reduceToNat] <;> (repeat (first | omega | assumption | rfl | exact keep_refl | refine keep_app ?_ | (refine keep_set (by first | (left; simp; done) | (right; simp; omega)) ?_) | refine And.intro ?_ ?_))
    · replace hb4 := eq_false_of_ne_true hb4
      rw [if_f hb4] at hp
      have hp := Option.some.inj hp
      subst hp
      simp (maxSteps := 2000000) (disch := first | omega | (simp only [ls]; first | done | omega)) only [i_laws_markIntS, pf0, pg0, ftt0_0, ftt0_1, ftt0_2, ftt0_3, ftt0_4, ftt0_5, hz3, hb4, gx, Int.reduceToNat] <;> (repeat (first | omega | assumption | rfl | exact keep_refl | refine keep_app ?_ | (refine keep_set (by first | (left; simp; done) | (right; simp; omega)) ?_) | refine And.intro ?_ ?_))
  · simp (maxSteps := 2000000) (disch := first | omega | (simp only [ls]; first | done | omega)) only [i_laws_markIntS, pf0, pg0, gx, Int.reduceToNat] <;> (repeat (first | omega | assumption | rfl | exact keep_refl | refine keep_app ?_ | (refine keep_set (by first | (left; simp; done) | (right; simp; omega)) ?_) | refine And.intro ?_ ?_))
  · intro x tt1 hh1 hx
    rcases ee0 with ⟨o7, o8, o9⟩ | r
    · obtain ⟨rfl, ftt1_0, ftt1_1, ftt1_2, ftt1_3, ftt1_4, ftt1_5⟩ := hx
      have ztt1_3 := len_rows ftt1_3
      simp only [zs] at ztt1_3
      dsimp only at hp
      have hp := Option.some.inj hp
      subst hp
      simp (maxSteps := 2000000) (disch := first | omega | (simp only [ls]; first | done | omega)) only [i_laws_markIntS, pf0, pg0, ftt1_0, ftt1_1, ftt1_2, ftt1_3, ftt1_4, ftt1_5, gx, Int.reduceToNat] <;> (repeat (first | omega | assumption | rfl | exact keep_refl | refine keep_app ?_ | (refine keep_set (by first | (left; simp; done) | (right; simp; omega)) ?_) | refine And.intro ?_ ?_))
    · obtain ⟨rfl, hx⟩ := hx
      dsimp only at hp
      cases hp
      simp only [seqK_ret, blockK_ret, retK_RK (K := i_laws_markIntS pb0 pn0 hh), hx, and_self, true_and]
theorem ko_laws_markIntS {P : Program} {env : Env}  : k_laws_markIntS (runIn P env (c_laws_markIntS)) := by
  intro x0 x1 b hp pb0 pn0 h a0 a1
  exact w_laws_markIntS x0 x1 hp pb0 pn0 h a0 a1

noncomputable def p_laws_markText_l0 : Int × ByteArray → Option (Lp (Int × ByteArray) ByteArray)
  | (s1, s2) =>
    if (decide (0 < s1)) = true then
      (cat? (strOfNums [(IntKind.wrap .u8 (w64 (48 + (Int.tmod s1 10))))]) s2).bind fun v4 =>
      some (.go (w64 (Int.tdiv s1 10), v4))
    else
      some (.out (s1, s2))
noncomputable def p_laws_markText (x0 : Int) : Option ByteArray :=
  if (decide (x0 ≤ 0)) = true then
    some (ByteArray.mk #[109, 48])
  else
    (loopP (p_laws_markText_l0) (x0, (ByteArray.mk #[]))).bind fun ee0 => match ee0 with
    | .ret r => some r
    | .out (o5, o6) =>
      (cat? (ByteArray.mk #[109]) o6).bind fun v7 =>
      some v7
def c_laws_markText : AFn := ⟨20, (.seq (.ops [⟨(.some 2), (.mv (.const (.string ⟨#[]⟩))), .none, []⟩]) (.seq (.seq (.ops [⟨(.some 4), (.mv (.tmp 0)), .none, []⟩, ⟨(.some 5), (.pu (.n (.ar .leq)) [(.tmp 4), (.const (.int .i64 0))]), .none, []⟩]) (.cond (.tmp 5) (.seq (.ops [⟨(.some 2), (.mv (.const (.string ⟨#[109, 48]⟩))), .none, []⟩]) .ret) .skip)) (.seq (.ops [⟨(.some 3), (.mv (.const (.string ⟨#[]⟩))), .none, []⟩]) (.seq (.block 0 (.loop (.seq (.seq (.ops [⟨(.some 6), (.mv (.tmp 0)), .none, []⟩, ⟨(.some 7), (.pu (.n (.ar .gtr)) [(.tmp 6), (.const (.int .i64 0))]), .none, []⟩]) (.cond (.tmp 7) .skip (.exit 0))) (.block 1 (.seq (.ops [⟨(.some 8), (.mv (.tmp 0)), .none, []⟩, ⟨(.some 9), (.pu (.n (.ar .rem)) [(.tmp 8), (.const (.int .i64 10))]), .none, []⟩, ⟨(.some 10), (.pu (.n (.ar .add)) [(.const (.int .i64 48)), (.tmp 9)]), .none, []⟩, ⟨(.some 11), (.pu (.n (.conv .u8)) [(.tmp 10)]), .none, []⟩, ⟨(.some 12), (.buildSl 1 false 1 [(.int .u8 0)] [(0, (.tmp 11))]), .none, []⟩, ⟨(.some 13), (.b2s (.tmp 12)), .none, []⟩, ⟨(.some 14), (.mv (.tmp 3)), .none, []⟩, ⟨(.some 15), (.pu (.n (.ar .add)) [(.tmp 13), (.tmp 14)]), .none, []⟩, ⟨(.some 3), (.mv (.tmp 15)), .none, []⟩]) (.ops [⟨(.some 16), (.mv (.tmp 0)), .none, []⟩, ⟨(.some 17), (.pu (.n (.ar .quo)) [(.tmp 16), (.const (.int .i64 10))]), .none, []⟩, ⟨(.some 0), (.mv (.tmp 17)), .none, []⟩])))))) (.seq (.ops [⟨(.some 18), (.mv (.tmp 3)), .none, []⟩, ⟨(.some 19), (.pu (.n (.ar .add)) [(.const (.string ⟨#[109]⟩)), (.tmp 18)]), .none, []⟩, ⟨(.some 2), (.mv (.tmp 19)), .none, []⟩]) .ret))))), [(.tmp 2)]⟩
set_option maxHeartbeats 10000000 in
theorem d_laws_markText {P : Program} {env : Env}  (x0 : Int) {b : ByteArray} (hp : p_laws_markText x0 = some b) : R P env (c_laws_markText) ((encA (x0)).map ofI) [] (Tells true b) := by
  refine R_of (by simp [c_laws_markText, encA]) ?_
  unfold c_laws_markText
  unfold p_laws_markText at hp
  by_cases hb0 : (decide (x0 ≤ 0)) = true
  · rw [if_t hb0] at hp
    have hp := Option.some.inj hp
    subst hp
    simp (maxSteps := 2000000) (disch := first | omega | (simp only [ls]; first | done | omega)) only [hb0, gx, Int.reduceToNat]
  · replace hb0 := eq_false_of_ne_true hb0
    rw [if_f hb0] at hp
    obtain ⟨ee0, hee0, hp⟩ := bind_eq hp
    simp (maxSteps := 2000000) (disch := first | omega | (simp only [ls]; first | done | omega)) only [hb0, gx, Int.reduceToNat]
    refine W_loopP 0 (fun s t h => match s with | (s1, s2) => t 0 = .i (.s (.int .i64 s1)) ∧ t 3 = .i (.s (.string s2))) (RK [.tmp 2] (Tells true)) ?_ hee0 ?_ ?_
    · rintro ⟨s1, s2⟩ ee tt0 hh0 ⟨ftt0_0, ftt0_1⟩ hp
      rw [p_laws_markText_l0] at hp
      by_cases hb3 : (decide (0 < s1)) = true
      · rw [if_t hb3] at hp
        obtain ⟨v4, hv4, hp⟩ := bind_eq hp
        have hp := Option.some.inj hp
        subst hp
        simp (maxSteps := 2000000) (disch := first | omega | (simp only [ls]; first | done | omega)) only [hb0, ftt0_0, ftt0_1, hb3, hv4, gx, Int.reduceToNat] <;> omega
      · replace hb3 := eq_false_of_ne_true hb3
        rw [if_f hb3] at hp
        have hp := Option.some.inj hp
        subst hp
        simp (maxSteps := 2000000) (disch := first | omega | (simp only [ls]; first | done | omega)) only [hb0, ftt0_0, ftt0_1, hb3, gx, Int.reduceToNat] <;> omega
    · simp (maxSteps := 2000000) (disch := first | omega | (simp only [ls]; first | done | omega)) only [hb0, gx, Int.reduceToNat] <;> omega
    · intro x tt1 hh1 hx
      rcases ee0 with ⟨o5, o6⟩ | r
      · obtain ⟨rfl, ftt1_0, ftt1_1⟩ := hx
        dsimp only at hp
        obtain ⟨v7, hv7, hp⟩ := bind_eq hp
        have hp := Option.some.inj hp
        subst hp
        simp (maxSteps := 2000000) (disch := first | omega | (simp only [ls]; first | done | omega)) only [hb0, ftt1_0, ftt1_1, hv7, gx, Int.reduceToNat]
      · obtain ⟨rfl, hx⟩ := hx
        dsimp only at hp
        cases hp
        simp only [seqK_ret, blockK_ret, retK_RK (K := Tells true), hx, and_self, true_and]

end Go.AM
