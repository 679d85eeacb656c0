/- Several texts of the abstract machine in one. No condition. -/
import Derived.Test.YtbmeclcmcknbaaaLabPackC
import Derived.Test.YtbmeclcmcknbaaaLabPackD
set_option linter.unusedVariables false
set_option linter.unusedSimpArgs false
set_option maxRecDepth 20000
namespace Go.AM
open Pic (enc dec dec_enc dec_sub)
open PicA (encA decA decA_encA decA_sub)
noncomputable def p_spec_StampOK (x0 : TStamp) : Option Bool :=
  if (decide (1 ≤ x0.time)) = true then
    if (decide (x0.time ≤ 1000000000000)) = true then
      if (decide (0 ≤ x0.actor)) = true then
        some (decide (x0.actor < 16))
      else
        some false
    else
      some false
  else
    some false
def c_spec_StampOK : AFn := ⟨21, (.seq (.ops [(qS 1 (.box (.tmp 0))), (qS 2 (.mv (.const (.bool false))))]) (.seq (.ops [(qS 3 (.fieldA 0 (.tmp 1))), (qS 4 (.load 1 false (.tmp 3))), (qS 5 (.pu (.n (.ar .geq)) [(.tmp 4), (ic 1)])), (qS 6 (.mv (.tmp 5))), ⟨(.some 7), (.fieldA 0 (.tmp 1)), (.some (6, true)), [], .none⟩, ⟨(.some 8), (.load 1 false (.tmp 7)), (.some (6, true)), [], .none⟩, ⟨(.some 9), (.pu (.n (.ar .leq)) [(.tmp 8), (ic 1000000000000)]), (.some (6, true)), [], .none⟩, (qS 10 (.pick (.tmp 6) (.tmp 9) (.const (.bool false)))), (qS 11 (.mv (.tmp 10))), ⟨(.some 12), (.fieldA 1 (.tmp 1)), (.some (11, true)), [], .none⟩, ⟨(.some 13), (.load 1 false (.tmp 12)), (.some (11, true)), [], .none⟩, ⟨(.some 14), (.pu (.n (.ar .geq)) [(.tmp 13), (ic 0)]), (.some (11, true)), [], .none⟩, (qS 15 (.pick (.tmp 11) (.tmp 14) (.const (.bool false)))), (qS 16 (.mv (.tmp 15))), ⟨(.some 17), (.fieldA 1 (.tmp 1)), (.some (16, true)), [], .none⟩, ⟨(.some 18), (.load 1 false (.tmp 17)), (.some (16, true)), [], .none⟩, ⟨(.some 19), (.pu (.n (.ar .lss)) [(.tmp 18), (ic 16)]), (.some (16, true)), [], .none⟩, (qS 20 (.pick (.tmp 16) (.tmp 19) (.const (.bool false)))), (qS 2 (.mv (.tmp 20)))]) .ret)), [(.tmp 2)]⟩
set_option maxHeartbeats 10000000 in
theorem d_spec_StampOK {P : Program} {env : Env}  (x0 : TStamp) {b : Bool} (hp : p_spec_StampOK x0 = some b) : R P env (c_spec_StampOK) ((encA (x0)).map ofI) [] (Tells true b) := by
  refine R_of (by simp [c_spec_StampOK, encA]) ?_
  unfold c_spec_StampOK
  unfold p_spec_StampOK at hp
  by_cases hb0 : (decide (1 ≤ x0.time)) = true
  · rw [if_t hb0] at hp
    by_cases hb1 : (decide (x0.time ≤ 1000000000000)) = true
    · rw [if_t hb1] at hp
      by_cases hb2 : (decide (0 ≤ x0.actor)) = true
      · rw [if_t hb2] at hp
        have hp := Option.some.inj hp
        subst hp
        simp (maxSteps := 2000000) (disch := first|omega|(simp only[ls];first|done|omega)) only [hb0, hb1, hb2, gm]
      · replace hb2 := eq_false_of_ne_true hb2
        rw [if_f hb2] at hp
        have hp := Option.some.inj hp
        subst hp
        simp (maxSteps := 2000000) (disch := first|omega|(simp only[ls];first|done|omega)) only [hb0, hb1, hb2, gm]
    · replace hb1 := eq_false_of_ne_true hb1
      rw [if_f hb1] at hp
      have hp := Option.some.inj hp
      subst hp
      simp (maxSteps := 2000000) (disch := first|omega|(simp only[ls];first|done|omega)) only [hb0, hb1, gm]
  · replace hb0 := eq_false_of_ne_true hb0
    rw [if_f hb0] at hp
    have hp := Option.some.inj hp
    subst hp
    simp (maxSteps := 2000000) (disch := first|omega|(simp only[ls];first|done|omega)) only [hb0, gm]

noncomputable def p_spec_StampLess (x0 : TStamp) (x1 : TStamp) : Option Bool :=
  if (decide (x0.time < x1.time)) = true then
    some true
  else
    if (decide (x0.time = x1.time)) = true then
      some (decide (x0.actor < x1.actor))
    else
      some false
def c_spec_StampLess : AFn := ⟨24, (.seq (.ops [(qS 2 (.box (.tmp 0))), (qS 3 (.box (.tmp 1))), (qS 4 (.mv (.const (.bool false))))]) (.seq (.ops [(qS 5 (.fieldA 0 (.tmp 2))), (qS 6 (.load 1 false (.tmp 5))), (qS 7 (.fieldA 0 (.tmp 3))), (qS 8 (.load 1 false (.tmp 7))), (qS 9 (.pu (.n (.ar .lss)) [(.tmp 6), (.tmp 8)])), (qS 10 (.mv (.tmp 9))), ⟨(.some 11), (.fieldA 0 (.tmp 2)), (.some (10, false)), [], .none⟩, ⟨(.some 12), (.load 1 false (.tmp 11)), (.some (10, false)), [], .none⟩, ⟨(.some 13), (.fieldA 0 (.tmp 3)), (.some (10, false)), [], .none⟩, ⟨(.some 14), (.load 1 false (.tmp 13)), (.some (10, false)), [], .none⟩, ⟨(.some 15), (.pu (.n (.ar .eql)) [(.tmp 12), (.tmp 14)]), (.some (10, false)), [], .none⟩, ⟨(.some 16), (.mv (.tmp 15)), (.some (10, false)), [], .none⟩, ⟨(.some 17), (.fieldA 1 (.tmp 2)), (.some (16, true)), [], .none⟩, ⟨(.some 18), (.load 1 false (.tmp 17)), (.some (16, true)), [], .none⟩, ⟨(.some 19), (.fieldA 1 (.tmp 3)), (.some (16, true)), [], .none⟩, ⟨(.some 20), (.load 1 false (.tmp 19)), (.some (16, true)), [], .none⟩, ⟨(.some 21), (.pu (.n (.ar .lss)) [(.tmp 18), (.tmp 20)]), (.some (16, true)), [], .none⟩, ⟨(.some 22), (.pick (.tmp 16) (.tmp 21) (.const (.bool false))), (.some (10, false)), [], .none⟩, (qS 23 (.pick (.tmp 10) (.const (.bool true)) (.tmp 22))), (qS 4 (.mv (.tmp 23)))]) .ret)), [(.tmp 4)]⟩
set_option maxHeartbeats 10000000 in
theorem d_spec_StampLess {P : Program} {env : Env}  (x0 : TStamp) (x1 : TStamp) {b : Bool} (hp : p_spec_StampLess x0 x1 = some b) : R P env (c_spec_StampLess) ((encA (x0, x1)).map ofI) [] (Tells true b) := by
  refine R_of (by simp [c_spec_StampLess, encA]) ?_
  unfold c_spec_StampLess
  unfold p_spec_StampLess at hp
  by_cases hb0 : (decide (x0.time < x1.time)) = true
  · rw [if_t hb0] at hp
    have hp := Option.some.inj hp
    subst hp
    simp (maxSteps := 2000000) (disch := first|omega|(simp only[ls];first|done|omega)) only [hb0, gm]
  · replace hb0 := eq_false_of_ne_true hb0
    rw [if_f hb0] at hp
    by_cases hb1 : (decide (x0.time = x1.time)) = true
    · rw [if_t hb1] at hp
      have hp := Option.some.inj hp
      subst hp
      simp (maxSteps := 2000000) (disch := first|omega|(simp only[ls];first|done|omega)) only [hb0, hb1, gm]
    · replace hb1 := eq_false_of_ne_true hb1
      rw [if_f hb1] at hp
      have hp := Option.some.inj hp
      subst hp
      simp (maxSteps := 2000000) (disch := first|omega|(simp only[ls];first|done|omega)) only [hb0, hb1, gm]

noncomputable def p_spec_l02None (x0 : TStamp) : Option Bool :=
  if (decide (x0.time = 0)) = true then
    some (decide (x0.actor = 0))
  else
    some false
def c_spec_l02None : AFn := ⟨11, (.seq (.ops [(qS 1 (.box (.tmp 0))), (qS 2 (.mv (.const (.bool false))))]) (.seq (.ops [(qS 3 (.fieldA 0 (.tmp 1))), (qS 4 (.load 1 false (.tmp 3))), (qS 5 (.pu (.n (.ar .eql)) [(.tmp 4), (ic 0)])), (qS 6 (.mv (.tmp 5))), ⟨(.some 7), (.fieldA 1 (.tmp 1)), (.some (6, true)), [], .none⟩, ⟨(.some 8), (.load 1 false (.tmp 7)), (.some (6, true)), [], .none⟩, ⟨(.some 9), (.pu (.n (.ar .eql)) [(.tmp 8), (ic 0)]), (.some (6, true)), [], .none⟩, (qS 10 (.pick (.tmp 6) (.tmp 9) (.const (.bool false)))), (qS 2 (.mv (.tmp 10)))]) .ret)), [(.tmp 2)]⟩
set_option maxHeartbeats 10000000 in
theorem d_spec_l02None {P : Program} {env : Env}  (x0 : TStamp) {b : Bool} (hp : p_spec_l02None x0 = some b) : R P env (c_spec_l02None) ((encA (x0)).map ofI) [] (Tells true b) := by
  refine R_of (by simp [c_spec_l02None, encA]) ?_
  unfold c_spec_l02None
  unfold p_spec_l02None at hp
  by_cases hb0 : (decide (x0.time = 0)) = true
  · rw [if_t hb0] at hp
    have hp := Option.some.inj hp
    subst hp
    simp (maxSteps := 2000000) (disch := first|omega|(simp only[ls];first|done|omega)) only [hb0, gm]
  · replace hb0 := eq_false_of_ne_true hb0
    rw [if_f hb0] at hp
    have hp := Option.some.inj hp
    subst hp
    simp (maxSteps := 2000000) (disch := first|omega|(simp only[ls];first|done|omega)) only [hb0, gm]

noncomputable def p_spec_l04Char (x0 : Int) : Option Bool :=
  if (decide (0 ≤ x0)) = true then
    if (decide (x0 ≤ 1114111)) = true then
      if (decide (x0 < 55296)) = true then
        some true
      else
        some (decide (57343 < x0))
    else
      some false
  else
    some false
def c_spec_l04Char : AFn := ⟨17, (.seq (.ops [(qS 2 (.mv (.const (.bool false))))]) (.seq (.ops [(qS 3 (.mv (.tmp 0))), (qS 4 (.pu (.n (.ar .geq)) [(.tmp 3), (ic 0)])), (qS 5 (.mv (.tmp 4))), ⟨(.some 6), (.mv (.tmp 0)), (.some (5, true)), [], .none⟩, ⟨(.some 7), (.pu (.n (.ar .leq)) [(.tmp 6), (ic 1114111)]), (.some (5, true)), [], .none⟩, (qS 8 (.pick (.tmp 5) (.tmp 7) (.const (.bool false)))), (qS 9 (.mv (.tmp 8))), ⟨(.some 10), (.mv (.tmp 0)), (.some (9, true)), [], .none⟩, ⟨(.some 11), (.pu (.n (.ar .lss)) [(.tmp 10), (ic 55296)]), (.some (9, true)), [], .none⟩, ⟨(.some 12), (.mv (.tmp 11)), (.some (9, true)), [], .none⟩, ⟨(.some 13), (.mv (.tmp 0)), (.some (12, false)), [], .none⟩, ⟨(.some 14), (.pu (.n (.ar .gtr)) [(.tmp 13), (ic 57343)]), (.some (12, false)), [], .none⟩, ⟨(.some 15), (.pick (.tmp 12) (.const (.bool true)) (.tmp 14)), (.some (9, true)), [], .none⟩, (qS 16 (.pick (.tmp 9) (.tmp 15) (.const (.bool false)))), (qS 2 (.mv (.tmp 16)))]) .ret)), [(.tmp 2)]⟩
set_option maxHeartbeats 10000000 in
theorem d_spec_l04Char {P : Program} {env : Env}  (x0 : Int) {b : Bool} (hp : p_spec_l04Char x0 = some b) : R P env (c_spec_l04Char) ((encA (x0)).map ofI) [] (Tells true b) := by
  refine R_of (by simp [c_spec_l04Char, encA]) ?_
  unfold c_spec_l04Char
  unfold p_spec_l04Char at hp
  by_cases hb0 : (decide (0 ≤ x0)) = true
  · rw [if_t hb0] at hp
    by_cases hb1 : (decide (x0 ≤ 1114111)) = true
    · rw [if_t hb1] at hp
      by_cases hb2 : (decide (x0 < 55296)) = true
      · rw [if_t hb2] at hp
        have hp := Option.some.inj hp
        subst hp
        simp (maxSteps := 2000000) (disch := first|omega|(simp only[ls];first|done|omega)) only [hb0, hb1, hb2, gm]
      · replace hb2 := eq_false_of_ne_true hb2
        rw [if_f hb2] at hp
        have hp := Option.some.inj hp
        subst hp
        simp (maxSteps := 2000000) (disch := first|omega|(simp only[ls];first|done|omega)) only [hb0, hb1, hb2, gm]
    · replace hb1 := eq_false_of_ne_true hb1
      rw [if_f hb1] at hp
      have hp := Option.some.inj hp
      subst hp
      simp (maxSteps := 2000000) (disch := first|omega|(simp only[ls];first|done|omega)) only [hb0, hb1, gm]
  · replace hb0 := eq_false_of_ne_true hb0
    rw [if_f hb0] at hp
    have hp := Option.some.inj hp
    subst hp
    simp (maxSteps := 2000000) (disch := first|omega|(simp only[ls];first|done|omega)) only [hb0, gm]

noncomputable def p_spec_l04OpOK (x0 : TLOp) : Option Bool :=
  (p_spec_StampOK x0.id).bind fun v0 =>
  if (v0) = true then
    (p_spec_l02None x0.at_).bind fun v2 =>
    if (v2) = true then
      (p_spec_StampLess x0.at_ x0.id).bind fun v4 =>
      if (v4) = true then
        if (decide (x0.kind = 1)) = true then
          (p_spec_l04Char x0.char).bind fun v7 =>
          some v7
        else
          if (decide (x0.kind = 2)) = true then
            if (decide (x0.char = 0)) = true then
              some (!v2)
            else
              some false
          else
            some false
      else
        some false
    else
      (p_spec_StampOK x0.at_).bind fun v10 =>
      if (v10) = true then
        (p_spec_StampLess x0.at_ x0.id).bind fun v12 =>
        if (v12) = true then
          if (decide (x0.kind = 1)) = true then
            (p_spec_l04Char x0.char).bind fun v15 =>
            some v15
          else
            if (decide (x0.kind = 2)) = true then
              if (decide (x0.char = 0)) = true then
                some (!v2)
              else
                some false
            else
              some false
        else
          some false
      else
        some false
  else
    some false
def c_spec_l04OpOK (f_spec_StampOK : Nat) (f_spec_l02None : Nat) (f_spec_StampLess : Nat) (f_spec_l04Char : Nat) : AFn := ⟨47, (.seq (.ops [(qS 1 (.box (.tmp 0))), (qS 2 (.mv (.const (.bool false))))]) (.seq (.seq (.ops [(qS 3 (.fieldA 2 (.tmp 1))), (qS 4 (.load 2 true (.tmp 3))), (qS 5 (.call (2 * f_spec_StampOK) [(.tmp 4)])), (qS 6 (.pu (.n (.un .not)) [(.tmp 5)])), (qS 7 (.mv (.tmp 6))), ⟨(.some 8), (.fieldA 4 (.tmp 1)), (.some (7, false)), [], .none⟩, ⟨(.some 9), (.load 2 true (.tmp 8)), (.some (7, false)), [], .none⟩, ⟨(.some 10), (.call (2 * f_spec_l02None) [(.tmp 9)]), (.some (7, false)), [], .none⟩, ⟨(.some 11), (.pu (.n (.un .not)) [(.tmp 10)]), (.some (7, false)), [], .none⟩, ⟨(.some 12), (.mv (.tmp 11)), (.some (7, false)), [], .none⟩, ⟨(.some 13), (.fieldA 4 (.tmp 1)), (.some (12, true)), [], .none⟩, ⟨(.some 14), (.load 2 true (.tmp 13)), (.some (12, true)), [], .none⟩, ⟨(.some 15), (.call (2 * f_spec_StampOK) [(.tmp 14)]), (.some (12, true)), [], .none⟩, ⟨(.some 16), (.pu (.n (.un .not)) [(.tmp 15)]), (.some (12, true)), [], .none⟩, ⟨(.some 17), (.pick (.tmp 12) (.tmp 16) (.const (.bool false))), (.some (7, false)), [], .none⟩, (qS 18 (.pick (.tmp 7) (.const (.bool true)) (.tmp 17))), (qS 19 (.mv (.tmp 18))), ⟨(.some 20), (.fieldA 4 (.tmp 1)), (.some (19, false)), [], .none⟩, ⟨(.some 21), (.load 2 true (.tmp 20)), (.some (19, false)), [], .none⟩, ⟨(.some 22), (.fieldA 2 (.tmp 1)), (.some (19, false)), [], .none⟩, ⟨(.some 23), (.load 2 true (.tmp 22)), (.some (19, false)), [], .none⟩, ⟨(.some 24), (.call (2 * f_spec_StampLess) [(.tmp 21), (.tmp 23)]), (.some (19, false)), [], .none⟩, ⟨(.some 25), (.pu (.n (.un .not)) [(.tmp 24)]), (.some (19, false)), [], .none⟩, (qS 26 (.pick (.tmp 19) (.const (.bool true)) (.tmp 25)))]) (.cond (.tmp 26) (.seq (.ops [(qS 2 (.mv (.const (.bool false))))]) .ret) .skip)) (.seq (.seq (.ops [(qS 27 (.fieldA 0 (.tmp 1))), (qS 28 (.load 1 false (.tmp 27))), (qS 29 (.pu (.n (.ar .eql)) [(.tmp 28), (ic 1)]))]) (.cond (.tmp 29) (.seq (.ops [(qS 30 (.fieldA 1 (.tmp 1))), (qS 31 (.load 1 false (.tmp 30))), (qS 32 (.call (2 * f_spec_l04Char) [(.tmp 31)])), (qS 2 (.mv (.tmp 32)))]) .ret) .skip)) (.seq (.ops [(qS 33 (.fieldA 0 (.tmp 1))), (qS 34 (.load 1 false (.tmp 33))), (qS 35 (.pu (.n (.ar .eql)) [(.tmp 34), (ic 2)])), (qS 36 (.mv (.tmp 35))), ⟨(.some 37), (.fieldA 1 (.tmp 1)), (.some (36, true)), [], .none⟩, ⟨(.some 38), (.load 1 false (.tmp 37)), (.some (36, true)), [], .none⟩, ⟨(.some 39), (.pu (.n (.ar .eql)) [(.tmp 38), (ic 0)]), (.some (36, true)), [], .none⟩, (qS 40 (.pick (.tmp 36) (.tmp 39) (.const (.bool false)))), (qS 41 (.mv (.tmp 40))), ⟨(.some 42), (.fieldA 4 (.tmp 1)), (.some (41, true)), [], .none⟩, ⟨(.some 43), (.load 2 true (.tmp 42)), (.some (41, true)), [], .none⟩, ⟨(.some 44), (.call (2 * f_spec_l02None) [(.tmp 43)]), (.some (41, true)), [], .none⟩, ⟨(.some 45), (.pu (.n (.un .not)) [(.tmp 44)]), (.some (41, true)), [], .none⟩, (qS 46 (.pick (.tmp 41) (.tmp 45) (.const (.bool false)))), (qS 2 (.mv (.tmp 46)))]) .ret)))), [(.tmp 2)]⟩
set_option maxHeartbeats 10000000 in
theorem d_spec_l04OpOK {P : Program} {env : Env} {f_spec_StampOK : Nat} {f_spec_l02None : Nat} {f_spec_StampLess : Nat} {f_spec_l04Char : Nat}  (ep_spec_StampOK : env (2 * f_spec_StampOK) = pureFn true (FA fun a : TStamp => p_spec_StampOK a)) (ep_spec_l02None : env (2 * f_spec_l02None) = pureFn true (FA fun a : TStamp => p_spec_l02None a)) (ep_spec_StampLess : env (2 * f_spec_StampLess) = pureFn true (FA fun a : TStamp × TStamp => p_spec_StampLess a.1 a.2)) (ep_spec_l04Char : env (2 * f_spec_l04Char) = pureFn true (FA fun a : Int => p_spec_l04Char a)) (x0 : TLOp) {b : Bool} (hp : p_spec_l04OpOK x0 = some b) : R P env (c_spec_l04OpOK f_spec_StampOK f_spec_l02None f_spec_StampLess f_spec_l04Char) ((encA (x0)).map ofI) [] (Tells true b) := by
  refine R_of (by simp [c_spec_l04OpOK, encA]) ?_
  have E := And.intro ep_spec_StampOK (And.intro ep_spec_l02None (And.intro ep_spec_StampLess ep_spec_l04Char))
  unfold c_spec_l04OpOK
  unfold p_spec_l04OpOK at hp
  obtain ⟨v0, hv0, hp⟩ := bind_eq hp
  by_cases hb1 : (v0) = true
  · rw [if_t hb1] at hp
    obtain ⟨v2, hv2, hp⟩ := bind_eq hp
    by_cases hb3 : (v2) = true
    · rw [if_t hb3] at hp
      obtain ⟨v4, hv4, hp⟩ := bind_eq hp
      by_cases hb5 : (v4) = true
      · rw [if_t hb5] at hp
        by_cases hb6 : (decide (x0.kind = 1)) = true
        · rw [if_t hb6] at hp
          obtain ⟨v7, hv7, hp⟩ := bind_eq hp
          have hp := Option.some.inj hp
          subst hp
          simp (maxSteps := 2000000) (disch := first|omega|(simp only[ls];first|done|omega)) only [E, hv0, hb1, hv2, hb3, hv4, hb5, hb6, hv7, gm]
        · replace hb6 := eq_false_of_ne_true hb6
          rw [if_f hb6] at hp
          by_cases hb8 : (decide (x0.kind = 2)) = true
          · rw [if_t hb8] at hp
            by_cases hb9 : (decide (x0.char = 0)) = true
            · rw [if_t hb9] at hp
              have hp := Option.some.inj hp
              subst hp
              simp (maxSteps := 2000000) (disch := first|omega|(simp only[ls];first|done|omega)) only [E, hv0, hb1, hv2, hb3, hv4, hb5, hb6, hb8, hb9, gm]
            · replace hb9 := eq_false_of_ne_true hb9
              rw [if_f hb9] at hp
              have hp := Option.some.inj hp
              subst hp
              simp (maxSteps := 2000000) (disch := first|omega|(simp only[ls];first|done|omega)) only [E, hv0, hb1, hv2, hb3, hv4, hb5, hb6, hb8, hb9, gm]
          · replace hb8 := eq_false_of_ne_true hb8
            rw [if_f hb8] at hp
            have hp := Option.some.inj hp
            subst hp
            simp (maxSteps := 2000000) (disch := first|omega|(simp only[ls];first|done|omega)) only [E, hv0, hb1, hv2, hb3, hv4, hb5, hb6, hb8, gm]
      · replace hb5 := eq_false_of_ne_true hb5
        rw [if_f hb5] at hp
        have hp := Option.some.inj hp
        subst hp
        simp (maxSteps := 2000000) (disch := first|omega|(simp only[ls];first|done|omega)) only [E, hv0, hb1, hv2, hb3, hv4, hb5, gm]
    · replace hb3 := eq_false_of_ne_true hb3
      rw [if_f hb3] at hp
      obtain ⟨v10, hv10, hp⟩ := bind_eq hp
      by_cases hb11 : (v10) = true
      · rw [if_t hb11] at hp
        obtain ⟨v12, hv12, hp⟩ := bind_eq hp
        by_cases hb13 : (v12) = true
        · rw [if_t hb13] at hp
          by_cases hb14 : (decide (x0.kind = 1)) = true
          · rw [if_t hb14] at hp
            obtain ⟨v15, hv15, hp⟩ := bind_eq hp
            have hp := Option.some.inj hp
            subst hp
            simp (maxSteps := 2000000) (disch := first|omega|(simp only[ls];first|done|omega)) only [E, hv0, hb1, hv2, hb3, hv10, hb11, hv12, hb13, hb14, hv15, gm]
          · replace hb14 := eq_false_of_ne_true hb14
            rw [if_f hb14] at hp
            by_cases hb16 : (decide (x0.kind = 2)) = true
            · rw [if_t hb16] at hp
              by_cases hb17 : (decide (x0.char = 0)) = true
              · rw [if_t hb17] at hp
                have hp := Option.some.inj hp
                subst hp
                simp (maxSteps := 2000000) (disch := first|omega|(simp only[ls];first|done|omega)) only [E, hv0, hb1, hv2, hb3, hv10, hb11, hv12, hb13, hb14, hb16, hb17, gm]
              · replace hb17 := eq_false_of_ne_true hb17
                rw [if_f hb17] at hp
                have hp := Option.some.inj hp
                subst hp
                simp (maxSteps := 2000000) (disch := first|omega|(simp only[ls];first|done|omega)) only [E, hv0, hb1, hv2, hb3, hv10, hb11, hv12, hb13, hb14, hb16, hb17, gm]
            · replace hb16 := eq_false_of_ne_true hb16
              rw [if_f hb16] at hp
              have hp := Option.some.inj hp
              subst hp
              simp (maxSteps := 2000000) (disch := first|omega|(simp only[ls];first|done|omega)) only [E, hv0, hb1, hv2, hb3, hv10, hb11, hv12, hb13, hb14, hb16, gm]
        · replace hb13 := eq_false_of_ne_true hb13
          rw [if_f hb13] at hp
          have hp := Option.some.inj hp
          subst hp
          simp (maxSteps := 2000000) (disch := first|omega|(simp only[ls];first|done|omega)) only [E, hv0, hb1, hv2, hb3, hv10, hb11, hv12, hb13, gm]
      · replace hb11 := eq_false_of_ne_true hb11
        rw [if_f hb11] at hp
        have hp := Option.some.inj hp
        subst hp
        simp (maxSteps := 2000000) (disch := first|omega|(simp only[ls];first|done|omega)) only [E, hv0, hb1, hv2, hb3, hv10, hb11, gm]
  · replace hb1 := eq_false_of_ne_true hb1
    rw [if_f hb1] at hp
    have hp := Option.some.inj hp
    subst hp
    simp (maxSteps := 2000000) (disch := first|omega|(simp only[ls];first|done|omega)) only [E, hv0, hb1, gm]

noncomputable def p_impl_isActor (x0 : Int) : Option Bool :=
  if (decide (0 ≤ x0)) = true then
    some (decide (x0 < 16))
  else
    some false
def c_impl_isActor : AFn := ⟨9, (.seq (.ops [(qS 2 (.mv (.const (.bool false))))]) (.seq (.ops [(qS 3 (.mv (.tmp 0))), (qS 4 (.pu (.n (.ar .geq)) [(.tmp 3), (ic 0)])), (qS 5 (.mv (.tmp 4))), ⟨(.some 6), (.mv (.tmp 0)), (.some (5, true)), [], .none⟩, ⟨(.some 7), (.pu (.n (.ar .lss)) [(.tmp 6), (ic 16)]), (.some (5, true)), [], .none⟩, (qS 8 (.pick (.tmp 5) (.tmp 7) (.const (.bool false)))), (qS 2 (.mv (.tmp 8)))]) .ret)), [(.tmp 2)]⟩
set_option maxHeartbeats 10000000 in
theorem d_impl_isActor {P : Program} {env : Env}  (x0 : Int) {b : Bool} (hp : p_impl_isActor x0 = some b) : R P env (c_impl_isActor) ((encA (x0)).map ofI) [] (Tells true b) := by
  refine R_of (by simp [c_impl_isActor, encA]) ?_
  unfold c_impl_isActor
  unfold p_impl_isActor at hp
  by_cases hb0 : (decide (0 ≤ x0)) = true
  · rw [if_t hb0] at hp
    have hp := Option.some.inj hp
    subst hp
    simp (maxSteps := 2000000) (disch := first|omega|(simp only[ls];first|done|omega)) only [hb0, gm]
  · replace hb0 := eq_false_of_ne_true hb0
    rw [if_f hb0] at hp
    have hp := Option.some.inj hp
    subst hp
    simp (maxSteps := 2000000) (disch := first|omega|(simp only[ls];first|done|omega)) only [hb0, gm]

noncomputable def p_impl_StampOK (x0 : TStamp) : Option Bool :=
  if (decide (1 ≤ x0.time)) = true then
    if (decide (x0.time ≤ 1000000000000)) = true then
      (p_impl_isActor x0.actor).bind fun v2 =>
      some v2
    else
      some false
  else
    some false
def c_impl_StampOK (f_impl_isActor : Nat) : AFn := ⟨16, (.seq (.ops [(qS 1 (.box (.tmp 0))), (qS 2 (.mv (.const (.bool false))))]) (.seq (.ops [(qS 3 (.fieldA 0 (.tmp 1))), (qS 4 (.load 1 false (.tmp 3))), (qS 5 (.pu (.n (.ar .geq)) [(.tmp 4), (ic 1)])), (qS 6 (.mv (.tmp 5))), ⟨(.some 7), (.fieldA 0 (.tmp 1)), (.some (6, true)), [], .none⟩, ⟨(.some 8), (.load 1 false (.tmp 7)), (.some (6, true)), [], .none⟩, ⟨(.some 9), (.pu (.n (.ar .leq)) [(.tmp 8), (ic 1000000000000)]), (.some (6, true)), [], .none⟩, (qS 10 (.pick (.tmp 6) (.tmp 9) (.const (.bool false)))), (qS 11 (.mv (.tmp 10))), ⟨(.some 12), (.fieldA 1 (.tmp 1)), (.some (11, true)), [], .none⟩, ⟨(.some 13), (.load 1 false (.tmp 12)), (.some (11, true)), [], .none⟩, ⟨(.some 14), (.call (2 * f_impl_isActor) [(.tmp 13)]), (.some (11, true)), [], .none⟩, (qS 15 (.pick (.tmp 11) (.tmp 14) (.const (.bool false)))), (qS 2 (.mv (.tmp 15)))]) .ret)), [(.tmp 2)]⟩
set_option maxHeartbeats 10000000 in
theorem d_impl_StampOK {P : Program} {env : Env} {f_impl_isActor : Nat}  (ep_impl_isActor : env (2 * f_impl_isActor) = pureFn true (FA fun a : Int => p_impl_isActor a)) (x0 : TStamp) {b : Bool} (hp : p_impl_StampOK x0 = some b) : R P env (c_impl_StampOK f_impl_isActor) ((encA (x0)).map ofI) [] (Tells true b) := by
  refine R_of (by simp [c_impl_StampOK, encA]) ?_
  have E := ep_impl_isActor
  unfold c_impl_StampOK
  unfold p_impl_StampOK at hp
  by_cases hb0 : (decide (1 ≤ x0.time)) = true
  · rw [if_t hb0] at hp
    by_cases hb1 : (decide (x0.time ≤ 1000000000000)) = true
    · rw [if_t hb1] at hp
      obtain ⟨v2, hv2, hp⟩ := bind_eq hp
      have hp := Option.some.inj hp
      subst hp
      simp (maxSteps := 2000000) (disch := first|omega|(simp only[ls];first|done|omega)) only [E, hb0, hb1, hv2, gm]
    · replace hb1 := eq_false_of_ne_true hb1
      rw [if_f hb1] at hp
      have hp := Option.some.inj hp
      subst hp
      simp (maxSteps := 2000000) (disch := first|omega|(simp only[ls];first|done|omega)) only [E, hb0, hb1, gm]
  · replace hb0 := eq_false_of_ne_true hb0
    rw [if_f hb0] at hp
    have hp := Option.some.inj hp
    subst hp
    simp (maxSteps := 2000000) (disch := first|omega|(simp only[ls];first|done|omega)) only [E, hb0, gm]

noncomputable def p_impl_StampLess (x0 : TStamp) (x1 : TStamp) : Option Bool :=
  if (decide (x0.time = x1.time)) = true then
    some (decide (x0.actor < x1.actor))
  else
    some (decide (x0.time < x1.time))
def c_impl_StampLess : AFn := ⟨20, (.seq (.ops [(qS 2 (.box (.tmp 0))), (qS 3 (.box (.tmp 1))), (qS 4 (.mv (.const (.bool false))))]) (.seq (.seq (.ops [(qS 5 (.fieldA 0 (.tmp 2))), (qS 6 (.load 1 false (.tmp 5))), (qS 7 (.fieldA 0 (.tmp 3))), (qS 8 (.load 1 false (.tmp 7))), (qS 9 (.pu (.n (.ar .neq)) [(.tmp 6), (.tmp 8)]))]) (.cond (.tmp 9) (.seq (.ops [(qS 10 (.fieldA 0 (.tmp 2))), (qS 11 (.load 1 false (.tmp 10))), (qS 12 (.fieldA 0 (.tmp 3))), (qS 13 (.load 1 false (.tmp 12))), (qS 14 (.pu (.n (.ar .lss)) [(.tmp 11), (.tmp 13)])), (qS 4 (.mv (.tmp 14)))]) .ret) .skip)) (.seq (.ops [(qS 15 (.fieldA 1 (.tmp 2))), (qS 16 (.load 1 false (.tmp 15))), (qS 17 (.fieldA 1 (.tmp 3))), (qS 18 (.load 1 false (.tmp 17))), (qS 19 (.pu (.n (.ar .lss)) [(.tmp 16), (.tmp 18)])), (qS 4 (.mv (.tmp 19)))]) .ret))), [(.tmp 4)]⟩
set_option maxHeartbeats 10000000 in
theorem d_impl_StampLess {P : Program} {env : Env}  (x0 : TStamp) (x1 : TStamp) {b : Bool} (hp : p_impl_StampLess x0 x1 = some b) : R P env (c_impl_StampLess) ((encA (x0, x1)).map ofI) [] (Tells true b) := by
  refine R_of (by simp [c_impl_StampLess, encA]) ?_
  unfold c_impl_StampLess
  unfold p_impl_StampLess at hp
  by_cases hb0 : (decide (x0.time = x1.time)) = true
  · rw [if_t hb0] at hp
    have hp := Option.some.inj hp
    subst hp
    simp (maxSteps := 2000000) (disch := first|omega|(simp only[ls];first|done|omega)) only [hb0, gm]
  · replace hb0 := eq_false_of_ne_true hb0
    rw [if_f hb0] at hp
    have hp := Option.some.inj hp
    subst hp
    simp (maxSteps := 2000000) (disch := first|omega|(simp only[ls];first|done|omega)) only [hb0, gm]

noncomputable def p_impl_charOK (x0 : Int) : Option Bool :=
  if (decide (0 ≤ x0)) = true then
    if (decide (x0 ≤ 1114111)) = true then
      if (decide (x0 < 55296)) = true then
        some true
      else
        some (decide (57343 < x0))
    else
      some false
  else
    some false
def c_impl_charOK : AFn := ⟨17, (.seq (.ops [(qS 2 (.mv (.const (.bool false))))]) (.seq (.ops [(qS 3 (.mv (.tmp 0))), (qS 4 (.pu (.n (.ar .geq)) [(.tmp 3), (ic 0)])), (qS 5 (.mv (.tmp 4))), ⟨(.some 6), (.mv (.tmp 0)), (.some (5, true)), [], .none⟩, ⟨(.some 7), (.pu (.n (.ar .leq)) [(.tmp 6), (ic 1114111)]), (.some (5, true)), [], .none⟩, (qS 8 (.pick (.tmp 5) (.tmp 7) (.const (.bool false)))), (qS 9 (.mv (.tmp 8))), ⟨(.some 10), (.mv (.tmp 0)), (.some (9, true)), [], .none⟩, ⟨(.some 11), (.pu (.n (.ar .lss)) [(.tmp 10), (ic 55296)]), (.some (9, true)), [], .none⟩, ⟨(.some 12), (.mv (.tmp 11)), (.some (9, true)), [], .none⟩, ⟨(.some 13), (.mv (.tmp 0)), (.some (12, false)), [], .none⟩, ⟨(.some 14), (.pu (.n (.ar .gtr)) [(.tmp 13), (ic 57343)]), (.some (12, false)), [], .none⟩, ⟨(.some 15), (.pick (.tmp 12) (.const (.bool true)) (.tmp 14)), (.some (9, true)), [], .none⟩, (qS 16 (.pick (.tmp 9) (.tmp 15) (.const (.bool false)))), (qS 2 (.mv (.tmp 16)))]) .ret)), [(.tmp 2)]⟩
set_option maxHeartbeats 10000000 in
theorem d_impl_charOK {P : Program} {env : Env}  (x0 : Int) {b : Bool} (hp : p_impl_charOK x0 = some b) : R P env (c_impl_charOK) ((encA (x0)).map ofI) [] (Tells true b) := by
  refine R_of (by simp [c_impl_charOK, encA]) ?_
  unfold c_impl_charOK
  unfold p_impl_charOK at hp
  by_cases hb0 : (decide (0 ≤ x0)) = true
  · rw [if_t hb0] at hp
    by_cases hb1 : (decide (x0 ≤ 1114111)) = true
    · rw [if_t hb1] at hp
      by_cases hb2 : (decide (x0 < 55296)) = true
      · rw [if_t hb2] at hp
        have hp := Option.some.inj hp
        subst hp
        simp (maxSteps := 2000000) (disch := first|omega|(simp only[ls];first|done|omega)) only [hb0, hb1, hb2, gm]
      · replace hb2 := eq_false_of_ne_true hb2
        rw [if_f hb2] at hp
        have hp := Option.some.inj hp
        subst hp
        simp (maxSteps := 2000000) (disch := first|omega|(simp only[ls];first|done|omega)) only [hb0, hb1, hb2, gm]
    · replace hb1 := eq_false_of_ne_true hb1
      rw [if_f hb1] at hp
      have hp := Option.some.inj hp
      subst hp
      simp (maxSteps := 2000000) (disch := first|omega|(simp only[ls];first|done|omega)) only [hb0, hb1, gm]
  · replace hb0 := eq_false_of_ne_true hb0
    rw [if_f hb0] at hp
    have hp := Option.some.inj hp
    subst hp
    simp (maxSteps := 2000000) (disch := first|omega|(simp only[ls];first|done|omega)) only [hb0, gm]

noncomputable def p_impl_lopOK (x0 : TLOp) : Option Bool :=
  (p_impl_StampOK x0.id).bind fun v0 =>
  if (v0) = true then
    (p_impl_StampOK x0.at_).bind fun v2 =>
    if (v2) = true then
      (p_impl_StampLess x0.at_ x0.id).bind fun v4 =>
      if (decide (x0.kind = 1)) = true then
        (p_impl_charOK x0.char).bind fun v6 =>
        if (v6) = true then
          if (v4) = true then
            some true
          else
            some (decide (x0.at_.time = 0) && decide (x0.at_.actor = 0))
        else
          some false
      else
        if (decide (x0.kind = 2)) = true then
          if (decide (x0.char = 0)) = true then
            some v4
          else
            some false
        else
          some false
    else
      if (decide (x0.kind = 1)) = true then
        (p_impl_charOK x0.char).bind fun v12 =>
        if (v12) = true then
          some (decide (x0.at_.time = 0) && decide (x0.at_.actor = 0))
        else
          some false
      else
        if (decide (x0.kind = 2)) = true then
          if (decide (x0.char = 0)) = true then
            some false
          else
            some false
        else
          some false
  else
    some false
def c_impl_lopOK (f_impl_StampOK : Nat) (f_impl_StampLess : Nat) (f_impl_charOK : Nat) : AFn := ⟨42, (.seq (.ops [(qS 1 (.box (.tmp 0))), (qS 2 (.mv (.const (.bool false))))]) (.seq (.seq (.ops [(qS 4 (.fieldA 2 (.tmp 1))), (qS 5 (.load 2 true (.tmp 4))), (qS 6 (.call (2 * f_impl_StampOK) [(.tmp 5)])), (qS 7 (.pu (.n (.un .not)) [(.tmp 6)]))]) (.cond (.tmp 7) (.seq (.ops [(qS 2 (.mv (.const (.bool false))))]) .ret) .skip)) (.seq (.ops [(qS 8 (.fieldA 4 (.tmp 1))), (qS 9 (.load 2 true (.tmp 8))), (qS 10 (.call (2 * f_impl_StampOK) [(.tmp 9)])), (qS 11 (.mv (.tmp 10))), ⟨(.some 12), (.fieldA 4 (.tmp 1)), (.some (11, true)), [], .none⟩, ⟨(.some 13), (.load 2 true (.tmp 12)), (.some (11, true)), [], .none⟩, ⟨(.some 14), (.fieldA 2 (.tmp 1)), (.some (11, true)), [], .none⟩, ⟨(.some 15), (.load 2 true (.tmp 14)), (.some (11, true)), [], .none⟩, ⟨(.some 16), (.call (2 * f_impl_StampLess) [(.tmp 13), (.tmp 15)]), (.some (11, true)), [], .none⟩, (qS 17 (.pick (.tmp 11) (.tmp 16) (.const (.bool false)))), (qS 3 (.mv (.tmp 17)))]) (.seq (.seq (.ops [(qS 18 (.fieldA 0 (.tmp 1))), (qS 19 (.load 1 false (.tmp 18)))]) (.block 0 (.seq (.ops [(qS 21 (.pu (.n (.ar .eql)) [(.tmp 19), (ic 1)])), (qS 20 (.mv (.tmp 21)))]) (.cond (.tmp 20) (.seq (.ops [(qS 22 (.fieldA 1 (.tmp 1))), (qS 23 (.load 1 false (.tmp 22))), (qS 24 (.call (2 * f_impl_charOK) [(.tmp 23)])), (qS 25 (.mv (.tmp 24))), ⟨(.some 26), (.mv (.tmp 3)), (.some (25, true)), [], .none⟩, ⟨(.some 27), (.mv (.tmp 26)), (.some (25, true)), [], .none⟩, ⟨(.some 28), (.fieldA 4 (.tmp 1)), (.some (27, false)), [], .none⟩, ⟨(.some 29), (.load 2 true (.tmp 28)), (.some (27, false)), [], .none⟩, ⟨(.some 30), (.build [(.int .i64 0), (.int .i64 0)] []), (.some (27, false)), [], .none⟩, ⟨(.some 31), (.aeq false [(.int .i64), (.int .i64)] (.tmp 29) (.tmp 30)), (.some (27, false)), [], .none⟩, ⟨(.some 32), (.pick (.tmp 27) (.const (.bool true)) (.tmp 31)), (.some (25, true)), [], .none⟩, (qS 33 (.pick (.tmp 25) (.tmp 32) (.const (.bool false)))), (qS 2 (.mv (.tmp 33)))]) .ret) (.seq (.ops [(qS 35 (.pu (.n (.ar .eql)) [(.tmp 19), (ic 2)])), (qS 34 (.mv (.tmp 35)))]) (.cond (.tmp 34) (.seq (.ops [(qS 36 (.fieldA 1 (.tmp 1))), (qS 37 (.load 1 false (.tmp 36))), (qS 38 (.pu (.n (.ar .eql)) [(.tmp 37), (ic 0)])), (qS 39 (.mv (.tmp 38))), ⟨(.some 40), (.mv (.tmp 3)), (.some (39, true)), [], .none⟩, (qS 41 (.pick (.tmp 39) (.tmp 40) (.const (.bool false)))), (qS 2 (.mv (.tmp 41)))]) .ret) .skip)))))) (.seq (.ops [(qS 2 (.mv (.const (.bool false))))]) .ret))))), [(.tmp 2)]⟩
set_option maxHeartbeats 10000000 in
theorem d_impl_lopOK {P : Program} {env : Env} {f_impl_StampOK : Nat} {f_impl_StampLess : Nat} {f_impl_charOK : Nat}  (ep_impl_StampOK : env (2 * f_impl_StampOK) = pureFn true (FA fun a : TStamp => p_impl_StampOK a)) (ep_impl_StampLess : env (2 * f_impl_StampLess) = pureFn true (FA fun a : TStamp × TStamp => p_impl_StampLess a.1 a.2)) (ep_impl_charOK : env (2 * f_impl_charOK) = pureFn true (FA fun a : Int => p_impl_charOK a)) (x0 : TLOp) {b : Bool} (hp : p_impl_lopOK x0 = some b) : R P env (c_impl_lopOK f_impl_StampOK f_impl_StampLess f_impl_charOK) ((encA (x0)).map ofI) [] (Tells true b) := by
  refine R_of (by simp [c_impl_lopOK, encA]) ?_
  have E := And.intro ep_impl_StampOK (And.intro ep_impl_StampLess ep_impl_charOK)
  unfold c_impl_lopOK
  unfold p_impl_lopOK at hp
  obtain ⟨v0, hv0, hp⟩ := bind_eq hp
  by_cases hb1 : (v0) = true
  · rw [if_t hb1] at hp
    obtain ⟨v2, hv2, hp⟩ := bind_eq hp
    by_cases hb3 : (v2) = true
    · rw [if_t hb3] at hp
      obtain ⟨v4, hv4, hp⟩ := bind_eq hp
      by_cases hb5 : (decide (x0.kind = 1)) = true
      · rw [if_t hb5] at hp
        obtain ⟨v6, hv6, hp⟩ := bind_eq hp
        by_cases hb7 : (v6) = true
        · rw [if_t hb7] at hp
          by_cases hb8 : (v4) = true
          · rw [if_t hb8] at hp
            have hp := Option.some.inj hp
            subst hp
            simp (maxSteps := 2000000) (disch := first|omega|(simp only[ls];first|done|omega)) only [E, hv0, hb1, hv2, hb3, hv4, hb5, hv6, hb7, hb8, gm]
          · replace hb8 := eq_false_of_ne_true hb8
            rw [if_f hb8] at hp
            have hp := Option.some.inj hp
            subst hp
            simp (maxSteps := 2000000) (disch := first|omega|(simp only[ls];first|done|omega)) only [E, hv0, hb1, hv2, hb3, hv4, hb5, hv6, hb7, hb8, gm]
        · replace hb7 := eq_false_of_ne_true hb7
          rw [if_f hb7] at hp
          have hp := Option.some.inj hp
          subst hp
          simp (maxSteps := 2000000) (disch := first|omega|(simp only[ls];first|done|omega)) only [E, hv0, hb1, hv2, hb3, hv4, hb5, hv6, hb7, gm]
      · replace hb5 := eq_false_of_ne_true hb5
        rw [if_f hb5] at hp
        by_cases hb9 : (decide (x0.kind = 2)) = true
        · rw [if_t hb9] at hp
          by_cases hb10 : (decide (x0.char = 0)) = true
          · rw [if_t hb10] at hp
            have hp := Option.some.inj hp
            subst hp
            simp (maxSteps := 2000000) (disch := first|omega|(simp only[ls];first|done|omega)) only [E, hv0, hb1, hv2, hb3, hv4, hb5, hb9, hb10, gm]
          · replace hb10 := eq_false_of_ne_true hb10
            rw [if_f hb10] at hp
            have hp := Option.some.inj hp
            subst hp
            simp (maxSteps := 2000000) (disch := first|omega|(simp only[ls];first|done|omega)) only [E, hv0, hb1, hv2, hb3, hv4, hb5, hb9, hb10, gm]
        · replace hb9 := eq_false_of_ne_true hb9
          rw [if_f hb9] at hp
          have hp := Option.some.inj hp
          subst hp
          simp (maxSteps := 2000000) (disch := first|omega|(simp only[ls];first|done|omega)) only [E, hv0, hb1, hv2, hb3, hv4, hb5, hb9, gm]
    · replace hb3 := eq_false_of_ne_true hb3
      rw [if_f hb3] at hp
      by_cases hb11 : (decide (x0.kind = 1)) = true
      · rw [if_t hb11] at hp
        obtain ⟨v12, hv12, hp⟩ := bind_eq hp
        by_cases hb13 : (v12) = true
        · rw [if_t hb13] at hp
          have hp := Option.some.inj hp
          subst hp
          simp (maxSteps := 2000000) (disch := first|omega|(simp only[ls];first|done|omega)) only [E, hv0, hb1, hv2, hb3, hb11, hv12, hb13, gm]
        · replace hb13 := eq_false_of_ne_true hb13
          rw [if_f hb13] at hp
          have hp := Option.some.inj hp
          subst hp
          simp (maxSteps := 2000000) (disch := first|omega|(simp only[ls];first|done|omega)) only [E, hv0, hb1, hv2, hb3, hb11, hv12, hb13, gm]
      · replace hb11 := eq_false_of_ne_true hb11
        rw [if_f hb11] at hp
        by_cases hb14 : (decide (x0.kind = 2)) = true
        · rw [if_t hb14] at hp
          by_cases hb15 : (decide (x0.char = 0)) = true
          · rw [if_t hb15] at hp
            have hp := Option.some.inj hp
            subst hp
            simp (maxSteps := 2000000) (disch := first|omega|(simp only[ls];first|done|omega)) only [E, hv0, hb1, hv2, hb3, hb11, hb14, hb15, gm]
          · replace hb15 := eq_false_of_ne_true hb15
            rw [if_f hb15] at hp
            have hp := Option.some.inj hp
            subst hp
            simp (maxSteps := 2000000) (disch := first|omega|(simp only[ls];first|done|omega)) only [E, hv0, hb1, hv2, hb3, hb11, hb14, hb15, gm]
        · replace hb14 := eq_false_of_ne_true hb14
          rw [if_f hb14] at hp
          have hp := Option.some.inj hp
          subst hp
          simp (maxSteps := 2000000) (disch := first|omega|(simp only[ls];first|done|omega)) only [E, hv0, hb1, hv2, hb3, hb11, hb14, gm]
  · replace hb1 := eq_false_of_ne_true hb1
    rw [if_f hb1] at hp
    have hp := Option.some.inj hp
    subst hp
    simp (maxSteps := 2000000) (disch := first|omega|(simp only[ls];first|done|omega)) only [E, hv0, hb1, gm]

noncomputable def p_spec_l04Has_l0 (x0 : List TLOp) (x1 : TStamp) : Int × Int → Option (Lp (Int × Int) Bool)
  | (s0, s1) =>
    if (decide (1 < w64 (s1 - s0))) = true then
      (get? x0 (w64 (Int.tdiv (w64 (s0 + s1)) 2))).bind fun v3 =>
      (p_spec_StampLess x1 v3.id).bind fun v4 =>
      if (v4) = true then
        some (.go (s0, w64 (Int.tdiv (w64 (s0 + s1)) 2)))
      else
        some (.go (w64 (Int.tdiv (w64 (s0 + s1)) 2), s1))
    else
      some (.out (s0, s1))
noncomputable def p_spec_l04Has (x0 : List TLOp) (x1 : TStamp) : Option Bool :=
  (loopP (p_spec_l04Has_l0 x0 x1) (0, (x0.length : Int))).bind fun ee0 => match ee0 with
  | .ret r => some r
  | .out (o6, o7) =>
    if (decide (o6 < o7)) = true then
      (get? x0 o6).bind fun v9 =>
      if ((decide (v9.id.time = x1.time) && decide (v9.id.actor = x1.actor))) = true then
        some (decide (v9.kind = 1))
      else
        some false
    else
      some false
def c_spec_l04Has (f_spec_StampLess : Nat) : AFn := ⟨47, (.seq (.ops [(qS 3 (.box (.tmp 1))), (qS 4 (.mv (.const (.bool false))))]) (.seq (.ops [(qS 5 (.mv (ic 0)))]) (.seq (.ops [(qS 8 (.mv (.tmp 0))), (qS 9 (.len (.tmp 8))), (qS 6 (.mv (.tmp 9)))]) (.seq (.block 0 (.loop (.seq (.seq (.ops [(qS 10 (.mv (.tmp 6))), (qS 11 (.mv (.tmp 5))), (qS 12 (.pu (.n (.ar .sub)) [(.tmp 10), (.tmp 11)])), (qS 13 (.pu (.n (.ar .gtr)) [(.tmp 12), (ic 1)]))]) (.cond (.tmp 13) .skip (.exit 0))) (.block 1 (.seq (.ops [(qS 14 (.mv (.tmp 5))), (qS 15 (.mv (.tmp 6))), (qS 16 (.pu (.n (.ar .add)) [(.tmp 14), (.tmp 15)])), (qS 17 (.pu (.n (.ar .quo)) [(.tmp 16), (ic 2)])), (qS 7 (.mv (.tmp 17)))]) (.seq (.ops [(qS 18 (.load 2 true (.tmp 3))), (qS 19 (.mv (.tmp 0))), (qS 20 (.mv (.tmp 7))), (qS 21 (.idxS 6 (.tmp 19) (.tmp 20))), (qS 22 (.fieldA 2 (.tmp 21))), (qS 23 (.load 2 true (.tmp 22))), (qS 24 (.call (2 * f_spec_StampLess) [(.tmp 18), (.tmp 23)]))]) (.cond (.tmp 24) (.ops [(qS 25 (.mv (.tmp 7))), (qS 6 (.mv (.tmp 25)))]) (.ops [(qS 26 (.mv (.tmp 7))), (qS 5 (.mv (.tmp 26)))])))))))) (.seq (.ops [(qS 27 (.mv (.tmp 6))), (qS 28 (.mv (.tmp 5))), (qS 29 (.pu (.n (.ar .gtr)) [(.tmp 27), (.tmp 28)])), (qS 30 (.mv (.tmp 29))), ⟨(.some 31), (.mv (.tmp 0)), (.some (30, true)), [], .none⟩, ⟨(.some 32), (.mv (.tmp 5)), (.some (30, true)), [], .none⟩, ⟨(.some 33), (.idxS 6 (.tmp 31) (.tmp 32)), (.some (30, true)), [], .none⟩, ⟨(.some 34), (.fieldA 2 (.tmp 33)), (.some (30, true)), [], .none⟩, ⟨(.some 35), (.load 2 true (.tmp 34)), (.some (30, true)), [], .none⟩, ⟨(.some 36), (.load 2 true (.tmp 3)), (.some (30, true)), [], .none⟩, ⟨(.some 37), (.aeq false [(.int .i64), (.int .i64)] (.tmp 35) (.tmp 36)), (.some (30, true)), [], .none⟩, (qS 38 (.pick (.tmp 30) (.tmp 37) (.const (.bool false)))), (qS 39 (.mv (.tmp 38))), ⟨(.some 40), (.mv (.tmp 0)), (.some (39, true)), [], .none⟩, ⟨(.some 41), (.mv (.tmp 5)), (.some (39, true)), [], .none⟩, ⟨(.some 42), (.idxS 6 (.tmp 40) (.tmp 41)), (.some (39, true)), [], .none⟩, ⟨(.some 43), (.fieldA 0 (.tmp 42)), (.some (39, true)), [], .none⟩, ⟨(.some 44), (.load 1 false (.tmp 43)), (.some (39, true)), [], .none⟩, ⟨(.some 45), (.pu (.n (.ar .eql)) [(.tmp 44), (ic 1)]), (.some (39, true)), [], .none⟩, (qS 46 (.pick (.tmp 39) (.tmp 45) (.const (.bool false)))), (qS 4 (.mv (.tmp 46)))]) .ret))))), [(.tmp 4)]⟩
set_option maxHeartbeats 10000000 in
theorem d_spec_l04Has {P : Program} {env : Env} {f_spec_StampLess : Nat}  (ep_spec_StampLess : env (2 * f_spec_StampLess) = pureFn true (FA fun a : TStamp × TStamp => p_spec_StampLess a.1 a.2)) (x0 : List TLOp) (x1 : TStamp) {b : Bool} (hp : p_spec_l04Has x0 x1 = some b) : R P env (c_spec_l04Has f_spec_StampLess) ((encA (x0, x1)).map ofI) [] (Tells true b) := by
  refine R_of (by simp [c_spec_l04Has, encA]) ?_
  have E := ep_spec_StampLess
  unfold c_spec_l04Has
  unfold p_spec_l04Has at hp
  obtain ⟨ee0, hee0, hp⟩ := bind_eq hp
  simp (maxSteps := 2000000) (disch := first|omega|(simp only[ls];first|done|omega)) only [E, gm]
  refine W_loopP 0 (fun s t h => match s with | (s0, s1) => t 0 = .i (.sl 6 (x0.map enc)) ∧ t 3 = .ptr 0 2 0 ∧ t 5 = .i (.s (.int .i64 s0)) ∧ t 6 = .i (.s (.int .i64 s1)) ∧ getCells h 0 2 = some [.i (.s (.int .i64 x1.time)), .i (.s (.int .i64 x1.actor))] ∧ 0 < h.length) (RK [.tmp 4] (Tells true)) ?_ hee0 ?_ ?_
  · rintro ⟨s0, s1⟩ ee tt0 hh0 ⟨ftt0_0, ftt0_1, ftt0_2, ftt0_3, ftt0_4, ftt0_5⟩ hp
    rw [p_spec_l04Has_l0] at hp
    by_cases hb2 : (decide (1 < w64 (s1 - s0))) = true
    · rw [if_t hb2] at hp
      obtain ⟨v3, hv3, hp⟩ := bind_eq hp
      obtain ⟨v4, hv4, hp⟩ := bind_eq hp
      by_cases hb5 : (v4) = true
      · rw [if_t hb5] at hp
        have hp := Option.some.inj hp
        subst hp
        simp (maxSteps := 2000000) (disch := first|omega|(simp only[ls];first|done|omega)) only [E, ftt0_0, ftt0_1, ftt0_2, ftt0_3, ftt0_4, ftt0_5, hb2, hv3, hv4, hb5, gm] <;> omega
      · replace hb5 := eq_false_of_ne_true hb5
        rw [if_f hb5] at hp
        have hp := Option.some.inj hp
        subst hp
        simp (maxSteps := 2000000) (disch := first|omega|(simp only[ls];first|done|omega)) only [E, ftt0_0, ftt0_1, ftt0_2, ftt0_3, ftt0_4, ftt0_5, hb2, hv3, hv4, hb5, gm] <;> omega
    · replace hb2 := eq_false_of_ne_true hb2
      rw [if_f hb2] at hp
      have hp := Option.some.inj hp
      subst hp
      simp (maxSteps := 2000000) (disch := first|omega|(simp only[ls];first|done|omega)) only [E, ftt0_0, ftt0_1, ftt0_2, ftt0_3, ftt0_4, ftt0_5, hb2, gm] <;> omega
  · simp (maxSteps := 2000000) (disch := first|omega|(simp only[ls];first|done|omega)) only [E, gm] <;> omega
  · intro x tt1 hh1 hx
    rcases ee0 with ⟨o6, o7⟩ | r
    · obtain ⟨rfl, ftt1_0, ftt1_1, ftt1_2, ftt1_3, ftt1_4, ftt1_5⟩ := hx
      dsimp only at hp
      by_cases hb8 : (decide (o6 < o7)) = true
      · rw [if_t hb8] at hp
        obtain ⟨v9, hv9, hp⟩ := bind_eq hp
        by_cases hb10 : ((decide (v9.id.time = x1.time) && decide (v9.id.actor = x1.actor))) = true
        · rw [if_t hb10] at hp
          have hp := Option.some.inj hp
          subst hp
          simp (maxSteps := 2000000) (disch := first|omega|(simp only[ls];first|done|omega)) only [E, ftt1_0, ftt1_1, ftt1_2, ftt1_3, ftt1_4, ftt1_5, hb8, hv9, hb10, gm]
        · replace hb10 := eq_false_of_ne_true hb10
          rw [if_f hb10] at hp
          have hp := Option.some.inj hp
          subst hp
          simp (maxSteps := 2000000) (disch := first|omega|(simp only[ls];first|done|omega)) only [E, ftt1_0, ftt1_1, ftt1_2, ftt1_3, ftt1_4, ftt1_5, hb8, hv9, hb10, gm]
      · replace hb8 := eq_false_of_ne_true hb8
        rw [if_f hb8] at hp
        have hp := Option.some.inj hp
        subst hp
        simp (maxSteps := 2000000) (disch := first|omega|(simp only[ls];first|done|omega)) only [E, ftt1_0, ftt1_1, ftt1_2, ftt1_3, ftt1_4, ftt1_5, hb8, gm]
    · obtain ⟨rfl, hx⟩ := hx
      dsimp only at hp
      cases hp
      simp only [seqK_ret, blockK_ret, retK_RK (K := Tells true), hx, and_self, true_and]

noncomputable def p_spec_l04Sort_l0 : List TLOp × List TLOp × List TLOp → Option (Lp (List TLOp × List TLOp × List TLOp) (List TLOp))
  | (s6, s7, s8) =>
    if (decide (0 < (s7.length : Int))) = true then
      if (decide ((s8.length : Int) = 0)) = true then
        (get? s7 0).bind fun v11 =>
        (app? 48 s6 ([v11])).bind fun v12 =>
        (cut? s7 1 (s7.length : Int)).bind fun v13 =>
        some (.go (v12, v13, s8))
      else
        (get? s8 0).bind fun v14 =>
        (get? s7 0).bind fun v15 =>
        (p_spec_StampLess v14.id v15.id).bind fun v16 =>
        if (v16) = true then
          (app? 48 s6 ([v14])).bind fun v18 =>
          (cut? s8 1 (s8.length : Int)).bind fun v19 =>
          some (.go (v18, s7, v19))
        else
          (app? 48 s6 ([v15])).bind fun v20 =>
          (cut? s7 1 (s7.length : Int)).bind fun v21 =>
          some (.go (v20, v21, s8))
    else
      if (decide (0 < (s8.length : Int))) = true then
        if (decide ((s8.length : Int) = 0)) = true then
          (get? s7 0).bind fun v24 =>
          (app? 48 s6 ([v24])).bind fun v25 =>
          (cut? s7 1 (s7.length : Int)).bind fun v26 =>
          some (.go (v25, v26, s8))
        else
          (get? s8 0).bind fun v27 =>
          (app? 48 s6 ([v27])).bind fun v28 =>
          (cut? s8 1 (s8.length : Int)).bind fun v29 =>
          some (.go (v28, s7, v29))
      else
        some (.out (s6, s7, s8))
noncomputable def pB_spec_l04Sort (rr : (List TLOp) → Option (List TLOp)) (x0 : List TLOp) : Option (List TLOp) :=
  if (decide ((x0.length : Int) < 2)) = true then
    (app? 48 ([] : List TLOp) x0).bind fun v1 =>
    some v1
  else
    (cut? x0 0 (w64 (Int.tdiv (x0.length : Int) 2))).bind fun v2 =>
    (rr v2).bind fun v3 =>
    (cut? x0 (w64 (Int.tdiv (x0.length : Int) 2)) (x0.length : Int)).bind fun v4 =>
    (rr v4).bind fun v5 =>
    (loopP (p_spec_l04Sort_l0) (([] : List TLOp), v3, v5)).bind fun ee0 => match ee0 with
    | .ret r => some r
    | .out (o30, o31, o32) =>
      some o30
noncomputable def pN_spec_l04Sort : Nat → (List TLOp) → Option (List TLOp)
  | 0 => fun _ => none
  | n + 1 => pB_spec_l04Sort (pN_spec_l04Sort n)
noncomputable def p_spec_l04Sort (x0 : List TLOp) : Option (List TLOp) := fixP fun n => pN_spec_l04Sort n x0
def c_spec_l04Sort (f_spec_l04Sort : Nat) (f_spec_StampLess : Nat) : AFn := ⟨70, (.seq (.ops [(qS 2 (.vnil 6 true))]) (.seq (.seq (.ops [(qS 6 (.mv (.tmp 0))), (qS 7 (.len (.tmp 6))), (qS 8 (.pu (.n (.ar .lss)) [(.tmp 7), (ic 2)]))]) (.cond (.tmp 8) (.seq (.ops [(qS 9 (.buildSl 6 true 0 [(.int .i64 0), (.int .i64 0), (.int .i64 0), (.int .i64 0), (.int .i64 0), (.int .i64 0)] [])), (qS 10 (.mv (.tmp 0))), (qS 11 (.append 6 true 48 (.tmp 9) (.tmp 10))), (qS 2 (.mv (.tmp 11)))]) .ret) .skip)) (.seq (.ops [(qS 12 (.mv (.tmp 0))), (qS 13 (.mv (.tmp 0))), (qS 14 (.len (.tmp 13))), (qS 15 (.pu (.n (.ar .quo)) [(.tmp 14), (ic 2)])), (qS 16 (.slice 6 (.tmp 12) .none (.some (.tmp 15)))), (qS 17 (.call (2 * f_spec_l04Sort) [(.tmp 16)])), (qS 3 (.mv (.tmp 17)))]) (.seq (.ops [(qS 18 (.mv (.tmp 0))), (qS 19 (.mv (.tmp 0))), (qS 20 (.len (.tmp 19))), (qS 21 (.pu (.n (.ar .quo)) [(.tmp 20), (ic 2)])), (qS 22 (.slice 6 (.tmp 18) (.some (.tmp 21)) .none)), (qS 23 (.call (2 * f_spec_l04Sort) [(.tmp 22)])), (qS 4 (.mv (.tmp 23)))]) (.seq (.ops [(qS 24 (.buildSl 6 true 0 [(.int .i64 0), (.int .i64 0), (.int .i64 0), (.int .i64 0), (.int .i64 0), (.int .i64 0)] [])), (qS 5 (.mv (.tmp 24)))]) (.seq (.block 0 (.loop (.seq (.seq (.ops [(qS 25 (.mv (.tmp 3))), (qS 26 (.len (.tmp 25))), (qS 27 (.pu (.n (.ar .gtr)) [(.tmp 26), (ic 0)])), (qS 28 (.mv (.tmp 27))), ⟨(.some 29), (.mv (.tmp 4)), (.some (28, false)), [], .none⟩, ⟨(.some 30), (.len (.tmp 29)), (.some (28, false)), [], .none⟩, ⟨(.some 31), (.pu (.n (.ar .gtr)) [(.tmp 30), (ic 0)]), (.some (28, false)), [], .none⟩, (qS 32 (.pick (.tmp 28) (.const (.bool true)) (.tmp 31)))]) (.cond (.tmp 32) .skip (.exit 0))) (.block 1 (.seq (.ops [(qS 33 (.mv (.tmp 4))), (qS 34 (.len (.tmp 33))), (qS 35 (.pu (.n (.ar .eql)) [(.tmp 34), (ic 0)])), (qS 36 (.mv (.tmp 35))), ⟨(.some 37), (.mv (.tmp 3)), (.some (36, false)), [], .none⟩, ⟨(.some 38), (.len (.tmp 37)), (.some (36, false)), [], .none⟩, ⟨(.some 39), (.pu (.n (.ar .gtr)) [(.tmp 38), (ic 0)]), (.some (36, false)), [], .none⟩, ⟨(.some 40), (.mv (.tmp 39)), (.some (36, false)), [], .none⟩, ⟨(.some 41), (.mv (.tmp 4)), (.some (40, true)), [], .none⟩, ⟨(.some 42), (.idxS 6 (.tmp 41) (ic 0)), (.some (40, true)), [], .none⟩, ⟨(.some 43), (.fieldA 2 (.tmp 42)), (.some (40, true)), [], .none⟩, ⟨(.some 44), (.load 2 true (.tmp 43)), (.some (40, true)), [], .none⟩, ⟨(.some 45), (.mv (.tmp 3)), (.some (40, true)), [], .none⟩, ⟨(.some 46), (.idxS 6 (.tmp 45) (ic 0)), (.some (40, true)), [], .none⟩, ⟨(.some 47), (.fieldA 2 (.tmp 46)), (.some (40, true)), [], .none⟩, ⟨(.some 48), (.load 2 true (.tmp 47)), (.some (40, true)), [], .none⟩, ⟨(.some 49), (.call (2 * f_spec_StampLess) [(.tmp 44), (.tmp 48)]), (.some (40, true)), [], .none⟩, ⟨(.some 50), (.pu (.n (.un .not)) [(.tmp 49)]), (.some (40, true)), [], .none⟩, ⟨(.some 51), (.pick (.tmp 40) (.tmp 50) (.const (.bool false))), (.some (36, false)), [], .none⟩, (qS 52 (.pick (.tmp 36) (.const (.bool true)) (.tmp 51)))]) (.cond (.tmp 52) (.seq (.ops [(qS 53 (.mv (.tmp 5))), (qS 54 (.mv (.tmp 3))), (qS 55 (.idxS 6 (.tmp 54) (ic 0))), (qS 56 (.load 6 true (.tmp 55))), (qS 57 (.buildSl 6 true 1 [(.int .i64 0), (.int .i64 0), (.int .i64 0), (.int .i64 0), (.int .i64 0), (.int .i64 0)] [(0, (.tmp 56))])), (qS 58 (.append 6 true 48 (.tmp 53) (.tmp 57))), (qS 5 (.mv (.tmp 58)))]) (.ops [(qS 59 (.mv (.tmp 3))), (qS 60 (.slice 6 (.tmp 59) (.some (ic 1)) .none)), (qS 3 (.mv (.tmp 60)))])) (.seq (.ops [(qS 61 (.mv (.tmp 5))), (qS 62 (.mv (.tmp 4))), (qS 63 (.idxS 6 (.tmp 62) (ic 0))), (qS 64 (.load 6 true (.tmp 63))), (qS 65 (.buildSl 6 true 1 [(.int .i64 0), (.int .i64 0), (.int .i64 0), (.int .i64 0), (.int .i64 0), (.int .i64 0)] [(0, (.tmp 64))])), (qS 66 (.append 6 true 48 (.tmp 61) (.tmp 65))), (qS 5 (.mv (.tmp 66)))]) (.ops [(qS 67 (.mv (.tmp 4))), (qS 68 (.slice 6 (.tmp 67) (.some (ic 1)) .none)), (qS 4 (.mv (.tmp 68)))])))))))) (.seq (.ops [(qS 69 (.mv (.tmp 5))), (qS 2 (.mv (.tmp 69)))]) .ret))))))), [(.tmp 2)]⟩
set_option maxHeartbeats 10000000 in
theorem d_spec_l04Sort {P : Program} {env : Env} {f_spec_l04Sort : Nat} {f_spec_StampLess : Nat} {rr : (List TLOp) → Option (List TLOp)}  (ep_spec_l04Sort : env (2 * f_spec_l04Sort) = pureFn true (FA fun a : List TLOp => rr a)) (ep_spec_StampLess : env (2 * f_spec_StampLess) = pureFn true (FA fun a : TStamp × TStamp => p_spec_StampLess a.1 a.2)) (x0 : List TLOp) {b : List TLOp} (hp : pB_spec_l04Sort rr x0 = some b) : R P env (c_spec_l04Sort f_spec_l04Sort f_spec_StampLess) ((encA (x0)).map ofI) [] (Tells true b) := by
  refine R_of (by simp [c_spec_l04Sort, encA]) ?_
  have E := And.intro ep_spec_l04Sort ep_spec_StampLess
  unfold c_spec_l04Sort
  unfold pB_spec_l04Sort at hp
  by_cases hb0 : (decide ((x0.length : Int) < 2)) = true
  · rw [if_t hb0] at hp
    obtain ⟨v1, hv1, hp⟩ := bind_eq hp
    simp (maxSteps := 2000000) (disch := first|omega|(simp only[ls];first|done|omega)) only [E, hb0, gm]
    refine app_f (b := 1) (xs := ([] : List TLOp)) (ys := x0) (fun h => getCells h 0 0 = some [] ∧ 0 < h.length ∧ getCells h 1 0 = some [] ∧ 1 < h.length) ?_ ?_ hv1 rfl (by first | rfl | omega | (simp; omega)) (by first | rfl | omega | (simp; omega)) (by first | rfl | omega | (simp; omega)) ?_
    · simp (maxSteps := 2000000) (disch := first|omega|(simp only[ls];first|done|omega)) only [E, hb0, hv1, gm] <;> omega
    · rintro h ⟨c0_0, c0_1, c0_2, c0_3⟩
      exact gc_eq c0_2 (by omega)
    · rintro h hh0 ⟨c0_0, c0_1, c0_2, c0_3⟩ kk0 w0
      have d0_0 : getCells hh0 0 0 = some [] := (keep_get kk0 c0_1 (by first | (simp; done) | (simp; omega))).trans c0_0
      have d0_0l := keep_lt kk0 c0_1
      have d0_1 : getCells hh0 1 (v1.length * 6) = some (rows (v1 : List TLOp)) := by simpa only [Nat.mul_one] using w0
      have d0_1l := keep_lt kk0 c0_3
      have hp := Option.some.inj hp
      subst hp
      simp (maxSteps := 2000000) (disch := first|omega|(simp only[ls];first|done|omega)) only [E, hb0, hv1, d0_0, d0_1, gm]
  · replace hb0 := eq_false_of_ne_true hb0
    rw [if_f hb0] at hp
    obtain ⟨v2, hv2, hp⟩ := bind_eq hp
    obtain ⟨v3, hv3, hp⟩ := bind_eq hp
    obtain ⟨v4, hv4, hp⟩ := bind_eq hp
    obtain ⟨v5, hv5, hp⟩ := bind_eq hp
    obtain ⟨ee0, hee0, hp⟩ := bind_eq hp
    simp (maxSteps := 2000000) (disch := first|omega|(simp only[ls];first|done|omega)) only [E, hb0, hv2, hv3, hv4, hv5, gm]
    refine W_loopP 0 (fun s t h => match s with | (s6, s7, s8) => t 3 = .i (.sl 6 (s7.map enc)) ∧ t 4 = .i (.sl 6 (s8.map enc)) ∧ t 5 = .hsl 1 (s6.length * 6) 0 6 true s6.length ∧ getCells h 1 (s6.length * 6) = some (rows (s6 : List TLOp)) ∧ 1 < h.length) (RK [.tmp 2] (Tells true)) ?_ hee0 ?_ ?_
    · rintro ⟨s6, s7, s8⟩ ee tt1 hh1 ⟨ftt1_0, ftt1_1, ftt1_2, ftt1_3, ftt1_4⟩ hp
      rw [p_spec_l04Sort_l0] at hp
      by_cases hb9 : (decide (0 < (s7.length : Int))) = true
      · rw [if_t hb9] at hp
        by_cases hb10 : (decide ((s8.length : Int) = 0)) = true
        · rw [if_t hb10] at hp
          obtain ⟨v11, hv11, hp⟩ := bind_eq hp
          obtain ⟨v12, hv12, hp⟩ := bind_eq hp
          obtain ⟨kv12, qv12, lv12⟩ := app_some hv12
          have rv12 : rows s6 ++ [.i (.s (.int .i64 v11.kind)), .i (.s (.int .i64 v11.char)), .i (.s (.int .i64 v11.id.time)), .i (.s (.int .i64 v11.id.actor)), .i (.s (.int .i64 v11.at_.time)), .i (.s (.int .i64 v11.at_.actor))] = rows v12 := by rw [qv12, rows_append]; rfl
          have mv12 : s6.length + 1 = v12.length := by simp at lv12; omega
          have nv12 : (s6.length + 1) * 48 ≤ 140737488355328 := by simp at kv12; omega
          obtain ⟨v13, hv13, hp⟩ := bind_eq hp
          have hp := Option.some.inj hp
          subst hp
          simp (maxSteps := 2000000) (disch := first|omega|(simp only[ls];first|done|omega)) only [E, hb0, hv2, hv3, hv4, hv5, ftt1_0, ftt1_1, ftt1_2, ftt1_3, ftt1_4, hb9, hb10, hv11, hv12, rv12, nv12, hv13, gm] <;> omega
        · replace hb10 := eq_false_of_ne_true hb10
          rw [if_f hb10] at hp
          obtain ⟨v14, hv14, hp⟩ := bind_eq hp
          obtain ⟨v15, hv15, hp⟩ := bind_eq hp
          obtain ⟨v16, hv16, hp⟩ := bind_eq hp
          by_cases hb17 : (v16) = true
          · rw [if_t hb17] at hp
            obtain ⟨v18, hv18, hp⟩ := bind_eq hp
            obtain ⟨kv18, qv18, lv18⟩ := app_some hv18
            have rv18 : rows s6 ++ [.i (.s (.int .i64 v14.kind)), .i (.s (.int .i64 v14.char)), .i (.s (.int .i64 v14.id.time)), .i (.s (.int .i64 v14.id.actor)), .i (.s (.int .i64 v14.at_.time)), .i (.s (.int .i64 v14.at_.actor))] = rows v18 := by rw [qv18, rows_append]; rfl
            have mv18 : s6.length + 1 = v18.length := by simp at lv18; omega
            have nv18 : (s6.length + 1) * 48 ≤ 140737488355328 := by simp at kv18; omega
            obtain ⟨v19, hv19, hp⟩ := bind_eq hp
            have hp := Option.some.inj hp
            subst hp
            simp (maxSteps := 2000000) (disch := first|omega|(simp only[ls];first|done|omega)) only [E, hb0, hv2, hv3, hv4, hv5, ftt1_0, ftt1_1, ftt1_2, ftt1_3, ftt1_4, hb9, hb10, hv14, hv15, hv16, hb17, hv18, rv18, nv18, hv19, gm] <;> omega
          · replace hb17 := eq_false_of_ne_true hb17
            rw [if_f hb17] at hp
            obtain ⟨v20, hv20, hp⟩ := bind_eq hp
            obtain ⟨kv20, qv20, lv20⟩ := app_some hv20
            have rv20 : rows s6 ++ [.i (.s (.int .i64 v15.kind)), .i (.s (.int .i64 v15.char)), .i (.s (.int .i64 v15.id.time)), .i (.s (.int .i64 v15.id.actor)), .i (.s (.int .i64 v15.at_.time)), .i (.s (.int .i64 v15.at_.actor))] = rows v20 := by rw [qv20, rows_append]; rfl
            have mv20 : s6.length + 1 = v20.length := by simp at lv20; omega
            have nv20 : (s6.length + 1) * 48 ≤ 140737488355328 := by simp at kv20; omega
            obtain ⟨v21, hv21, hp⟩ := bind_eq hp
            have hp := Option.some.inj hp
            subst hp
            simp (maxSteps := 2000000) (disch := first|omega|(simp only[ls];first|done|omega)) only [E, hb0, hv2, hv3, hv4, hv5, ftt1_0, ftt1_1, ftt1_2, ftt1_3, ftt1_4, hb9, hb10, hv14, hv15, hv16, hb17, hv20, rv20, nv20, hv21, gm] <;> omega
      · replace hb9 := eq_false_of_ne_true hb9
        rw [if_f hb9] at hp
        by_cases hb22 : (decide (0 < (s8.length : Int))) = true
        · rw [if_t hb22] at hp
          by_cases hb23 : (decide ((s8.length : Int) = 0)) = true
          · rw [if_t hb23] at hp
            obtain ⟨v24, hv24, hp⟩ := bind_eq hp
            obtain ⟨v25, hv25, hp⟩ := bind_eq hp
            obtain ⟨kv25, qv25, lv25⟩ := app_some hv25
            have rv25 : rows s6 ++ [.i (.s (.int .i64 v24.kind)), .i (.s (.int .i64 v24.char)), .i (.s (.int .i64 v24.id.time)), .i (.s (.int .i64 v24.id.actor)), .i (.s (.int .i64 v24.at_.time)), .i (.s (.int .i64 v24.at_.actor))] = rows v25 := by rw [qv25, rows_append]; rfl
            have mv25 : s6.length + 1 = v25.length := by simp at lv25; omega
            have nv25 : (s6.length + 1) * 48 ≤ 140737488355328 := by simp at kv25; omega
            obtain ⟨v26, hv26, hp⟩ := bind_eq hp
            have hp := Option.some.inj hp
            subst hp
            simp (maxSteps := 2000000) (disch := first|omega|(simp only[ls];first|done|omega)) only [E, hb0, hv2, hv3, hv4, hv5, ftt1_0, ftt1_1, ftt1_2, ftt1_3, ftt1_4, hb9, hb22, hb23, hv24, hv25, rv25, nv25, hv26, gm] <;> omega
          · replace hb23 := eq_false_of_ne_true hb23
            rw [if_f hb23] at hp
            obtain ⟨v27, hv27, hp⟩ := bind_eq hp
            obtain ⟨v28, hv28, hp⟩ := bind_eq hp
            obtain ⟨kv28, qv28, lv28⟩ := app_some hv28
            have rv28 : rows s6 ++ [.i (.s (.int .i64 v27.kind)), .i (.s (.int .i64 v27.char)), .i (.s (.int .i64 v27.id.time)), .i (.s (.int .i64 v27.id.actor)), .i (.s (.int .i64 v27.at_.time)), .i (.s (.int .i64 v27.at_.actor))] = rows v28 := by rw [qv28, rows_append]; rfl
            have mv28 : s6.length + 1 = v28.length := by simp at lv28; omega
            have nv28 : (s6.length + 1) * 48 ≤ 140737488355328 := by simp at kv28; omega
            obtain ⟨v29, hv29, hp⟩ := bind_eq hp
            have hp := Option.some.inj hp
            subst hp
            simp (maxSteps := 2000000) (disch := first|omega|(simp only[ls];first|done|omega)) only [E, hb0, hv2, hv3, hv4, hv5, ftt1_0, ftt1_1, ftt1_2, ftt1_3, ftt1_4, hb9, hb22, hb23, hv27, hv28, rv28, nv28, hv29, gm] <;> omega
        · replace hb22 := eq_false_of_ne_true hb22
          rw [if_f hb22] at hp
          have hp := Option.some.inj hp
          subst hp
          simp (maxSteps := 2000000) (disch := first|omega|(simp only[ls];first|done|omega)) only [E, hb0, hv2, hv3, hv4, hv5, ftt1_0, ftt1_1, ftt1_2, ftt1_3, ftt1_4, hb9, hb22, gm] <;> omega
    · simp (maxSteps := 2000000) (disch := first|omega|(simp only[ls];first|done|omega)) only [E, hb0, hv2, hv3, hv4, hv5, gm] <;> omega
    · intro x tt2 hh2 hx
      rcases ee0 with ⟨o30, o31, o32⟩ | r
      · obtain ⟨rfl, ftt2_0, ftt2_1, ftt2_2, ftt2_3, ftt2_4⟩ := hx
        dsimp only at hp
        have hp := Option.some.inj hp
        subst hp
        simp (maxSteps := 2000000) (disch := first|omega|(simp only[ls];first|done|omega)) only [E, hb0, hv2, hv3, hv4, hv5, ftt2_0, ftt2_1, ftt2_2, ftt2_3, ftt2_4, gm]
      · obtain ⟨rfl, hx⟩ := hx
        dsimp only at hp
        cases hp
        simp only [seqK_ret, blockK_ret, retK_RK (K := Tells true), hx, and_self, true_and]

noncomputable def p_spec_l04Clean_l0 (x0 : List TLOp) : Int → Option (Lp (Int) (T2 (List TLOp) Int))
  | s1 =>
    if (decide (s1 < (x0.length : Int))) = true then
      (get? x0 s1).bind fun v3 =>
      (p_spec_l04OpOK v3).bind fun v4 =>
      if (v4) = true then
        some (.go (w64 (s1 + 1)))
      else
        some (.ret ⟨[], 1⟩)
    else
      some (.out s1)
noncomputable def p_spec_l04Clean_l1 (v7 : List TLOp) : List TLOp × Int → Option (Lp (List TLOp × Int) (T2 (List TLOp) Int))
  | (s8, s9) =>
    if (decide (s9 < (v7.length : Int))) = true then
      if (decide (0 < (s8.length : Int))) = true then
        (get? s8 (w64 ((s8.length : Int) - 1))).bind fun v12 =>
        (get? v7 s9).bind fun v14 =>
        if ((decide (v12.id.time = v14.id.time) && decide (v12.id.actor = v14.id.actor))) = true then
          if ((decide (v12.kind = v14.kind) && (decide (v12.char = v14.char) && (decide (v12.id.time = v14.id.time) && (decide (v12.id.actor = v14.id.actor) && (decide (v12.at_.time = v14.at_.time) && decide (v12.at_.actor = v14.at_.actor))))))) = true then
            some (.go (s8, w64 (s9 + 1)))
          else
            some (.ret ⟨[], 16⟩)
        else
          (app? 48 s8 ([v14])).bind fun v18 =>
          some (.go (v18, w64 (s9 + 1)))
      else
        (get? v7 s9).bind fun v19 =>
        (app? 48 s8 ([v19])).bind fun v20 =>
        some (.go (v20, w64 (s9 + 1)))
    else
      some (.out (s8, s9))
noncomputable def p_spec_l04Clean_l2 (o21 : List TLOp) : Int → Option (Lp (Int) (T2 (List TLOp) Int))
  | s23 =>
    if (decide (s23 < (o21.length : Int))) = true then
      (get? o21 s23).bind fun v25 =>
      (p_spec_l02None v25.at_).bind fun v27 =>
      if (v27) = true then
        some (.go (w64 (s23 + 1)))
      else
        (p_spec_l04Has o21 v25.at_).bind fun v30 =>
        if (v30) = true then
          some (.go (w64 (s23 + 1)))
        else
          some (.ret ⟨[], 5⟩)
    else
      some (.out s23)
noncomputable def p_spec_l04Clean (x0 : List TLOp) : Option (T2 (List TLOp) Int) :=
  if (decide (2048 < (x0.length : Int))) = true then
    some ⟨[], 2⟩
  else
    (loopP (p_spec_l04Clean_l0 x0) 0).bind fun ee0 => match ee0 with
    | .ret r => some r
    | .out o6 =>
      (p_spec_l04Sort x0).bind fun v7 =>
      (loopP (p_spec_l04Clean_l1 v7) (([] : List TLOp), 0)).bind fun ee1 => match ee1 with
      | .ret r => some r
      | .out (o21, o22) =>
        (loopP (p_spec_l04Clean_l2 o21) 0).bind fun ee2 => match ee2 with
        | .ret r => some r
        | .out o32 =>
          some ⟨o21, 0⟩
def c_spec_l04Clean (f_spec_l04OpOK : Nat) (f_spec_l04Sort : Nat) (f_spec_l02None : Nat) (f_spec_l04Has : Nat) : AFn := ⟨97, (.seq (.ops [(qS 2 (.vnil 6 true)), (qS 3 (.mv (ic 0)))]) (.seq (.seq (.ops [(qS 10 (.mv (.tmp 0))), (qS 11 (.len (.tmp 10))), (qS 12 (.pu (.n (.ar .gtr)) [(.tmp 11), (ic 2048)]))]) (.cond (.tmp 12) (.seq (.ops [(qS 13 (.buildSl 6 true 0 [(.int .i64 0), (.int .i64 0), (.int .i64 0), (.int .i64 0), (.int .i64 0), (.int .i64 0)] [])), (qS 2 (.mv (.tmp 13))), (qS 3 (.mv (ic 2)))]) .ret) .skip)) (.seq (.seq (.ops [(qS 4 (.mv (ic 0)))]) (.block 0 (.loop (.seq (.seq (.ops [(qS 14 (.mv (.tmp 4))), (qS 15 (.mv (.tmp 0))), (qS 16 (.len (.tmp 15))), (qS 17 (.pu (.n (.ar .lss)) [(.tmp 14), (.tmp 16)]))]) (.cond (.tmp 17) .skip (.exit 0))) (.seq (.block 1 (.seq (.ops [(qS 20 (.mv (.tmp 0))), (qS 21 (.mv (.tmp 4))), (qS 22 (.idxS 6 (.tmp 20) (.tmp 21))), (qS 23 (.load 6 true (.tmp 22))), (qS 24 (.call (2 * f_spec_l04OpOK) [(.tmp 23)])), (qS 25 (.pu (.n (.un .not)) [(.tmp 24)]))]) (.cond (.tmp 25) (.seq (.ops [(qS 26 (.buildSl 6 true 0 [(.int .i64 0), (.int .i64 0), (.int .i64 0), (.int .i64 0), (.int .i64 0), (.int .i64 0)] [])), (qS 2 (.mv (.tmp 26))), (qS 3 (.mv (ic 1)))]) .ret) .skip))) (.ops [(qS 18 (.mv (.tmp 4))), (qS 19 (.pu (.n (.ar .add)) [(.tmp 18), (ic 1)])), (qS 4 (.mv (.tmp 19)))])))))) (.seq (.ops [(qS 27 (.mv (.tmp 0))), (qS 28 (.call (2 * f_spec_l04Sort) [(.tmp 27)])), (qS 5 (.mv (.tmp 28)))]) (.seq (.ops [(qS 29 (.buildSl 6 true 0 [(.int .i64 0), (.int .i64 0), (.int .i64 0), (.int .i64 0), (.int .i64 0), (.int .i64 0)] [])), (qS 6 (.mv (.tmp 29)))]) (.seq (.seq (.ops [(qS 7 (.mv (ic 0)))]) (.block 2 (.loop (.seq (.seq (.ops [(qS 30 (.mv (.tmp 7))), (qS 31 (.mv (.tmp 5))), (qS 32 (.len (.tmp 31))), (qS 33 (.pu (.n (.ar .lss)) [(.tmp 30), (.tmp 32)]))]) (.cond (.tmp 33) .skip (.exit 2))) (.seq (.block 3 (.seq (.ops [(qS 36 (.mv (.tmp 6))), (qS 37 (.len (.tmp 36))), (qS 8 (.mv (.tmp 37)))]) (.seq (.seq (.ops [(qS 38 (.mv (.tmp 8))), (qS 39 (.pu (.n (.ar .gtr)) [(.tmp 38), (ic 0)])), (qS 40 (.mv (.tmp 39))), ⟨(.some 41), (.mv (.tmp 6)), (.some (40, true)), [], .none⟩, ⟨(.some 42), (.mv (.tmp 8)), (.some (40, true)), [], .none⟩, ⟨(.some 43), (.pu (.n (.ar .sub)) [(.tmp 42), (ic 1)]), (.some (40, true)), [], .none⟩, ⟨(.some 44), (.idxS 6 (.tmp 41) (.tmp 43)), (.some (40, true)), [], .none⟩, ⟨(.some 45), (.fieldA 2 (.tmp 44)), (.some (40, true)), [], .none⟩, ⟨(.some 46), (.load 2 true (.tmp 45)), (.some (40, true)), [], .none⟩, ⟨(.some 47), (.mv (.tmp 5)), (.some (40, true)), [], .none⟩, ⟨(.some 48), (.mv (.tmp 7)), (.some (40, true)), [], .none⟩, ⟨(.some 49), (.idxS 6 (.tmp 47) (.tmp 48)), (.some (40, true)), [], .none⟩, ⟨(.some 50), (.fieldA 2 (.tmp 49)), (.some (40, true)), [], .none⟩, ⟨(.some 51), (.load 2 true (.tmp 50)), (.some (40, true)), [], .none⟩, ⟨(.some 52), (.aeq false [(.int .i64), (.int .i64)] (.tmp 46) (.tmp 51)), (.some (40, true)), [], .none⟩, (qS 53 (.pick (.tmp 40) (.tmp 52) (.const (.bool false))))]) (.cond (.tmp 53) (.seq (.seq (.ops [(qS 54 (.mv (.tmp 6))), (qS 55 (.mv (.tmp 8))), (qS 56 (.pu (.n (.ar .sub)) [(.tmp 55), (ic 1)])), (qS 57 (.idxS 6 (.tmp 54) (.tmp 56))), (qS 58 (.load 6 true (.tmp 57))), (qS 59 (.mv (.tmp 5))), (qS 60 (.mv (.tmp 7))), (qS 61 (.idxS 6 (.tmp 59) (.tmp 60))), (qS 62 (.load 6 true (.tmp 61))), (qS 63 (.aeq true [(.int .i64), (.int .i64), (.int .i64), (.int .i64), (.int .i64), (.int .i64)] (.tmp 58) (.tmp 62)))]) (.cond (.tmp 63) (.seq (.ops [(qS 64 (.buildSl 6 true 0 [(.int .i64 0), (.int .i64 0), (.int .i64 0), (.int .i64 0), (.int .i64 0), (.int .i64 0)] [])), (qS 2 (.mv (.tmp 64))), (qS 3 (.mv (ic 16)))]) .ret) .skip)) (.exit 3)) .skip)) (.ops [(qS 65 (.mv (.tmp 6))), (qS 66 (.mv (.tmp 5))), (qS 67 (.mv (.tmp 7))), (qS 68 (.idxS 6 (.tmp 66) (.tmp 67))), (qS 69 (.load 6 true (.tmp 68))), (qS 70 (.buildSl 6 true 1 [(.int .i64 0), (.int .i64 0), (.int .i64 0), (.int .i64 0), (.int .i64 0), (.int .i64 0)] [(0, (.tmp 69))])), (qS 71 (.append 6 true 48 (.tmp 65) (.tmp 70))), (qS 6 (.mv (.tmp 71)))])))) (.ops [(qS 34 (.mv (.tmp 7))), (qS 35 (.pu (.n (.ar .add)) [(.tmp 34), (ic 1)])), (qS 7 (.mv (.tmp 35)))])))))) (.seq (.seq (.ops [(qS 9 (.mv (ic 0)))]) (.block 4 (.loop (.seq (.seq (.ops [(qS 72 (.mv (.tmp 9))), (qS 73 (.mv (.tmp 6))), (qS 74 (.len (.tmp 73))), (qS 75 (.pu (.n (.ar .lss)) [(.tmp 72), (.tmp 74)]))]) (.cond (.tmp 75) .skip (.exit 4))) (.seq (.block 5 (.seq (.ops [(qS 78 (.mv (.tmp 6))), (qS 79 (.mv (.tmp 9))), (qS 80 (.idxS 6 (.tmp 78) (.tmp 79))), (qS 81 (.fieldA 4 (.tmp 80))), (qS 82 (.load 2 true (.tmp 81))), (qS 83 (.call (2 * f_spec_l02None) [(.tmp 82)])), (qS 84 (.pu (.n (.un .not)) [(.tmp 83)])), (qS 85 (.mv (.tmp 84))), ⟨(.some 86), (.mv (.tmp 6)), (.some (85, true)), [], .none⟩, ⟨(.some 87), (.mv (.tmp 6)), (.some (85, true)), [], .none⟩, ⟨(.some 88), (.mv (.tmp 9)), (.some (85, true)), [], .none⟩, ⟨(.some 89), (.idxS 6 (.tmp 87) (.tmp 88)), (.some (85, true)), [], .none⟩, ⟨(.some 90), (.fieldA 4 (.tmp 89)), (.some (85, true)), [], .none⟩, ⟨(.some 91), (.load 2 true (.tmp 90)), (.some (85, true)), [], .none⟩, ⟨(.some 92), (.call (2 * f_spec_l04Has) [(.tmp 86), (.tmp 91)]), (.some (85, true)), [], .none⟩, ⟨(.some 93), (.pu (.n (.un .not)) [(.tmp 92)]), (.some (85, true)), [], .none⟩, (qS 94 (.pick (.tmp 85) (.tmp 93) (.const (.bool false))))]) (.cond (.tmp 94) (.seq (.ops [(qS 95 (.buildSl 6 true 0 [(.int .i64 0), (.int .i64 0), (.int .i64 0), (.int .i64 0), (.int .i64 0), (.int .i64 0)] [])), (qS 2 (.mv (.tmp 95))), (qS 3 (.mv (ic 5)))]) .ret) .skip))) (.ops [(qS 76 (.mv (.tmp 9))), (qS 77 (.pu (.n (.ar .add)) [(.tmp 76), (ic 1)])), (qS 9 (.mv (.tmp 77)))])))))) (.seq (.ops [(qS 96 (.mv (.tmp 6))), (qS 2 (.mv (.tmp 96))), (qS 3 (.mv (ic 0)))]) .ret)))))))), [(.tmp 2), (.tmp 3)]⟩
set_option maxHeartbeats 10000000 in
theorem d_spec_l04Clean {P : Program} {env : Env} {f_spec_l04OpOK : Nat} {f_spec_l04Sort : Nat} {f_spec_l02None : Nat} {f_spec_l04Has : Nat}  (ep_spec_l04OpOK : env (2 * f_spec_l04OpOK) = pureFn true (FA fun a : TLOp => p_spec_l04OpOK a)) (ep_spec_l04Sort : env (2 * f_spec_l04Sort) = pureFn true (FA fun a : List TLOp => p_spec_l04Sort a)) (ep_spec_l02None : env (2 * f_spec_l02None) = pureFn true (FA fun a : TStamp => p_spec_l02None a)) (ep_spec_l04Has : env (2 * f_spec_l04Has) = pureFn true (FA fun a : List TLOp × TStamp => p_spec_l04Has a.1 a.2)) (x0 : List TLOp) {b : T2 (List TLOp) Int} (hp : p_spec_l04Clean x0 = some b) : R P env (c_spec_l04Clean f_spec_l04OpOK f_spec_l04Sort f_spec_l02None f_spec_l04Has) ((encA (x0)).map ofI) [] (Tells true b) := by
  refine R_of (by simp [c_spec_l04Clean, encA]) ?_
  have E := And.intro ep_spec_l04OpOK (And.intro ep_spec_l04Sort (And.intro ep_spec_l02None ep_spec_l04Has))
  unfold c_spec_l04Clean
  unfold p_spec_l04Clean at hp
  by_cases hb0 : (decide (2048 < (x0.length : Int))) = true
  · rw [if_t hb0] at hp
    have hp := Option.some.inj hp
    subst hp
    simp (maxSteps := 2000000) (disch := first|omega|(simp only[ls];first|done|omega)) only [E, hb0, gm]
  · replace hb0 := eq_false_of_ne_true hb0
    rw [if_f hb0] at hp
    obtain ⟨ee0, hee0, hp⟩ := bind_eq hp
    simp (maxSteps := 2000000) (disch := first|omega|(simp only[ls];first|done|omega)) only [E, hb0, gm]
    refine W_loopP 0 (fun s t h => match s with | s1 => t 0 = .i (.sl 6 (x0.map enc)) ∧ t 4 = .i (.s (.int .i64 s1))) (RK [.tmp 2, .tmp 3] (Tells true)) ?_ hee0 ?_ ?_
    · rintro s1 ee tt0 hh0 ⟨ftt0_0, ftt0_1⟩ hp
      rw [p_spec_l04Clean_l0] at hp
      by_cases hb2 : (decide (s1 < (x0.length : Int))) = true
      · rw [if_t hb2] at hp
        obtain ⟨v3, hv3, hp⟩ := bind_eq hp
        obtain ⟨v4, hv4, hp⟩ := bind_eq hp
        by_cases hb5 : (v4) = true
        · rw [if_t hb5] at hp
          have hp := Option.some.inj hp
          subst hp
          simp (maxSteps := 2000000) (disch := first|omega|(simp only[ls];first|done|omega)) only [E, hb0, ftt0_0, ftt0_1, hb2, hv3, hv4, hb5, gm] <;> omega
        · replace hb5 := eq_false_of_ne_true hb5
          rw [if_f hb5] at hp
          have hp := Option.some.inj hp
          subst hp
          simp (maxSteps := 2000000) (disch := first|omega|(simp only[ls];first|done|omega)) only [E, hb0, ftt0_0, ftt0_1, hb2, hv3, hv4, hb5, gm]
      · replace hb2 := eq_false_of_ne_true hb2
        rw [if_f hb2] at hp
        have hp := Option.some.inj hp
        subst hp
        simp (maxSteps := 2000000) (disch := first|omega|(simp only[ls];first|done|omega)) only [E, hb0, ftt0_0, ftt0_1, hb2, gm] <;> omega
    · simp (maxSteps := 2000000) (disch := first|omega|(simp only[ls];first|done|omega)) only [E, hb0, gm] <;> omega
    · intro x tt1 hh1 hx
      rcases ee0 with o6 | r
      · obtain ⟨rfl, ftt1_0, ftt1_1⟩ := hx
        dsimp only at hp
        obtain ⟨v7, hv7, hp⟩ := bind_eq hp
        obtain ⟨ee1, hee1, hp⟩ := bind_eq hp
        simp (maxSteps := 2000000) (disch := first|omega|(simp only[ls];first|done|omega)) only [E, hb0, ftt1_0, ftt1_1, hv7, gm]
        refine W_loopP 2 (fun s t h => match s with | (s8, s9) => t 5 = .i (.sl 6 (v7.map enc)) ∧ t 6 = .hsl hh1.length (s8.length * 6) 0 6 true s8.length ∧ t 7 = .i (.s (.int .i64 s9)) ∧ getCells h hh1.length (s8.length * 6) = some (rows (s8 : List TLOp)) ∧ hh1.length < h.length) (RK [.tmp 2, .tmp 3] (Tells true)) ?_ hee1 ?_ ?_
        · rintro ⟨s8, s9⟩ ee tt2 hh2 ⟨ftt2_0, ftt2_1, ftt2_2, ftt2_3, ftt2_4⟩ hp
          rw [p_spec_l04Clean_l1] at hp
          by_cases hb10 : (decide (s9 < (v7.length : Int))) = true
          · rw [if_t hb10] at hp
            by_cases hb11 : (decide (0 < (s8.length : Int))) = true
            · rw [if_t hb11] at hp
              obtain ⟨v12, hv12, hp⟩ := bind_eq hp
              have gv12 := get_some hv12
              have hl13 : List.take 2 (List.drop (((w64 ((s8.length : Int) - 1)).toNat) * 6 + 2) (rows s8)) = [.i (.s (.int .i64 v12.id.time)), .i (.s (.int .i64 v12.id.actor))] := by simpa [zs, cellsV, I.cells, enc_TLOp] using rows_get_off (k := 2) (m := 2) gv12.2.2 (Nat.le_of_ble_eq_true rfl)
              obtain ⟨v14, hv14, hp⟩ := bind_eq hp
              by_cases hb15 : ((decide (v12.id.time = v14.id.time) && decide (v12.id.actor = v14.id.actor))) = true
              · rw [if_t hb15] at hp
                have hl16 : List.take 6 (List.drop (((w64 ((s8.length : Int) - 1)).toNat) * 6) (rows s8)) = [.i (.s (.int .i64 v12.kind)), .i (.s (.int .i64 v12.char)), .i (.s (.int .i64 v12.id.time)), .i (.s (.int .i64 v12.id.actor)), .i (.s (.int .i64 v12.at_.time)), .i (.s (.int .i64 v12.at_.actor))] := by simpa [zs, cellsV, I.cells, enc_TLOp] using rows_get_off (k := 0) (m := 6) gv12.2.2 (Nat.le_of_ble_eq_true rfl)
                by_cases hb17 : ((decide (v12.kind = v14.kind) && (decide (v12.char = v14.char) && (decide (v12.id.time = v14.id.time) && (decide (v12.id.actor = v14.id.actor) && (decide (v12.at_.time = v14.at_.time) && decide (v12.at_.actor = v14.at_.actor))))))) = true
                · rw [if_t hb17] at hp
                  have hp := Option.some.inj hp
                  subst hp
                  simp (maxSteps := 2000000) (disch := first|omega|(simp only[ls];first|done|omega)) only [E, hb0, ftt1_0, ftt1_1, hv7, ftt2_0, ftt2_1, ftt2_2, ftt2_3, ftt2_4, hb10, hb11, hv12, (gv12).1, (gv12).2.1, hl13, hv14, hb15, hl16, hb17, gm] <;> omega
                · replace hb17 := eq_false_of_ne_true hb17
                  rw [if_f hb17] at hp
                  have hp := Option.some.inj hp
                  subst hp
                  simp (maxSteps := 2000000) (disch := first|omega|(simp only[ls];first|done|omega)) only [E, hb0, ftt1_0, ftt1_1, hv7, ftt2_0, ftt2_1, ftt2_2, ftt2_3, ftt2_4, hb10, hb11, hv12, (gv12).1, (gv12).2.1, hl13, hv14, hb15, hl16, hb17, gm]
              · replace hb15 := eq_false_of_ne_true hb15
                rw [if_f hb15] at hp
                obtain ⟨v18, hv18, hp⟩ := bind_eq hp
                obtain ⟨kv18, qv18, lv18⟩ := app_some hv18
                have rv18 : rows s8 ++ [.i (.s (.int .i64 v14.kind)), .i (.s (.int .i64 v14.char)), .i (.s (.int .i64 v14.id.time)), .i (.s (.int .i64 v14.id.actor)), .i (.s (.int .i64 v14.at_.time)), .i (.s (.int .i64 v14.at_.actor))] = rows v18 := by rw [qv18, rows_append]; rfl
                have mv18 : s8.length + 1 = v18.length := by simp at lv18; omega
                have nv18 : (s8.length + 1) * 48 ≤ 140737488355328 := by simp at kv18; omega
                have hp := Option.some.inj hp
                subst hp
                simp (maxSteps := 2000000) (disch := first|omega|(simp only[ls];first|done|omega)) only [E, hb0, ftt1_0, ftt1_1, hv7, ftt2_0, ftt2_1, ftt2_2, ftt2_3, ftt2_4, hb10, hb11, hv12, (gv12).1, (gv12).2.1, hl13, hv14, hb15, hv18, rv18, nv18, gm] <;> omega
            · replace hb11 := eq_false_of_ne_true hb11
              rw [if_f hb11] at hp
              obtain ⟨v19, hv19, hp⟩ := bind_eq hp
              obtain ⟨v20, hv20, hp⟩ := bind_eq hp
              obtain ⟨kv20, qv20, lv20⟩ := app_some hv20
              have rv20 : rows s8 ++ [.i (.s (.int .i64 v19.kind)), .i (.s (.int .i64 v19.char)), .i (.s (.int .i64 v19.id.time)), .i (.s (.int .i64 v19.id.actor)), .i (.s (.int .i64 v19.at_.time)), .i (.s (.int .i64 v19.at_.actor))] = rows v20 := by rw [qv20, rows_append]; rfl
              have mv20 : s8.length + 1 = v20.length := by simp at lv20; omega
              have nv20 : (s8.length + 1) * 48 ≤ 140737488355328 := by simp at kv20; omega
              have hp := Option.some.inj hp
              subst hp
              simp (maxSteps := 2000000) (disch := first|omega|(simp only[ls];first|done|omega)) only [E, hb0, ftt1_0, ftt1_1, hv7, ftt2_0, ftt2_1, ftt2_2, ftt2_3, ftt2_4, hb10, hb11, hv19, hv20, rv20, nv20, gm] <;> omega
          · replace hb10 := eq_false_of_ne_true hb10
            rw [if_f hb10] at hp
            have hp := Option.some.inj hp
            subst hp
            simp (maxSteps := 2000000) (disch := first|omega|(simp only[ls];first|done|omega)) only [E, hb0, ftt1_0, ftt1_1, hv7, ftt2_0, ftt2_1, ftt2_2, ftt2_3, ftt2_4, hb10, gm] <;> omega
        · simp (maxSteps := 2000000) (disch := first|omega|(simp only[ls];first|done|omega)) only [E, hb0, ftt1_0, ftt1_1, hv7, gm] <;> omega
        · intro x tt3 hh3 hx
          rcases ee1 with ⟨o21, o22⟩ | r
          · obtain ⟨rfl, ftt3_0, ftt3_1, ftt3_2, ftt3_3, ftt3_4⟩ := hx
            dsimp only at hp
            obtain ⟨ee2, hee2, hp⟩ := bind_eq hp
            simp (maxSteps := 2000000) (disch := first|omega|(simp only[ls];first|done|omega)) only [E, hb0, ftt1_0, ftt1_1, hv7, ftt3_0, ftt3_1, ftt3_2, ftt3_3, ftt3_4, gm]
            refine W_loopP 4 (fun s t h => match s with | s23 => t 6 = .hsl hh1.length (o21.length * 6) 0 6 true o21.length ∧ t 9 = .i (.s (.int .i64 s23)) ∧ getCells h hh1.length (o21.length * 6) = some (rows (o21 : List TLOp)) ∧ hh1.length < h.length) (RK [.tmp 2, .tmp 3] (Tells true)) ?_ hee2 ?_ ?_
            · rintro s23 ee tt4 hh4 ⟨ftt4_0, ftt4_1, ftt4_2, ftt4_3⟩ hp
              rw [p_spec_l04Clean_l2] at hp
              by_cases hb24 : (decide (s23 < (o21.length : Int))) = true
              · rw [if_t hb24] at hp
                obtain ⟨v25, hv25, hp⟩ := bind_eq hp
                have gv25 := get_some hv25
                have hl26 : List.take 2 (List.drop (s23.toNat * 6 + 4) (rows o21)) = [.i (.s (.int .i64 v25.at_.time)), .i (.s (.int .i64 v25.at_.actor))] := by simpa [zs, cellsV, I.cells, enc_TLOp] using rows_get_off (k := 4) (m := 2) gv25.2.2 (Nat.le_of_ble_eq_true rfl)
                obtain ⟨v27, hv27, hp⟩ := bind_eq hp
                by_cases hb28 : (v27) = true
                · rw [if_t hb28] at hp
                  have hp := Option.some.inj hp
                  subst hp
                  simp (maxSteps := 2000000) (disch := first|omega|(simp only[ls];first|done|omega)) only [E, hb0, ftt1_0, ftt1_1, hv7, ftt3_0, ftt3_1, ftt3_2, ftt3_3, ftt3_4, ftt4_0, ftt4_1, ftt4_2, ftt4_3, hb24, hv25, (gv25).1, (gv25).2.1, hl26, hv27, hb28, gm] <;> omega
                · replace hb28 := eq_false_of_ne_true hb28
                  rw [if_f hb28] at hp
                  have hl29 : List.take 2 (List.drop (s23.toNat * 6 + 4) (rows o21)) = [.i (.s (.int .i64 v25.at_.time)), .i (.s (.int .i64 v25.at_.actor))] := by simpa [zs, cellsV, I.cells, enc_TLOp] using rows_get_off (k := 4) (m := 2) gv25.2.2 (Nat.le_of_ble_eq_true rfl)
                  obtain ⟨v30, hv30, hp⟩ := bind_eq hp
                  by_cases hb31 : (v30) = true
                  · rw [if_t hb31] at hp
                    have hp := Option.some.inj hp
                    subst hp
                    simp (maxSteps := 2000000) (disch := first|omega|(simp only[ls];first|done|omega)) only [E, hb0, ftt1_0, ftt1_1, hv7, ftt3_0, ftt3_1, ftt3_2, ftt3_3, ftt3_4, ftt4_0, ftt4_1, ftt4_2, ftt4_3, hb24, hv25, (gv25).1, (gv25).2.1, hl26, hv27, hb28, hl29, hv30, hb31, gm] <;> omega
                  · replace hb31 := eq_false_of_ne_true hb31
                    rw [if_f hb31] at hp
                    have hp := Option.some.inj hp
                    subst hp
                    simp (maxSteps := 2000000) (disch := first|omega|(simp only[ls];first|done|omega)) only [E, hb0, ftt1_0, ftt1_1, hv7, ftt3_0, ftt3_1, ftt3_2, ftt3_3, ftt3_4, ftt4_0, ftt4_1, ftt4_2, ftt4_3, hb24, hv25, (gv25).1, (gv25).2.1, hl26, hv27, hb28, hl29, hv30, hb31, gm]
              · replace hb24 := eq_false_of_ne_true hb24
                rw [if_f hb24] at hp
                have hp := Option.some.inj hp
                subst hp
                simp (maxSteps := 2000000) (disch := first|omega|(simp only[ls];first|done|omega)) only [E, hb0, ftt1_0, ftt1_1, hv7, ftt3_0, ftt3_1, ftt3_2, ftt3_3, ftt3_4, ftt4_0, ftt4_1, ftt4_2, ftt4_3, hb24, gm] <;> omega
            · simp (maxSteps := 2000000) (disch := first|omega|(simp only[ls];first|done|omega)) only [E, hb0, ftt1_0, ftt1_1, hv7, ftt3_0, ftt3_1, ftt3_2, ftt3_3, ftt3_4, gm] <;> omega
            · intro x tt5 hh5 hx
              rcases ee2 with o32 | r
              · obtain ⟨rfl, ftt5_0, ftt5_1, ftt5_2, ftt5_3⟩ := hx
                dsimp only at hp
                have hp := Option.some.inj hp
                subst hp
                simp (maxSteps := 2000000) (disch := first|omega|(simp only[ls];first|done|omega)) only [E, hb0, ftt1_0, ftt1_1, hv7, ftt3_0, ftt3_1, ftt3_2, ftt3_3, ftt3_4, ftt5_0, ftt5_1, ftt5_2, ftt5_3, gm]
              · obtain ⟨rfl, hx⟩ := hx
                dsimp only at hp
                cases hp
                simp only [seqK_ret, blockK_ret, retK_RK (K := Tells true), hx, and_self, true_and]
          · obtain ⟨rfl, hx⟩ := hx
            dsimp only at hp
            cases hp
            simp only [seqK_ret, blockK_ret, retK_RK (K := Tells true), hx, and_self, true_and]
      · obtain ⟨rfl, hx⟩ := hx
        dsimp only at hp
        cases hp
        simp only [seqK_ret, blockK_ret, retK_RK (K := Tells true), hx, and_self, true_and]

end Go.AM

set_option linter.unusedVariables false
set_option linter.unusedSimpArgs false
set_option maxRecDepth 20000
namespace Go.AM
open Pic (enc dec dec_enc dec_sub)
open PicA (encA decA decA_encA decA_sub)

theorem q_stOKl (x : TStamp) : p_impl_StampOK x = some (stOK x) := by
  unfold p_impl_StampOK p_impl_isActor stOK
  simp only [decide_eq_true_eq]
  repeat' split
  all_goals simp only [Option.bind_some, Option.some.injEq]
  all_goals (symm; first | (rw [decide_eq_false_iff_not]; omega) | (apply decide_eq_decide.2; omega))
theorem q_lessl (x y : TStamp) : p_impl_StampLess x y = some (ltS x y) := by
  unfold p_impl_StampLess ltS
  simp only [decide_eq_true_eq]
  repeat' split
  all_goals (simp only [Option.some.injEq]; symm; first | (rw [decide_eq_false_iff_not]; omega) | (rw [decide_eq_true_eq]; omega) | (apply decide_eq_decide.2; omega))
theorem q_chOK (c : Int) : p_impl_charOK c = some (chOK c) := by
  unfold p_impl_charOK chOK
  simp only [decide_eq_true_eq]
  repeat' split
  all_goals (simp only [Option.some.injEq]; symm; first | (rw [decide_eq_false_iff_not]; omega) | (rw [decide_eq_true_eq]; omega) | (apply decide_eq_decide.2; omega))
theorem st0_iff {s : TStamp} : (decide (s.time = 0) && decide (s.actor = 0)) = decide (s = ⟨0, 0⟩) := by
  cases s
  rw [← Bool.decide_and]
  apply decide_eq_decide.2
  simp
theorem q_lopK (x : TLOp) : p_impl_lopOK x = some (lopK x) := by
  unfold p_impl_lopOK lopK
  simp only [q_stOKl, q_lessl, q_chOK, Option.bind_some, st0_iff, decide_eq_true_eq]
  cases stOK x.id <;> cases stOK x.at_ <;> cases ltS x.at_ x.id <;> cases chOK x.char <;> by_cases h1 : x.kind = 1 <;> by_cases h2 : x.kind = 2 <;> by_cases h3 : x.char = 0 <;> simp [h1, h2, h3]

noncomputable def p_impl_readList_1 (x0 x1 : Int) (x2 : PtrL TLOp) : Option Bool := (get? x2.l x0).bind fun x => (get? x2.l x1).bind fun y => p_impl_StampLess x.id y.id
theorem enc_plL {p : PtrL TLOp} : enc p = .ip [.sl 6 (p.l.map enc)] := rfl

def c_impl_readList_1 (f_impl_StampLess : Nat) : AFn := ⟨17, (.seq (.ops [(qS 5 (.mv (.const (.bool false))))]) (.seq (.ops [(qS 6 (.load 1 false (.tmp 2))), (qS 7 (.mv (.tmp 0))), (qS 8 (.idxS 6 (.tmp 6) (.tmp 7))), (qS 9 (.fieldA 2 (.tmp 8))), (qS 10 (.load 2 true (.tmp 9))), (qS 11 (.load 1 false (.tmp 2))), (qS 12 (.mv (.tmp 1))), (qS 13 (.idxS 6 (.tmp 11) (.tmp 12))), (qS 14 (.fieldA 2 (.tmp 13))), (qS 15 (.load 2 true (.tmp 14))), (qS 16 (.call (2 * f_impl_StampLess) [(.tmp 10), (.tmp 15)])), (qS 5 (.mv (.tmp 16)))]) .ret)), [(.tmp 5)]⟩

theorem d_impl_readList_1 {P : Program} {env : Env} {f_impl_StampLess : Nat} (ep_impl_StampLess : env (2 * f_impl_StampLess) = pureFn true (FA fun a : TStamp × TStamp => p_impl_StampLess a.1 a.2)) (x0 x1 : Int) (x2 : PtrL TLOp) {b : Bool} (hp : p_impl_readList_1 x0 x1 x2 = some b) : R P env (c_impl_readList_1 f_impl_StampLess) ((encA (x0, x1, x2)).map ofI) [] (Tells true b) := by
  refine R_of (by simp [c_impl_readList_1, encA]) ?_
  unfold c_impl_readList_1
  obtain ⟨x, h1, hp⟩ := Option.bind_eq_some_iff.1 hp
  obtain ⟨y, h2, hp⟩ := Option.bind_eq_some_iff.1 hp
  simp (maxSteps := 2000000) (disch := omega) only [gw, Nat.reduceAdd, Nat.reduceMul, enc_plL, h1, h2, enc_TLOp, ep_impl_StampLess, hp]
theorem less_lop (l : List TLOp) (i j : Int) (x y : TLOp) (h1 : get? l i = some x) (h2 : get? l j = some y) : p_impl_readList_1 i j ⟨l⟩ = some (ltK TLOp.id x y) := by
  unfold p_impl_readList_1
  rw [h1, Option.bind_some, h2, Option.bind_some, q_lessl]
def lopS : Scal TLOp where
  encS x := [.int .i64 x.kind, .int .i64 x.char, .int .i64 x.id.time, .int .i64 x.id.actor, .int .i64 x.at_.time, .int .i64 x.at_.actor]
  hE _ := rfl
  hz _ := rfl
  hp _ := rfl
  z0 := by decide
end Go.AM

set_option linter.unusedVariables false
set_option linter.unusedSimpArgs false
set_option maxRecDepth 20000
namespace Go.AM
open Pic (enc dec dec_enc dec_sub)
open PicA (encA decA decA_encA decA_sub)

/-- One more in a list of one's own. -/
theorem OwnV.push {α : Type} [Pic α] {z y T : Nat} {h : Heap} {v : V} {xs : List α} (o : OwnV z T h v xs) (hz : z = Pic.z α) (x : α) (hl : (xs.length + 1) * y ≤ 140737488355328) (hT : T < h.length) :
    ∃ v' h', stepAppend none z true y h (cellsV x) 1 v = some (v', h') ∧ OwnV z T h' v' (xs ++ [x]) ∧ (∀ b, b < h.length → (∀ g n, v ≠ .hsl b g 0 z true n) → h'[b]? = h[b]?) ∧ h.length ≤ h'.length ∧
      (∀ b g n, v' = .hsl b g 0 z true n → (∃ g n, v = .hsl b g 0 z true n) ∨ h.length ≤ b) := by
  have hc : (cellsV x).length = z := by rw [cellsV_len, hz]
  rcases o with ⟨rfl, rfl⟩ | ⟨B, h1, rfl, h3⟩
  · rw [app_nil, if_neg (by decide), if_pos (by simpa using hl)]
    refine ⟨_, _, rfl, .inr ⟨h.length, hT, by simp, ?_⟩, fun b hb _ => List.getElem?_append_left hb, by simp, ?_⟩
    · rw [gc_right0, List.nil_append, rows_one]
      show (if (cellsV x).length = ([x].length * z) then some (cellsV x) else none) = _
      rw [List.length_cons, List.length_nil, Nat.zero_add, Nat.one_mul, hc, if_pos rfl]
    · intro b g n e
      cases e
      exact .inr (Nat.le_refl _)
  · have lB := gc_lt h3
    rw [app_hsl, if_pos ⟨.inl rfl, rfl⟩, h3, Option.bind_some, if_neg (by decide), if_pos hl, if_pos rfl]
    refine ⟨_, _, rfl, .inr ⟨B, h1, ?_, ?_⟩, ?_, by simp, ?_⟩
    · rw [List.length_append, List.length_cons, List.length_nil, Nat.add_mul]
    · rw [gc_set_eq lB, rows_append, rows_one, if_pos (by rw [List.length_append, rows_len, hc, hz, List.length_append, Nat.add_mul]; simp)]
    · intro b hb hne
      rw [List.getElem?_set_ne]
      rintro rfl
      exact hne _ _ rfl
    · intro b g n e
      cases e
      exact .inl ⟨_, _, rfl⟩

/-- A list behind its pointer. -/
structure LF (h : Heap) (g p T : Nat) (v u : V) (ops ord : List TLOp) (gone : List TStamp) (pl : List (TStamp × Int)) : Prop where
  tr : getCells h T 4 = some [v, u, .mp g, .mp p]
  lo : OwnV 6 T h v ops
  lr : OwnV 6 T h u ord
  mg : h[g]? = some (.map (gone.map skI) (gone.map fun _ => .i (.s (.bool true))))
  mp : h[p]? = some (.map ((pl.map Prod.fst).map skI) (pl.map fun q => .i (.s (.int .i64 q.2))))
  gT : g < T
  pT : p < T
  gp : g ≠ p
theorem LF.app {h : Heap} {g p T : Nat} {v u : V} {ops ord : List TLOp} {gone : List TStamp} {pl : List (TStamp × Int)} (r : LF h g p T v u ops ord gone pl) (l : Heap) : LF (h ++ l) g p T v u ops ord gone pl :=
  ⟨gc_app r.tr, r.lo.app l, r.lr.app l, by rw [List.getElem?_append_left (List.getElem?_eq_some_iff.1 r.mg).1]; exact r.mg, by rw [List.getElem?_append_left (List.getElem?_eq_some_iff.1 r.mp).1]; exact r.mp, r.gT, r.pT, r.gp⟩
/-- The same where these blocks stand. -/
theorem OwnV.keep {α : Type} [Pic α] {z T : Nat} {h h' : Heap} {v : V} {xs : List α} (o : OwnV z T h v xs) (k : ∀ b g n, v = .hsl b g 0 z true n → h'[b]? = h[b]?) : OwnV z T h' v xs := by
  rcases o with ⟨h1, h2⟩ | ⟨B, h1, h2, h3⟩
  · exact .inl ⟨h1, h2⟩
  · exact .inr ⟨B, h1, h2, (getCells_congr (k B _ _ h2)).trans h3⟩
theorem OwnV.low {α : Type} [Pic α] {z T T' : Nat} {h : Heap} {v : V} {xs : List α} (o : OwnV z T h v xs) (hT : T' ≤ T) : OwnV z T' h v xs := by
  rcases o with ⟨h1, h2⟩ | ⟨B, h1, h2, h3⟩
  · exact .inl ⟨h1, h2⟩
  · exact .inr ⟨B, by omega, h2, h3⟩
theorem OwnV.lt {α : Type} [Pic α] {z T : Nat} {h : Heap} {v : V} {xs : List α} (o : OwnV z T h v xs) : ∀ b g n, v = .hsl b g 0 z true n → b < h.length ∧ T < b := by
  intro b g n e
  rcases o with ⟨h1, h2⟩ | ⟨B, h1, h2, h3⟩
  · rw [h2] at e; cases e
  · rw [h2] at e
    cases e
    exact ⟨gc_lt h3, h1⟩
theorem OwnV.src {α : Type} [Pic α] {z T : Nat} {h : Heap} {v : V} {xs : List α} (o : OwnV z T h v xs) (hz : z = Pic.z α) : srcCells h v = some (rows xs) ∧ lenV v = some xs.length := by
  rcases o with ⟨rfl, rfl⟩ | ⟨B, h1, rfl, h3⟩
  · exact ⟨rfl, rfl⟩
  · refine ⟨?_, rfl⟩
    rw [src_hsl, h3, Option.map_some, List.drop_zero, take_rows (by rw [rows_len, hz]; exact Nat.le_refl _)]
theorem OwnV.len {α : Type} [Pic α] {z T : Nat} {h : Heap} {v : V} {xs : List α} (o : OwnV z T h v xs) : lenS v = some xs.length := by
  rcases o with ⟨rfl, rfl⟩ | ⟨B, h1, rfl, h3⟩
  · rfl
  · rfl

theorem OwnV.one {α : Type} [Pic α] {z T : Nat} {h : Heap} {v : V} {xs : List α} (o : OwnV z T h v xs) : v.cells = [v] ∧ V.one v = true := by
  rcases o with ⟨rfl, rfl⟩ | ⟨B, h1, rfl, h3⟩
  · exact ⟨rfl, rfl⟩
  · exact ⟨rfl, rfl⟩

/-- Who follows whom, in a map of one's own: m. -/
structure KF (h : Heap) (m : Nat) (ks : List TStamp) (ls : List (List TLOp)) (vs : List V) : Prop where
  mp : h[m]? = some (.map (ks.map skI) vs)
  l1 : vs.length = ls.length
  l2 : ks.length = ls.length
  at_ : ∀ (i : Nat) (v : V) (l : List TLOp), vs[i]? = some v → ls[i]? = some l → OwnV 6 m h v l
  dis : ∀ i j x a n b k : Nat, i ≠ j → vs[i]? = some (.hsl x a 0 6 true n) → vs[j]? = some (.hsl x b 0 6 true k) → False
theorem KF.keep {h h' : Heap} {m : Nat} {ks : List TStamp} {ls : List (List TLOp)} {vs : List V} (r : KF h m ks ls vs) (k : ∀ b, m ≤ b → b < h.length → h'[b]? = h[b]?) : KF h' m ks ls vs :=
  ⟨(k m (Nat.le_refl _) (List.getElem?_eq_some_iff.1 r.mp).1).trans r.mp, r.l1, r.l2, fun i v l h1 h2 => (r.at_ i v l h1 h2).keep fun b g n e => k b (by have := (r.at_ i v l h1 h2).lt b g n e; omega) ((r.at_ i v l h1 h2).lt b g n e).1, r.dis⟩
/-- What a look-up among them shows. -/
theorem KF.look {h : Heap} {m : Nat} {ks : List TStamp} {ls : List (List TLOp)} {vs : List V} (r : KF h m ks ls vs) (k : TStamp) : ∃ v, lookV false [.slice none 0 0] vs (idxK ks k) = some v ∧ OwnV 6 m h v (kidsK ks ls k) := by
  unfold kidsK
  cases e : idxK ks k with
  | none => exact ⟨_, rfl, .inl ⟨rfl, rfl⟩⟩
  | some j =>
    have h1 := (List.getElem?_eq_some_iff.1 (idxK_lt e)).1
    have h2 : j < vs.length := by rw [r.l1, ← r.l2]; exact h1
    have h3 : j < ls.length := by rw [← r.l2]; exact h1
    refine ⟨vs[j], by simp [lookV, h2], ?_⟩
    have := r.at_ j vs[j] ls[j] (List.getElem?_eq_getElem h2) (List.getElem?_eq_getElem h3)
    simpa [h3] using this
end Go.AM

set_option linter.unusedVariables false
set_option linter.unusedSimpArgs false
set_option maxRecDepth 20000
namespace Go.AM
open Pic (enc dec dec_enc dec_sub)
open PicA (encA decA decA_encA decA_sub)

/-- Midway. -/
structure WI (h0 h : Heap) (g p T N : Nat) (v u : V) (ord : List TLOp) (pl : List (TStamp × Int)) : Prop where
  fr : ∀ x, x < N → x ≠ T → x ≠ p → h[x]? = h0[x]?
  nl : N ≤ h.length
  tr : getCells h T 4 = some [v, u, .mp g, .mp p]
  mp : h[p]? = some (.map ((pl.map Prod.fst).map skI) (pl.map fun q => .i (.s (.int .i64 q.2))))
  lr : OwnV 6 (N - 1) h u ord
theorem WI.app {h0 h : Heap} {g p T N : Nat} {v u : V} {ord : List TLOp} {pl : List (TStamp × Int)} (r : WI h0 h g p T N v u ord pl) (l : Heap) : WI h0 (h ++ l) g p T N v u ord pl :=
  ⟨fun x h1 h2 h3 => (List.getElem?_append_left (Nat.lt_of_lt_of_le h1 r.nl)).trans (r.fr x h1 h2 h3), by rw [List.length_append]; have := r.nl; omega, gc_app r.tr, by rw [List.getElem?_append_left (List.getElem?_eq_some_iff.1 r.mp).1]; exact r.mp, r.lr.app l⟩
theorem WI.keep {h0 h h' : Heap} {g p T N B : Nat} {v u : V} {ord : List TLOp} {pl : List (TStamp × Int)} (r : WI h0 h g p T N v u ord pl) (hp : p < T) (hTN : T < N) (hB : N ≤ B) (hu : ∀ b g n, u = .hsl b g 0 6 true n → b ≠ B) (k : ∀ x, x < h.length → x ≠ B → h'[x]? = h[x]?) (hl : h.length ≤ h'.length) : WI h0 h' g p T N v u ord pl := by
  have nl := r.nl
  refine ⟨fun x h1 h2 h3 => (k x (by omega) (by omega)).trans (r.fr x h1 h2 h3), by omega, (getCells_congr (k T (by omega) (by omega))).trans r.tr, (k p (by omega) (by omega)).trans r.mp, r.lr.keep fun b g n e => k b (r.lr.lt b g n e).1 (hu b g n e)⟩
theorem WI.setP {h0 h : Heap} {g p T N : Nat} {v u : V} {ord : List TLOp} {pl pl' : List (TStamp × Int)} (r : WI h0 h g p T N v u ord pl) (hp : p < T) (hTN : T < N) : WI h0 (h.set p (.map ((pl'.map Prod.fst).map skI) (pl'.map fun q => .i (.s (.int .i64 q.2))))) g p T N v u ord pl' := by
  have nl := r.nl
  have k : ∀ (M : Slot) x, x ≠ p → (h.set p M)[x]? = h[x]? := fun M x hx => List.getElem?_set_ne (Ne.symm hx)
  refine ⟨fun x h1 h2 h3 => (k _ x h3).trans (r.fr x h1 h2 h3), by rw [List.length_set]; exact nl, (getCells_congr (k _ T (by omega))).trans r.tr, List.getElem?_set_self (by omega), r.lr.keep fun b g n e => k _ b (by have := (r.lr.lt b g n e).2; omega)⟩
theorem WI.push {h0 h : Heap} {g p T N : Nat} {v u : V} {ord : List TLOp} {pl : List (TStamp × Int)} (r : WI h0 h g p T N v u ord pl) (hp : p < T) (hTN : T < N) (x : TLOp) (hl : ord.length ≤ 1000000) :
    ∃ u' h', stepAppend none 6 true 48 h (cellsV x) 1 u = some (u', h') ∧ getCells h' T 4 = some [v, u, .mp g, .mp p] ∧ WI h0 (h'.set T (.cells [v, u', .mp g, .mp p])) g p T N v u' (ord ++ [x]) pl ∧ (∀ b, b < h.length → b ≠ T → (∀ g n, u ≠ .hsl b g 0 6 true n) → (h'.set T (.cells [v, u', .mp g, .mp p]))[b]? = h[b]?) ∧
      (∀ b g n, u' = .hsl b g 0 6 true n → (∃ g n, u = .hsl b g 0 6 true n) ∨ h.length ≤ b) ∧ h.length ≤ h'.length := by
  have nl := r.nl
  obtain ⟨u', h', e1, e2, e3, e4, e5⟩ := r.lr.push (y := 48) rfl x (by omega) (by omega)
  have hlow : ∀ b, b < N → ∀ g n, u ≠ .hsl b g 0 6 true n := fun b hb g n e => by
    have := (r.lr.lt b g n e).2
    omega
  have kT : ∀ b, b < N → h'[b]? = h[b]? := fun b hb => e3 b (by omega) (hlow b hb)
  have s1 : ∀ (M : Slot) x, x ≠ T → (h'.set T M)[x]? = h'[x]? := fun M x hx => List.getElem?_set_ne (Ne.symm hx)
  have tr' : getCells h' T 4 = some [v, u, .mp g, .mp p] := (getCells_congr (kT T hTN)).trans r.tr
  refine ⟨u', h', e1, tr', ⟨fun x h1 h2 h3 => (s1 _ x h2).trans ((kT x h1).trans (r.fr x h1 h2 h3)), by rw [List.length_set]; omega, set_cells tr' rfl, (s1 _ p (by omega)).trans ((kT p (by omega)).trans r.mp), e2.keep fun b g n e => s1 _ b (by have := (e2.lt b g n e).2; omega)⟩, ?_, e5, e4⟩
  intro b hb hbT hne
  exact (s1 _ b hbT).trans (e3 b hb hne)
/-- The stack. -/
def StV (N : Nat) (h : Heap) (s u : V) (st : List TLOp) : Prop := ∃ (B gg : Nat) (cs : List V), N ≤ B ∧ s = .hsl B gg 0 6 true st.length ∧ getCells h B gg = some cs ∧ cs.take (st.length * 6) = rows st ∧ st.length * 6 ≤ gg ∧ ∀ b g n, u = .hsl b g 0 6 true n → b ≠ B
theorem StV.push {N : Nat} {h : Heap} {B gg : Nat} {u : V} {st : List TLOp} {cs : List V} (b1 : N ≤ B) (b3 : getCells h B gg = some cs) (b4 : cs.take (st.length * 6) = rows st) (b5 : st.length * 6 ≤ gg) (b6 : ∀ b g n, u = .hsl b g 0 6 true n → b ≠ B) (hN : N ≤ h.length) (hu : ∀ b g n, u = .hsl b g 0 6 true n → b < h.length) (ys : List TLOp) (hl : st.length + ys.length ≤ 1000000) :
    ∃ s' h', stepAppend none 6 true 48 h (rows ys) ys.length (.hsl B gg 0 6 true st.length) = some (s', h') ∧ StV N h' s' u (st ++ ys) ∧ (∀ b, b < h.length → b ≠ B → h'[b]? = h[b]?) ∧ h.length ≤ h'.length := by
  have lB := gc_lt b3
  have hcl := getCells_len b3
  rw [app_hsl, if_pos ⟨.inl rfl, rfl⟩, b3, Option.bind_some]
  by_cases h0 : ys.length = 0
  · rw [if_pos h0]
    obtain rfl := List.eq_nil_of_length_eq_zero h0
    exact ⟨_, _, rfl, ⟨B, gg, cs, b1, by rw [List.append_nil], b3, by rw [List.append_nil]; exact b4, by rw [List.append_nil]; exact b5, b6⟩, fun b _ _ => rfl, Nat.le_refl _⟩
  · rw [if_neg h0, if_pos (by omega)]
    have hz : (rows ys).length = ys.length * 6 := by rw [rows_len]; rfl
    have hz2 : (rows st).length = st.length * 6 := by rw [rows_len]; rfl
    by_cases hg : st.length * 6 = gg
    · rw [if_pos hg]
      have hcs : cs = rows st := by rw [← b4, List.take_of_length_le (by omega)]
      refine ⟨_, _, rfl, ⟨B, gg + ys.length * 6, rows (st ++ ys), b1, by rw [List.length_append], ?_, ?_, ?_, b6⟩, fun b _ hb => List.getElem?_set_ne (Ne.symm hb), by simp⟩
      · rw [gc_set_eq lB, hcs, ← rows_append, if_pos (by rw [rows_append, List.length_append]; omega)]
      · exact take_rows (by rw [rows_append, List.length_append, List.length_append]; omega)
      · rw [List.length_append]; omega
    · rw [if_neg hg]
      refine ⟨_, _, rfl, ⟨h.length, (st.length + ys.length) * 6, rows (st ++ ys), hN, ?_, ?_, ?_, ?_, fun b g n e => by have := hu b g n e; omega⟩, ?_, by simp⟩
      · show V.hsl (h.set B .dead).length _ _ _ _ _ = _
        rw [List.length_set, List.length_append]
      · show getCells (h.set B .dead ++ [Slot.cells (cs.take (st.length * 6) ++ rows ys)]) h.length _ = _
        have e : h.length = (h.set B .dead).length := by rw [List.length_set]
        rw [b4, ← rows_append]
        rw [show getCells (h.set B .dead ++ [Slot.cells (rows (st ++ ys))]) h.length ((st.length + ys.length) * 6) = getCells (h.set B .dead ++ [Slot.cells (rows (st ++ ys))]) ((h.set B .dead).length) ((st.length + ys.length) * 6) by rw [List.length_set]]
        rw [gc_right0]
        show (if (rows (st ++ ys)).length = _ then some (rows (st ++ ys)) else none) = _
        rw [if_pos (by rw [rows_append, List.length_append]; omega)]
      · exact take_rows (by rw [rows_append, List.length_append, List.length_append]; omega)
      · rw [List.length_append]; omega
      · intro b hb hbB
        show (h.set B .dead ++ _)[b]? = _
        rw [List.getElem?_append_left (by rw [List.length_set]; exact hb), List.getElem?_set_ne (Ne.symm hbB)]
theorem keysP {pl : List (TStamp × Int)} {k : TStamp} {n : Int} : insK (pl.map Prod.fst) k = (setP pl k n).map Prod.fst := by
  unfold insK setP
  cases e : idxK (pl.map Prod.fst) k with
  | none => simp
  | some j =>
    have := idxK_lt e
    show pl.map Prod.fst = (pl.set j (k, n)).map Prod.fst
    rw [List.map_set]
    apply List.ext_getElem?
    intro i
    rw [List.getElem?_set]
    split
    · rename_i hij
      subst hij
      rw [if_pos (List.getElem?_eq_some_iff.1 this).1, this]
    · rfl
theorem valsP {pl : List (TStamp × Int)} {k : TStamp} {n : Int} : insV (pl.map Prod.fst) (pl.map fun q => V.i (.s (.int .i64 q.2))) k (.i (.s (.int .i64 n))) = (setP pl k n).map fun q => V.i (.s (.int .i64 q.2)) := by
  unfold insV setP
  cases e : idxK (pl.map Prod.fst) k with
  | none => simp
  | some j =>
    simp only [List.map_set]

def c_impl_list_walk : AFn := ⟨53, (.seq (.ops [(qS 5 (.box (.tmp 2)))]) (.seq (.ops [(qS 8 (.mv (.tmp 1))), (qS 9 (.load 2 true (.tmp 5))), (qS 10 (.lookup true [(.int .i64), (.int .i64)] false [(.slice .none 0 0)] false (.tmp 8) (.tmp 9))), (qS 11 (.appendV 6 true 48 (.tmp 10))), (qS 6 (.mv (.tmp 11)))]) (.block 0 (.loop (.seq (.seq (.ops [(qS 12 (.mv (.tmp 6))), (qS 13 (.len (.tmp 12))), (qS 14 (.pu (.n (.ar .gtr)) [(.tmp 13), (ic 0)]))]) (.cond (.tmp 14) .skip (.exit 0))) (.block 1 (.seq (.ops [(qS 15 (.mv (.tmp 6))), (qS 16 (.mv (.tmp 6))), (qS 17 (.len (.tmp 16))), (qS 18 (.pu (.n (.ar .sub)) [(.tmp 17), (ic 1)])), (qS 19 (.idxS 6 (.tmp 15) (.tmp 18))), (qS 20 (.load 6 true (.tmp 19))), (qS 7 (.allocV [(0, false), (0, false), (0, false), (0, false), (0, false), (0, false)] [(.int .i64 0), (.int .i64 0), (.int .i64 0), (.int .i64 0), (.int .i64 0), (.int .i64 0)])), ⟨.none, (.storeV [(0, false), (0, false), (0, false), (0, false), (0, false), (0, false)] 6 (.tmp 7) (.tmp 20)), .none, [], .none⟩]) (.seq (.ops [(qS 21 (.mv (.tmp 6))), (qS 22 (.mv (.tmp 6))), (qS 23 (.len (.tmp 22))), (qS 24 (.pu (.n (.ar .sub)) [(.tmp 23), (ic 1)])), (qS 25 (.slice 6 (.tmp 21) .none (.some (.tmp 24)))), (qS 6 (.mv (.tmp 25)))]) (.seq (.ops [(qS 26 (.mv (.tmp 0))), (qS 27 (.nilChk (.tmp 26))), (qS 28 (.fieldA 3 (.tmp 27))), (qS 29 (.load 1 false (.tmp 28))), (qS 30 (.fieldA 2 (.tmp 7))), (qS 31 (.load 2 true (.tmp 30))), (qS 32 (.mv (.tmp 0))), (qS 33 (.nilChk (.tmp 32))), (qS 34 (.fieldA 1 (.tmp 33))), (qS 35 (.load 1 false (.tmp 34))), (qS 36 (.len (.tmp 35))), ⟨.none, (.mapSet true [(.int .i64), (.int .i64)] (.tmp 29) (.tmp 31) (.tmp 36)), .none, [], .none⟩]) (.seq (.ops [(qS 37 (.mv (.tmp 0))), (qS 38 (.mv (.tmp 0))), (qS 39 (.nilChk (.tmp 38))), (qS 40 (.fieldA 1 (.tmp 39))), (qS 41 (.load 1 false (.tmp 40))), (qS 42 (.load 6 true (.tmp 7))), (qS 43 (.buildSl 6 true 1 [(.int .i64 0), (.int .i64 0), (.int .i64 0), (.int .i64 0), (.int .i64 0), (.int .i64 0)] [(0, (.tmp 42))])), (qS 44 (.append 6 true 48 (.tmp 41) (.tmp 43))), (qS 45 (.nilChk (.tmp 37))), (qS 46 (.fieldA 1 (.tmp 45))), ⟨.none, (.store 1 (.tmp 46) (.tmp 44)), .none, [], .none⟩]) (.ops [(qS 47 (.mv (.tmp 6))), (qS 48 (.mv (.tmp 1))), (qS 49 (.fieldA 2 (.tmp 7))), (qS 50 (.load 2 true (.tmp 49))), (qS 51 (.lookup true [(.int .i64), (.int .i64)] false [(.slice .none 0 0)] false (.tmp 48) (.tmp 50))), (qS 52 (.append 6 true 48 (.tmp 47) (.tmp 51))), (qS 6 (.mv (.tmp 52)))]))))))))))), []⟩

theorem walk_loop {t : Nat → V} {P : Program} {env : Env} {Q : Post} {h0 h : Heap} {g p m T n0 : Nat} {v u s : V} {ops : List TLOp} {gone ks : List TStamp} {ls : List (List TLOp)} {vs : List V} {st ord ordF : List TLOp} {pl plF : List (TStamp × Int)}
    (lf : LF h0 g p T v (.i (.s (.slice none 0 0))) ops [] gone []) (kf : KF h0 m ks ls vs) (hTm : T < m) (wi : WI h0 h g p T h0.length v u ord pl) (sv : StV h0.length h s u st) (g0 : t 0 = .ptr T 4 0) (g1 : t 1 = .mp m) (g6 : t 6 = s) (hw : walkK ks ls n0 st ord pl = some (ordF, plF))
    (hQ : ∀ t' h' u, WI h0 h' g p T h0.length v u ordF plF → Q (.exit 0) t' h') :
    @W P env ⟨(.loop (.seq (.seq (.ops [(qS 12 (.mv (.tmp 6))), (qS 13 (.len (.tmp 12))), (qS 14 (.pu (.n (.ar .gtr)) [(.tmp 13), (ic 0)]))]) (.cond (.tmp 14) .skip (.exit 0))) (.block 1 (.seq (.ops [(qS 15 (.mv (.tmp 6))), (qS 16 (.mv (.tmp 6))), (qS 17 (.len (.tmp 16))), (qS 18 (.pu (.n (.ar .sub)) [(.tmp 17), (ic 1)])), (qS 19 (.idxS 6 (.tmp 15) (.tmp 18))), (qS 20 (.load 6 true (.tmp 19))), (qS 7 (.allocV [(0, false), (0, false), (0, false), (0, false), (0, false), (0, false)] [(.int .i64 0), (.int .i64 0), (.int .i64 0), (.int .i64 0), (.int .i64 0), (.int .i64 0)])), ⟨.none, (.storeV [(0, false), (0, false), (0, false), (0, false), (0, false), (0, false)] 6 (.tmp 7) (.tmp 20)), .none, [], .none⟩]) (.seq (.ops [(qS 21 (.mv (.tmp 6))), (qS 22 (.mv (.tmp 6))), (qS 23 (.len (.tmp 22))), (qS 24 (.pu (.n (.ar .sub)) [(.tmp 23), (ic 1)])), (qS 25 (.slice 6 (.tmp 21) .none (.some (.tmp 24)))), (qS 6 (.mv (.tmp 25)))]) (.seq (.ops [(qS 26 (.mv (.tmp 0))), (qS 27 (.nilChk (.tmp 26))), (qS 28 (.fieldA 3 (.tmp 27))), (qS 29 (.load 1 false (.tmp 28))), (qS 30 (.fieldA 2 (.tmp 7))), (qS 31 (.load 2 true (.tmp 30))), (qS 32 (.mv (.tmp 0))), (qS 33 (.nilChk (.tmp 32))), (qS 34 (.fieldA 1 (.tmp 33))), (qS 35 (.load 1 false (.tmp 34))), (qS 36 (.len (.tmp 35))), ⟨.none, (.mapSet true [(.int .i64), (.int .i64)] (.tmp 29) (.tmp 31) (.tmp 36)), .none, [], .none⟩]) (.seq (.ops [(qS 37 (.mv (.tmp 0))), (qS 38 (.mv (.tmp 0))), (qS 39 (.nilChk (.tmp 38))), (qS 40 (.fieldA 1 (.tmp 39))), (qS 41 (.load 1 false (.tmp 40))), (qS 42 (.load 6 true (.tmp 7))), (qS 43 (.buildSl 6 true 1 [(.int .i64 0), (.int .i64 0), (.int .i64 0), (.int .i64 0), (.int .i64 0), (.int .i64 0)] [(0, (.tmp 42))])), (qS 44 (.append 6 true 48 (.tmp 41) (.tmp 43))), (qS 45 (.nilChk (.tmp 37))), (qS 46 (.fieldA 1 (.tmp 45))), ⟨.none, (.store 1 (.tmp 46) (.tmp 44)), .none, [], .none⟩]) (.ops [(qS 47 (.mv (.tmp 6))), (qS 48 (.mv (.tmp 1))), (qS 49 (.fieldA 2 (.tmp 7))), (qS 50 (.load 2 true (.tmp 49))), (qS 51 (.lookup true [(.int .i64), (.int .i64)] false [(.slice .none 0 0)] false (.tmp 48) (.tmp 50))), (qS 52 (.append 6 true 48 (.tmp 47) (.tmp 51))), (qS 6 (.mv (.tmp 52)))]))))))))⟩ t h ⟨Q⟩ := by
  refine W_loopK (fun n t h => ∃ (u s : V) (st ord : List TLOp) (pl : List (TStamp × Int)), t 0 = .ptr T 4 0 ∧ t 1 = .mp m ∧ t 6 = s ∧ WI h0 h g p T h0.length v u ord pl ∧ StV h0.length h s u st ∧ walkK ks ls n st ord pl = some (ordF, plF)) n0 ⟨u, s, st, ord, pl, g0, g1, g6, wi, sv, hw⟩ ?_
  clear g0 g1 g6 wi sv hw
  rintro K n t h hn hx ⟨u, s, st, ord, pl, g0, g1, g6, wi, sv, hw⟩
  cases n with
  | zero => cases hw
  | succ n =>
    rw [walkK] at hw
    obtain ⟨B, gg, cs, b1, rfl, b3, b4, b5, b6⟩ := sv
    cases hl : st.getLast? with
    | none =>
      rw [hl] at hw
      obtain rfl := List.getLast?_eq_none_iff.1 hl
      cases hw
      have hz : ((0 : Int) < 0) = False := by simp
      simp (maxSteps := 2000000) (disch := omega) only [gw, Nat.reduceAdd, Nat.reduceMul, g0, g1, g6, hz]
      exact hx _ _ _ (by simp) (hQ _ _ u wi)
    | some o =>
      rw [hl] at hw
      obtain ⟨st', rfl⟩ := List.getLast?_eq_some_iff.1 hl
      simp only [List.dropLast_concat] at hw
      have hlen : (st' ++ [o]).length = st'.length + 1 := by simp
      rw [hlen] at b4 b5 g6 hw
      split at hw
      case isFalse => cases hw
      rename_i hg
      have hpos : (0 : Int) < ((st'.length + 1 : Nat) : Int) := by omega
      have x1 : stepIdxS 6 h (st'.length : Int) (.hsl B gg 0 6 true (st'.length + 1)) = some (.ptr B gg (st'.length * 6)) := by
        simp only [stepIdxS, b3]
        rw [if_pos ⟨trivial, by omega, by omega⟩]
        simp
      have hcl := getCells_len b3
      have r1 : stepLoad 6 true h (.ptr B gg (st'.length * 6)) = some (.agg (cellsV o)) := by
        simp only [stepLoad, b3, Option.bind_some]
        rw [if_pos (by omega)]
        have h1 : (cs.drop (st'.length * 6)).take 6 = (((cs.take ((st'.length + 1) * 6)).drop (st'.length * 6)).take 6) := by
          rw [List.drop_take, List.take_take, Nat.min_eq_left (by omega)]
        rw [h1, b4]
        have := rows_get (xs := st' ++ [o]) (n := st'.length) (x := o) (by simp)
        rw [z_TLOp] at this
        rw [this]
        rfl
      have e1 : st'.length + 1 - 1 = st'.length := rfl
      have lT := gc_lt wi.tr
      have hpT := lf.pT
      have nl := wi.nl
      have hTN : T < h0.length := gc_lt lf.tr
      have rT : ∀ l, getCells (h ++ l) T 4 = some [v, u, .mp g, .mp p] := fun l => gc_app wi.tr
      have rM : ∀ l, mapAt (h ++ l) (.mp p) = some (p, (pl.map Prod.fst).map skI, pl.map fun q => V.i (.s (.int .i64 q.2))) := fun l => by
        simp only [mapAt, (wi.app l).mp]
      have hu := wi.lr.len
      have wi1 := (((wi.setP (pl' := setP pl o.id (ord.length : Int)) hpT hTN).app [Slot.cells (cellsV o)]).app [Slot.cells (cellsV o)])
      have b31 : ∀ l, getCells (h.set p (.map (((setP pl o.id (ord.length : Int)).map Prod.fst).map skI) ((setP pl o.id (ord.length : Int)).map fun q => .i (.s (.int .i64 q.2)))) ++ l) B gg = some cs := fun l => gc_app (by rw [gc_set (by omega)]; exact b3)
      have hpl : setP pl ⟨o.id.time, o.id.actor⟩ (ord.length : Int) = setP pl o.id (ord.length : Int) := rfl
      obtain ⟨u', h1, p1, p2, p3, p4, p5, p6⟩ := wi1.push hpT hTN o hg.2
      have rT2 : ∀ l, getCells (h.set p (.map (((setP pl o.id (ord.length : Int)).map Prod.fst).map skI) ((setP pl o.id (ord.length : Int)).map fun q => .i (.s (.int .i64 q.2)))) ++ l) T 4 = some [v, u, .mp g, .mp p] := fun l => gc_app (by rw [gc_set (by omega)]; exact wi.tr)
      rw [List.append_assoc] at p1
      have hoo : ∀ (M : Slot) (l : Heap), getCells (h.set p M ++ (Slot.cells (cellsV o) :: l)) h.length 6 = some (cellsV o) := fun M l => by
        rw [gc_ge (by rw [List.length_set]; exact Nat.le_refl _), List.length_set, Nat.sub_self]
        rfl
      have ho1 : ∀ (M A : Slot) (l : Heap), getCells (h.set p M ++ (A :: Slot.cells (cellsV o) :: l)) (h.length + 1) 6 = some (cellsV o) := fun M A l => by
        rw [gc_ge (by rw [List.length_set]; omega), List.length_set, Nat.add_sub_cancel_left]
        rfl
      have hul : ∀ b g n, u = .hsl b g 0 6 true n → b < h.length := fun b g n e => (wi.lr.lt b g n e).1
      have ho2 : getCells (h1.set T (.cells [v, u', .mp g, .mp p])) h.length 6 = some (cellsV o) := by
        rw [← hoo _ [Slot.cells (cellsV o)]]
        refine getCells_congr ?_
        rw [p4 h.length (by simp) (by omega) (fun g n e => by have := hul _ _ _ e; omega), List.append_assoc]
        rfl
      have ho3 : getCells h1 h.length 6 = some (cellsV o) := by
        rw [← ho2]
        exact getCells_congr (List.getElem?_set_ne (by omega)).symm
      obtain ⟨u1, u2⟩ := p3.lr.one
      have kf2 := kf.keep (h' := h1.set T (.cells [v, u', .mp g, .mp p])) (fun b hb hl => p3.fr b hl (by omega) (by omega))
      obtain ⟨x, k1, k2⟩ := kf2.look o.id
      obtain ⟨k3, k4⟩ := k2.src rfl
      have rK : mapR (h1.set T (.cells [v, u', .mp g, .mp p])) (.mp m) = some (m, ks.map skI, vs) := by
        have rA : mapAt (h1.set T (.cells [v, u', .mp g, .mp p])) (.mp m) = some (m, ks.map skI, vs) := by simp only [mapAt, kf2.mp]
        exact rA
      have hB : getCells (h1.set T (.cells [v, u', .mp g, .mp p])) B gg = some cs := by
        have lB := gc_lt b3
        rw [← b31 [Slot.cells (cellsV o), Slot.cells (cellsV o)]]
        refine getCells_congr ?_
        rw [p4 B (by simp; omega) (by omega) (fun g n e => b6 _ _ _ e rfl), List.append_assoc]
        rfl
      have hub : ∀ b g n, u' = .hsl b g 0 6 true n → b ≠ B := fun b g n e => by
        rcases p5 b g n e with ⟨g', n', e'⟩ | hb
        · exact b6 _ _ _ e'
        · have lB := gc_lt b3
          simp only [List.length_append, List.length_set, List.length_cons, List.length_nil] at hb
          omega
      obtain ⟨s', h2, q1, q2, q3, q4⟩ := StV.push (N := h0.length) (u := u') (st := st') b1 hB (by
        have := congrArg (List.take (st'.length * 6)) b4
        rw [List.take_take, Nat.min_eq_left (by omega)] at this
        rw [this, rows_append]
        exact List.take_left' (by rw [rows_len]; rfl)) (by omega) hub p3.nl (fun b g n e => (p3.lr.lt b g n e).1) (kidsK ks ls o.id) (by omega)
      simp only [List.cons_append, List.nil_append, cellsV_TLOp] at p1 b31 rT2 hoo ho2 ho1 ho3
      have hko : (ks.map skI, vs) = (ks.map skI, vs) := rfl
      have hid : idxK ks ⟨o.id.time, o.id.actor⟩ = idxK ks o.id := rfl
      have hall : (rows (kidsK ks ls o.id)).all V.one = true ∧ (rows (kidsK ks ls o.id)).length = (kidsK ks ls o.id).length * 6 := ⟨ones_rows, by rw [rows_len]; rfl⟩
      simp (maxSteps := 2000000) (disch := omega) only [gw, Nat.reduceAdd, Nat.reduceMul, g0, g1, g6, hpos, x1, r1, e1, cellsV_TLOp, rT, rM, hu, keyV_s, keyV_v, sk_keys, hit_sk, fits_sk, set_sk, keysP (n := (ord.length : Int)), valsP, hpl, rT2, p1, p2, hoo, ho1, ho2, ho3, u1, u2, rK, hid, k1, k3, k4, hall, q1]
      exact hn _ _ _ (by omega) ⟨u', s', _, _, _, g0, g1, rfl, p3.keep hpT hTN b1 hub q3 q4, q2, hw⟩

def k_impl_list_walk (F : Fun) : Prop := ∀ (h : Heap) (g p m T : Nat) (v : V) (ops : List TLOp) (gone ks : List TStamp) (ls : List (List TLOp)) (vs : List V) (ordF : List TLOp) (plF : List (TStamp × Int)), LF h g p T v (.i (.s (.slice none 0 0))) ops [] gone [] → KF h m ks ls vs → T < m →
  (kidsK ks ls ⟨0, 0⟩).length ≤ 1000000 → fixP (fun n => walkK ks ls n (kidsK ks ls ⟨0, 0⟩) [] []) = some (ordF, plF) → ∃ u h', F none [.ptr T 4 0, .mp m, .agg [.i (iN 0), .i (iN 0)]] h = some (.tup [], h') ∧ LF h' g p T v u ops ordF gone plF
theorem ko_impl_list_walk {P : Program} {env : Env} : k_impl_list_walk (runIn P env c_impl_list_walk) := by
  intro h g p m T v ops gone ks ls vs ordF plF lf kf hTm hk0 hf
  obtain ⟨n0, hw⟩ := fixP_some hf
  have hR : R P env c_impl_list_walk [.ptr T 4 0, .mp m, .agg [.i (iN 0), .i (iN 0)]] h (fun r h' => r = .tup [] ∧ ∃ u, LF h' g p T v u ops ordF gone plF) := by
    refine R_of (by simp [c_impl_list_walk]) ?_
    unfold c_impl_list_walk
    have hTN : T < h.length := gc_lt lf.tr
    have hpT := lf.pT
    have hgT := lf.gT
    obtain ⟨x, k1, k2⟩ := (kf.keep (h' := h ++ [Slot.cells [.i (iN 0), .i (iN 0)]]) (fun b _ hl => List.getElem?_append_left hl)).look ⟨0, 0⟩
    obtain ⟨k3, k4⟩ := k2.src rfl
    have rK : ∀ l, mapR (h ++ l) (.mp m) = some (m, ks.map skI, vs) := fun l => by
      have rA : mapAt (h ++ l) (.mp m) = some (m, ks.map skI, vs) := by
        have := (List.getElem?_eq_some_iff.1 kf.mp).1
        simp only [mapAt, List.getElem?_append_left this, kf.mp]
      exact rA
    have hall : (rows (kidsK ks ls ⟨0, 0⟩)).all V.one = true ∧ (rows (kidsK ks ls ⟨0, 0⟩)).length = (kidsK ks ls ⟨0, 0⟩).length * 6 := ⟨ones_rows, by rw [rows_len]; rfl⟩
    obtain ⟨s', h2, q1, q2, q3, q4⟩ := StV.push (N := h.length) (h := h ++ [Slot.cells [.i (iN 0), .i (iN 0)], .virt]) (B := h.length + 1) (gg := 0) (u := .i (.s (.slice none 0 0))) (st := []) (cs := []) (by omega) (by rw [gc_right]; rfl) rfl (by simp) (fun b g n e => by cases e) (by simp) (fun b g n e => by cases e) (kidsK ks ls ⟨0, 0⟩) (by simpa using hk0)
    simp only [List.length_nil] at q1
    simp (maxSteps := 2000000) (disch := omega) only [gw, Nat.reduceAdd, Nat.reduceMul, rK, keyV_v, keyV_s, keyV_i, keyV_iN, sk_keys, hit_sk, fits_sk, k1, k3, k4, hall, q1]
    have wi : WI h h2 g p T h.length v (.i (.s (.slice none 0 0))) [] [] := by
      refine ⟨fun y hy _ _ => ?_, by simp at q4; omega, ?_, ?_, .inl ⟨rfl, rfl⟩⟩
      · rw [q3 y (by simp; omega) (by omega), List.getElem?_append_left hy]
      · refine (getCells_congr ?_).trans lf.tr
        rw [q3 T (by simp; omega) (by omega), List.getElem?_append_left hTN]
      · rw [q3 p (by simp; omega) (by omega), List.getElem?_append_left (by omega)]
        exact lf.mp
    refine walk_loop (h0 := h) (ops := ops) (gone := gone) (ks := ks) (ls := ls) (vs := vs) (m := m) (u := .i (.s (.slice none 0 0))) lf kf hTm wi (s := s') (st := kidsK ks ls ⟨0, 0⟩) (by simpa using q2) rfl rfl rfl hw ?_
    intro t' h' u wi
    simp (maxSteps := 2000000) (disch := omega) only [gw, Nat.reduceAdd, Nat.reduceMul]
    refine ⟨u, wi.tr, lf.lo.keep fun b gg n e => ?_, wi.lr.low (by omega), ?_, wi.mp, lf.gT, lf.pT, lf.gp⟩
    · have := lf.lo.lt b gg n e
      exact wi.fr b this.1 (by omega) (by omega)
    · rw [wi.fr g (by omega) (by omega) lf.gp]
      exact lf.mg
  obtain ⟨⟨r, h1⟩, e1, e2, u, e3⟩ := hR
  exact ⟨u, h1, by rw [← e2]; exact e1, e3⟩
end Go.AM

set_option linter.unusedVariables false
set_option linter.unusedSimpArgs false
set_option maxRecDepth 20000
namespace Go.AM
open Pic (enc dec dec_enc dec_sub)
open PicA (encA decA decA_encA decA_sub)

def c_impl_readList (f_impl_lopOK : Nat) (f_sort_Slice : Nat) (f_impl_list_walk : Nat) (f_impl_readList_1 : Nat) : AFn := ⟨139, (.seq (.ops [(qS 2 (.mv (.const (.pointer .none)))), (qS 3 (.mv (ic 0)))]) (.seq (.seq (.ops [(qS 17 (.mv (.tmp 0))), (qS 18 (.len (.tmp 17))), (qS 19 (.pu (.n (.ar .gtr)) [(.tmp 18), (ic 2048)]))]) (.cond (.tmp 19) (.seq (.ops [(qS 2 (.mv (.const (.pointer .none)))), (qS 3 (.mv (ic 2)))]) .ret) .skip)) (.seq (.seq (.ops [(qS 20 (.mv (.tmp 0))), (qS 21 (.len (.tmp 20))), (qS 22 (.mv (ic 0)))]) (.block 0 (.loop (.seq (.ops [(qS 23 (.pu (.n (.ar .lss)) [(.tmp 22), (.tmp 21)]))]) (.seq (.cond (.tmp 23) .skip (.exit 0)) (.seq (.block 1 (.seq (.ops [(qS 24 (.idxS 6 (.tmp 20) (.tmp 22))), (qS 25 (.load 6 true (.tmp 24))), (qS 5 (.allocV [(0, false), (0, false), (0, false), (0, false), (0, false), (0, false)] [(.int .i64 0), (.int .i64 0), (.int .i64 0), (.int .i64 0), (.int .i64 0), (.int .i64 0)])), ⟨.none, (.storeV [(0, false), (0, false), (0, false), (0, false), (0, false), (0, false)] 6 (.tmp 5) (.tmp 25)), .none, [], .none⟩]) (.seq (.ops [(qS 26 (.load 6 true (.tmp 5))), (qS 27 (.call (2 * f_impl_lopOK) [(.tmp 26)])), (qS 28 (.pu (.n (.un .not)) [(.tmp 27)]))]) (.cond (.tmp 28) (.seq (.ops [(qS 2 (.mv (.const (.pointer .none)))), (qS 3 (.mv (ic 1)))]) .ret) .skip)))) (.ops [(qS 29 (.pu (.n (.ar .add)) [(.tmp 22), (ic 1)])), (qS 22 (.mv (.tmp 29)))]))))))) (.seq (.ops [(qS 30 (.mv (.tmp 0))), (qS 31 (.appendV 6 true 48 (.tmp 30))), (qS 6 (.allocV [(6, true)] [(.slice .none 0 0)])), ⟨.none, (.storeV [(6, true)] 1 (.tmp 6) (.tmp 31)), .none, [], .none⟩]) (.seq (.ops [(qS 32 (.load 1 false (.tmp 6))), (qS 33 (.ifc 28 (.tmp 32))), (qS 34 (.clo f_impl_readList_1 [(.tmp 6)])), (qS 35 (.call (2 * f_sort_Slice + 1) [(.tmp 33), (.tmp 34)]))]) (.seq (.ops [⟨(.some 36), .makeMap, .none, [], .none⟩, ⟨(.some 37), .makeMap, .none, [], .none⟩, (qS 38 (.build [(.slice .none 0 0), (.slice .none 0 0), (.map .none), (.map .none)] [(2, (1, (.tmp 36))), (3, (1, (.tmp 37)))])), (qS 39 (.box (.tmp 38))), (qS 7 (.mv (.tmp 39)))]) (.seq (.seq (.ops [(qS 40 (.load 1 false (.tmp 6))), (qS 41 (.len (.tmp 40))), (qS 42 (.mv (ic 0)))]) (.block 2 (.loop (.seq (.ops [(qS 43 (.pu (.n (.ar .lss)) [(.tmp 42), (.tmp 41)]))]) (.seq (.cond (.tmp 43) .skip (.exit 2)) (.seq (.block 3 (.seq (.ops [(qS 44 (.mv (.tmp 42))), (qS 45 (.idxS 6 (.tmp 40) (.tmp 42))), (qS 46 (.load 6 true (.tmp 45))), (qS 9 (.allocV [(0, false), (0, false), (0, false), (0, false), (0, false), (0, false)] [(.int .i64 0), (.int .i64 0), (.int .i64 0), (.int .i64 0), (.int .i64 0), (.int .i64 0)])), (qS 8 (.mv (.tmp 44))), ⟨.none, (.storeV [(0, false), (0, false), (0, false), (0, false), (0, false), (0, false)] 6 (.tmp 9) (.tmp 46)), .none, [], .none⟩]) (.seq (.seq (.ops [(qS 47 (.mv (.tmp 8))), (qS 48 (.pu (.n (.ar .gtr)) [(.tmp 47), (ic 0)])), (qS 49 (.mv (.tmp 48))), ⟨(.some 50), (.load 1 false (.tmp 6)), (.some (49, true)), [], .none⟩, ⟨(.some 51), (.mv (.tmp 8)), (.some (49, true)), [], .none⟩, ⟨(.some 52), (.pu (.n (.ar .sub)) [(.tmp 51), (ic 1)]), (.some (49, true)), [], .none⟩, ⟨(.some 53), (.idxS 6 (.tmp 50) (.tmp 52)), (.some (49, true)), [], .none⟩, ⟨(.some 54), (.fieldA 2 (.tmp 53)), (.some (49, true)), [], .none⟩, ⟨(.some 55), (.load 2 true (.tmp 54)), (.some (49, true)), [], .none⟩, ⟨(.some 56), (.fieldA 2 (.tmp 9)), (.some (49, true)), [], .none⟩, ⟨(.some 57), (.load 2 true (.tmp 56)), (.some (49, true)), [], .none⟩, ⟨(.some 58), (.aeq false [(.int .i64), (.int .i64)] (.tmp 55) (.tmp 57)), (.some (49, true)), [], .none⟩, (qS 59 (.pick (.tmp 49) (.tmp 58) (.const (.bool false))))]) (.cond (.tmp 59) (.seq (.seq (.ops [(qS 60 (.load 1 false (.tmp 6))), (qS 61 (.mv (.tmp 8))), (qS 62 (.pu (.n (.ar .sub)) [(.tmp 61), (ic 1)])), (qS 63 (.idxS 6 (.tmp 60) (.tmp 62))), (qS 64 (.load 6 true (.tmp 63))), (qS 65 (.load 6 true (.tmp 9))), (qS 66 (.aeq true [(.int .i64), (.int .i64), (.int .i64), (.int .i64), (.int .i64), (.int .i64)] (.tmp 64) (.tmp 65)))]) (.cond (.tmp 66) (.seq (.ops [(qS 2 (.mv (.const (.pointer .none)))), (qS 3 (.mv (ic 16)))]) .ret) .skip)) (.exit 3)) .skip)) (.ops [(qS 67 (.mv (.tmp 7))), (qS 68 (.mv (.tmp 7))), (qS 69 (.nilChk (.tmp 68))), (qS 70 (.fieldA 0 (.tmp 69))), (qS 71 (.load 1 false (.tmp 70))), (qS 72 (.load 6 true (.tmp 9))), (qS 73 (.buildSl 6 true 1 [(.int .i64 0), (.int .i64 0), (.int .i64 0), (.int .i64 0), (.int .i64 0), (.int .i64 0)] [(0, (.tmp 72))])), (qS 74 (.append 6 true 48 (.tmp 71) (.tmp 73))), (qS 75 (.nilChk (.tmp 67))), (qS 76 (.fieldA 0 (.tmp 75))), ⟨.none, (.store 1 (.tmp 76) (.tmp 74)), .none, [], .none⟩])))) (.ops [(qS 77 (.pu (.n (.ar .add)) [(.tmp 42), (ic 1)])), (qS 42 (.mv (.tmp 77)))]))))))) (.seq (.ops [⟨(.some 78), .makeMap, .none, [], .none⟩, (qS 79 (.build [(.int .i64 0), (.int .i64 0)] [])), ⟨.none, (.mapSet true [(.int .i64), (.int .i64)] (.tmp 78) (.tmp 79) (.const (.slice .none 0 0))), .none, [], .none⟩, (qS 80 (.mv (.tmp 78))), (qS 10 (.mv (.tmp 80)))]) (.seq (.seq (.ops [(qS 81 (.mv (.tmp 7))), (qS 82 (.nilChk (.tmp 81))), (qS 83 (.fieldA 0 (.tmp 82))), (qS 84 (.load 1 false (.tmp 83))), (qS 85 (.len (.tmp 84))), (qS 86 (.mv (ic 0)))]) (.block 4 (.loop (.seq (.ops [(qS 87 (.pu (.n (.ar .lss)) [(.tmp 86), (.tmp 85)]))]) (.seq (.cond (.tmp 87) .skip (.exit 4)) (.seq (.block 5 (.seq (.ops [(qS 88 (.idxS 6 (.tmp 84) (.tmp 86))), (qS 89 (.load 6 true (.tmp 88))), (qS 12 (.allocV [(0, false), (0, false), (0, false), (0, false), (0, false), (0, false)] [(.int .i64 0), (.int .i64 0), (.int .i64 0), (.int .i64 0), (.int .i64 0), (.int .i64 0)])), ⟨.none, (.storeV [(0, false), (0, false), (0, false), (0, false), (0, false), (0, false)] 6 (.tmp 12) (.tmp 89)), .none, [], .none⟩]) (.seq (.ops [(qS 90 (.fieldA 0 (.tmp 12))), (qS 91 (.load 1 false (.tmp 90))), (qS 92 (.pu (.n (.ar .eql)) [(.tmp 91), (ic 1)]))]) (.cond (.tmp 92) (.ops [(qS 93 (.mv (.tmp 10))), (qS 94 (.fieldA 2 (.tmp 12))), (qS 95 (.load 2 true (.tmp 94))), ⟨.none, (.mapSet true [(.int .i64), (.int .i64)] (.tmp 93) (.tmp 95) (.const (.slice .none 0 0))), .none, [], .none⟩]) .skip)))) (.ops [(qS 96 (.pu (.n (.ar .add)) [(.tmp 86), (ic 1)])), (qS 86 (.mv (.tmp 96)))]))))))) (.seq (.seq (.ops [(qS 97 (.mv (.tmp 7))), (qS 98 (.nilChk (.tmp 97))), (qS 99 (.fieldA 0 (.tmp 98))), (qS 100 (.load 1 false (.tmp 99))), (qS 101 (.len (.tmp 100))), (qS 102 (.mv (ic 0)))]) (.block 6 (.loop (.seq (.ops [(qS 103 (.pu (.n (.ar .lss)) [(.tmp 102), (.tmp 101)]))]) (.seq (.cond (.tmp 103) .skip (.exit 6)) (.seq (.block 7 (.seq (.ops [(qS 104 (.idxS 6 (.tmp 100) (.tmp 102))), (qS 105 (.load 6 true (.tmp 104))), (qS 14 (.allocV [(0, false), (0, false), (0, false), (0, false), (0, false), (0, false)] [(.int .i64 0), (.int .i64 0), (.int .i64 0), (.int .i64 0), (.int .i64 0), (.int .i64 0)])), ⟨.none, (.storeV [(0, false), (0, false), (0, false), (0, false), (0, false), (0, false)] 6 (.tmp 14) (.tmp 105)), .none, [], .none⟩]) (.seq (.seq (.ops [(qS 107 (.mv (.tmp 10))), (qS 108 (.fieldA 4 (.tmp 14))), (qS 109 (.load 2 true (.tmp 108))), (qS 110 (.lookup true [(.int .i64), (.int .i64)] false [(.slice .none 0 0)] true (.tmp 107) (.tmp 109))), (qS 106 (.mv (.tmp 110))), (qS 111 (.extract 0 (.tmp 106))), (qS 112 (.extract 1 (.tmp 106))), (qS 15 (.mv (.tmp 111))), (qS 16 (.mv (.tmp 112)))]) (.seq (.ops [(qS 113 (.mv (.tmp 16))), (qS 114 (.pu (.n (.un .not)) [(.tmp 113)]))]) (.cond (.tmp 114) (.seq (.ops [(qS 2 (.mv (.const (.pointer .none)))), (qS 3 (.mv (ic 5)))]) .ret) .skip))) (.seq (.ops [(qS 115 (.fieldA 0 (.tmp 14))), (qS 116 (.load 1 false (.tmp 115))), (qS 117 (.pu (.n (.ar .eql)) [(.tmp 116), (ic 1)]))]) (.cond (.tmp 117) (.ops [(qS 118 (.mv (.tmp 10))), (qS 119 (.fieldA 4 (.tmp 14))), (qS 120 (.load 2 true (.tmp 119))), (qS 122 (.load 6 true (.tmp 14))), (qS 123 (.buildSl 6 true 1 [(.int .i64 0), (.int .i64 0), (.int .i64 0), (.int .i64 0), (.int .i64 0), (.int .i64 0)] [(0, (.tmp 122))])), (qS 124 (.mapEntry true [(.int .i64), (.int .i64)] false [(.slice .none 0 0)] (.tmp 118) (.tmp 120))), (qS 121 (.extract 0 (.tmp 124))), (qS 125 (.append 6 true 48 (.tmp 121) (.tmp 123))), (qS 126 (.extract 1 (.tmp 124))), ⟨.none, (.entryStore (.tmp 118) (.tmp 126) (.tmp 125)), .none, [], .none⟩]) (.ops [(qS 127 (.mv (.tmp 7))), (qS 128 (.nilChk (.tmp 127))), (qS 129 (.fieldA 2 (.tmp 128))), (qS 130 (.load 1 false (.tmp 129))), (qS 131 (.fieldA 4 (.tmp 14))), (qS 132 (.load 2 true (.tmp 131))), ⟨.none, (.mapSet true [(.int .i64), (.int .i64)] (.tmp 130) (.tmp 132) (.const (.bool true))), .none, [], .none⟩])))))) (.ops [(qS 133 (.pu (.n (.ar .add)) [(.tmp 102), (ic 1)])), (qS 102 (.mv (.tmp 133)))]))))))) (.seq (.ops [(qS 134 (.mv (.tmp 7))), (qS 135 (.mv (.tmp 10))), (qS 136 (.build [(.int .i64 0), (.int .i64 0)] [])), (qS 137 (.call (2 * f_impl_list_walk + 1) [(.tmp 134), (.tmp 135), (.tmp 136)]))]) (.seq (.ops [(qS 138 (.mv (.tmp 7))), (qS 2 (.mv (.tmp 138))), (qS 3 (.mv (ic 0)))]) .ret)))))))))))), [(.tmp 2), (.tmp 3)]⟩

theorem scanL_ok {t : Nat → V} {P : Program} {env : Env} {Q : Post} {h : Heap} {f_impl_lopOK : Nat} (ep_impl_lopOK : env (2 * f_impl_lopOK) = pureFn true (FA fun a : TLOp => p_impl_lopOK a))
    {x0 : List TLOp} (hlen : x0.length ≤ 2048) (g0 : t 0 = .i (.sl 6 (x0.map enc))) (g15 : t 20 = .i (.sl 6 (x0.map enc))) (g16 : t 21 = .i (.s (.int .i64 (x0.length : Int)))) (g17 : t 22 = .i (.s (.int .i64 0)))
    (hQ : ∀ t' h', t' 0 = .i (.sl 6 (x0.map enc)) → x0.all lopK = true → Q (.exit 0) t' h')
    (hR : ∀ t' h', t' 2 = .i (.s (.pointer none)) → t' 3 = .i (.s (.int .i64 1)) → x0.all lopK = false → Q .ret t' h') :
    @W P env ⟨(.loop (.seq (.ops [(qS 23 (.pu (.n (.ar .lss)) [(.tmp 22), (.tmp 21)]))]) (.seq (.cond (.tmp 23) .skip (.exit 0)) (.seq (.block 1 (.seq (.ops [(qS 24 (.idxS 6 (.tmp 20) (.tmp 22))), (qS 25 (.load 6 true (.tmp 24))), (qS 5 (.allocV [(0, false), (0, false), (0, false), (0, false), (0, false), (0, false)] [(.int .i64 0), (.int .i64 0), (.int .i64 0), (.int .i64 0), (.int .i64 0), (.int .i64 0)])), ⟨.none, (.storeV [(0, false), (0, false), (0, false), (0, false), (0, false), (0, false)] 6 (.tmp 5) (.tmp 25)), .none, [], .none⟩]) (.seq (.ops [(qS 26 (.load 6 true (.tmp 5))), (qS 27 (.call (2 * f_impl_lopOK) [(.tmp 26)])), (qS 28 (.pu (.n (.un .not)) [(.tmp 27)]))]) (.cond (.tmp 28) (.seq (.ops [(qS 2 (.mv (.const (.pointer .none)))), (qS 3 (.mv (ic 1)))]) .ret) .skip)))) (.ops [(qS 29 (.pu (.n (.ar .add)) [(.tmp 22), (ic 1)])), (qS 22 (.mv (.tmp 29)))])))))⟩ t h ⟨Q⟩ := by
  refine W_loopK (fun n t h => ∃ i : Nat, n = x0.length - i ∧ i ≤ x0.length ∧ t 0 = .i (.sl 6 (x0.map enc)) ∧ t 20 = .i (.sl 6 (x0.map enc)) ∧ t 21 = .i (.s (.int .i64 (x0.length : Int))) ∧ t 22 = .i (.s (.int .i64 (i : Int))) ∧ (x0.take i).all lopK = true) x0.length ⟨0, rfl, Nat.zero_le _, g0, g15, g16, g17, by simp⟩ ?_
  clear g0 g15 g16 g17
  rintro K n t h hn hx ⟨i, rfl, hi, g0, g15, g16, g17, ha⟩
  by_cases hlt : i < x0.length
  · obtain ⟨o, ho⟩ : ∃ o, o = x0[i] := ⟨_, rfl⟩
    have hoi : x0[i]? = some o := by rw [ho]; exact List.getElem?_eq_getElem hlt
    have hget : get? x0 (i : Int) = some o := by rw [get_nat]; exact hoi
    have hspl : x0 = x0.take i ++ o :: x0.drop (i + 1) := by rw [ho, List.getElem_cons_drop, List.take_append_drop]
    cases hm : lopK o with
    | false =>
      simp (maxSteps := 2000000) (disch := omega) only [gw, Nat.reduceAdd, Nat.reduceMul, g0, g15, g16, g17, hlt, hget, enc_TLOp, ep_impl_lopOK, q_lopK, hm]
      exact hx _ _ _ (by simp) (hR _ _ rfl rfl (by rw [hspl, List.all_append, List.all_cons, hm]; simp))
    | true =>
      simp (maxSteps := 2000000) (disch := omega) only [gw, Nat.reduceAdd, Nat.reduceMul, g0, g15, g16, g17, hlt, hget, enc_TLOp, ep_impl_lopOK, q_lopK, hm]
      exact hn _ _ _ (by omega) ⟨i + 1, rfl, by omega, g0, g15, g16, rfl, by rw [List.take_succ_eq_append_getElem hlt, List.all_append, ha, ← ho]; simp [hm]⟩
  · simp (maxSteps := 2000000) (disch := omega) only [gw, Nat.reduceAdd, Nat.reduceMul, g0, g15, g16, g17, hlt]
    refine hx _ _ _ (by simp) (hQ _ _ g0 ?_)
    rw [← ha, List.take_of_length_le (by omega)]

theorem LF.pushO {h : Heap} {g p T : Nat} {v : V} {ops : List TLOp} {gone : List TStamp} {pl : List (TStamp × Int)} (r : LF h g p T v (.i (.s (.slice none 0 0))) ops [] gone pl) (x : TLOp) (hl : ops.length ≤ 1000000) :
    ∃ v' h', stepAppend none 6 true 48 h (cellsV x) 1 v = some (v', h') ∧ getCells h' T 4 = some [v, .i (.s (.slice none 0 0)), .mp g, .mp p] ∧ LF (h'.set T (.cells [v', .i (.s (.slice none 0 0)), .mp g, .mp p])) g p T v' (.i (.s (.slice none 0 0))) (ops ++ [x]) [] gone pl ∧
      (∀ b, b < T → (h'.set T (.cells [v', .i (.s (.slice none 0 0)), .mp g, .mp p]))[b]? = h[b]?) ∧ v'.cells = [v'] ∧ V.one v' = true := by
  have hTl := gc_lt r.tr
  obtain ⟨v', h', e1, e2, e3, e4, e5⟩ := r.lo.push (y := 48) rfl x (by omega) hTl
  have hlow : ∀ b, b ≤ T → ∀ g n, v ≠ .hsl b g 0 6 true n := fun b hb g n e => by
    have := (r.lo.lt b g n e).2
    omega
  have kT : ∀ b, b ≤ T → h'[b]? = h[b]? := fun b hb => e3 b (by omega) (hlow b hb)
  have s1 : ∀ (M : Slot) x, x ≠ T → (h'.set T M)[x]? = h'[x]? := fun M x hx => List.getElem?_set_ne (Ne.symm hx)
  have tr' : getCells h' T 4 = some [v, .i (.s (.slice none 0 0)), .mp g, .mp p] := (getCells_congr (kT T (Nat.le_refl _))).trans r.tr
  have hg := r.gT
  have hp := r.pT
  refine ⟨v', h', e1, tr', ⟨set_cells tr' rfl, e2.keep fun b g n e => s1 _ b (by have := (e2.lt b g n e).2; omega), .inl ⟨rfl, rfl⟩, (s1 _ g (by omega)).trans ((kT g (by omega)).trans r.mg), (s1 _ p (by omega)).trans ((kT p (by omega)).trans r.mp), hg, hp, r.gp⟩, ?_, e2.one.1, e2.one.2⟩
  intro b hb
  exact (s1 _ b (by omega)).trans (kT b (by omega))

theorem idxL {h : Heap} {b g len i : Nat} {cs : List V} (hg : getCells h b g = some cs) (hi : i < len) : stepIdxS 6 h (i : Int) (.hsl b g 0 6 true len) = some (.ptr b g (i * 6)) := by
  simp only [stepIdxS, hg]
  rw [if_pos ⟨trivial, by omega, by omega⟩]
  simp
theorem ldRowL {h : Heap} {b i : Nat} {S : List TLOp} {o : TLOp} (hg : getCells h b (S.length * 6) = some (rows S)) (ho : S[i]? = some o) : stepLoad 6 true h (.ptr b (S.length * 6) (i * 6)) = some (.agg (cellsV o)) := by
  have hi : i < S.length := (List.getElem?_eq_some_iff.1 ho).1
  have := rows_get (xs := S) ho
  simp only [stepLoad, hg, Option.bind_some]
  rw [if_pos (by rw [rows_len, z_TLOp]; omega)]
  rw [z_TLOp] at this
  rw [this]
  rfl
theorem ldIdL {h : Heap} {b i : Nat} {S : List TLOp} {o : TLOp} (hg : getCells h b (S.length * 6) = some (rows S)) (ho : S[i]? = some o) : stepLoad 2 true h (.ptr b (S.length * 6) (i * 6 + 2)) = some (.agg [.i (iN o.id.time), .i (iN o.id.actor)]) := by
  have hi : i < S.length := (List.getElem?_eq_some_iff.1 ho).1
  have := rows_get_off (xs := S) (k := 2) (m := 2) ho (by decide)
  simp only [stepLoad, hg, Option.bind_some]
  rw [if_pos (by rw [rows_len, z_TLOp]; omega)]
  rw [z_TLOp] at this
  rw [this]
  rfl
/-- What was sorted stands beside. -/
structure RD (h : Heap) (b c T : Nat) (S : List TLOp) : Prop where
  row : getCells h b (S.length * 6) = some (rows S)
  var : getCells h c 1 = some [.hsl b (S.length * 6) 0 6 true S.length]
  bT : b < T
  cT : c < T
theorem RD.app {h : Heap} {b c T : Nat} {S : List TLOp} (r : RD h b c T S) (l : Heap) : RD (h ++ l) b c T S := ⟨gc_app r.row, gc_app r.var, r.bT, r.cT⟩
theorem RD.keep {h h' : Heap} {b c T : Nat} {S : List TLOp} (r : RD h b c T S) (k : ∀ x, x < T → h'[x]? = h[x]?) : RD h' b c T S :=
  ⟨(getCells_congr (k b r.bT)).trans r.row, (getCells_congr (k c r.cT)).trans r.var, r.bT, r.cT⟩

theorem dedupL {t : Nat → V} {P : Program} {env : Env} {Q : Post} {h : Heap} {b c g p T : Nat} {S : List TLOp} (hS : S.length ≤ 2048) (rd : RD h b c T S) (lf : LF h g p T (.i (.s (.slice none 0 0))) (.i (.s (.slice none 0 0))) [] [] [] [])
    (g6 : t 6 = .ptr c 1 0) (g7 : t 7 = .ptr T 4 0) (g40 : t 40 = .hsl b (S.length * 6) 0 6 true S.length) (g41 : t 41 = .i (.s (.int .i64 (S.length : Int)))) (g42 : t 42 = .i (.s (.int .i64 0)))
    (hQ : ∀ t' h' v l, dedK TLOp.id none S [] = some l → t' 7 = .ptr T 4 0 → LF h' g p T v (.i (.s (.slice none 0 0))) l [] [] [] → Q (.exit 2) t' h')
    (hR : dedK TLOp.id none S [] = none → ∀ t' h', t' 2 = .i (.s (.pointer none)) → t' 3 = .i (.s (.int .i64 16)) → Q .ret t' h') :
    @W P env ⟨(.loop (.seq (.ops [(qS 43 (.pu (.n (.ar .lss)) [(.tmp 42), (.tmp 41)]))]) (.seq (.cond (.tmp 43) .skip (.exit 2)) (.seq (.block 3 (.seq (.ops [(qS 44 (.mv (.tmp 42))), (qS 45 (.idxS 6 (.tmp 40) (.tmp 42))), (qS 46 (.load 6 true (.tmp 45))), (qS 9 (.allocV [(0, false), (0, false), (0, false), (0, false), (0, false), (0, false)] [(.int .i64 0), (.int .i64 0), (.int .i64 0), (.int .i64 0), (.int .i64 0), (.int .i64 0)])), (qS 8 (.mv (.tmp 44))), ⟨.none, (.storeV [(0, false), (0, false), (0, false), (0, false), (0, false), (0, false)] 6 (.tmp 9) (.tmp 46)), .none, [], .none⟩]) (.seq (.seq (.ops [(qS 47 (.mv (.tmp 8))), (qS 48 (.pu (.n (.ar .gtr)) [(.tmp 47), (ic 0)])), (qS 49 (.mv (.tmp 48))), ⟨(.some 50), (.load 1 false (.tmp 6)), (.some (49, true)), [], .none⟩, ⟨(.some 51), (.mv (.tmp 8)), (.some (49, true)), [], .none⟩, ⟨(.some 52), (.pu (.n (.ar .sub)) [(.tmp 51), (ic 1)]), (.some (49, true)), [], .none⟩, ⟨(.some 53), (.idxS 6 (.tmp 50) (.tmp 52)), (.some (49, true)), [], .none⟩, ⟨(.some 54), (.fieldA 2 (.tmp 53)), (.some (49, true)), [], .none⟩, ⟨(.some 55), (.load 2 true (.tmp 54)), (.some (49, true)), [], .none⟩, ⟨(.some 56), (.fieldA 2 (.tmp 9)), (.some (49, true)), [], .none⟩, ⟨(.some 57), (.load 2 true (.tmp 56)), (.some (49, true)), [], .none⟩, ⟨(.some 58), (.aeq false [(.int .i64), (.int .i64)] (.tmp 55) (.tmp 57)), (.some (49, true)), [], .none⟩, (qS 59 (.pick (.tmp 49) (.tmp 58) (.const (.bool false))))]) (.cond (.tmp 59) (.seq (.seq (.ops [(qS 60 (.load 1 false (.tmp 6))), (qS 61 (.mv (.tmp 8))), (qS 62 (.pu (.n (.ar .sub)) [(.tmp 61), (ic 1)])), (qS 63 (.idxS 6 (.tmp 60) (.tmp 62))), (qS 64 (.load 6 true (.tmp 63))), (qS 65 (.load 6 true (.tmp 9))), (qS 66 (.aeq true [(.int .i64), (.int .i64), (.int .i64), (.int .i64), (.int .i64), (.int .i64)] (.tmp 64) (.tmp 65)))]) (.cond (.tmp 66) (.seq (.ops [(qS 2 (.mv (.const (.pointer .none)))), (qS 3 (.mv (ic 16)))]) .ret) .skip)) (.exit 3)) .skip)) (.ops [(qS 67 (.mv (.tmp 7))), (qS 68 (.mv (.tmp 7))), (qS 69 (.nilChk (.tmp 68))), (qS 70 (.fieldA 0 (.tmp 69))), (qS 71 (.load 1 false (.tmp 70))), (qS 72 (.load 6 true (.tmp 9))), (qS 73 (.buildSl 6 true 1 [(.int .i64 0), (.int .i64 0), (.int .i64 0), (.int .i64 0), (.int .i64 0), (.int .i64 0)] [(0, (.tmp 72))])), (qS 74 (.append 6 true 48 (.tmp 71) (.tmp 73))), (qS 75 (.nilChk (.tmp 67))), (qS 76 (.fieldA 0 (.tmp 75))), ⟨.none, (.store 1 (.tmp 76) (.tmp 74)), .none, [], .none⟩])))) (.ops [(qS 77 (.pu (.n (.ar .add)) [(.tmp 42), (ic 1)])), (qS 42 (.mv (.tmp 77)))])))))⟩ t h ⟨Q⟩ := by
  obtain ⟨D, hD⟩ : ∃ D, D = dedK TLOp.id none S [] := ⟨_, rfl⟩
  rw [← hD] at hQ hR
  refine W_loopK (fun n t h => ∃ (i : Nat) (v : V) (acc : List TLOp), n = S.length - i ∧ i ≤ S.length ∧ acc.length ≤ i ∧ t 6 = .ptr c 1 0 ∧ t 7 = .ptr T 4 0 ∧ t 40 = .hsl b (S.length * 6) 0 6 true S.length ∧ t 41 = .i (.s (.int .i64 (S.length : Int))) ∧ t 42 = .i (.s (.int .i64 (i : Int))) ∧
    RD h b c T S ∧ LF h g p T v (.i (.s (.slice none 0 0))) acc [] [] [] ∧ D = dedK TLOp.id (if i = 0 then none else S[i - 1]?) (S.drop i) acc) S.length ⟨0, _, [], rfl, Nat.zero_le _, Nat.le_refl _, g6, g7, g40, g41, g42, rd, lf, hD⟩ ?_
  clear g6 g7 g40 g41 g42 rd lf hD
  rintro K n t h hn hx ⟨i, v, acc, rfl, hi, hai, g6, g7, g40, g41, g42, rd, lf, hD⟩
  by_cases hlt : i < S.length
  · obtain ⟨o, ho⟩ : ∃ o, o = S[i] := ⟨_, rfl⟩
    have hoi : S[i]? = some o := by rw [ho]; exact List.getElem?_eq_getElem hlt
    have hdr : S.drop i = o :: S.drop (i + 1) := by rw [ho, List.getElem_cons_drop]
    rw [hdr] at hD
    have r1 := ldRowL rd.row hoi
    have x1 := idxL rd.row hlt
    have rT : ∀ l, getCells (h ++ l) T 4 = some [v, .i (.s (.slice none 0 0)), .mp g, .mp p] := fun l => gc_app lf.tr
    have lT := gc_lt lf.tr
    have lf2 := lf.app [Slot.cells (cellsV o), Slot.cells (cellsV o)]
    obtain ⟨v', h', p1, p2, p3, p4, p5, p6⟩ := lf2.pushO o (by omega)
    have rd' : RD (h'.set T (.cells [v', .i (.s (.slice none 0 0)), .mp g, .mp p])) b c T S := (rd.app [Slot.cells (cellsV o), Slot.cells (cellsV o)]).keep p4
    simp only [cellsV_TLOp] at p1
    have step : D = dedK TLOp.id (some o) (S.drop (i + 1)) (acc ++ [o]) → ∃ (i' : Nat) (v : V) (acc : List TLOp), S.length - (i + 1) = S.length - i' ∧ i' ≤ S.length ∧ acc.length ≤ i' ∧ i' = i + 1 ∧ RD (h'.set T (.cells [v', .i (.s (.slice none 0 0)), .mp g, .mp p])) b c T S ∧ LF (h'.set T (.cells [v', .i (.s (.slice none 0 0)), .mp g, .mp p])) g p T v (.i (.s (.slice none 0 0))) acc [] [] [] ∧ D = dedK TLOp.id (if i' = 0 then none else S[i' - 1]?) (S.drop i') acc := fun hD =>
      ⟨i + 1, v', acc ++ [o], rfl, by omega, by simp; omega, rfl, rd', p3, by rw [if_neg (Nat.succ_ne_zero i), Nat.add_sub_cancel, hoi]; exact hD⟩
    by_cases h0 : i = 0
    · rw [if_pos h0] at hD
      have h0' : ¬ (0 : Int) < (i : Int) := by omega
      simp only [dedK] at hD
      simp (maxSteps := 2000000) (disch := omega) only [gw, Nat.reduceAdd, Nat.reduceMul, g6, g7, g40, g41, g42, hlt, x1, r1, cellsV_TLOp, h0', rT, p1, p2, p5, p6]
      obtain ⟨i', v2, acc2, q1, q2, q3, rfl, q4, q5, q6⟩ := step hD
      exact hn _ _ _ (by omega) ⟨i + 1, v2, acc2, rfl, q2, q3, g6, g7, g40, g41, rfl, q4, q5, q6⟩
    · rw [if_neg h0] at hD
      have h0' : (0 : Int) < (i : Int) := by omega
      obtain ⟨q, hq⟩ : ∃ q, q = S[i - 1]'(by omega) := ⟨_, rfl⟩
      have hqi : S[i - 1]? = some q := by rw [hq]; exact List.getElem?_eq_getElem _
      rw [hqi] at hD
      simp only [dedK] at hD
      have r2 : ∀ l, stepLoad 2 true (h ++ l) (.ptr b (S.length * 6) ((i - 1) * 6 + 2)) = _ := fun l => ldIdL (gc_app rd.row) hqi
      have r3 : ∀ l, stepLoad 6 true (h ++ l) (.ptr b (S.length * 6) ((i - 1) * 6)) = _ := fun l => ldRowL (gc_app rd.row) hqi
      have rv : ∀ l, stepLoad 1 false (h ++ l) (.ptr c 1 0) = some (.hsl b (S.length * 6) 0 6 true S.length) := fun l => by simp [stepLoad, gc_app rd.var, rowV]
      have x2 : ∀ l : Heap, stepIdxS 6 (h ++ l) ((i - 1 : Nat) : Int) (.hsl b (S.length * 6) 0 6 true S.length) = some (.ptr b (S.length * 6) ((i - 1) * 6)) := fun l => idxL (gc_app rd.row) (by omega)
      by_cases he : q.id = o.id
      · rw [if_pos he] at hD
        have he1 : decide (q.id.time = o.id.time) = true := by rw [he]; simp
        have he2 : decide (q.id.actor = o.id.actor) = true := by rw [he]; simp
        have hm3 : (decide (q.kind = o.kind) && (decide (q.char = o.char) && (decide (q.at_.time = o.at_.time) && decide (q.at_.actor = o.at_.actor)))) = decide (q = o) := by
          rw [← eq_TLOp]
          simp only [eqL, eqV, he1, he2, Bool.true_and, Bool.and_true]
        by_cases hm : q = o
        · rw [if_pos hm] at hD
          rw [decide_eq_true hm] at hm3
          simp (maxSteps := 2000000) (disch := omega) only [gw, Nat.reduceAdd, Nat.reduceMul, g6, g7, g40, g41, g42, hlt, x1, r1, cellsV_TLOp, h0', x2, rv, r2, r3, he1, he2, hm3]
          exact hn _ _ _ (by omega) ⟨i + 1, v, acc, rfl, by omega, by omega, g6, g7, g40, g41, rfl, rd.app _, lf.app _, by rw [if_neg (Nat.succ_ne_zero i), Nat.add_sub_cancel, hoi]; exact hD⟩
        · rw [if_neg hm] at hD
          rw [decide_eq_false hm] at hm3
          simp (maxSteps := 2000000) (disch := omega) only [gw, Nat.reduceAdd, Nat.reduceMul, g6, g7, g40, g41, g42, hlt, x1, r1, cellsV_TLOp, h0', x2, rv, r2, r3, he1, he2, hm3]
          exact hx _ _ _ (by simp) (hR hD _ _ rfl rfl)
      · rw [if_neg he] at hD
        have hne : (decide (q.id.time = o.id.time) && decide (q.id.actor = o.id.actor)) = false := by
          have e := eq_TStamp (x := q.id) (y := o.id)
          simp only [eqL, eqV, Bool.and_true] at e
          rw [e, decide_eq_false he]
        simp (maxSteps := 2000000) (disch := omega) only [gw, Nat.reduceAdd, Nat.reduceMul, g6, g7, g40, g41, g42, hlt, x1, r1, cellsV_TLOp, h0', x2, rv, r2, r3, hne, rT, p1, p2, p5, p6]
        obtain ⟨i', v2, acc2, q1, q2, q3, rfl, q4, q5, q6⟩ := step hD
        exact hn _ _ _ (by omega) ⟨i + 1, v2, acc2, rfl, q2, q3, g6, g7, g40, g41, rfl, q4, q5, q6⟩
  · simp (maxSteps := 2000000) (disch := omega) only [gw, Nat.reduceAdd, Nat.reduceMul, g6, g7, g40, g41, g42, hlt]
    refine hx _ _ _ (by simp) (hQ _ _ v acc ?_ g7 lf)
    rw [hD, List.drop_of_length_le (by omega)]
    rfl
end Go.AM

set_option linter.unusedVariables false
set_option linter.unusedSimpArgs false
set_option maxRecDepth 20000
namespace Go.AM
open Pic (enc dec dec_enc dec_sub)
open PicA (encA decA decA_encA decA_sub)

theorem insV_set {α : Type} {ks : List TStamp} {vs : List α} {k : TStamp} {x : α} {i : Nat} {y : α} (h : (insV ks vs k x)[i]? = some y) : y = x ∨ vs[i]? = some y := by
  unfold insV at h
  cases e : idxK ks k with
  | some j =>
    rw [e] at h
    simp only at h
    rw [List.getElem?_set] at h
    split at h
    · split at h
      · exact .inl (Option.some.inj h).symm
      · cases h
    · exact .inr h
  | none =>
    rw [e] at h
    simp only at h
    rw [List.getElem?_append] at h
    split at h
    · exact .inr h
    · rw [List.getElem?_singleton] at h
      split at h
      · exact .inl (Option.some.inj h).symm
      · cases h
theorem insKV_l {α : Type} {ks : List TStamp} {vs : List α} {k : TStamp} {x : α} (h : ks.length = vs.length) : (insK ks k).length = (insV ks vs k x).length := by
  unfold insK insV
  cases idxK ks k with
  | some j => simp [h]
  | none => simp [h]
/-- Nobody follows yet. -/
structure K0 (h : Heap) (m : Nat) (ks : List TStamp) (ls : List (List TLOp)) (vs : List V) : Prop where
  mp : h[m]? = some (.map (ks.map skI) vs)
  l1 : ks.length = vs.length
  l2 : ks.length = ls.length
  e1 : ∀ (i : Nat) (v : V), vs[i]? = some v → v = .i (.s (.slice none 0 0))
  e2 : ∀ (i : Nat) (l : List TLOp), ls[i]? = some l → l = []
theorem K0.kf {h : Heap} {m : Nat} {ks : List TStamp} {ls : List (List TLOp)} {vs : List V} (r : K0 h m ks ls vs) : KF h m ks ls vs :=
  ⟨r.mp, by rw [← r.l1, r.l2], r.l2, fun i v l h1 h2 => .inl ⟨r.e2 i l h2, r.e1 i v h1⟩, fun i j x a n b k _ h1 _ => by have := r.e1 i _ h1; cases this⟩
theorem K0.set {h : Heap} {m : Nat} {ks : List TStamp} {ls : List (List TLOp)} {vs : List V} (r : K0 h m ks ls vs) (k : TStamp) : K0 (h.set m (.map ((insK ks k).map skI) (insV ks vs k (.i (.s (.slice none 0 0)))))) m (insK ks k) (insV ks ls k []) (insV ks vs k (.i (.s (.slice none 0 0)))) :=
  ⟨List.getElem?_set_self (List.getElem?_eq_some_iff.1 r.mp).1, insKV_l r.l1, insKV_l r.l2, fun i v e => (insV_set e).elim id (r.e1 i v), fun i l e => (insV_set e).elim id (r.e2 i l)⟩
theorem K0.app {h : Heap} {m : Nat} {ks : List TStamp} {ls : List (List TLOp)} {vs : List V} (r : K0 h m ks ls vs) (l : Heap) : K0 (h ++ l) m ks ls vs :=
  ⟨by rw [List.getElem?_append_left (List.getElem?_eq_some_iff.1 r.mp).1]; exact r.mp, r.l1, r.l2, r.e1, r.e2⟩
/-- The list where all below m stands. -/
theorem LF.below {h h' : Heap} {g p T m : Nat} {v : V} {ops : List TLOp} {gone : List TStamp} {pl : List (TStamp × Int)} (r : LF h g p T v (.i (.s (.slice none 0 0))) ops [] gone pl) (hT : T < m) (hv : ∀ b a n, v = .hsl b a 0 6 true n → b < m) (k : ∀ x, x < m → h'[x]? = h[x]?) : LF h' g p T v (.i (.s (.slice none 0 0))) ops [] gone pl := by
  have := r.gT
  have := r.pT
  exact ⟨(getCells_congr (k T hT)).trans r.tr, r.lo.keep fun b a n e => k b (hv b a n e), .inl ⟨rfl, rfl⟩, (k g (by omega)).trans r.mg, (k p (by omega)).trans r.mp, r.gT, r.pT, r.gp⟩

theorem initL {t : Nat → V} {P : Program} {env : Env} {Q : Post} {h : Heap} {g p T m : Nat} {v : V} {l : List TLOp} {ks : List TStamp} {ls : List (List TLOp)} {vs : List V} (hl : l.length ≤ 2048) (lf : LF h g p T v (.i (.s (.slice none 0 0))) l [] [] []) (hT : T < m) (hv : ∀ b a n, v = .hsl b a 0 6 true n → b < m) (k0 : K0 h m ks ls vs)
    (g7 : t 7 = .ptr T 4 0) (g10 : t 10 = .mp m) (g84 : t 84 = v) (g85 : t 85 = .i (.s (.int .i64 (l.length : Int)))) (g86 : t 86 = .i (.s (.int .i64 0)))
    (hQ : ∀ t' h' vs', t' 7 = .ptr T 4 0 → t' 10 = .mp m → LF h' g p T v (.i (.s (.slice none 0 0))) l [] [] [] → K0 h' m (initK l ks ls).1 (initK l ks ls).2 vs' → Q (.exit 4) t' h') :
    @W P env ⟨(.loop (.seq (.ops [(qS 87 (.pu (.n (.ar .lss)) [(.tmp 86), (.tmp 85)]))]) (.seq (.cond (.tmp 87) .skip (.exit 4)) (.seq (.block 5 (.seq (.ops [(qS 88 (.idxS 6 (.tmp 84) (.tmp 86))), (qS 89 (.load 6 true (.tmp 88))), (qS 12 (.allocV [(0, false), (0, false), (0, false), (0, false), (0, false), (0, false)] [(.int .i64 0), (.int .i64 0), (.int .i64 0), (.int .i64 0), (.int .i64 0), (.int .i64 0)])), ⟨.none, (.storeV [(0, false), (0, false), (0, false), (0, false), (0, false), (0, false)] 6 (.tmp 12) (.tmp 89)), .none, [], .none⟩]) (.seq (.ops [(qS 90 (.fieldA 0 (.tmp 12))), (qS 91 (.load 1 false (.tmp 90))), (qS 92 (.pu (.n (.ar .eql)) [(.tmp 91), (ic 1)]))]) (.cond (.tmp 92) (.ops [(qS 93 (.mv (.tmp 10))), (qS 94 (.fieldA 2 (.tmp 12))), (qS 95 (.load 2 true (.tmp 94))), ⟨.none, (.mapSet true [(.int .i64), (.int .i64)] (.tmp 93) (.tmp 95) (.const (.slice .none 0 0))), .none, [], .none⟩]) .skip)))) (.ops [(qS 96 (.pu (.n (.ar .add)) [(.tmp 86), (ic 1)])), (qS 86 (.mv (.tmp 96)))])))))⟩ t h ⟨Q⟩ := by
  obtain ⟨D, hD⟩ : ∃ D, D = initK l ks ls := ⟨_, rfl⟩
  rw [← hD] at hQ
  refine W_loopK (fun n t h => ∃ (i : Nat) (ks : List TStamp) (ls : List (List TLOp)) (vs : List V), n = l.length - i ∧ i ≤ l.length ∧ t 7 = .ptr T 4 0 ∧ t 10 = .mp m ∧ t 84 = v ∧ t 85 = .i (.s (.int .i64 (l.length : Int))) ∧ t 86 = .i (.s (.int .i64 (i : Int))) ∧ LF h g p T v (.i (.s (.slice none 0 0))) l [] [] [] ∧ K0 h m ks ls vs ∧ D = initK (l.drop i) ks ls) l.length ⟨0, ks, ls, vs, rfl, Nat.zero_le _, g7, g10, g84, g85, g86, lf, k0, hD⟩ ?_
  clear g7 g10 g84 g85 g86 lf k0 hD
  rintro K n t h hn hx ⟨i, ks, ls, vs, rfl, hi, g7, g10, g84, g85, g86, lf, k0, hD⟩
  by_cases hlt : i < l.length
  · obtain ⟨o, ho⟩ : ∃ o, o = l[i] := ⟨_, rfl⟩
    have hoi : l[i]? = some o := by rw [ho]; exact List.getElem?_eq_getElem hlt
    have hdr : l.drop i = o :: l.drop (i + 1) := by rw [ho, List.getElem_cons_drop]
    rw [hdr, initK] at hD
    rcases lf.lo with ⟨rfl, _⟩ | ⟨B, hTB, hvB, hB⟩
    · exact absurd hlt (Nat.not_lt_zero _)
    · have r1 := ldRowL hB hoi
      have x1 := idxL hB hlt
      have hvB' := hvB
      rw [hvB] at g84
      have rM : ∀ l2, mapAt (h ++ l2) (.mp m) = some (m, ks.map skI, vs) := fun l2 => by simp only [mapAt, (k0.app l2).mp]
      by_cases hk : o.kind = 1
      · rw [if_pos hk] at hD
        have hk' := decide_eq_true hk
        have lm := (List.getElem?_eq_some_iff.1 k0.mp).1
        have hid1 : insK ks ⟨o.id.time, o.id.actor⟩ = insK ks o.id := rfl
        have hid2 : insV ks vs ⟨o.id.time, o.id.actor⟩ (V.i (.s (.slice none 0 0))) = insV ks vs o.id (.i (.s (.slice none 0 0))) := rfl
        simp (maxSteps := 2000000) (disch := omega) only [gw, Nat.reduceAdd, Nat.reduceMul, g7, g10, g84, g85, g86, hlt, x1, r1, cellsV_TLOp, hk', rM, keyV_v, keyV_s, sk_keys, hit_sk, fits_sk, set_sk, hid1, hid2]
        exact hn _ _ _ (by omega) ⟨i + 1, _, _, _, rfl, by omega, g7, g10, g84.trans hvB'.symm, g85, rfl, lf.below hT hv (fun x hx => by rw [List.getElem?_append_left (by rw [List.length_set]; omega), List.getElem?_set_ne (by omega)]), (k0.set o.id).app _, hD⟩
      · rw [if_neg hk] at hD
        have hk' : decide (o.kind = 1) = false := by simp [hk]
        simp (maxSteps := 2000000) (disch := omega) only [gw, Nat.reduceAdd, Nat.reduceMul, g7, g10, g84, g85, g86, hlt, x1, r1, cellsV_TLOp, hk']
        exact hn _ _ _ (by omega) ⟨i + 1, ks, ls, vs, rfl, by omega, g7, g10, g84.trans hvB'.symm, g85, rfl, lf.app _, k0.app _, hD⟩
  · simp (maxSteps := 2000000) (disch := omega) only [gw, Nat.reduceAdd, Nat.reduceMul, g7, g10, g84, g85, g86, hlt]
    refine hx _ _ _ (by simp) (hQ _ _ vs g7 g10 lf ?_)
    rw [hD, List.drop_of_length_le (by omega)]
    exact k0

theorem goneV {gone : List TStamp} {k : TStamp} : insV gone (gone.map fun _ => V.i (.s (.bool true))) k (.i (.s (.bool true))) = (insK gone k).map fun _ => V.i (.s (.bool true)) := by
  unfold insV insK
  cases e : idxK gone k with
  | none => simp
  | some j =>
    have hj := (List.getElem?_eq_some_iff.1 (idxK_lt e)).1
    simp only
    apply List.ext_getElem?
    intro i
    rw [List.getElem?_set]
    split
    · rename_i hij
      subst hij
      rw [if_pos (by simpa using hj), List.getElem?_map, List.getElem?_eq_getElem hj]
      rfl
    · rfl
theorem KF.push {h : Heap} {m : Nat} {ks : List TStamp} {ls : List (List TLOp)} {vs : List V} (r : KF h m ks ls vs) {k : TStamp} {j : Nat} (hj : idxK ks k = some j) (x : TLOp) (hl : (ls.getD j []).length ≤ 1000000) :
    ∃ v v' h', vs[j]? = some v ∧ j < vs.length ∧ stepAppend none 6 true 48 h (cellsV x) 1 v = some (v', h') ∧ h'[m]? = some (.map (ks.map skI) vs) ∧ KF (h'.set m (.map (ks.map skI) (vs.set j v'))) m ks (ls.set j (ls.getD j [] ++ [x])) (vs.set j v') ∧ ∀ b, b < m → (h'.set m (.map (ks.map skI) (vs.set j v')))[b]? = h[b]? := by
  have hm := (List.getElem?_eq_some_iff.1 r.mp).1
  have h1 := (List.getElem?_eq_some_iff.1 (idxK_lt hj)).1
  have h2 : j < vs.length := by rw [r.l1, ← r.l2]; exact h1
  have h3 : j < ls.length := by rw [← r.l2]; exact h1
  have hv : vs[j]? = some vs[j] := List.getElem?_eq_getElem h2
  have hlj : ls[j]? = some ls[j] := List.getElem?_eq_getElem h3
  have hgd : ls.getD j [] = ls[j] := by simp [h3]
  rw [hgd] at hl ⊢
  have ho := r.at_ j _ _ hv hlj
  obtain ⟨v', h', e1, e2, e3, e4, e5⟩ := ho.push (y := 48) rfl x (by omega) hm
  have hlow : ∀ b, b ≤ m → ∀ g n, vs[j] ≠ .hsl b g 0 6 true n := fun b hb g n e => by
    have := (ho.lt b g n e).2
    omega
  have s1 : ∀ (M : Slot) x, x ≠ m → (h'.set m M)[x]? = h'[x]? := fun M x hx => List.getElem?_set_ne (Ne.symm hx)
  have hm' : h'[m]? = some (.map (ks.map skI) vs) := (e3 m hm (hlow m (Nat.le_refl _))).trans r.mp
  refine ⟨_, v', h', hv, h2, e1, hm', ⟨List.getElem?_set_self (by omega), by simp [r.l1], by simp [r.l2], ?_, ?_⟩, ?_⟩
  · intro i u l hu hl2
    rw [List.getElem?_set] at hu hl2
    by_cases hij : j = i
    · rw [if_pos hij, if_pos (by omega)] at hu hl2
      cases hu
      cases hl2
      exact e2.keep fun b a n e => s1 _ b (by have := (e2.lt b a n e).2; omega)
    · rw [if_neg hij] at hu hl2
      have hu' := r.at_ i u l hu hl2
      refine hu'.keep fun b a n e => ?_
      have hb := hu'.lt b a n e
      rw [s1 _ b (by omega)]
      refine e3 b hb.1 fun a' n' e' => ?_
      rw [e'] at hv
      rw [e] at hu
      exact r.dis j i b a' n' a n hij hv hu
  · intro i i' y a n a' n' hne q1 q2
    rw [List.getElem?_set] at q1 q2
    have hnew : ∀ (i2 : Nat) y a n, i2 ≠ j → v' = .hsl y a 0 6 true n → ∀ a' n', vs[i2]? = some (.hsl y a' 0 6 true n') → False := by
      intro i2 y a n hi2 hy a' n' q
      rcases e5 y a n hy with ⟨a2, n2, e6⟩ | hge
      · rw [e6] at hv
        exact r.dis j i2 y a2 n2 a' n' (Ne.symm hi2) hv q
      · have hi3 : i2 < ls.length := by rw [← r.l1]; exact (List.getElem?_eq_some_iff.1 q).1
        have := (r.at_ i2 _ ls[i2] q (List.getElem?_eq_getElem hi3)).lt y a' n' rfl
        omega
    by_cases h4 : j = i
    · rw [if_pos h4, if_pos (by omega)] at q1
      rw [if_neg (by omega)] at q2
      exact hnew i' y a n (by omega) (Option.some.inj q1) a' n' q2
    · rw [if_neg h4] at q1
      by_cases h5 : j = i'
      · rw [if_pos h5, if_pos (by omega)] at q2
        exact hnew i y a' n' (by omega) (Option.some.inj q2) a n q1
      · rw [if_neg h5] at q2
        exact r.dis i i' y a n a' n' hne q1 q2
  · intro b hb
    exact (s1 _ b (by omega)).trans (e3 b (by omega) (hlow b (by omega)))
end Go.AM

set_option linter.unusedVariables false
set_option linter.unusedSimpArgs false
set_option maxRecDepth 20000
namespace Go.AM
open Pic (enc dec dec_enc dec_sub)
open PicA (encA decA decA_encA decA_sub)

theorem entM_some {kg : Bool} {a : List Value} {x : V} {kl : List I} {vl : List V} {j : Nat} : entM kg a x kl vl (some j) = .map kl vl := rfl
theorem entJ_some {n j : Nat} : entJ n (some j) = j := rfl
theorem set_same {h : Heap} {m : Nat} {s : Slot} (hm : h[m]? = some s) : h.set m s = h := by
  apply List.ext_getElem?
  intro i
  rw [List.getElem?_set]
  split
  · rename_i e
    subst e
    rw [if_pos (List.getElem?_eq_some_iff.1 hm).1, hm]
  · rfl
theorem LF.setG {h : Heap} {g p T : Nat} {v : V} {ops : List TLOp} {gone gone' : List TStamp} {pl : List (TStamp × Int)} (r : LF h g p T v (.i (.s (.slice none 0 0))) ops [] gone pl) : LF (h.set g (.map (gone'.map skI) (gone'.map fun _ => .i (.s (.bool true))))) g p T v (.i (.s (.slice none 0 0))) ops [] gone' pl := by
  have := r.gT
  have := r.pT
  have := gc_lt r.tr
  have k : ∀ (M : Slot) x, x ≠ g → (h.set g M)[x]? = h[x]? := fun M x hx => List.getElem?_set_ne (Ne.symm hx)
  exact ⟨(getCells_congr (k _ T (by omega))).trans r.tr, r.lo.keep fun b a n e => k _ b (by have := (r.lo.lt b a n e).2; omega), .inl ⟨rfl, rfl⟩, List.getElem?_set_self (by omega), (k _ p (Ne.symm r.gp)).trans r.mp, r.gT, r.pT, r.gp⟩

theorem fillL {t : Nat → V} {P : Program} {env : Env} {Q : Post} {h : Heap} {g p T m : Nat} {v : V} {l : List TLOp} {ks : List TStamp} {ls : List (List TLOp)} {vs : List V} (hl : l.length ≤ 2048) (lf : LF h g p T v (.i (.s (.slice none 0 0))) l [] [] []) (hT : T < m) (hv : ∀ b a n, v = .hsl b a 0 6 true n → b < m) (kf : KF h m ks ls vs) (h0 : ∀ x, x ∈ ls → x = [])
    (g7 : t 7 = .ptr T 4 0) (g10 : t 10 = .mp m) (g84 : t 100 = v) (g85 : t 101 = .i (.s (.int .i64 (l.length : Int)))) (g86 : t 102 = .i (.s (.int .i64 0)))
    (hQ : ∀ t' h' ls' vs' gone, fillK ks l ls [] = some (ls', gone) → (∀ x, x ∈ ls' → x.length ≤ 2048) → t' 7 = .ptr T 4 0 → t' 10 = .mp m → LF h' g p T v (.i (.s (.slice none 0 0))) l [] gone [] → KF h' m ks ls' vs' → Q (.exit 6) t' h')
    (hR : fillK ks l ls [] = none → ∀ t' h', t' 2 = .i (.s (.pointer none)) → t' 3 = .i (.s (.int .i64 5)) → Q .ret t' h') :
    @W P env ⟨(.loop (.seq (.ops [(qS 103 (.pu (.n (.ar .lss)) [(.tmp 102), (.tmp 101)]))]) (.seq (.cond (.tmp 103) .skip (.exit 6)) (.seq (.block 7 (.seq (.ops [(qS 104 (.idxS 6 (.tmp 100) (.tmp 102))), (qS 105 (.load 6 true (.tmp 104))), (qS 14 (.allocV [(0, false), (0, false), (0, false), (0, false), (0, false), (0, false)] [(.int .i64 0), (.int .i64 0), (.int .i64 0), (.int .i64 0), (.int .i64 0), (.int .i64 0)])), ⟨.none, (.storeV [(0, false), (0, false), (0, false), (0, false), (0, false), (0, false)] 6 (.tmp 14) (.tmp 105)), .none, [], .none⟩]) (.seq (.seq (.ops [(qS 107 (.mv (.tmp 10))), (qS 108 (.fieldA 4 (.tmp 14))), (qS 109 (.load 2 true (.tmp 108))), (qS 110 (.lookup true [(.int .i64), (.int .i64)] false [(.slice .none 0 0)] true (.tmp 107) (.tmp 109))), (qS 106 (.mv (.tmp 110))), (qS 111 (.extract 0 (.tmp 106))), (qS 112 (.extract 1 (.tmp 106))), (qS 15 (.mv (.tmp 111))), (qS 16 (.mv (.tmp 112)))]) (.seq (.ops [(qS 113 (.mv (.tmp 16))), (qS 114 (.pu (.n (.un .not)) [(.tmp 113)]))]) (.cond (.tmp 114) (.seq (.ops [(qS 2 (.mv (.const (.pointer .none)))), (qS 3 (.mv (ic 5)))]) .ret) .skip))) (.seq (.ops [(qS 115 (.fieldA 0 (.tmp 14))), (qS 116 (.load 1 false (.tmp 115))), (qS 117 (.pu (.n (.ar .eql)) [(.tmp 116), (ic 1)]))]) (.cond (.tmp 117) (.ops [(qS 118 (.mv (.tmp 10))), (qS 119 (.fieldA 4 (.tmp 14))), (qS 120 (.load 2 true (.tmp 119))), (qS 122 (.load 6 true (.tmp 14))), (qS 123 (.buildSl 6 true 1 [(.int .i64 0), (.int .i64 0), (.int .i64 0), (.int .i64 0), (.int .i64 0), (.int .i64 0)] [(0, (.tmp 122))])), (qS 124 (.mapEntry true [(.int .i64), (.int .i64)] false [(.slice .none 0 0)] (.tmp 118) (.tmp 120))), (qS 121 (.extract 0 (.tmp 124))), (qS 125 (.append 6 true 48 (.tmp 121) (.tmp 123))), (qS 126 (.extract 1 (.tmp 124))), ⟨.none, (.entryStore (.tmp 118) (.tmp 126) (.tmp 125)), .none, [], .none⟩]) (.ops [(qS 127 (.mv (.tmp 7))), (qS 128 (.nilChk (.tmp 127))), (qS 129 (.fieldA 2 (.tmp 128))), (qS 130 (.load 1 false (.tmp 129))), (qS 131 (.fieldA 4 (.tmp 14))), (qS 132 (.load 2 true (.tmp 131))), ⟨.none, (.mapSet true [(.int .i64), (.int .i64)] (.tmp 130) (.tmp 132) (.const (.bool true))), .none, [], .none⟩])))))) (.ops [(qS 133 (.pu (.n (.ar .add)) [(.tmp 102), (ic 1)])), (qS 102 (.mv (.tmp 133)))])))))⟩ t h ⟨Q⟩ := by
  obtain ⟨D, hD⟩ : ∃ D, D = fillK ks l ls [] := ⟨_, rfl⟩
  rw [← hD] at hQ hR
  refine W_loopK (fun n t h => ∃ (i : Nat) (ls : List (List TLOp)) (vs : List V) (gone : List TStamp), n = l.length - i ∧ i ≤ l.length ∧ (∀ x, x ∈ ls → x.length ≤ i) ∧ t 7 = .ptr T 4 0 ∧ t 10 = .mp m ∧ t 100 = v ∧ t 101 = .i (.s (.int .i64 (l.length : Int))) ∧ t 102 = .i (.s (.int .i64 (i : Int))) ∧ LF h g p T v (.i (.s (.slice none 0 0))) l [] gone [] ∧ KF h m ks ls vs ∧ D = fillK ks (l.drop i) ls gone) l.length ⟨0, ls, vs, [], rfl, Nat.zero_le _, fun x hx => by rw [h0 x hx]; exact Nat.le_refl _, g7, g10, g84, g85, g86, lf, kf, hD⟩ ?_
  clear g7 g10 g84 g85 g86 lf kf hD h0
  rintro K n t h hn hx ⟨i, ls, vs, gone, rfl, hi, hli, g7, g10, g84, g85, g86, lf, kf, hD⟩
  by_cases hlt : i < l.length
  · obtain ⟨o, ho⟩ : ∃ o, o = l[i] := ⟨_, rfl⟩
    have hoi : l[i]? = some o := by rw [ho]; exact List.getElem?_eq_getElem hlt
    have hdr : l.drop i = o :: l.drop (i + 1) := by rw [ho, List.getElem_cons_drop]
    rw [hdr, fillK] at hD
    rcases lf.lo with ⟨rfl, _⟩ | ⟨B, hTB, hvB, hB⟩
    · exact absurd hlt (Nat.not_lt_zero _)
    · have r1 := ldRowL hB hoi
      have x1 := idxL hB hlt
      have hvB' := hvB
      rw [hvB] at g84
      have lm := (List.getElem?_eq_some_iff.1 kf.mp).1
      have rM : ∀ l2, mapAt (h ++ l2) (.mp m) = some (m, ks.map skI, vs) := fun l2 => by simp only [mapAt, List.getElem?_append_left lm, kf.mp]
      have rR : ∀ l2, mapR (h ++ l2) (.mp m) = some (m, ks.map skI, vs) := rM
      cases hj : idxK ks o.at_ with
      | none =>
        rw [hj] at hD
        have hid : idxK ks ⟨o.at_.time, o.at_.actor⟩ = none := hj
        have hlk : lookV false [.slice none 0 0] vs none = some (.i (.s (.slice none 0 0))) := rfl
        have hsn : (none : Option Nat).isSome = false := rfl
        simp (maxSteps := 2000000) (disch := omega) only [gw, Nat.reduceAdd, Nat.reduceMul, g7, g10, g84, g85, g86, hlt, x1, r1, cellsV_TLOp, rR, keyV_v, keyV_s, sk_keys, hit_sk, fits_sk, hid, hlk, hsn]
        exact hx _ _ _ (by simp) (hR hD _ _ rfl rfl)
      | some j =>
        rw [hj] at hD
        have hid : idxK ks ⟨o.at_.time, o.at_.actor⟩ = some j := hj
        simp only at hD
        obtain ⟨w, k1, k2⟩ := kf.look o.at_
        rw [hj] at k1
        have hsn : (some j).isSome = true := rfl
        by_cases hk : o.kind = 1
        · rw [if_pos hk] at hD
          have hk' := decide_eq_true hk
          have kf1 := kf.keep (h' := h ++ [Slot.cells (cellsV o), Slot.cells (cellsV o)]) (fun b _ hl => List.getElem?_append_left hl)
          have hgl : (ls.getD j []).length ≤ i := by
            simp only [List.getD_eq_getElem?_getD]
            cases e : ls[j]? with
            | none => exact Nat.zero_le _
            | some x => exact hli x (List.mem_of_getElem? e)
          obtain ⟨u, u', h', p1, p2, p3, p4, p5, p6⟩ := kf1.push hj o (by omega)
          have hwu : u = w := by
            have : vs[j]? = some w := k1
            rw [p1] at this
            exact Option.some.inj this
          subst hwu
          have hsame : ∀ l2, (h ++ l2).set m (.map (ks.map skI) vs) = h ++ l2 := fun l2 => set_same (by rw [List.getElem?_append_left lm]; exact kf.mp)
          have rM' : mapAt h' (.mp m) = some (m, ks.map skI, vs) := by simp only [mapAt, p4]
          simp only [cellsV_TLOp] at p3
          have hint : intV (.i (.s (.int .i64 (j : Int)))) = some (j : Int) := rfl
          have h0j : (0 : Int) ≤ (j : Int) ∧ (j : Int) < (vs.length : Int) := ⟨by omega, by omega⟩
          simp (maxSteps := 2000000) (disch := omega) only [gw, Nat.reduceAdd, Nat.reduceMul, g7, g10, g84, g85, g86, hlt, x1, r1, cellsV_TLOp, rR, rM, keyV_v, keyV_s, sk_keys, hit_sk, fits_sk, hid, k1, hsn, hk', entM_some, entJ_some, hsame, p3, rM', hint, h0j, Int.toNat_natCast]
          have lf1 := (lf.app [Slot.cells (cellsV o), Slot.cells (cellsV o)]).below hT hv p6
          exact hn _ _ _ (by omega) ⟨i + 1, _, _, gone, rfl, by omega, by
            intro x hx
            rcases List.mem_or_eq_of_mem_set hx with h1 | h1
            · have := hli x h1; omega
            · rw [h1, List.length_append, List.length_cons, List.length_nil]; omega, g7, g10, g84.trans hvB'.symm, g85, rfl, lf1, p5, hD⟩
        · rw [if_neg hk] at hD
          have hk' : decide (o.kind = 1) = false := by simp [hk]
          have rT : ∀ l2, getCells (h ++ l2) T 4 = some [v, .i (.s (.slice none 0 0)), .mp g, .mp p] := fun l2 => gc_app lf.tr
          have rG : ∀ l2, mapAt (h ++ l2) (.mp g) = some (g, gone.map skI, gone.map fun _ => V.i (.s (.bool true))) := fun l2 => by simp only [mapAt, (lf.app l2).mg]
          have hid1 : insK gone ⟨o.at_.time, o.at_.actor⟩ = insK gone o.at_ := rfl
          simp (maxSteps := 2000000) (disch := omega) only [gw, Nat.reduceAdd, Nat.reduceMul, g7, g10, g84, g85, g86, hlt, x1, r1, cellsV_TLOp, rR, keyV_v, keyV_s, sk_keys, hit_sk, fits_sk, hid, k1, hsn, hk', rT, rG, set_sk, goneV, hid1]
          have hgT := lf.gT
          have lf1 := (lf.app [Slot.cells (cellsV o)]).setG (gone' := insK gone o.at_)
          have kf1 := kf.keep (h' := (h ++ [Slot.cells (cellsV o)]).set g (.map ((insK gone o.at_).map skI) ((insK gone o.at_).map fun _ => .i (.s (.bool true))))) (fun b hb hl => by rw [List.getElem?_set_ne (by omega), List.getElem?_append_left hl])
          exact hn _ _ _ (by omega) ⟨i + 1, ls, vs, _, rfl, by omega, fun x hx => by have := hli x hx; omega, g7, g10, g84.trans hvB'.symm, g85, rfl, lf1, kf1, hD⟩
  · simp (maxSteps := 2000000) (disch := omega) only [gw, Nat.reduceAdd, Nat.reduceMul, g7, g10, g84, g85, g86, hlt]
    refine hx _ _ _ (by simp) (hQ _ _ ls vs gone ?_ (fun x hx => by have := hli x hx; omega) g7 g10 lf kf)
    rw [hD, List.drop_of_length_le (by omega)]
    rfl
end Go.AM

set_option linter.unusedVariables false
set_option linter.unusedSimpArgs false
set_option maxRecDepth 20000
namespace Go.AM
open Pic (enc dec dec_enc dec_sub)
open PicA (encA decA decA_encA decA_sub)

theorem snap_gone {n : Nat} {f : Bool} {h : Heap} : ∀ (g : List TStamp), (g.map fun _ => V.i (.s (.bool true))).mapM (snap (n + 1) f h) = some (goneI g)
  | [] => rfl
  | x :: g => by
    have h1 : snap (n + 1) f h (V.i (.s (.bool true))) = some (.s (.bool true)) := by simp [snap, flat, isS]
    rw [List.map_cons, List.mapM_cons, snap_gone g, h1]
    rfl
theorem snap_place {n : Nat} {f : Bool} {h : Heap} : ∀ (g : List (TStamp × Int)), (g.map fun q => V.i (.s (.int .i64 q.2))).mapM (snap (n + 1) f h) = some (placeI g)
  | [] => rfl
  | x :: g => by
    have h1 : snap (n + 1) f h (V.i (.s (.int .i64 x.2))) = some (.s (.int .i64 x.2)) := by simp [snap, flat, isS]
    rw [List.map_cons, List.mapM_cons, snap_place g, h1]
    rfl
theorem LF.snap {h : Heap} {g p T : Nat} {v u : V} {ops ord : List TLOp} {gone : List TStamp} {pl : List (TStamp × Int)} (r : LF h g p T v u ops ord gone pl) (n : Nat) (f : Bool) : ∃ pic, snap (n + 4) f h (.ptr T 4 0) = some pic ∧ (dec pic : Option (Option TList)) = some (some ⟨ops, ord, gone, pl⟩) := by
  obtain ⟨x, x1, x2⟩ := snap_own (n := n + 1) (f := f) rfl rfl r.lo
  obtain ⟨y, y1, y2⟩ := snap_own (n := n + 1) (f := f) rfl rfl r.lr
  refine ⟨.ip [x, y, .im (gone.map skI) (goneI gone), .im ((pl.map Prod.fst).map skI) (placeI pl)], ?_, ?_⟩
  · have hm : Go.AM.snap (n + 3) f h (.mp g) = some (.im (gone.map skI) (goneI gone)) := by
      rw [snap_mp r.mg, snap_gone gone]
      rfl
    have hp : Go.AM.snap (n + 3) f h (.mp p) = some (.im ((pl.map Prod.fst).map skI) (placeI pl)) := by
      rw [snap_mp r.mp, snap_place pl]
      rfl
    rw [snap_ptr, r.tr, Option.bind_some, if_pos (by simp), List.drop_zero, snapA_cons, x1, snapA_cons, y1, snapA_cons, hm, snapA_cons, hp, snapA_nil]
    rfl
  · show decLi _ = _
    simp only [decLi, decMaps_enc, Option.bind_some, x2, y2, Option.map_some]
theorem dec_lin : (dec (.s (.pointer none)) : Option (Option TList)) = some none := rfl
theorem appV_lops (h : Heap) (x0 : List TLOp) (hl : x0.length ≤ 2048) : ∃ h1, stepAppend none 6 true 48 (h ++ [Slot.virt]) (rows x0) x0.length (V.hsl (List.length h) 0 0 6 true 0) = some (.hsl h.length (x0.length * 6) 0 6 true x0.length, h1) ∧ getCells h1 h.length (x0.length * 6) = some (rows x0) ∧ h1.length = h.length + 1 := by
  have hg : getCells (h ++ [Slot.virt]) h.length 0 = some [] := by rw [gc_right0]; rfl
  rw [app_hsl, if_pos ⟨.inl rfl, rfl⟩, hg, Option.bind_some]
  by_cases h0 : x0.length = 0
  · rw [if_pos h0]
    have : x0 = [] := List.eq_nil_of_length_eq_zero h0
    subst this
    exact ⟨_, rfl, hg, by simp⟩
  · rw [if_neg h0, if_pos (by omega), if_pos (by omega)]
    refine ⟨_, by rw [Nat.zero_add, Nat.zero_add], ?_, by simp⟩
    rw [List.nil_append]
    exact set_cells hg (by rw [rows_len]; rfl)

noncomputable def p_impl_readList (x0 : List TLOp) : Option (T2 (Option TList) Int) := listM x0
theorem enc_lin : enc (none : Option TList) = .s (.pointer none) := rfl
theorem keys_nil : keysI true [.int .i64, .int .i64] [] = some [] := rfl
theorem hit_nil {a : List Value} : hit a [] = none := rfl
theorem set_nil {x : V} {a b : Int} : setM true (skL ⟨a, b⟩) x [] [] none = .map ([⟨a, b⟩].map skI) [x] := rfl

theorem d_impl_readList {P : Program} {env : Env} {f_impl_lopOK f_sort_Slice f_impl_list_walk f_impl_readList_1 : Nat} (ep_impl_lopOK : env (2 * f_impl_lopOK) = pureFn true (FA fun a : TLOp => p_impl_lopOK a))
    (ex_sort_Slice : kSlice (α := TLOp) 28 f_impl_readList_1 (ltK TLOp.id) (env (2 * f_sort_Slice + 1))) (e_impl_list_walk : k_impl_list_walk (env (2 * f_impl_list_walk + 1))) (x0 : List TLOp) {b : T2 (Option TList) Int} (hp : p_impl_readList x0 = some b) : R P env (c_impl_readList f_impl_lopOK f_sort_Slice f_impl_list_walk f_impl_readList_1) ((encA (x0)).map ofI) [] (Tells true b) := by
  refine R_of (by simp [c_impl_readList, encA]) ?_
  unfold c_impl_readList
  unfold p_impl_readList listM at hp
  by_cases hl : 2048 < x0.length
  · rw [if_pos hl] at hp
    cases hp
    have hl' : (2048 : Int) < (x0.length : Int) := by omega
    simp (maxSteps := 2000000) (disch := omega) only [gw, Nat.reduceAdd, Nat.reduceMul, hl', enc_T2, enc_lin, dec_lin]
  · rw [if_neg hl] at hp
    have hl' : ¬ (2048 : Int) < (x0.length : Int) := by omega
    simp (maxSteps := 2000000) (disch := omega) only [gw, Nat.reduceAdd, Nat.reduceMul, hl']
    refine scanL_ok ep_impl_lopOK (x0 := x0) (by omega) rfl rfl rfl rfl ?_ ?_
    · intro t h g0 ha
      rw [if_neg (by rw [ha]; simp)] at hp
      obtain ⟨h1, e1, e2, e3⟩ := appV_lops h x0 (by omega)
      have hvar : getCells (h1 ++ [Slot.virt, Slot.cells [V.hsl h.length (x0.length * 6) 0 6 true x0.length]]) (h1.length + 1) 1 = some [V.hsl h.length (x0.length * 6) 0 6 true x0.length] := by rw [gc_right]; rfl
      obtain ⟨h2, s1, s2, s3⟩ := ex_sort_Slice x0 (h1 ++ [Slot.virt, Slot.cells [V.hsl h.length (x0.length * 6) 0 6 true x0.length]]) h.length (h1.length + 1) (by omega) (gc_app e2) (by omega) hvar
      simp only [z_TLOp] at s1 s2
      have hv2 : getCells h2 (h1.length + 1) 1 = some [V.hsl h.length (x0.length * 6) 0 6 true x0.length] := by
        rw [← hvar]
        exact getCells_congr (s3.at_ _ (by simp) (by simp; omega))
      have hl2 := s3.len
      simp only [List.length_append, List.length_cons, List.length_nil] at hl2
      simp (maxSteps := 2000000) (disch := omega) only [gw, Nat.reduceAdd, Nat.reduceMul, g0, lenV_pic, src_pic, e1, s1, hv2]
      have hlen : (sortL (ltK TLOp.id) x0).length = x0.length := Go.AM.sortL_len (ltK_swo TLOp.id) x0
      rw [← hlen] at s2 hv2
      have rd0 : RD (h2 ++ [Slot.map [] [], Slot.map [] [], Slot.cells [V.i (I.s (Value.slice none 0 0)), V.i (I.s (Value.slice none 0 0)), V.mp h2.length, V.mp (h2.length + 1)]]) h.length (h1.length + 1) (h2.length + 2) (sortL (ltK TLOp.id) x0) := ⟨gc_app s2, gc_app hv2, by omega, by omega⟩
      have lf0 : LF (h2 ++ [Slot.map [] [], Slot.map [] [], Slot.cells [V.i (I.s (Value.slice none 0 0)), V.i (I.s (Value.slice none 0 0)), V.mp h2.length, V.mp (h2.length + 1)]]) h2.length (h2.length + 1) (h2.length + 2) (.i (.s (.slice none 0 0))) (.i (.s (.slice none 0 0))) [] [] [] [] := by
        refine ⟨?_, .inl ⟨rfl, rfl⟩, .inl ⟨rfl, rfl⟩, ?_, ?_, by omega, by omega, by omega⟩
        · rw [gc_right]; rfl
        · rw [List.getElem?_append_right (Nat.le_refl _), Nat.sub_self]; rfl
        · rw [List.getElem?_append_right (by omega), Nat.add_sub_cancel_left]; rfl
      have hS : (sortL (ltK TLOp.id) x0).length ≤ 2048 := by omega
      rw [← hlen]
      generalize sortL (ltK TLOp.id) x0 = S at hS rd0 hp
      refine dedupL hS rd0 lf0 rfl rfl rfl rfl rfl ?_ ?_
      · clear rd0 lf0 hv2 s3 s2 s1 hvar e1 e2 e3 g0
        intro t h v l hd g7 lf
        rw [hd] at hp
        simp only at hp
        have hll : l.length ≤ 2048 := by
          have := dedK_len S none [] l hd
          simp only [List.length_nil] at this
          omega
        have lT := gc_lt lf.tr
        have rT : ∀ l2, getCells (h ++ l2) (h2.length + 2) 4 = some [v, .i (.s (.slice none 0 0)), .mp h2.length, .mp (h2.length + 1)] := fun l2 => gc_app lf.tr
        have hvl := lf.lo.len
        have hone := lf.lo.one
        have hm1 : mapAt (h ++ [Slot.map [] []]) (.mp h.length) = some (h.length, [], []) := by simp [mapAt]
        simp (maxSteps := 2000000) (disch := omega) only [gw, Nat.reduceAdd, Nat.reduceMul, g7, keyV_v, keyV_s, keyV_i, keyV_iN, keys_nil, hit_nil, set_nil, fits_sk, hm1, rT, hvl]
        have hvm : ∀ b a n, v = .hsl b a 0 6 true n → b < h.length := fun b a n e => (lf.lo.lt b a n e).1
        refine initL (m := h.length) (ks := [⟨0, 0⟩]) (ls := [[]]) (vs := [.i (.s (.slice none 0 0))]) hll (lf.app _) lT hvm ⟨?_, rfl, rfl, ?_, ?_⟩ g7 rfl rfl rfl rfl ?_
        · rw [List.getElem?_append_right (Nat.le_refl _), Nat.sub_self]; rfl
        · intro i u e
          have := List.mem_of_getElem? e
          rw [List.mem_singleton] at this
          exact this
        · intro i u e
          have := List.mem_of_getElem? e
          rw [List.mem_singleton] at this
          exact this
        generalize h.length = m at hvm lT
        clear rT hm1 lf g7
        clear t h
        intro t h vs g7 g10 lf k0
        have rT : getCells h (h2.length + 2) 4 = some [v, .i (.s (.slice none 0 0)), .mp h2.length, .mp (h2.length + 1)] := lf.tr
        generalize (initK l [⟨0, 0⟩] [[]]).1 = ks at k0 hp
        generalize (initK l [⟨0, 0⟩] [[]]).2 = ls at k0 hp
        simp (maxSteps := 2000000) (disch := omega) only [gw, Nat.reduceAdd, Nat.reduceMul, g7, rT, hvl]
        refine fillL hll lf lT hvm k0.kf (fun x hx => by
          obtain ⟨i, hi⟩ := List.getElem?_of_mem hx
          exact k0.e2 i x hi) g7 g10 rfl rfl rfl ?_ ?_
        · clear rT lf k0 g7 g10
          clear t h
          intro t h ls' vs' gone hf hb g7 g10 lf kf
          rw [hf] at hp
          obtain ⟨⟨ord, pl⟩, hw, rfl⟩ := Option.map_eq_some_iff.1 hp
          obtain ⟨u, h', q1, q2⟩ := e_impl_list_walk h _ _ _ _ _ _ _ _ _ _ _ _ lf kf lT (by
            unfold kidsK
            cases e : idxK ks ⟨0, 0⟩ with
            | none => simp
            | some j =>
              simp only [List.getD_eq_getElem?_getD]
              cases e2 : ls'[j]? with
              | none => simp
              | some x => have := hb x (List.mem_of_getElem? e2); simp only [Option.getD_some]; omega) hw
          obtain ⟨pic, sn1, sn2⟩ := q2.snap 4 true
          simp (maxSteps := 2000000) (disch := omega) only [gw, Nat.reduceAdd, Nat.reduceMul, g7, g10, q1, sn1, sn2]
        · intro hf t h g2 g3
          rw [hf] at hp
          cases hp
          simp (maxSteps := 2000000) (disch := omega) only [gw, Nat.reduceAdd, Nat.reduceMul, g2, g3, dec_lin]
      · intro hd t h g2 g3
        rw [hd] at hp
        cases hp
        simp (maxSteps := 2000000) (disch := omega) only [gw, Nat.reduceAdd, Nat.reduceMul, g2, g3, dec_lin]
    · intro t h g2 g3 ha
      rw [if_pos ha] at hp
      cases hp
      simp (maxSteps := 2000000) (disch := omega) only [gw, Nat.reduceAdd, Nat.reduceMul, g2, g3, dec_lin]
end Go.AM

set_option linter.unusedVariables false
set_option linter.unusedSimpArgs false
set_option maxRecDepth 20000
namespace Go.AM
open Pic (enc dec dec_enc dec_sub)
open PicA (encA decA decA_encA decA_sub)

abbrev liV (t : TList) : V := .i (.ip [.sl 6 (t.ops.map enc), .sl 6 (t.order.map enc), .im (t.gone.map skI) (goneI t.gone), .im ((t.place.map Prod.fst).map skI) (placeI t.place)])
theorem enc_li {t : TList} : enc (some t) = .ip [.sl 6 (t.ops.map enc), .sl 6 (t.order.map enc), .im (t.gone.map skI) (goneI t.gone), .im ((t.place.map Prod.fst).map skI) (placeI t.place)] := rfl
theorem dslL {xs : List TLOp} : (dec (.sl 6 (xs.map enc)) : Option (List TLOp)) = some xs := dec_enc xs
theorem mapR_im {h : Heap} {ks vs : List I} : mapR h (.i (.im ks vs)) = some (0, ks, vs.map .i) := rfl
def isGone (g : List TStamp) (k : TStamp) : Bool := (idxK g k).isSome
theorem look_gone {g : List TStamp} {k : TStamp} : lookV false [.bool false] ((goneI g).map .i) (idxK g k) = some (.i (.s (.bool (isGone g k)))) := by
  unfold isGone
  cases e : idxK g k with
  | none => rfl
  | some j =>
    have hj := (List.getElem?_eq_some_iff.1 (idxK_lt e)).1
    have hj2 : j < ((goneI g).map V.i).length := by simpa [goneI] using hj
    show ((goneI g).map V.i)[j]? = _
    rw [List.getElem?_map, goneI, List.getElem?_map, List.getElem?_eq_getElem hj]
    rfl
def seenL (t : TList) : List TLOp := t.order.filter fun o => !isGone t.gone o.id
noncomputable def p_impl_list_seen (x0 : Option TList) : Option (List TLOp) := x0.bind fun t => if t.order.length ≤ 1000000 then some (seenL t) else none

def c_impl_list_seen : AFn := ⟨29, (.seq (.ops [(qS 2 (.vnil 6 true))]) (.seq (.ops [(qS 3 (.vnil 6 true))]) (.seq (.seq (.ops [(qS 6 (.mv (.tmp 0))), (qS 7 (.nilChk (.tmp 6))), (qS 8 (.fieldA 1 (.tmp 7))), (qS 9 (.load 1 false (.tmp 8))), (qS 10 (.len (.tmp 9))), (qS 11 (.mv (ic 0)))]) (.block 0 (.loop (.seq (.ops [(qS 12 (.pu (.n (.ar .lss)) [(.tmp 11), (.tmp 10)]))]) (.seq (.cond (.tmp 12) .skip (.exit 0)) (.seq (.block 1 (.seq (.ops [(qS 13 (.idxS 6 (.tmp 9) (.tmp 11))), (qS 14 (.load 6 true (.tmp 13))), (qS 5 (.allocV [(0, false), (0, false), (0, false), (0, false), (0, false), (0, false)] [(.int .i64 0), (.int .i64 0), (.int .i64 0), (.int .i64 0), (.int .i64 0), (.int .i64 0)])), ⟨.none, (.storeV [(0, false), (0, false), (0, false), (0, false), (0, false), (0, false)] 6 (.tmp 5) (.tmp 14)), .none, [], .none⟩]) (.seq (.ops [(qS 15 (.mv (.tmp 0))), (qS 16 (.nilChk (.tmp 15))), (qS 17 (.fieldA 2 (.tmp 16))), (qS 18 (.load 1 false (.tmp 17))), (qS 19 (.fieldA 2 (.tmp 5))), (qS 20 (.load 2 true (.tmp 19))), (qS 21 (.lookup true [(.int .i64), (.int .i64)] false [(.bool false)] false (.tmp 18) (.tmp 20))), (qS 22 (.pu (.n (.un .not)) [(.tmp 21)]))]) (.cond (.tmp 22) (.ops [(qS 23 (.mv (.tmp 3))), (qS 24 (.load 6 true (.tmp 5))), (qS 25 (.buildSl 6 true 1 [(.int .i64 0), (.int .i64 0), (.int .i64 0), (.int .i64 0), (.int .i64 0), (.int .i64 0)] [(0, (.tmp 24))])), (qS 26 (.append 6 true 48 (.tmp 23) (.tmp 25))), (qS 3 (.mv (.tmp 26)))]) .skip)))) (.ops [(qS 27 (.pu (.n (.ar .add)) [(.tmp 11), (ic 1)])), (qS 11 (.mv (.tmp 27)))]))))))) (.seq (.ops [(qS 28 (.mv (.tmp 3))), (qS 2 (.mv (.tmp 28)))]) .ret)))), [(.tmp 2)]⟩

theorem d_impl_list_seen {P : Program} {env : Env} (x0 : Option TList) {b : List TLOp} (hp : p_impl_list_seen x0 = some b) : R P env (c_impl_list_seen) ((encA (x0)).map ofI) [] (Tells true b) := by
  obtain ⟨t, rfl, hp⟩ := Option.bind_eq_some_iff.1 hp
  have hp : (if t.order.length ≤ 1000000 then some (seenL t) else none) = some b := hp
  split at hp
  case isFalse => cases hp
  rename_i hol
  obtain ⟨D, hD⟩ : ∃ D, D = seenL t := ⟨_, rfl⟩
  have hbD : D = b := by rw [hD]; exact Option.some.inj hp
  subst hbD
  refine R_of (by simp [c_impl_list_seen, encA]) ?_
  unfold c_impl_list_seen
  simp (maxSteps := 2000000) (disch := omega) only [gw, Nat.reduceAdd, Nat.reduceMul, enc_li]
  refine W_loopK (fun n t' h => ∃ (i : Nat) (acc : List TLOp), n = t.order.length - i ∧ i ≤ t.order.length ∧ acc.length ≤ i ∧ t' 0 = liV t ∧ t' 3 = .hsl 1 (acc.length * 6) 0 6 true acc.length ∧ t' 9 = .i (.sl 6 (t.order.map enc)) ∧ t' 10 = .i (.s (.int .i64 (t.order.length : Int))) ∧ t' 11 = .i (.s (.int .i64 (i : Int))) ∧ getCells h 1 (acc.length * 6) = some (rows acc) ∧ D = acc ++ (t.order.drop i).filter fun o => !isGone t.gone o.id) t.order.length ⟨0, [], rfl, Nat.zero_le _, Nat.le_refl _, rfl, rfl, rfl, rfl, rfl, rfl, hD⟩ ?_
  clear hD hp
  rintro K n t' h hn hx ⟨i, acc, rfl, hi, hai, g0, g3, g9, g10, g11, hO, hD⟩
  by_cases hlt : i < t.order.length
  · obtain ⟨o, ho⟩ : ∃ o, o = t.order[i] := ⟨_, rfl⟩
    have hoi : t.order[i]? = some o := by rw [ho]; exact List.getElem?_eq_getElem hlt
    have hget : get? t.order (i : Int) = some o := by rw [get_nat]; exact hoi
    have hdr : t.order.drop i = o :: t.order.drop (i + 1) := by rw [ho, List.getElem_cons_drop]
    rw [hdr, List.filter_cons] at hD
    have lO := gc_lt hO
    have hid : idxK t.gone ⟨o.id.time, o.id.actor⟩ = idxK t.gone o.id := rfl
    cases hg : isGone t.gone o.id with
    | true =>
      rw [hg] at hD
      simp only [Bool.not_true, Bool.false_eq_true, if_false] at hD
      have hlk := look_gone (g := t.gone) (k := o.id)
      rw [hg] at hlk
      simp (maxSteps := 2000000) (disch := omega) only [gw, Nat.reduceAdd, Nat.reduceMul, g0, g3, g9, g10, g11, hlt, hget, enc_TLOp, mapR_im, keyV_v, keyV_s, sk_keys, hit_sk, fits_sk, hid, hlk]
      exact hn _ _ _ (by omega) ⟨i + 1, acc, rfl, by omega, by omega, g0, g3, g9, g10, rfl, gc_app hO, hD⟩
    | false =>
      rw [hg] at hD
      simp only [Bool.not_false, if_true] at hD
      have hlk := look_gone (g := t.gone) (k := o.id)
      rw [hg] at hlk
      obtain ⟨h', p1, p2, p3, p4⟩ := app_rowsL (z := 6) (h := h ++ [Slot.cells (cellsV o), Slot.cells (cellsV o)]) (B := 1) (xs := acc) (ys := [o]) (y := 48) rfl (gc_app hO) (by simp; omega)
      rw [rows_one] at p1
      simp only [cellsV_TLOp, List.length_append, List.length_cons, List.length_nil, Nat.zero_add] at p1
      simp (maxSteps := 2000000) (disch := omega) only [gw, Nat.reduceAdd, Nat.reduceMul, g0, g3, g9, g10, g11, hlt, hget, enc_TLOp, mapR_im, keyV_v, keyV_s, sk_keys, hit_sk, fits_sk, hid, hlk, p1]
      refine hn _ _ _ (by omega) ⟨i + 1, acc ++ [o], rfl, by omega, by simp; omega, g0, ?_, g9, g10, rfl, p2, by rw [List.append_assoc]; exact hD⟩
      rw [List.length_append]
      rfl
  · simp (maxSteps := 2000000) (disch := omega) only [gw, Nat.reduceAdd, Nat.reduceMul, g0, g3, g9, g10, g11, hlt]
    rw [List.drop_of_length_le (by omega), List.filter_nil, List.append_nil] at hD
    subst hD
    refine hx _ _ _ (by simp) ?_
    simp (maxSteps := 2000000) (disch := omega) only [gw, Nat.reduceAdd, Nat.reduceMul, g0, g3]
    by_cases h0 : D.length = 0
    · rw [if_pos h0, List.eq_nil_of_length_eq_zero h0]
      rfl
    · rw [if_neg h0, hO, Option.bind_some, take_rows (by rw [rows_len]; exact Nat.le_refl _), snapA_rowsF, Option.bind_some, mkRows_eq (α := TLOp) (z := 6) (ag := true) rfl rfl rfl, Option.bind_some]
      exact dec_enc D
end Go.AM

set_option linter.unusedVariables false
set_option linter.unusedSimpArgs false
set_option maxRecDepth 20000
namespace Go.AM
open Pic (enc dec dec_enc dec_sub)
open PicA (encA decA decA_encA decA_sub)

def findC (q : TStamp) : List TLCell → Option Nat
  | [] => none
  | c :: cs => if c.id = q then some 0 else (findC q cs).map (· + 1)
def insC (o : TLOp) (out : List TLCell) : Option (List TLCell) := if o.at_ = ⟨0, 0⟩ then some (⟨o.id, o.char, true⟩ :: out) else (findC o.at_ out).map fun a => out.take (a + 1) ++ ⟨o.id, o.char, true⟩ :: out.drop (a + 1)
def buildC : List TLOp → List TLCell → Option (List TLCell)
  | [], out => some out
  | o :: l, out => if o.kind = 1 then (if out.length ≤ 1000000 then (insC o out).bind (buildC l) else none) else buildC l out
def hideC (q : TStamp) (c : TLCell) : TLCell := if c.id = q then ⟨c.id, c.char, false⟩ else c
def delC : List TLOp → List TLCell → List TLCell
  | [], out => out
  | o :: l, out => delC l (if o.kind = 2 then out.map (hideC o.at_) else out)
noncomputable def p_spec_l04Cells (x0 : List TLOp) : Option (List TLCell) := if x0.length ≤ 1000000 then (buildC x0 []).bind fun out => if out.length ≤ 1000000 then some (delC x0 out) else none else none
theorem findC_some {q : TStamp} : ∀ {out : List TLCell} {a : Nat}, findC q out = some a → (∃ c, out[a]? = some c ∧ c.id = q) ∧ ∀ b c, b < a → out[b]? = some c → c.id ≠ q
  | [], a, h => by cases h
  | c :: cs, a, h => by
    rw [findC] at h
    split at h
    · rename_i e
      cases h
      exact ⟨⟨c, rfl, e⟩, fun b _ hb _ => absurd hb (Nat.not_lt_zero _)⟩
    · rename_i e
      obtain ⟨a', h1, rfl⟩ := Option.map_eq_some_iff.1 h
      obtain ⟨h2, h3⟩ := findC_some h1
      refine ⟨h2, fun b d hb hd => ?_⟩
      cases b with
      | zero => rw [← Option.some.inj hd]; exact e
      | succ b => exact h3 b d (by omega) hd
theorem q_noneS (s : TStamp) : p_spec_l02None s = some (decide (s = ⟨0, 0⟩)) := by
  cases s with
  | mk a b =>
    unfold p_spec_l02None
    simp only [decide_eq_true_eq, TStamp.mk.injEq]
    repeat' split
    all_goals (simp only [Option.some.injEq]; symm; first | (rw [decide_eq_false_iff_not]; omega) | (rw [decide_eq_true_eq]; omega) | (apply decide_eq_decide.2; omega) | simp_all)
theorem idxC {h : Heap} {b g len i : Nat} {cs : List V} (hg : getCells h b g = some cs) (hi : i < len) : stepIdxS 4 h (i : Int) (.hsl b g 0 4 true len) = some (.ptr b g (i * 4)) := by
  simp only [stepIdxS, hg]
  rw [if_pos ⟨trivial, by omega, by omega⟩]
  simp
theorem ldIdC {h : Heap} {b i : Nat} {S : List TLCell} {o : TLCell} (hg : getCells h b (S.length * 4) = some (rows S)) (ho : S[i]? = some o) : stepLoad 2 true h (.ptr b (S.length * 4) (i * 4)) = some (.agg [.i (iN o.id.time), .i (iN o.id.actor)]) := by
  have hi : i < S.length := (List.getElem?_eq_some_iff.1 ho).1
  have := rows_get_off (xs := S) (k := 0) (m := 2) ho (by decide)
  simp only [stepLoad, hg, Option.bind_some]
  rw [if_pos (by rw [rows_len, z_TLCell]; omega)]
  rw [z_TLCell, Nat.add_zero] at this
  rw [this]
  rfl

def c_spec_l04Cells (f_spec_l02None : Nat) : AFn := ⟨108, (.seq (.ops [(qS 2 (.vnil 4 true))]) (.seq (.ops [(qS 9 (.buildSl 4 true 0 [(.int .i64 0), (.int .i64 0), (.int .i64 0), (.bool false)] [])), (qS 3 (.mv (.tmp 9)))]) (.seq (.seq (.ops [(qS 4 (.mv (ic 0)))]) (.block 0 (.loop (.seq (.seq (.ops [(qS 10 (.mv (.tmp 4))), (qS 11 (.mv (.tmp 0))), (qS 12 (.len (.tmp 11))), (qS 13 (.pu (.n (.ar .lss)) [(.tmp 10), (.tmp 12)]))]) (.cond (.tmp 13) .skip (.exit 0))) (.seq (.block 1 (.seq (.seq (.ops [(qS 16 (.mv (.tmp 0))), (qS 17 (.mv (.tmp 4))), (qS 18 (.idxS 6 (.tmp 16) (.tmp 17))), (qS 19 (.fieldA 0 (.tmp 18))), (qS 20 (.load 1 false (.tmp 19))), (qS 21 (.pu (.n (.ar .neq)) [(.tmp 20), (ic 1)]))]) (.cond (.tmp 21) (.exit 1) .skip)) (.seq (.ops [(qS 5 (.mv (ic 0)))]) (.seq (.seq (.ops [(qS 22 (.mv (.tmp 0))), (qS 23 (.mv (.tmp 4))), (qS 24 (.idxS 6 (.tmp 22) (.tmp 23))), (qS 25 (.fieldA 4 (.tmp 24))), (qS 26 (.load 2 true (.tmp 25))), (qS 27 (.call (2 * f_spec_l02None) [(.tmp 26)])), (qS 28 (.pu (.n (.un .not)) [(.tmp 27)]))]) (.cond (.tmp 28) (.seq (.block 2 (.loop (.seq (.seq (.ops [(qS 29 (.mv (.tmp 3))), (qS 30 (.mv (.tmp 5))), (qS 31 (.idxS 4 (.tmp 29) (.tmp 30))), (qS 32 (.fieldA 0 (.tmp 31))), (qS 33 (.load 2 true (.tmp 32))), (qS 34 (.mv (.tmp 0))), (qS 35 (.mv (.tmp 4))), (qS 36 (.idxS 6 (.tmp 34) (.tmp 35))), (qS 37 (.fieldA 4 (.tmp 36))), (qS 38 (.load 2 true (.tmp 37))), (qS 39 (.aeq true [(.int .i64), (.int .i64)] (.tmp 33) (.tmp 38)))]) (.cond (.tmp 39) .skip (.exit 2))) (.block 3 (.ops [(qS 40 (.mv (.tmp 5))), (qS 41 (.pu (.n (.ar .add)) [(.tmp 40), (ic 1)])), (qS 5 (.mv (.tmp 41)))]))))) (.ops [(qS 42 (.mv (.tmp 5))), (qS 43 (.pu (.n (.ar .add)) [(.tmp 42), (ic 1)])), (qS 5 (.mv (.tmp 43)))])) .skip)) (.seq (.ops [(qS 44 (.mv (.tmp 3))), (qS 45 (.len (.tmp 44))), (qS 46 (.pu (.n (.ar .add)) [(.tmp 45), (ic 1)])), (qS 47 (.makeSl 4 true 32 [(.int .i64 0), (.int .i64 0), (.int .i64 0), (.bool false)] (ic 0) (.tmp 46))), (qS 6 (.mv (.tmp 47)))]) (.seq (.ops [(qS 48 (.mv (.tmp 6))), (qS 49 (.mv (.tmp 3))), (qS 50 (.mv (.tmp 5))), (qS 51 (.slice 4 (.tmp 49) .none (.some (.tmp 50)))), (qS 52 (.append 4 true 32 (.tmp 48) (.tmp 51))), (qS 6 (.mv (.tmp 52)))]) (.seq (.ops [(qS 53 (.mv (.tmp 6))), (qS 54 (.mv (.tmp 0))), (qS 55 (.mv (.tmp 4))), (qS 56 (.idxS 6 (.tmp 54) (.tmp 55))), (qS 57 (.fieldA 2 (.tmp 56))), (qS 58 (.load 2 true (.tmp 57))), (qS 59 (.mv (.tmp 0))), (qS 60 (.mv (.tmp 4))), (qS 61 (.idxS 6 (.tmp 59) (.tmp 60))), (qS 62 (.fieldA 1 (.tmp 61))), (qS 63 (.load 1 false (.tmp 62))), (qS 64 (.build [(.int .i64 0), (.int .i64 0), (.int .i64 0), (.bool false)] [(0, (2, (.tmp 58))), (2, (1, (.tmp 63))), (3, (1, (.const (.bool true))))])), (qS 65 (.buildSl 4 true 1 [(.int .i64 0), (.int .i64 0), (.int .i64 0), (.bool false)] [(0, (.tmp 64))])), (qS 66 (.append 4 true 32 (.tmp 53) (.tmp 65))), (qS 6 (.mv (.tmp 66)))]) (.ops [(qS 67 (.mv (.tmp 6))), (qS 68 (.mv (.tmp 3))), (qS 69 (.mv (.tmp 5))), (qS 70 (.slice 4 (.tmp 68) (.some (.tmp 69)) .none)), (qS 71 (.append 4 true 32 (.tmp 67) (.tmp 70))), (qS 3 (.mv (.tmp 71)))])))))))) (.ops [(qS 14 (.mv (.tmp 4))), (qS 15 (.pu (.n (.ar .add)) [(.tmp 14), (ic 1)])), (qS 4 (.mv (.tmp 15)))])))))) (.seq (.seq (.ops [(qS 7 (.mv (ic 0)))]) (.block 4 (.loop (.seq (.seq (.ops [(qS 72 (.mv (.tmp 7))), (qS 73 (.mv (.tmp 0))), (qS 74 (.len (.tmp 73))), (qS 75 (.pu (.n (.ar .lss)) [(.tmp 72), (.tmp 74)]))]) (.cond (.tmp 75) .skip (.exit 4))) (.seq (.block 5 (.seq (.ops [(qS 8 (.mv (ic 0)))]) (.block 6 (.loop (.seq (.seq (.ops [(qS 78 (.mv (.tmp 8))), (qS 79 (.mv (.tmp 3))), (qS 80 (.len (.tmp 79))), (qS 81 (.pu (.n (.ar .lss)) [(.tmp 78), (.tmp 80)])), (qS 82 (.mv (.tmp 81))), ⟨(.some 83), (.mv (.tmp 0)), (.some (82, true)), [], .none⟩, ⟨(.some 84), (.mv (.tmp 7)), (.some (82, true)), [], .none⟩, ⟨(.some 85), (.idxS 6 (.tmp 83) (.tmp 84)), (.some (82, true)), [], .none⟩, ⟨(.some 86), (.fieldA 0 (.tmp 85)), (.some (82, true)), [], .none⟩, ⟨(.some 87), (.load 1 false (.tmp 86)), (.some (82, true)), [], .none⟩, ⟨(.some 88), (.pu (.n (.ar .eql)) [(.tmp 87), (ic 2)]), (.some (82, true)), [], .none⟩, (qS 89 (.pick (.tmp 82) (.tmp 88) (.const (.bool false))))]) (.cond (.tmp 89) .skip (.exit 6))) (.seq (.block 7 (.seq (.ops [(qS 92 (.mv (.tmp 3))), (qS 93 (.mv (.tmp 8))), (qS 94 (.idxS 4 (.tmp 92) (.tmp 93))), (qS 95 (.fieldA 0 (.tmp 94))), (qS 96 (.load 2 true (.tmp 95))), (qS 97 (.mv (.tmp 0))), (qS 98 (.mv (.tmp 7))), (qS 99 (.idxS 6 (.tmp 97) (.tmp 98))), (qS 100 (.fieldA 4 (.tmp 99))), (qS 101 (.load 2 true (.tmp 100))), (qS 102 (.aeq false [(.int .i64), (.int .i64)] (.tmp 96) (.tmp 101)))]) (.cond (.tmp 102) (.ops [(qS 103 (.mv (.tmp 3))), (qS 104 (.mv (.tmp 8))), (qS 105 (.idxS 4 (.tmp 103) (.tmp 104))), (qS 106 (.fieldA 3 (.tmp 105))), ⟨.none, (.storeV [(0, false)] 1 (.tmp 106) (.const (.bool false))), .none, [], .none⟩]) .skip))) (.ops [(qS 90 (.mv (.tmp 8))), (qS 91 (.pu (.n (.ar .add)) [(.tmp 90), (ic 1)])), (qS 8 (.mv (.tmp 91)))]))))))) (.ops [(qS 76 (.mv (.tmp 7))), (qS 77 (.pu (.n (.ar .add)) [(.tmp 76), (ic 1)])), (qS 7 (.mv (.tmp 77)))])))))) (.seq (.ops [(qS 107 (.mv (.tmp 3))), (qS 2 (.mv (.tmp 107)))]) .ret))))), [(.tmp 2)]⟩

theorem find_loop {t : Nat → V} {P : Program} {env : Env} {Q : Post} {h : Heap} {B i a : Nat} {out : List TLCell} {x0 : List TLOp} {o : TLOp} (hO : getCells h B (out.length * 4) = some (rows out)) (hlen : out.length ≤ 1000000) (hget : get? x0 (i : Int) = some o) (hf : findC o.at_ out = some a)
    (g0 : t 0 = .i (.sl 6 (x0.map enc))) (g3 : t 3 = .hsl B (out.length * 4) 0 4 true out.length) (g4 : t 4 = .i (.s (.int .i64 (i : Int)))) (g5 : t 5 = .i (.s (.int .i64 0)))
    (hQ : ∀ t', t' 0 = .i (.sl 6 (x0.map enc)) → t' 3 = .hsl B (out.length * 4) 0 4 true out.length → t' 4 = .i (.s (.int .i64 (i : Int))) → t' 5 = .i (.s (.int .i64 (a : Int))) → Q (.exit 2) t' h) :
    @W P env ⟨(.loop (.seq (.seq (.ops [(qS 29 (.mv (.tmp 3))), (qS 30 (.mv (.tmp 5))), (qS 31 (.idxS 4 (.tmp 29) (.tmp 30))), (qS 32 (.fieldA 0 (.tmp 31))), (qS 33 (.load 2 true (.tmp 32))), (qS 34 (.mv (.tmp 0))), (qS 35 (.mv (.tmp 4))), (qS 36 (.idxS 6 (.tmp 34) (.tmp 35))), (qS 37 (.fieldA 4 (.tmp 36))), (qS 38 (.load 2 true (.tmp 37))), (qS 39 (.aeq true [(.int .i64), (.int .i64)] (.tmp 33) (.tmp 38)))]) (.cond (.tmp 39) .skip (.exit 2))) (.block 3 (.ops [(qS 40 (.mv (.tmp 5))), (qS 41 (.pu (.n (.ar .add)) [(.tmp 40), (ic 1)])), (qS 5 (.mv (.tmp 41)))]))))⟩ t h ⟨Q⟩ := by
  obtain ⟨⟨ca, ha1, ha2⟩, hb⟩ := findC_some hf
  have hal := (List.getElem?_eq_some_iff.1 ha1).1
  refine W_loopK (fun n t h' => ∃ k : Nat, n = a - k ∧ k ≤ a ∧ h' = h ∧ t 0 = .i (.sl 6 (x0.map enc)) ∧ t 3 = .hsl B (out.length * 4) 0 4 true out.length ∧ t 4 = .i (.s (.int .i64 (i : Int))) ∧ t 5 = .i (.s (.int .i64 (k : Int)))) a ⟨0, rfl, Nat.zero_le _, rfl, g0, g3, g4, g5⟩ ?_
  clear g0 g3 g4 g5
  rintro K n t h' hn hx ⟨k, rfl, hk, rfl, g0, g3, g4, g5⟩
  have hkl : k < out.length := by omega
  obtain ⟨c, hc⟩ : ∃ c, out[k]? = some c := ⟨_, List.getElem?_eq_getElem hkl⟩
  have x1 := idxC hO hkl
  have r1 := ldIdC hO hc
  have e0 := eq_TStamp (x := c.id) (y := o.at_)
  simp only [eqL, eqV, Bool.and_true] at e0
  by_cases e : k = a
  · subst e
    rw [ha1] at hc
    cases hc
    rw [decide_eq_true ha2] at e0
    simp (maxSteps := 2000000) (disch := omega) only [gw, Nat.reduceAdd, Nat.reduceMul, g0, g3, g4, g5, x1, r1, hget, enc_TLOp, e0]
    exact hx _ _ _ (by simp) (hQ _ g0 g3 g4 g5)
  · rw [decide_eq_false (hb k c (by omega) hc)] at e0
    simp (maxSteps := 2000000) (disch := omega) only [gw, Nat.reduceAdd, Nat.reduceMul, g0, g3, g4, g5, x1, r1, hget, enc_TLOp, e0]
    exact hn _ _ _ (by omega) ⟨k + 1, rfl, by omega, rfl, g0, g3, g4, rfl⟩
theorem build_loop {t : Nat → V} {P : Program} {env : Env} {Q : Post} {h : Heap} {f_spec_l02None B : Nat} (ep_spec_l02None : env (2 * f_spec_l02None) = pureFn true (FA fun a : TStamp => p_spec_l02None a)) {x0 : List TLOp} {outF : List TLCell} (hlen : x0.length ≤ 4611686018427387904) (hO : getCells h B 0 = some [])
    (g0 : t 0 = .i (.sl 6 (x0.map enc))) (g3 : t 3 = .hsl B 0 0 4 true 0) (g4 : t 4 = .i (.s (.int .i64 0))) (hb : buildC x0 [] = some outF)
    (hQ : ∀ t' h' B', t' 0 = .i (.sl 6 (x0.map enc)) → t' 3 = .hsl B' (outF.length * 4) 0 4 true outF.length → getCells h' B' (outF.length * 4) = some (rows outF) → Q (.exit 0) t' h') :
    @W P env ⟨((.loop (.seq (.seq (.ops [(qS 10 (.mv (.tmp 4))), (qS 11 (.mv (.tmp 0))), (qS 12 (.len (.tmp 11))), (qS 13 (.pu (.n (.ar .lss)) [(.tmp 10), (.tmp 12)]))]) (.cond (.tmp 13) .skip (.exit 0))) (.seq (.block 1 (.seq (.seq (.ops [(qS 16 (.mv (.tmp 0))), (qS 17 (.mv (.tmp 4))), (qS 18 (.idxS 6 (.tmp 16) (.tmp 17))), (qS 19 (.fieldA 0 (.tmp 18))), (qS 20 (.load 1 false (.tmp 19))), (qS 21 (.pu (.n (.ar .neq)) [(.tmp 20), (ic 1)]))]) (.cond (.tmp 21) (.exit 1) .skip)) (.seq (.ops [(qS 5 (.mv (ic 0)))]) (.seq (.seq (.ops [(qS 22 (.mv (.tmp 0))), (qS 23 (.mv (.tmp 4))), (qS 24 (.idxS 6 (.tmp 22) (.tmp 23))), (qS 25 (.fieldA 4 (.tmp 24))), (qS 26 (.load 2 true (.tmp 25))), (qS 27 (.call (2 * f_spec_l02None) [(.tmp 26)])), (qS 28 (.pu (.n (.un .not)) [(.tmp 27)]))]) (.cond (.tmp 28) (.seq (.block 2 (.loop (.seq (.seq (.ops [(qS 29 (.mv (.tmp 3))), (qS 30 (.mv (.tmp 5))), (qS 31 (.idxS 4 (.tmp 29) (.tmp 30))), (qS 32 (.fieldA 0 (.tmp 31))), (qS 33 (.load 2 true (.tmp 32))), (qS 34 (.mv (.tmp 0))), (qS 35 (.mv (.tmp 4))), (qS 36 (.idxS 6 (.tmp 34) (.tmp 35))), (qS 37 (.fieldA 4 (.tmp 36))), (qS 38 (.load 2 true (.tmp 37))), (qS 39 (.aeq true [(.int .i64), (.int .i64)] (.tmp 33) (.tmp 38)))]) (.cond (.tmp 39) .skip (.exit 2))) (.block 3 (.ops [(qS 40 (.mv (.tmp 5))), (qS 41 (.pu (.n (.ar .add)) [(.tmp 40), (ic 1)])), (qS 5 (.mv (.tmp 41)))]))))) (.ops [(qS 42 (.mv (.tmp 5))), (qS 43 (.pu (.n (.ar .add)) [(.tmp 42), (ic 1)])), (qS 5 (.mv (.tmp 43)))])) .skip)) (.seq (.ops [(qS 44 (.mv (.tmp 3))), (qS 45 (.len (.tmp 44))), (qS 46 (.pu (.n (.ar .add)) [(.tmp 45), (ic 1)])), (qS 47 (.makeSl 4 true 32 [(.int .i64 0), (.int .i64 0), (.int .i64 0), (.bool false)] (ic 0) (.tmp 46))), (qS 6 (.mv (.tmp 47)))]) (.seq (.ops [(qS 48 (.mv (.tmp 6))), (qS 49 (.mv (.tmp 3))), (qS 50 (.mv (.tmp 5))), (qS 51 (.slice 4 (.tmp 49) .none (.some (.tmp 50)))), (qS 52 (.append 4 true 32 (.tmp 48) (.tmp 51))), (qS 6 (.mv (.tmp 52)))]) (.seq (.ops [(qS 53 (.mv (.tmp 6))), (qS 54 (.mv (.tmp 0))), (qS 55 (.mv (.tmp 4))), (qS 56 (.idxS 6 (.tmp 54) (.tmp 55))), (qS 57 (.fieldA 2 (.tmp 56))), (qS 58 (.load 2 true (.tmp 57))), (qS 59 (.mv (.tmp 0))), (qS 60 (.mv (.tmp 4))), (qS 61 (.idxS 6 (.tmp 59) (.tmp 60))), (qS 62 (.fieldA 1 (.tmp 61))), (qS 63 (.load 1 false (.tmp 62))), (qS 64 (.build [(.int .i64 0), (.int .i64 0), (.int .i64 0), (.bool false)] [(0, (2, (.tmp 58))), (2, (1, (.tmp 63))), (3, (1, (.const (.bool true))))])), (qS 65 (.buildSl 4 true 1 [(.int .i64 0), (.int .i64 0), (.int .i64 0), (.bool false)] [(0, (.tmp 64))])), (qS 66 (.append 4 true 32 (.tmp 53) (.tmp 65))), (qS 6 (.mv (.tmp 66)))]) (.ops [(qS 67 (.mv (.tmp 6))), (qS 68 (.mv (.tmp 3))), (qS 69 (.mv (.tmp 5))), (qS 70 (.slice 4 (.tmp 68) (.some (.tmp 69)) .none)), (qS 71 (.append 4 true 32 (.tmp 67) (.tmp 70))), (qS 3 (.mv (.tmp 71)))])))))))) (.ops [(qS 14 (.mv (.tmp 4))), (qS 15 (.pu (.n (.ar .add)) [(.tmp 14), (ic 1)])), (qS 4 (.mv (.tmp 15)))])))))⟩ t h ⟨Q⟩ := by
  refine W_loopK (fun n t h => ∃ (i B : Nat) (out : List TLCell), n = x0.length - i ∧ i ≤ x0.length ∧ t 0 = .i (.sl 6 (x0.map enc)) ∧ t 3 = .hsl B (out.length * 4) 0 4 true out.length ∧ t 4 = .i (.s (.int .i64 (i : Int))) ∧ getCells h B (out.length * 4) = some (rows out) ∧ buildC (x0.drop i) out = some outF) x0.length ⟨0, B, [], rfl, Nat.zero_le _, g0, g3, g4, hO, hb⟩ ?_
  clear g0 g3 g4 hO hb
  rintro K n t h hn hx ⟨i, B, out, rfl, hi, g0, g3, g4, hO, hb⟩
  by_cases hlt : i < x0.length
  · obtain ⟨o, ho⟩ : ∃ o, o = x0[i] := ⟨_, rfl⟩
    have hoi : x0[i]? = some o := by rw [ho]; exact List.getElem?_eq_getElem hlt
    have hget : get? x0 (i : Int) = some o := by rw [get_nat]; exact hoi
    have hdr : x0.drop i = o :: x0.drop (i + 1) := by rw [ho, List.getElem_cons_drop]
    rw [hdr, buildC] at hb
    have lO := gc_lt hO
    by_cases hk : o.kind = 1
    · rw [if_pos hk] at hb
      have hk' := decide_eq_true hk
      split at hb
      case isFalse => cases hb
      rename_i hol
      obtain ⟨out', hi2, hb⟩ := Option.bind_eq_some_iff.1 hb
      unfold insC at hi2
      by_cases h0 : o.at_ = ⟨0, 0⟩
      · rw [if_pos h0] at hi2
        have h0' := decide_eq_true h0
        have hno : p_spec_l02None o.at_ = some true := by rw [q_noneS, h0']
        obtain ⟨h1, p1, p2, p3, p4⟩ := app_rowsL (α := TLCell) (z := 4) (y := 32) (h := h ++ [Slot.cells []]) (B := h.length) (xs := []) (ys := out.take 0) rfl (by rw [gc_right0]; rfl) (by simp <;> omega)
        obtain ⟨h2, q1, q2, q3, q4⟩ := app_rowsL (α := TLCell) (z := 4) (y := 32) (h := h1 ++ [Slot.cells (cellsV (TLCell.mk o.id o.char true))]) (B := h.length) (xs := [] ++ out.take 0) (ys := [TLCell.mk o.id o.char true]) rfl (gc_app p2) (by simp <;> omega)
        obtain ⟨h3, r1, r2, r3, r4⟩ := app_rowsL (α := TLCell) (z := 4) (y := 32) (h := h2) (B := h.length) (xs := ([] ++ out.take 0) ++ [TLCell.mk o.id o.char true]) (ys := out.drop 0) rfl q2 (by simp <;> omega)
        have hO2 : getCells h2 B (out.length * 4) = some (rows out) := by
          refine (getCells_congr ?_).trans hO
          rw [q3 B (by omega), List.getElem?_append_left (by rw [p4]; simp; omega), p3 B (by omega), List.getElem?_append_left lO]
        have s1 : srcCells (h ++ [Slot.cells []]) (.hsl B (out.length * 4) 0 4 true 0) = some (rows (out.take 0)) := by
          rw [src_hsl, gc_app hO, Option.map_some, List.drop_zero]
          exact congrArg some (rows_take (xs := out) (n := 0))
        have s2 : srcCells h2 (.hsl B (out.length * 4) (0 * 4) 4 true (out.length - 0)) = some (rows (out.drop 0)) := by
          rw [src_hsl, hO2, Option.map_some, List.take_of_length_le (by rw [List.length_drop, rows_len, z_TLCell]; omega)]
          exact congrArg some (rows_drop (xs := out) (n := 0)).symm
        have l1 : (out.take 0).length = 0 := by rw [List.length_take]; omega
        have l2 : (out.drop 0).length = out.length - 0 := by rw [List.length_drop]
        have a1 : (rows (out.take 0)).all V.one = true ∧ (rows (out.take 0)).length = 0 * 4 := ⟨ones_rows, by rw [rows_len, l1]; rfl⟩
        have a2 : (rows (out.drop 0)).all V.one = true ∧ (rows (out.drop 0)).length = (out.length - 0) * 4 := ⟨ones_rows, by rw [rows_len, l2]; rfl⟩
        rw [l1] at p1
        rw [l2] at r1
        rw [rows_one] at q1
        simp only [cellsV_TLCell] at q1
        simp only [List.nil_append, List.length_append, List.length_cons, List.length_nil, l1, l2, Nat.zero_add, Nat.zero_mul] at p1 q1 r1 r2
        simp only [List.take_zero, rows_nil, List.drop_zero, Nat.sub_zero, Nat.add_zero] at p1 q1 r1 r2 s1 s2 a1 a2
        have hmk : (0 ≤ (0 : Int) ∧ (0 : Int) ≤ ((out.length + 1 : Nat) : Int) ∧ ((out.length + 1 : Nat) : Int) * 32 ≤ 281474976710656 ∧ ((out.length + 1 : Nat) : Int) ≤ 9223372036854775807) := by omega
        simp (maxSteps := 2000000) (disch := omega) only [gw, Nat.reduceAdd, Nat.reduceMul, hmk, g0, g3, g4, hget, enc_TLOp, hlt, hk', ep_spec_l02None, hno, s1, s2, a1, a2, p1, q1, r1]
        cases hi2
        refine hn _ _ _ (by omega) ⟨i + 1, h.length, _, rfl, by omega, g0, ?_, rfl, ?_, hb⟩
        · show V.hsl h.length ((1 + out.length) * 4) 0 4 true (1 + out.length) = _
          rw [List.length_cons, Nat.add_comm]
        · rw [List.length_cons, Nat.add_comm out.length 1]
          exact r2
      · rw [if_neg h0] at hi2
        obtain ⟨a, hf, rfl⟩ := Option.map_eq_some_iff.1 hi2
        obtain ⟨⟨ca, ha1, ha2⟩, _⟩ := findC_some hf
        have hal := (List.getElem?_eq_some_iff.1 ha1).1
        have h0' := decide_eq_false h0
        have hno : p_spec_l02None o.at_ = some false := by rw [q_noneS, h0']
        simp (maxSteps := 2000000) (disch := omega) only [gw, Nat.reduceAdd, Nat.reduceMul, g0, g3, g4, hget, enc_TLOp, hlt, hk', ep_spec_l02None, hno]
        refine find_loop hO hol hget hf g0 g3 g4 rfl ?_
        clear g0 g3 g4
        intro t g0 g3 g4 g5
        obtain ⟨h1, p1, p2, p3, p4⟩ := app_rowsL (α := TLCell) (z := 4) (y := 32) (h := h ++ [Slot.cells []]) (B := h.length) (xs := []) (ys := out.take (a + 1)) rfl (by rw [gc_right0]; rfl) (by simp <;> omega)
        obtain ⟨h2, q1, q2, q3, q4⟩ := app_rowsL (α := TLCell) (z := 4) (y := 32) (h := h1 ++ [Slot.cells (cellsV (TLCell.mk o.id o.char true))]) (B := h.length) (xs := [] ++ out.take (a + 1)) (ys := [TLCell.mk o.id o.char true]) rfl (gc_app p2) (by simp <;> omega)
        obtain ⟨h3, r1, r2, r3, r4⟩ := app_rowsL (α := TLCell) (z := 4) (y := 32) (h := h2) (B := h.length) (xs := ([] ++ out.take (a + 1)) ++ [TLCell.mk o.id o.char true]) (ys := out.drop (a + 1)) rfl q2 (by simp <;> omega)
        have hO2 : getCells h2 B (out.length * 4) = some (rows out) := by
          refine (getCells_congr ?_).trans hO
          rw [q3 B (by omega), List.getElem?_append_left (by rw [p4]; simp; omega), p3 B (by omega), List.getElem?_append_left lO]
        have s1 : srcCells (h ++ [Slot.cells []]) (.hsl B (out.length * 4) 0 4 true (a + 1)) = some (rows (out.take (a + 1))) := by
          rw [src_hsl, gc_app hO, Option.map_some, List.drop_zero]
          exact congrArg some (rows_take (xs := out) (n := a + 1))
        have s2 : srcCells h2 (.hsl B (out.length * 4) ((a + 1) * 4) 4 true (out.length - (a + 1))) = some (rows (out.drop (a + 1))) := by
          rw [src_hsl, hO2, Option.map_some, List.take_of_length_le (by rw [List.length_drop, rows_len, z_TLCell]; omega)]
          exact congrArg some (rows_drop (xs := out) (n := a + 1))
        have l1 : (out.take (a + 1)).length = a + 1 := by rw [List.length_take]; omega
        have l2 : (out.drop (a + 1)).length = out.length - (a + 1) := by rw [List.length_drop]
        have a1 : (rows (out.take (a + 1))).all V.one = true ∧ (rows (out.take (a + 1))).length = (a + 1) * 4 := ⟨ones_rows, by rw [rows_len, l1]; rfl⟩
        have a2 : (rows (out.drop (a + 1))).all V.one = true ∧ (rows (out.drop (a + 1))).length = (out.length - (a + 1)) * 4 := ⟨ones_rows, by rw [rows_len, l2]; rfl⟩
        rw [l1] at p1
        rw [l2] at r1
        rw [rows_one] at q1
        simp only [cellsV_TLCell] at q1
        simp only [List.nil_append, List.length_append, List.length_cons, List.length_nil, l1, l2, Nat.zero_add, Nat.zero_mul] at p1 q1 r1 r2
        have hmk : (0 ≤ (0 : Int) ∧ (0 : Int) ≤ ((out.length + 1 : Nat) : Int) ∧ ((out.length + 1 : Nat) : Int) * 32 ≤ 281474976710656 ∧ ((out.length + 1 : Nat) : Int) ≤ 9223372036854775807) := by omega
        have ea : w64 ((a : Int) + 1) = ((a + 1 : Nat) : Int) := w64_succ (by omega)
        simp (maxSteps := 2000000) (disch := omega) only [gw, Nat.reduceAdd, Nat.reduceMul, hmk, g0, g3, g4, g5, hget, enc_TLOp, s1, s2, a1, a2, p1, q1, r1]
        refine hn _ _ _ (by omega) ⟨i + 1, h.length, _, rfl, by omega, g0, ?_, rfl, ?_, hb⟩
        · show V.hsl h.length ((a + 1 + 1 + (out.length - (a + 1))) * 4) 0 4 true (a + 1 + 1 + (out.length - (a + 1))) = _
          rw [List.length_append, List.length_cons, l1, l2]
          rw [show a + 1 + 1 + (out.length - (a + 1)) = a + 1 + (out.length - (a + 1) + 1) by omega]
        · rw [List.length_append, List.length_cons, l1, l2, show a + 1 + (out.length - (a + 1) + 1) = a + 1 + 1 + (out.length - (a + 1)) by omega, r2]
          rw [List.append_assoc]
          rfl
    · rw [if_neg hk] at hb
      have hk' : decide (o.kind = 1) = false := by simp [hk]
      simp (maxSteps := 2000000) (disch := omega) only [gw, Nat.reduceAdd, Nat.reduceMul, g0, g3, g4, hget, enc_TLOp, hlt, hk']
      exact hn _ _ _ (by omega) ⟨i + 1, B, out, rfl, by omega, g0, g3, rfl, hO, hb⟩
  · simp (maxSteps := 2000000) (disch := omega) only [gw, Nat.reduceAdd, Nat.reduceMul, g0, g3, g4, hlt]
    rw [List.drop_of_length_le (by omega)] at hb
    cases hb
    exact hx _ _ _ (by simp) (hQ _ _ B g0 g3 hO)

theorem hide_loop {t : Nat → V} {P : Program} {env : Env} {Q : Post} {h : Heap} {B i : Nat} {out : List TLCell} {x0 : List TLOp} {o : TLOp} (hO : getCells h B (out.length * 4) = some (rows out)) (hlen : out.length ≤ 4611686018427387904) (hget : get? x0 (i : Int) = some o)
    (g0 : t 0 = .i (.sl 6 (x0.map enc))) (g3 : t 3 = .hsl B (out.length * 4) 0 4 true out.length) (g7 : t 7 = .i (.s (.int .i64 (i : Int)))) (g8 : t 8 = .i (.s (.int .i64 0)))
    (hQ : ∀ t' h' out', out' = (if o.kind = 2 then out.map (hideC o.at_) else out) → t' 0 = .i (.sl 6 (x0.map enc)) → t' 3 = .hsl B (out'.length * 4) 0 4 true out'.length → t' 7 = .i (.s (.int .i64 (i : Int))) → getCells h' B (out'.length * 4) = some (rows out') → Q (.exit 6) t' h') :
    @W P env ⟨(.loop (.seq (.seq (.ops [(qS 78 (.mv (.tmp 8))), (qS 79 (.mv (.tmp 3))), (qS 80 (.len (.tmp 79))), (qS 81 (.pu (.n (.ar .lss)) [(.tmp 78), (.tmp 80)])), (qS 82 (.mv (.tmp 81))), ⟨(.some 83), (.mv (.tmp 0)), (.some (82, true)), [], .none⟩, ⟨(.some 84), (.mv (.tmp 7)), (.some (82, true)), [], .none⟩, ⟨(.some 85), (.idxS 6 (.tmp 83) (.tmp 84)), (.some (82, true)), [], .none⟩, ⟨(.some 86), (.fieldA 0 (.tmp 85)), (.some (82, true)), [], .none⟩, ⟨(.some 87), (.load 1 false (.tmp 86)), (.some (82, true)), [], .none⟩, ⟨(.some 88), (.pu (.n (.ar .eql)) [(.tmp 87), (ic 2)]), (.some (82, true)), [], .none⟩, (qS 89 (.pick (.tmp 82) (.tmp 88) (.const (.bool false))))]) (.cond (.tmp 89) .skip (.exit 6))) (.seq (.block 7 (.seq (.ops [(qS 92 (.mv (.tmp 3))), (qS 93 (.mv (.tmp 8))), (qS 94 (.idxS 4 (.tmp 92) (.tmp 93))), (qS 95 (.fieldA 0 (.tmp 94))), (qS 96 (.load 2 true (.tmp 95))), (qS 97 (.mv (.tmp 0))), (qS 98 (.mv (.tmp 7))), (qS 99 (.idxS 6 (.tmp 97) (.tmp 98))), (qS 100 (.fieldA 4 (.tmp 99))), (qS 101 (.load 2 true (.tmp 100))), (qS 102 (.aeq false [(.int .i64), (.int .i64)] (.tmp 96) (.tmp 101)))]) (.cond (.tmp 102) (.ops [(qS 103 (.mv (.tmp 3))), (qS 104 (.mv (.tmp 8))), (qS 105 (.idxS 4 (.tmp 103) (.tmp 104))), (qS 106 (.fieldA 3 (.tmp 105))), ⟨.none, (.storeV [(0, false)] 1 (.tmp 106) (.const (.bool false))), .none, [], .none⟩]) .skip))) (.ops [(qS 90 (.mv (.tmp 8))), (qS 91 (.pu (.n (.ar .add)) [(.tmp 90), (ic 1)])), (qS 8 (.mv (.tmp 91)))]))))⟩ t h ⟨Q⟩ := by
  by_cases hk : o.kind = 2
  · rw [if_pos hk] at hQ
    have hk' := decide_eq_true hk
    refine W_loopK (fun n t h => ∃ (k : Nat) (cur : List TLCell), n = out.length - k ∧ k ≤ out.length ∧ cur.length = out.length ∧ (∀ j c, out[j]? = some c → cur[j]? = some (if j < k then hideC o.at_ c else c)) ∧ getCells h B (cur.length * 4) = some (rows cur) ∧ t 0 = .i (.sl 6 (x0.map enc)) ∧ t 3 = .hsl B (cur.length * 4) 0 4 true cur.length ∧ t 7 = .i (.s (.int .i64 (i : Int))) ∧ t 8 = .i (.s (.int .i64 (k : Int)))) out.length ⟨0, out, rfl, Nat.zero_le _, rfl, fun j c h => by rw [if_neg (Nat.not_lt_zero _)]; exact h, hO, g0, g3, g7, g8⟩ ?_
    clear g0 g3 g7 g8 hO
    rintro K n t h hn hx ⟨k, cur, rfl, hk2, hcl, hcur, hO, g0, g3, g7, g8⟩
    by_cases hlt : k < cur.length
    · obtain ⟨c, hc⟩ : ∃ c, out[k]? = some c := ⟨_, List.getElem?_eq_getElem (by omega)⟩
      have hcc := hcur k c hc
      rw [if_neg (Nat.lt_irrefl _)] at hcc
      have x1 := idxC hO hlt
      have r1 := ldIdC hO hcc
      have lO := gc_lt hO
      have e0 := eq_TStamp (x := c.id) (y := o.at_)
      simp only [eqL, eqV, Bool.and_true] at e0
      by_cases e : c.id = o.at_
      · rw [decide_eq_true e] at e0
        have hcl2 := getCells_len hO
        simp (maxSteps := 2000000) (disch := omega) only [gw, Nat.reduceAdd, Nat.reduceMul, g0, g3, g7, g8, hlt, hget, enc_TLOp, hk', x1, r1, e0, hO]
        have hset : List.take (k * 4 + 3) (rows cur) ++ V.i (.s (.bool false)) :: List.drop (k * 4 + 3 + 1) (rows cur) = rows (cur.set k ⟨c.id, c.char, false⟩) := by
          rw [← rows_set_off (xs := cur) (n := k) (k := 3) (x := c) (y := ⟨c.id, c.char, false⟩) (ys := [V.i (.s (.bool false))]) hcc (by decide) rfl]
          unfold splice
          rw [List.append_assoc]
          rfl
        rw [hset]
        have hsl : (cur.set k ⟨c.id, c.char, false⟩).length = cur.length := List.length_set
        refine hn _ _ _ (by omega) ⟨k + 1, cur.set k ⟨c.id, c.char, false⟩, rfl, by omega, by rw [hsl, hcl], ?_, ?_, g0, ?_, g7, rfl⟩
        · intro j d hd
          rw [List.getElem?_set]
          by_cases hj : k = j
          · subst hj
            rw [hc] at hd
            cases hd
            rw [if_pos rfl, if_pos hlt, if_pos (Nat.lt_succ_self _), hideC, if_pos e]
          · rw [if_neg hj, hcur j d hd]
            congr 1
            by_cases hj2 : j < k
            · rw [if_pos hj2, if_pos (by omega)]
            · rw [if_neg hj2, if_neg (by omega)]
        · rw [hsl, gc_set_eq lO, if_pos (by rw [rows_len, hsl]; rfl)]
        · rw [hsl]; exact g3
      · rw [decide_eq_false e] at e0
        simp (maxSteps := 2000000) (disch := omega) only [gw, Nat.reduceAdd, Nat.reduceMul, g0, g3, g7, g8, hlt, hget, enc_TLOp, hk', x1, r1, e0]
        refine hn _ _ _ (by omega) ⟨k + 1, cur, rfl, by omega, hcl, ?_, hO, g0, g3, g7, rfl⟩
        intro j d hd
        rw [hcur j d hd]
        by_cases hj : j = k
        · subst hj
          rw [hc] at hd
          cases hd
          rw [if_neg (Nat.lt_irrefl _), if_pos (Nat.lt_succ_self _), hideC, if_neg e]
        · congr 1
          by_cases hj2 : j < k
          · rw [if_pos hj2, if_pos (by omega)]
          · rw [if_neg hj2, if_neg (by omega)]
    · simp (maxSteps := 2000000) (disch := omega) only [gw, Nat.reduceAdd, Nat.reduceMul, g0, g3, g7, g8, hlt]
      have hce : cur = out.map (hideC o.at_) := by
        apply List.ext_getElem?
        intro j
        rw [List.getElem?_map]
        by_cases hj : j < out.length
        · rw [List.getElem?_eq_getElem hj, hcur j _ (List.getElem?_eq_getElem hj), if_pos (by omega)]
          rfl
        · rw [List.getElem?_eq_none (by omega), List.getElem?_eq_none (by omega)]
          rfl
      exact hx _ _ _ (by simp) (hQ _ _ cur hce g0 g3 g7 hO)
  · rw [if_neg hk] at hQ
    have hk' : decide (o.kind = 2) = false := by simp [hk]
    refine W_loopK (fun n t h' => h' = h ∧ t 0 = .i (.sl 6 (x0.map enc)) ∧ t 3 = .hsl B (out.length * 4) 0 4 true out.length ∧ t 7 = .i (.s (.int .i64 (i : Int))) ∧ t 8 = .i (.s (.int .i64 0))) 0 ⟨rfl, g0, g3, g7, g8⟩ ?_
    clear g0 g3 g7 g8
    rintro K n t h' hn hx ⟨rfl, g0, g3, g7, g8⟩
    by_cases hlt : 0 < out.length
    · have hlt' : (0 : Int) < (out.length : Int) := by omega
      simp (maxSteps := 2000000) (disch := omega) only [gw, Nat.reduceAdd, Nat.reduceMul, g0, g3, g7, g8, hlt', hget, enc_TLOp, hk']
      exact hx _ _ _ (by simp) (hQ _ _ out rfl g0 g3 g7 hO)
    · have hlt' : ¬ (0 : Int) < (out.length : Int) := by omega
      simp (maxSteps := 2000000) (disch := omega) only [gw, Nat.reduceAdd, Nat.reduceMul, g0, g3, g7, g8, hlt']
      exact hx _ _ _ (by simp) (hQ _ _ out rfl g0 g3 g7 hO)

theorem delC_len : ∀ (l : List TLOp) (out : List TLCell), (delC l out).length = out.length
  | [], out => rfl
  | o :: l, out => by
    rw [delC, delC_len l]
    split <;> simp
theorem d_spec_l04Cells {P : Program} {env : Env} {f_spec_l02None : Nat} (ep_spec_l02None : env (2 * f_spec_l02None) = pureFn true (FA fun a : TStamp => p_spec_l02None a)) (x0 : List TLOp) {b : List TLCell} (hp : p_spec_l04Cells x0 = some b) : R P env (c_spec_l04Cells f_spec_l02None) ((encA (x0)).map ofI) [] (Tells true b) := by
  refine R_of (by simp [c_spec_l04Cells, encA]) ?_
  unfold c_spec_l04Cells
  unfold p_spec_l04Cells at hp
  split at hp
  case isFalse => cases hp
  rename_i hx0
  obtain ⟨out, hb, hp⟩ := Option.bind_eq_some_iff.1 hp
  split at hp
  case isFalse => cases hp
  rename_i hol
  cases hp
  simp (maxSteps := 2000000) (disch := omega) only [gw, Nat.reduceAdd, Nat.reduceMul]
  refine build_loop ep_spec_l02None (x0 := x0) (by omega) (B := 1) rfl rfl rfl rfl hb ?_
  intro t h B g0 g3 hO
  simp (maxSteps := 2000000) (disch := omega) only [gw, Nat.reduceAdd, Nat.reduceMul, g0, g3]
  obtain ⟨D, hD⟩ : ∃ D, D = delC x0 out := ⟨_, rfl⟩
  rw [← hD]
  have hout : out.length = D.length := by rw [hD, delC_len]
  refine W_loopK (fun n t h => ∃ (i : Nat) (cur : List TLCell), n = x0.length - i ∧ i ≤ x0.length ∧ t 0 = .i (.sl 6 (x0.map enc)) ∧ t 3 = .hsl B (cur.length * 4) 0 4 true cur.length ∧ t 7 = .i (.s (.int .i64 (i : Int))) ∧ getCells h B (cur.length * 4) = some (rows cur) ∧ D = delC (x0.drop i) cur) x0.length ⟨0, out, rfl, Nat.zero_le _, g0, g3, rfl, hO, hD⟩ ?_
  clear g0 g3 hO hD hb
  rintro K n t h hn hx ⟨i, cur, rfl, hi, g0, g3, g7, hO, hD⟩
  by_cases hlt : i < x0.length
  · obtain ⟨o, ho⟩ : ∃ o, o = x0[i] := ⟨_, rfl⟩
    have hoi : x0[i]? = some o := by rw [ho]; exact List.getElem?_eq_getElem hlt
    have hget : get? x0 (i : Int) = some o := by rw [get_nat]; exact hoi
    have hdr : x0.drop i = o :: x0.drop (i + 1) := by rw [ho, List.getElem_cons_drop]
    have hcd : D.length = cur.length := by rw [hD, delC_len]
    rw [hdr, delC] at hD
    simp (maxSteps := 2000000) (disch := omega) only [gw, Nat.reduceAdd, Nat.reduceMul, g0, g3, g7, hlt]
    refine hide_loop (i := i) hO (by omega) hget g0 g3 g7 rfl ?_
    intro t h out' ho' g0 g3 g7 hO
    simp (maxSteps := 2000000) (disch := omega) only [gw, Nat.reduceAdd, Nat.reduceMul, g0, g3, g7]
    exact hn _ _ _ (by omega) ⟨i + 1, out', rfl, by omega, g0, g3, rfl, hO, by rw [ho']; exact hD⟩
  · simp (maxSteps := 2000000) (disch := omega) only [gw, Nat.reduceAdd, Nat.reduceMul, g0, g3, g7, hlt]
    rw [List.drop_of_length_le (by omega)] at hD
    have hD : D = cur := hD
    subst hD
    refine hx _ _ _ (by simp) ?_
    simp (maxSteps := 2000000) (disch := omega) only [gw, Nat.reduceAdd, Nat.reduceMul, g0, g3]
    by_cases h0 : D.length = 0
    · rw [if_pos h0, List.eq_nil_of_length_eq_zero h0]
      rfl
    · rw [if_neg h0, hO, Option.bind_some, take_rows (by rw [rows_len]; exact Nat.le_refl _), snapA_rowsF, Option.bind_some, mkRows_eq (α := TLCell) (z := 4) (ag := true) rfl rfl rfl, Option.bind_some]
      exact dec_enc D
end Go.AM

set_option linter.unusedVariables false
set_option linter.unusedSimpArgs false
set_option maxRecDepth 20000
namespace Go.AM
open Pic (enc dec dec_enc dec_sub)
open PicA (encA decA decA_encA decA_sub)

end Go.AM

set_option linter.unusedVariables false
set_option linter.unusedSimpArgs false
set_option maxRecDepth 20000
namespace Go.AM
open Pic (enc dec dec_enc dec_sub)
open PicA (encA decA decA_encA decA_sub)
noncomputable def p_spec_l04Seen_l0 (x0 : List TLCell) : List TLCell × Int → Option (Lp (List TLCell × Int) (List TLCell))
  | (s0, s1) =>
    if (decide (s1 < (x0.length : Int))) = true then
      (get? x0 s1).bind fun v3 =>
      if (v3.seen) = true then
        (app? 32 s0 ([v3])).bind fun v5 =>
        some (.go (v5, w64 (s1 + 1)))
      else
        some (.go (s0, w64 (s1 + 1)))
    else
      some (.out (s0, s1))
noncomputable def p_spec_l04Seen (x0 : List TLCell) : Option (List TLCell) :=
  (loopP (p_spec_l04Seen_l0 x0) (([] : List TLCell), 0)).bind fun ee0 => match ee0 with
  | .ret r => some r
  | .out (o6, o7) =>
    some o6
def c_spec_l04Seen : AFn := ⟨25, (.seq (.ops [(qS 2 (.vnil 4 true))]) (.seq (.ops [(qS 5 (.buildSl 4 true 0 [(.int .i64 0), (.int .i64 0), (.int .i64 0), (.bool false)] [])), (qS 3 (.mv (.tmp 5)))]) (.seq (.seq (.ops [(qS 4 (.mv (ic 0)))]) (.block 0 (.loop (.seq (.seq (.ops [(qS 6 (.mv (.tmp 4))), (qS 7 (.mv (.tmp 0))), (qS 8 (.len (.tmp 7))), (qS 9 (.pu (.n (.ar .lss)) [(.tmp 6), (.tmp 8)]))]) (.cond (.tmp 9) .skip (.exit 0))) (.seq (.block 1 (.seq (.ops [(qS 12 (.mv (.tmp 0))), (qS 13 (.mv (.tmp 4))), (qS 14 (.idxS 4 (.tmp 12) (.tmp 13))), (qS 15 (.fieldA 3 (.tmp 14))), (qS 16 (.load 1 false (.tmp 15)))]) (.cond (.tmp 16) (.ops [(qS 17 (.mv (.tmp 3))), (qS 18 (.mv (.tmp 0))), (qS 19 (.mv (.tmp 4))), (qS 20 (.idxS 4 (.tmp 18) (.tmp 19))), (qS 21 (.load 4 true (.tmp 20))), (qS 22 (.buildSl 4 true 1 [(.int .i64 0), (.int .i64 0), (.int .i64 0), (.bool false)] [(0, (.tmp 21))])), (qS 23 (.append 4 true 32 (.tmp 17) (.tmp 22))), (qS 3 (.mv (.tmp 23)))]) .skip))) (.ops [(qS 10 (.mv (.tmp 4))), (qS 11 (.pu (.n (.ar .add)) [(.tmp 10), (ic 1)])), (qS 4 (.mv (.tmp 11)))])))))) (.seq (.ops [(qS 24 (.mv (.tmp 3))), (qS 2 (.mv (.tmp 24)))]) .ret)))), [(.tmp 2)]⟩
set_option maxHeartbeats 10000000 in
theorem d_spec_l04Seen {P : Program} {env : Env}  (x0 : List TLCell) {b : List TLCell} (hp : p_spec_l04Seen x0 = some b) : R P env (c_spec_l04Seen) ((encA (x0)).map ofI) [] (Tells true b) := by
  refine R_of (by simp [c_spec_l04Seen, encA]) ?_
  unfold c_spec_l04Seen
  unfold p_spec_l04Seen at hp
  obtain ⟨ee0, hee0, hp⟩ := bind_eq hp
  simp (maxSteps := 2000000) (disch := first|omega|(simp only[ls];first|done|omega)) only [gm]
  refine W_loopP 0 (fun s t h => match s with | (s0, s1) => t 0 = .i (.sl 4 (x0.map enc)) ∧ t 3 = .hsl 1 (s0.length * 4) 0 4 true s0.length ∧ t 4 = .i (.s (.int .i64 s1)) ∧ getCells h 1 (s0.length * 4) = some (rows (s0 : List TLCell)) ∧ 1 < h.length) (RK [.tmp 2] (Tells true)) ?_ hee0 ?_ ?_
  · rintro ⟨s0, s1⟩ ee tt0 hh0 ⟨ftt0_0, ftt0_1, ftt0_2, ftt0_3, ftt0_4⟩ hp
    rw [p_spec_l04Seen_l0] at hp
    by_cases hb2 : (decide (s1 < (x0.length : Int))) = true
    · rw [if_t hb2] at hp
      obtain ⟨v3, hv3, hp⟩ := bind_eq hp
      by_cases hb4 : (v3.seen) = true
      · rw [if_t hb4] at hp
        obtain ⟨v5, hv5, hp⟩ := bind_eq hp
        obtain ⟨kv5, qv5, lv5⟩ := app_some hv5
        have rv5 : rows s0 ++ [.i (.s (.int .i64 v3.id.time)), .i (.s (.int .i64 v3.id.actor)), .i (.s (.int .i64 v3.char)), .i (.s (.bool true))] = rows v5 := by rw [qv5, rows_append, ← congrArg (fun b => V.i (.s (.bool b))) hb4]; rfl
        have mv5 : s0.length + 1 = v5.length := by simp at lv5; omega
        have nv5 : (s0.length + 1) * 32 ≤ 140737488355328 := by simp at kv5; omega
        have hp := Option.some.inj hp
        subst hp
        simp (maxSteps := 2000000) (disch := first|omega|(simp only[ls];first|done|omega)) only [ftt0_0, ftt0_1, ftt0_2, ftt0_3, ftt0_4, hb2, hv3, hb4, hv5, rv5, nv5, gm] <;> omega
      · replace hb4 := eq_false_of_ne_true hb4
        rw [if_f hb4] at hp
        have hp := Option.some.inj hp
        subst hp
        simp (maxSteps := 2000000) (disch := first|omega|(simp only[ls];first|done|omega)) only [ftt0_0, ftt0_1, ftt0_2, ftt0_3, ftt0_4, hb2, hv3, hb4, gm] <;> omega
    · replace hb2 := eq_false_of_ne_true hb2
      rw [if_f hb2] at hp
      have hp := Option.some.inj hp
      subst hp
      simp (maxSteps := 2000000) (disch := first|omega|(simp only[ls];first|done|omega)) only [ftt0_0, ftt0_1, ftt0_2, ftt0_3, ftt0_4, hb2, gm] <;> omega
  · simp (maxSteps := 2000000) (disch := first|omega|(simp only[ls];first|done|omega)) only [gm] <;> omega
  · intro x tt1 hh1 hx
    rcases ee0 with ⟨o6, o7⟩ | r
    · obtain ⟨rfl, ftt1_0, ftt1_1, ftt1_2, ftt1_3, ftt1_4⟩ := hx
      dsimp only at hp
      have hp := Option.some.inj hp
      subst hp
      simp (maxSteps := 2000000) (disch := first|omega|(simp only[ls];first|done|omega)) only [ftt1_0, ftt1_1, ftt1_2, ftt1_3, ftt1_4, gm]
    · obtain ⟨rfl, hx⟩ := hx
      dsimp only at hp
      cases hp
      simp only [seqK_ret, blockK_ret, retK_RK (K := Tells true), hx, and_self, true_and]

end Go.AM

set_option linter.unusedVariables false
set_option linter.unusedSimpArgs false
set_option maxRecDepth 20000
namespace Go.AM
open Pic (enc dec dec_enc dec_sub)
open PicA (encA decA decA_encA decA_sub)

theorem look_place {p : List (TStamp × Int)} {j : Nat} {q : TStamp × Int} (h : p[j]? = some q) : lookV false [.int .i64 0] ((placeI p).map .i) (some j) = some (.i (.s (.int .i64 q.2))) := by
  show ((placeI p).map V.i)[j]? = _
  rw [List.getElem?_map, placeI, List.getElem?_map, h]
  rfl
end Go.AM

set_option linter.unusedVariables false
set_option linter.unusedSimpArgs false
set_option maxRecDepth 20000
namespace Go.AM
open Pic (enc dec dec_enc dec_sub)
open PicA (encA decA decA_encA decA_sub)
noncomputable def p_impl_nextAbove (x0 : TStamp) (x1 : Int) : Option (T2 TStamp Int) :=
  if (decide (x0.time < 1)) = true then
    (p_impl_StampOK (TStamp.mk (w64 (x0.time + 1)) x1)).bind fun v1 =>
    if (v1) = true then
      some ⟨(TStamp.mk (w64 (x0.time + 1)) x1), 0⟩
    else
      some ⟨(TStamp.mk 0 0), 11⟩
  else
    if (decide (x1 ≤ x0.actor)) = true then
      (p_impl_StampOK (TStamp.mk (w64 (x0.time + 1)) x1)).bind fun v4 =>
      if (v4) = true then
        some ⟨(TStamp.mk (w64 (x0.time + 1)) x1), 0⟩
      else
        some ⟨(TStamp.mk 0 0), 11⟩
    else
      (p_impl_StampOK (TStamp.mk x0.time x1)).bind fun v6 =>
      if (v6) = true then
        some ⟨(TStamp.mk x0.time x1), 0⟩
      else
        some ⟨(TStamp.mk 0 0), 11⟩
def c_impl_nextAbove (f_impl_StampOK : Nat) : AFn := ⟨29, (.seq (.ops [(qS 2 (.box (.tmp 0))), (qS 4 (.allocV [(0, false), (0, false)] [(.int .i64 0), (.int .i64 0)])), (qS 5 (.mv (ic 0)))]) (.seq (.ops [(qS 7 (.fieldA 0 (.tmp 2))), (qS 8 (.load 1 false (.tmp 7))), (qS 9 (.mv (.tmp 1))), (qS 10 (.build [(.int .i64 0), (.int .i64 0)] [(0, (1, (.tmp 8))), (1, (1, (.tmp 9)))])), (qS 6 (.allocV [(0, false), (0, false)] [(.int .i64 0), (.int .i64 0)])), ⟨.none, (.storeV [(0, false), (0, false)] 2 (.tmp 6) (.tmp 10)), .none, [], .none⟩]) (.seq (.seq (.ops [(qS 11 (.fieldA 0 (.tmp 2))), (qS 12 (.load 1 false (.tmp 11))), (qS 13 (.pu (.n (.ar .lss)) [(.tmp 12), (ic 1)])), (qS 14 (.mv (.tmp 13))), ⟨(.some 15), (.mv (.tmp 1)), (.some (14, false)), [], .none⟩, ⟨(.some 16), (.fieldA 1 (.tmp 2)), (.some (14, false)), [], .none⟩, ⟨(.some 17), (.load 1 false (.tmp 16)), (.some (14, false)), [], .none⟩, ⟨(.some 18), (.pu (.n (.ar .leq)) [(.tmp 15), (.tmp 17)]), (.some (14, false)), [], .none⟩, (qS 19 (.pick (.tmp 14) (.const (.bool true)) (.tmp 18)))]) (.cond (.tmp 19) (.ops [(qS 20 (.fieldA 0 (.tmp 6))), (qS 21 (.load 1 false (.tmp 20))), (qS 22 (.pu (.n (.ar .add)) [(.tmp 21), (ic 1)])), (qS 23 (.fieldA 0 (.tmp 6))), ⟨.none, (.storeV [(0, false)] 1 (.tmp 23) (.tmp 22)), .none, [], .none⟩]) .skip)) (.seq (.seq (.ops [(qS 24 (.load 2 true (.tmp 6))), (qS 25 (.call (2 * f_impl_StampOK) [(.tmp 24)])), (qS 26 (.pu (.n (.un .not)) [(.tmp 25)]))]) (.cond (.tmp 26) (.seq (.ops [(qS 27 (.build [(.int .i64 0), (.int .i64 0)] [])), ⟨.none, (.storeV [(0, false), (0, false)] 2 (.tmp 4) (.tmp 27)), .none, [], .none⟩, (qS 5 (.mv (ic 11)))]) .ret) .skip)) (.seq (.ops [(qS 28 (.load 2 true (.tmp 6))), ⟨.none, (.storeV [(0, false), (0, false)] 2 (.tmp 4) (.tmp 28)), .none, [], .none⟩, (qS 5 (.mv (ic 0)))]) .ret))))), [(.cell 4 2 true), (.tmp 5)]⟩
set_option maxHeartbeats 10000000 in
theorem d_impl_nextAbove {P : Program} {env : Env} {f_impl_StampOK : Nat}  (ep_impl_StampOK : env (2 * f_impl_StampOK) = pureFn true (FA fun a : TStamp => p_impl_StampOK a)) (x0 : TStamp) (x1 : Int) {b : T2 TStamp Int} (hp : p_impl_nextAbove x0 x1 = some b) : R P env (c_impl_nextAbove f_impl_StampOK) ((encA (x0, x1)).map ofI) [] (Tells true b) := by
  refine R_of (by simp [c_impl_nextAbove, encA]) ?_
  have E := ep_impl_StampOK
  unfold c_impl_nextAbove
  unfold p_impl_nextAbove at hp
  by_cases hb0 : (decide (x0.time < 1)) = true
  · rw [if_t hb0] at hp
    obtain ⟨v1, hv1, hp⟩ := bind_eq hp
    by_cases hb2 : (v1) = true
    · rw [if_t hb2] at hp
      have hp := Option.some.inj hp
      subst hp
      simp (maxSteps := 2000000) (disch := first|omega|(simp only[ls];first|done|omega)) only [E, hb0, hv1, hb2, gm]
    · replace hb2 := eq_false_of_ne_true hb2
      rw [if_f hb2] at hp
      have hp := Option.some.inj hp
      subst hp
      simp (maxSteps := 2000000) (disch := first|omega|(simp only[ls];first|done|omega)) only [E, hb0, hv1, hb2, gm]
  · replace hb0 := eq_false_of_ne_true hb0
    rw [if_f hb0] at hp
    by_cases hb3 : (decide (x1 ≤ x0.actor)) = true
    · rw [if_t hb3] at hp
      obtain ⟨v4, hv4, hp⟩ := bind_eq hp
      by_cases hb5 : (v4) = true
      · rw [if_t hb5] at hp
        have hp := Option.some.inj hp
        subst hp
        simp (maxSteps := 2000000) (disch := first|omega|(simp only[ls];first|done|omega)) only [E, hb0, hb3, hv4, hb5, gm]
      · replace hb5 := eq_false_of_ne_true hb5
        rw [if_f hb5] at hp
        have hp := Option.some.inj hp
        subst hp
        simp (maxSteps := 2000000) (disch := first|omega|(simp only[ls];first|done|omega)) only [E, hb0, hb3, hv4, hb5, gm]
    · replace hb3 := eq_false_of_ne_true hb3
      rw [if_f hb3] at hp
      obtain ⟨v6, hv6, hp⟩ := bind_eq hp
      by_cases hb7 : (v6) = true
      · rw [if_t hb7] at hp
        have hp := Option.some.inj hp
        subst hp
        simp (maxSteps := 2000000) (disch := first|omega|(simp only[ls];first|done|omega)) only [E, hb0, hb3, hv6, hb7, gm]
      · replace hb7 := eq_false_of_ne_true hb7
        rw [if_f hb7] at hp
        have hp := Option.some.inj hp
        subst hp
        simp (maxSteps := 2000000) (disch := first|omega|(simp only[ls];first|done|omega)) only [E, hb0, hb3, hv6, hb7, gm]

end Go.AM
