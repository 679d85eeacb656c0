/- Plain functions of LogOK and their walks. No condition. -/
import Derived.Test.YtiabacjkejkbgaaLabGLogOKa
set_option linter.unusedVariables false
set_option linter.unusedSimpArgs false
set_option maxRecDepth 20000
namespace Go.AM
open Pic (enc dec dec_enc dec_sub)
open PicA (encA decA decA_encA decA_sub)
noncomputable def p_impl_readBook_l0 (x0 : List TOp) : TBook × Int → Option (Lp (TBook × Int) (T2 (Option TBook) Bool))
  | (s1, s2) =>
    if (decide (s2 < (x0.length : Int))) = true then
      (get? x0 s2).bind fun v4 =>
      (p_impl_opOK v4).bind fun v5 =>
      if (v5) = true then
        if (decide (0 < s2)) = true then
          (get? x0 (w64 (s2 - 1))).bind fun v8 =>
          if (decide (v4.actor < v8.actor)) = true then
            some (.ret ⟨(none : Option TBook), false⟩)
          else
            (get? s1.of_ v4.actor).bind fun v10 =>
            if (decide (v4.seq = w64 ((v10.length : Int) + 1))) = true then
              (get? s1.kind v4.obj).bind fun v14 =>
              if (decide (v14 = 0)) = true then
                (p_impl_book_put s1 v4).bind fun v17 =>
                some (.go (v17, w64 (s2 + 1)))
              else
                (p_impl_Op_thing v4).bind fun v19 =>
                if (decide (v14 = v19)) = true then
                  (p_impl_book_put s1 v4).bind fun v21 =>
                  some (.go (v21, w64 (s2 + 1)))
                else
                  some (.ret ⟨(none : Option TBook), false⟩)
            else
              some (.ret ⟨(none : Option TBook), false⟩)
        else
          (get? s1.of_ v4.actor).bind fun v22 =>
          if (decide (v4.seq = w64 ((v22.length : Int) + 1))) = true then
            (get? s1.kind v4.obj).bind fun v26 =>
            if (decide (v26 = 0)) = true then
              (p_impl_book_put s1 v4).bind fun v29 =>
              some (.go (v29, w64 (s2 + 1)))
            else
              (p_impl_Op_thing v4).bind fun v31 =>
              if (decide (v26 = v31)) = true then
                (p_impl_book_put s1 v4).bind fun v33 =>
                some (.go (v33, w64 (s2 + 1)))
              else
                some (.ret ⟨(none : Option TBook), false⟩)
          else
            some (.ret ⟨(none : Option TBook), false⟩)
      else
        some (.ret ⟨(none : Option TBook), false⟩)
    else
      some (.out (s1, s2))
noncomputable def p_impl_readBook_l1 (o34 : TBook) (v38 : TOp) : Int → Option (Lp (Int) (T2 (Option TBook) Bool))
  | s39 =>
    if (decide (s39 < (v38.deps.counts.length : Int))) = true then
      (get? v38.deps.counts s39).bind fun v41 =>
      (get? o34.of_ s39).bind fun v42 =>
      if (decide ((v42.length : Int) < v41)) = true then
        some (.ret ⟨(none : Option TBook), false⟩)
      else
        if (decide (0 < v41)) = true then
          (get? v42 (w64 (v41 - 1))).bind fun v47 =>
          (p_impl_Op_stamp v47).bind fun v49 =>
          (p_impl_Op_stamp v38).bind fun v50 =>
          (p_impl_StampLess v49 v50).bind fun v51 =>
          if (v51) = true then
            some (.go (w64 (s39 + 1)))
          else
            some (.ret ⟨(none : Option TBook), false⟩)
        else
          some (.go (w64 (s39 + 1)))
    else
      some (.out s39)
noncomputable def p_impl_readBook_l2 (x0 : List TOp) (o34 : TBook) : Int → Option (Lp (Int) (T2 (Option TBook) Bool))
  | s36 =>
    if (decide (s36 < (x0.length : Int))) = true then
      (get? x0 s36).bind fun v38 =>
      (loopP (p_impl_readBook_l1 o34 v38) 0).bind fun ee1 => match ee1 with
      | .ret r => some (.ret r)
      | .out o53 =>
        some (.go (w64 (s36 + 1)))
    else
      some (.out s36)
noncomputable def p_impl_readBook (x0 : List TOp) : Option (T2 (Option TBook) Bool) :=
  if (decide (1024 < (x0.length : Int))) = true then
    some ⟨(none : Option TBook), false⟩
  else
    (loopP (p_impl_readBook_l0 x0) (book0, 0)).bind fun ee0 => match ee0 with
    | .ret r => some r
    | .out (o34, o35) =>
      (loopP (p_impl_readBook_l2 x0 o34) 0).bind fun ee2 => match ee2 with
      | .ret r => some r
      | .out o54 =>
        some ⟨(some o34), true⟩
def c_impl_readBook (f_impl_opOK : Nat) (f_impl_Op_thing : Nat) (f_impl_book_put : Nat) (f_impl_Op_stamp : Nat) (f_impl_StampLess : Nat) : AFn := ⟨127, (.seq (.ops [(qS 2 (.mv (.const (.pointer .none)))), (qS 3 (.mv (.const (.bool false))))]) (.seq (.seq (.ops [(qS 11 (.mv (.tmp 0))), (qS 12 (.len (.tmp 11))), (qS 13 (.pu (.n (.ar .gtr)) [(.tmp 12), (ic 1024)]))]) (.cond (.tmp 13) (.seq (.ops [(qS 2 (.mv (.const (.pointer .none)))), (qS 3 (.mv (.const (.bool false))))]) .ret) .skip)) (.seq (.ops [(qS 14 (.build [(.slice .none 0 0), (.slice .none 0 0), (.slice .none 0 0), (.slice .none 0 0), (.slice .none 0 0), (.slice .none 0 0), (.slice .none 0 0), (.slice .none 0 0), (.slice .none 0 0), (.slice .none 0 0), (.slice .none 0 0), (.slice .none 0 0), (.slice .none 0 0), (.slice .none 0 0), (.slice .none 0 0), (.slice .none 0 0), (.int .i64 0), (.int .i64 0), (.int .i64 0), (.int .i64 0), (.int .i64 0), (.int .i64 0), (.int .i64 0), (.int .i64 0), (.int .i64 0), (.int .i64 0), (.int .i64 0), (.int .i64 0), (.int .i64 0), (.int .i64 0), (.int .i64 0), (.int .i64 0), (.int .i64 0), (.int .i64 0), (.int .i64 0), (.int .i64 0), (.int .i64 0), (.int .i64 0), (.int .i64 0), (.int .i64 0), (.int .i64 0), (.int .i64 0), (.int .i64 0), (.int .i64 0), (.int .i64 0), (.int .i64 0), (.int .i64 0), (.int .i64 0), (.int .i64 0), (.int .i64 0), (.int .i64 0), (.int .i64 0), (.int .i64 0), (.int .i64 0), (.int .i64 0), (.int .i64 0), (.int .i64 0), (.int .i64 0), (.int .i64 0), (.int .i64 0), (.int .i64 0), (.int .i64 0), (.int .i64 0), (.int .i64 0), (.int .i64 0), (.int .i64 0), (.int .i64 0), (.int .i64 0), (.int .i64 0), (.int .i64 0), (.int .i64 0), (.int .i64 0), (.int .i64 0), (.int .i64 0), (.int .i64 0), (.int .i64 0), (.int .i64 0), (.int .i64 0), (.int .i64 0), (.int .i64 0), (.int .i64 0), (.int .i64 0), (.int .i64 0), (.int .i64 0), (.int .i64 0), (.int .i64 0), (.int .i64 0), (.int .i64 0), (.int .i64 0), (.int .i64 0), (.int .i64 0), (.int .i64 0), (.int .i64 0), (.int .i64 0), (.int .i64 0), (.int .i64 0), (.int .i64 0), (.int .i64 0), (.int .i64 0), (.int .i64 0), (.int .i64 0), (.int .i64 0), (.int .i64 0), (.int .i64 0), (.int .i64 0), (.int .i64 0), (.int .i64 0), (.int .i64 0), (.int .i64 0), (.int .i64 0), (.int .i64 0), (.int .i64 0), (.int .i64 0), (.int .i64 0), (.int .i64 0), (.int .i64 0), (.int .i64 0), (.int .i64 0), (.int .i64 0), (.int .i64 0)] [])), (qS 15 (.box (.tmp 14))), (qS 4 (.mv (.tmp 15)))]) (.seq (.seq (.ops [(qS 16 (.mv (.tmp 0))), (qS 17 (.len (.tmp 16))), (qS 18 (.mv (ic 0)))]) (.block 0 (.loop (.seq (.ops [(qS 19 (.pu (.n (.ar .lss)) [(.tmp 18), (.tmp 17)]))]) (.seq (.cond (.tmp 19) .skip (.exit 0)) (.seq (.block 1 (.seq (.ops [(qS 20 (.mv (.tmp 18))), (qS 21 (.idxS 12 (.tmp 16) (.tmp 18))), (qS 22 (.load 12 true (.tmp 21))), (qS 6 (.allocV [(0, false), (0, false), (0, false), (1, false), (0, false), (0, false), (0, false), (0, false), (0, false), (0, false), (0, false), (0, false)] [(.int .i64 0), (.int .i64 0), (.int .i64 0), (.slice .none 0 0), (.int .i64 0), (.int .i64 0), (.int .i64 0), (.int .i64 0), (.int .i64 0), (.int .i64 0), (.string ⟨#[]⟩), (.string ⟨#[]⟩)])), (qS 5 (.mv (.tmp 20))), ⟨.none, (.storeV [(0, false), (0, false), (0, false), (1, false), (0, false), (0, false), (0, false), (0, false), (0, false), (0, false), (0, false), (0, false)] 12 (.tmp 6) (.tmp 22)), .none, []⟩]) (.seq (.seq (.ops [(qS 23 (.load 12 true (.tmp 6))), (qS 24 (.call (2 * f_impl_opOK) [(.tmp 23)])), (qS 25 (.pu (.n (.un .not)) [(.tmp 24)])), (qS 26 (.mv (.tmp 25))), ⟨(.some 27), (.mv (.tmp 5)), (.some (26, false)), []⟩, ⟨(.some 28), (.pu (.n (.ar .gtr)) [(.tmp 27), (ic 0)]), (.some (26, false)), []⟩, ⟨(.some 29), (.mv (.tmp 28)), (.some (26, false)), []⟩, ⟨(.some 30), (.mv (.tmp 0)), (.some (29, true)), []⟩, ⟨(.some 31), (.mv (.tmp 5)), (.some (29, true)), []⟩, ⟨(.some 32), (.pu (.n (.ar .sub)) [(.tmp 31), (ic 1)]), (.some (29, true)), []⟩, ⟨(.some 33), (.idxS 12 (.tmp 30) (.tmp 32)), (.some (29, true)), []⟩, ⟨(.some 34), (.fieldA 0 (.tmp 33)), (.some (29, true)), []⟩, ⟨(.some 35), (.load 1 false (.tmp 34)), (.some (29, true)), []⟩, ⟨(.some 36), (.fieldA 0 (.tmp 6)), (.some (29, true)), []⟩, ⟨(.some 37), (.load 1 false (.tmp 36)), (.some (29, true)), []⟩, ⟨(.some 38), (.pu (.n (.ar .gtr)) [(.tmp 35), (.tmp 37)]), (.some (29, true)), []⟩, ⟨(.some 39), (.pick (.tmp 29) (.tmp 38) (.const (.bool false))), (.some (26, false)), []⟩, (qS 40 (.pick (.tmp 26) (.const (.bool true)) (.tmp 39))), (qS 41 (.mv (.tmp 40))), ⟨(.some 42), (.fieldA 1 (.tmp 6)), (.some (41, false)), []⟩, ⟨(.some 43), (.load 1 false (.tmp 42)), (.some (41, false)), []⟩, ⟨(.some 44), (.mv (.tmp 4)), (.some (41, false)), []⟩, ⟨(.some 45), (.fieldA 0 (.tmp 6)), (.some (41, false)), []⟩, ⟨(.some 46), (.load 1 false (.tmp 45)), (.some (41, false)), []⟩, ⟨(.some 47), (.nilChk (.tmp 44)), (.some (41, false)), []⟩, ⟨(.some 48), (.fieldA 0 (.tmp 47)), (.some (41, false)), []⟩, ⟨(.some 49), (.idxA 16 1 (.tmp 48) (.tmp 46)), (.some (41, false)), []⟩, ⟨(.some 50), (.load 1 false (.tmp 49)), (.some (41, false)), []⟩, ⟨(.some 51), (.len (.tmp 50)), (.some (41, false)), []⟩, ⟨(.some 52), (.pu (.n (.ar .add)) [(.tmp 51), (ic 1)]), (.some (41, false)), []⟩, ⟨(.some 53), (.pu (.n (.ar .neq)) [(.tmp 43), (.tmp 52)]), (.some (41, false)), []⟩, (qS 54 (.pick (.tmp 41) (.const (.bool true)) (.tmp 53)))]) (.cond (.tmp 54) (.seq (.ops [(qS 2 (.mv (.const (.pointer .none)))), (qS 3 (.mv (.const (.bool false))))]) .ret) .skip)) (.seq (.seq (.ops [(qS 55 (.mv (.tmp 4))), (qS 56 (.fieldA 5 (.tmp 6))), (qS 57 (.load 1 false (.tmp 56))), (qS 58 (.nilChk (.tmp 55))), (qS 59 (.fieldA 16 (.tmp 58))), (qS 60 (.idxA 101 1 (.tmp 59) (.tmp 57))), (qS 61 (.load 1 false (.tmp 60))), (qS 62 (.pu (.n (.ar .neq)) [(.tmp 61), (ic 0)])), (qS 63 (.mv (.tmp 62))), ⟨(.some 64), (.mv (.tmp 4)), (.some (63, true)), []⟩, ⟨(.some 65), (.fieldA 5 (.tmp 6)), (.some (63, true)), []⟩, ⟨(.some 66), (.load 1 false (.tmp 65)), (.some (63, true)), []⟩, ⟨(.some 67), (.nilChk (.tmp 64)), (.some (63, true)), []⟩, ⟨(.some 68), (.fieldA 16 (.tmp 67)), (.some (63, true)), []⟩, ⟨(.some 69), (.idxA 101 1 (.tmp 68) (.tmp 66)), (.some (63, true)), []⟩, ⟨(.some 70), (.load 1 false (.tmp 69)), (.some (63, true)), []⟩, ⟨(.some 71), (.load 12 true (.tmp 6)), (.some (63, true)), []⟩, ⟨(.some 72), (.call (2 * f_impl_Op_thing) [(.tmp 71)]), (.some (63, true)), []⟩, ⟨(.some 73), (.pu (.n (.ar .neq)) [(.tmp 70), (.tmp 72)]), (.some (63, true)), []⟩, (qS 74 (.pick (.tmp 63) (.tmp 73) (.const (.bool false))))]) (.cond (.tmp 74) (.seq (.ops [(qS 2 (.mv (.const (.pointer .none)))), (qS 3 (.mv (.const (.bool false))))]) .ret) .skip)) (.ops [(qS 75 (.mv (.tmp 4))), (qS 76 (.load 12 true (.tmp 6))), (qS 77 (.call (2 * f_impl_book_put + 1) [(.tmp 75), (.tmp 76)]))]))))) (.ops [(qS 78 (.pu (.n (.ar .add)) [(.tmp 18), (ic 1)])), (qS 18 (.mv (.tmp 78)))]))))))) (.seq (.seq (.ops [(qS 79 (.mv (.tmp 0))), (qS 80 (.len (.tmp 79))), (qS 81 (.mv (ic 0)))]) (.block 2 (.loop (.seq (.ops [(qS 82 (.pu (.n (.ar .lss)) [(.tmp 81), (.tmp 80)]))]) (.seq (.cond (.tmp 82) .skip (.exit 2)) (.seq (.block 3 (.seq (.ops [(qS 83 (.idxS 12 (.tmp 79) (.tmp 81))), (qS 84 (.load 12 true (.tmp 83))), (qS 8 (.allocV [(0, false), (0, false), (0, false), (1, false), (0, false), (0, false), (0, false), (0, false), (0, false), (0, false), (0, false), (0, false)] [(.int .i64 0), (.int .i64 0), (.int .i64 0), (.slice .none 0 0), (.int .i64 0), (.int .i64 0), (.int .i64 0), (.int .i64 0), (.int .i64 0), (.int .i64 0), (.string ⟨#[]⟩), (.string ⟨#[]⟩)])), ⟨.none, (.storeV [(0, false), (0, false), (0, false), (1, false), (0, false), (0, false), (0, false), (0, false), (0, false), (0, false), (0, false), (0, false)] 12 (.tmp 8) (.tmp 84)), .none, []⟩]) (.seq (.ops [(qS 85 (.fieldA 3 (.tmp 8))), (qS 86 (.fieldA 0 (.tmp 85))), (qS 87 (.load 1 false (.tmp 86))), (qS 88 (.len (.tmp 87))), (qS 89 (.mv (ic 0)))]) (.block 4 (.loop (.seq (.ops [(qS 90 (.pu (.n (.ar .lss)) [(.tmp 89), (.tmp 88)]))]) (.seq (.cond (.tmp 90) .skip (.exit 4)) (.seq (.block 5 (.seq (.ops [(qS 91 (.mv (.tmp 89))), (qS 92 (.idxS 1 (.tmp 87) (.tmp 89))), (qS 93 (.load 1 false (.tmp 92))), (qS 9 (.mv (.tmp 91))), (qS 10 (.mv (.tmp 93)))]) (.seq (.ops [(qS 94 (.mv (.tmp 10))), (qS 95 (.mv (.tmp 4))), (qS 96 (.mv (.tmp 9))), (qS 97 (.nilChk (.tmp 95))), (qS 98 (.fieldA 0 (.tmp 97))), (qS 99 (.idxA 16 1 (.tmp 98) (.tmp 96))), (qS 100 (.load 1 false (.tmp 99))), (qS 101 (.len (.tmp 100))), (qS 102 (.pu (.n (.ar .gtr)) [(.tmp 94), (.tmp 101)])), (qS 103 (.mv (.tmp 102))), ⟨(.some 104), (.mv (.tmp 10)), (.some (103, false)), []⟩, ⟨(.some 105), (.pu (.n (.ar .gtr)) [(.tmp 104), (ic 0)]), (.some (103, false)), []⟩, ⟨(.some 106), (.mv (.tmp 105)), (.some (103, false)), []⟩, ⟨(.some 107), (.mv (.tmp 4)), (.some (106, true)), []⟩, ⟨(.some 108), (.mv (.tmp 9)), (.some (106, true)), []⟩, ⟨(.some 109), (.nilChk (.tmp 107)), (.some (106, true)), []⟩, ⟨(.some 110), (.fieldA 0 (.tmp 109)), (.some (106, true)), []⟩, ⟨(.some 111), (.idxA 16 1 (.tmp 110) (.tmp 108)), (.some (106, true)), []⟩, ⟨(.some 112), (.load 1 false (.tmp 111)), (.some (106, true)), []⟩, ⟨(.some 113), (.mv (.tmp 10)), (.some (106, true)), []⟩, ⟨(.some 114), (.pu (.n (.ar .sub)) [(.tmp 113), (ic 1)]), (.some (106, true)), []⟩, ⟨(.some 115), (.idxS 12 (.tmp 112) (.tmp 114)), (.some (106, true)), []⟩, ⟨(.some 116), (.load 12 true (.tmp 115)), (.some (106, true)), []⟩, ⟨(.some 117), (.call (2 * f_impl_Op_stamp) [(.tmp 116)]), (.some (106, true)), []⟩, ⟨(.some 118), (.load 12 true (.tmp 8)), (.some (106, true)), []⟩, ⟨(.some 119), (.call (2 * f_impl_Op_stamp) [(.tmp 118)]), (.some (106, true)), []⟩, ⟨(.some 120), (.call (2 * f_impl_StampLess) [(.tmp 117), (.tmp 119)]), (.some (106, true)), []⟩, ⟨(.some 121), (.pu (.n (.un .not)) [(.tmp 120)]), (.some (106, true)), []⟩, ⟨(.some 122), (.pick (.tmp 106) (.tmp 121) (.const (.bool false))), (.some (103, false)), []⟩, (qS 123 (.pick (.tmp 103) (.const (.bool true)) (.tmp 122)))]) (.cond (.tmp 123) (.seq (.ops [(qS 2 (.mv (.const (.pointer .none)))), (qS 3 (.mv (.const (.bool false))))]) .ret) .skip)))) (.ops [(qS 124 (.pu (.n (.ar .add)) [(.tmp 89), (ic 1)])), (qS 89 (.mv (.tmp 124)))]))))))))) (.ops [(qS 125 (.pu (.n (.ar .add)) [(.tmp 81), (ic 1)])), (qS 81 (.mv (.tmp 125)))]))))))) (.seq (.ops [(qS 126 (.mv (.tmp 4))), (qS 2 (.mv (.tmp 126))), (qS 3 (.mv (.const (.bool true))))]) .ret)))))), [(.tmp 2), (.tmp 3)]⟩
set_option maxHeartbeats 10000000 in
theorem d_impl_readBook {P : Program} {env : Env} {f_impl_opOK : Nat} {f_impl_Op_thing : Nat} {f_impl_book_put : Nat} {f_impl_Op_stamp : Nat} {f_impl_StampLess : Nat}  (ep_impl_opOK : env (2 * f_impl_opOK) = pureFn true (FA fun a : TOp => p_impl_opOK a)) (ep_impl_Op_thing : env (2 * f_impl_Op_thing) = pureFn true (FA fun a : TOp => p_impl_Op_thing a)) (ep_impl_Op_stamp : env (2 * f_impl_Op_stamp) = pureFn true (FA fun a : TOp => p_impl_Op_stamp a)) (ep_impl_StampLess : env (2 * f_impl_StampLess) = pureFn true (FA fun a : TStamp × TStamp => p_impl_StampLess a.1 a.2)) (e_impl_book_put : k_impl_book_put (env (2 * f_impl_book_put + 1))) (x0 : List TOp) {b : T2 (Option TBook) Bool} (hp : p_impl_readBook x0 = some b) : R P env (c_impl_readBook f_impl_opOK f_impl_Op_thing f_impl_book_put f_impl_Op_stamp f_impl_StampLess) ((encA (x0)).map ofI) [] (Tells false b) := by
  refine R_of (by simp [c_impl_readBook, encA]) ?_
  have E := And.intro opc (And.intro ep_impl_opOK (And.intro ep_impl_Op_thing (And.intro ep_impl_Op_stamp ep_impl_StampLess)))
  unfold c_impl_readBook
  unfold p_impl_readBook at hp
  try simp (maxSteps := 2000000) (disch := first|omega|(simp only[ls];first|done|omega)) only [E, gx]
  by_cases hb0 : (decide (1024 < (x0.length : Int))) = true
  · rw [if_t hb0] at hp
    have hp := Option.some.inj hp
    subst hp
    simp (maxSteps := 2000000) (disch := first|omega|(simp only[ls];first|done|omega)) only [E, hb0, gx]
  · replace hb0 := eq_false_of_ne_true hb0
    rw [if_f hb0] at hp
    obtain ⟨ee0, hee0, hp⟩ := bind_eq hp
    simp (maxSteps := 2000000) (disch := first|omega|(simp only[ls];first|done|omega)) only [E, hb0, gx]
    refine W_loopP 0 (fun s t h => match s with | (s1, s2) => t 0 = .i (.sl 12 (x0.map enc)) ∧ t 4 = .ptr 0 120 0 ∧ t 16 = .i (.sl 12 (x0.map enc)) ∧ t 17 = .i (.s (.int .i64 (x0.length : Int))) ∧ t 18 = .i (.s (.int .i64 s2)) ∧ BookAt h 0 s1 ∧ 0 < h.length) (RK [.tmp 2, .tmp 3] (Tells false)) ?_ hee0 ?_ ?_
    · rintro ⟨s1, s2⟩ ee tt0 hh0 ⟨ftt0_0, ftt0_1, ftt0_2, ftt0_3, ftt0_4, ftt0_5, ftt0_6⟩ hp
      rw [p_impl_readBook_l0] at hp
      try simp (maxSteps := 2000000) (disch := first|omega|(simp only[ls];first|done|omega)) only [E, hb0, ftt0_0, ftt0_1, ftt0_2, ftt0_3, ftt0_4, ftt0_5, ftt0_6, gx]
      by_cases hb3 : (decide (s2 < (x0.length : Int))) = true
      · rw [if_t hb3] at hp
        obtain ⟨v4, hv4, hp⟩ := bind_eq hp
        obtain ⟨v5, hv5, hp⟩ := bind_eq hp
        try simp (maxSteps := 2000000) (disch := first|omega|(simp only[ls];first|done|omega)) only [E, hb0, ftt0_0, ftt0_1, ftt0_2, ftt0_3, ftt0_4, ftt0_5, ftt0_6, hb3, hv4, hv5, gx]
        by_cases hb6 : (v5) = true
        · rw [if_t hb6] at hp
          try simp (maxSteps := 2000000) (disch := first|omega|(simp only[ls];first|done|omega)) only [E, hb0, ftt0_0, ftt0_1, ftt0_2, ftt0_3, ftt0_4, ftt0_5, ftt0_6, hb3, hv4, hv5, hb6, gx]
          by_cases hb7 : (decide (0 < s2)) = true
          · rw [if_t hb7] at hp
            obtain ⟨v8, hv8, hp⟩ := bind_eq hp
            try simp (maxSteps := 2000000) (disch := first|omega|(simp only[ls];first|done|omega)) only [E, hb0, ftt0_0, ftt0_1, ftt0_2, ftt0_3, ftt0_4, ftt0_5, ftt0_6, hb3, hv4, hv5, hb6, hb7, hv8, gx]
            by_cases hb9 : (decide (v4.actor < v8.actor)) = true
            · rw [if_t hb9] at hp
              have hp := Option.some.inj hp
              subst hp
              simp (maxSteps := 2000000) (disch := first|omega|(simp only[ls];first|done|omega)) only [E, hb0, ftt0_0, ftt0_1, ftt0_2, ftt0_3, ftt0_4, ftt0_5, ftt0_6, hb3, hv4, hv5, hb6, hb7, hv8, hb9, gx]
            · replace hb9 := eq_false_of_ne_true hb9
              rw [if_f hb9] at hp
              obtain ⟨v10, hv10, hp⟩ := bind_eq hp
              have gv10 := get_some hv10
              have bv10 : v4.actor < 16 := by have := gv10.2.1; have := (s1).h1; omega
              obtain ⟨vs11, hv11⟩ : BookAt hh0 0 s1 := by assumption
              have hr11 := hv11.row
              have hl11 := getCells_len hr11
              obtain ⟨u12, hu12⟩ : ∃ u, vs11[v4.actor.toNat]? = some u := ⟨_, List.getElem?_eq_getElem (by have := gv10.2.1; have := (s1).h1; have := hv11.len; omega)⟩
              have du12 := ld_of (R := BR s1) hu12
              have ou12 := hv11.own _ _ _ hu12 gv10.2.2
              have nu12 := ownL_lenS ou12
              try simp (maxSteps := 2000000) (disch := first|omega|(simp only[ls];first|done|omega)) only [E, hb0, ftt0_0, ftt0_1, ftt0_2, ftt0_3, ftt0_4, ftt0_5, ftt0_6, hb3, hv4, hv5, hb6, hb7, hv8, hb9, hv10, (gv10).1, bv10, hr11, hl11, du12, nu12, gx]
              by_cases hb13 : (decide (v4.seq = w64 ((v10.length : Int) + 1))) = true
              · rw [if_t hb13] at hp
                obtain ⟨v14, hv14, hp⟩ := bind_eq hp
                have gv14 := get_some hv14
                have bv14 : v4.obj < 101 := by have := gv14.2.1; have := (s1).h2; omega
                have hk15 := ld_kind (vs := vs11) (k := s1) hv11.len gv14.2.2
                try simp (maxSteps := 2000000) (disch := first|omega|(simp only[ls];first|done|omega)) only [E, hb0, ftt0_0, ftt0_1, ftt0_2, ftt0_3, ftt0_4, ftt0_5, ftt0_6, hb3, hv4, hv5, hb6, hb7, hv8, hb9, hv10, (gv10).1, bv10, hr11, hl11, du12, nu12, hb13, hv14, (gv14).1, bv14, hk15, gx]
                by_cases hb16 : (decide (v14 = 0)) = true
                · rw [if_t hb16] at hp
                  obtain ⟨v17, hv17, hp⟩ := bind_eq hp
                  simp (maxSteps := 2000000) (disch := first|omega|(simp only[ls];first|done|omega)) only [E, hb0, ftt0_0, ftt0_1, ftt0_2, ftt0_3, ftt0_4, ftt0_5, ftt0_6, hb3, hv4, hv5, hb6, hb7, hv8, hb9, hv10, (gv10).1, bv10, hr11, hl11, du12, nu12, hb13, hv14, (gv14).1, bv14, hk15, hb16, gx]
                  refine call_f (fun h => BookAt h 0 s1 ∧ 0 < h.length ∧ getCells h hh0.length 0 = some [] ∧ hh0.length < h.length ∧ getCells h (hh0.length + 1) 12 = some [.i (.s (.int .i64 v4.actor)), .i (.s (.int .i64 v4.seq)), .i (.s (.int .i64 v4.time)), .i (.sl 1 (v4.deps.counts.map enc)), .i (.s (.int .i64 v4.kind)), .i (.s (.int .i64 v4.obj)), .i (.s (.int .i64 v4.n)), .i (.s (.int .i64 v4.undo)), .i (.s (.int .i64 v4.at_.time)), .i (.s (.int .i64 v4.at_.actor)), .i (.s (.string v4.key)), .i (.s (.string v4.text))] ∧ hh0.length + 1 < h.length ∧ Free h hh0.length 0 ∧ Free h (hh0.length + 1) 0) (fun h v h2 => i_impl_book_put 0 h v17 v h2) ?_ ?_ ?_
                  · simp (maxSteps := 2000000) (disch := first|omega|(simp only[ls];first|done|omega)) only [E, hb0, ftt0_0, ftt0_1, ftt0_2, ftt0_3, ftt0_4, ftt0_5, ftt0_6, hb3, hv4, hv5, hb6, hb7, hv8, hb9, hv10, (gv10).1, bv10, hr11, hl11, du12, nu12, hb13, hv14, (gv14).1, bv14, hk15, hb16, hv17, gx] <;> (repeat (first | refine And.intro ?_ ?_ | assumption | exact book_ext (by assumption) | exact book_new rfl | exact free_ext (by assumption) (by first | omega | assumption) | exact free_new (k := book0) rfl (by first | decide | omega) | exact free_fresh (by assumption) (by first | exact Nat.le_refl _ | omega) | refine book_ext ?_ | refine free_ext ?_ (by first | omega | (simp; omega)) | omega))
                  · rintro h ⟨c1_0, c1_1, c1_2, c1_3, c1_4, c1_5, c1_6, c1_7⟩
                    exact e_impl_book_put _ _ _ hv17 _ h c1_0
                  · rintro hc1 v hh1 ⟨c1_0, c1_1, c1_2, c1_3, c1_4, c1_5, c1_6, c1_7⟩ hpost
                    obtain ⟨kk1, rfl, w1_0, wf1⟩ := hpost
                    have d1_0 : BookAt hh1 0 v17 := w1_0
                    have d1_0l := book_lt d1_0
                    have d1_1 : getCells hh1 hh0.length 0 = some [] := (free_get (wf1 _ c1_3 c1_6).1).trans c1_2
                    have d1_1l := Nat.lt_of_lt_of_le c1_3 kk1
                    have d1_2 : getCells hh1 (hh0.length + 1) 12 = some [.i (.s (.int .i64 v4.actor)), .i (.s (.int .i64 v4.seq)), .i (.s (.int .i64 v4.time)), .i (.sl 1 (v4.deps.counts.map enc)), .i (.s (.int .i64 v4.kind)), .i (.s (.int .i64 v4.obj)), .i (.s (.int .i64 v4.n)), .i (.s (.int .i64 v4.undo)), .i (.s (.int .i64 v4.at_.time)), .i (.s (.int .i64 v4.at_.actor)), .i (.s (.string v4.key)), .i (.s (.string v4.text))] := (free_get (wf1 _ c1_5 c1_7).1).trans c1_4
                    have d1_2l := Nat.lt_of_lt_of_le c1_5 kk1
                    have ff1_0 : Free hh1 hh0.length 0 := (wf1 _ c1_3 c1_6).2
                    have ff1_1 : Free hh1 (hh0.length + 1) 0 := (wf1 _ c1_5 c1_7).2
                    have hp := Option.some.inj hp
                    subst hp
                    simp (maxSteps := 2000000) (disch := first|omega|(simp only[ls];first|done|omega)) only [E, hb0, ftt0_0, ftt0_1, ftt0_2, ftt0_3, ftt0_4, ftt0_5, ftt0_6, hb3, hv4, hv5, hb6, hb7, hv8, hb9, hv10, (gv10).1, bv10, hr11, hl11, du12, nu12, hb13, hv14, (gv14).1, bv14, hk15, hb16, hv17, d1_0, d1_1, d1_2, ff1_0, ff1_1, gx] <;> (repeat (first | refine And.intro ?_ ?_ | assumption | exact book_ext (by assumption) | exact book_new rfl | exact free_ext (by assumption) (by first | omega | assumption) | exact free_new (k := book0) rfl (by first | decide | omega) | exact free_fresh (by assumption) (by first | exact Nat.le_refl _ | omega) | refine book_ext ?_ | refine free_ext ?_ (by first | omega | (simp; omega)) | omega))
                · replace hb16 := eq_false_of_ne_true hb16
                  rw [if_f hb16] at hp
                  have hk18 := ld_kind (vs := vs11) (k := s1) hv11.len gv14.2.2
                  obtain ⟨v19, hv19, hp⟩ := bind_eq hp
                  try simp (maxSteps := 2000000) (disch := first|omega|(simp only[ls];first|done|omega)) only [E, hb0, ftt0_0, ftt0_1, ftt0_2, ftt0_3, ftt0_4, ftt0_5, ftt0_6, hb3, hv4, hv5, hb6, hb7, hv8, hb9, hv10, (gv10).1, bv10, hr11, hl11, du12, nu12, hb13, hv14, (gv14).1, bv14, hk15, hb16, hk18, hv19, gx]
                  by_cases hb20 : (decide (v14 = v19)) = true
                  · rw [if_t hb20] at hp
                    obtain ⟨v21, hv21, hp⟩ := bind_eq hp
                    simp (maxSteps := 2000000) (disch := first|omega|(simp only[ls];first|done|omega)) only [E, hb0, ftt0_0, ftt0_1, ftt0_2, ftt0_3, ftt0_4, ftt0_5, ftt0_6, hb3, hv4, hv5, hb6, hb7, hv8, hb9, hv10, (gv10).1, bv10, hr11, hl11, du12, nu12, hb13, hv14, (gv14).1, bv14, hk15, hb16, hk18, hv19, hb20, gx]
                    refine call_f (fun h => BookAt h 0 s1 ∧ 0 < h.length ∧ getCells h hh0.length 0 = some [] ∧ hh0.length < h.length ∧ getCells h (hh0.length + 1) 12 = some [.i (.s (.int .i64 v4.actor)), .i (.s (.int .i64 v4.seq)), .i (.s (.int .i64 v4.time)), .i (.sl 1 (v4.deps.counts.map enc)), .i (.s (.int .i64 v4.kind)), .i (.s (.int .i64 v4.obj)), .i (.s (.int .i64 v4.n)), .i (.s (.int .i64 v4.undo)), .i (.s (.int .i64 v4.at_.time)), .i (.s (.int .i64 v4.at_.actor)), .i (.s (.string v4.key)), .i (.s (.string v4.text))] ∧ hh0.length + 1 < h.length ∧ Free h hh0.length 0 ∧ Free h (hh0.length + 1) 0) (fun h v h2 => i_impl_book_put 0 h v21 v h2) ?_ ?_ ?_
                    · simp (maxSteps := 2000000) (disch := first|omega|(simp only[ls];first|done|omega)) only [E, hb0, ftt0_0, ftt0_1, ftt0_2, ftt0_3, ftt0_4, ftt0_5, ftt0_6, hb3, hv4, hv5, hb6, hb7, hv8, hb9, hv10, (gv10).1, bv10, hr11, hl11, du12, nu12, hb13, hv14, (gv14).1, bv14, hk15, hb16, hk18, hv19, hb20, hv21, gx] <;> (repeat (first | refine And.intro ?_ ?_ | assumption | exact book_ext (by assumption) | exact book_new rfl | exact free_ext (by assumption) (by first | omega | assumption) | exact free_new (k := book0) rfl (by first | decide | omega) | exact free_fresh (by assumption) (by first | exact Nat.le_refl _ | omega) | refine book_ext ?_ | refine free_ext ?_ (by first | omega | (simp; omega)) | omega))
                    · rintro h ⟨c2_0, c2_1, c2_2, c2_3, c2_4, c2_5, c2_6, c2_7⟩
                      exact e_impl_book_put _ _ _ hv21 _ h c2_0
                    · rintro hc2 v hh2 ⟨c2_0, c2_1, c2_2, c2_3, c2_4, c2_5, c2_6, c2_7⟩ hpost
                      obtain ⟨kk2, rfl, w2_0, wf2⟩ := hpost
                      have d2_0 : BookAt hh2 0 v21 := w2_0
                      have d2_0l := book_lt d2_0
                      have d2_1 : getCells hh2 hh0.length 0 = some [] := (free_get (wf2 _ c2_3 c2_6).1).trans c2_2
                      have d2_1l := Nat.lt_of_lt_of_le c2_3 kk2
                      have d2_2 : getCells hh2 (hh0.length + 1) 12 = some [.i (.s (.int .i64 v4.actor)), .i (.s (.int .i64 v4.seq)), .i (.s (.int .i64 v4.time)), .i (.sl 1 (v4.deps.counts.map enc)), .i (.s (.int .i64 v4.kind)), .i (.s (.int .i64 v4.obj)), .i (.s (.int .i64 v4.n)), .i (.s (.int .i64 v4.undo)), .i (.s (.int .i64 v4.at_.time)), .i (.s (.int .i64 v4.at_.actor)), .i (.s (.string v4.key)), .i (.s (.string v4.text))] := (free_get (wf2 _ c2_5 c2_7).1).trans c2_4
                      have d2_2l := Nat.lt_of_lt_of_le c2_5 kk2
                      have ff2_0 : Free hh2 hh0.length 0 := (wf2 _ c2_3 c2_6).2
                      have ff2_1 : Free hh2 (hh0.length + 1) 0 := (wf2 _ c2_5 c2_7).2
                      have hp := Option.some.inj hp
                      subst hp
                      simp (maxSteps := 2000000) (disch := first|omega|(simp only[ls];first|done|omega)) only [E, hb0, ftt0_0, ftt0_1, ftt0_2, ftt0_3, ftt0_4, ftt0_5, ftt0_6, hb3, hv4, hv5, hb6, hb7, hv8, hb9, hv10, (gv10).1, bv10, hr11, hl11, du12, nu12, hb13, hv14, (gv14).1, bv14, hk15, hb16, hk18, hv19, hb20, hv21, d2_0, d2_1, d2_2, ff2_0, ff2_1, gx] <;> (repeat (first | refine And.intro ?_ ?_ | assumption | exact book_ext (by assumption) | exact book_new rfl | exact free_ext (by assumption) (by first | omega | assumption) | exact free_new (k := book0) rfl (by first | decide | omega) | exact free_fresh (by assumption) (by first | exact Nat.le_refl _ | omega) | refine book_ext ?_ | refine free_ext ?_ (by first | omega | (simp; omega)) | omega))
                  · replace hb20 := eq_false_of_ne_true hb20
                    rw [if_f hb20] at hp
                    have hp := Option.some.inj hp
                    subst hp
                    simp (maxSteps := 2000000) (disch := first|omega|(simp only[ls];first|done|omega)) only [E, hb0, ftt0_0, ftt0_1, ftt0_2, ftt0_3, ftt0_4, ftt0_5, ftt0_6, hb3, hv4, hv5, hb6, hb7, hv8, hb9, hv10, (gv10).1, bv10, hr11, hl11, du12, nu12, hb13, hv14, (gv14).1, bv14, hk15, hb16, hk18, hv19, hb20, gx]
              · replace hb13 := eq_false_of_ne_true hb13
                rw [if_f hb13] at hp
                have hp := Option.some.inj hp
                subst hp
                simp (maxSteps := 2000000) (disch := first|omega|(simp only[ls];first|done|omega)) only [E, hb0, ftt0_0, ftt0_1, ftt0_2, ftt0_3, ftt0_4, ftt0_5, ftt0_6, hb3, hv4, hv5, hb6, hb7, hv8, hb9, hv10, (gv10).1, bv10, hr11, hl11, du12, nu12, hb13, gx]
          · replace hb7 := eq_false_of_ne_true hb7
            rw [if_f hb7] at hp
            obtain ⟨v22, hv22, hp⟩ := bind_eq hp
            have gv22 := get_some hv22
            have bv22 : v4.actor < 16 := by have := gv22.2.1; have := (s1).h1; omega
            obtain ⟨vs23, hv23⟩ : BookAt hh0 0 s1 := by assumption
            have hr23 := hv23.row
            have hl23 := getCells_len hr23
            obtain ⟨u24, hu24⟩ : ∃ u, vs23[v4.actor.toNat]? = some u := ⟨_, List.getElem?_eq_getElem (by have := gv22.2.1; have := (s1).h1; have := hv23.len; omega)⟩
            have du24 := ld_of (R := BR s1) hu24
            have ou24 := hv23.own _ _ _ hu24 gv22.2.2
            have nu24 := ownL_lenS ou24
            try simp (maxSteps := 2000000) (disch := first|omega|(simp only[ls];first|done|omega)) only [E, hb0, ftt0_0, ftt0_1, ftt0_2, ftt0_3, ftt0_4, ftt0_5, ftt0_6, hb3, hv4, hv5, hb6, hb7, hv22, (gv22).1, bv22, hr23, hl23, du24, nu24, gx]
            by_cases hb25 : (decide (v4.seq = w64 ((v22.length : Int) + 1))) = true
            · rw [if_t hb25] at hp
              obtain ⟨v26, hv26, hp⟩ := bind_eq hp
              have gv26 := get_some hv26
              have bv26 : v4.obj < 101 := by have := gv26.2.1; have := (s1).h2; omega
              have hk27 := ld_kind (vs := vs23) (k := s1) hv23.len gv26.2.2
              try simp (maxSteps := 2000000) (disch := first|omega|(simp only[ls];first|done|omega)) only [E, hb0, ftt0_0, ftt0_1, ftt0_2, ftt0_3, ftt0_4, ftt0_5, ftt0_6, hb3, hv4, hv5, hb6, hb7, hv22, (gv22).1, bv22, hr23, hl23, du24, nu24, hb25, hv26, (gv26).1, bv26, hk27, gx]
              by_cases hb28 : (decide (v26 = 0)) = true
              · rw [if_t hb28] at hp
                obtain ⟨v29, hv29, hp⟩ := bind_eq hp
                simp (maxSteps := 2000000) (disch := first|omega|(simp only[ls];first|done|omega)) only [E, hb0, ftt0_0, ftt0_1, ftt0_2, ftt0_3, ftt0_4, ftt0_5, ftt0_6, hb3, hv4, hv5, hb6, hb7, hv22, (gv22).1, bv22, hr23, hl23, du24, nu24, hb25, hv26, (gv26).1, bv26, hk27, hb28, gx]
                refine call_f (fun h => BookAt h 0 s1 ∧ 0 < h.length ∧ getCells h hh0.length 0 = some [] ∧ hh0.length < h.length ∧ getCells h (hh0.length + 1) 12 = some [.i (.s (.int .i64 v4.actor)), .i (.s (.int .i64 v4.seq)), .i (.s (.int .i64 v4.time)), .i (.sl 1 (v4.deps.counts.map enc)), .i (.s (.int .i64 v4.kind)), .i (.s (.int .i64 v4.obj)), .i (.s (.int .i64 v4.n)), .i (.s (.int .i64 v4.undo)), .i (.s (.int .i64 v4.at_.time)), .i (.s (.int .i64 v4.at_.actor)), .i (.s (.string v4.key)), .i (.s (.string v4.text))] ∧ hh0.length + 1 < h.length ∧ Free h hh0.length 0 ∧ Free h (hh0.length + 1) 0) (fun h v h2 => i_impl_book_put 0 h v29 v h2) ?_ ?_ ?_
                · simp (maxSteps := 2000000) (disch := first|omega|(simp only[ls];first|done|omega)) only [E, hb0, ftt0_0, ftt0_1, ftt0_2, ftt0_3, ftt0_4, ftt0_5, ftt0_6, hb3, hv4, hv5, hb6, hb7, hv22, (gv22).1, bv22, hr23, hl23, du24, nu24, hb25, hv26, (gv26).1, bv26, hk27, hb28, hv29, gx] <;> (repeat (first | refine And.intro ?_ ?_ | assumption | exact book_ext (by assumption) | exact book_new rfl | exact free_ext (by assumption) (by first | omega | assumption) | exact free_new (k := book0) rfl (by first | decide | omega) | exact free_fresh (by assumption) (by first | exact Nat.le_refl _ | omega) | refine book_ext ?_ | refine free_ext ?_ (by first | omega | (simp; omega)) | omega))
                · rintro h ⟨c3_0, c3_1, c3_2, c3_3, c3_4, c3_5, c3_6, c3_7⟩
                  exact e_impl_book_put _ _ _ hv29 _ h c3_0
                · rintro hc3 v hh3 ⟨c3_0, c3_1, c3_2, c3_3, c3_4, c3_5, c3_6, c3_7⟩ hpost
                  obtain ⟨kk3, rfl, w3_0, wf3⟩ := hpost
                  have d3_0 : BookAt hh3 0 v29 := w3_0
                  have d3_0l := book_lt d3_0
                  have d3_1 : getCells hh3 hh0.length 0 = some [] := (free_get (wf3 _ c3_3 c3_6).1).trans c3_2
                  have d3_1l := Nat.lt_of_lt_of_le c3_3 kk3
                  have d3_2 : getCells hh3 (hh0.length + 1) 12 = some [.i (.s (.int .i64 v4.actor)), .i (.s (.int .i64 v4.seq)), .i (.s (.int .i64 v4.time)), .i (.sl 1 (v4.deps.counts.map enc)), .i (.s (.int .i64 v4.kind)), .i (.s (.int .i64 v4.obj)), .i (.s (.int .i64 v4.n)), .i (.s (.int .i64 v4.undo)), .i (.s (.int .i64 v4.at_.time)), .i (.s (.int .i64 v4.at_.actor)), .i (.s (.string v4.key)), .i (.s (.string v4.text))] := (free_get (wf3 _ c3_5 c3_7).1).trans c3_4
                  have d3_2l := Nat.lt_of_lt_of_le c3_5 kk3
                  have ff3_0 : Free hh3 hh0.length 0 := (wf3 _ c3_3 c3_6).2
                  have ff3_1 : Free hh3 (hh0.length + 1) 0 := (wf3 _ c3_5 c3_7).2
                  have hp := Option.some.inj hp
                  subst hp
                  simp (maxSteps := 2000000) (disch := first|omega|(simp only[ls];first|done|omega)) only [E, hb0, ftt0_0, ftt0_1, ftt0_2, ftt0_3, ftt0_4, ftt0_5, ftt0_6, hb3, hv4, hv5, hb6, hb7, hv22, (gv22).1, bv22, hr23, hl23, du24, nu24, hb25, hv26, (gv26).1, bv26, hk27, hb28, hv29, d3_0, d3_1, d3_2, ff3_0, ff3_1, gx] <;> (repeat (first | refine And.intro ?_ ?_ | assumption | exact book_ext (by assumption) | exact book_new rfl | exact free_ext (by assumption) (by first | omega | assumption) | exact free_new (k := book0) rfl (by first | decide | omega) | exact free_fresh (by assumption) (by first | exact Nat.le_refl _ | omega) | refine book_ext ?_ | refine free_ext ?_ (by first | omega | (simp; omega)) | omega))
              · replace hb28 := eq_false_of_ne_true hb28
                rw [if_f hb28] at hp
                have hk30 := ld_kind (vs := vs23) (k := s1) hv23.len gv26.2.2
                obtain ⟨v31, hv31, hp⟩ := bind_eq hp
                try simp (maxSteps := 2000000) (disch := first|omega|(simp only[ls];first|done|omega)) only [E, hb0, ftt0_0, ftt0_1, ftt0_2, ftt0_3, ftt0_4, ftt0_5, ftt0_6, hb3, hv4, hv5, hb6, hb7, hv22, (gv22).1, bv22, hr23, hl23, du24, nu24, hb25, hv26, (gv26).1, bv26, hk27, hb28, hk30, hv31, gx]
                by_cases hb32 : (decide (v26 = v31)) = true
                · rw [if_t hb32] at hp
                  obtain ⟨v33, hv33, hp⟩ := bind_eq hp
                  simp (maxSteps := 2000000) (disch := first|omega|(simp only[ls];first|done|omega)) only [E, hb0, ftt0_0, ftt0_1, ftt0_2, ftt0_3, ftt0_4, ftt0_5, ftt0_6, hb3, hv4, hv5, hb6, hb7, hv22, (gv22).1, bv22, hr23, hl23, du24, nu24, hb25, hv26, (gv26).1, bv26, hk27, hb28, hk30, hv31, hb32, gx]
                  refine call_f (fun h => BookAt h 0 s1 ∧ 0 < h.length ∧ getCells h hh0.length 0 = some [] ∧ hh0.length < h.length ∧ getCells h (hh0.length + 1) 12 = some [.i (.s (.int .i64 v4.actor)), .i (.s (.int .i64 v4.seq)), .i (.s (.int .i64 v4.time)), .i (.sl 1 (v4.deps.counts.map enc)), .i (.s (.int .i64 v4.kind)), .i (.s (.int .i64 v4.obj)), .i (.s (.int .i64 v4.n)), .i (.s (.int .i64 v4.undo)), .i (.s (.int .i64 v4.at_.time)), .i (.s (.int .i64 v4.at_.actor)), .i (.s (.string v4.key)), .i (.s (.string v4.text))] ∧ hh0.length + 1 < h.length ∧ Free h hh0.length 0 ∧ Free h (hh0.length + 1) 0) (fun h v h2 => i_impl_book_put 0 h v33 v h2) ?_ ?_ ?_
                  · simp (maxSteps := 2000000) (disch := first|omega|(simp only[ls];first|done|omega)) only [E, hb0, ftt0_0, ftt0_1, ftt0_2, ftt0_3, ftt0_4, ftt0_5, ftt0_6, hb3, hv4, hv5, hb6, hb7, hv22, (gv22).1, bv22, hr23, hl23, du24, nu24, hb25, hv26, (gv26).1, bv26, hk27, hb28, hk30, hv31, hb32, hv33, gx] <;> (repeat (first | refine And.intro ?_ ?_ | assumption | exact book_ext (by assumption) | exact book_new rfl | exact free_ext (by assumption) (by first | omega | assumption) | exact free_new (k := book0) rfl (by first | decide | omega) | exact free_fresh (by assumption) (by first | exact Nat.le_refl _ | omega) | refine book_ext ?_ | refine free_ext ?_ (by first | omega | (simp; omega)) | omega))
                  · rintro h ⟨c4_0, c4_1, c4_2, c4_3, c4_4, c4_5, c4_6, c4_7⟩
                    exact e_impl_book_put _ _ _ hv33 _ h c4_0
                  · rintro hc4 v hh4 ⟨c4_0, c4_1, c4_2, c4_3, c4_4, c4_5, c4_6, c4_7⟩ hpost
                    obtain ⟨kk4, rfl, w4_0, wf4⟩ := hpost
                    have d4_0 : BookAt hh4 0 v33 := w4_0
                    have d4_0l := book_lt d4_0
                    have d4_1 : getCells hh4 hh0.length 0 = some [] := (free_get (wf4 _ c4_3 c4_6).1).trans c4_2
                    have d4_1l := Nat.lt_of_lt_of_le c4_3 kk4
                    have d4_2 : getCells hh4 (hh0.length + 1) 12 = some [.i (.s (.int .i64 v4.actor)), .i (.s (.int .i64 v4.seq)), .i (.s (.int .i64 v4.time)), .i (.sl 1 (v4.deps.counts.map enc)), .i (.s (.int .i64 v4.kind)), .i (.s (.int .i64 v4.obj)), .i (.s (.int .i64 v4.n)), .i (.s (.int .i64 v4.undo)), .i (.s (.int .i64 v4.at_.time)), .i (.s (.int .i64 v4.at_.actor)), .i (.s (.string v4.key)), .i (.s (.string v4.text))] := (free_get (wf4 _ c4_5 c4_7).1).trans c4_4
                    have d4_2l := Nat.lt_of_lt_of_le c4_5 kk4
                    have ff4_0 : Free hh4 hh0.length 0 := (wf4 _ c4_3 c4_6).2
                    have ff4_1 : Free hh4 (hh0.length + 1) 0 := (wf4 _ c4_5 c4_7).2
                    have hp := Option.some.inj hp
                    subst hp
                    simp (maxSteps := 2000000) (disch := first|omega|(simp only[ls];first|done|omega)) only [E, hb0, ftt0_0, ftt0_1, ftt0_2, ftt0_3, ftt0_4, ftt0_5, ftt0_6, hb3, hv4, hv5, hb6, hb7, hv22, (gv22).1, bv22, hr23, hl23, du24, nu24, hb25, hv26, (gv26).1, bv26, hk27, hb28, hk30, hv31, hb32, hv33, d4_0, d4_1, d4_2, ff4_0, ff4_1, gx] <;> (repeat (first | refine And.intro ?_ ?_ | assumption | exact book_ext (by assumption) | exact book_new rfl | exact free_ext (by assumption) (by first | omega | assumption) | exact free_new (k := book0) rfl (by first | decide | omega) | exact free_fresh (by assumption) (by first | exact Nat.le_refl _ | omega) | refine book_ext ?_ | refine free_ext ?_ (by first | omega | (simp; omega)) | omega))
                · replace hb32 := eq_false_of_ne_true hb32
                  rw [if_f hb32] at hp
                  have hp := Option.some.inj hp
                  subst hp
                  simp (maxSteps := 2000000) (disch := first|omega|(simp only[ls];first|done|omega)) only [E, hb0, ftt0_0, ftt0_1, ftt0_2, ftt0_3, ftt0_4, ftt0_5, ftt0_6, hb3, hv4, hv5, hb6, hb7, hv22, (gv22).1, bv22, hr23, hl23, du24, nu24, hb25, hv26, (gv26).1, bv26, hk27, hb28, hk30, hv31, hb32, gx]
            · replace hb25 := eq_false_of_ne_true hb25
              rw [if_f hb25] at hp
              have hp := Option.some.inj hp
              subst hp
              simp (maxSteps := 2000000) (disch := first|omega|(simp only[ls];first|done|omega)) only [E, hb0, ftt0_0, ftt0_1, ftt0_2, ftt0_3, ftt0_4, ftt0_5, ftt0_6, hb3, hv4, hv5, hb6, hb7, hv22, (gv22).1, bv22, hr23, hl23, du24, nu24, hb25, gx]
        · replace hb6 := eq_false_of_ne_true hb6
          rw [if_f hb6] at hp
          have hp := Option.some.inj hp
          subst hp
          simp (maxSteps := 2000000) (disch := first|omega|(simp only[ls];first|done|omega)) only [E, hb0, ftt0_0, ftt0_1, ftt0_2, ftt0_3, ftt0_4, ftt0_5, ftt0_6, hb3, hv4, hv5, hb6, gx]
      · replace hb3 := eq_false_of_ne_true hb3
        rw [if_f hb3] at hp
        have hp := Option.some.inj hp
        subst hp
        simp (maxSteps := 2000000) (disch := first|omega|(simp only[ls];first|done|omega)) only [E, hb0, ftt0_0, ftt0_1, ftt0_2, ftt0_3, ftt0_4, ftt0_5, ftt0_6, hb3, gx] <;> (repeat (first | refine And.intro ?_ ?_ | assumption | exact book_ext (by assumption) | exact book_new rfl | exact free_ext (by assumption) (by first | omega | assumption) | exact free_new (k := book0) rfl (by first | decide | omega) | exact free_fresh (by assumption) (by first | exact Nat.le_refl _ | omega) | refine book_ext ?_ | refine free_ext ?_ (by first | omega | (simp; omega)) | omega))
    · simp (maxSteps := 2000000) (disch := first|omega|(simp only[ls];first|done|omega)) only [E, hb0, gx] <;> (repeat (first | refine And.intro ?_ ?_ | assumption | exact book_ext (by assumption) | exact book_new rfl | exact free_ext (by assumption) (by first | omega | assumption) | exact free_new (k := book0) rfl (by first | decide | omega) | exact free_fresh (by assumption) (by first | exact Nat.le_refl _ | omega) | refine book_ext ?_ | refine free_ext ?_ (by first | omega | (simp; omega)) | omega))
    · intro x tt5 hh5 hx
      rcases ee0 with ⟨o34, o35⟩ | r
      · obtain ⟨rfl, ftt5_0, ftt5_1, ftt5_2, ftt5_3, ftt5_4, ftt5_5, ftt5_6⟩ := hx
        dsimp only at hp
        obtain ⟨ee2, hee2, hp⟩ := bind_eq hp
        simp (maxSteps := 2000000) (disch := first|omega|(simp only[ls];first|done|omega)) only [E, hb0, ftt5_0, ftt5_1, ftt5_2, ftt5_3, ftt5_4, ftt5_5, ftt5_6, gx]
        refine W_loopP 2 (fun s t h => match s with | s36 => t 4 = .ptr 0 120 0 ∧ t 79 = .i (.sl 12 (x0.map enc)) ∧ t 80 = .i (.s (.int .i64 (x0.length : Int))) ∧ t 81 = .i (.s (.int .i64 s36)) ∧ BookAt h 0 o34 ∧ 0 < h.length) (RK [.tmp 2, .tmp 3] (Tells false)) ?_ hee2 ?_ ?_
        · rintro s36 ee tt6 hh6 ⟨ftt6_0, ftt6_1, ftt6_2, ftt6_3, ftt6_4, ftt6_5⟩ hp
          rw [p_impl_readBook_l2] at hp
          try simp (maxSteps := 2000000) (disch := first|omega|(simp only[ls];first|done|omega)) only [E, hb0, ftt5_0, ftt5_1, ftt5_2, ftt5_3, ftt5_4, ftt5_5, ftt5_6, ftt6_0, ftt6_1, ftt6_2, ftt6_3, ftt6_4, ftt6_5, gx]
          by_cases hb37 : (decide (s36 < (x0.length : Int))) = true
          · rw [if_t hb37] at hp
            obtain ⟨v38, hv38, hp⟩ := bind_eq hp
            obtain ⟨ee1, hee1, hp⟩ := bind_eq hp
            simp (maxSteps := 2000000) (disch := first|omega|(simp only[ls];first|done|omega)) only [E, hb0, ftt5_0, ftt5_1, ftt5_2, ftt5_3, ftt5_4, ftt5_5, ftt5_6, ftt6_0, ftt6_1, ftt6_2, ftt6_3, ftt6_4, ftt6_5, hb37, hv38, gx]
            refine W_loopP 4 (fun s t h => match s with | s39 => t 4 = .ptr 0 120 0 ∧ t 8 = .ptr (hh6.length + 1) 12 0 ∧ t 79 = .i (.sl 12 (x0.map enc)) ∧ t 80 = .i (.s (.int .i64 (x0.length : Int))) ∧ t 81 = .i (.s (.int .i64 s36)) ∧ t 87 = .i (.sl 1 (v38.deps.counts.map enc)) ∧ t 88 = .i (.s (.int .i64 (v38.deps.counts.length : Int))) ∧ t 89 = .i (.s (.int .i64 s39)) ∧ BookAt h 0 o34 ∧ 0 < h.length ∧ getCells h (hh6.length + 1) 12 = some [.i (.s (.int .i64 v38.actor)), .i (.s (.int .i64 v38.seq)), .i (.s (.int .i64 v38.time)), .i (.sl 1 (v38.deps.counts.map enc)), .i (.s (.int .i64 v38.kind)), .i (.s (.int .i64 v38.obj)), .i (.s (.int .i64 v38.n)), .i (.s (.int .i64 v38.undo)), .i (.s (.int .i64 v38.at_.time)), .i (.s (.int .i64 v38.at_.actor)), .i (.s (.string v38.key)), .i (.s (.string v38.text))] ∧ hh6.length + 1 < h.length ∧ Free h (hh6.length + 1) 0) (RK [.tmp 2, .tmp 3] (Tells false)) ?_ hee1 ?_ ?_
            · rintro s39 ee tt7 hh7 ⟨ftt7_0, ftt7_1, ftt7_2, ftt7_3, ftt7_4, ftt7_5, ftt7_6, ftt7_7, ftt7_8, ftt7_9, ftt7_10, ftt7_11, ftt7_12⟩ hp
              rw [p_impl_readBook_l1] at hp
              try simp (maxSteps := 2000000) (disch := first|omega|(simp only[ls];first|done|omega)) only [E, hb0, ftt5_0, ftt5_1, ftt5_2, ftt5_3, ftt5_4, ftt5_5, ftt5_6, ftt6_0, ftt6_1, ftt6_2, ftt6_3, ftt6_4, ftt6_5, hb37, hv38, ftt7_0, ftt7_1, ftt7_2, ftt7_3, ftt7_4, ftt7_5, ftt7_6, ftt7_7, ftt7_8, ftt7_9, ftt7_10, ftt7_11, ftt7_12, gx]
              by_cases hb40 : (decide (s39 < (v38.deps.counts.length : Int))) = true
              · rw [if_t hb40] at hp
                obtain ⟨v41, hv41, hp⟩ := bind_eq hp
                obtain ⟨v42, hv42, hp⟩ := bind_eq hp
                have gv42 := get_some hv42
                have bv42 : s39 < 16 := by have := gv42.2.1; have := (o34).h1; omega
                obtain ⟨vs43, hv43⟩ : BookAt hh7 0 o34 := by assumption
                have hr43 := hv43.row
                have hl43 := getCells_len hr43
                obtain ⟨u44, hu44⟩ : ∃ u, vs43[s39.toNat]? = some u := ⟨_, List.getElem?_eq_getElem (by have := gv42.2.1; have := (o34).h1; have := hv43.len; omega)⟩
                have du44 := ld_of (R := BR o34) hu44
                have ou44 := hv43.own _ _ _ hu44 gv42.2.2
                have nu44 := ownL_lenS ou44
                try simp (maxSteps := 2000000) (disch := first|omega|(simp only[ls];first|done|omega)) only [E, hb0, ftt5_0, ftt5_1, ftt5_2, ftt5_3, ftt5_4, ftt5_5, ftt5_6, ftt6_0, ftt6_1, ftt6_2, ftt6_3, ftt6_4, ftt6_5, hb37, hv38, ftt7_0, ftt7_1, ftt7_2, ftt7_3, ftt7_4, ftt7_5, ftt7_6, ftt7_7, ftt7_8, ftt7_9, ftt7_10, ftt7_11, ftt7_12, hb40, hv41, hv42, (gv42).1, bv42, hr43, hl43, du44, nu44, gx]
                by_cases hb45 : (decide ((v42.length : Int) < v41)) = true
                · rw [if_t hb45] at hp
                  have hp := Option.some.inj hp
                  subst hp
                  simp (maxSteps := 2000000) (disch := first|omega|(simp only[ls];first|done|omega)) only [E, hb0, ftt5_0, ftt5_1, ftt5_2, ftt5_3, ftt5_4, ftt5_5, ftt5_6, ftt6_0, ftt6_1, ftt6_2, ftt6_3, ftt6_4, ftt6_5, hb37, hv38, ftt7_0, ftt7_1, ftt7_2, ftt7_3, ftt7_4, ftt7_5, ftt7_6, ftt7_7, ftt7_8, ftt7_9, ftt7_10, ftt7_11, ftt7_12, hb40, hv41, hv42, (gv42).1, bv42, hr43, hl43, du44, nu44, hb45, gx]
                · replace hb45 := eq_false_of_ne_true hb45
                  rw [if_f hb45] at hp
                  try simp (maxSteps := 2000000) (disch := first|omega|(simp only[ls];first|done|omega)) only [E, hb0, ftt5_0, ftt5_1, ftt5_2, ftt5_3, ftt5_4, ftt5_5, ftt5_6, ftt6_0, ftt6_1, ftt6_2, ftt6_3, ftt6_4, ftt6_5, hb37, hv38, ftt7_0, ftt7_1, ftt7_2, ftt7_3, ftt7_4, ftt7_5, ftt7_6, ftt7_7, ftt7_8, ftt7_9, ftt7_10, ftt7_11, ftt7_12, hb40, hv41, hv42, (gv42).1, bv42, hr43, hl43, du44, nu44, hb45, gx]
                  by_cases hb46 : (decide (0 < v41)) = true
                  · rw [if_t hb46] at hp
                    obtain ⟨v47, hv47, hp⟩ := bind_eq hp
                    have gv47 := get_some hv47
                    obtain ⟨cw44, evcw44, hccw44⟩ := ownL_idx ou44 hv47
                    have hl48 : List.take 12 (List.drop (((w64 (v41 - 1)).toNat) * 12) (rows v42)) = [.i (.s (.int .i64 v47.actor)), .i (.s (.int .i64 v47.seq)), .i (.s (.int .i64 v47.time)), .i (.sl 1 (v47.deps.counts.map enc)), .i (.s (.int .i64 v47.kind)), .i (.s (.int .i64 v47.obj)), .i (.s (.int .i64 v47.n)), .i (.s (.int .i64 v47.undo)), .i (.s (.int .i64 v47.at_.time)), .i (.s (.int .i64 v47.at_.actor)), .i (.s (.string v47.key)), .i (.s (.string v47.text))] := by simpa [zs, cellsV, I.cells, enc_TOp, enc_list] using rows_get_off (k := 0) (m := 12) gv47.2.2 (Nat.le_of_ble_eq_true rfl)
                    obtain ⟨v49, hv49, hp⟩ := bind_eq hp
                    obtain ⟨v50, hv50, hp⟩ := bind_eq hp
                    obtain ⟨v51, hv51, hp⟩ := bind_eq hp
                    try simp (maxSteps := 2000000) (disch := first|omega|(simp only[ls];first|done|omega)) only [E, hb0, ftt5_0, ftt5_1, ftt5_2, ftt5_3, ftt5_4, ftt5_5, ftt5_6, ftt6_0, ftt6_1, ftt6_2, ftt6_3, ftt6_4, ftt6_5, hb37, hv38, ftt7_0, ftt7_1, ftt7_2, ftt7_3, ftt7_4, ftt7_5, ftt7_6, ftt7_7, ftt7_8, ftt7_9, ftt7_10, ftt7_11, ftt7_12, hb40, hv41, hv42, (gv42).1, bv42, hr43, hl43, du44, nu44, hb45, hb46, hv47, (gv47).1, (gv47).2.1, evcw44, hccw44, hl48, hv49, hv50, hv51, gx]
                    by_cases hb52 : (v51) = true
                    · rw [if_t hb52] at hp
                      have hp := Option.some.inj hp
                      subst hp
                      simp (maxSteps := 2000000) (disch := first|omega|(simp only[ls];first|done|omega)) only [E, hb0, ftt5_0, ftt5_1, ftt5_2, ftt5_3, ftt5_4, ftt5_5, ftt5_6, ftt6_0, ftt6_1, ftt6_2, ftt6_3, ftt6_4, ftt6_5, hb37, hv38, ftt7_0, ftt7_1, ftt7_2, ftt7_3, ftt7_4, ftt7_5, ftt7_6, ftt7_7, ftt7_8, ftt7_9, ftt7_10, ftt7_11, ftt7_12, hb40, hv41, hv42, (gv42).1, bv42, hr43, hl43, du44, nu44, hb45, hb46, hv47, (gv47).1, (gv47).2.1, evcw44, hccw44, hl48, hv49, hv50, hv51, hb52, gx] <;> (repeat (first | refine And.intro ?_ ?_ | assumption | exact book_ext (by assumption) | exact book_new rfl | exact free_ext (by assumption) (by first | omega | assumption) | exact free_new (k := book0) rfl (by first | decide | omega) | exact free_fresh (by assumption) (by first | exact Nat.le_refl _ | omega) | refine book_ext ?_ | refine free_ext ?_ (by first | omega | (simp; omega)) | omega))
                    · replace hb52 := eq_false_of_ne_true hb52
                      rw [if_f hb52] at hp
                      have hp := Option.some.inj hp
                      subst hp
                      simp (maxSteps := 2000000) (disch := first|omega|(simp only[ls];first|done|omega)) only [E, hb0, ftt5_0, ftt5_1, ftt5_2, ftt5_3, ftt5_4, ftt5_5, ftt5_6, ftt6_0, ftt6_1, ftt6_2, ftt6_3, ftt6_4, ftt6_5, hb37, hv38, ftt7_0, ftt7_1, ftt7_2, ftt7_3, ftt7_4, ftt7_5, ftt7_6, ftt7_7, ftt7_8, ftt7_9, ftt7_10, ftt7_11, ftt7_12, hb40, hv41, hv42, (gv42).1, bv42, hr43, hl43, du44, nu44, hb45, hb46, hv47, (gv47).1, (gv47).2.1, evcw44, hccw44, hl48, hv49, hv50, hv51, hb52, gx]
                  · replace hb46 := eq_false_of_ne_true hb46
                    rw [if_f hb46] at hp
                    have hp := Option.some.inj hp
                    subst hp
                    simp (maxSteps := 2000000) (disch := first|omega|(simp only[ls];first|done|omega)) only [E, hb0, ftt5_0, ftt5_1, ftt5_2, ftt5_3, ftt5_4, ftt5_5, ftt5_6, ftt6_0, ftt6_1, ftt6_2, ftt6_3, ftt6_4, ftt6_5, hb37, hv38, ftt7_0, ftt7_1, ftt7_2, ftt7_3, ftt7_4, ftt7_5, ftt7_6, ftt7_7, ftt7_8, ftt7_9, ftt7_10, ftt7_11, ftt7_12, hb40, hv41, hv42, (gv42).1, bv42, hr43, hl43, du44, nu44, hb45, hb46, gx] <;> (repeat (first | refine And.intro ?_ ?_ | assumption | exact book_ext (by assumption) | exact book_new rfl | exact free_ext (by assumption) (by first | omega | assumption) | exact free_new (k := book0) rfl (by first | decide | omega) | exact free_fresh (by assumption) (by first | exact Nat.le_refl _ | omega) | refine book_ext ?_ | refine free_ext ?_ (by first | omega | (simp; omega)) | omega))
              · replace hb40 := eq_false_of_ne_true hb40
                rw [if_f hb40] at hp
                have hp := Option.some.inj hp
                subst hp
                simp (maxSteps := 2000000) (disch := first|omega|(simp only[ls];first|done|omega)) only [E, hb0, ftt5_0, ftt5_1, ftt5_2, ftt5_3, ftt5_4, ftt5_5, ftt5_6, ftt6_0, ftt6_1, ftt6_2, ftt6_3, ftt6_4, ftt6_5, hb37, hv38, ftt7_0, ftt7_1, ftt7_2, ftt7_3, ftt7_4, ftt7_5, ftt7_6, ftt7_7, ftt7_8, ftt7_9, ftt7_10, ftt7_11, ftt7_12, hb40, gx] <;> (repeat (first | refine And.intro ?_ ?_ | assumption | exact book_ext (by assumption) | exact book_new rfl | exact free_ext (by assumption) (by first | omega | assumption) | exact free_new (k := book0) rfl (by first | decide | omega) | exact free_fresh (by assumption) (by first | exact Nat.le_refl _ | omega) | refine book_ext ?_ | refine free_ext ?_ (by first | omega | (simp; omega)) | omega))
            · simp (maxSteps := 2000000) (disch := first|omega|(simp only[ls];first|done|omega)) only [E, hb0, ftt5_0, ftt5_1, ftt5_2, ftt5_3, ftt5_4, ftt5_5, ftt5_6, ftt6_0, ftt6_1, ftt6_2, ftt6_3, ftt6_4, ftt6_5, hb37, hv38, gx] <;> (repeat (first | refine And.intro ?_ ?_ | assumption | exact book_ext (by assumption) | exact book_new rfl | exact free_ext (by assumption) (by first | omega | assumption) | exact free_new (k := book0) rfl (by first | decide | omega) | exact free_fresh (by assumption) (by first | exact Nat.le_refl _ | omega) | refine book_ext ?_ | refine free_ext ?_ (by first | omega | (simp; omega)) | omega))
            · intro x tt8 hh8 hx
              rcases ee1 with o53 | r
              · obtain ⟨rfl, ftt8_0, ftt8_1, ftt8_2, ftt8_3, ftt8_4, ftt8_5, ftt8_6, ftt8_7, ftt8_8, ftt8_9, ftt8_10, ftt8_11, ftt8_12⟩ := hx
                dsimp only at hp
                have hp := Option.some.inj hp
                subst hp
                simp (maxSteps := 2000000) (disch := first|omega|(simp only[ls];first|done|omega)) only [E, hb0, ftt5_0, ftt5_1, ftt5_2, ftt5_3, ftt5_4, ftt5_5, ftt5_6, ftt6_0, ftt6_1, ftt6_2, ftt6_3, ftt6_4, ftt6_5, hb37, hv38, ftt8_0, ftt8_1, ftt8_2, ftt8_3, ftt8_4, ftt8_5, ftt8_6, ftt8_7, ftt8_8, ftt8_9, ftt8_10, ftt8_11, ftt8_12, gx] <;> (repeat (first | refine And.intro ?_ ?_ | assumption | exact book_ext (by assumption) | exact book_new rfl | exact free_ext (by assumption) (by first | omega | assumption) | exact free_new (k := book0) rfl (by first | decide | omega) | exact free_fresh (by assumption) (by first | exact Nat.le_refl _ | omega) | refine book_ext ?_ | refine free_ext ?_ (by first | omega | (simp; omega)) | omega))
              · obtain ⟨rfl, hx⟩ := hx
                dsimp only at hp
                cases hp
                simp only [seqK_ret, blockK_ret, retK_RK (K := Tells false), hx, and_self, true_and]
          · replace hb37 := eq_false_of_ne_true hb37
            rw [if_f hb37] at hp
            have hp := Option.some.inj hp
            subst hp
            simp (maxSteps := 2000000) (disch := first|omega|(simp only[ls];first|done|omega)) only [E, hb0, ftt5_0, ftt5_1, ftt5_2, ftt5_3, ftt5_4, ftt5_5, ftt5_6, ftt6_0, ftt6_1, ftt6_2, ftt6_3, ftt6_4, ftt6_5, hb37, gx] <;> (repeat (first | refine And.intro ?_ ?_ | assumption | exact book_ext (by assumption) | exact book_new rfl | exact free_ext (by assumption) (by first | omega | assumption) | exact free_new (k := book0) rfl (by first | decide | omega) | exact free_fresh (by assumption) (by first | exact Nat.le_refl _ | omega) | refine book_ext ?_ | refine free_ext ?_ (by first | omega | (simp; omega)) | omega))
        · simp (maxSteps := 2000000) (disch := first|omega|(simp only[ls];first|done|omega)) only [E, hb0, ftt5_0, ftt5_1, ftt5_2, ftt5_3, ftt5_4, ftt5_5, ftt5_6, gx] <;> (repeat (first | refine And.intro ?_ ?_ | assumption | exact book_ext (by assumption) | exact book_new rfl | exact free_ext (by assumption) (by first | omega | assumption) | exact free_new (k := book0) rfl (by first | decide | omega) | exact free_fresh (by assumption) (by first | exact Nat.le_refl _ | omega) | refine book_ext ?_ | refine free_ext ?_ (by first | omega | (simp; omega)) | omega))
        · intro x tt9 hh9 hx
          rcases ee2 with o54 | r
          · obtain ⟨rfl, ftt9_0, ftt9_1, ftt9_2, ftt9_3, ftt9_4, ftt9_5⟩ := hx
            dsimp only at hp
            obtain ⟨y0, sy0, dy0⟩ := snap_book (n := 5) (show BookAt hh9 0 o34 by assumption)
            have hp := Option.some.inj hp
            subst hp
            simp (maxSteps := 2000000) (disch := first|omega|(simp only[ls];first|done|omega)) only [E, hb0, ftt5_0, ftt5_1, ftt5_2, ftt5_3, ftt5_4, ftt5_5, ftt5_6, ftt9_0, ftt9_1, ftt9_2, ftt9_3, ftt9_4, ftt9_5, sy0, dy0, gx]
          · obtain ⟨rfl, hx⟩ := hx
            dsimp only at hp
            cases hp
            simp only [seqK_ret, blockK_ret, retK_RK (K := Tells false), hx, and_self, true_and]
      · obtain ⟨rfl, hx⟩ := hx
        dsimp only at hp
        cases hp
        simp only [seqK_ret, blockK_ret, retK_RK (K := Tells false), hx, and_self, true_and]

noncomputable def p_laws_eqIntS_l0 (x0 : List Int) (x1 : List Int) : Int → Option (Lp (Int) Bool)
  | s1 =>
    if (decide (s1 < (x0.length : Int))) = true then
      (get? x0 s1).bind fun v3 =>
      (get? x1 s1).bind fun v4 =>
      if (decide (v3 = v4)) = true then
        some (.go (w64 (s1 + 1)))
      else
        some (.ret false)
    else
      some (.out s1)
noncomputable def p_laws_eqIntS (x0 : List Int) (x1 : List Int) : Option Bool :=
  if (decide ((x0.length : Int) = (x1.length : Int))) = true then
    (loopP (p_laws_eqIntS_l0 x0 x1) 0).bind fun ee0 => match ee0 with
    | .ret r => some r
    | .out o6 =>
      some true
  else
    some false
def c_laws_eqIntS : AFn := ⟨26, (.seq (.ops [(qS 4 (.mv (.const (.bool false))))]) (.seq (.seq (.ops [(qS 6 (.mv (.tmp 0))), (qS 7 (.len (.tmp 6))), (qS 8 (.mv (.tmp 1))), (qS 9 (.len (.tmp 8))), (qS 10 (.pu (.n (.ar .neq)) [(.tmp 7), (.tmp 9)]))]) (.cond (.tmp 10) (.seq (.ops [(qS 4 (.mv (.const (.bool false))))]) .ret) .skip)) (.seq (.seq (.ops [(qS 5 (.mv (ic 0)))]) (.block 0 (.loop (.seq (.seq (.ops [(qS 11 (.mv (.tmp 5))), (qS 12 (.mv (.tmp 0))), (qS 13 (.len (.tmp 12))), (qS 14 (.pu (.n (.ar .lss)) [(.tmp 11), (.tmp 13)]))]) (.cond (.tmp 14) .skip (.exit 0))) (.seq (.block 1 (.seq (.ops [(qS 17 (.mv (.tmp 0))), (qS 18 (.mv (.tmp 5))), (qS 19 (.idxS 1 (.tmp 17) (.tmp 18))), (qS 20 (.load 1 false (.tmp 19))), (qS 21 (.mv (.tmp 1))), (qS 22 (.mv (.tmp 5))), (qS 23 (.idxS 1 (.tmp 21) (.tmp 22))), (qS 24 (.load 1 false (.tmp 23))), (qS 25 (.pu (.n (.ar .neq)) [(.tmp 20), (.tmp 24)]))]) (.cond (.tmp 25) (.seq (.ops [(qS 4 (.mv (.const (.bool false))))]) .ret) .skip))) (.ops [(qS 15 (.mv (.tmp 5))), (qS 16 (.pu (.n (.ar .add)) [(.tmp 15), (ic 1)])), (qS 5 (.mv (.tmp 16)))])))))) (.seq (.ops [(qS 4 (.mv (.const (.bool true))))]) .ret)))), [(.tmp 4)]⟩
set_option maxHeartbeats 10000000 in
theorem d_laws_eqIntS {P : Program} {env : Env}  (x0 : List Int) (x1 : List Int) {b : Bool} (hp : p_laws_eqIntS x0 x1 = some b) : R P env (c_laws_eqIntS) ((encA (x0, x1)).map ofI) [] (Tells true b) := by
  refine R_of (by simp [c_laws_eqIntS, encA]) ?_
  unfold c_laws_eqIntS
  unfold p_laws_eqIntS at hp
  by_cases hb0 : (decide ((x0.length : Int) = (x1.length : Int))) = true
  · rw [if_t hb0] at hp
    obtain ⟨ee0, hee0, hp⟩ := bind_eq hp
    simp (maxSteps := 2000000) (disch := first|omega|(simp only[ls];first|done|omega)) only [hb0, gx]
    refine W_loopP 0 (fun s t h => match s with | s1 => t 0 = .i (.sl 1 (x0.map enc)) ∧ t 1 = .i (.sl 1 (x1.map enc)) ∧ t 5 = .i (.s (.int .i64 s1))) (RK [.tmp 4] (Tells true)) ?_ hee0 ?_ ?_
    · rintro s1 ee tt0 hh0 ⟨ftt0_0, ftt0_1, ftt0_2⟩ hp
      rw [p_laws_eqIntS_l0] at hp
      by_cases hb2 : (decide (s1 < (x0.length : Int))) = true
      · rw [if_t hb2] at hp
        obtain ⟨v3, hv3, hp⟩ := bind_eq hp
        obtain ⟨v4, hv4, hp⟩ := bind_eq hp
        by_cases hb5 : (decide (v3 = v4)) = true
        · rw [if_t hb5] at hp
          have hp := Option.some.inj hp
          subst hp
          simp (maxSteps := 2000000) (disch := first|omega|(simp only[ls];first|done|omega)) only [hb0, ftt0_0, ftt0_1, ftt0_2, hb2, hv3, hv4, hb5, gx] <;> omega
        · replace hb5 := eq_false_of_ne_true hb5
          rw [if_f hb5] at hp
          have hp := Option.some.inj hp
          subst hp
          simp (maxSteps := 2000000) (disch := first|omega|(simp only[ls];first|done|omega)) only [hb0, ftt0_0, ftt0_1, ftt0_2, hb2, hv3, hv4, hb5, gx]
      · replace hb2 := eq_false_of_ne_true hb2
        rw [if_f hb2] at hp
        have hp := Option.some.inj hp
        subst hp
        simp (maxSteps := 2000000) (disch := first|omega|(simp only[ls];first|done|omega)) only [hb0, ftt0_0, ftt0_1, ftt0_2, hb2, gx] <;> omega
    · simp (maxSteps := 2000000) (disch := first|omega|(simp only[ls];first|done|omega)) only [hb0, gx] <;> omega
    · intro x tt1 hh1 hx
      rcases ee0 with o6 | r
      · obtain ⟨rfl, ftt1_0, ftt1_1, ftt1_2⟩ := hx
        dsimp only at hp
        have hp := Option.some.inj hp
        subst hp
        simp (maxSteps := 2000000) (disch := first|omega|(simp only[ls];first|done|omega)) only [hb0, ftt1_0, ftt1_1, ftt1_2, gx]
      · obtain ⟨rfl, hx⟩ := hx
        dsimp only at hp
        cases hp
        simp only [seqK_ret, blockK_ret, retK_RK (K := Tells true), hx, and_self, true_and]
  · replace hb0 := eq_false_of_ne_true hb0
    rw [if_f hb0] at hp
    have hp := Option.some.inj hp
    subst hp
    simp (maxSteps := 2000000) (disch := first|omega|(simp only[ls];first|done|omega)) only [hb0, gx]

noncomputable def p_laws_eqVector (x0 : TVec) (x1 : TVec) : Option Bool :=
  (p_laws_eqIntS x0.counts x1.counts).bind fun v0 =>
  if (v0) = true then
    some true
  else
    some false
def c_laws_eqVector (f_laws_eqIntS : Nat) : AFn := ⟨11, (.seq (.ops [(qS 2 (.box (.tmp 0))), (qS 3 (.box (.tmp 1))), (qS 4 (.mv (.const (.bool false))))]) (.seq (.seq (.ops [(qS 5 (.fieldA 0 (.tmp 2))), (qS 6 (.load 1 false (.tmp 5))), (qS 7 (.fieldA 0 (.tmp 3))), (qS 8 (.load 1 false (.tmp 7))), (qS 9 (.call (2 * f_laws_eqIntS) [(.tmp 6), (.tmp 8)])), (qS 10 (.pu (.n (.un .not)) [(.tmp 9)]))]) (.cond (.tmp 10) (.seq (.ops [(qS 4 (.mv (.const (.bool false))))]) .ret) .skip)) (.seq (.ops [(qS 4 (.mv (.const (.bool true))))]) .ret))), [(.tmp 4)]⟩
set_option maxHeartbeats 10000000 in
theorem d_laws_eqVector {P : Program} {env : Env} {f_laws_eqIntS : Nat}  (ep_laws_eqIntS : env (2 * f_laws_eqIntS) = pureFn true (FA fun a : List Int × List Int => p_laws_eqIntS a.1 a.2)) (x0 : TVec) (x1 : TVec) {b : Bool} (hp : p_laws_eqVector x0 x1 = some b) : R P env (c_laws_eqVector f_laws_eqIntS) ((encA (x0, x1)).map ofI) [] (Tells true b) := by
  refine R_of (by simp [c_laws_eqVector, encA]) ?_
  have E := ep_laws_eqIntS
  unfold c_laws_eqVector
  unfold p_laws_eqVector at hp
  obtain ⟨v0, hv0, hp⟩ := bind_eq hp
  by_cases hb1 : (v0) = true
  · rw [if_t hb1] at hp
    have hp := Option.some.inj hp
    subst hp
    simp (maxSteps := 2000000) (disch := first|omega|(simp only[ls];first|done|omega)) only [E, hv0, hb1, gx]
  · replace hb1 := eq_false_of_ne_true hb1
    rw [if_f hb1] at hp
    have hp := Option.some.inj hp
    subst hp
    simp (maxSteps := 2000000) (disch := first|omega|(simp only[ls];first|done|omega)) only [E, hv0, hb1, gx]

noncomputable def p_laws_eqStamp (x0 : TStamp) (x1 : TStamp) : Option Bool :=
  if (decide (x0.time = x1.time)) = true then
    if (decide (x0.actor = x1.actor)) = true then
      some true
    else
      some false
  else
    some false
def c_laws_eqStamp : AFn := ⟨15, (.seq (.ops [(qS 2 (.box (.tmp 0))), (qS 3 (.box (.tmp 1))), (qS 4 (.mv (.const (.bool false))))]) (.seq (.seq (.ops [(qS 5 (.fieldA 0 (.tmp 2))), (qS 6 (.load 1 false (.tmp 5))), (qS 7 (.fieldA 0 (.tmp 3))), (qS 8 (.load 1 false (.tmp 7))), (qS 9 (.pu (.n (.ar .neq)) [(.tmp 6), (.tmp 8)]))]) (.cond (.tmp 9) (.seq (.ops [(qS 4 (.mv (.const (.bool false))))]) .ret) .skip)) (.seq (.seq (.ops [(qS 10 (.fieldA 1 (.tmp 2))), (qS 11 (.load 1 false (.tmp 10))), (qS 12 (.fieldA 1 (.tmp 3))), (qS 13 (.load 1 false (.tmp 12))), (qS 14 (.pu (.n (.ar .neq)) [(.tmp 11), (.tmp 13)]))]) (.cond (.tmp 14) (.seq (.ops [(qS 4 (.mv (.const (.bool false))))]) .ret) .skip)) (.seq (.ops [(qS 4 (.mv (.const (.bool true))))]) .ret)))), [(.tmp 4)]⟩
set_option maxHeartbeats 10000000 in
theorem d_laws_eqStamp {P : Program} {env : Env}  (x0 : TStamp) (x1 : TStamp) {b : Bool} (hp : p_laws_eqStamp x0 x1 = some b) : R P env (c_laws_eqStamp) ((encA (x0, x1)).map ofI) [] (Tells true b) := by
  refine R_of (by simp [c_laws_eqStamp, encA]) ?_
  unfold c_laws_eqStamp
  unfold p_laws_eqStamp at hp
  by_cases hb0 : (decide (x0.time = x1.time)) = true
  · rw [if_t hb0] at hp
    by_cases hb1 : (decide (x0.actor = x1.actor)) = true
    · rw [if_t hb1] at hp
      have hp := Option.some.inj hp
      subst hp
      simp (maxSteps := 2000000) (disch := first|omega|(simp only[ls];first|done|omega)) only [hb0, hb1, gx]
    · replace hb1 := eq_false_of_ne_true hb1
      rw [if_f hb1] at hp
      have hp := Option.some.inj hp
      subst hp
      simp (maxSteps := 2000000) (disch := first|omega|(simp only[ls];first|done|omega)) only [hb0, hb1, gx]
  · replace hb0 := eq_false_of_ne_true hb0
    rw [if_f hb0] at hp
    have hp := Option.some.inj hp
    subst hp
    simp (maxSteps := 2000000) (disch := first|omega|(simp only[ls];first|done|omega)) only [hb0, gx]

noncomputable def p_laws_eqOp (x0 : TOp) (x1 : TOp) : Option Bool :=
  if (decide (x0.actor = x1.actor)) = true then
    if (decide (x0.seq = x1.seq)) = true then
      if (decide (x0.time = x1.time)) = true then
        (p_laws_eqVector x0.deps x1.deps).bind fun v3 =>
        if (v3) = true then
          if (decide (x0.kind = x1.kind)) = true then
            if (decide (x0.obj = x1.obj)) = true then
              if (decide (x0.n = x1.n)) = true then
                if (decide (x0.undo = x1.undo)) = true then
                  (p_laws_eqStamp x0.at_ x1.at_).bind fun v9 =>
                  if (v9) = true then
                    if (decide (x0.key = x1.key)) = true then
                      if (decide (x0.text = x1.text)) = true then
                        some true
                      else
                        some false
                    else
                      some false
                  else
                    some false
                else
                  some false
              else
                some false
            else
              some false
          else
            some false
        else
          some false
      else
        some false
    else
      some false
  else
    some false
def c_laws_eqOp (f_laws_eqVector : Nat) (f_laws_eqStamp : Nat) : AFn := ⟨62, (.seq (.ops [(qS 2 (.box (.tmp 0))), (qS 3 (.box (.tmp 1))), (qS 4 (.mv (.const (.bool false))))]) (.seq (.seq (.ops [(qS 5 (.fieldA 0 (.tmp 2))), (qS 6 (.load 1 false (.tmp 5))), (qS 7 (.fieldA 0 (.tmp 3))), (qS 8 (.load 1 false (.tmp 7))), (qS 9 (.pu (.n (.ar .neq)) [(.tmp 6), (.tmp 8)]))]) (.cond (.tmp 9) (.seq (.ops [(qS 4 (.mv (.const (.bool false))))]) .ret) .skip)) (.seq (.seq (.ops [(qS 10 (.fieldA 1 (.tmp 2))), (qS 11 (.load 1 false (.tmp 10))), (qS 12 (.fieldA 1 (.tmp 3))), (qS 13 (.load 1 false (.tmp 12))), (qS 14 (.pu (.n (.ar .neq)) [(.tmp 11), (.tmp 13)]))]) (.cond (.tmp 14) (.seq (.ops [(qS 4 (.mv (.const (.bool false))))]) .ret) .skip)) (.seq (.seq (.ops [(qS 15 (.fieldA 2 (.tmp 2))), (qS 16 (.load 1 false (.tmp 15))), (qS 17 (.fieldA 2 (.tmp 3))), (qS 18 (.load 1 false (.tmp 17))), (qS 19 (.pu (.n (.ar .neq)) [(.tmp 16), (.tmp 18)]))]) (.cond (.tmp 19) (.seq (.ops [(qS 4 (.mv (.const (.bool false))))]) .ret) .skip)) (.seq (.seq (.ops [(qS 20 (.fieldA 3 (.tmp 2))), (qS 21 (.load 1 true (.tmp 20))), (qS 22 (.fieldA 3 (.tmp 3))), (qS 23 (.load 1 true (.tmp 22))), (qS 24 (.call (2 * f_laws_eqVector) [(.tmp 21), (.tmp 23)])), (qS 25 (.pu (.n (.un .not)) [(.tmp 24)]))]) (.cond (.tmp 25) (.seq (.ops [(qS 4 (.mv (.const (.bool false))))]) .ret) .skip)) (.seq (.seq (.ops [(qS 26 (.fieldA 4 (.tmp 2))), (qS 27 (.load 1 false (.tmp 26))), (qS 28 (.fieldA 4 (.tmp 3))), (qS 29 (.load 1 false (.tmp 28))), (qS 30 (.pu (.n (.ar .neq)) [(.tmp 27), (.tmp 29)]))]) (.cond (.tmp 30) (.seq (.ops [(qS 4 (.mv (.const (.bool false))))]) .ret) .skip)) (.seq (.seq (.ops [(qS 31 (.fieldA 5 (.tmp 2))), (qS 32 (.load 1 false (.tmp 31))), (qS 33 (.fieldA 5 (.tmp 3))), (qS 34 (.load 1 false (.tmp 33))), (qS 35 (.pu (.n (.ar .neq)) [(.tmp 32), (.tmp 34)]))]) (.cond (.tmp 35) (.seq (.ops [(qS 4 (.mv (.const (.bool false))))]) .ret) .skip)) (.seq (.seq (.ops [(qS 36 (.fieldA 6 (.tmp 2))), (qS 37 (.load 1 false (.tmp 36))), (qS 38 (.fieldA 6 (.tmp 3))), (qS 39 (.load 1 false (.tmp 38))), (qS 40 (.pu (.n (.ar .neq)) [(.tmp 37), (.tmp 39)]))]) (.cond (.tmp 40) (.seq (.ops [(qS 4 (.mv (.const (.bool false))))]) .ret) .skip)) (.seq (.seq (.ops [(qS 41 (.fieldA 7 (.tmp 2))), (qS 42 (.load 1 false (.tmp 41))), (qS 43 (.fieldA 7 (.tmp 3))), (qS 44 (.load 1 false (.tmp 43))), (qS 45 (.pu (.n (.ar .neq)) [(.tmp 42), (.tmp 44)]))]) (.cond (.tmp 45) (.seq (.ops [(qS 4 (.mv (.const (.bool false))))]) .ret) .skip)) (.seq (.seq (.ops [(qS 46 (.fieldA 8 (.tmp 2))), (qS 47 (.load 2 true (.tmp 46))), (qS 48 (.fieldA 8 (.tmp 3))), (qS 49 (.load 2 true (.tmp 48))), (qS 50 (.call (2 * f_laws_eqStamp) [(.tmp 47), (.tmp 49)])), (qS 51 (.pu (.n (.un .not)) [(.tmp 50)]))]) (.cond (.tmp 51) (.seq (.ops [(qS 4 (.mv (.const (.bool false))))]) .ret) .skip)) (.seq (.seq (.ops [(qS 52 (.fieldA 10 (.tmp 2))), (qS 53 (.load 1 false (.tmp 52))), (qS 54 (.fieldA 10 (.tmp 3))), (qS 55 (.load 1 false (.tmp 54))), (qS 56 (.pu (.n (.ar .neq)) [(.tmp 53), (.tmp 55)]))]) (.cond (.tmp 56) (.seq (.ops [(qS 4 (.mv (.const (.bool false))))]) .ret) .skip)) (.seq (.seq (.ops [(qS 57 (.fieldA 11 (.tmp 2))), (qS 58 (.load 1 false (.tmp 57))), (qS 59 (.fieldA 11 (.tmp 3))), (qS 60 (.load 1 false (.tmp 59))), (qS 61 (.pu (.n (.ar .neq)) [(.tmp 58), (.tmp 60)]))]) (.cond (.tmp 61) (.seq (.ops [(qS 4 (.mv (.const (.bool false))))]) .ret) .skip)) (.seq (.ops [(qS 4 (.mv (.const (.bool true))))]) .ret))))))))))))), [(.tmp 4)]⟩
set_option maxHeartbeats 10000000 in
theorem d_laws_eqOp {P : Program} {env : Env} {f_laws_eqVector : Nat} {f_laws_eqStamp : Nat}  (ep_laws_eqVector : env (2 * f_laws_eqVector) = pureFn true (FA fun a : TVec × TVec => p_laws_eqVector a.1 a.2)) (ep_laws_eqStamp : env (2 * f_laws_eqStamp) = pureFn true (FA fun a : TStamp × TStamp => p_laws_eqStamp a.1 a.2)) (x0 : TOp) (x1 : TOp) {b : Bool} (hp : p_laws_eqOp x0 x1 = some b) : R P env (c_laws_eqOp f_laws_eqVector f_laws_eqStamp) ((encA (x0, x1)).map ofI) [] (Tells true b) := by
  refine R_of (by simp [c_laws_eqOp, encA]) ?_
  have E := And.intro ep_laws_eqVector ep_laws_eqStamp
  unfold c_laws_eqOp
  unfold p_laws_eqOp at hp
  by_cases hb0 : (decide (x0.actor = x1.actor)) = true
  · rw [if_t hb0] at hp
    by_cases hb1 : (decide (x0.seq = x1.seq)) = true
    · rw [if_t hb1] at hp
      by_cases hb2 : (decide (x0.time = x1.time)) = true
      · rw [if_t hb2] at hp
        obtain ⟨v3, hv3, hp⟩ := bind_eq hp
        by_cases hb4 : (v3) = true
        · rw [if_t hb4] at hp
          by_cases hb5 : (decide (x0.kind = x1.kind)) = true
          · rw [if_t hb5] at hp
            by_cases hb6 : (decide (x0.obj = x1.obj)) = true
            · rw [if_t hb6] at hp
              by_cases hb7 : (decide (x0.n = x1.n)) = true
              · rw [if_t hb7] at hp
                by_cases hb8 : (decide (x0.undo = x1.undo)) = true
                · rw [if_t hb8] at hp
                  obtain ⟨v9, hv9, hp⟩ := bind_eq hp
                  by_cases hb10 : (v9) = true
                  · rw [if_t hb10] at hp
                    by_cases hb11 : (decide (x0.key = x1.key)) = true
                    · rw [if_t hb11] at hp
                      by_cases hb12 : (decide (x0.text = x1.text)) = true
                      · rw [if_t hb12] at hp
                        have hp := Option.some.inj hp
                        subst hp
                        simp (maxSteps := 2000000) (disch := first|omega|(simp only[ls];first|done|omega)) only [E, hb0, hb1, hb2, hv3, hb4, hb5, hb6, hb7, hb8, hv9, hb10, hb11, hb12, gx]
                      · replace hb12 := eq_false_of_ne_true hb12
                        rw [if_f hb12] at hp
                        have hp := Option.some.inj hp
                        subst hp
                        simp (maxSteps := 2000000) (disch := first|omega|(simp only[ls];first|done|omega)) only [E, hb0, hb1, hb2, hv3, hb4, hb5, hb6, hb7, hb8, hv9, hb10, hb11, hb12, gx]
                    · replace hb11 := eq_false_of_ne_true hb11
                      rw [if_f hb11] at hp
                      have hp := Option.some.inj hp
                      subst hp
                      simp (maxSteps := 2000000) (disch := first|omega|(simp only[ls];first|done|omega)) only [E, hb0, hb1, hb2, hv3, hb4, hb5, hb6, hb7, hb8, hv9, hb10, hb11, gx]
                  · replace hb10 := eq_false_of_ne_true hb10
                    rw [if_f hb10] at hp
                    have hp := Option.some.inj hp
                    subst hp
                    simp (maxSteps := 2000000) (disch := first|omega|(simp only[ls];first|done|omega)) only [E, hb0, hb1, hb2, hv3, hb4, hb5, hb6, hb7, hb8, hv9, hb10, gx]
                · replace hb8 := eq_false_of_ne_true hb8
                  rw [if_f hb8] at hp
                  have hp := Option.some.inj hp
                  subst hp
                  simp (maxSteps := 2000000) (disch := first|omega|(simp only[ls];first|done|omega)) only [E, hb0, hb1, hb2, hv3, hb4, hb5, hb6, hb7, hb8, gx]
              · replace hb7 := eq_false_of_ne_true hb7
                rw [if_f hb7] at hp
                have hp := Option.some.inj hp
                subst hp
                simp (maxSteps := 2000000) (disch := first|omega|(simp only[ls];first|done|omega)) only [E, hb0, hb1, hb2, hv3, hb4, hb5, hb6, hb7, gx]
            · replace hb6 := eq_false_of_ne_true hb6
              rw [if_f hb6] at hp
              have hp := Option.some.inj hp
              subst hp
              simp (maxSteps := 2000000) (disch := first|omega|(simp only[ls];first|done|omega)) only [E, hb0, hb1, hb2, hv3, hb4, hb5, hb6, gx]
          · replace hb5 := eq_false_of_ne_true hb5
            rw [if_f hb5] at hp
            have hp := Option.some.inj hp
            subst hp
            simp (maxSteps := 2000000) (disch := first|omega|(simp only[ls];first|done|omega)) only [E, hb0, hb1, hb2, hv3, hb4, hb5, gx]
        · replace hb4 := eq_false_of_ne_true hb4
          rw [if_f hb4] at hp
          have hp := Option.some.inj hp
          subst hp
          simp (maxSteps := 2000000) (disch := first|omega|(simp only[ls];first|done|omega)) only [E, hb0, hb1, hb2, hv3, hb4, gx]
      · replace hb2 := eq_false_of_ne_true hb2
        rw [if_f hb2] at hp
        have hp := Option.some.inj hp
        subst hp
        simp (maxSteps := 2000000) (disch := first|omega|(simp only[ls];first|done|omega)) only [E, hb0, hb1, hb2, gx]
    · replace hb1 := eq_false_of_ne_true hb1
      rw [if_f hb1] at hp
      have hp := Option.some.inj hp
      subst hp
      simp (maxSteps := 2000000) (disch := first|omega|(simp only[ls];first|done|omega)) only [E, hb0, hb1, gx]
  · replace hb0 := eq_false_of_ne_true hb0
    rw [if_f hb0] at hp
    have hp := Option.some.inj hp
    subst hp
    simp (maxSteps := 2000000) (disch := first|omega|(simp only[ls];first|done|omega)) only [E, hb0, gx]

noncomputable def p_laws_eqOpS_l0 (x0 : List TOp) (x1 : List TOp) : Int → Option (Lp (Int) Bool)
  | s1 =>
    if (decide (s1 < (x0.length : Int))) = true then
      (get? x0 s1).bind fun v3 =>
      (get? x1 s1).bind fun v4 =>
      (p_laws_eqOp v3 v4).bind fun v5 =>
      if (v5) = true then
        some (.go (w64 (s1 + 1)))
      else
        some (.ret false)
    else
      some (.out s1)
noncomputable def p_laws_eqOpS (x0 : List TOp) (x1 : List TOp) : Option Bool :=
  if (decide ((x0.length : Int) = (x1.length : Int))) = true then
    (loopP (p_laws_eqOpS_l0 x0 x1) 0).bind fun ee0 => match ee0 with
    | .ret r => some r
    | .out o7 =>
      some true
  else
    some false
def c_laws_eqOpS (f_laws_eqOp : Nat) : AFn := ⟨27, (.seq (.ops [(qS 4 (.mv (.const (.bool false))))]) (.seq (.seq (.ops [(qS 6 (.mv (.tmp 0))), (qS 7 (.len (.tmp 6))), (qS 8 (.mv (.tmp 1))), (qS 9 (.len (.tmp 8))), (qS 10 (.pu (.n (.ar .neq)) [(.tmp 7), (.tmp 9)]))]) (.cond (.tmp 10) (.seq (.ops [(qS 4 (.mv (.const (.bool false))))]) .ret) .skip)) (.seq (.seq (.ops [(qS 5 (.mv (ic 0)))]) (.block 0 (.loop (.seq (.seq (.ops [(qS 11 (.mv (.tmp 5))), (qS 12 (.mv (.tmp 0))), (qS 13 (.len (.tmp 12))), (qS 14 (.pu (.n (.ar .lss)) [(.tmp 11), (.tmp 13)]))]) (.cond (.tmp 14) .skip (.exit 0))) (.seq (.block 1 (.seq (.ops [(qS 17 (.mv (.tmp 0))), (qS 18 (.mv (.tmp 5))), (qS 19 (.idxS 12 (.tmp 17) (.tmp 18))), (qS 20 (.load 12 true (.tmp 19))), (qS 21 (.mv (.tmp 1))), (qS 22 (.mv (.tmp 5))), (qS 23 (.idxS 12 (.tmp 21) (.tmp 22))), (qS 24 (.load 12 true (.tmp 23))), (qS 25 (.call (2 * f_laws_eqOp) [(.tmp 20), (.tmp 24)])), (qS 26 (.pu (.n (.un .not)) [(.tmp 25)]))]) (.cond (.tmp 26) (.seq (.ops [(qS 4 (.mv (.const (.bool false))))]) .ret) .skip))) (.ops [(qS 15 (.mv (.tmp 5))), (qS 16 (.pu (.n (.ar .add)) [(.tmp 15), (ic 1)])), (qS 5 (.mv (.tmp 16)))])))))) (.seq (.ops [(qS 4 (.mv (.const (.bool true))))]) .ret)))), [(.tmp 4)]⟩
set_option maxHeartbeats 10000000 in
theorem d_laws_eqOpS {P : Program} {env : Env} {f_laws_eqOp : Nat}  (ep_laws_eqOp : env (2 * f_laws_eqOp) = pureFn true (FA fun a : TOp × TOp => p_laws_eqOp a.1 a.2)) (x0 : List TOp) (x1 : List TOp) {b : Bool} (hp : p_laws_eqOpS x0 x1 = some b) : R P env (c_laws_eqOpS f_laws_eqOp) ((encA (x0, x1)).map ofI) [] (Tells true b) := by
  refine R_of (by simp [c_laws_eqOpS, encA]) ?_
  have E := And.intro opc ep_laws_eqOp
  unfold c_laws_eqOpS
  unfold p_laws_eqOpS at hp
  by_cases hb0 : (decide ((x0.length : Int) = (x1.length : Int))) = true
  · rw [if_t hb0] at hp
    obtain ⟨ee0, hee0, hp⟩ := bind_eq hp
    simp (maxSteps := 2000000) (disch := first|omega|(simp only[ls];first|done|omega)) only [E, hb0, gx]
    refine W_loopP 0 (fun s t h => match s with | s1 => t 0 = .i (.sl 12 (x0.map enc)) ∧ t 1 = .i (.sl 12 (x1.map enc)) ∧ t 5 = .i (.s (.int .i64 s1))) (RK [.tmp 4] (Tells true)) ?_ hee0 ?_ ?_
    · rintro s1 ee tt0 hh0 ⟨ftt0_0, ftt0_1, ftt0_2⟩ hp
      rw [p_laws_eqOpS_l0] at hp
      by_cases hb2 : (decide (s1 < (x0.length : Int))) = true
      · rw [if_t hb2] at hp
        obtain ⟨v3, hv3, hp⟩ := bind_eq hp
        obtain ⟨v4, hv4, hp⟩ := bind_eq hp
        obtain ⟨v5, hv5, hp⟩ := bind_eq hp
        by_cases hb6 : (v5) = true
        · rw [if_t hb6] at hp
          have hp := Option.some.inj hp
          subst hp
          simp (maxSteps := 2000000) (disch := first|omega|(simp only[ls];first|done|omega)) only [E, hb0, ftt0_0, ftt0_1, ftt0_2, hb2, hv3, hv4, hv5, hb6, gx] <;> omega
        · replace hb6 := eq_false_of_ne_true hb6
          rw [if_f hb6] at hp
          have hp := Option.some.inj hp
          subst hp
          simp (maxSteps := 2000000) (disch := first|omega|(simp only[ls];first|done|omega)) only [E, hb0, ftt0_0, ftt0_1, ftt0_2, hb2, hv3, hv4, hv5, hb6, gx]
      · replace hb2 := eq_false_of_ne_true hb2
        rw [if_f hb2] at hp
        have hp := Option.some.inj hp
        subst hp
        simp (maxSteps := 2000000) (disch := first|omega|(simp only[ls];first|done|omega)) only [E, hb0, ftt0_0, ftt0_1, ftt0_2, hb2, gx] <;> omega
    · simp (maxSteps := 2000000) (disch := first|omega|(simp only[ls];first|done|omega)) only [E, hb0, gx] <;> omega
    · intro x tt1 hh1 hx
      rcases ee0 with o7 | r
      · obtain ⟨rfl, ftt1_0, ftt1_1, ftt1_2⟩ := hx
        dsimp only at hp
        have hp := Option.some.inj hp
        subst hp
        simp (maxSteps := 2000000) (disch := first|omega|(simp only[ls];first|done|omega)) only [E, hb0, ftt1_0, ftt1_1, ftt1_2, gx]
      · obtain ⟨rfl, hx⟩ := hx
        dsimp only at hp
        cases hp
        simp only [seqK_ret, blockK_ret, retK_RK (K := Tells true), hx, and_self, true_and]
  · replace hb0 := eq_false_of_ne_true hb0
    rw [if_f hb0] at hp
    have hp := Option.some.inj hp
    subst hp
    simp (maxSteps := 2000000) (disch := first|omega|(simp only[ls];first|done|omega)) only [E, hb0, gx]

end Go.AM
