/- Plain functions of SetElements and their walks. No condition. -/
import Derived.Test.YtcfjnhpheaiofaaLabGSetElementsa
set_option linter.unusedVariables false
set_option linter.unusedSimpArgs false
set_option maxRecDepth 20000
namespace Go.AM
open Pic (enc dec dec_enc dec_sub)
open PicA (encA decA decA_encA decA_sub)
noncomputable def p_laws_markStringS_l0 : List ByteArray × Int × Int → Option (Lp (List ByteArray × Int × Int) (T2 Int (List ByteArray)))
  | (s0, s1, s2) =>
    if (decide (s2 < (s0.length : Int))) = true then
      (p_laws_markText s1).bind fun v5 =>
      (get? s0 s2).bind fun v6 =>
      some (.go ((s0.set s2.toNat v5), w64 (s1 + 1), w64 (s2 + 1)))
    else
      some (.out (s0, s1, s2))
noncomputable def p_laws_markStringS (x0 : List ByteArray) (x1 : Int) : Option (T2 Int (List ByteArray)) :=
  (loopP (p_laws_markStringS_l0) (x0, x1, 0)).bind fun ee0 => match ee0 with
  | .ret r => some r
  | .out (o8, o9, o10) =>
    some ⟨o9, o8⟩
def c_laws_markStringS (f_laws_markText : Nat) : AFn := ⟨20, (.seq (.ops [(qS 4 (.mv (ic 0)))]) (.seq (.seq (.ops [(qS 5 (.mv (ic 0)))]) (.block 0 (.loop (.seq (.seq (.ops [(qS 6 (.mv (.tmp 5))), (qS 7 (.mv (.tmp 0))), (qS 8 (.len (.tmp 7))), (qS 9 (.pu (.n (.ar .lss)) [(.tmp 6), (.tmp 8)]))]) (.cond (.tmp 9) .skip (.exit 0))) (.seq (.block 1 (.seq (.ops [(qS 12 (.mv (.tmp 0))), (qS 13 (.mv (.tmp 5))), (qS 14 (.mv (.tmp 1))), (qS 15 (.call (2 * f_laws_markText) [(.tmp 14)])), (qS 16 (.idxS 1 (.tmp 12) (.tmp 13))), ⟨.none, (.storeV [(0, false)] 1 (.tmp 16) (.tmp 15)), .none, []⟩]) (.ops [(qS 17 (.mv (.tmp 1))), (qS 18 (.pu (.n (.ar .add)) [(.tmp 17), (ic 1)])), (qS 1 (.mv (.tmp 18)))]))) (.ops [(qS 10 (.mv (.tmp 5))), (qS 11 (.pu (.n (.ar .add)) [(.tmp 10), (ic 1)])), (qS 5 (.mv (.tmp 11)))])))))) (.seq (.ops [(qS 19 (.mv (.tmp 1))), (qS 4 (.mv (.tmp 19)))]) .ret))), [(.tmp 4)]⟩
def i_laws_markStringS (pb0 pn0 : Nat) (h : Heap) (b : T2 Int (List ByteArray)) (v : V) (h2 : Heap) : Prop := Keep [pb0] h h2 ∧ v = .i (.s (.int .i64 b.a)) ∧ getCells h2 pb0 pn0 = some (rows b.b)
def k_laws_markStringS (F : Fun) : Prop := ∀ (x0 : List ByteArray) (x1 : Int) (b : T2 Int (List ByteArray)), p_laws_markStringS x0 x1 = some b → ∀ (pb0 pn0 : Nat) (h : Heap), pn0 = (x0).length → getCells h pb0 pn0 = some (rows x0) → ∃ p, F none [.hsl pb0 pn0 0 1 false pn0, .i (.s (.int .i64 x1))] h = some p ∧ i_laws_markStringS pb0 pn0 h b p.1 p.2
set_option maxHeartbeats 10000000 in
theorem w_laws_markStringS {P : Program} {env : Env} {f_laws_markText : Nat}  (ep_laws_markText : env (2 * f_laws_markText) = pureFn true (FA fun a : Int => p_laws_markText a)) (x0 : List ByteArray) (x1 : Int) {b : T2 Int (List ByteArray)} (hp : p_laws_markStringS x0 x1 = some b) (pb0 pn0 : Nat) (hh : Heap) (pm0 : pn0 = (x0).length) (pf0 : getCells hh pb0 pn0 = some (rows x0)) : R P env (c_laws_markStringS f_laws_markText) [.hsl pb0 pn0 0 1 false pn0, .i (.s (.int .i64 x1))] hh (i_laws_markStringS pb0 pn0 hh b) := by
  have pl0 := gc_lt pf0
  have pg0 : getCells hh pb0 x0.length = some (rows x0) := by rw [← pm0]; exact pf0
  refine R_of (by simp [c_laws_markStringS, encA]) ?_
  have E := ep_laws_markText
  unfold c_laws_markStringS
  unfold p_laws_markStringS at hp
  obtain ⟨ee0, hee0, hp⟩ := bind_eq hp
  simp (maxSteps := 2000000) (disch := first|omega|(simp only[ls];first|done|omega)) only [E, pf0, pg0, gx]
  refine W_loopP 0 (fun s t h => match s with | (s0, s1, s2) => t 0 = .hsl pb0 pn0 0 1 false pn0 ∧ t 1 = .i (.s (.int .i64 s1)) ∧ t 5 = .i (.s (.int .i64 s2)) ∧ getCells h pb0 pn0 = some (rows (s0 : List ByteArray)) ∧ pb0 < h.length ∧ Keep [pb0] hh h) (RK [.tmp 4] (i_laws_markStringS pb0 pn0 hh)) ?_ hee0 ?_ ?_
  · rintro ⟨s0, s1, s2⟩ ee tt0 hh0 ⟨ftt0_0, ftt0_1, ftt0_2, ftt0_3, ftt0_4, ftt0_5⟩ hp
    have ztt0_3 := len_rows ftt0_3
    simp only [zs] at ztt0_3
    rw [p_laws_markStringS_l0] at hp
    have hz3 : ((pn0 : Nat) : Int) = (s0.length : Int) := by omega
    by_cases hb4 : (decide (s2 < (s0.length : Int))) = true
    · rw [if_t hb4] at hp
      obtain ⟨v5, hv5, hp⟩ := bind_eq hp
      obtain ⟨v6, hv6, hp⟩ := bind_eq hp
      have gv6 := get_some hv6
      have hs7 : List.take s2.toNat (rows s0) ++ .i (.s (.string v5)) :: List.drop (s2.toNat + 1) (rows s0) = rows (s0.set s2.toNat v5) := by simpa [splice, zs, cellsV, I.cells, enc_str] using rows_set_off (y := v5) (ys := [.i (.s (.string v5))]) (k := 0) gv6.2.2 (Nat.le_of_ble_eq_true rfl) (by rfl)
      have hp := Option.some.inj hp
      subst hp
      simp (maxSteps := 2000000) (disch := first|omega|(simp only[ls];first|done|omega)) only [i_laws_markStringS, E, pf0, pg0, ftt0_0, ftt0_1, ftt0_2, ftt0_3, ftt0_4, ftt0_5, hz3, hb4, hv5, hv6, (gv6).1, (gv6).2.1, hs7, gx] <;> (repeat (first | omega | assumption | rfl | exact keep_refl | refine keep_app ?_ | (refine keep_set (by first | (left; simp; done) | (right; simp; omega)) ?_) | refine And.intro ?_ ?_))
    · replace hb4 := eq_false_of_ne_true hb4
      rw [if_f hb4] at hp
      have hp := Option.some.inj hp
      subst hp
      simp (maxSteps := 2000000) (disch := first|omega|(simp only[ls];first|done|omega)) only [i_laws_markStringS, E, pf0, pg0, ftt0_0, ftt0_1, ftt0_2, ftt0_3, ftt0_4, ftt0_5, hz3, hb4, gx] <;> (repeat (first | omega | assumption | rfl | exact keep_refl | refine keep_app ?_ | (refine keep_set (by first | (left; simp; done) | (right; simp; omega)) ?_) | refine And.intro ?_ ?_))
  · simp (maxSteps := 2000000) (disch := first|omega|(simp only[ls];first|done|omega)) only [i_laws_markStringS, E, pf0, pg0, gx] <;> (repeat (first | omega | assumption | rfl | exact keep_refl | refine keep_app ?_ | (refine keep_set (by first | (left; simp; done) | (right; simp; omega)) ?_) | refine And.intro ?_ ?_))
  · intro x tt1 hh1 hx
    rcases ee0 with ⟨o8, o9, o10⟩ | r
    · obtain ⟨rfl, ftt1_0, ftt1_1, ftt1_2, ftt1_3, ftt1_4, ftt1_5⟩ := hx
      have ztt1_3 := len_rows ftt1_3
      simp only [zs] at ztt1_3
      dsimp only at hp
      have hp := Option.some.inj hp
      subst hp
      simp (maxSteps := 2000000) (disch := first|omega|(simp only[ls];first|done|omega)) only [i_laws_markStringS, E, pf0, pg0, ftt1_0, ftt1_1, ftt1_2, ftt1_3, ftt1_4, ftt1_5, gx] <;> (repeat (first | omega | assumption | rfl | exact keep_refl | refine keep_app ?_ | (refine keep_set (by first | (left; simp; done) | (right; simp; omega)) ?_) | refine And.intro ?_ ?_))
    · obtain ⟨rfl, hx⟩ := hx
      dsimp only at hp
      cases hp
      simp only [seqK_ret, blockK_ret, retK_RK (K := i_laws_markStringS pb0 pn0 hh), hx, and_self, true_and]
theorem ko_laws_markStringS {P : Program} {env : Env} {f_laws_markText : Nat}  (ep_laws_markText : env (2 * f_laws_markText) = pureFn true (FA fun a : Int => p_laws_markText a)) : k_laws_markStringS (runIn P env (c_laws_markStringS f_laws_markText)) := by
  intro x0 x1 b hp pb0 pn0 h a0 a1
  exact w_laws_markStringS ep_laws_markText x0 x1 hp pb0 pn0 h a0 a1

noncomputable def p_laws_heldStringS_l0 (x0 : List ByteArray) : Int × Int → Option (Lp (Int × Int) Int)
  | (s0, s1) =>
    if (decide (s1 < (x0.length : Int))) = true then
      (get? x0 s1).bind fun v3 =>
      (p_laws_markText s0).bind fun v4 =>
      if (decide (v3 = v4)) = true then
        some (.go (w64 (s0 + 1), w64 (s1 + 1)))
      else
        some (.ret (-1))
    else
      some (.out (s0, s1))
noncomputable def p_laws_heldStringS (x0 : List ByteArray) (x1 : Int) : Option Int :=
  (loopP (p_laws_heldStringS_l0 x0) (x1, 0)).bind fun ee0 => match ee0 with
  | .ret r => some r
  | .out (o6, o7) =>
    some o6
def c_laws_heldStringS (f_laws_markText : Nat) : AFn := ⟨22, (.seq (.ops [(qS 4 (.mv (ic 0)))]) (.seq (.seq (.ops [(qS 5 (.mv (ic 0)))]) (.block 0 (.loop (.seq (.seq (.ops [(qS 6 (.mv (.tmp 5))), (qS 7 (.mv (.tmp 0))), (qS 8 (.len (.tmp 7))), (qS 9 (.pu (.n (.ar .lss)) [(.tmp 6), (.tmp 8)]))]) (.cond (.tmp 9) .skip (.exit 0))) (.seq (.block 1 (.seq (.seq (.ops [(qS 12 (.mv (.tmp 0))), (qS 13 (.mv (.tmp 5))), (qS 14 (.idxS 1 (.tmp 12) (.tmp 13))), (qS 15 (.load 1 false (.tmp 14))), (qS 16 (.mv (.tmp 1))), (qS 17 (.call (2 * f_laws_markText) [(.tmp 16)])), (qS 18 (.pu (.n (.ar .neq)) [(.tmp 15), (.tmp 17)]))]) (.cond (.tmp 18) (.seq (.ops [(qS 4 (.mv (ic (-1))))]) .ret) .skip)) (.ops [(qS 19 (.mv (.tmp 1))), (qS 20 (.pu (.n (.ar .add)) [(.tmp 19), (ic 1)])), (qS 1 (.mv (.tmp 20)))]))) (.ops [(qS 10 (.mv (.tmp 5))), (qS 11 (.pu (.n (.ar .add)) [(.tmp 10), (ic 1)])), (qS 5 (.mv (.tmp 11)))])))))) (.seq (.ops [(qS 21 (.mv (.tmp 1))), (qS 4 (.mv (.tmp 21)))]) .ret))), [(.tmp 4)]⟩
set_option maxHeartbeats 10000000 in
theorem d_laws_heldStringS {P : Program} {env : Env} {f_laws_markText : Nat}  (ep_laws_markText : env (2 * f_laws_markText) = pureFn true (FA fun a : Int => p_laws_markText a)) (x0 : List ByteArray) (x1 : Int) {b : Int} (hp : p_laws_heldStringS x0 x1 = some b) : R P env (c_laws_heldStringS f_laws_markText) ((encA (x0, x1)).map ofI) [] (Tells true b) := by
  refine R_of (by simp [c_laws_heldStringS, encA]) ?_
  have E := ep_laws_markText
  unfold c_laws_heldStringS
  unfold p_laws_heldStringS at hp
  obtain ⟨ee0, hee0, hp⟩ := bind_eq hp
  simp (maxSteps := 2000000) (disch := first|omega|(simp only[ls];first|done|omega)) only [E, gx]
  refine W_loopP 0 (fun s t h => match s with | (s0, s1) => t 0 = .i (.sl 1 (x0.map enc)) ∧ t 1 = .i (.s (.int .i64 s0)) ∧ t 5 = .i (.s (.int .i64 s1))) (RK [.tmp 4] (Tells true)) ?_ hee0 ?_ ?_
  · rintro ⟨s0, s1⟩ ee tt0 hh0 ⟨ftt0_0, ftt0_1, ftt0_2⟩ hp
    rw [p_laws_heldStringS_l0] at hp
    by_cases hb2 : (decide (s1 < (x0.length : Int))) = true
    · rw [if_t hb2] at hp
      obtain ⟨v3, hv3, hp⟩ := bind_eq hp
      obtain ⟨v4, hv4, hp⟩ := bind_eq hp
      by_cases hb5 : (decide (v3 = v4)) = true
      · rw [if_t hb5] at hp
        have hp := Option.some.inj hp
        subst hp
        simp (maxSteps := 2000000) (disch := first|omega|(simp only[ls];first|done|omega)) only [E, ftt0_0, ftt0_1, ftt0_2, hb2, hv3, hv4, hb5, gx] <;> omega
      · replace hb5 := eq_false_of_ne_true hb5
        rw [if_f hb5] at hp
        have hp := Option.some.inj hp
        subst hp
        simp (maxSteps := 2000000) (disch := first|omega|(simp only[ls];first|done|omega)) only [E, ftt0_0, ftt0_1, ftt0_2, hb2, hv3, hv4, hb5, gx]
    · replace hb2 := eq_false_of_ne_true hb2
      rw [if_f hb2] at hp
      have hp := Option.some.inj hp
      subst hp
      simp (maxSteps := 2000000) (disch := first|omega|(simp only[ls];first|done|omega)) only [E, ftt0_0, ftt0_1, ftt0_2, hb2, gx] <;> omega
  · simp (maxSteps := 2000000) (disch := first|omega|(simp only[ls];first|done|omega)) only [E, gx] <;> omega
  · intro x tt1 hh1 hx
    rcases ee0 with ⟨o6, o7⟩ | r
    · obtain ⟨rfl, ftt1_0, ftt1_1, ftt1_2⟩ := hx
      dsimp only at hp
      have hp := Option.some.inj hp
      subst hp
      simp (maxSteps := 2000000) (disch := first|omega|(simp only[ls];first|done|omega)) only [E, ftt1_0, ftt1_1, ftt1_2, gx]
    · obtain ⟨rfl, hx⟩ := hx
      dsimp only at hp
      cases hp
      simp only [seqK_ret, blockK_ret, retK_RK (K := Tells true), hx, and_self, true_and]

noncomputable def p_laws_FnExactSetElements (x0 : TMulti) : Option Bool :=
  (p_laws_szSet x0 1048576).bind fun v0 =>
  if (decide (v0 < 0)) = true then
    some true
  else
    (p_laws_toSet x0).bind fun v2 =>
    (p_spec_SetElements v2).bind fun v3 =>
    (p_impl_SetElements v2).bind fun v4 =>
    (p_laws_eqStringS v4.a v3.a).bind fun v5 =>
    if (v5) = true then
      if (decide (v4.b = v3.b)) = true then
        (p_laws_eqSet v2 v2).bind fun v8 =>
        if (v8) = true then
          (p_laws_markSet v2 1).bind fun v10 =>
          if (decide (v10.a < 0)) = true then
            some false
          else
            (p_laws_markStringS v4.a 1).bind fun v12 =>
            (p_laws_heldStringS v12.b 1).bind fun v13 =>
            if (decide (v13 < 0)) = true then
              some false
            else
              if (decide (v13 = v12.a)) = true then
                some true
              else
                some false
        else
          some false
      else
        some false
    else
      some false
def c_laws_FnExactSetElements (f_laws_szSet : Nat) (f_laws_toSet : Nat) (f_spec_SetElements : Nat) (f_impl_SetElements : Nat) (f_laws_eqStringS : Nat) (f_laws_eqSet : Nat) (f_laws_markSet : Nat) (f_laws_markStringS : Nat) (f_laws_heldStringS : Nat) : AFn := ⟨96, (.seq (.ops [(qS 1 (.box (.tmp 0))), (qS 2 (.mv (.const (.bool false))))]) (.seq (.ops [(qS 3 (.mv (ic 1048576)))]) (.seq (.ops [(qS 14 (.load 2 true (.tmp 1))), (qS 15 (.mv (.tmp 3))), (qS 16 (.call (2 * f_laws_szSet) [(.tmp 14), (.tmp 15)])), (qS 3 (.mv (.tmp 16)))]) (.seq (.seq (.ops [(qS 17 (.mv (.tmp 3))), (qS 18 (.pu (.n (.ar .lss)) [(.tmp 17), (ic 0)]))]) (.cond (.tmp 18) (.seq (.ops [(qS 2 (.mv (.const (.bool true))))]) .ret) .skip)) (.seq (.ops [(qS 20 (.load 2 true (.tmp 1))), (qS 21 (.call (2 * f_laws_toSet) [(.tmp 20)])), (qS 22 (.call (2 * f_spec_SetElements) [(.tmp 21)])), (qS 19 (.mv (.tmp 22))), (qS 23 (.extract 0 (.tmp 19))), (qS 24 (.extract 1 (.tmp 19))), (qS 4 (.mv (.tmp 23))), (qS 5 (.mv (.tmp 24)))]) (.seq (.ops [(qS 25 (.load 2 true (.tmp 1))), (qS 26 (.call (2 * f_laws_toSet + 1) [(.tmp 25)])), (qS 6 (.allocV [(1, false), (3, true)] [(.slice .none 0 0), (.slice .none 0 0)])), ⟨.none, (.storeV [(1, false), (3, true)] 2 (.tmp 6) (.tmp 26)), .none, []⟩]) (.seq (.ops [(qS 28 (.load 2 true (.tmp 6))), (qS 29 (.call (2 * f_impl_SetElements + 1) [(.tmp 28)])), (qS 27 (.mv (.tmp 29))), (qS 30 (.extract 0 (.tmp 27))), (qS 31 (.extract 1 (.tmp 27))), (qS 7 (.mv (.tmp 30))), (qS 8 (.mv (.tmp 31)))]) (.seq (.seq (.ops [(qS 32 (.mv (.tmp 7))), (qS 33 (.mv (.tmp 4))), (qS 34 (.call (2 * f_laws_eqStringS) [(.tmp 32), (.tmp 33)])), (qS 35 (.pu (.n (.un .not)) [(.tmp 34)])), (qS 36 (.mv (.tmp 35))), ⟨(.some 37), (.mv (.tmp 8)), (.some (36, false)), []⟩, ⟨(.some 38), (.mv (.tmp 5)), (.some (36, false)), []⟩, ⟨(.some 39), (.pu (.n (.ar .neq)) [(.tmp 37), (.tmp 38)]), (.some (36, false)), []⟩, (qS 40 (.pick (.tmp 36) (.const (.bool true)) (.tmp 39)))]) (.cond (.tmp 40) (.seq (.ops [(qS 2 (.mv (.const (.bool false))))]) .ret) .skip)) (.seq (.seq (.ops [(qS 41 (.load 2 true (.tmp 6))), (qS 42 (.load 2 true (.tmp 1))), (qS 43 (.call (2 * f_laws_toSet) [(.tmp 42)])), (qS 44 (.call (2 * f_laws_eqSet) [(.tmp 41), (.tmp 43)])), (qS 45 (.pu (.n (.un .not)) [(.tmp 44)]))]) (.cond (.tmp 45) (.seq (.ops [(qS 2 (.mv (.const (.bool false))))]) .ret) .skip)) (.seq (.ops [(qS 9 (.mv (ic 1)))]) (.seq (.ops [(qS 46 (.load 2 true (.tmp 6))), (qS 47 (.mv (.tmp 9))), (qS 48 (.call (2 * f_laws_markSet + 1) [(.tmp 46), (.tmp 47)])), (qS 9 (.mv (.tmp 48)))]) (.seq (.seq (.ops [(qS 49 (.mv (.tmp 9))), (qS 50 (.pu (.n (.ar .lss)) [(.tmp 49), (ic 0)])), (qS 51 (.mv (.tmp 50))), ⟨(.some 52), (.mv (.tmp 7)), (.some (51, false)), []⟩, ⟨(.some 53), (.mv (.tmp 4)), (.some (51, false)), []⟩, ⟨(.some 54), (.call (2 * f_laws_eqStringS) [(.tmp 52), (.tmp 53)]), (.some (51, false)), []⟩, ⟨(.some 55), (.pu (.n (.un .not)) [(.tmp 54)]), (.some (51, false)), []⟩, (qS 56 (.pick (.tmp 51) (.const (.bool true)) (.tmp 55))), (qS 57 (.mv (.tmp 56))), ⟨(.some 58), (.mv (.tmp 8)), (.some (57, false)), []⟩, ⟨(.some 59), (.mv (.tmp 5)), (.some (57, false)), []⟩, ⟨(.some 60), (.pu (.n (.ar .neq)) [(.tmp 58), (.tmp 59)]), (.some (57, false)), []⟩, (qS 61 (.pick (.tmp 57) (.const (.bool true)) (.tmp 60)))]) (.cond (.tmp 61) (.seq (.ops [(qS 2 (.mv (.const (.bool false))))]) .ret) .skip)) (.seq (.ops [(qS 10 (.mv (ic 1)))]) (.seq (.ops [(qS 62 (.mv (.tmp 7))), (qS 63 (.mv (.tmp 10))), (qS 64 (.call (2 * f_laws_markStringS + 1) [(.tmp 62), (.tmp 63)])), (qS 10 (.mv (.tmp 64)))]) (.seq (.ops [(qS 11 (.mv (ic 1)))]) (.seq (.ops [(qS 65 (.mv (.tmp 7))), (qS 66 (.mv (.tmp 11))), (qS 67 (.call (2 * f_laws_heldStringS) [(.tmp 65), (.tmp 66)])), (qS 11 (.mv (.tmp 67)))]) (.seq (.seq (.ops [(qS 68 (.mv (.tmp 11))), (qS 69 (.pu (.n (.ar .lss)) [(.tmp 68), (ic 0)]))]) (.cond (.tmp 69) (.seq (.ops [(qS 2 (.mv (.const (.bool false))))]) .ret) .skip)) (.seq (.seq (.ops [(qS 70 (.mv (.tmp 11))), (qS 71 (.mv (.tmp 10))), (qS 72 (.pu (.n (.ar .neq)) [(.tmp 70), (.tmp 71)]))]) (.cond (.tmp 72) (.seq (.ops [(qS 2 (.mv (.const (.bool false))))]) .ret) .skip)) (.seq (.ops [(qS 74 (.load 2 true (.tmp 1))), (qS 75 (.call (2 * f_laws_toSet + 1) [(.tmp 74)])), (qS 76 (.call (2 * f_impl_SetElements + 1) [(.tmp 75)])), (qS 73 (.mv (.tmp 76))), (qS 77 (.extract 0 (.tmp 73))), (qS 78 (.extract 1 (.tmp 73))), (qS 12 (.mv (.tmp 77))), (qS 13 (.mv (.tmp 78)))]) (.seq (.seq (.ops [(qS 79 (.mv (.tmp 12))), (qS 80 (.mv (.tmp 4))), (qS 81 (.call (2 * f_laws_eqStringS) [(.tmp 79), (.tmp 80)])), (qS 82 (.pu (.n (.un .not)) [(.tmp 81)])), (qS 83 (.mv (.tmp 82))), ⟨(.some 84), (.mv (.tmp 13)), (.some (83, false)), []⟩, ⟨(.some 85), (.mv (.tmp 5)), (.some (83, false)), []⟩, ⟨(.some 86), (.pu (.n (.ar .neq)) [(.tmp 84), (.tmp 85)]), (.some (83, false)), []⟩, (qS 87 (.pick (.tmp 83) (.const (.bool true)) (.tmp 86)))]) (.cond (.tmp 87) (.seq (.ops [(qS 2 (.mv (.const (.bool false))))]) .ret) .skip)) (.seq (.ops [(qS 11 (.mv (ic 1)))]) (.seq (.ops [(qS 88 (.mv (.tmp 7))), (qS 89 (.mv (.tmp 11))), (qS 90 (.call (2 * f_laws_heldStringS) [(.tmp 88), (.tmp 89)])), (qS 11 (.mv (.tmp 90)))]) (.seq (.seq (.ops [(qS 91 (.mv (.tmp 11))), (qS 92 (.pu (.n (.ar .lss)) [(.tmp 91), (ic 0)]))]) (.cond (.tmp 92) (.seq (.ops [(qS 2 (.mv (.const (.bool false))))]) .ret) .skip)) (.seq (.seq (.ops [(qS 93 (.mv (.tmp 11))), (qS 94 (.mv (.tmp 10))), (qS 95 (.pu (.n (.ar .neq)) [(.tmp 93), (.tmp 94)]))]) (.cond (.tmp 95) (.seq (.ops [(qS 2 (.mv (.const (.bool false))))]) .ret) .skip)) (.seq (.ops [(qS 2 (.mv (.const (.bool true))))]) .ret))))))))))))))))))))))))), [(.tmp 2)]⟩
set_option maxHeartbeats 10000000 in
theorem d_laws_FnExactSetElements {P : Program} {env : Env} {f_laws_szSet : Nat} {f_laws_toSet : Nat} {f_spec_SetElements : Nat} {f_impl_SetElements : Nat} {f_laws_eqStringS : Nat} {f_laws_eqSet : Nat} {f_laws_markSet : Nat} {f_laws_markStringS : Nat} {f_laws_heldStringS : Nat}  (ep_laws_szSet : env (2 * f_laws_szSet) = pureFn true (FA fun a : TMulti × Int => p_laws_szSet a.1 a.2)) (ep_laws_toSet : env (2 * f_laws_toSet) = pureFn true (FA fun a : TMulti => p_laws_toSet a)) (ep_spec_SetElements : env (2 * f_spec_SetElements) = pureFn true (FA fun a : TMulti => p_spec_SetElements a)) (ep_laws_eqStringS : env (2 * f_laws_eqStringS) = pureFn true (FA fun a : List ByteArray × List ByteArray => p_laws_eqStringS a.1 a.2)) (ep_laws_eqSet : env (2 * f_laws_eqSet) = pureFn true (FA fun a : TMulti × TMulti => p_laws_eqSet a.1 a.2)) (ep_laws_heldStringS : env (2 * f_laws_heldStringS) = pureFn true (FA fun a : List ByteArray × Int => p_laws_heldStringS a.1 a.2)) (e_laws_toSet : k_laws_toSet (env (2 * f_laws_toSet + 1))) (e_impl_SetElements : k_impl_SetElements (env (2 * f_impl_SetElements + 1))) (e_laws_markSet : k_laws_markSet (env (2 * f_laws_markSet + 1))) (e_laws_markStringS : k_laws_markStringS (env (2 * f_laws_markStringS + 1))) (x0 : TMulti) (hp : p_laws_FnExactSetElements x0 = some true) : R P env (c_laws_FnExactSetElements f_laws_szSet f_laws_toSet f_spec_SetElements f_impl_SetElements f_laws_eqStringS f_laws_eqSet f_laws_markSet f_laws_markStringS f_laws_heldStringS) ((encA (x0)).map ofI) [] (fun v _ => v = .i (iB true)) := by
  refine R_of (by simp [c_laws_FnExactSetElements, encA]) ?_
  have E := And.intro ep_laws_szSet (And.intro ep_laws_toSet (And.intro ep_spec_SetElements (And.intro ep_laws_eqStringS (And.intro ep_laws_eqSet ep_laws_heldStringS))))
  unfold c_laws_FnExactSetElements
  unfold p_laws_FnExactSetElements at hp
  obtain ⟨v0, hv0, hp⟩ := bind_eq hp
  by_cases hb1 : (decide (v0 < 0)) = true
  · rw [if_t hb1] at hp
    cases hp
    simp (maxSteps := 2000000) (disch := first|omega|(simp only[ls];first|done|omega)) only [E, hv0, hb1, gx]
  · replace hb1 := eq_false_of_ne_true hb1
    rw [if_f hb1] at hp
    obtain ⟨v2, hv2, hp⟩ := bind_eq hp
    obtain ⟨v3, hv3, hp⟩ := bind_eq hp
    simp (maxSteps := 2000000) (disch := first|omega|(simp only[ls];first|done|omega)) only [E, hv0, hb1, hv2, hv3, gx]
    refine call_f (fun h => getCells h 0 2 = some [.i (.sl 1 (x0.seen.counts.map enc)), .i (.sl 3 (x0.entries.map enc))] ∧ 0 < h.length) (fun h v h2 => oo_laws_toSet v2 h v h2) ?_ ?_ ?_
    · simp (maxSteps := 2000000) (disch := first|omega|(simp only[ls];first|done|omega)) only [E, hv0, hb1, hv2, hv3, gx] <;> omega
    · rintro h ⟨c0_0, c0_1⟩
      exact e_laws_toSet _ _ hv2 h _ (by simp (maxSteps := 2000000) (disch := first|omega|(simp only[ls];first|done|omega)) only [E, hv0, hb1, hv2, hv3, c0_0, c0_1, gx])
    · rintro hc0 v hh0 ⟨c0_0, c0_1⟩ hpost
      obtain ⟨kk0, nb0_0, nb0_1, rfl, lnb0_0, gnb0_0, wnb0_0, lnb0_1, gnb0_1, wnb0_1, ne0_1_0⟩ := hpost
      have d0_0 : getCells hh0 0 2 = some [.i (.sl 1 (x0.seen.counts.map enc)), .i (.sl 3 (x0.entries.map enc))] := (keep_get kk0 c0_1 (by first | (simp; done) | (simp; omega))).trans c0_0
      have d0_0l := keep_lt kk0 c0_1
      have d0_1 := wnb0_0
      have d0_2 := wnb0_1
      obtain ⟨v4, hv4, hp⟩ := bind_eq hp
      simp (maxSteps := 2000000) (disch := first|omega|(simp only[ls];first|done|omega)) only [E, hv0, hb1, hv2, hv3, d0_0, d0_1, d0_2, gx]
      refine call_f (fun h => getCells h 0 2 = some [.i (.sl 1 (x0.seen.counts.map enc)), .i (.sl 3 (x0.entries.map enc))] ∧ 0 < h.length ∧ getCells h nb0_0 v2.seen.counts.length = some (rows (v2.seen.counts : List Int)) ∧ nb0_0 < h.length ∧ getCells h nb0_1 (v2.entries.length * 3) = some (rows (v2.entries : List TEntry)) ∧ nb0_1 < h.length ∧ getCells h hh0.length 0 = some [] ∧ hh0.length < h.length ∧ getCells h (hh0.length + 1) 0 = some [] ∧ hh0.length + 1 < h.length ∧ getCells h (hh0.length + 2) 2 = some [.hsl nb0_0 v2.seen.counts.length 0 1 false v2.seen.counts.length, .hsl nb0_1 (v2.entries.length * 3) 0 3 true v2.entries.length] ∧ hh0.length + 2 < h.length) (fun h v h2 => oo_impl_SetElements v4 h v h2) ?_ ?_ ?_
      · simp (maxSteps := 2000000) (disch := first|omega|(simp only[ls];first|done|omega)) only [E, hv0, hb1, hv2, hv3, d0_0, d0_1, d0_2, hv4, gx] <;> omega
      · rintro h ⟨c1_0, c1_1, c1_2, c1_3, c1_4, c1_5, c1_6, c1_7, c1_8, c1_9, c1_10, c1_11⟩
        exact e_impl_SetElements _ _ hv4 h _ (by simp (maxSteps := 2000000) (disch := first|omega|(simp only[ls];first|done|omega)) only [E, hv0, hb1, hv2, hv3, d0_0, d0_1, d0_2, hv4, c1_0, c1_1, c1_2, c1_3, c1_4, c1_5, c1_6, c1_7, c1_8, c1_9, c1_10, c1_11, gx])
      · rintro hc1 v hh1 ⟨c1_0, c1_1, c1_2, c1_3, c1_4, c1_5, c1_6, c1_7, c1_8, c1_9, c1_10, c1_11⟩ hpost
        obtain ⟨kk1, nb1_0, rfl, lnb1_0, gnb1_0, wnb1_0⟩ := hpost
        have d1_0 : getCells hh1 0 2 = some [.i (.sl 1 (x0.seen.counts.map enc)), .i (.sl 3 (x0.entries.map enc))] := (keep_get kk1 c1_1 (by first | (simp; done) | (simp; omega))).trans c1_0
        have d1_0l := keep_lt kk1 c1_1
        have d1_1 : getCells hh1 nb0_0 v2.seen.counts.length = some (rows (v2.seen.counts : List Int)) := (keep_get kk1 c1_3 (by first | (simp; done) | (simp; omega))).trans c1_2
        have d1_1l := keep_lt kk1 c1_3
        have d1_2 : getCells hh1 nb0_1 (v2.entries.length * 3) = some (rows (v2.entries : List TEntry)) := (keep_get kk1 c1_5 (by first | (simp; done) | (simp; omega))).trans c1_4
        have d1_2l := keep_lt kk1 c1_5
        have d1_3 : getCells hh1 hh0.length 0 = some [] := (keep_get kk1 c1_7 (by first | (simp; done) | (simp; omega))).trans c1_6
        have d1_3l := keep_lt kk1 c1_7
        have d1_4 : getCells hh1 (hh0.length + 1) 0 = some [] := (keep_get kk1 c1_9 (by first | (simp; done) | (simp; omega))).trans c1_8
        have d1_4l := keep_lt kk1 c1_9
        have d1_5 : getCells hh1 (hh0.length + 2) 2 = some [.hsl nb0_0 v2.seen.counts.length 0 1 false v2.seen.counts.length, .hsl nb0_1 (v2.entries.length * 3) 0 3 true v2.entries.length] := (keep_get kk1 c1_11 (by first | (simp; done) | (simp; omega))).trans c1_10
        have d1_5l := keep_lt kk1 c1_11
        have d1_6 := wnb1_0
        obtain ⟨v5, hv5, hp⟩ := bind_eq hp
        by_cases hb6 : (v5) = true
        · rw [if_t hb6] at hp
          by_cases hb7 : (decide (v4.b = v3.b)) = true
          · rw [if_t hb7] at hp
            obtain ⟨v8, hv8, hp⟩ := bind_eq hp
            by_cases hb9 : (v8) = true
            · rw [if_t hb9] at hp
              obtain ⟨v10, hv10, hp⟩ := bind_eq hp
              simp (maxSteps := 2000000) (disch := first|omega|(simp only[ls];first|done|omega)) only [E, hv0, hb1, hv2, hv3, d0_0, d0_1, d0_2, hv4, d1_0, d1_1, d1_2, d1_3, d1_4, d1_5, d1_6, hv5, hb6, hb7, hv8, hb9, gx]
              refine call_f (fun h => getCells h 0 2 = some [.i (.sl 1 (x0.seen.counts.map enc)), .i (.sl 3 (x0.entries.map enc))] ∧ 0 < h.length ∧ getCells h nb0_0 v2.seen.counts.length = some (rows (v2.seen.counts : List Int)) ∧ nb0_0 < h.length ∧ getCells h nb0_1 (v2.entries.length * 3) = some (rows (v2.entries : List TEntry)) ∧ nb0_1 < h.length ∧ getCells h hh0.length 0 = some [] ∧ hh0.length < h.length ∧ getCells h (hh0.length + 1) 0 = some [] ∧ hh0.length + 1 < h.length ∧ getCells h (hh0.length + 2) 2 = some [.hsl nb0_0 v2.seen.counts.length 0 1 false v2.seen.counts.length, .hsl nb0_1 (v2.entries.length * 3) 0 3 true v2.entries.length] ∧ hh0.length + 2 < h.length ∧ getCells h nb1_0 v4.a.length = some (rows (v4.a : List ByteArray)) ∧ nb1_0 < h.length) (fun h v h2 => i_laws_markSet nb0_0 nb0_1 v2.seen.counts.length v2.entries.length h v10 v h2) ?_ ?_ ?_
              · simp (maxSteps := 2000000) (disch := first|omega|(simp only[ls];first|done|omega)) only [E, hv0, hb1, hv2, hv3, d0_0, d0_1, d0_2, hv4, d1_0, d1_1, d1_2, d1_3, d1_4, d1_5, d1_6, hv5, hb6, hb7, hv8, hb9, hv10, gx] <;> omega
              · rintro h ⟨c2_0, c2_1, c2_2, c2_3, c2_4, c2_5, c2_6, c2_7, c2_8, c2_9, c2_10, c2_11, c2_12, c2_13⟩
                exact e_laws_markSet _ _ _ hv10 nb0_0 nb0_1 v2.seen.counts.length v2.entries.length h (by first | omega | rfl) (by first | omega | rfl) c2_2 c2_4 (by omega)
              · rintro hc2 v hh2 ⟨c2_0, c2_1, c2_2, c2_3, c2_4, c2_5, c2_6, c2_7, c2_8, c2_9, c2_10, c2_11, c2_12, c2_13⟩ hpost
                obtain ⟨kk2, rfl, w2_0, w2_1⟩ := hpost
                have d2_0 : getCells hh2 0 2 = some [.i (.sl 1 (x0.seen.counts.map enc)), .i (.sl 3 (x0.entries.map enc))] := (keep_get kk2 c2_1 (by first | (simp; done) | (simp; omega))).trans c2_0
                have d2_0l := keep_lt kk2 c2_1
                have d2_1 : getCells hh2 nb0_0 v2.seen.counts.length = some (rows (v10.b.seen.counts : List Int)) := w2_0
                have mm2_0 := len_rows w2_0
                simp only [zs] at mm2_0
                have d2_1l := keep_lt kk2 c2_3
                have d2_2 : getCells hh2 nb0_1 (v2.entries.length * 3) = some (rows (v10.b.entries : List TEntry)) := w2_1
                have mm2_1 := len_rows w2_1
                simp only [zs] at mm2_1
                have d2_2l := keep_lt kk2 c2_5
                have d2_3 : getCells hh2 hh0.length 0 = some [] := (keep_get kk2 c2_7 (by first | (simp; done) | (simp; omega))).trans c2_6
                have d2_3l := keep_lt kk2 c2_7
                have d2_4 : getCells hh2 (hh0.length + 1) 0 = some [] := (keep_get kk2 c2_9 (by first | (simp; done) | (simp; omega))).trans c2_8
                have d2_4l := keep_lt kk2 c2_9
                have d2_5 : getCells hh2 (hh0.length + 2) 2 = some [.hsl nb0_0 v2.seen.counts.length 0 1 false v2.seen.counts.length, .hsl nb0_1 (v2.entries.length * 3) 0 3 true v2.entries.length] := (keep_get kk2 c2_11 (by first | (simp; done) | (simp; omega))).trans c2_10
                have d2_5l := keep_lt kk2 c2_11
                have d2_6 : getCells hh2 nb1_0 v4.a.length = some (rows (v4.a : List ByteArray)) := (keep_get kk2 c2_13 (by first | (simp; done) | (simp; omega))).trans c2_12
                have d2_6l := keep_lt kk2 c2_13
                by_cases hb11 : (decide (v10.a < 0)) = true
                · rw [if_t hb11] at hp
                  cases hp
                · replace hb11 := eq_false_of_ne_true hb11
                  rw [if_f hb11] at hp
                  obtain ⟨v12, hv12, hp⟩ := bind_eq hp
                  simp (maxSteps := 2000000) (disch := first|omega|(simp only[ls];first|done|omega)) only [E, hv0, hb1, hv2, hv3, d0_0, d0_1, d0_2, hv4, d1_0, d1_1, d1_2, d1_3, d1_4, d1_5, d1_6, hv5, hb6, hb7, hv8, hb9, hv10, d2_0, d2_1, d2_2, d2_3, d2_4, d2_5, d2_6, hb11, gx]
                  refine call_f (fun h => getCells h 0 2 = some [.i (.sl 1 (x0.seen.counts.map enc)), .i (.sl 3 (x0.entries.map enc))] ∧ 0 < h.length ∧ getCells h nb0_0 v2.seen.counts.length = some (rows (v10.b.seen.counts : List Int)) ∧ nb0_0 < h.length ∧ getCells h nb0_1 (v2.entries.length * 3) = some (rows (v10.b.entries : List TEntry)) ∧ nb0_1 < h.length ∧ getCells h hh0.length 0 = some [] ∧ hh0.length < h.length ∧ getCells h (hh0.length + 1) 0 = some [] ∧ hh0.length + 1 < h.length ∧ getCells h (hh0.length + 2) 2 = some [.hsl nb0_0 v2.seen.counts.length 0 1 false v2.seen.counts.length, .hsl nb0_1 (v2.entries.length * 3) 0 3 true v2.entries.length] ∧ hh0.length + 2 < h.length ∧ getCells h nb1_0 v4.a.length = some (rows (v4.a : List ByteArray)) ∧ nb1_0 < h.length) (fun h v h2 => i_laws_markStringS nb1_0 v4.a.length h v12 v h2) ?_ ?_ ?_
                  · simp (maxSteps := 2000000) (disch := first|omega|(simp only[ls];first|done|omega)) only [E, hv0, hb1, hv2, hv3, d0_0, d0_1, d0_2, hv4, d1_0, d1_1, d1_2, d1_3, d1_4, d1_5, d1_6, hv5, hb6, hb7, hv8, hb9, hv10, d2_0, d2_1, d2_2, d2_3, d2_4, d2_5, d2_6, hb11, hv12, gx] <;> omega
                  · rintro h ⟨c3_0, c3_1, c3_2, c3_3, c3_4, c3_5, c3_6, c3_7, c3_8, c3_9, c3_10, c3_11, c3_12, c3_13⟩
                    exact e_laws_markStringS _ _ _ hv12 nb1_0 v4.a.length h (by first | omega | rfl) c3_12
                  · rintro hc3 v hh3 ⟨c3_0, c3_1, c3_2, c3_3, c3_4, c3_5, c3_6, c3_7, c3_8, c3_9, c3_10, c3_11, c3_12, c3_13⟩ hpost
                    obtain ⟨kk3, rfl, w3_0⟩ := hpost
                    have d3_0 : getCells hh3 0 2 = some [.i (.sl 1 (x0.seen.counts.map enc)), .i (.sl 3 (x0.entries.map enc))] := (keep_get kk3 c3_1 (by first | (simp; done) | (simp; omega))).trans c3_0
                    have d3_0l := keep_lt kk3 c3_1
                    have d3_1 : getCells hh3 nb0_0 v2.seen.counts.length = some (rows (v10.b.seen.counts : List Int)) := (keep_get kk3 c3_3 (by first | (simp; done) | (simp; omega))).trans c3_2
                    have d3_1l := keep_lt kk3 c3_3
                    have d3_2 : getCells hh3 nb0_1 (v2.entries.length * 3) = some (rows (v10.b.entries : List TEntry)) := (keep_get kk3 c3_5 (by first | (simp; done) | (simp; omega))).trans c3_4
                    have d3_2l := keep_lt kk3 c3_5
                    have d3_3 : getCells hh3 hh0.length 0 = some [] := (keep_get kk3 c3_7 (by first | (simp; done) | (simp; omega))).trans c3_6
                    have d3_3l := keep_lt kk3 c3_7
                    have d3_4 : getCells hh3 (hh0.length + 1) 0 = some [] := (keep_get kk3 c3_9 (by first | (simp; done) | (simp; omega))).trans c3_8
                    have d3_4l := keep_lt kk3 c3_9
                    have d3_5 : getCells hh3 (hh0.length + 2) 2 = some [.hsl nb0_0 v2.seen.counts.length 0 1 false v2.seen.counts.length, .hsl nb0_1 (v2.entries.length * 3) 0 3 true v2.entries.length] := (keep_get kk3 c3_11 (by first | (simp; done) | (simp; omega))).trans c3_10
                    have d3_5l := keep_lt kk3 c3_11
                    have d3_6 : getCells hh3 nb1_0 v4.a.length = some (rows (v12.b : List ByteArray)) := w3_0
                    have mm3_0 := len_rows w3_0
                    simp only [zs] at mm3_0
                    have d3_6l := keep_lt kk3 c3_13
                    obtain ⟨v13, hv13, hp⟩ := bind_eq hp
                    by_cases hb14 : (decide (v13 < 0)) = true
                    · rw [if_t hb14] at hp
                      cases hp
                    · replace hb14 := eq_false_of_ne_true hb14
                      rw [if_f hb14] at hp
                      by_cases hb15 : (decide (v13 = v12.a)) = true
                      · rw [if_t hb15] at hp
                        simp (maxSteps := 2000000) (disch := first|omega|(simp only[ls];first|done|omega)) only [E, hv0, hb1, hv2, hv3, d0_0, d0_1, d0_2, hv4, d1_0, d1_1, d1_2, d1_3, d1_4, d1_5, d1_6, hv5, hb6, hb7, hv8, hb9, hv10, d2_0, d2_1, d2_2, d2_3, d2_4, d2_5, d2_6, hb11, hv12, d3_0, d3_1, d3_2, d3_3, d3_4, d3_5, d3_6, hv13, hb14, hb15, gx]
                        refine call_f (fun h => getCells h 0 2 = some [.i (.sl 1 (x0.seen.counts.map enc)), .i (.sl 3 (x0.entries.map enc))] ∧ 0 < h.length ∧ getCells h nb0_0 v2.seen.counts.length = some (rows (v10.b.seen.counts : List Int)) ∧ nb0_0 < h.length ∧ getCells h nb0_1 (v2.entries.length * 3) = some (rows (v10.b.entries : List TEntry)) ∧ nb0_1 < h.length ∧ getCells h hh0.length 0 = some [] ∧ hh0.length < h.length ∧ getCells h (hh0.length + 1) 0 = some [] ∧ hh0.length + 1 < h.length ∧ getCells h (hh0.length + 2) 2 = some [.hsl nb0_0 v2.seen.counts.length 0 1 false v2.seen.counts.length, .hsl nb0_1 (v2.entries.length * 3) 0 3 true v2.entries.length] ∧ hh0.length + 2 < h.length ∧ getCells h nb1_0 v4.a.length = some (rows (v12.b : List ByteArray)) ∧ nb1_0 < h.length) (fun h v h2 => oo_laws_toSet v2 h v h2) ?_ ?_ ?_
                        · simp (maxSteps := 2000000) (disch := first|omega|(simp only[ls];first|done|omega)) only [E, hv0, hb1, hv2, hv3, d0_0, d0_1, d0_2, hv4, d1_0, d1_1, d1_2, d1_3, d1_4, d1_5, d1_6, hv5, hb6, hb7, hv8, hb9, hv10, d2_0, d2_1, d2_2, d2_3, d2_4, d2_5, d2_6, hb11, hv12, d3_0, d3_1, d3_2, d3_3, d3_4, d3_5, d3_6, hv13, hb14, hb15, gx] <;> omega
                        · rintro h ⟨c4_0, c4_1, c4_2, c4_3, c4_4, c4_5, c4_6, c4_7, c4_8, c4_9, c4_10, c4_11, c4_12, c4_13⟩
                          exact e_laws_toSet _ _ hv2 h _ (by simp (maxSteps := 2000000) (disch := first|omega|(simp only[ls];first|done|omega)) only [E, hv0, hb1, hv2, hv3, d0_0, d0_1, d0_2, hv4, d1_0, d1_1, d1_2, d1_3, d1_4, d1_5, d1_6, hv5, hb6, hb7, hv8, hb9, hv10, d2_0, d2_1, d2_2, d2_3, d2_4, d2_5, d2_6, hb11, hv12, d3_0, d3_1, d3_2, d3_3, d3_4, d3_5, d3_6, hv13, hb14, hb15, c4_0, c4_1, c4_2, c4_3, c4_4, c4_5, c4_6, c4_7, c4_8, c4_9, c4_10, c4_11, c4_12, c4_13, gx])
                        · rintro hc4 v hh4 ⟨c4_0, c4_1, c4_2, c4_3, c4_4, c4_5, c4_6, c4_7, c4_8, c4_9, c4_10, c4_11, c4_12, c4_13⟩ hpost
                          obtain ⟨kk4, nb4_0, nb4_1, rfl, lnb4_0, gnb4_0, wnb4_0, lnb4_1, gnb4_1, wnb4_1, ne4_1_0⟩ := hpost
                          have d4_0 : getCells hh4 0 2 = some [.i (.sl 1 (x0.seen.counts.map enc)), .i (.sl 3 (x0.entries.map enc))] := (keep_get kk4 c4_1 (by first | (simp; done) | (simp; omega))).trans c4_0
                          have d4_0l := keep_lt kk4 c4_1
                          have d4_1 : getCells hh4 nb0_0 v2.seen.counts.length = some (rows (v10.b.seen.counts : List Int)) := (keep_get kk4 c4_3 (by first | (simp; done) | (simp; omega))).trans c4_2
                          have d4_1l := keep_lt kk4 c4_3
                          have d4_2 : getCells hh4 nb0_1 (v2.entries.length * 3) = some (rows (v10.b.entries : List TEntry)) := (keep_get kk4 c4_5 (by first | (simp; done) | (simp; omega))).trans c4_4
                          have d4_2l := keep_lt kk4 c4_5
                          have d4_3 : getCells hh4 hh0.length 0 = some [] := (keep_get kk4 c4_7 (by first | (simp; done) | (simp; omega))).trans c4_6
                          have d4_3l := keep_lt kk4 c4_7
                          have d4_4 : getCells hh4 (hh0.length + 1) 0 = some [] := (keep_get kk4 c4_9 (by first | (simp; done) | (simp; omega))).trans c4_8
                          have d4_4l := keep_lt kk4 c4_9
                          have d4_5 : getCells hh4 (hh0.length + 2) 2 = some [.hsl nb0_0 v2.seen.counts.length 0 1 false v2.seen.counts.length, .hsl nb0_1 (v2.entries.length * 3) 0 3 true v2.entries.length] := (keep_get kk4 c4_11 (by first | (simp; done) | (simp; omega))).trans c4_10
                          have d4_5l := keep_lt kk4 c4_11
                          have d4_6 : getCells hh4 nb1_0 v4.a.length = some (rows (v12.b : List ByteArray)) := (keep_get kk4 c4_13 (by first | (simp; done) | (simp; omega))).trans c4_12
                          have d4_6l := keep_lt kk4 c4_13
                          have d4_7 := wnb4_0
                          have d4_8 := wnb4_1
                          simp (maxSteps := 2000000) (disch := first|omega|(simp only[ls];first|done|omega)) only [E, hv0, hb1, hv2, hv3, d0_0, d0_1, d0_2, hv4, d1_0, d1_1, d1_2, d1_3, d1_4, d1_5, d1_6, hv5, hb6, hb7, hv8, hb9, hv10, d2_0, d2_1, d2_2, d2_3, d2_4, d2_5, d2_6, hb11, hv12, d3_0, d3_1, d3_2, d3_3, d3_4, d3_5, d3_6, hv13, hb14, hb15, d4_0, d4_1, d4_2, d4_3, d4_4, d4_5, d4_6, d4_7, d4_8, gx]
                          refine call_f (fun h => getCells h 0 2 = some [.i (.sl 1 (x0.seen.counts.map enc)), .i (.sl 3 (x0.entries.map enc))] ∧ 0 < h.length ∧ getCells h nb0_0 v2.seen.counts.length = some (rows (v10.b.seen.counts : List Int)) ∧ nb0_0 < h.length ∧ getCells h nb0_1 (v2.entries.length * 3) = some (rows (v10.b.entries : List TEntry)) ∧ nb0_1 < h.length ∧ getCells h hh0.length 0 = some [] ∧ hh0.length < h.length ∧ getCells h (hh0.length + 1) 0 = some [] ∧ hh0.length + 1 < h.length ∧ getCells h (hh0.length + 2) 2 = some [.hsl nb0_0 v2.seen.counts.length 0 1 false v2.seen.counts.length, .hsl nb0_1 (v2.entries.length * 3) 0 3 true v2.entries.length] ∧ hh0.length + 2 < h.length ∧ getCells h nb1_0 v4.a.length = some (rows (v12.b : List ByteArray)) ∧ nb1_0 < h.length ∧ getCells h nb4_0 v2.seen.counts.length = some (rows (v2.seen.counts : List Int)) ∧ nb4_0 < h.length ∧ getCells h nb4_1 (v2.entries.length * 3) = some (rows (v2.entries : List TEntry)) ∧ nb4_1 < h.length) (fun h v h2 => oo_impl_SetElements v4 h v h2) ?_ ?_ ?_
                          · simp (maxSteps := 2000000) (disch := first|omega|(simp only[ls];first|done|omega)) only [E, hv0, hb1, hv2, hv3, d0_0, d0_1, d0_2, hv4, d1_0, d1_1, d1_2, d1_3, d1_4, d1_5, d1_6, hv5, hb6, hb7, hv8, hb9, hv10, d2_0, d2_1, d2_2, d2_3, d2_4, d2_5, d2_6, hb11, hv12, d3_0, d3_1, d3_2, d3_3, d3_4, d3_5, d3_6, hv13, hb14, hb15, d4_0, d4_1, d4_2, d4_3, d4_4, d4_5, d4_6, d4_7, d4_8, gx] <;> omega
                          · rintro h ⟨c5_0, c5_1, c5_2, c5_3, c5_4, c5_5, c5_6, c5_7, c5_8, c5_9, c5_10, c5_11, c5_12, c5_13, c5_14, c5_15, c5_16, c5_17⟩
                            exact e_impl_SetElements _ _ hv4 h _ (by simp (maxSteps := 2000000) (disch := first|omega|(simp only[ls];first|done|omega)) only [E, hv0, hb1, hv2, hv3, d0_0, d0_1, d0_2, hv4, d1_0, d1_1, d1_2, d1_3, d1_4, d1_5, d1_6, hv5, hb6, hb7, hv8, hb9, hv10, d2_0, d2_1, d2_2, d2_3, d2_4, d2_5, d2_6, hb11, hv12, d3_0, d3_1, d3_2, d3_3, d3_4, d3_5, d3_6, hv13, hb14, hb15, d4_0, d4_1, d4_2, d4_3, d4_4, d4_5, d4_6, d4_7, d4_8, c5_0, c5_1, c5_2, c5_3, c5_4, c5_5, c5_6, c5_7, c5_8, c5_9, c5_10, c5_11, c5_12, c5_13, c5_14, c5_15, c5_16, c5_17, gx])
                          · rintro hc5 v hh5 ⟨c5_0, c5_1, c5_2, c5_3, c5_4, c5_5, c5_6, c5_7, c5_8, c5_9, c5_10, c5_11, c5_12, c5_13, c5_14, c5_15, c5_16, c5_17⟩ hpost
                            obtain ⟨kk5, nb5_0, rfl, lnb5_0, gnb5_0, wnb5_0⟩ := hpost
                            have d5_0 : getCells hh5 0 2 = some [.i (.sl 1 (x0.seen.counts.map enc)), .i (.sl 3 (x0.entries.map enc))] := (keep_get kk5 c5_1 (by first | (simp; done) | (simp; omega))).trans c5_0
                            have d5_0l := keep_lt kk5 c5_1
                            have d5_1 : getCells hh5 nb0_0 v2.seen.counts.length = some (rows (v10.b.seen.counts : List Int)) := (keep_get kk5 c5_3 (by first | (simp; done) | (simp; omega))).trans c5_2
                            have d5_1l := keep_lt kk5 c5_3
                            have d5_2 : getCells hh5 nb0_1 (v2.entries.length * 3) = some (rows (v10.b.entries : List TEntry)) := (keep_get kk5 c5_5 (by first | (simp; done) | (simp; omega))).trans c5_4
                            have d5_2l := keep_lt kk5 c5_5
                            have d5_3 : getCells hh5 hh0.length 0 = some [] := (keep_get kk5 c5_7 (by first | (simp; done) | (simp; omega))).trans c5_6
                            have d5_3l := keep_lt kk5 c5_7
                            have d5_4 : getCells hh5 (hh0.length + 1) 0 = some [] := (keep_get kk5 c5_9 (by first | (simp; done) | (simp; omega))).trans c5_8
                            have d5_4l := keep_lt kk5 c5_9
                            have d5_5 : getCells hh5 (hh0.length + 2) 2 = some [.hsl nb0_0 v2.seen.counts.length 0 1 false v2.seen.counts.length, .hsl nb0_1 (v2.entries.length * 3) 0 3 true v2.entries.length] := (keep_get kk5 c5_11 (by first | (simp; done) | (simp; omega))).trans c5_10
                            have d5_5l := keep_lt kk5 c5_11
                            have d5_6 : getCells hh5 nb1_0 v4.a.length = some (rows (v12.b : List ByteArray)) := (keep_get kk5 c5_13 (by first | (simp; done) | (simp; omega))).trans c5_12
                            have d5_6l := keep_lt kk5 c5_13
                            have d5_7 : getCells hh5 nb4_0 v2.seen.counts.length = some (rows (v2.seen.counts : List Int)) := (keep_get kk5 c5_15 (by first | (simp; done) | (simp; omega))).trans c5_14
                            have d5_7l := keep_lt kk5 c5_15
                            have d5_8 : getCells hh5 nb4_1 (v2.entries.length * 3) = some (rows (v2.entries : List TEntry)) := (keep_get kk5 c5_17 (by first | (simp; done) | (simp; omega))).trans c5_16
                            have d5_8l := keep_lt kk5 c5_17
                            have d5_9 := wnb5_0
                            cases hp
                            simp (maxSteps := 2000000) (disch := first|omega|(simp only[ls];first|done|omega)) only [E, hv0, hb1, hv2, hv3, d0_0, d0_1, d0_2, hv4, d1_0, d1_1, d1_2, d1_3, d1_4, d1_5, d1_6, hv5, hb6, hb7, hv8, hb9, hv10, d2_0, d2_1, d2_2, d2_3, d2_4, d2_5, d2_6, hb11, hv12, d3_0, d3_1, d3_2, d3_3, d3_4, d3_5, d3_6, hv13, hb14, hb15, d4_0, d4_1, d4_2, d4_3, d4_4, d4_5, d4_6, d4_7, d4_8, d5_0, d5_1, d5_2, d5_3, d5_4, d5_5, d5_6, d5_7, d5_8, d5_9, gx]
                      · replace hb15 := eq_false_of_ne_true hb15
                        rw [if_f hb15] at hp
                        cases hp
            · replace hb9 := eq_false_of_ne_true hb9
              rw [if_f hb9] at hp
              cases hp
          · replace hb7 := eq_false_of_ne_true hb7
            rw [if_f hb7] at hp
            cases hp
        · replace hb6 := eq_false_of_ne_true hb6
          rw [if_f hb6] at hp
          cases hp

end Go.AM
