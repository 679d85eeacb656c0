/- Plain functions of TreePath and their walks. No condition. -/
import Derived.Test.YtogokiglmhnjkaaLabPackF
set_option linter.unusedVariables false
set_option linter.unusedSimpArgs false
set_option maxRecDepth 20000
namespace Go.AM
open Pic (enc dec dec_enc dec_sub)
open PicA (encA decA decA_encA decA_sub)
noncomputable def p_laws_szMoveOp (x0 : TMove) (x1 : Int) : Option Int :=
  if (decide (w64 (x1 - (x0.name.size : Int)) < 0)) = true then
    some (-1)
  else
    some (w64 (x1 - (x0.name.size : Int)))
def c_laws_szMoveOp : AFn := ⟨13, (.seq (.ops [(qS 2 (.box (.tmp 0))), (qS 4 (.mv (ic 0)))]) (.seq (.ops [(qS 5 (.mv (.tmp 1))), (qS 6 (.fieldA 4 (.tmp 2))), (qS 7 (.load 1 false (.tmp 6))), (qS 8 (.pu (.n .len) [(.tmp 7)])), (qS 9 (.pu (.n (.ar .sub)) [(.tmp 5), (.tmp 8)])), (qS 1 (.mv (.tmp 9)))]) (.seq (.seq (.ops [(qS 10 (.mv (.tmp 1))), (qS 11 (.pu (.n (.ar .lss)) [(.tmp 10), (ic 0)]))]) (.cond (.tmp 11) (.seq (.ops [(qS 4 (.mv (ic (-1))))]) .ret) .skip)) (.seq (.ops [(qS 12 (.mv (.tmp 1))), (qS 4 (.mv (.tmp 12)))]) .ret)))), [(.tmp 4)]⟩
set_option maxHeartbeats 10000000 in
theorem d_laws_szMoveOp {P : Program} {env : Env}  (x0 : TMove) (x1 : Int) {b : Int} (hp : p_laws_szMoveOp x0 x1 = some b) : R P env (c_laws_szMoveOp) ((encA (x0, x1)).map ofI) [] (Tells true b) := by
  refine R_of (by simp [c_laws_szMoveOp, encA]) ?_
  unfold c_laws_szMoveOp
  unfold p_laws_szMoveOp at hp
  by_cases hb0 : (decide (w64 (x1 - (x0.name.size : Int)) < 0)) = true
  · rw [if_t hb0] at hp
    have hp := Option.some.inj hp
    subst hp
    simp (maxSteps := 2000000) (disch := first|omega|(simp only[ls];first|done|omega)) only [hb0, gm]
  · replace hb0 := eq_false_of_ne_true hb0
    rw [if_f hb0] at hp
    have hp := Option.some.inj hp
    subst hp
    simp (maxSteps := 2000000) (disch := first|omega|(simp only[ls];first|done|omega)) only [hb0, gm]

noncomputable def p_laws_szMoveOpS_l0 (x0 : List TMove) : Int × Int → Option (Lp (Int × Int) Int)
  | (s1, s2) =>
    if (decide (s2 < (x0.length : Int))) = true then
      (get? x0 s2).bind fun v4 =>
      (p_laws_szMoveOp v4 s1).bind fun v5 =>
      if (decide (v5 < 0)) = true then
        some (.ret (-1))
      else
        some (.go (v5, w64 (s2 + 1)))
    else
      some (.out (s1, s2))
noncomputable def p_laws_szMoveOpS (x0 : List TMove) (x1 : Int) : Option Int :=
  if (decide (w64 (x1 - (x0.length : Int)) < 0)) = true then
    some (-1)
  else
    (loopP (p_laws_szMoveOpS_l0 x0) (w64 (x1 - (x0.length : Int)), 0)).bind fun ee0 => match ee0 with
    | .ret r => some r
    | .out (o7, o8) =>
      some o7
def c_laws_szMoveOpS (f_laws_szMoveOp : Nat) : AFn := ⟨27, (.seq (.ops [(qS 4 (.mv (ic 0)))]) (.seq (.ops [(qS 6 (.mv (.tmp 1))), (qS 7 (.mv (.tmp 0))), (qS 8 (.len (.tmp 7))), (qS 9 (.pu (.n (.ar .sub)) [(.tmp 6), (.tmp 8)])), (qS 1 (.mv (.tmp 9)))]) (.seq (.seq (.ops [(qS 10 (.mv (.tmp 1))), (qS 11 (.pu (.n (.ar .lss)) [(.tmp 10), (ic 0)]))]) (.cond (.tmp 11) (.seq (.ops [(qS 4 (.mv (ic (-1))))]) .ret) .skip)) (.seq (.seq (.ops [(qS 5 (.mv (ic 0)))]) (.block 0 (.loop (.seq (.seq (.ops [(qS 12 (.mv (.tmp 5))), (qS 13 (.mv (.tmp 0))), (qS 14 (.len (.tmp 13))), (qS 15 (.pu (.n (.ar .lss)) [(.tmp 12), (.tmp 14)]))]) (.cond (.tmp 15) .skip (.exit 0))) (.seq (.block 1 (.seq (.ops [(qS 18 (.mv (.tmp 0))), (qS 19 (.mv (.tmp 5))), (qS 20 (.idxS 5 (.tmp 18) (.tmp 19))), (qS 21 (.load 5 true (.tmp 20))), (qS 22 (.mv (.tmp 1))), (qS 23 (.call (2 * f_laws_szMoveOp) [(.tmp 21), (.tmp 22)])), (qS 1 (.mv (.tmp 23)))]) (.seq (.ops [(qS 24 (.mv (.tmp 1))), (qS 25 (.pu (.n (.ar .lss)) [(.tmp 24), (ic 0)]))]) (.cond (.tmp 25) (.seq (.ops [(qS 4 (.mv (ic (-1))))]) .ret) .skip)))) (.ops [(qS 16 (.mv (.tmp 5))), (qS 17 (.pu (.n (.ar .add)) [(.tmp 16), (ic 1)])), (qS 5 (.mv (.tmp 17)))])))))) (.seq (.ops [(qS 26 (.mv (.tmp 1))), (qS 4 (.mv (.tmp 26)))]) .ret))))), [(.tmp 4)]⟩
set_option maxHeartbeats 10000000 in
theorem d_laws_szMoveOpS {P : Program} {env : Env} {f_laws_szMoveOp : Nat}  (ep_laws_szMoveOp : env (2 * f_laws_szMoveOp) = pureFn true (FA fun a : TMove × Int => p_laws_szMoveOp a.1 a.2)) (x0 : List TMove) (x1 : Int) {b : Int} (hp : p_laws_szMoveOpS x0 x1 = some b) : R P env (c_laws_szMoveOpS f_laws_szMoveOp) ((encA (x0, x1)).map ofI) [] (Tells true b) := by
  refine R_of (by simp [c_laws_szMoveOpS, encA]) ?_
  have E := ep_laws_szMoveOp
  unfold c_laws_szMoveOpS
  unfold p_laws_szMoveOpS at hp
  by_cases hb0 : (decide (w64 (x1 - (x0.length : Int)) < 0)) = true
  · rw [if_t hb0] at hp
    have hp := Option.some.inj hp
    subst hp
    simp (maxSteps := 2000000) (disch := first|omega|(simp only[ls];first|done|omega)) only [E, hb0, gm]
  · replace hb0 := eq_false_of_ne_true hb0
    rw [if_f hb0] at hp
    obtain ⟨ee0, hee0, hp⟩ := bind_eq hp
    simp (maxSteps := 2000000) (disch := first|omega|(simp only[ls];first|done|omega)) only [E, hb0, gm]
    refine W_loopP 0 (fun s t h => match s with | (s1, s2) => t 0 = .i (.sl 5 (x0.map enc)) ∧ t 1 = .i (.s (.int .i64 s1)) ∧ t 5 = .i (.s (.int .i64 s2))) (RK [.tmp 4] (Tells true)) ?_ hee0 ?_ ?_
    · rintro ⟨s1, s2⟩ ee tt0 hh0 ⟨ftt0_0, ftt0_1, ftt0_2⟩ hp
      rw [p_laws_szMoveOpS_l0] at hp
      by_cases hb3 : (decide (s2 < (x0.length : Int))) = true
      · rw [if_t hb3] at hp
        obtain ⟨v4, hv4, hp⟩ := bind_eq hp
        obtain ⟨v5, hv5, hp⟩ := bind_eq hp
        by_cases hb6 : (decide (v5 < 0)) = true
        · rw [if_t hb6] at hp
          have hp := Option.some.inj hp
          subst hp
          simp (maxSteps := 2000000) (disch := first|omega|(simp only[ls];first|done|omega)) only [E, hb0, ftt0_0, ftt0_1, ftt0_2, hb3, hv4, hv5, hb6, gm]
        · replace hb6 := eq_false_of_ne_true hb6
          rw [if_f hb6] at hp
          have hp := Option.some.inj hp
          subst hp
          simp (maxSteps := 2000000) (disch := first|omega|(simp only[ls];first|done|omega)) only [E, hb0, ftt0_0, ftt0_1, ftt0_2, hb3, hv4, hv5, hb6, gm] <;> omega
      · replace hb3 := eq_false_of_ne_true hb3
        rw [if_f hb3] at hp
        have hp := Option.some.inj hp
        subst hp
        simp (maxSteps := 2000000) (disch := first|omega|(simp only[ls];first|done|omega)) only [E, hb0, ftt0_0, ftt0_1, ftt0_2, hb3, gm] <;> omega
    · simp (maxSteps := 2000000) (disch := first|omega|(simp only[ls];first|done|omega)) only [E, hb0, gm] <;> omega
    · intro x tt1 hh1 hx
      rcases ee0 with ⟨o7, o8⟩ | r
      · obtain ⟨rfl, ftt1_0, ftt1_1, ftt1_2⟩ := hx
        dsimp only at hp
        have hp := Option.some.inj hp
        subst hp
        simp (maxSteps := 2000000) (disch := first|omega|(simp only[ls];first|done|omega)) only [E, hb0, ftt1_0, ftt1_1, ftt1_2, gm]
      · obtain ⟨rfl, hx⟩ := hx
        dsimp only at hp
        cases hp
        simp only [seqK_ret, blockK_ret, retK_RK (K := Tells true), hx, and_self, true_and]

noncomputable def p_laws_toStamp (x0 : TStamp) : Option TStamp :=
  some x0
def c_laws_toStamp : AFn := ⟨11, (.seq (.ops [(qS 1 (.box (.tmp 0))), (qS 2 (.allocV [(0, false), (0, false)] [(.int .i64 0), (.int .i64 0)]))]) (.seq (.ops [(qS 3 (.allocV [(0, false), (0, false)] [(.int .i64 0), (.int .i64 0)]))]) (.seq (.ops [(qS 4 (.fieldA 0 (.tmp 1))), (qS 5 (.load 1 false (.tmp 4))), (qS 6 (.fieldA 0 (.tmp 3))), ⟨.none, (.storeV [(0, false)] 1 (.tmp 6) (.tmp 5)), .none, [], .none⟩]) (.seq (.ops [(qS 7 (.fieldA 1 (.tmp 1))), (qS 8 (.load 1 false (.tmp 7))), (qS 9 (.fieldA 1 (.tmp 3))), ⟨.none, (.storeV [(0, false)] 1 (.tmp 9) (.tmp 8)), .none, [], .none⟩]) (.seq (.ops [(qS 10 (.load 2 true (.tmp 3))), ⟨.none, (.storeV [(0, false), (0, false)] 2 (.tmp 2) (.tmp 10)), .none, [], .none⟩]) .ret))))), [(.cell 2 2 true)]⟩
set_option maxHeartbeats 10000000 in
theorem d_laws_toStamp {P : Program} {env : Env}  (x0 : TStamp) {b : TStamp} (hp : p_laws_toStamp x0 = some b) : R P env (c_laws_toStamp) ((encA (x0)).map ofI) [] (Tells true b) := by
  refine R_of (by simp [c_laws_toStamp, encA]) ?_
  unfold c_laws_toStamp
  unfold p_laws_toStamp at hp
  have hp := Option.some.inj hp
  subst hp
  simp (maxSteps := 2000000) (disch := first|omega|(simp only[ls];first|done|omega)) only [gm]

noncomputable def p_laws_toMoveOp (x0 : TMove) : Option TMove :=
  (p_laws_toStamp x0.id).bind fun v0 =>
  some (TMove.mk v0 x0.node x0.parent x0.name)
def c_laws_toMoveOp (f_laws_toStamp : Nat) : AFn := ⟨18, (.seq (.ops [(qS 1 (.box (.tmp 0))), (qS 2 (.allocV [(0, false), (0, false), (0, false), (0, false), (0, false)] [(.int .i64 0), (.int .i64 0), (.int .i64 0), (.int .i64 0), (.string ⟨#[]⟩)]))]) (.seq (.ops [(qS 3 (.allocV [(0, false), (0, false), (0, false), (0, false), (0, false)] [(.int .i64 0), (.int .i64 0), (.int .i64 0), (.int .i64 0), (.string ⟨#[]⟩)]))]) (.seq (.ops [(qS 4 (.fieldA 0 (.tmp 1))), (qS 5 (.load 2 true (.tmp 4))), (qS 6 (.call (2 * f_laws_toStamp) [(.tmp 5)])), (qS 7 (.fieldA 0 (.tmp 3))), ⟨.none, (.storeV [(0, false), (0, false)] 2 (.tmp 7) (.tmp 6)), .none, [], .none⟩]) (.seq (.ops [(qS 8 (.fieldA 2 (.tmp 1))), (qS 9 (.load 1 false (.tmp 8))), (qS 10 (.fieldA 2 (.tmp 3))), ⟨.none, (.storeV [(0, false)] 1 (.tmp 10) (.tmp 9)), .none, [], .none⟩]) (.seq (.ops [(qS 11 (.fieldA 3 (.tmp 1))), (qS 12 (.load 1 false (.tmp 11))), (qS 13 (.fieldA 3 (.tmp 3))), ⟨.none, (.storeV [(0, false)] 1 (.tmp 13) (.tmp 12)), .none, [], .none⟩]) (.seq (.ops [(qS 14 (.fieldA 4 (.tmp 1))), (qS 15 (.load 1 false (.tmp 14))), (qS 16 (.fieldA 4 (.tmp 3))), ⟨.none, (.storeV [(0, false)] 1 (.tmp 16) (.tmp 15)), .none, [], .none⟩]) (.seq (.ops [(qS 17 (.load 5 true (.tmp 3))), ⟨.none, (.storeV [(0, false), (0, false), (0, false), (0, false), (0, false)] 5 (.tmp 2) (.tmp 17)), .none, [], .none⟩]) .ret))))))), [(.cell 2 5 true)]⟩
set_option maxHeartbeats 10000000 in
theorem d_laws_toMoveOp {P : Program} {env : Env} {f_laws_toStamp : Nat}  (ep_laws_toStamp : env (2 * f_laws_toStamp) = pureFn true (FA fun a : TStamp => p_laws_toStamp a)) (x0 : TMove) {b : TMove} (hp : p_laws_toMoveOp x0 = some b) : R P env (c_laws_toMoveOp f_laws_toStamp) ((encA (x0)).map ofI) [] (Tells true b) := by
  refine R_of (by simp [c_laws_toMoveOp, encA]) ?_
  have E := ep_laws_toStamp
  unfold c_laws_toMoveOp
  unfold p_laws_toMoveOp at hp
  obtain ⟨v0, hv0, hp⟩ := bind_eq hp
  have hp := Option.some.inj hp
  subst hp
  simp (maxSteps := 2000000) (disch := first|omega|(simp only[ls];first|done|omega)) only [E, hv0, gm]

noncomputable def p_laws_toMoveOpS_l0 (x0 : List TMove) : List TMove × Int → Option (Lp (List TMove × Int) (List TMove))
  | (s1, s2) =>
    if (decide (s2 < (x0.length : Int))) = true then
      (get? x0 s2).bind fun v4 =>
      (p_laws_toMoveOp v4).bind fun v5 =>
      (get? s1 s2).bind fun v6 =>
      some (.go ((s1.set s2.toNat v5), w64 (s2 + 1)))
    else
      some (.out (s1, s2))
noncomputable def p_laws_toMoveOpS (x0 : List TMove) : Option (List TMove) :=
  ((mkL (x0.length : Int) 48 (x0.length : Int) (TMove.mk (TStamp.mk 0 0) 0 0 (ByteArray.mk #[])) : Option (List TMove))).bind fun v0 =>
  (loopP (p_laws_toMoveOpS_l0 x0) (v0, 0)).bind fun ee0 => match ee0 with
  | .ret r => some r
  | .out (o8, o9) =>
    some o8
def c_laws_toMoveOpS (f_laws_toMoveOp : Nat) : AFn := ⟨23, (.seq (.ops [(qS 2 (.vnil 5 true))]) (.seq (.ops [(qS 5 (.mv (.tmp 0))), (qS 6 (.len (.tmp 5))), (qS 7 (.makeSl 5 true 48 [(.int .i64 0), (.int .i64 0), (.int .i64 0), (.int .i64 0), (.string ⟨#[]⟩)] (.tmp 6) (.tmp 6))), (qS 3 (.mv (.tmp 7)))]) (.seq (.seq (.ops [(qS 4 (.mv (ic 0)))]) (.block 0 (.loop (.seq (.seq (.ops [(qS 8 (.mv (.tmp 4))), (qS 9 (.mv (.tmp 0))), (qS 10 (.len (.tmp 9))), (qS 11 (.pu (.n (.ar .lss)) [(.tmp 8), (.tmp 10)]))]) (.cond (.tmp 11) .skip (.exit 0))) (.seq (.block 1 (.ops [(qS 14 (.mv (.tmp 3))), (qS 15 (.mv (.tmp 4))), (qS 16 (.mv (.tmp 0))), (qS 17 (.mv (.tmp 4))), (qS 18 (.idxS 5 (.tmp 16) (.tmp 17))), (qS 19 (.load 5 true (.tmp 18))), (qS 20 (.call (2 * f_laws_toMoveOp) [(.tmp 19)])), (qS 21 (.idxS 5 (.tmp 14) (.tmp 15))), ⟨.none, (.storeV [(0, false), (0, false), (0, false), (0, false), (0, false)] 5 (.tmp 21) (.tmp 20)), .none, [], .none⟩])) (.ops [(qS 12 (.mv (.tmp 4))), (qS 13 (.pu (.n (.ar .add)) [(.tmp 12), (ic 1)])), (qS 4 (.mv (.tmp 13)))])))))) (.seq (.ops [(qS 22 (.mv (.tmp 3))), (qS 2 (.mv (.tmp 22)))]) .ret)))), [(.tmp 2)]⟩
set_option maxHeartbeats 10000000 in
theorem d_laws_toMoveOpS {P : Program} {env : Env} {f_laws_toMoveOp : Nat}  (ep_laws_toMoveOp : env (2 * f_laws_toMoveOp) = pureFn true (FA fun a : TMove => p_laws_toMoveOp a)) (x0 : List TMove) {b : List TMove} (hp : p_laws_toMoveOpS x0 = some b) : R P env (c_laws_toMoveOpS f_laws_toMoveOp) ((encA (x0)).map ofI) [] (Tells true b) := by
  refine R_of (by simp [c_laws_toMoveOpS, encA]) ?_
  have E := ep_laws_toMoveOp
  unfold c_laws_toMoveOpS
  unfold p_laws_toMoveOpS at hp
  obtain ⟨v0, hv0, hp⟩ := bind_eq hp
  obtain ⟨kv0, qv0, lv0⟩ := mkL_some hv0
  have rv0 : (List.replicate x0.length [.i (.s (.int .i64 0)), .i (.s (.int .i64 0)), .i (.s (.int .i64 0)), .i (.s (.int .i64 0)), .i (.s (.string (ByteArray.mk #[])))]).flatten = rows v0 := by rw [qv0]; exact rows_rep (x := ((TMove.mk (TStamp.mk 0 0) 0 0 (ByteArray.mk #[])) : TMove)) rfl
  have mv0 : x0.length = v0.length := by rw [lv0]; simp
  obtain ⟨ee0, hee0, hp⟩ := bind_eq hp
  simp (maxSteps := 2000000) (disch := first|omega|(simp only[ls];first|done|omega)) only [E, hv0, rv0, kv0.1, kv0.2.1, kv0.2.2.1, kv0.2.2.2, gm]
  refine W_loopP 0 (fun s t h => match s with | (s1, s2) => t 0 = .i (.sl 5 (x0.map enc)) ∧ t 3 = .hsl 1 (x0.length * 5) 0 5 true x0.length ∧ t 4 = .i (.s (.int .i64 s2)) ∧ getCells h 1 (x0.length * 5) = some (rows (s1 : List TMove)) ∧ 1 < h.length) (RK [.tmp 2] (Tells true)) ?_ hee0 ?_ ?_
  · rintro ⟨s1, s2⟩ ee tt0 hh0 ⟨ftt0_0, ftt0_1, ftt0_2, ftt0_3, ftt0_4⟩ hp
    have ztt0_3 := len_rows ftt0_3
    simp only [zs] at ztt0_3
    rw [p_laws_toMoveOpS_l0] at hp
    by_cases hb3 : (decide (s2 < (x0.length : Int))) = true
    · rw [if_t hb3] at hp
      obtain ⟨v4, hv4, hp⟩ := bind_eq hp
      obtain ⟨v5, hv5, hp⟩ := bind_eq hp
      obtain ⟨v6, hv6, hp⟩ := bind_eq hp
      have gv6 := get_some hv6
      have hs7 : List.take (s2.toNat * 5) (rows s1) ++ .i (.s (.int .i64 v5.id.time)) :: .i (.s (.int .i64 v5.id.actor)) :: .i (.s (.int .i64 v5.node)) :: .i (.s (.int .i64 v5.parent)) :: .i (.s (.string v5.name)) :: List.drop (s2.toNat * 5 + 5) (rows s1) = rows (s1.set s2.toNat v5) := by simpa [splice, zs, cellsV, I.cells, enc_TMove] using rows_set_off (y := v5) (ys := [.i (.s (.int .i64 v5.id.time)), .i (.s (.int .i64 v5.id.actor)), .i (.s (.int .i64 v5.node)), .i (.s (.int .i64 v5.parent)), .i (.s (.string v5.name))]) (k := 0) gv6.2.2 (Nat.le_of_ble_eq_true rfl) (by rfl)
      have hp := Option.some.inj hp
      subst hp
      simp (maxSteps := 2000000) (disch := first|omega|(simp only[ls];first|done|omega)) only [E, hv0, rv0, kv0.1, kv0.2.1, kv0.2.2.1, kv0.2.2.2, ftt0_0, ftt0_1, ftt0_2, ftt0_3, ftt0_4, hb3, hv4, hv5, hv6, (gv6).1, (gv6).2.1, hs7, gm] <;> omega
    · replace hb3 := eq_false_of_ne_true hb3
      rw [if_f hb3] at hp
      have hp := Option.some.inj hp
      subst hp
      simp (maxSteps := 2000000) (disch := first|omega|(simp only[ls];first|done|omega)) only [E, hv0, rv0, kv0.1, kv0.2.1, kv0.2.2.1, kv0.2.2.2, ftt0_0, ftt0_1, ftt0_2, ftt0_3, ftt0_4, hb3, gm] <;> omega
  · simp (maxSteps := 2000000) (disch := first|omega|(simp only[ls];first|done|omega)) only [E, hv0, rv0, kv0.1, kv0.2.1, kv0.2.2.1, kv0.2.2.2, gm] <;> omega
  · intro x tt1 hh1 hx
    rcases ee0 with ⟨o8, o9⟩ | r
    · obtain ⟨rfl, ftt1_0, ftt1_1, ftt1_2, ftt1_3, ftt1_4⟩ := hx
      have ztt1_3 := len_rows ftt1_3
      simp only [zs] at ztt1_3
      dsimp only at hp
      have hp := Option.some.inj hp
      subst hp
      simp (maxSteps := 2000000) (disch := first|omega|(simp only[ls];first|done|omega)) only [E, hv0, rv0, kv0.1, kv0.2.1, kv0.2.2.1, kv0.2.2.2, ftt1_0, ftt1_1, ftt1_2, ftt1_3, ftt1_4, gm]
    · obtain ⟨rfl, hx⟩ := hx
      dsimp only at hp
      cases hp
      simp only [seqK_ret, blockK_ret, retK_RK (K := Tells true), hx, and_self, true_and]

def o_laws_toMoveOpS (b : List TMove) (v : V) (h : Heap) : Prop := ∃ n0 : Nat, v = .hsl n0 (b.length * 5) 0 5 true b.length ∧ getCells h n0 (b.length * 5) = some (rows b)
def oo_laws_toMoveOpS (b : List TMove) (h : Heap) (v : V) (h2 : Heap) : Prop := Keep [] h h2 ∧ ∃ n0 : Nat, v = .hsl n0 (b.length * 5) 0 5 true b.length ∧ n0 < h2.length ∧ h.length ≤ n0 ∧ getCells h2 n0 (b.length * 5) = some (rows b)
def k_laws_toMoveOpS (F : Fun) : Prop := ∀ (x0 : List TMove) (b : List TMove), p_laws_toMoveOpS x0 = some b → ∀ (h : Heap) (args : List V), snapA 9 false h args = some (encA (x0)) → ∃ p, F none args h = some p ∧ oo_laws_toMoveOpS b h p.1 p.2
set_option maxHeartbeats 10000000 in
theorem w_laws_toMoveOpS {P : Program} {env : Env} {f_laws_toMoveOp : Nat}  (ep_laws_toMoveOp : env (2 * f_laws_toMoveOp) = pureFn true (FA fun a : TMove => p_laws_toMoveOp a)) (x0 : List TMove) {b : List TMove} (hp : p_laws_toMoveOpS x0 = some b) : R P env (c_laws_toMoveOpS f_laws_toMoveOp) ((encA (x0)).map ofI) [] (o_laws_toMoveOpS b) := by
  refine R_of (by simp [c_laws_toMoveOpS, encA]) ?_
  have E := ep_laws_toMoveOp
  unfold c_laws_toMoveOpS
  unfold p_laws_toMoveOpS at hp
  obtain ⟨v0, hv0, hp⟩ := bind_eq hp
  obtain ⟨kv0, qv0, lv0⟩ := mkL_some hv0
  have rv0 : (List.replicate x0.length [.i (.s (.int .i64 0)), .i (.s (.int .i64 0)), .i (.s (.int .i64 0)), .i (.s (.int .i64 0)), .i (.s (.string (ByteArray.mk #[])))]).flatten = rows v0 := by rw [qv0]; exact rows_rep (x := ((TMove.mk (TStamp.mk 0 0) 0 0 (ByteArray.mk #[])) : TMove)) rfl
  have mv0 : x0.length = v0.length := by rw [lv0]; simp
  obtain ⟨ee0, hee0, hp⟩ := bind_eq hp
  simp (maxSteps := 2000000) (disch := first|omega|(simp only[ls];first|done|omega)) only [E, hv0, rv0, kv0.1, kv0.2.1, kv0.2.2.1, kv0.2.2.2, gm]
  refine W_loopP 0 (fun s t h => match s with | (s1, s2) => t 0 = .i (.sl 5 (x0.map enc)) ∧ t 3 = .hsl 1 (x0.length * 5) 0 5 true x0.length ∧ t 4 = .i (.s (.int .i64 s2)) ∧ getCells h 1 (x0.length * 5) = some (rows (s1 : List TMove)) ∧ 1 < h.length) (RK [.tmp 2] (o_laws_toMoveOpS)) ?_ hee0 ?_ ?_
  · rintro ⟨s1, s2⟩ ee tt0 hh0 ⟨ftt0_0, ftt0_1, ftt0_2, ftt0_3, ftt0_4⟩ hp
    have ztt0_3 := len_rows ftt0_3
    simp only [zs] at ztt0_3
    rw [p_laws_toMoveOpS_l0] at hp
    by_cases hb3 : (decide (s2 < (x0.length : Int))) = true
    · rw [if_t hb3] at hp
      obtain ⟨v4, hv4, hp⟩ := bind_eq hp
      obtain ⟨v5, hv5, hp⟩ := bind_eq hp
      obtain ⟨v6, hv6, hp⟩ := bind_eq hp
      have gv6 := get_some hv6
      have hs7 : List.take (s2.toNat * 5) (rows s1) ++ .i (.s (.int .i64 v5.id.time)) :: .i (.s (.int .i64 v5.id.actor)) :: .i (.s (.int .i64 v5.node)) :: .i (.s (.int .i64 v5.parent)) :: .i (.s (.string v5.name)) :: List.drop (s2.toNat * 5 + 5) (rows s1) = rows (s1.set s2.toNat v5) := by simpa [splice, zs, cellsV, I.cells, enc_TMove] using rows_set_off (y := v5) (ys := [.i (.s (.int .i64 v5.id.time)), .i (.s (.int .i64 v5.id.actor)), .i (.s (.int .i64 v5.node)), .i (.s (.int .i64 v5.parent)), .i (.s (.string v5.name))]) (k := 0) gv6.2.2 (Nat.le_of_ble_eq_true rfl) (by rfl)
      have hp := Option.some.inj hp
      subst hp
      simp (maxSteps := 2000000) (disch := first|omega|(simp only[ls];first|done|omega)) only [E, hv0, rv0, kv0.1, kv0.2.1, kv0.2.2.1, kv0.2.2.2, ftt0_0, ftt0_1, ftt0_2, ftt0_3, ftt0_4, hb3, hv4, hv5, hv6, (gv6).1, (gv6).2.1, hs7, gm] <;> omega
    · replace hb3 := eq_false_of_ne_true hb3
      rw [if_f hb3] at hp
      have hp := Option.some.inj hp
      subst hp
      simp (maxSteps := 2000000) (disch := first|omega|(simp only[ls];first|done|omega)) only [E, hv0, rv0, kv0.1, kv0.2.1, kv0.2.2.1, kv0.2.2.2, ftt0_0, ftt0_1, ftt0_2, ftt0_3, ftt0_4, hb3, gm] <;> omega
  · simp (maxSteps := 2000000) (disch := first|omega|(simp only[ls];first|done|omega)) only [E, hv0, rv0, kv0.1, kv0.2.1, kv0.2.2.1, kv0.2.2.2, gm] <;> omega
  · intro x tt1 hh1 hx
    rcases ee0 with ⟨o8, o9⟩ | r
    · obtain ⟨rfl, ftt1_0, ftt1_1, ftt1_2, ftt1_3, ftt1_4⟩ := hx
      have ztt1_3 := len_rows ftt1_3
      simp only [zs] at ztt1_3
      dsimp only at hp
      have hp := Option.some.inj hp
      subst hp
      simp (maxSteps := 2000000) (disch := first|omega|(simp only[ls];first|done|omega)) only [E, hv0, rv0, kv0.1, kv0.2.1, kv0.2.2.1, kv0.2.2.2, ftt1_0, ftt1_1, ftt1_2, ftt1_3, ftt1_4, gm]
      refine ⟨1, ?_⟩
      simp (maxSteps := 2000000) (disch := first|omega|(simp only[ls];first|done|omega)) only [E, hv0, rv0, kv0.1, kv0.2.1, kv0.2.2.1, kv0.2.2.2, ftt1_0, ftt1_1, ftt1_2, ftt1_3, ftt1_4, o_laws_toMoveOpS, (show (o8).length = x0.length from by first | omega | rfl | (simp; done) | (simp; omega)), gm] <;> omega
    · obtain ⟨rfl, hx⟩ := hx
      dsimp only at hp
      cases hp
      simp only [seqK_ret, blockK_ret, retK_RK (K := o_laws_toMoveOpS), hx, and_self, true_and]
theorem ko_laws_toMoveOpS {P : Program} {env : Env} {f_laws_toMoveOp : Nat}  (ep_laws_toMoveOp : env (2 * f_laws_toMoveOp) = pureFn true (FA fun a : TMove => p_laws_toMoveOp a)) : k_laws_toMoveOpS (ownFn P env (c_laws_toMoveOpS f_laws_toMoveOp)) := by
  intro x0 b hp h args has
  obtain ⟨⟨v, H2⟩, hr, n0, rfl, wn0⟩ := w_laws_toMoveOpS ep_laws_toMoveOp x0 hp
  exact ⟨_, own_call has hr rfl, keep_moved, n0 + h.length, rfl, (moved_lt wn0).2, (moved_lt wn0).1, moved_rows wn0⟩

noncomputable def p_laws_eqStamp (x0 : TStamp) (x1 : TStamp) : Option Bool :=
  if (decide (x0.time = x1.time)) = true then
    if (decide (x0.actor = x1.actor)) = true then
      some true
    else
      some false
  else
    some false
def c_laws_eqStamp : AFn := ⟨15, (.seq (.ops [(qS 2 (.box (.tmp 0))), (qS 3 (.box (.tmp 1))), (qS 4 (.mv (.const (.bool false))))]) (.seq (.seq (.ops [(qS 5 (.fieldA 0 (.tmp 2))), (qS 6 (.load 1 false (.tmp 5))), (qS 7 (.fieldA 0 (.tmp 3))), (qS 8 (.load 1 false (.tmp 7))), (qS 9 (.pu (.n (.ar .neq)) [(.tmp 6), (.tmp 8)]))]) (.cond (.tmp 9) (.seq (.ops [(qS 4 (.mv (.const (.bool false))))]) .ret) .skip)) (.seq (.seq (.ops [(qS 10 (.fieldA 1 (.tmp 2))), (qS 11 (.load 1 false (.tmp 10))), (qS 12 (.fieldA 1 (.tmp 3))), (qS 13 (.load 1 false (.tmp 12))), (qS 14 (.pu (.n (.ar .neq)) [(.tmp 11), (.tmp 13)]))]) (.cond (.tmp 14) (.seq (.ops [(qS 4 (.mv (.const (.bool false))))]) .ret) .skip)) (.seq (.ops [(qS 4 (.mv (.const (.bool true))))]) .ret)))), [(.tmp 4)]⟩
set_option maxHeartbeats 10000000 in
theorem d_laws_eqStamp {P : Program} {env : Env}  (x0 : TStamp) (x1 : TStamp) {b : Bool} (hp : p_laws_eqStamp x0 x1 = some b) : R P env (c_laws_eqStamp) ((encA (x0, x1)).map ofI) [] (Tells true b) := by
  refine R_of (by simp [c_laws_eqStamp, encA]) ?_
  unfold c_laws_eqStamp
  unfold p_laws_eqStamp at hp
  by_cases hb0 : (decide (x0.time = x1.time)) = true
  · rw [if_t hb0] at hp
    by_cases hb1 : (decide (x0.actor = x1.actor)) = true
    · rw [if_t hb1] at hp
      have hp := Option.some.inj hp
      subst hp
      simp (maxSteps := 2000000) (disch := first|omega|(simp only[ls];first|done|omega)) only [hb0, hb1, gm]
    · replace hb1 := eq_false_of_ne_true hb1
      rw [if_f hb1] at hp
      have hp := Option.some.inj hp
      subst hp
      simp (maxSteps := 2000000) (disch := first|omega|(simp only[ls];first|done|omega)) only [hb0, hb1, gm]
  · replace hb0 := eq_false_of_ne_true hb0
    rw [if_f hb0] at hp
    have hp := Option.some.inj hp
    subst hp
    simp (maxSteps := 2000000) (disch := first|omega|(simp only[ls];first|done|omega)) only [hb0, gm]

noncomputable def p_laws_eqMoveOp (x0 : TMove) (x1 : TMove) : Option Bool :=
  (p_laws_eqStamp x0.id x1.id).bind fun v0 =>
  if (v0) = true then
    if (decide (x0.node = x1.node)) = true then
      if (decide (x0.parent = x1.parent)) = true then
        if (decide (x0.name = x1.name)) = true then
          some true
        else
          some false
      else
        some false
    else
      some false
  else
    some false
def c_laws_eqMoveOp (f_laws_eqStamp : Nat) : AFn := ⟨26, (.seq (.ops [(qS 2 (.box (.tmp 0))), (qS 3 (.box (.tmp 1))), (qS 4 (.mv (.const (.bool false))))]) (.seq (.seq (.ops [(qS 5 (.fieldA 0 (.tmp 2))), (qS 6 (.load 2 true (.tmp 5))), (qS 7 (.fieldA 0 (.tmp 3))), (qS 8 (.load 2 true (.tmp 7))), (qS 9 (.call (2 * f_laws_eqStamp) [(.tmp 6), (.tmp 8)])), (qS 10 (.pu (.n (.un .not)) [(.tmp 9)]))]) (.cond (.tmp 10) (.seq (.ops [(qS 4 (.mv (.const (.bool false))))]) .ret) .skip)) (.seq (.seq (.ops [(qS 11 (.fieldA 2 (.tmp 2))), (qS 12 (.load 1 false (.tmp 11))), (qS 13 (.fieldA 2 (.tmp 3))), (qS 14 (.load 1 false (.tmp 13))), (qS 15 (.pu (.n (.ar .neq)) [(.tmp 12), (.tmp 14)]))]) (.cond (.tmp 15) (.seq (.ops [(qS 4 (.mv (.const (.bool false))))]) .ret) .skip)) (.seq (.seq (.ops [(qS 16 (.fieldA 3 (.tmp 2))), (qS 17 (.load 1 false (.tmp 16))), (qS 18 (.fieldA 3 (.tmp 3))), (qS 19 (.load 1 false (.tmp 18))), (qS 20 (.pu (.n (.ar .neq)) [(.tmp 17), (.tmp 19)]))]) (.cond (.tmp 20) (.seq (.ops [(qS 4 (.mv (.const (.bool false))))]) .ret) .skip)) (.seq (.seq (.ops [(qS 21 (.fieldA 4 (.tmp 2))), (qS 22 (.load 1 false (.tmp 21))), (qS 23 (.fieldA 4 (.tmp 3))), (qS 24 (.load 1 false (.tmp 23))), (qS 25 (.pu (.n (.ar .neq)) [(.tmp 22), (.tmp 24)]))]) (.cond (.tmp 25) (.seq (.ops [(qS 4 (.mv (.const (.bool false))))]) .ret) .skip)) (.seq (.ops [(qS 4 (.mv (.const (.bool true))))]) .ret)))))), [(.tmp 4)]⟩
set_option maxHeartbeats 10000000 in
theorem d_laws_eqMoveOp {P : Program} {env : Env} {f_laws_eqStamp : Nat}  (ep_laws_eqStamp : env (2 * f_laws_eqStamp) = pureFn true (FA fun a : TStamp × TStamp => p_laws_eqStamp a.1 a.2)) (x0 : TMove) (x1 : TMove) {b : Bool} (hp : p_laws_eqMoveOp x0 x1 = some b) : R P env (c_laws_eqMoveOp f_laws_eqStamp) ((encA (x0, x1)).map ofI) [] (Tells true b) := by
  refine R_of (by simp [c_laws_eqMoveOp, encA]) ?_
  have E := ep_laws_eqStamp
  unfold c_laws_eqMoveOp
  unfold p_laws_eqMoveOp at hp
  obtain ⟨v0, hv0, hp⟩ := bind_eq hp
  by_cases hb1 : (v0) = true
  · rw [if_t hb1] at hp
    by_cases hb2 : (decide (x0.node = x1.node)) = true
    · rw [if_t hb2] at hp
      by_cases hb3 : (decide (x0.parent = x1.parent)) = true
      · rw [if_t hb3] at hp
        by_cases hb4 : (decide (x0.name = x1.name)) = true
        · rw [if_t hb4] at hp
          have hp := Option.some.inj hp
          subst hp
          simp (maxSteps := 2000000) (disch := first|omega|(simp only[ls];first|done|omega)) only [E, hv0, hb1, hb2, hb3, hb4, gm]
        · replace hb4 := eq_false_of_ne_true hb4
          rw [if_f hb4] at hp
          have hp := Option.some.inj hp
          subst hp
          simp (maxSteps := 2000000) (disch := first|omega|(simp only[ls];first|done|omega)) only [E, hv0, hb1, hb2, hb3, hb4, gm]
      · replace hb3 := eq_false_of_ne_true hb3
        rw [if_f hb3] at hp
        have hp := Option.some.inj hp
        subst hp
        simp (maxSteps := 2000000) (disch := first|omega|(simp only[ls];first|done|omega)) only [E, hv0, hb1, hb2, hb3, gm]
    · replace hb2 := eq_false_of_ne_true hb2
      rw [if_f hb2] at hp
      have hp := Option.some.inj hp
      subst hp
      simp (maxSteps := 2000000) (disch := first|omega|(simp only[ls];first|done|omega)) only [E, hv0, hb1, hb2, gm]
  · replace hb1 := eq_false_of_ne_true hb1
    rw [if_f hb1] at hp
    have hp := Option.some.inj hp
    subst hp
    simp (maxSteps := 2000000) (disch := first|omega|(simp only[ls];first|done|omega)) only [E, hv0, hb1, gm]

noncomputable def p_laws_eqMoveOpS_l0 (x0 : List TMove) (x1 : List TMove) : Int → Option (Lp (Int) Bool)
  | s1 =>
    if (decide (s1 < (x0.length : Int))) = true then
      (get? x0 s1).bind fun v3 =>
      (get? x1 s1).bind fun v4 =>
      (p_laws_eqMoveOp v3 v4).bind fun v5 =>
      if (v5) = true then
        some (.go (w64 (s1 + 1)))
      else
        some (.ret false)
    else
      some (.out s1)
noncomputable def p_laws_eqMoveOpS (x0 : List TMove) (x1 : List TMove) : Option Bool :=
  if (decide ((x0.length : Int) = (x1.length : Int))) = true then
    (loopP (p_laws_eqMoveOpS_l0 x0 x1) 0).bind fun ee0 => match ee0 with
    | .ret r => some r
    | .out o7 =>
      some true
  else
    some false
def c_laws_eqMoveOpS (f_laws_eqMoveOp : Nat) : AFn := ⟨27, (.seq (.ops [(qS 4 (.mv (.const (.bool false))))]) (.seq (.seq (.ops [(qS 6 (.mv (.tmp 0))), (qS 7 (.len (.tmp 6))), (qS 8 (.mv (.tmp 1))), (qS 9 (.len (.tmp 8))), (qS 10 (.pu (.n (.ar .neq)) [(.tmp 7), (.tmp 9)]))]) (.cond (.tmp 10) (.seq (.ops [(qS 4 (.mv (.const (.bool false))))]) .ret) .skip)) (.seq (.seq (.ops [(qS 5 (.mv (ic 0)))]) (.block 0 (.loop (.seq (.seq (.ops [(qS 11 (.mv (.tmp 5))), (qS 12 (.mv (.tmp 0))), (qS 13 (.len (.tmp 12))), (qS 14 (.pu (.n (.ar .lss)) [(.tmp 11), (.tmp 13)]))]) (.cond (.tmp 14) .skip (.exit 0))) (.seq (.block 1 (.seq (.ops [(qS 17 (.mv (.tmp 0))), (qS 18 (.mv (.tmp 5))), (qS 19 (.idxS 5 (.tmp 17) (.tmp 18))), (qS 20 (.load 5 true (.tmp 19))), (qS 21 (.mv (.tmp 1))), (qS 22 (.mv (.tmp 5))), (qS 23 (.idxS 5 (.tmp 21) (.tmp 22))), (qS 24 (.load 5 true (.tmp 23))), (qS 25 (.call (2 * f_laws_eqMoveOp) [(.tmp 20), (.tmp 24)])), (qS 26 (.pu (.n (.un .not)) [(.tmp 25)]))]) (.cond (.tmp 26) (.seq (.ops [(qS 4 (.mv (.const (.bool false))))]) .ret) .skip))) (.ops [(qS 15 (.mv (.tmp 5))), (qS 16 (.pu (.n (.ar .add)) [(.tmp 15), (ic 1)])), (qS 5 (.mv (.tmp 16)))])))))) (.seq (.ops [(qS 4 (.mv (.const (.bool true))))]) .ret)))), [(.tmp 4)]⟩
set_option maxHeartbeats 10000000 in
theorem d_laws_eqMoveOpS {P : Program} {env : Env} {f_laws_eqMoveOp : Nat}  (ep_laws_eqMoveOp : env (2 * f_laws_eqMoveOp) = pureFn true (FA fun a : TMove × TMove => p_laws_eqMoveOp a.1 a.2)) (x0 : List TMove) (x1 : List TMove) {b : Bool} (hp : p_laws_eqMoveOpS x0 x1 = some b) : R P env (c_laws_eqMoveOpS f_laws_eqMoveOp) ((encA (x0, x1)).map ofI) [] (Tells true b) := by
  refine R_of (by simp [c_laws_eqMoveOpS, encA]) ?_
  have E := ep_laws_eqMoveOp
  unfold c_laws_eqMoveOpS
  unfold p_laws_eqMoveOpS at hp
  by_cases hb0 : (decide ((x0.length : Int) = (x1.length : Int))) = true
  · rw [if_t hb0] at hp
    obtain ⟨ee0, hee0, hp⟩ := bind_eq hp
    simp (maxSteps := 2000000) (disch := first|omega|(simp only[ls];first|done|omega)) only [E, hb0, gm]
    refine W_loopP 0 (fun s t h => match s with | s1 => t 0 = .i (.sl 5 (x0.map enc)) ∧ t 1 = .i (.sl 5 (x1.map enc)) ∧ t 5 = .i (.s (.int .i64 s1))) (RK [.tmp 4] (Tells true)) ?_ hee0 ?_ ?_
    · rintro s1 ee tt0 hh0 ⟨ftt0_0, ftt0_1, ftt0_2⟩ hp
      rw [p_laws_eqMoveOpS_l0] at hp
      by_cases hb2 : (decide (s1 < (x0.length : Int))) = true
      · rw [if_t hb2] at hp
        obtain ⟨v3, hv3, hp⟩ := bind_eq hp
        obtain ⟨v4, hv4, hp⟩ := bind_eq hp
        obtain ⟨v5, hv5, hp⟩ := bind_eq hp
        by_cases hb6 : (v5) = true
        · rw [if_t hb6] at hp
          have hp := Option.some.inj hp
          subst hp
          simp (maxSteps := 2000000) (disch := first|omega|(simp only[ls];first|done|omega)) only [E, hb0, ftt0_0, ftt0_1, ftt0_2, hb2, hv3, hv4, hv5, hb6, gm] <;> omega
        · replace hb6 := eq_false_of_ne_true hb6
          rw [if_f hb6] at hp
          have hp := Option.some.inj hp
          subst hp
          simp (maxSteps := 2000000) (disch := first|omega|(simp only[ls];first|done|omega)) only [E, hb0, ftt0_0, ftt0_1, ftt0_2, hb2, hv3, hv4, hv5, hb6, gm]
      · replace hb2 := eq_false_of_ne_true hb2
        rw [if_f hb2] at hp
        have hp := Option.some.inj hp
        subst hp
        simp (maxSteps := 2000000) (disch := first|omega|(simp only[ls];first|done|omega)) only [E, hb0, ftt0_0, ftt0_1, ftt0_2, hb2, gm] <;> omega
    · simp (maxSteps := 2000000) (disch := first|omega|(simp only[ls];first|done|omega)) only [E, hb0, gm] <;> omega
    · intro x tt1 hh1 hx
      rcases ee0 with o7 | r
      · obtain ⟨rfl, ftt1_0, ftt1_1, ftt1_2⟩ := hx
        dsimp only at hp
        have hp := Option.some.inj hp
        subst hp
        simp (maxSteps := 2000000) (disch := first|omega|(simp only[ls];first|done|omega)) only [E, hb0, ftt1_0, ftt1_1, ftt1_2, gm]
      · obtain ⟨rfl, hx⟩ := hx
        dsimp only at hp
        cases hp
        simp only [seqK_ret, blockK_ret, retK_RK (K := Tells true), hx, and_self, true_and]
  · replace hb0 := eq_false_of_ne_true hb0
    rw [if_f hb0] at hp
    have hp := Option.some.inj hp
    subst hp
    simp (maxSteps := 2000000) (disch := first|omega|(simp only[ls];first|done|omega)) only [E, hb0, gm]

noncomputable def p_laws_FnExactTreePath (x0 : List TMove) (x1 : Int) : Option Bool :=
  (p_laws_szMoveOpS x0 1048576).bind fun v0 =>
  if (decide (v0 < 0)) = true then
    some true
  else
    (p_laws_toMoveOpS x0).bind fun v2 =>
    (p_spec_TreePath v2 x1).bind fun v3 =>
    (p_impl_TreePath v2 x1).bind fun v4 =>
    if (decide (v4.a = v3.a)) = true then
      if (decide (v4.b = v3.b)) = true then
        (p_laws_eqMoveOpS v2 v2).bind fun v7 =>
        if (v7) = true then
          some true
        else
          some false
      else
        some false
    else
      some false
def c_laws_FnExactTreePath (f_laws_szMoveOpS : Nat) (f_laws_toMoveOpS : Nat) (f_spec_TreePath : Nat) (f_impl_TreePath : Nat) (f_laws_eqMoveOpS : Nat) : AFn := ⟨44, (.seq (.ops [(qS 4 (.mv (.const (.bool false))))]) (.seq (.ops [(qS 5 (.mv (ic 1048576)))]) (.seq (.ops [(qS 11 (.mv (.tmp 0))), (qS 12 (.mv (.tmp 5))), (qS 13 (.call (2 * f_laws_szMoveOpS) [(.tmp 11), (.tmp 12)])), (qS 5 (.mv (.tmp 13)))]) (.seq (.seq (.ops [(qS 14 (.mv (.tmp 5))), (qS 15 (.pu (.n (.ar .lss)) [(.tmp 14), (ic 0)]))]) (.cond (.tmp 15) (.seq (.ops [(qS 4 (.mv (.const (.bool true))))]) .ret) .skip)) (.seq (.ops [(qS 17 (.mv (.tmp 0))), (qS 18 (.call (2 * f_laws_toMoveOpS) [(.tmp 17)])), (qS 19 (.mv (.tmp 1))), (qS 20 (.call (2 * f_spec_TreePath) [(.tmp 18), (.tmp 19)])), (qS 16 (.mv (.tmp 20))), (qS 21 (.extract 0 (.tmp 16))), (qS 22 (.extract 1 (.tmp 16))), (qS 6 (.mv (.tmp 21))), (qS 7 (.mv (.tmp 22)))]) (.seq (.ops [(qS 23 (.mv (.tmp 0))), (qS 24 (.call (2 * f_laws_toMoveOpS + 1) [(.tmp 23)])), (qS 8 (.mv (.tmp 24)))]) (.seq (.ops [(qS 26 (.mv (.tmp 8))), (qS 27 (.mv (.tmp 1))), (qS 28 (.call (2 * f_impl_TreePath) [(.tmp 26), (.tmp 27)])), (qS 25 (.mv (.tmp 28))), (qS 29 (.extract 0 (.tmp 25))), (qS 30 (.extract 1 (.tmp 25))), (qS 9 (.mv (.tmp 29))), (qS 10 (.mv (.tmp 30)))]) (.seq (.seq (.ops [(qS 31 (.mv (.tmp 9))), (qS 32 (.mv (.tmp 6))), (qS 33 (.pu (.n (.ar .neq)) [(.tmp 31), (.tmp 32)])), (qS 34 (.mv (.tmp 33))), ⟨(.some 35), (.mv (.tmp 10)), (.some (34, false)), [], .none⟩, ⟨(.some 36), (.mv (.tmp 7)), (.some (34, false)), [], .none⟩, ⟨(.some 37), (.pu (.n (.ar .neq)) [(.tmp 35), (.tmp 36)]), (.some (34, false)), [], .none⟩, (qS 38 (.pick (.tmp 34) (.const (.bool true)) (.tmp 37)))]) (.cond (.tmp 38) (.seq (.ops [(qS 4 (.mv (.const (.bool false))))]) .ret) .skip)) (.seq (.seq (.ops [(qS 39 (.mv (.tmp 8))), (qS 40 (.mv (.tmp 0))), (qS 41 (.call (2 * f_laws_toMoveOpS + 1) [(.tmp 40)])), (qS 42 (.call (2 * f_laws_eqMoveOpS) [(.tmp 39), (.tmp 41)])), (qS 43 (.pu (.n (.un .not)) [(.tmp 42)]))]) (.cond (.tmp 43) (.seq (.ops [(qS 4 (.mv (.const (.bool false))))]) .ret) .skip)) (.seq (.ops [(qS 4 (.mv (.const (.bool true))))]) .ret)))))))))), [(.tmp 4)]⟩
set_option maxHeartbeats 10000000 in
theorem d_laws_FnExactTreePath {P : Program} {env : Env} {f_laws_szMoveOpS : Nat} {f_laws_toMoveOpS : Nat} {f_spec_TreePath : Nat} {f_impl_TreePath : Nat} {f_laws_eqMoveOpS : Nat}  (ep_laws_szMoveOpS : env (2 * f_laws_szMoveOpS) = pureFn true (FA fun a : List TMove × Int => p_laws_szMoveOpS a.1 a.2)) (ep_laws_toMoveOpS : env (2 * f_laws_toMoveOpS) = pureFn true (FA fun a : List TMove => p_laws_toMoveOpS a)) (ep_spec_TreePath : env (2 * f_spec_TreePath) = pureFn true (FA fun a : List TMove × Int => p_spec_TreePath a.1 a.2)) (ep_impl_TreePath : env (2 * f_impl_TreePath) = pureFn true (FA fun a : List TMove × Int => p_impl_TreePath a.1 a.2)) (ep_laws_eqMoveOpS : env (2 * f_laws_eqMoveOpS) = pureFn true (FA fun a : List TMove × List TMove => p_laws_eqMoveOpS a.1 a.2)) (e_laws_toMoveOpS : k_laws_toMoveOpS (env (2 * f_laws_toMoveOpS + 1))) (x0 : List TMove) (x1 : Int) (hp : p_laws_FnExactTreePath x0 x1 = some true) : R P env (c_laws_FnExactTreePath f_laws_szMoveOpS f_laws_toMoveOpS f_spec_TreePath f_impl_TreePath f_laws_eqMoveOpS) ((encA (x0, x1)).map ofI) [] (fun v _ => v = .i (iB true)) := by
  refine R_of (by simp [c_laws_FnExactTreePath, encA]) ?_
  have E := And.intro ep_laws_szMoveOpS (And.intro ep_laws_toMoveOpS (And.intro ep_spec_TreePath (And.intro ep_impl_TreePath ep_laws_eqMoveOpS)))
  unfold c_laws_FnExactTreePath
  unfold p_laws_FnExactTreePath at hp
  obtain ⟨v0, hv0, hp⟩ := bind_eq hp
  by_cases hb1 : (decide (v0 < 0)) = true
  · rw [if_t hb1] at hp
    cases hp
    simp (maxSteps := 2000000) (disch := first|omega|(simp only[ls];first|done|omega)) only [E, hv0, hb1, gm]
  · replace hb1 := eq_false_of_ne_true hb1
    rw [if_f hb1] at hp
    obtain ⟨v2, hv2, hp⟩ := bind_eq hp
    obtain ⟨v3, hv3, hp⟩ := bind_eq hp
    simp (maxSteps := 2000000) (disch := first|omega|(simp only[ls];first|done|omega)) only [E, hv0, hb1, hv2, hv3, gm]
    refine call_f (fun h => True) (fun h v h2 => oo_laws_toMoveOpS v2 h v h2) ?_ ?_ ?_
    · simp (maxSteps := 2000000) (disch := first|omega|(simp only[ls];first|done|omega)) only [E, hv0, hb1, hv2, hv3, gm] <;> omega
    · rintro h _
      exact e_laws_toMoveOpS _ _ hv2 h _ (by simp (maxSteps := 2000000) (disch := first|omega|(simp only[ls];first|done|omega)) only [E, hv0, hb1, hv2, hv3, gm])
    · rintro hc0 v hh0 _ hpost
      obtain ⟨kk0, nb0_0, rfl, lnb0_0, gnb0_0, wnb0_0⟩ := hpost
      have d0_0 := wnb0_0
      obtain ⟨v4, hv4, hp⟩ := bind_eq hp
      by_cases hb5 : (decide (v4.a = v3.a)) = true
      · rw [if_t hb5] at hp
        by_cases hb6 : (decide (v4.b = v3.b)) = true
        · rw [if_t hb6] at hp
          simp (maxSteps := 2000000) (disch := first|omega|(simp only[ls];first|done|omega)) only [E, hv0, hb1, hv2, hv3, d0_0, hv4, hb5, hb6, gm]
          refine call_f (fun h => getCells h nb0_0 (v2.length * 5) = some (rows (v2 : List TMove)) ∧ nb0_0 < h.length) (fun h v h2 => oo_laws_toMoveOpS v2 h v h2) ?_ ?_ ?_
          · simp (maxSteps := 2000000) (disch := first|omega|(simp only[ls];first|done|omega)) only [E, hv0, hb1, hv2, hv3, d0_0, hv4, hb5, hb6, gm] <;> omega
          · rintro h ⟨c1_0, c1_1⟩
            exact e_laws_toMoveOpS _ _ hv2 h _ (by simp (maxSteps := 2000000) (disch := first|omega|(simp only[ls];first|done|omega)) only [E, hv0, hb1, hv2, hv3, d0_0, hv4, hb5, hb6, c1_0, c1_1, gm])
          · rintro hc1 v hh1 ⟨c1_0, c1_1⟩ hpost
            obtain ⟨kk1, nb1_0, rfl, lnb1_0, gnb1_0, wnb1_0⟩ := hpost
            have d1_0 : getCells hh1 nb0_0 (v2.length * 5) = some (rows (v2 : List TMove)) := (keep_get kk1 c1_1 (by first | (simp; done) | (simp; omega))).trans c1_0
            have d1_0l := keep_lt kk1 c1_1
            have d1_1 := wnb1_0
            obtain ⟨v7, hv7, hp⟩ := bind_eq hp
            by_cases hb8 : (v7) = true
            · rw [if_t hb8] at hp
              cases hp
              simp (maxSteps := 2000000) (disch := first|omega|(simp only[ls];first|done|omega)) only [E, hv0, hb1, hv2, hv3, d0_0, hv4, hb5, hb6, d1_0, d1_1, hv7, hb8, gm]
            · replace hb8 := eq_false_of_ne_true hb8
              rw [if_f hb8] at hp
              cases hp
        · replace hb6 := eq_false_of_ne_true hb6
          rw [if_f hb6] at hp
          cases hp
      · replace hb5 := eq_false_of_ne_true hb5
        rw [if_f hb5] at hp
        cases hp

end Go.AM
