/- Plain functions of TreeOf and their walks. No condition. -/
import Derived.Test.YtogokiglmhnjkaaLabPackF
set_option linter.unusedVariables false
set_option linter.unusedSimpArgs false
set_option maxRecDepth 20000
namespace Go.AM
open Pic (enc dec dec_enc dec_sub)
open PicA (encA decA decA_encA decA_sub)
noncomputable def p_laws_szMoveOp (x0 : TMove) (x1 : Int) : Option Int :=
  if (decide (w64 (x1 - (x0.name.size : Int)) < 0)) = true then
    some (-1)
  else
    some (w64 (x1 - (x0.name.size : Int)))
def c_laws_szMoveOp : AFn := ⟨13, (.seq (.ops [(qS 2 (.box (.tmp 0))), (qS 4 (.mv (ic 0)))]) (.seq (.ops [(qS 5 (.mv (.tmp 1))), (qS 6 (.fieldA 4 (.tmp 2))), (qS 7 (.load 1 false (.tmp 6))), (qS 8 (.pu (.n .len) [(.tmp 7)])), (qS 9 (.pu (.n (.ar .sub)) [(.tmp 5), (.tmp 8)])), (qS 1 (.mv (.tmp 9)))]) (.seq (.seq (.ops [(qS 10 (.mv (.tmp 1))), (qS 11 (.pu (.n (.ar .lss)) [(.tmp 10), (ic 0)]))]) (.cond (.tmp 11) (.seq (.ops [(qS 4 (.mv (ic (-1))))]) .ret) .skip)) (.seq (.ops [(qS 12 (.mv (.tmp 1))), (qS 4 (.mv (.tmp 12)))]) .ret)))), [(.tmp 4)]⟩
set_option maxHeartbeats 10000000 in
theorem d_laws_szMoveOp {P : Program} {env : Env}  (x0 : TMove) (x1 : Int) {b : Int} (hp : p_laws_szMoveOp x0 x1 = some b) : R P env (c_laws_szMoveOp) ((encA (x0, x1)).map ofI) [] (Tells true b) := by
  refine R_of (by simp [c_laws_szMoveOp, encA]) ?_
  unfold c_laws_szMoveOp
  unfold p_laws_szMoveOp at hp
  by_cases hb0 : (decide (w64 (x1 - (x0.name.size : Int)) < 0)) = true
  · rw [if_t hb0] at hp
    have hp := Option.some.inj hp
    subst hp
    simp (maxSteps := 2000000) (disch := first|omega|(simp only[ls];first|done|omega)) only [hb0, gm]
  · replace hb0 := eq_false_of_ne_true hb0
    rw [if_f hb0] at hp
    have hp := Option.some.inj hp
    subst hp
    simp (maxSteps := 2000000) (disch := first|omega|(simp only[ls];first|done|omega)) only [hb0, gm]

noncomputable def p_laws_szMoveOpS_l0 (x0 : List TMove) : Int × Int → Option (Lp (Int × Int) Int)
  | (s1, s2) =>
    if (decide (s2 < (x0.length : Int))) = true then
      (get? x0 s2).bind fun v4 =>
      (p_laws_szMoveOp v4 s1).bind fun v5 =>
      if (decide (v5 < 0)) = true then
        some (.ret (-1))
      else
        some (.go (v5, w64 (s2 + 1)))
    else
      some (.out (s1, s2))
noncomputable def p_laws_szMoveOpS (x0 : List TMove) (x1 : Int) : Option Int :=
  if (decide (w64 (x1 - (x0.length : Int)) < 0)) = true then
    some (-1)
  else
    (loopP (p_laws_szMoveOpS_l0 x0) (w64 (x1 - (x0.length : Int)), 0)).bind fun ee0 => match ee0 with
    | .ret r => some r
    | .out (o7, o8) =>
      some o7
def c_laws_szMoveOpS (f_laws_szMoveOp : Nat) : AFn := ⟨27, (.seq (.ops [(qS 4 (.mv (ic 0)))]) (.seq (.ops [(qS 6 (.mv (.tmp 1))), (qS 7 (.mv (.tmp 0))), (qS 8 (.len (.tmp 7))), (qS 9 (.pu (.n (.ar .sub)) [(.tmp 6), (.tmp 8)])), (qS 1 (.mv (.tmp 9)))]) (.seq (.seq (.ops [(qS 10 (.mv (.tmp 1))), (qS 11 (.pu (.n (.ar .lss)) [(.tmp 10), (ic 0)]))]) (.cond (.tmp 11) (.seq (.ops [(qS 4 (.mv (ic (-1))))]) .ret) .skip)) (.seq (.seq (.ops [(qS 5 (.mv (ic 0)))]) (.block 0 (.loop (.seq (.seq (.ops [(qS 12 (.mv (.tmp 5))), (qS 13 (.mv (.tmp 0))), (qS 14 (.len (.tmp 13))), (qS 15 (.pu (.n (.ar .lss)) [(.tmp 12), (.tmp 14)]))]) (.cond (.tmp 15) .skip (.exit 0))) (.seq (.block 1 (.seq (.ops [(qS 18 (.mv (.tmp 0))), (qS 19 (.mv (.tmp 5))), (qS 20 (.idxS 5 (.tmp 18) (.tmp 19))), (qS 21 (.load 5 true (.tmp 20))), (qS 22 (.mv (.tmp 1))), (qS 23 (.call (2 * f_laws_szMoveOp) [(.tmp 21), (.tmp 22)])), (qS 1 (.mv (.tmp 23)))]) (.seq (.ops [(qS 24 (.mv (.tmp 1))), (qS 25 (.pu (.n (.ar .lss)) [(.tmp 24), (ic 0)]))]) (.cond (.tmp 25) (.seq (.ops [(qS 4 (.mv (ic (-1))))]) .ret) .skip)))) (.ops [(qS 16 (.mv (.tmp 5))), (qS 17 (.pu (.n (.ar .add)) [(.tmp 16), (ic 1)])), (qS 5 (.mv (.tmp 17)))])))))) (.seq (.ops [(qS 26 (.mv (.tmp 1))), (qS 4 (.mv (.tmp 26)))]) .ret))))), [(.tmp 4)]⟩
set_option maxHeartbeats 10000000 in
theorem d_laws_szMoveOpS {P : Program} {env : Env} {f_laws_szMoveOp : Nat}  (ep_laws_szMoveOp : env (2 * f_laws_szMoveOp) = pureFn true (FA fun a : TMove × Int => p_laws_szMoveOp a.1 a.2)) (x0 : List TMove) (x1 : Int) {b : Int} (hp : p_laws_szMoveOpS x0 x1 = some b) : R P env (c_laws_szMoveOpS f_laws_szMoveOp) ((encA (x0, x1)).map ofI) [] (Tells true b) := by
  refine R_of (by simp [c_laws_szMoveOpS, encA]) ?_
  have E := ep_laws_szMoveOp
  unfold c_laws_szMoveOpS
  unfold p_laws_szMoveOpS at hp
  by_cases hb0 : (decide (w64 (x1 - (x0.length : Int)) < 0)) = true
  · rw [if_t hb0] at hp
    have hp := Option.some.inj hp
    subst hp
    simp (maxSteps := 2000000) (disch := first|omega|(simp only[ls];first|done|omega)) only [E, hb0, gm]
  · replace hb0 := eq_false_of_ne_true hb0
    rw [if_f hb0] at hp
    obtain ⟨ee0, hee0, hp⟩ := bind_eq hp
    simp (maxSteps := 2000000) (disch := first|omega|(simp only[ls];first|done|omega)) only [E, hb0, gm]
    refine W_loopP 0 (fun s t h => match s with | (s1, s2) => t 0 = .i (.sl 5 (x0.map enc)) ∧ t 1 = .i (.s (.int .i64 s1)) ∧ t 5 = .i (.s (.int .i64 s2))) (RK [.tmp 4] (Tells true)) ?_ hee0 ?_ ?_
    · rintro ⟨s1, s2⟩ ee tt0 hh0 ⟨ftt0_0, ftt0_1, ftt0_2⟩ hp
      rw [p_laws_szMoveOpS_l0] at hp
      by_cases hb3 : (decide (s2 < (x0.length : Int))) = true
      · rw [if_t hb3] at hp
        obtain ⟨v4, hv4, hp⟩ := bind_eq hp
        obtain ⟨v5, hv5, hp⟩ := bind_eq hp
        by_cases hb6 : (decide (v5 < 0)) = true
        · rw [if_t hb6] at hp
          have hp := Option.some.inj hp
          subst hp
          simp (maxSteps := 2000000) (disch := first|omega|(simp only[ls];first|done|omega)) only [E, hb0, ftt0_0, ftt0_1, ftt0_2, hb3, hv4, hv5, hb6, gm]
        · replace hb6 := eq_false_of_ne_true hb6
          rw [if_f hb6] at hp
          have hp := Option.some.inj hp
          subst hp
          simp (maxSteps := 2000000) (disch := first|omega|(simp only[ls];first|done|omega)) only [E, hb0, ftt0_0, ftt0_1, ftt0_2, hb3, hv4, hv5, hb6, gm] <;> omega
      · replace hb3 := eq_false_of_ne_true hb3
        rw [if_f hb3] at hp
        have hp := Option.some.inj hp
        subst hp
        simp (maxSteps := 2000000) (disch := first|omega|(simp only[ls];first|done|omega)) only [E, hb0, ftt0_0, ftt0_1, ftt0_2, hb3, gm] <;> omega
    · simp (maxSteps := 2000000) (disch := first|omega|(simp only[ls];first|done|omega)) only [E, hb0, gm] <;> omega
    · intro x tt1 hh1 hx
      rcases ee0 with ⟨o7, o8⟩ | r
      · obtain ⟨rfl, ftt1_0, ftt1_1, ftt1_2⟩ := hx
        dsimp only at hp
        have hp := Option.some.inj hp
        subst hp
        simp (maxSteps := 2000000) (disch := first|omega|(simp only[ls];first|done|omega)) only [E, hb0, ftt1_0, ftt1_1, ftt1_2, gm]
      · obtain ⟨rfl, hx⟩ := hx
        dsimp only at hp
        cases hp
        simp only [seqK_ret, blockK_ret, retK_RK (K := Tells true), hx, and_self, true_and]

noncomputable def p_laws_toStamp (x0 : TStamp) : Option TStamp :=
  some x0
def c_laws_toStamp : AFn := ⟨11, (.seq (.ops [(qS 1 (.box (.tmp 0))), (qS 2 (.allocV [(0, false), (0, false)] [(.int .i64 0), (.int .i64 0)]))]) (.seq (.ops [(qS 3 (.allocV [(0, false), (0, false)] [(.int .i64 0), (.int .i64 0)]))]) (.seq (.ops [(qS 4 (.fieldA 0 (.tmp 1))), (qS 5 (.load 1 false (.tmp 4))), (qS 6 (.fieldA 0 (.tmp 3))), ⟨.none, (.storeV [(0, false)] 1 (.tmp 6) (.tmp 5)), .none, [], .none⟩]) (.seq (.ops [(qS 7 (.fieldA 1 (.tmp 1))), (qS 8 (.load 1 false (.tmp 7))), (qS 9 (.fieldA 1 (.tmp 3))), ⟨.none, (.storeV [(0, false)] 1 (.tmp 9) (.tmp 8)), .none, [], .none⟩]) (.seq (.ops [(qS 10 (.load 2 true (.tmp 3))), ⟨.none, (.storeV [(0, false), (0, false)] 2 (.tmp 2) (.tmp 10)), .none, [], .none⟩]) .ret))))), [(.cell 2 2 true)]⟩
set_option maxHeartbeats 10000000 in
theorem d_laws_toStamp {P : Program} {env : Env}  (x0 : TStamp) {b : TStamp} (hp : p_laws_toStamp x0 = some b) : R P env (c_laws_toStamp) ((encA (x0)).map ofI) [] (Tells true b) := by
  refine R_of (by simp [c_laws_toStamp, encA]) ?_
  unfold c_laws_toStamp
  unfold p_laws_toStamp at hp
  have hp := Option.some.inj hp
  subst hp
  simp (maxSteps := 2000000) (disch := first|omega|(simp only[ls];first|done|omega)) only [gm]

noncomputable def p_laws_toMoveOp (x0 : TMove) : Option TMove :=
  (p_laws_toStamp x0.id).bind fun v0 =>
  some (TMove.mk v0 x0.node x0.parent x0.name)
def c_laws_toMoveOp (f_laws_toStamp : Nat) : AFn := ⟨18, (.seq (.ops [(qS 1 (.box (.tmp 0))), (qS 2 (.allocV [(0, false), (0, false), (0, false), (0, false), (0, false)] [(.int .i64 0), (.int .i64 0), (.int .i64 0), (.int .i64 0), (.string ⟨#[]⟩)]))]) (.seq (.ops [(qS 3 (.allocV [(0, false), (0, false), (0, false), (0, false), (0, false)] [(.int .i64 0), (.int .i64 0), (.int .i64 0), (.int .i64 0), (.string ⟨#[]⟩)]))]) (.seq (.ops [(qS 4 (.fieldA 0 (.tmp 1))), (qS 5 (.load 2 true (.tmp 4))), (qS 6 (.call (2 * f_laws_toStamp) [(.tmp 5)])), (qS 7 (.fieldA 0 (.tmp 3))), ⟨.none, (.storeV [(0, false), (0, false)] 2 (.tmp 7) (.tmp 6)), .none, [], .none⟩]) (.seq (.ops [(qS 8 (.fieldA 2 (.tmp 1))), (qS 9 (.load 1 false (.tmp 8))), (qS 10 (.fieldA 2 (.tmp 3))), ⟨.none, (.storeV [(0, false)] 1 (.tmp 10) (.tmp 9)), .none, [], .none⟩]) (.seq (.ops [(qS 11 (.fieldA 3 (.tmp 1))), (qS 12 (.load 1 false (.tmp 11))), (qS 13 (.fieldA 3 (.tmp 3))), ⟨.none, (.storeV [(0, false)] 1 (.tmp 13) (.tmp 12)), .none, [], .none⟩]) (.seq (.ops [(qS 14 (.fieldA 4 (.tmp 1))), (qS 15 (.load 1 false (.tmp 14))), (qS 16 (.fieldA 4 (.tmp 3))), ⟨.none, (.storeV [(0, false)] 1 (.tmp 16) (.tmp 15)), .none, [], .none⟩]) (.seq (.ops [(qS 17 (.load 5 true (.tmp 3))), ⟨.none, (.storeV [(0, false), (0, false), (0, false), (0, false), (0, false)] 5 (.tmp 2) (.tmp 17)), .none, [], .none⟩]) .ret))))))), [(.cell 2 5 true)]⟩
set_option maxHeartbeats 10000000 in
theorem d_laws_toMoveOp {P : Program} {env : Env} {f_laws_toStamp : Nat}  (ep_laws_toStamp : env (2 * f_laws_toStamp) = pureFn true (FA fun a : TStamp => p_laws_toStamp a)) (x0 : TMove) {b : TMove} (hp : p_laws_toMoveOp x0 = some b) : R P env (c_laws_toMoveOp f_laws_toStamp) ((encA (x0)).map ofI) [] (Tells true b) := by
  refine R_of (by simp [c_laws_toMoveOp, encA]) ?_
  have E := ep_laws_toStamp
  unfold c_laws_toMoveOp
  unfold p_laws_toMoveOp at hp
  obtain ⟨v0, hv0, hp⟩ := bind_eq hp
  have hp := Option.some.inj hp
  subst hp
  simp (maxSteps := 2000000) (disch := first|omega|(simp only[ls];first|done|omega)) only [E, hv0, gm]

noncomputable def p_laws_toMoveOpS_l0 (x0 : List TMove) : List TMove × Int → Option (Lp (List TMove × Int) (List TMove))
  | (s1, s2) =>
    if (decide (s2 < (x0.length : Int))) = true then
      (get? x0 s2).bind fun v4 =>
      (p_laws_toMoveOp v4).bind fun v5 =>
      (get? s1 s2).bind fun v6 =>
      some (.go ((s1.set s2.toNat v5), w64 (s2 + 1)))
    else
      some (.out (s1, s2))
noncomputable def p_laws_toMoveOpS (x0 : List TMove) : Option (List TMove) :=
  ((mkL (x0.length : Int) 48 (x0.length : Int) (TMove.mk (TStamp.mk 0 0) 0 0 (ByteArray.mk #[])) : Option (List TMove))).bind fun v0 =>
  (loopP (p_laws_toMoveOpS_l0 x0) (v0, 0)).bind fun ee0 => match ee0 with
  | .ret r => some r
  | .out (o8, o9) =>
    some o8
def c_laws_toMoveOpS (f_laws_toMoveOp : Nat) : AFn := ⟨23, (.seq (.ops [(qS 2 (.vnil 5 true))]) (.seq (.ops [(qS 5 (.mv (.tmp 0))), (qS 6 (.len (.tmp 5))), (qS 7 (.makeSl 5 true 48 [(.int .i64 0), (.int .i64 0), (.int .i64 0), (.int .i64 0), (.string ⟨#[]⟩)] (.tmp 6) (.tmp 6))), (qS 3 (.mv (.tmp 7)))]) (.seq (.seq (.ops [(qS 4 (.mv (ic 0)))]) (.block 0 (.loop (.seq (.seq (.ops [(qS 8 (.mv (.tmp 4))), (qS 9 (.mv (.tmp 0))), (qS 10 (.len (.tmp 9))), (qS 11 (.pu (.n (.ar .lss)) [(.tmp 8), (.tmp 10)]))]) (.cond (.tmp 11) .skip (.exit 0))) (.seq (.block 1 (.ops [(qS 14 (.mv (.tmp 3))), (qS 15 (.mv (.tmp 4))), (qS 16 (.mv (.tmp 0))), (qS 17 (.mv (.tmp 4))), (qS 18 (.idxS 5 (.tmp 16) (.tmp 17))), (qS 19 (.load 5 true (.tmp 18))), (qS 20 (.call (2 * f_laws_toMoveOp) [(.tmp 19)])), (qS 21 (.idxS 5 (.tmp 14) (.tmp 15))), ⟨.none, (.storeV [(0, false), (0, false), (0, false), (0, false), (0, false)] 5 (.tmp 21) (.tmp 20)), .none, [], .none⟩])) (.ops [(qS 12 (.mv (.tmp 4))), (qS 13 (.pu (.n (.ar .add)) [(.tmp 12), (ic 1)])), (qS 4 (.mv (.tmp 13)))])))))) (.seq (.ops [(qS 22 (.mv (.tmp 3))), (qS 2 (.mv (.tmp 22)))]) .ret)))), [(.tmp 2)]⟩
set_option maxHeartbeats 10000000 in
theorem d_laws_toMoveOpS {P : Program} {env : Env} {f_laws_toMoveOp : Nat}  (ep_laws_toMoveOp : env (2 * f_laws_toMoveOp) = pureFn true (FA fun a : TMove => p_laws_toMoveOp a)) (x0 : List TMove) {b : List TMove} (hp : p_laws_toMoveOpS x0 = some b) : R P env (c_laws_toMoveOpS f_laws_toMoveOp) ((encA (x0)).map ofI) [] (Tells true b) := by
  refine R_of (by simp [c_laws_toMoveOpS, encA]) ?_
  have E := ep_laws_toMoveOp
  unfold c_laws_toMoveOpS
  unfold p_laws_toMoveOpS at hp
  obtain ⟨v0, hv0, hp⟩ := bind_eq hp
  obtain ⟨kv0, qv0, lv0⟩ := mkL_some hv0
  have rv0 : (List.replicate x0.length [.i (.s (.int .i64 0)), .i (.s (.int .i64 0)), .i (.s (.int .i64 0)), .i (.s (.int .i64 0)), .i (.s (.string (ByteArray.mk #[])))]).flatten = rows v0 := by rw [qv0]; exact rows_rep (x := ((TMove.mk (TStamp.mk 0 0) 0 0 (ByteArray.mk #[])) : TMove)) rfl
  have mv0 : x0.length = v0.length := by rw [lv0]; simp
  obtain ⟨ee0, hee0, hp⟩ := bind_eq hp
  simp (maxSteps := 2000000) (disch := first|omega|(simp only[ls];first|done|omega)) only [E, hv0, rv0, kv0.1, kv0.2.1, kv0.2.2.1, kv0.2.2.2, gm]
  refine W_loopP 0 (fun s t h => match s with | (s1, s2) => t 0 = .i (.sl 5 (x0.map enc)) ∧ t 3 = .hsl 1 (x0.length * 5) 0 5 true x0.length ∧ t 4 = .i (.s (.int .i64 s2)) ∧ getCells h 1 (x0.length * 5) = some (rows (s1 : List TMove)) ∧ 1 < h.length) (RK [.tmp 2] (Tells true)) ?_ hee0 ?_ ?_
  · rintro ⟨s1, s2⟩ ee tt0 hh0 ⟨ftt0_0, ftt0_1, ftt0_2, ftt0_3, ftt0_4⟩ hp
    have ztt0_3 := len_rows ftt0_3
    simp only [zs] at ztt0_3
    rw [p_laws_toMoveOpS_l0] at hp
    by_cases hb3 : (decide (s2 < (x0.length : Int))) = true
    · rw [if_t hb3] at hp
      obtain ⟨v4, hv4, hp⟩ := bind_eq hp
      obtain ⟨v5, hv5, hp⟩ := bind_eq hp
      obtain ⟨v6, hv6, hp⟩ := bind_eq hp
      have gv6 := get_some hv6
      have hs7 : List.take (s2.toNat * 5) (rows s1) ++ .i (.s (.int .i64 v5.id.time)) :: .i (.s (.int .i64 v5.id.actor)) :: .i (.s (.int .i64 v5.node)) :: .i (.s (.int .i64 v5.parent)) :: .i (.s (.string v5.name)) :: List.drop (s2.toNat * 5 + 5) (rows s1) = rows (s1.set s2.toNat v5) := by simpa [splice, zs, cellsV, I.cells, enc_TMove] using rows_set_off (y := v5) (ys := [.i (.s (.int .i64 v5.id.time)), .i (.s (.int .i64 v5.id.actor)), .i (.s (.int .i64 v5.node)), .i (.s (.int .i64 v5.parent)), .i (.s (.string v5.name))]) (k := 0) gv6.2.2 (Nat.le_of_ble_eq_true rfl) (by rfl)
      have hp := Option.some.inj hp
      subst hp
      simp (maxSteps := 2000000) (disch := first|omega|(simp only[ls];first|done|omega)) only [E, hv0, rv0, kv0.1, kv0.2.1, kv0.2.2.1, kv0.2.2.2, ftt0_0, ftt0_1, ftt0_2, ftt0_3, ftt0_4, hb3, hv4, hv5, hv6, (gv6).1, (gv6).2.1, hs7, gm] <;> omega
    · replace hb3 := eq_false_of_ne_true hb3
      rw [if_f hb3] at hp
      have hp := Option.some.inj hp
      subst hp
      simp (maxSteps := 2000000) (disch := first|omega|(simp only[ls];first|done|omega)) only [E, hv0, rv0, kv0.1, kv0.2.1, kv0.2.2.1, kv0.2.2.2, ftt0_0, ftt0_1, ftt0_2, ftt0_3, ftt0_4, hb3, gm] <;> omega
  · simp (maxSteps := 2000000) (disch := first|omega|(simp only[ls];first|done|omega)) only [E, hv0, rv0, kv0.1, kv0.2.1, kv0.2.2.1, kv0.2.2.2, gm] <;> omega
  · intro x tt1 hh1 hx
    rcases ee0 with ⟨o8, o9⟩ | r
    · obtain ⟨rfl, ftt1_0, ftt1_1, ftt1_2, ftt1_3, ftt1_4⟩ := hx
      have ztt1_3 := len_rows ftt1_3
      simp only [zs] at ztt1_3
      dsimp only at hp
      have hp := Option.some.inj hp
      subst hp
      simp (maxSteps := 2000000) (disch := first|omega|(simp only[ls];first|done|omega)) only [E, hv0, rv0, kv0.1, kv0.2.1, kv0.2.2.1, kv0.2.2.2, ftt1_0, ftt1_1, ftt1_2, ftt1_3, ftt1_4, gm]
    · obtain ⟨rfl, hx⟩ := hx
      dsimp only at hp
      cases hp
      simp only [seqK_ret, blockK_ret, retK_RK (K := Tells true), hx, and_self, true_and]

def o_laws_toMoveOpS (b : List TMove) (v : V) (h : Heap) : Prop := ∃ n0 : Nat, v = .hsl n0 (b.length * 5) 0 5 true b.length ∧ getCells h n0 (b.length * 5) = some (rows b)
def oo_laws_toMoveOpS (b : List TMove) (h : Heap) (v : V) (h2 : Heap) : Prop := Keep [] h h2 ∧ ∃ n0 : Nat, v = .hsl n0 (b.length * 5) 0 5 true b.length ∧ n0 < h2.length ∧ h.length ≤ n0 ∧ getCells h2 n0 (b.length * 5) = some (rows b)
def k_laws_toMoveOpS (F : Fun) : Prop := ∀ (x0 : List TMove) (b : List TMove), p_laws_toMoveOpS x0 = some b → ∀ (h : Heap) (args : List V), snapA 9 false h args = some (encA (x0)) → ∃ p, F none args h = some p ∧ oo_laws_toMoveOpS b h p.1 p.2
set_option maxHeartbeats 10000000 in
theorem w_laws_toMoveOpS {P : Program} {env : Env} {f_laws_toMoveOp : Nat}  (ep_laws_toMoveOp : env (2 * f_laws_toMoveOp) = pureFn true (FA fun a : TMove => p_laws_toMoveOp a)) (x0 : List TMove) {b : List TMove} (hp : p_laws_toMoveOpS x0 = some b) : R P env (c_laws_toMoveOpS f_laws_toMoveOp) ((encA (x0)).map ofI) [] (o_laws_toMoveOpS b) := by
  refine R_of (by simp [c_laws_toMoveOpS, encA]) ?_
  have E := ep_laws_toMoveOp
  unfold c_laws_toMoveOpS
  unfold p_laws_toMoveOpS at hp
  obtain ⟨v0, hv0, hp⟩ := bind_eq hp
  obtain ⟨kv0, qv0, lv0⟩ := mkL_some hv0
  have rv0 : (List.replicate x0.length [.i (.s (.int .i64 0)), .i (.s (.int .i64 0)), .i (.s (.int .i64 0)), .i (.s (.int .i64 0)), .i (.s (.string (ByteArray.mk #[])))]).flatten = rows v0 := by rw [qv0]; exact rows_rep (x := ((TMove.mk (TStamp.mk 0 0) 0 0 (ByteArray.mk #[])) : TMove)) rfl
  have mv0 : x0.length = v0.length := by rw [lv0]; simp
  obtain ⟨ee0, hee0, hp⟩ := bind_eq hp
  simp (maxSteps := 2000000) (disch := first|omega|(simp only[ls];first|done|omega)) only [E, hv0, rv0, kv0.1, kv0.2.1, kv0.2.2.1, kv0.2.2.2, gm]
  refine W_loopP 0 (fun s t h => match s with | (s1, s2) => t 0 = .i (.sl 5 (x0.map enc)) ∧ t 3 = .hsl 1 (x0.length * 5) 0 5 true x0.length ∧ t 4 = .i (.s (.int .i64 s2)) ∧ getCells h 1 (x0.length * 5) = some (rows (s1 : List TMove)) ∧ 1 < h.length) (RK [.tmp 2] (o_laws_toMoveOpS)) ?_ hee0 ?_ ?_
  · rintro ⟨s1, s2⟩ ee tt0 hh0 ⟨ftt0_0, ftt0_1, ftt0_2, ftt0_3, ftt0_4⟩ hp
    have ztt0_3 := len_rows ftt0_3
    simp only [zs] at ztt0_3
    rw [p_laws_toMoveOpS_l0] at hp
    by_cases hb3 : (decide (s2 < (x0.length : Int))) = true
    · rw [if_t hb3] at hp
      obtain ⟨v4, hv4, hp⟩ := bind_eq hp
      obtain ⟨v5, hv5, hp⟩ := bind_eq hp
      obtain ⟨v6, hv6, hp⟩ := bind_eq hp
      have gv6 := get_some hv6
      have hs7 : List.take (s2.toNat * 5) (rows s1) ++ .i (.s (.int .i64 v5.id.time)) :: .i (.s (.int .i64 v5.id.actor)) :: .i (.s (.int .i64 v5.node)) :: .i (.s (.int .i64 v5.parent)) :: .i (.s (.string v5.name)) :: List.drop (s2.toNat * 5 + 5) (rows s1) = rows (s1.set s2.toNat v5) := by simpa [splice, zs, cellsV, I.cells, enc_TMove] using rows_set_off (y := v5) (ys := [.i (.s (.int .i64 v5.id.time)), .i (.s (.int .i64 v5.id.actor)), .i (.s (.int .i64 v5.node)), .i (.s (.int .i64 v5.parent)), .i (.s (.string v5.name))]) (k := 0) gv6.2.2 (Nat.le_of_ble_eq_true rfl) (by rfl)
      have hp := Option.some.inj hp
      subst hp
      simp (maxSteps := 2000000) (disch := first|omega|(simp only[ls];first|done|omega)) only [E, hv0, rv0, kv0.1, kv0.2.1, kv0.2.2.1, kv0.2.2.2, ftt0_0, ftt0_1, ftt0_2, ftt0_3, ftt0_4, hb3, hv4, hv5, hv6, (gv6).1, (gv6).2.1, hs7, gm] <;> omega
    · replace hb3 := eq_false_of_ne_true hb3
      rw [if_f hb3] at hp
      have hp := Option.some.inj hp
      subst hp
      simp (maxSteps := 2000000) (disch := first|omega|(simp only[ls];first|done|omega)) only [E, hv0, rv0, kv0.1, kv0.2.1, kv0.2.2.1, kv0.2.2.2, ftt0_0, ftt0_1, ftt0_2, ftt0_3, ftt0_4, hb3, gm] <;> omega
  · simp (maxSteps := 2000000) (disch := first|omega|(simp only[ls];first|done|omega)) only [E, hv0, rv0, kv0.1, kv0.2.1, kv0.2.2.1, kv0.2.2.2, gm] <;> omega
  · intro x tt1 hh1 hx
    rcases ee0 with ⟨o8, o9⟩ | r
    · obtain ⟨rfl, ftt1_0, ftt1_1, ftt1_2, ftt1_3, ftt1_4⟩ := hx
      have ztt1_3 := len_rows ftt1_3
      simp only [zs] at ztt1_3
      dsimp only at hp
      have hp := Option.some.inj hp
      subst hp
      simp (maxSteps := 2000000) (disch := first|omega|(simp only[ls];first|done|omega)) only [E, hv0, rv0, kv0.1, kv0.2.1, kv0.2.2.1, kv0.2.2.2, ftt1_0, ftt1_1, ftt1_2, ftt1_3, ftt1_4, gm]
      refine ⟨1, ?_⟩
      simp (maxSteps := 2000000) (disch := first|omega|(simp only[ls];first|done|omega)) only [E, hv0, rv0, kv0.1, kv0.2.1, kv0.2.2.1, kv0.2.2.2, ftt1_0, ftt1_1, ftt1_2, ftt1_3, ftt1_4, o_laws_toMoveOpS, (show (o8).length = x0.length from by first | omega | rfl | (simp; done) | (simp; omega)), gm] <;> omega
    · obtain ⟨rfl, hx⟩ := hx
      dsimp only at hp
      cases hp
      simp only [seqK_ret, blockK_ret, retK_RK (K := o_laws_toMoveOpS), hx, and_self, true_and]
theorem ko_laws_toMoveOpS {P : Program} {env : Env} {f_laws_toMoveOp : Nat}  (ep_laws_toMoveOp : env (2 * f_laws_toMoveOp) = pureFn true (FA fun a : TMove => p_laws_toMoveOp a)) : k_laws_toMoveOpS (ownFn P env (c_laws_toMoveOpS f_laws_toMoveOp)) := by
  intro x0 b hp h args has
  obtain ⟨⟨v, H2⟩, hr, n0, rfl, wn0⟩ := w_laws_toMoveOpS ep_laws_toMoveOp x0 hp
  exact ⟨_, own_call has hr rfl, keep_moved, n0 + h.length, rfl, (moved_lt wn0).2, (moved_lt wn0).1, moved_rows wn0⟩

noncomputable def p_laws_eqTreeNode (x0 : TNode) (x1 : TNode) : Option Bool :=
  if (decide (x0.node = x1.node)) = true then
    if (decide (x0.parent = x1.parent)) = true then
      if (decide (x0.name = x1.name)) = true then
        some true
      else
        some false
    else
      some false
  else
    some false
def c_laws_eqTreeNode : AFn := ⟨20, (.seq (.ops [(qS 2 (.box (.tmp 0))), (qS 3 (.box (.tmp 1))), (qS 4 (.mv (.const (.bool false))))]) (.seq (.seq (.ops [(qS 5 (.fieldA 0 (.tmp 2))), (qS 6 (.load 1 false (.tmp 5))), (qS 7 (.fieldA 0 (.tmp 3))), (qS 8 (.load 1 false (.tmp 7))), (qS 9 (.pu (.n (.ar .neq)) [(.tmp 6), (.tmp 8)]))]) (.cond (.tmp 9) (.seq (.ops [(qS 4 (.mv (.const (.bool false))))]) .ret) .skip)) (.seq (.seq (.ops [(qS 10 (.fieldA 1 (.tmp 2))), (qS 11 (.load 1 false (.tmp 10))), (qS 12 (.fieldA 1 (.tmp 3))), (qS 13 (.load 1 false (.tmp 12))), (qS 14 (.pu (.n (.ar .neq)) [(.tmp 11), (.tmp 13)]))]) (.cond (.tmp 14) (.seq (.ops [(qS 4 (.mv (.const (.bool false))))]) .ret) .skip)) (.seq (.seq (.ops [(qS 15 (.fieldA 2 (.tmp 2))), (qS 16 (.load 1 false (.tmp 15))), (qS 17 (.fieldA 2 (.tmp 3))), (qS 18 (.load 1 false (.tmp 17))), (qS 19 (.pu (.n (.ar .neq)) [(.tmp 16), (.tmp 18)]))]) (.cond (.tmp 19) (.seq (.ops [(qS 4 (.mv (.const (.bool false))))]) .ret) .skip)) (.seq (.ops [(qS 4 (.mv (.const (.bool true))))]) .ret))))), [(.tmp 4)]⟩
set_option maxHeartbeats 10000000 in
theorem d_laws_eqTreeNode {P : Program} {env : Env}  (x0 : TNode) (x1 : TNode) {b : Bool} (hp : p_laws_eqTreeNode x0 x1 = some b) : R P env (c_laws_eqTreeNode) ((encA (x0, x1)).map ofI) [] (Tells true b) := by
  refine R_of (by simp [c_laws_eqTreeNode, encA]) ?_
  unfold c_laws_eqTreeNode
  unfold p_laws_eqTreeNode at hp
  by_cases hb0 : (decide (x0.node = x1.node)) = true
  · rw [if_t hb0] at hp
    by_cases hb1 : (decide (x0.parent = x1.parent)) = true
    · rw [if_t hb1] at hp
      by_cases hb2 : (decide (x0.name = x1.name)) = true
      · rw [if_t hb2] at hp
        have hp := Option.some.inj hp
        subst hp
        simp (maxSteps := 2000000) (disch := first|omega|(simp only[ls];first|done|omega)) only [hb0, hb1, hb2, gm]
      · replace hb2 := eq_false_of_ne_true hb2
        rw [if_f hb2] at hp
        have hp := Option.some.inj hp
        subst hp
        simp (maxSteps := 2000000) (disch := first|omega|(simp only[ls];first|done|omega)) only [hb0, hb1, hb2, gm]
    · replace hb1 := eq_false_of_ne_true hb1
      rw [if_f hb1] at hp
      have hp := Option.some.inj hp
      subst hp
      simp (maxSteps := 2000000) (disch := first|omega|(simp only[ls];first|done|omega)) only [hb0, hb1, gm]
  · replace hb0 := eq_false_of_ne_true hb0
    rw [if_f hb0] at hp
    have hp := Option.some.inj hp
    subst hp
    simp (maxSteps := 2000000) (disch := first|omega|(simp only[ls];first|done|omega)) only [hb0, gm]

noncomputable def p_laws_eqTreeNodeS_l0 (x0 : List TNode) (x1 : List TNode) : Int → Option (Lp (Int) Bool)
  | s1 =>
    if (decide (s1 < (x0.length : Int))) = true then
      (get? x0 s1).bind fun v3 =>
      (get? x1 s1).bind fun v4 =>
      (p_laws_eqTreeNode v3 v4).bind fun v5 =>
      if (v5) = true then
        some (.go (w64 (s1 + 1)))
      else
        some (.ret false)
    else
      some (.out s1)
noncomputable def p_laws_eqTreeNodeS (x0 : List TNode) (x1 : List TNode) : Option Bool :=
  if (decide ((x0.length : Int) = (x1.length : Int))) = true then
    (loopP (p_laws_eqTreeNodeS_l0 x0 x1) 0).bind fun ee0 => match ee0 with
    | .ret r => some r
    | .out o7 =>
      some true
  else
    some false
def c_laws_eqTreeNodeS (f_laws_eqTreeNode : Nat) : AFn := ⟨27, (.seq (.ops [(qS 4 (.mv (.const (.bool false))))]) (.seq (.seq (.ops [(qS 6 (.mv (.tmp 0))), (qS 7 (.len (.tmp 6))), (qS 8 (.mv (.tmp 1))), (qS 9 (.len (.tmp 8))), (qS 10 (.pu (.n (.ar .neq)) [(.tmp 7), (.tmp 9)]))]) (.cond (.tmp 10) (.seq (.ops [(qS 4 (.mv (.const (.bool false))))]) .ret) .skip)) (.seq (.seq (.ops [(qS 5 (.mv (ic 0)))]) (.block 0 (.loop (.seq (.seq (.ops [(qS 11 (.mv (.tmp 5))), (qS 12 (.mv (.tmp 0))), (qS 13 (.len (.tmp 12))), (qS 14 (.pu (.n (.ar .lss)) [(.tmp 11), (.tmp 13)]))]) (.cond (.tmp 14) .skip (.exit 0))) (.seq (.block 1 (.seq (.ops [(qS 17 (.mv (.tmp 0))), (qS 18 (.mv (.tmp 5))), (qS 19 (.idxS 3 (.tmp 17) (.tmp 18))), (qS 20 (.load 3 true (.tmp 19))), (qS 21 (.mv (.tmp 1))), (qS 22 (.mv (.tmp 5))), (qS 23 (.idxS 3 (.tmp 21) (.tmp 22))), (qS 24 (.load 3 true (.tmp 23))), (qS 25 (.call (2 * f_laws_eqTreeNode) [(.tmp 20), (.tmp 24)])), (qS 26 (.pu (.n (.un .not)) [(.tmp 25)]))]) (.cond (.tmp 26) (.seq (.ops [(qS 4 (.mv (.const (.bool false))))]) .ret) .skip))) (.ops [(qS 15 (.mv (.tmp 5))), (qS 16 (.pu (.n (.ar .add)) [(.tmp 15), (ic 1)])), (qS 5 (.mv (.tmp 16)))])))))) (.seq (.ops [(qS 4 (.mv (.const (.bool true))))]) .ret)))), [(.tmp 4)]⟩
set_option maxHeartbeats 10000000 in
theorem d_laws_eqTreeNodeS {P : Program} {env : Env} {f_laws_eqTreeNode : Nat}  (ep_laws_eqTreeNode : env (2 * f_laws_eqTreeNode) = pureFn true (FA fun a : TNode × TNode => p_laws_eqTreeNode a.1 a.2)) (x0 : List TNode) (x1 : List TNode) {b : Bool} (hp : p_laws_eqTreeNodeS x0 x1 = some b) : R P env (c_laws_eqTreeNodeS f_laws_eqTreeNode) ((encA (x0, x1)).map ofI) [] (Tells true b) := by
  refine R_of (by simp [c_laws_eqTreeNodeS, encA]) ?_
  have E := ep_laws_eqTreeNode
  unfold c_laws_eqTreeNodeS
  unfold p_laws_eqTreeNodeS at hp
  by_cases hb0 : (decide ((x0.length : Int) = (x1.length : Int))) = true
  · rw [if_t hb0] at hp
    obtain ⟨ee0, hee0, hp⟩ := bind_eq hp
    simp (maxSteps := 2000000) (disch := first|omega|(simp only[ls];first|done|omega)) only [E, hb0, gm]
    refine W_loopP 0 (fun s t h => match s with | s1 => t 0 = .i (.sl 3 (x0.map enc)) ∧ t 1 = .i (.sl 3 (x1.map enc)) ∧ t 5 = .i (.s (.int .i64 s1))) (RK [.tmp 4] (Tells true)) ?_ hee0 ?_ ?_
    · rintro s1 ee tt0 hh0 ⟨ftt0_0, ftt0_1, ftt0_2⟩ hp
      rw [p_laws_eqTreeNodeS_l0] at hp
      by_cases hb2 : (decide (s1 < (x0.length : Int))) = true
      · rw [if_t hb2] at hp
        obtain ⟨v3, hv3, hp⟩ := bind_eq hp
        obtain ⟨v4, hv4, hp⟩ := bind_eq hp
        obtain ⟨v5, hv5, hp⟩ := bind_eq hp
        by_cases hb6 : (v5) = true
        · rw [if_t hb6] at hp
          have hp := Option.some.inj hp
          subst hp
          simp (maxSteps := 2000000) (disch := first|omega|(simp only[ls];first|done|omega)) only [E, hb0, ftt0_0, ftt0_1, ftt0_2, hb2, hv3, hv4, hv5, hb6, gm] <;> omega
        · replace hb6 := eq_false_of_ne_true hb6
          rw [if_f hb6] at hp
          have hp := Option.some.inj hp
          subst hp
          simp (maxSteps := 2000000) (disch := first|omega|(simp only[ls];first|done|omega)) only [E, hb0, ftt0_0, ftt0_1, ftt0_2, hb2, hv3, hv4, hv5, hb6, gm]
      · replace hb2 := eq_false_of_ne_true hb2
        rw [if_f hb2] at hp
        have hp := Option.some.inj hp
        subst hp
        simp (maxSteps := 2000000) (disch := first|omega|(simp only[ls];first|done|omega)) only [E, hb0, ftt0_0, ftt0_1, ftt0_2, hb2, gm] <;> omega
    · simp (maxSteps := 2000000) (disch := first|omega|(simp only[ls];first|done|omega)) only [E, hb0, gm] <;> omega
    · intro x tt1 hh1 hx
      rcases ee0 with o7 | r
      · obtain ⟨rfl, ftt1_0, ftt1_1, ftt1_2⟩ := hx
        dsimp only at hp
        have hp := Option.some.inj hp
        subst hp
        simp (maxSteps := 2000000) (disch := first|omega|(simp only[ls];first|done|omega)) only [E, hb0, ftt1_0, ftt1_1, ftt1_2, gm]
      · obtain ⟨rfl, hx⟩ := hx
        dsimp only at hp
        cases hp
        simp only [seqK_ret, blockK_ret, retK_RK (K := Tells true), hx, and_self, true_and]
  · replace hb0 := eq_false_of_ne_true hb0
    rw [if_f hb0] at hp
    have hp := Option.some.inj hp
    subst hp
    simp (maxSteps := 2000000) (disch := first|omega|(simp only[ls];first|done|omega)) only [E, hb0, gm]

noncomputable def p_laws_eqStamp (x0 : TStamp) (x1 : TStamp) : Option Bool :=
  if (decide (x0.time = x1.time)) = true then
    if (decide (x0.actor = x1.actor)) = true then
      some true
    else
      some false
  else
    some false
def c_laws_eqStamp : AFn := ⟨15, (.seq (.ops [(qS 2 (.box (.tmp 0))), (qS 3 (.box (.tmp 1))), (qS 4 (.mv (.const (.bool false))))]) (.seq (.seq (.ops [(qS 5 (.fieldA 0 (.tmp 2))), (qS 6 (.load 1 false (.tmp 5))), (qS 7 (.fieldA 0 (.tmp 3))), (qS 8 (.load 1 false (.tmp 7))), (qS 9 (.pu (.n (.ar .neq)) [(.tmp 6), (.tmp 8)]))]) (.cond (.tmp 9) (.seq (.ops [(qS 4 (.mv (.const (.bool false))))]) .ret) .skip)) (.seq (.seq (.ops [(qS 10 (.fieldA 1 (.tmp 2))), (qS 11 (.load 1 false (.tmp 10))), (qS 12 (.fieldA 1 (.tmp 3))), (qS 13 (.load 1 false (.tmp 12))), (qS 14 (.pu (.n (.ar .neq)) [(.tmp 11), (.tmp 13)]))]) (.cond (.tmp 14) (.seq (.ops [(qS 4 (.mv (.const (.bool false))))]) .ret) .skip)) (.seq (.ops [(qS 4 (.mv (.const (.bool true))))]) .ret)))), [(.tmp 4)]⟩
set_option maxHeartbeats 10000000 in
theorem d_laws_eqStamp {P : Program} {env : Env}  (x0 : TStamp) (x1 : TStamp) {b : Bool} (hp : p_laws_eqStamp x0 x1 = some b) : R P env (c_laws_eqStamp) ((encA (x0, x1)).map ofI) [] (Tells true b) := by
  refine R_of (by simp [c_laws_eqStamp, encA]) ?_
  unfold c_laws_eqStamp
  unfold p_laws_eqStamp at hp
  by_cases hb0 : (decide (x0.time = x1.time)) = true
  · rw [if_t hb0] at hp
    by_cases hb1 : (decide (x0.actor = x1.actor)) = true
    · rw [if_t hb1] at hp
      have hp := Option.some.inj hp
      subst hp
      simp (maxSteps := 2000000) (disch := first|omega|(simp only[ls];first|done|omega)) only [hb0, hb1, gm]
    · replace hb1 := eq_false_of_ne_true hb1
      rw [if_f hb1] at hp
      have hp := Option.some.inj hp
      subst hp
      simp (maxSteps := 2000000) (disch := first|omega|(simp only[ls];first|done|omega)) only [hb0, hb1, gm]
  · replace hb0 := eq_false_of_ne_true hb0
    rw [if_f hb0] at hp
    have hp := Option.some.inj hp
    subst hp
    simp (maxSteps := 2000000) (disch := first|omega|(simp only[ls];first|done|omega)) only [hb0, gm]

noncomputable def p_laws_eqStampS_l0 (x0 : List TStamp) (x1 : List TStamp) : Int → Option (Lp (Int) Bool)
  | s1 =>
    if (decide (s1 < (x0.length : Int))) = true then
      (get? x0 s1).bind fun v3 =>
      (get? x1 s1).bind fun v4 =>
      (p_laws_eqStamp v3 v4).bind fun v5 =>
      if (v5) = true then
        some (.go (w64 (s1 + 1)))
      else
        some (.ret false)
    else
      some (.out s1)
noncomputable def p_laws_eqStampS (x0 : List TStamp) (x1 : List TStamp) : Option Bool :=
  if (decide ((x0.length : Int) = (x1.length : Int))) = true then
    (loopP (p_laws_eqStampS_l0 x0 x1) 0).bind fun ee0 => match ee0 with
    | .ret r => some r
    | .out o7 =>
      some true
  else
    some false
def c_laws_eqStampS (f_laws_eqStamp : Nat) : AFn := ⟨27, (.seq (.ops [(qS 4 (.mv (.const (.bool false))))]) (.seq (.seq (.ops [(qS 6 (.mv (.tmp 0))), (qS 7 (.len (.tmp 6))), (qS 8 (.mv (.tmp 1))), (qS 9 (.len (.tmp 8))), (qS 10 (.pu (.n (.ar .neq)) [(.tmp 7), (.tmp 9)]))]) (.cond (.tmp 10) (.seq (.ops [(qS 4 (.mv (.const (.bool false))))]) .ret) .skip)) (.seq (.seq (.ops [(qS 5 (.mv (ic 0)))]) (.block 0 (.loop (.seq (.seq (.ops [(qS 11 (.mv (.tmp 5))), (qS 12 (.mv (.tmp 0))), (qS 13 (.len (.tmp 12))), (qS 14 (.pu (.n (.ar .lss)) [(.tmp 11), (.tmp 13)]))]) (.cond (.tmp 14) .skip (.exit 0))) (.seq (.block 1 (.seq (.ops [(qS 17 (.mv (.tmp 0))), (qS 18 (.mv (.tmp 5))), (qS 19 (.idxS 2 (.tmp 17) (.tmp 18))), (qS 20 (.load 2 true (.tmp 19))), (qS 21 (.mv (.tmp 1))), (qS 22 (.mv (.tmp 5))), (qS 23 (.idxS 2 (.tmp 21) (.tmp 22))), (qS 24 (.load 2 true (.tmp 23))), (qS 25 (.call (2 * f_laws_eqStamp) [(.tmp 20), (.tmp 24)])), (qS 26 (.pu (.n (.un .not)) [(.tmp 25)]))]) (.cond (.tmp 26) (.seq (.ops [(qS 4 (.mv (.const (.bool false))))]) .ret) .skip))) (.ops [(qS 15 (.mv (.tmp 5))), (qS 16 (.pu (.n (.ar .add)) [(.tmp 15), (ic 1)])), (qS 5 (.mv (.tmp 16)))])))))) (.seq (.ops [(qS 4 (.mv (.const (.bool true))))]) .ret)))), [(.tmp 4)]⟩
set_option maxHeartbeats 10000000 in
theorem d_laws_eqStampS {P : Program} {env : Env} {f_laws_eqStamp : Nat}  (ep_laws_eqStamp : env (2 * f_laws_eqStamp) = pureFn true (FA fun a : TStamp × TStamp => p_laws_eqStamp a.1 a.2)) (x0 : List TStamp) (x1 : List TStamp) {b : Bool} (hp : p_laws_eqStampS x0 x1 = some b) : R P env (c_laws_eqStampS f_laws_eqStamp) ((encA (x0, x1)).map ofI) [] (Tells true b) := by
  refine R_of (by simp [c_laws_eqStampS, encA]) ?_
  have E := ep_laws_eqStamp
  unfold c_laws_eqStampS
  unfold p_laws_eqStampS at hp
  by_cases hb0 : (decide ((x0.length : Int) = (x1.length : Int))) = true
  · rw [if_t hb0] at hp
    obtain ⟨ee0, hee0, hp⟩ := bind_eq hp
    simp (maxSteps := 2000000) (disch := first|omega|(simp only[ls];first|done|omega)) only [E, hb0, gm]
    refine W_loopP 0 (fun s t h => match s with | s1 => t 0 = .i (.sl 2 (x0.map enc)) ∧ t 1 = .i (.sl 2 (x1.map enc)) ∧ t 5 = .i (.s (.int .i64 s1))) (RK [.tmp 4] (Tells true)) ?_ hee0 ?_ ?_
    · rintro s1 ee tt0 hh0 ⟨ftt0_0, ftt0_1, ftt0_2⟩ hp
      rw [p_laws_eqStampS_l0] at hp
      by_cases hb2 : (decide (s1 < (x0.length : Int))) = true
      · rw [if_t hb2] at hp
        obtain ⟨v3, hv3, hp⟩ := bind_eq hp
        obtain ⟨v4, hv4, hp⟩ := bind_eq hp
        obtain ⟨v5, hv5, hp⟩ := bind_eq hp
        by_cases hb6 : (v5) = true
        · rw [if_t hb6] at hp
          have hp := Option.some.inj hp
          subst hp
          simp (maxSteps := 2000000) (disch := first|omega|(simp only[ls];first|done|omega)) only [E, hb0, ftt0_0, ftt0_1, ftt0_2, hb2, hv3, hv4, hv5, hb6, gm] <;> omega
        · replace hb6 := eq_false_of_ne_true hb6
          rw [if_f hb6] at hp
          have hp := Option.some.inj hp
          subst hp
          simp (maxSteps := 2000000) (disch := first|omega|(simp only[ls];first|done|omega)) only [E, hb0, ftt0_0, ftt0_1, ftt0_2, hb2, hv3, hv4, hv5, hb6, gm]
      · replace hb2 := eq_false_of_ne_true hb2
        rw [if_f hb2] at hp
        have hp := Option.some.inj hp
        subst hp
        simp (maxSteps := 2000000) (disch := first|omega|(simp only[ls];first|done|omega)) only [E, hb0, ftt0_0, ftt0_1, ftt0_2, hb2, gm] <;> omega
    · simp (maxSteps := 2000000) (disch := first|omega|(simp only[ls];first|done|omega)) only [E, hb0, gm] <;> omega
    · intro x tt1 hh1 hx
      rcases ee0 with o7 | r
      · obtain ⟨rfl, ftt1_0, ftt1_1, ftt1_2⟩ := hx
        dsimp only at hp
        have hp := Option.some.inj hp
        subst hp
        simp (maxSteps := 2000000) (disch := first|omega|(simp only[ls];first|done|omega)) only [E, hb0, ftt1_0, ftt1_1, ftt1_2, gm]
      · obtain ⟨rfl, hx⟩ := hx
        dsimp only at hp
        cases hp
        simp only [seqK_ret, blockK_ret, retK_RK (K := Tells true), hx, and_self, true_and]
  · replace hb0 := eq_false_of_ne_true hb0
    rw [if_f hb0] at hp
    have hp := Option.some.inj hp
    subst hp
    simp (maxSteps := 2000000) (disch := first|omega|(simp only[ls];first|done|omega)) only [E, hb0, gm]

noncomputable def p_laws_eqMoveOp (x0 : TMove) (x1 : TMove) : Option Bool :=
  (p_laws_eqStamp x0.id x1.id).bind fun v0 =>
  if (v0) = true then
    if (decide (x0.node = x1.node)) = true then
      if (decide (x0.parent = x1.parent)) = true then
        if (decide (x0.name = x1.name)) = true then
          some true
        else
          some false
      else
        some false
    else
      some false
  else
    some false
def c_laws_eqMoveOp (f_laws_eqStamp : Nat) : AFn := ⟨26, (.seq (.ops [(qS 2 (.box (.tmp 0))), (qS 3 (.box (.tmp 1))), (qS 4 (.mv (.const (.bool false))))]) (.seq (.seq (.ops [(qS 5 (.fieldA 0 (.tmp 2))), (qS 6 (.load 2 true (.tmp 5))), (qS 7 (.fieldA 0 (.tmp 3))), (qS 8 (.load 2 true (.tmp 7))), (qS 9 (.call (2 * f_laws_eqStamp) [(.tmp 6), (.tmp 8)])), (qS 10 (.pu (.n (.un .not)) [(.tmp 9)]))]) (.cond (.tmp 10) (.seq (.ops [(qS 4 (.mv (.const (.bool false))))]) .ret) .skip)) (.seq (.seq (.ops [(qS 11 (.fieldA 2 (.tmp 2))), (qS 12 (.load 1 false (.tmp 11))), (qS 13 (.fieldA 2 (.tmp 3))), (qS 14 (.load 1 false (.tmp 13))), (qS 15 (.pu (.n (.ar .neq)) [(.tmp 12), (.tmp 14)]))]) (.cond (.tmp 15) (.seq (.ops [(qS 4 (.mv (.const (.bool false))))]) .ret) .skip)) (.seq (.seq (.ops [(qS 16 (.fieldA 3 (.tmp 2))), (qS 17 (.load 1 false (.tmp 16))), (qS 18 (.fieldA 3 (.tmp 3))), (qS 19 (.load 1 false (.tmp 18))), (qS 20 (.pu (.n (.ar .neq)) [(.tmp 17), (.tmp 19)]))]) (.cond (.tmp 20) (.seq (.ops [(qS 4 (.mv (.const (.bool false))))]) .ret) .skip)) (.seq (.seq (.ops [(qS 21 (.fieldA 4 (.tmp 2))), (qS 22 (.load 1 false (.tmp 21))), (qS 23 (.fieldA 4 (.tmp 3))), (qS 24 (.load 1 false (.tmp 23))), (qS 25 (.pu (.n (.ar .neq)) [(.tmp 22), (.tmp 24)]))]) (.cond (.tmp 25) (.seq (.ops [(qS 4 (.mv (.const (.bool false))))]) .ret) .skip)) (.seq (.ops [(qS 4 (.mv (.const (.bool true))))]) .ret)))))), [(.tmp 4)]⟩
set_option maxHeartbeats 10000000 in
theorem d_laws_eqMoveOp {P : Program} {env : Env} {f_laws_eqStamp : Nat}  (ep_laws_eqStamp : env (2 * f_laws_eqStamp) = pureFn true (FA fun a : TStamp × TStamp => p_laws_eqStamp a.1 a.2)) (x0 : TMove) (x1 : TMove) {b : Bool} (hp : p_laws_eqMoveOp x0 x1 = some b) : R P env (c_laws_eqMoveOp f_laws_eqStamp) ((encA (x0, x1)).map ofI) [] (Tells true b) := by
  refine R_of (by simp [c_laws_eqMoveOp, encA]) ?_
  have E := ep_laws_eqStamp
  unfold c_laws_eqMoveOp
  unfold p_laws_eqMoveOp at hp
  obtain ⟨v0, hv0, hp⟩ := bind_eq hp
  by_cases hb1 : (v0) = true
  · rw [if_t hb1] at hp
    by_cases hb2 : (decide (x0.node = x1.node)) = true
    · rw [if_t hb2] at hp
      by_cases hb3 : (decide (x0.parent = x1.parent)) = true
      · rw [if_t hb3] at hp
        by_cases hb4 : (decide (x0.name = x1.name)) = true
        · rw [if_t hb4] at hp
          have hp := Option.some.inj hp
          subst hp
          simp (maxSteps := 2000000) (disch := first|omega|(simp only[ls];first|done|omega)) only [E, hv0, hb1, hb2, hb3, hb4, gm]
        · replace hb4 := eq_false_of_ne_true hb4
          rw [if_f hb4] at hp
          have hp := Option.some.inj hp
          subst hp
          simp (maxSteps := 2000000) (disch := first|omega|(simp only[ls];first|done|omega)) only [E, hv0, hb1, hb2, hb3, hb4, gm]
      · replace hb3 := eq_false_of_ne_true hb3
        rw [if_f hb3] at hp
        have hp := Option.some.inj hp
        subst hp
        simp (maxSteps := 2000000) (disch := first|omega|(simp only[ls];first|done|omega)) only [E, hv0, hb1, hb2, hb3, gm]
    · replace hb2 := eq_false_of_ne_true hb2
      rw [if_f hb2] at hp
      have hp := Option.some.inj hp
      subst hp
      simp (maxSteps := 2000000) (disch := first|omega|(simp only[ls];first|done|omega)) only [E, hv0, hb1, hb2, gm]
  · replace hb1 := eq_false_of_ne_true hb1
    rw [if_f hb1] at hp
    have hp := Option.some.inj hp
    subst hp
    simp (maxSteps := 2000000) (disch := first|omega|(simp only[ls];first|done|omega)) only [E, hv0, hb1, gm]

noncomputable def p_laws_eqMoveOpS_l0 (x0 : List TMove) (x1 : List TMove) : Int → Option (Lp (Int) Bool)
  | s1 =>
    if (decide (s1 < (x0.length : Int))) = true then
      (get? x0 s1).bind fun v3 =>
      (get? x1 s1).bind fun v4 =>
      (p_laws_eqMoveOp v3 v4).bind fun v5 =>
      if (v5) = true then
        some (.go (w64 (s1 + 1)))
      else
        some (.ret false)
    else
      some (.out s1)
noncomputable def p_laws_eqMoveOpS (x0 : List TMove) (x1 : List TMove) : Option Bool :=
  if (decide ((x0.length : Int) = (x1.length : Int))) = true then
    (loopP (p_laws_eqMoveOpS_l0 x0 x1) 0).bind fun ee0 => match ee0 with
    | .ret r => some r
    | .out o7 =>
      some true
  else
    some false
def c_laws_eqMoveOpS (f_laws_eqMoveOp : Nat) : AFn := ⟨27, (.seq (.ops [(qS 4 (.mv (.const (.bool false))))]) (.seq (.seq (.ops [(qS 6 (.mv (.tmp 0))), (qS 7 (.len (.tmp 6))), (qS 8 (.mv (.tmp 1))), (qS 9 (.len (.tmp 8))), (qS 10 (.pu (.n (.ar .neq)) [(.tmp 7), (.tmp 9)]))]) (.cond (.tmp 10) (.seq (.ops [(qS 4 (.mv (.const (.bool false))))]) .ret) .skip)) (.seq (.seq (.ops [(qS 5 (.mv (ic 0)))]) (.block 0 (.loop (.seq (.seq (.ops [(qS 11 (.mv (.tmp 5))), (qS 12 (.mv (.tmp 0))), (qS 13 (.len (.tmp 12))), (qS 14 (.pu (.n (.ar .lss)) [(.tmp 11), (.tmp 13)]))]) (.cond (.tmp 14) .skip (.exit 0))) (.seq (.block 1 (.seq (.ops [(qS 17 (.mv (.tmp 0))), (qS 18 (.mv (.tmp 5))), (qS 19 (.idxS 5 (.tmp 17) (.tmp 18))), (qS 20 (.load 5 true (.tmp 19))), (qS 21 (.mv (.tmp 1))), (qS 22 (.mv (.tmp 5))), (qS 23 (.idxS 5 (.tmp 21) (.tmp 22))), (qS 24 (.load 5 true (.tmp 23))), (qS 25 (.call (2 * f_laws_eqMoveOp) [(.tmp 20), (.tmp 24)])), (qS 26 (.pu (.n (.un .not)) [(.tmp 25)]))]) (.cond (.tmp 26) (.seq (.ops [(qS 4 (.mv (.const (.bool false))))]) .ret) .skip))) (.ops [(qS 15 (.mv (.tmp 5))), (qS 16 (.pu (.n (.ar .add)) [(.tmp 15), (ic 1)])), (qS 5 (.mv (.tmp 16)))])))))) (.seq (.ops [(qS 4 (.mv (.const (.bool true))))]) .ret)))), [(.tmp 4)]⟩
set_option maxHeartbeats 10000000 in
theorem d_laws_eqMoveOpS {P : Program} {env : Env} {f_laws_eqMoveOp : Nat}  (ep_laws_eqMoveOp : env (2 * f_laws_eqMoveOp) = pureFn true (FA fun a : TMove × TMove => p_laws_eqMoveOp a.1 a.2)) (x0 : List TMove) (x1 : List TMove) {b : Bool} (hp : p_laws_eqMoveOpS x0 x1 = some b) : R P env (c_laws_eqMoveOpS f_laws_eqMoveOp) ((encA (x0, x1)).map ofI) [] (Tells true b) := by
  refine R_of (by simp [c_laws_eqMoveOpS, encA]) ?_
  have E := ep_laws_eqMoveOp
  unfold c_laws_eqMoveOpS
  unfold p_laws_eqMoveOpS at hp
  by_cases hb0 : (decide ((x0.length : Int) = (x1.length : Int))) = true
  · rw [if_t hb0] at hp
    obtain ⟨ee0, hee0, hp⟩ := bind_eq hp
    simp (maxSteps := 2000000) (disch := first|omega|(simp only[ls];first|done|omega)) only [E, hb0, gm]
    refine W_loopP 0 (fun s t h => match s with | s1 => t 0 = .i (.sl 5 (x0.map enc)) ∧ t 1 = .i (.sl 5 (x1.map enc)) ∧ t 5 = .i (.s (.int .i64 s1))) (RK [.tmp 4] (Tells true)) ?_ hee0 ?_ ?_
    · rintro s1 ee tt0 hh0 ⟨ftt0_0, ftt0_1, ftt0_2⟩ hp
      rw [p_laws_eqMoveOpS_l0] at hp
      by_cases hb2 : (decide (s1 < (x0.length : Int))) = true
      · rw [if_t hb2] at hp
        obtain ⟨v3, hv3, hp⟩ := bind_eq hp
        obtain ⟨v4, hv4, hp⟩ := bind_eq hp
        obtain ⟨v5, hv5, hp⟩ := bind_eq hp
        by_cases hb6 : (v5) = true
        · rw [if_t hb6] at hp
          have hp := Option.some.inj hp
          subst hp
          simp (maxSteps := 2000000) (disch := first|omega|(simp only[ls];first|done|omega)) only [E, hb0, ftt0_0, ftt0_1, ftt0_2, hb2, hv3, hv4, hv5, hb6, gm] <;> omega
        · replace hb6 := eq_false_of_ne_true hb6
          rw [if_f hb6] at hp
          have hp := Option.some.inj hp
          subst hp
          simp (maxSteps := 2000000) (disch := first|omega|(simp only[ls];first|done|omega)) only [E, hb0, ftt0_0, ftt0_1, ftt0_2, hb2, hv3, hv4, hv5, hb6, gm]
      · replace hb2 := eq_false_of_ne_true hb2
        rw [if_f hb2] at hp
        have hp := Option.some.inj hp
        subst hp
        simp (maxSteps := 2000000) (disch := first|omega|(simp only[ls];first|done|omega)) only [E, hb0, ftt0_0, ftt0_1, ftt0_2, hb2, gm] <;> omega
    · simp (maxSteps := 2000000) (disch := first|omega|(simp only[ls];first|done|omega)) only [E, hb0, gm] <;> omega
    · intro x tt1 hh1 hx
      rcases ee0 with o7 | r
      · obtain ⟨rfl, ftt1_0, ftt1_1, ftt1_2⟩ := hx
        dsimp only at hp
        have hp := Option.some.inj hp
        subst hp
        simp (maxSteps := 2000000) (disch := first|omega|(simp only[ls];first|done|omega)) only [E, hb0, ftt1_0, ftt1_1, ftt1_2, gm]
      · obtain ⟨rfl, hx⟩ := hx
        dsimp only at hp
        cases hp
        simp only [seqK_ret, blockK_ret, retK_RK (K := Tells true), hx, and_self, true_and]
  · replace hb0 := eq_false_of_ne_true hb0
    rw [if_f hb0] at hp
    have hp := Option.some.inj hp
    subst hp
    simp (maxSteps := 2000000) (disch := first|omega|(simp only[ls];first|done|omega)) only [E, hb0, gm]

noncomputable def p_laws_markText_l0 : Int × ByteArray → Option (Lp (Int × ByteArray) ByteArray)
  | (s1, s2) =>
    if (decide (0 < s1)) = true then
      (cat? (strOfNums [(IntKind.wrap .u8 (w64 (48 + (Int.tmod s1 10))))]) s2).bind fun v4 =>
      some (.go (w64 (Int.tdiv s1 10), v4))
    else
      some (.out (s1, s2))
noncomputable def p_laws_markText (x0 : Int) : Option ByteArray :=
  if (decide (x0 ≤ 0)) = true then
    some (ByteArray.mk #[109, 48])
  else
    (loopP (p_laws_markText_l0) (x0, (ByteArray.mk #[]))).bind fun ee0 => match ee0 with
    | .ret r => some r
    | .out (o5, o6) =>
      (cat? (ByteArray.mk #[109]) o6).bind fun v7 =>
      some v7
def c_laws_markText : AFn := ⟨20, (.seq (.ops [(qS 2 (.mv (.const (.string ⟨#[]⟩))))]) (.seq (.seq (.ops [(qS 4 (.mv (.tmp 0))), (qS 5 (.pu (.n (.ar .leq)) [(.tmp 4), (ic 0)]))]) (.cond (.tmp 5) (.seq (.ops [(qS 2 (.mv (.const (.string ⟨#[109, 48]⟩))))]) .ret) .skip)) (.seq (.ops [(qS 3 (.mv (.const (.string ⟨#[]⟩))))]) (.seq (.block 0 (.loop (.seq (.seq (.ops [(qS 6 (.mv (.tmp 0))), (qS 7 (.pu (.n (.ar .gtr)) [(.tmp 6), (ic 0)]))]) (.cond (.tmp 7) .skip (.exit 0))) (.block 1 (.seq (.ops [(qS 8 (.mv (.tmp 0))), (qS 9 (.pu (.n (.ar .rem)) [(.tmp 8), (ic 10)])), (qS 10 (.pu (.n (.ar .add)) [(ic 48), (.tmp 9)])), (qS 11 (.pu (.n (.conv .u8)) [(.tmp 10)])), (qS 12 (.buildSl 1 false 1 [(.int .u8 0)] [(0, (.tmp 11))])), (qS 13 (.b2s (.tmp 12))), (qS 14 (.mv (.tmp 3))), (qS 15 (.pu (.n (.ar .add)) [(.tmp 13), (.tmp 14)])), (qS 3 (.mv (.tmp 15)))]) (.ops [(qS 16 (.mv (.tmp 0))), (qS 17 (.pu (.n (.ar .quo)) [(.tmp 16), (ic 10)])), (qS 0 (.mv (.tmp 17)))])))))) (.seq (.ops [(qS 18 (.mv (.tmp 3))), (qS 19 (.pu (.n (.ar .add)) [(.const (.string ⟨#[109]⟩)), (.tmp 18)])), (qS 2 (.mv (.tmp 19)))]) .ret))))), [(.tmp 2)]⟩
set_option maxHeartbeats 10000000 in
theorem d_laws_markText {P : Program} {env : Env}  (x0 : Int) {b : ByteArray} (hp : p_laws_markText x0 = some b) : R P env (c_laws_markText) ((encA (x0)).map ofI) [] (Tells true b) := by
  refine R_of (by simp [c_laws_markText, encA]) ?_
  unfold c_laws_markText
  unfold p_laws_markText at hp
  by_cases hb0 : (decide (x0 ≤ 0)) = true
  · rw [if_t hb0] at hp
    have hp := Option.some.inj hp
    subst hp
    simp (maxSteps := 2000000) (disch := first|omega|(simp only[ls];first|done|omega)) only [hb0, gm]
  · replace hb0 := eq_false_of_ne_true hb0
    rw [if_f hb0] at hp
    obtain ⟨ee0, hee0, hp⟩ := bind_eq hp
    simp (maxSteps := 2000000) (disch := first|omega|(simp only[ls];first|done|omega)) only [hb0, gm]
    refine W_loopP 0 (fun s t h => match s with | (s1, s2) => t 0 = .i (.s (.int .i64 s1)) ∧ t 3 = .i (.s (.string s2))) (RK [.tmp 2] (Tells true)) ?_ hee0 ?_ ?_
    · rintro ⟨s1, s2⟩ ee tt0 hh0 ⟨ftt0_0, ftt0_1⟩ hp
      rw [p_laws_markText_l0] at hp
      by_cases hb3 : (decide (0 < s1)) = true
      · rw [if_t hb3] at hp
        obtain ⟨v4, hv4, hp⟩ := bind_eq hp
        have hp := Option.some.inj hp
        subst hp
        simp (maxSteps := 2000000) (disch := first|omega|(simp only[ls];first|done|omega)) only [hb0, ftt0_0, ftt0_1, hb3, hv4, gm] <;> omega
      · replace hb3 := eq_false_of_ne_true hb3
        rw [if_f hb3] at hp
        have hp := Option.some.inj hp
        subst hp
        simp (maxSteps := 2000000) (disch := first|omega|(simp only[ls];first|done|omega)) only [hb0, ftt0_0, ftt0_1, hb3, gm] <;> omega
    · simp (maxSteps := 2000000) (disch := first|omega|(simp only[ls];first|done|omega)) only [hb0, gm] <;> omega
    · intro x tt1 hh1 hx
      rcases ee0 with ⟨o5, o6⟩ | r
      · obtain ⟨rfl, ftt1_0, ftt1_1⟩ := hx
        dsimp only at hp
        obtain ⟨v7, hv7, hp⟩ := bind_eq hp
        have hp := Option.some.inj hp
        subst hp
        simp (maxSteps := 2000000) (disch := first|omega|(simp only[ls];first|done|omega)) only [hb0, ftt1_0, ftt1_1, hv7, gm]
      · obtain ⟨rfl, hx⟩ := hx
        dsimp only at hp
        cases hp
        simp only [seqK_ret, blockK_ret, retK_RK (K := Tells true), hx, and_self, true_and]

noncomputable def p_laws_markMoveOpS_l0 : List TMove × Int × Int → Option (Lp (List TMove × Int × Int) (T2 Int (List TMove)))
  | (s0, s1, s2) =>
    if (decide (s2 < (s0.length : Int))) = true then
      (get? s0 s2).bind fun v5 =>
      (get? (s0.set s2.toNat (TMove.mk (TStamp.mk s1 v5.id.actor) v5.node v5.parent v5.name)) s2).bind fun v7 =>
      (get? ((s0.set s2.toNat (TMove.mk (TStamp.mk s1 v5.id.actor) v5.node v5.parent v5.name)).set s2.toNat (TMove.mk (TStamp.mk v7.id.time (w64 (s1 + 1))) v7.node v7.parent v7.name)) s2).bind fun v9 =>
      (get? (((s0.set s2.toNat (TMove.mk (TStamp.mk s1 v5.id.actor) v5.node v5.parent v5.name)).set s2.toNat (TMove.mk (TStamp.mk v7.id.time (w64 (s1 + 1))) v7.node v7.parent v7.name)).set s2.toNat (TMove.mk v9.id (w64 ((w64 (s1 + 1)) + 1)) v9.parent v9.name)) s2).bind fun v11 =>
      (p_laws_markText (w64 ((w64 ((w64 ((w64 (s1 + 1)) + 1)) + 1)) + 1))).bind fun v13 =>
      (get? ((((s0.set s2.toNat (TMove.mk (TStamp.mk s1 v5.id.actor) v5.node v5.parent v5.name)).set s2.toNat (TMove.mk (TStamp.mk v7.id.time (w64 (s1 + 1))) v7.node v7.parent v7.name)).set s2.toNat (TMove.mk v9.id (w64 ((w64 (s1 + 1)) + 1)) v9.parent v9.name)).set s2.toNat (TMove.mk v11.id v11.node (w64 ((w64 ((w64 (s1 + 1)) + 1)) + 1)) v11.name)) s2).bind fun v14 =>
      some (.go ((((((s0.set s2.toNat (TMove.mk (TStamp.mk s1 v5.id.actor) v5.node v5.parent v5.name)).set s2.toNat (TMove.mk (TStamp.mk v7.id.time (w64 (s1 + 1))) v7.node v7.parent v7.name)).set s2.toNat (TMove.mk v9.id (w64 ((w64 (s1 + 1)) + 1)) v9.parent v9.name)).set s2.toNat (TMove.mk v11.id v11.node (w64 ((w64 ((w64 (s1 + 1)) + 1)) + 1)) v11.name)).set s2.toNat (TMove.mk v14.id v14.node v14.parent v13)), w64 ((w64 ((w64 ((w64 ((w64 (s1 + 1)) + 1)) + 1)) + 1)) + 1), w64 (s2 + 1)))
    else
      some (.out (s0, s1, s2))
noncomputable def p_laws_markMoveOpS (x0 : List TMove) (x1 : Int) : Option (T2 Int (List TMove)) :=
  (loopP (p_laws_markMoveOpS_l0) (x0, x1, 0)).bind fun ee0 => match ee0 with
  | .ret r => some r
  | .out (o16, o17, o18) =>
    some ⟨o17, o16⟩
def c_laws_markMoveOpS (f_laws_markText : Nat) : AFn := ⟨51, (.seq (.ops [(qS 4 (.mv (ic 0)))]) (.seq (.seq (.ops [(qS 5 (.mv (ic 0)))]) (.block 0 (.loop (.seq (.seq (.ops [(qS 6 (.mv (.tmp 5))), (qS 7 (.mv (.tmp 0))), (qS 8 (.len (.tmp 7))), (qS 9 (.pu (.n (.ar .lss)) [(.tmp 6), (.tmp 8)]))]) (.cond (.tmp 9) .skip (.exit 0))) (.seq (.block 1 (.seq (.ops [(qS 12 (.mv (.tmp 0))), (qS 13 (.mv (.tmp 5))), (qS 14 (.mv (.tmp 1))), (qS 15 (.idxS 5 (.tmp 12) (.tmp 13))), (qS 16 (.fieldA 0 (.tmp 15))), (qS 17 (.fieldA 0 (.tmp 16))), ⟨.none, (.storeV [(0, false)] 1 (.tmp 17) (.tmp 14)), .none, [], .none⟩]) (.seq (.ops [(qS 18 (.mv (.tmp 1))), (qS 19 (.pu (.n (.ar .add)) [(.tmp 18), (ic 1)])), (qS 1 (.mv (.tmp 19)))]) (.seq (.ops [(qS 20 (.mv (.tmp 0))), (qS 21 (.mv (.tmp 5))), (qS 22 (.mv (.tmp 1))), (qS 23 (.idxS 5 (.tmp 20) (.tmp 21))), (qS 24 (.fieldA 0 (.tmp 23))), (qS 25 (.fieldA 1 (.tmp 24))), ⟨.none, (.storeV [(0, false)] 1 (.tmp 25) (.tmp 22)), .none, [], .none⟩]) (.seq (.ops [(qS 26 (.mv (.tmp 1))), (qS 27 (.pu (.n (.ar .add)) [(.tmp 26), (ic 1)])), (qS 1 (.mv (.tmp 27)))]) (.seq (.ops [(qS 28 (.mv (.tmp 0))), (qS 29 (.mv (.tmp 5))), (qS 30 (.mv (.tmp 1))), (qS 31 (.idxS 5 (.tmp 28) (.tmp 29))), (qS 32 (.fieldA 2 (.tmp 31))), ⟨.none, (.storeV [(0, false)] 1 (.tmp 32) (.tmp 30)), .none, [], .none⟩]) (.seq (.ops [(qS 33 (.mv (.tmp 1))), (qS 34 (.pu (.n (.ar .add)) [(.tmp 33), (ic 1)])), (qS 1 (.mv (.tmp 34)))]) (.seq (.ops [(qS 35 (.mv (.tmp 0))), (qS 36 (.mv (.tmp 5))), (qS 37 (.mv (.tmp 1))), (qS 38 (.idxS 5 (.tmp 35) (.tmp 36))), (qS 39 (.fieldA 3 (.tmp 38))), ⟨.none, (.storeV [(0, false)] 1 (.tmp 39) (.tmp 37)), .none, [], .none⟩]) (.seq (.ops [(qS 40 (.mv (.tmp 1))), (qS 41 (.pu (.n (.ar .add)) [(.tmp 40), (ic 1)])), (qS 1 (.mv (.tmp 41)))]) (.seq (.ops [(qS 42 (.mv (.tmp 0))), (qS 43 (.mv (.tmp 5))), (qS 44 (.mv (.tmp 1))), (qS 45 (.call (2 * f_laws_markText) [(.tmp 44)])), (qS 46 (.idxS 5 (.tmp 42) (.tmp 43))), (qS 47 (.fieldA 4 (.tmp 46))), ⟨.none, (.storeV [(0, false)] 1 (.tmp 47) (.tmp 45)), .none, [], .none⟩]) (.ops [(qS 48 (.mv (.tmp 1))), (qS 49 (.pu (.n (.ar .add)) [(.tmp 48), (ic 1)])), (qS 1 (.mv (.tmp 49)))]))))))))))) (.ops [(qS 10 (.mv (.tmp 5))), (qS 11 (.pu (.n (.ar .add)) [(.tmp 10), (ic 1)])), (qS 5 (.mv (.tmp 11)))])))))) (.seq (.ops [(qS 50 (.mv (.tmp 1))), (qS 4 (.mv (.tmp 50)))]) .ret))), [(.tmp 4)]⟩
def i_laws_markMoveOpS (pb0 pn0 : Nat) (h : Heap) (b : T2 Int (List TMove)) (v : V) (h2 : Heap) : Prop := Keep [pb0] h h2 ∧ v = .i (.s (.int .i64 b.a)) ∧ getCells h2 pb0 (pn0 * 5) = some (rows b.b)
def k_laws_markMoveOpS (F : Fun) : Prop := ∀ (x0 : List TMove) (x1 : Int) (b : T2 Int (List TMove)), p_laws_markMoveOpS x0 x1 = some b → ∀ (pb0 pn0 : Nat) (h : Heap), pn0 = (x0).length → getCells h pb0 (pn0 * 5) = some (rows x0) → ∃ p, F none [.hsl pb0 (pn0 * 5) 0 5 true pn0, .i (.s (.int .i64 x1))] h = some p ∧ i_laws_markMoveOpS pb0 pn0 h b p.1 p.2
set_option maxHeartbeats 10000000 in
theorem w_laws_markMoveOpS {P : Program} {env : Env} {f_laws_markText : Nat}  (ep_laws_markText : env (2 * f_laws_markText) = pureFn true (FA fun a : Int => p_laws_markText a)) (x0 : List TMove) (x1 : Int) {b : T2 Int (List TMove)} (hp : p_laws_markMoveOpS x0 x1 = some b) (pb0 pn0 : Nat) (hh : Heap) (pm0 : pn0 = (x0).length) (pf0 : getCells hh pb0 (pn0 * 5) = some (rows x0)) : R P env (c_laws_markMoveOpS f_laws_markText) [.hsl pb0 (pn0 * 5) 0 5 true pn0, .i (.s (.int .i64 x1))] hh (i_laws_markMoveOpS pb0 pn0 hh b) := by
  have pl0 := gc_lt pf0
  have pg0 : getCells hh pb0 (x0.length * 5) = some (rows x0) := by rw [← pm0]; exact pf0
  refine R_of (by simp [c_laws_markMoveOpS, encA]) ?_
  have E := ep_laws_markText
  unfold c_laws_markMoveOpS
  unfold p_laws_markMoveOpS at hp
  obtain ⟨ee0, hee0, hp⟩ := bind_eq hp
  simp (maxSteps := 2000000) (disch := first|omega|(simp only[ls];first|done|omega)) only [E, pf0, pg0, gm]
  refine W_loopP 0 (fun s t h => match s with | (s0, s1, s2) => t 0 = .hsl pb0 (pn0 * 5) 0 5 true pn0 ∧ t 1 = .i (.s (.int .i64 s1)) ∧ t 5 = .i (.s (.int .i64 s2)) ∧ getCells h pb0 (pn0 * 5) = some (rows (s0 : List TMove)) ∧ pb0 < h.length ∧ Keep [pb0] hh h) (RK [.tmp 4] (i_laws_markMoveOpS pb0 pn0 hh)) ?_ hee0 ?_ ?_
  · rintro ⟨s0, s1, s2⟩ ee tt0 hh0 ⟨ftt0_0, ftt0_1, ftt0_2, ftt0_3, ftt0_4, ftt0_5⟩ hp
    have ztt0_3 := len_rows ftt0_3
    simp only [zs] at ztt0_3
    rw [p_laws_markMoveOpS_l0] at hp
    have hz3 : ((pn0 : Nat) : Int) = (s0.length : Int) := by omega
    by_cases hb4 : (decide (s2 < (s0.length : Int))) = true
    · rw [if_t hb4] at hp
      obtain ⟨v5, hv5, hp⟩ := bind_eq hp
      have gv5 := get_some hv5
      have hs6 : List.take (s2.toNat * 5) (rows s0) ++ .i (.s (.int .i64 s1)) :: List.drop (s2.toNat * 5 + 1) (rows s0) = rows (s0.set s2.toNat (TMove.mk (TStamp.mk s1 v5.id.actor) v5.node v5.parent v5.name)) := by simpa [splice, zs, cellsV, I.cells, enc_TMove] using rows_set_off (y := (TMove.mk (TStamp.mk s1 v5.id.actor) v5.node v5.parent v5.name)) (ys := [.i (.s (.int .i64 s1))]) (k := 0) gv5.2.2 (Nat.le_of_ble_eq_true rfl) (by rfl)
      obtain ⟨v7, hv7, hp⟩ := bind_eq hp
      have gv7 := get_some hv7
      have hs8 : List.take (s2.toNat * 5 + 1) (rows (s0.set s2.toNat (TMove.mk (TStamp.mk s1 v5.id.actor) v5.node v5.parent v5.name))) ++ .i (.s (.int .i64 (w64 (s1 + 1)))) :: List.drop (s2.toNat * 5 + 1 + 1) (rows (s0.set s2.toNat (TMove.mk (TStamp.mk s1 v5.id.actor) v5.node v5.parent v5.name))) = rows ((s0.set s2.toNat (TMove.mk (TStamp.mk s1 v5.id.actor) v5.node v5.parent v5.name)).set s2.toNat (TMove.mk (TStamp.mk v7.id.time (w64 (s1 + 1))) v7.node v7.parent v7.name)) := by simpa [splice, zs, cellsV, I.cells, enc_TMove] using rows_set_off (y := (TMove.mk (TStamp.mk v7.id.time (w64 (s1 + 1))) v7.node v7.parent v7.name)) (ys := [.i (.s (.int .i64 (w64 (s1 + 1))))]) (k := 1) gv7.2.2 (Nat.le_of_ble_eq_true rfl) (by rfl)
      obtain ⟨v9, hv9, hp⟩ := bind_eq hp
      have gv9 := get_some hv9
      have hs10 : List.take (s2.toNat * 5 + 2) (rows ((s0.set s2.toNat (TMove.mk (TStamp.mk s1 v5.id.actor) v5.node v5.parent v5.name)).set s2.toNat (TMove.mk (TStamp.mk v7.id.time (w64 (s1 + 1))) v7.node v7.parent v7.name))) ++ .i (.s (.int .i64 (w64 ((w64 (s1 + 1)) + 1)))) :: List.drop (s2.toNat * 5 + 2 + 1) (rows ((s0.set s2.toNat (TMove.mk (TStamp.mk s1 v5.id.actor) v5.node v5.parent v5.name)).set s2.toNat (TMove.mk (TStamp.mk v7.id.time (w64 (s1 + 1))) v7.node v7.parent v7.name))) = rows (((s0.set s2.toNat (TMove.mk (TStamp.mk s1 v5.id.actor) v5.node v5.parent v5.name)).set s2.toNat (TMove.mk (TStamp.mk v7.id.time (w64 (s1 + 1))) v7.node v7.parent v7.name)).set s2.toNat (TMove.mk v9.id (w64 ((w64 (s1 + 1)) + 1)) v9.parent v9.name)) := by simpa [splice, zs, cellsV, I.cells, enc_TMove] using rows_set_off (y := (TMove.mk v9.id (w64 ((w64 (s1 + 1)) + 1)) v9.parent v9.name)) (ys := [.i (.s (.int .i64 (w64 ((w64 (s1 + 1)) + 1))))]) (k := 2) gv9.2.2 (Nat.le_of_ble_eq_true rfl) (by rfl)
      obtain ⟨v11, hv11, hp⟩ := bind_eq hp
      have gv11 := get_some hv11
      have hs12 : List.take (s2.toNat * 5 + 3) (rows (((s0.set s2.toNat (TMove.mk (TStamp.mk s1 v5.id.actor) v5.node v5.parent v5.name)).set s2.toNat (TMove.mk (TStamp.mk v7.id.time (w64 (s1 + 1))) v7.node v7.parent v7.name)).set s2.toNat (TMove.mk v9.id (w64 ((w64 (s1 + 1)) + 1)) v9.parent v9.name))) ++ .i (.s (.int .i64 (w64 ((w64 ((w64 (s1 + 1)) + 1)) + 1)))) :: List.drop (s2.toNat * 5 + 3 + 1) (rows (((s0.set s2.toNat (TMove.mk (TStamp.mk s1 v5.id.actor) v5.node v5.parent v5.name)).set s2.toNat (TMove.mk (TStamp.mk v7.id.time (w64 (s1 + 1))) v7.node v7.parent v7.name)).set s2.toNat (TMove.mk v9.id (w64 ((w64 (s1 + 1)) + 1)) v9.parent v9.name))) = rows ((((s0.set s2.toNat (TMove.mk (TStamp.mk s1 v5.id.actor) v5.node v5.parent v5.name)).set s2.toNat (TMove.mk (TStamp.mk v7.id.time (w64 (s1 + 1))) v7.node v7.parent v7.name)).set s2.toNat (TMove.mk v9.id (w64 ((w64 (s1 + 1)) + 1)) v9.parent v9.name)).set s2.toNat (TMove.mk v11.id v11.node (w64 ((w64 ((w64 (s1 + 1)) + 1)) + 1)) v11.name)) := by simpa [splice, zs, cellsV, I.cells, enc_TMove] using rows_set_off (y := (TMove.mk v11.id v11.node (w64 ((w64 ((w64 (s1 + 1)) + 1)) + 1)) v11.name)) (ys := [.i (.s (.int .i64 (w64 ((w64 ((w64 (s1 + 1)) + 1)) + 1))))]) (k := 3) gv11.2.2 (Nat.le_of_ble_eq_true rfl) (by rfl)
      obtain ⟨v13, hv13, hp⟩ := bind_eq hp
      obtain ⟨v14, hv14, hp⟩ := bind_eq hp
      have gv14 := get_some hv14
      have hs15 : List.take (s2.toNat * 5 + 4) (rows ((((s0.set s2.toNat (TMove.mk (TStamp.mk s1 v5.id.actor) v5.node v5.parent v5.name)).set s2.toNat (TMove.mk (TStamp.mk v7.id.time (w64 (s1 + 1))) v7.node v7.parent v7.name)).set s2.toNat (TMove.mk v9.id (w64 ((w64 (s1 + 1)) + 1)) v9.parent v9.name)).set s2.toNat (TMove.mk v11.id v11.node (w64 ((w64 ((w64 (s1 + 1)) + 1)) + 1)) v11.name))) ++ .i (.s (.string v13)) :: List.drop (s2.toNat * 5 + 4 + 1) (rows ((((s0.set s2.toNat (TMove.mk (TStamp.mk s1 v5.id.actor) v5.node v5.parent v5.name)).set s2.toNat (TMove.mk (TStamp.mk v7.id.time (w64 (s1 + 1))) v7.node v7.parent v7.name)).set s2.toNat (TMove.mk v9.id (w64 ((w64 (s1 + 1)) + 1)) v9.parent v9.name)).set s2.toNat (TMove.mk v11.id v11.node (w64 ((w64 ((w64 (s1 + 1)) + 1)) + 1)) v11.name))) = rows (((((s0.set s2.toNat (TMove.mk (TStamp.mk s1 v5.id.actor) v5.node v5.parent v5.name)).set s2.toNat (TMove.mk (TStamp.mk v7.id.time (w64 (s1 + 1))) v7.node v7.parent v7.name)).set s2.toNat (TMove.mk v9.id (w64 ((w64 (s1 + 1)) + 1)) v9.parent v9.name)).set s2.toNat (TMove.mk v11.id v11.node (w64 ((w64 ((w64 (s1 + 1)) + 1)) + 1)) v11.name)).set s2.toNat (TMove.mk v14.id v14.node v14.parent v13)) := by simpa [splice, zs, cellsV, I.cells, enc_TMove] using rows_set_off (y := (TMove.mk v14.id v14.node v14.parent v13)) (ys := [.i (.s (.string v13))]) (k := 4) gv14.2.2 (Nat.le_of_ble_eq_true rfl) (by rfl)
      have hp := Option.some.inj hp
      subst hp
      simp (maxSteps := 2000000) (disch := first|omega|(simp only[ls];first|done|omega)) only [i_laws_markMoveOpS, E, pf0, pg0, ftt0_0, ftt0_1, ftt0_2, ftt0_3, ftt0_4, ftt0_5, hz3, hb4, hv5, (gv5).1, (gv5).2.1, hs6, hv7, (gv7).1, (gv7).2.1, hs8, hv9, (gv9).1, (gv9).2.1, hs10, hv11, (gv11).1, (gv11).2.1, hs12, hv13, hv14, (gv14).1, (gv14).2.1, hs15, gm] <;> (repeat (first | omega | assumption | rfl | exact keep_refl | refine keep_app ?_ | (refine keep_set (by first | (left; simp; done) | (right; simp; omega)) ?_) | refine And.intro ?_ ?_))
    · replace hb4 := eq_false_of_ne_true hb4
      rw [if_f hb4] at hp
      have hp := Option.some.inj hp
      subst hp
      simp (maxSteps := 2000000) (disch := first|omega|(simp only[ls];first|done|omega)) only [i_laws_markMoveOpS, E, pf0, pg0, ftt0_0, ftt0_1, ftt0_2, ftt0_3, ftt0_4, ftt0_5, hz3, hb4, gm] <;> (repeat (first | omega | assumption | rfl | exact keep_refl | refine keep_app ?_ | (refine keep_set (by first | (left; simp; done) | (right; simp; omega)) ?_) | refine And.intro ?_ ?_))
  · simp (maxSteps := 2000000) (disch := first|omega|(simp only[ls];first|done|omega)) only [i_laws_markMoveOpS, E, pf0, pg0, gm] <;> (repeat (first | omega | assumption | rfl | exact keep_refl | refine keep_app ?_ | (refine keep_set (by first | (left; simp; done) | (right; simp; omega)) ?_) | refine And.intro ?_ ?_))
  · intro x tt1 hh1 hx
    rcases ee0 with ⟨o16, o17, o18⟩ | r
    · obtain ⟨rfl, ftt1_0, ftt1_1, ftt1_2, ftt1_3, ftt1_4, ftt1_5⟩ := hx
      have ztt1_3 := len_rows ftt1_3
      simp only [zs] at ztt1_3
      dsimp only at hp
      have hp := Option.some.inj hp
      subst hp
      simp (maxSteps := 2000000) (disch := first|omega|(simp only[ls];first|done|omega)) only [i_laws_markMoveOpS, E, pf0, pg0, ftt1_0, ftt1_1, ftt1_2, ftt1_3, ftt1_4, ftt1_5, gm] <;> (repeat (first | omega | assumption | rfl | exact keep_refl | refine keep_app ?_ | (refine keep_set (by first | (left; simp; done) | (right; simp; omega)) ?_) | refine And.intro ?_ ?_))
    · obtain ⟨rfl, hx⟩ := hx
      dsimp only at hp
      cases hp
      simp only [seqK_ret, blockK_ret, retK_RK (K := i_laws_markMoveOpS pb0 pn0 hh), hx, and_self, true_and]
theorem ko_laws_markMoveOpS {P : Program} {env : Env} {f_laws_markText : Nat}  (ep_laws_markText : env (2 * f_laws_markText) = pureFn true (FA fun a : Int => p_laws_markText a)) : k_laws_markMoveOpS (runIn P env (c_laws_markMoveOpS f_laws_markText)) := by
  intro x0 x1 b hp pb0 pn0 h a0 a1
  exact w_laws_markMoveOpS ep_laws_markText x0 x1 hp pb0 pn0 h a0 a1

noncomputable def p_laws_markTreeNodeS_l0 : List TNode × Int × Int → Option (Lp (List TNode × Int × Int) (T2 Int (List TNode)))
  | (s0, s1, s2) =>
    if (decide (s2 < (s0.length : Int))) = true then
      (get? s0 s2).bind fun v5 =>
      (get? (s0.set s2.toNat (TNode.mk s1 v5.parent v5.name)) s2).bind fun v7 =>
      (p_laws_markText (w64 ((w64 (s1 + 1)) + 1))).bind fun v9 =>
      (get? ((s0.set s2.toNat (TNode.mk s1 v5.parent v5.name)).set s2.toNat (TNode.mk v7.node (w64 (s1 + 1)) v7.name)) s2).bind fun v10 =>
      some (.go ((((s0.set s2.toNat (TNode.mk s1 v5.parent v5.name)).set s2.toNat (TNode.mk v7.node (w64 (s1 + 1)) v7.name)).set s2.toNat (TNode.mk v10.node v10.parent v9)), w64 ((w64 ((w64 (s1 + 1)) + 1)) + 1), w64 (s2 + 1)))
    else
      some (.out (s0, s1, s2))
noncomputable def p_laws_markTreeNodeS (x0 : List TNode) (x1 : Int) : Option (T2 Int (List TNode)) :=
  (loopP (p_laws_markTreeNodeS_l0) (x0, x1, 0)).bind fun ee0 => match ee0 with
  | .ret r => some r
  | .out (o12, o13, o14) =>
    some ⟨o13, o12⟩
def c_laws_markTreeNodeS (f_laws_markText : Nat) : AFn := ⟨35, (.seq (.ops [(qS 4 (.mv (ic 0)))]) (.seq (.seq (.ops [(qS 5 (.mv (ic 0)))]) (.block 0 (.loop (.seq (.seq (.ops [(qS 6 (.mv (.tmp 5))), (qS 7 (.mv (.tmp 0))), (qS 8 (.len (.tmp 7))), (qS 9 (.pu (.n (.ar .lss)) [(.tmp 6), (.tmp 8)]))]) (.cond (.tmp 9) .skip (.exit 0))) (.seq (.block 1 (.seq (.ops [(qS 12 (.mv (.tmp 0))), (qS 13 (.mv (.tmp 5))), (qS 14 (.mv (.tmp 1))), (qS 15 (.idxS 3 (.tmp 12) (.tmp 13))), (qS 16 (.fieldA 0 (.tmp 15))), ⟨.none, (.storeV [(0, false)] 1 (.tmp 16) (.tmp 14)), .none, [], .none⟩]) (.seq (.ops [(qS 17 (.mv (.tmp 1))), (qS 18 (.pu (.n (.ar .add)) [(.tmp 17), (ic 1)])), (qS 1 (.mv (.tmp 18)))]) (.seq (.ops [(qS 19 (.mv (.tmp 0))), (qS 20 (.mv (.tmp 5))), (qS 21 (.mv (.tmp 1))), (qS 22 (.idxS 3 (.tmp 19) (.tmp 20))), (qS 23 (.fieldA 1 (.tmp 22))), ⟨.none, (.storeV [(0, false)] 1 (.tmp 23) (.tmp 21)), .none, [], .none⟩]) (.seq (.ops [(qS 24 (.mv (.tmp 1))), (qS 25 (.pu (.n (.ar .add)) [(.tmp 24), (ic 1)])), (qS 1 (.mv (.tmp 25)))]) (.seq (.ops [(qS 26 (.mv (.tmp 0))), (qS 27 (.mv (.tmp 5))), (qS 28 (.mv (.tmp 1))), (qS 29 (.call (2 * f_laws_markText) [(.tmp 28)])), (qS 30 (.idxS 3 (.tmp 26) (.tmp 27))), (qS 31 (.fieldA 2 (.tmp 30))), ⟨.none, (.storeV [(0, false)] 1 (.tmp 31) (.tmp 29)), .none, [], .none⟩]) (.ops [(qS 32 (.mv (.tmp 1))), (qS 33 (.pu (.n (.ar .add)) [(.tmp 32), (ic 1)])), (qS 1 (.mv (.tmp 33)))]))))))) (.ops [(qS 10 (.mv (.tmp 5))), (qS 11 (.pu (.n (.ar .add)) [(.tmp 10), (ic 1)])), (qS 5 (.mv (.tmp 11)))])))))) (.seq (.ops [(qS 34 (.mv (.tmp 1))), (qS 4 (.mv (.tmp 34)))]) .ret))), [(.tmp 4)]⟩
def i_laws_markTreeNodeS (pb0 pn0 : Nat) (h : Heap) (b : T2 Int (List TNode)) (v : V) (h2 : Heap) : Prop := Keep [pb0] h h2 ∧ v = .i (.s (.int .i64 b.a)) ∧ getCells h2 pb0 (pn0 * 3) = some (rows b.b)
def k_laws_markTreeNodeS (F : Fun) : Prop := ∀ (x0 : List TNode) (x1 : Int) (b : T2 Int (List TNode)), p_laws_markTreeNodeS x0 x1 = some b → ∀ (pb0 pn0 : Nat) (h : Heap), pn0 = (x0).length → getCells h pb0 (pn0 * 3) = some (rows x0) → ∃ p, F none [.hsl pb0 (pn0 * 3) 0 3 true pn0, .i (.s (.int .i64 x1))] h = some p ∧ i_laws_markTreeNodeS pb0 pn0 h b p.1 p.2
set_option maxHeartbeats 10000000 in
theorem w_laws_markTreeNodeS {P : Program} {env : Env} {f_laws_markText : Nat}  (ep_laws_markText : env (2 * f_laws_markText) = pureFn true (FA fun a : Int => p_laws_markText a)) (x0 : List TNode) (x1 : Int) {b : T2 Int (List TNode)} (hp : p_laws_markTreeNodeS x0 x1 = some b) (pb0 pn0 : Nat) (hh : Heap) (pm0 : pn0 = (x0).length) (pf0 : getCells hh pb0 (pn0 * 3) = some (rows x0)) : R P env (c_laws_markTreeNodeS f_laws_markText) [.hsl pb0 (pn0 * 3) 0 3 true pn0, .i (.s (.int .i64 x1))] hh (i_laws_markTreeNodeS pb0 pn0 hh b) := by
  have pl0 := gc_lt pf0
  have pg0 : getCells hh pb0 (x0.length * 3) = some (rows x0) := by rw [← pm0]; exact pf0
  refine R_of (by simp [c_laws_markTreeNodeS, encA]) ?_
  have E := ep_laws_markText
  unfold c_laws_markTreeNodeS
  unfold p_laws_markTreeNodeS at hp
  obtain ⟨ee0, hee0, hp⟩ := bind_eq hp
  simp (maxSteps := 2000000) (disch := first|omega|(simp only[ls];first|done|omega)) only [E, pf0, pg0, gm]
  refine W_loopP 0 (fun s t h => match s with | (s0, s1, s2) => t 0 = .hsl pb0 (pn0 * 3) 0 3 true pn0 ∧ t 1 = .i (.s (.int .i64 s1)) ∧ t 5 = .i (.s (.int .i64 s2)) ∧ getCells h pb0 (pn0 * 3) = some (rows (s0 : List TNode)) ∧ pb0 < h.length ∧ Keep [pb0] hh h) (RK [.tmp 4] (i_laws_markTreeNodeS pb0 pn0 hh)) ?_ hee0 ?_ ?_
  · rintro ⟨s0, s1, s2⟩ ee tt0 hh0 ⟨ftt0_0, ftt0_1, ftt0_2, ftt0_3, ftt0_4, ftt0_5⟩ hp
    have ztt0_3 := len_rows ftt0_3
    simp only [zs] at ztt0_3
    rw [p_laws_markTreeNodeS_l0] at hp
    have hz3 : ((pn0 : Nat) : Int) = (s0.length : Int) := by omega
    by_cases hb4 : (decide (s2 < (s0.length : Int))) = true
    · rw [if_t hb4] at hp
      obtain ⟨v5, hv5, hp⟩ := bind_eq hp
      have gv5 := get_some hv5
      have hs6 : List.take (s2.toNat * 3) (rows s0) ++ .i (.s (.int .i64 s1)) :: List.drop (s2.toNat * 3 + 1) (rows s0) = rows (s0.set s2.toNat (TNode.mk s1 v5.parent v5.name)) := by simpa [splice, zs, cellsV, I.cells, enc_TNode] using rows_set_off (y := (TNode.mk s1 v5.parent v5.name)) (ys := [.i (.s (.int .i64 s1))]) (k := 0) gv5.2.2 (Nat.le_of_ble_eq_true rfl) (by rfl)
      obtain ⟨v7, hv7, hp⟩ := bind_eq hp
      have gv7 := get_some hv7
      have hs8 : List.take (s2.toNat * 3 + 1) (rows (s0.set s2.toNat (TNode.mk s1 v5.parent v5.name))) ++ .i (.s (.int .i64 (w64 (s1 + 1)))) :: List.drop (s2.toNat * 3 + 1 + 1) (rows (s0.set s2.toNat (TNode.mk s1 v5.parent v5.name))) = rows ((s0.set s2.toNat (TNode.mk s1 v5.parent v5.name)).set s2.toNat (TNode.mk v7.node (w64 (s1 + 1)) v7.name)) := by simpa [splice, zs, cellsV, I.cells, enc_TNode] using rows_set_off (y := (TNode.mk v7.node (w64 (s1 + 1)) v7.name)) (ys := [.i (.s (.int .i64 (w64 (s1 + 1))))]) (k := 1) gv7.2.2 (Nat.le_of_ble_eq_true rfl) (by rfl)
      obtain ⟨v9, hv9, hp⟩ := bind_eq hp
      obtain ⟨v10, hv10, hp⟩ := bind_eq hp
      have gv10 := get_some hv10
      have hs11 : List.take (s2.toNat * 3 + 2) (rows ((s0.set s2.toNat (TNode.mk s1 v5.parent v5.name)).set s2.toNat (TNode.mk v7.node (w64 (s1 + 1)) v7.name))) ++ .i (.s (.string v9)) :: List.drop (s2.toNat * 3 + 2 + 1) (rows ((s0.set s2.toNat (TNode.mk s1 v5.parent v5.name)).set s2.toNat (TNode.mk v7.node (w64 (s1 + 1)) v7.name))) = rows (((s0.set s2.toNat (TNode.mk s1 v5.parent v5.name)).set s2.toNat (TNode.mk v7.node (w64 (s1 + 1)) v7.name)).set s2.toNat (TNode.mk v10.node v10.parent v9)) := by simpa [splice, zs, cellsV, I.cells, enc_TNode] using rows_set_off (y := (TNode.mk v10.node v10.parent v9)) (ys := [.i (.s (.string v9))]) (k := 2) gv10.2.2 (Nat.le_of_ble_eq_true rfl) (by rfl)
      have hp := Option.some.inj hp
      subst hp
      simp (maxSteps := 2000000) (disch := first|omega|(simp only[ls];first|done|omega)) only [i_laws_markTreeNodeS, E, pf0, pg0, ftt0_0, ftt0_1, ftt0_2, ftt0_3, ftt0_4, ftt0_5, hz3, hb4, hv5, (gv5).1, (gv5).2.1, hs6, hv7, (gv7).1, (gv7).2.1, hs8, hv9, hv10, (gv10).1, (gv10).2.1, hs11, gm] <;> (repeat (first | omega | assumption | rfl | exact keep_refl | refine keep_app ?_ | (refine keep_set (by first | (left; simp; done) | (right; simp; omega)) ?_) | refine And.intro ?_ ?_))
    · replace hb4 := eq_false_of_ne_true hb4
      rw [if_f hb4] at hp
      have hp := Option.some.inj hp
      subst hp
      simp (maxSteps := 2000000) (disch := first|omega|(simp only[ls];first|done|omega)) only [i_laws_markTreeNodeS, E, pf0, pg0, ftt0_0, ftt0_1, ftt0_2, ftt0_3, ftt0_4, ftt0_5, hz3, hb4, gm] <;> (repeat (first | omega | assumption | rfl | exact keep_refl | refine keep_app ?_ | (refine keep_set (by first | (left; simp; done) | (right; simp; omega)) ?_) | refine And.intro ?_ ?_))
  · simp (maxSteps := 2000000) (disch := first|omega|(simp only[ls];first|done|omega)) only [i_laws_markTreeNodeS, E, pf0, pg0, gm] <;> (repeat (first | omega | assumption | rfl | exact keep_refl | refine keep_app ?_ | (refine keep_set (by first | (left; simp; done) | (right; simp; omega)) ?_) | refine And.intro ?_ ?_))
  · intro x tt1 hh1 hx
    rcases ee0 with ⟨o12, o13, o14⟩ | r
    · obtain ⟨rfl, ftt1_0, ftt1_1, ftt1_2, ftt1_3, ftt1_4, ftt1_5⟩ := hx
      have ztt1_3 := len_rows ftt1_3
      simp only [zs] at ztt1_3
      dsimp only at hp
      have hp := Option.some.inj hp
      subst hp
      simp (maxSteps := 2000000) (disch := first|omega|(simp only[ls];first|done|omega)) only [i_laws_markTreeNodeS, E, pf0, pg0, ftt1_0, ftt1_1, ftt1_2, ftt1_3, ftt1_4, ftt1_5, gm] <;> (repeat (first | omega | assumption | rfl | exact keep_refl | refine keep_app ?_ | (refine keep_set (by first | (left; simp; done) | (right; simp; omega)) ?_) | refine And.intro ?_ ?_))
    · obtain ⟨rfl, hx⟩ := hx
      dsimp only at hp
      cases hp
      simp only [seqK_ret, blockK_ret, retK_RK (K := i_laws_markTreeNodeS pb0 pn0 hh), hx, and_self, true_and]
theorem ko_laws_markTreeNodeS {P : Program} {env : Env} {f_laws_markText : Nat}  (ep_laws_markText : env (2 * f_laws_markText) = pureFn true (FA fun a : Int => p_laws_markText a)) : k_laws_markTreeNodeS (runIn P env (c_laws_markTreeNodeS f_laws_markText)) := by
  intro x0 x1 b hp pb0 pn0 h a0 a1
  exact w_laws_markTreeNodeS ep_laws_markText x0 x1 hp pb0 pn0 h a0 a1

noncomputable def p_laws_markStampS_l0 : List TStamp × Int × Int → Option (Lp (List TStamp × Int × Int) (T2 Int (List TStamp)))
  | (s0, s1, s2) =>
    if (decide (s2 < (s0.length : Int))) = true then
      (get? s0 s2).bind fun v5 =>
      (get? (s0.set s2.toNat (TStamp.mk s1 v5.actor)) s2).bind fun v7 =>
      some (.go (((s0.set s2.toNat (TStamp.mk s1 v5.actor)).set s2.toNat (TStamp.mk v7.time (w64 (s1 + 1)))), w64 ((w64 (s1 + 1)) + 1), w64 (s2 + 1)))
    else
      some (.out (s0, s1, s2))
noncomputable def p_laws_markStampS (x0 : List TStamp) (x1 : Int) : Option (T2 Int (List TStamp)) :=
  (loopP (p_laws_markStampS_l0) (x0, x1, 0)).bind fun ee0 => match ee0 with
  | .ret r => some r
  | .out (o9, o10, o11) =>
    some ⟨o10, o9⟩
def c_laws_markStampS : AFn := ⟨27, (.seq (.ops [(qS 4 (.mv (ic 0)))]) (.seq (.seq (.ops [(qS 5 (.mv (ic 0)))]) (.block 0 (.loop (.seq (.seq (.ops [(qS 6 (.mv (.tmp 5))), (qS 7 (.mv (.tmp 0))), (qS 8 (.len (.tmp 7))), (qS 9 (.pu (.n (.ar .lss)) [(.tmp 6), (.tmp 8)]))]) (.cond (.tmp 9) .skip (.exit 0))) (.seq (.block 1 (.seq (.ops [(qS 12 (.mv (.tmp 0))), (qS 13 (.mv (.tmp 5))), (qS 14 (.mv (.tmp 1))), (qS 15 (.idxS 2 (.tmp 12) (.tmp 13))), (qS 16 (.fieldA 0 (.tmp 15))), ⟨.none, (.storeV [(0, false)] 1 (.tmp 16) (.tmp 14)), .none, [], .none⟩]) (.seq (.ops [(qS 17 (.mv (.tmp 1))), (qS 18 (.pu (.n (.ar .add)) [(.tmp 17), (ic 1)])), (qS 1 (.mv (.tmp 18)))]) (.seq (.ops [(qS 19 (.mv (.tmp 0))), (qS 20 (.mv (.tmp 5))), (qS 21 (.mv (.tmp 1))), (qS 22 (.idxS 2 (.tmp 19) (.tmp 20))), (qS 23 (.fieldA 1 (.tmp 22))), ⟨.none, (.storeV [(0, false)] 1 (.tmp 23) (.tmp 21)), .none, [], .none⟩]) (.ops [(qS 24 (.mv (.tmp 1))), (qS 25 (.pu (.n (.ar .add)) [(.tmp 24), (ic 1)])), (qS 1 (.mv (.tmp 25)))]))))) (.ops [(qS 10 (.mv (.tmp 5))), (qS 11 (.pu (.n (.ar .add)) [(.tmp 10), (ic 1)])), (qS 5 (.mv (.tmp 11)))])))))) (.seq (.ops [(qS 26 (.mv (.tmp 1))), (qS 4 (.mv (.tmp 26)))]) .ret))), [(.tmp 4)]⟩
def i_laws_markStampS (pb0 pn0 : Nat) (h : Heap) (b : T2 Int (List TStamp)) (v : V) (h2 : Heap) : Prop := Keep [pb0] h h2 ∧ v = .i (.s (.int .i64 b.a)) ∧ getCells h2 pb0 (pn0 * 2) = some (rows b.b)
def k_laws_markStampS (F : Fun) : Prop := ∀ (x0 : List TStamp) (x1 : Int) (b : T2 Int (List TStamp)), p_laws_markStampS x0 x1 = some b → ∀ (pb0 pn0 : Nat) (h : Heap), pn0 = (x0).length → getCells h pb0 (pn0 * 2) = some (rows x0) → ∃ p, F none [.hsl pb0 (pn0 * 2) 0 2 true pn0, .i (.s (.int .i64 x1))] h = some p ∧ i_laws_markStampS pb0 pn0 h b p.1 p.2
set_option maxHeartbeats 10000000 in
theorem w_laws_markStampS {P : Program} {env : Env}  (x0 : List TStamp) (x1 : Int) {b : T2 Int (List TStamp)} (hp : p_laws_markStampS x0 x1 = some b) (pb0 pn0 : Nat) (hh : Heap) (pm0 : pn0 = (x0).length) (pf0 : getCells hh pb0 (pn0 * 2) = some (rows x0)) : R P env (c_laws_markStampS) [.hsl pb0 (pn0 * 2) 0 2 true pn0, .i (.s (.int .i64 x1))] hh (i_laws_markStampS pb0 pn0 hh b) := by
  have pl0 := gc_lt pf0
  have pg0 : getCells hh pb0 (x0.length * 2) = some (rows x0) := by rw [← pm0]; exact pf0
  refine R_of (by simp [c_laws_markStampS, encA]) ?_
  unfold c_laws_markStampS
  unfold p_laws_markStampS at hp
  obtain ⟨ee0, hee0, hp⟩ := bind_eq hp
  simp (maxSteps := 2000000) (disch := first|omega|(simp only[ls];first|done|omega)) only [pf0, pg0, gm]
  refine W_loopP 0 (fun s t h => match s with | (s0, s1, s2) => t 0 = .hsl pb0 (pn0 * 2) 0 2 true pn0 ∧ t 1 = .i (.s (.int .i64 s1)) ∧ t 5 = .i (.s (.int .i64 s2)) ∧ getCells h pb0 (pn0 * 2) = some (rows (s0 : List TStamp)) ∧ pb0 < h.length ∧ Keep [pb0] hh h) (RK [.tmp 4] (i_laws_markStampS pb0 pn0 hh)) ?_ hee0 ?_ ?_
  · rintro ⟨s0, s1, s2⟩ ee tt0 hh0 ⟨ftt0_0, ftt0_1, ftt0_2, ftt0_3, ftt0_4, ftt0_5⟩ hp
    have ztt0_3 := len_rows ftt0_3
    simp only [zs] at ztt0_3
    rw [p_laws_markStampS_l0] at hp
    have hz3 : ((pn0 : Nat) : Int) = (s0.length : Int) := by omega
    by_cases hb4 : (decide (s2 < (s0.length : Int))) = true
    · rw [if_t hb4] at hp
      obtain ⟨v5, hv5, hp⟩ := bind_eq hp
      have gv5 := get_some hv5
      have hs6 : List.take (s2.toNat * 2) (rows s0) ++ .i (.s (.int .i64 s1)) :: List.drop (s2.toNat * 2 + 1) (rows s0) = rows (s0.set s2.toNat (TStamp.mk s1 v5.actor)) := by simpa [splice, zs, cellsV, I.cells, enc_TStamp] using rows_set_off (y := (TStamp.mk s1 v5.actor)) (ys := [.i (.s (.int .i64 s1))]) (k := 0) gv5.2.2 (Nat.le_of_ble_eq_true rfl) (by rfl)
      obtain ⟨v7, hv7, hp⟩ := bind_eq hp
      have gv7 := get_some hv7
      have hs8 : List.take (s2.toNat * 2 + 1) (rows (s0.set s2.toNat (TStamp.mk s1 v5.actor))) ++ .i (.s (.int .i64 (w64 (s1 + 1)))) :: List.drop (s2.toNat * 2 + 1 + 1) (rows (s0.set s2.toNat (TStamp.mk s1 v5.actor))) = rows ((s0.set s2.toNat (TStamp.mk s1 v5.actor)).set s2.toNat (TStamp.mk v7.time (w64 (s1 + 1)))) := by simpa [splice, zs, cellsV, I.cells, enc_TStamp] using rows_set_off (y := (TStamp.mk v7.time (w64 (s1 + 1)))) (ys := [.i (.s (.int .i64 (w64 (s1 + 1))))]) (k := 1) gv7.2.2 (Nat.le_of_ble_eq_true rfl) (by rfl)
      have hp := Option.some.inj hp
      subst hp
      simp (maxSteps := 2000000) (disch := first|omega|(simp only[ls];first|done|omega)) only [i_laws_markStampS, pf0, pg0, ftt0_0, ftt0_1, ftt0_2, ftt0_3, ftt0_4, ftt0_5, hz3, hb4, hv5, (gv5).1, (gv5).2.1, hs6, hv7, (gv7).1, (gv7).2.1, hs8, gm] <;> (repeat (first | omega | assumption | rfl | exact keep_refl | refine keep_app ?_ | (refine keep_set (by first | (left; simp; done) | (right; simp; omega)) ?_) | refine And.intro ?_ ?_))
    · replace hb4 := eq_false_of_ne_true hb4
      rw [if_f hb4] at hp
      have hp := Option.some.inj hp
      subst hp
      simp (maxSteps := 2000000) (disch := first|omega|(simp only[ls];first|done|omega)) only [i_laws_markStampS, pf0, pg0, ftt0_0, ftt0_1, ftt0_2, ftt0_3, ftt0_4, ftt0_5, hz3, hb4, gm] <;> (repeat (first | omega | assumption | rfl | exact keep_refl | refine keep_app ?_ | (refine keep_set (by first | (left; simp; done) | (right; simp; omega)) ?_) | refine And.intro ?_ ?_))
  · simp (maxSteps := 2000000) (disch := first|omega|(simp only[ls];first|done|omega)) only [i_laws_markStampS, pf0, pg0, gm] <;> (repeat (first | omega | assumption | rfl | exact keep_refl | refine keep_app ?_ | (refine keep_set (by first | (left; simp; done) | (right; simp; omega)) ?_) | refine And.intro ?_ ?_))
  · intro x tt1 hh1 hx
    rcases ee0 with ⟨o9, o10, o11⟩ | r
    · obtain ⟨rfl, ftt1_0, ftt1_1, ftt1_2, ftt1_3, ftt1_4, ftt1_5⟩ := hx
      have ztt1_3 := len_rows ftt1_3
      simp only [zs] at ztt1_3
      dsimp only at hp
      have hp := Option.some.inj hp
      subst hp
      simp (maxSteps := 2000000) (disch := first|omega|(simp only[ls];first|done|omega)) only [i_laws_markStampS, pf0, pg0, ftt1_0, ftt1_1, ftt1_2, ftt1_3, ftt1_4, ftt1_5, gm] <;> (repeat (first | omega | assumption | rfl | exact keep_refl | refine keep_app ?_ | (refine keep_set (by first | (left; simp; done) | (right; simp; omega)) ?_) | refine And.intro ?_ ?_))
    · obtain ⟨rfl, hx⟩ := hx
      dsimp only at hp
      cases hp
      simp only [seqK_ret, blockK_ret, retK_RK (K := i_laws_markStampS pb0 pn0 hh), hx, and_self, true_and]
theorem ko_laws_markStampS {P : Program} {env : Env}  : k_laws_markStampS (runIn P env (c_laws_markStampS)) := by
  intro x0 x1 b hp pb0 pn0 h a0 a1
  exact w_laws_markStampS x0 x1 hp pb0 pn0 h a0 a1

noncomputable def p_laws_heldTreeNodeS_l0 (x0 : List TNode) : Int × Int → Option (Lp (Int × Int) Int)
  | (s0, s1) =>
    if (decide (s1 < (x0.length : Int))) = true then
      (get? x0 s1).bind fun v3 =>
      if (decide (v3.node = s0)) = true then
        if (decide (v3.parent = w64 (s0 + 1))) = true then
          (p_laws_markText (w64 ((w64 (s0 + 1)) + 1))).bind fun v6 =>
          if (decide (v3.name = v6)) = true then
            some (.go (w64 ((w64 ((w64 (s0 + 1)) + 1)) + 1), w64 (s1 + 1)))
          else
            some (.ret (-1))
        else
          some (.ret (-1))
      else
        some (.ret (-1))
    else
      some (.out (s0, s1))
noncomputable def p_laws_heldTreeNodeS (x0 : List TNode) (x1 : Int) : Option Int :=
  (loopP (p_laws_heldTreeNodeS_l0 x0) (x1, 0)).bind fun ee0 => match ee0 with
  | .ret r => some r
  | .out (o8, o9) =>
    some o8
def c_laws_heldTreeNodeS (f_laws_markText : Nat) : AFn := ⟨41, (.seq (.ops [(qS 4 (.mv (ic 0)))]) (.seq (.seq (.ops [(qS 5 (.mv (ic 0)))]) (.block 0 (.loop (.seq (.seq (.ops [(qS 6 (.mv (.tmp 5))), (qS 7 (.mv (.tmp 0))), (qS 8 (.len (.tmp 7))), (qS 9 (.pu (.n (.ar .lss)) [(.tmp 6), (.tmp 8)]))]) (.cond (.tmp 9) .skip (.exit 0))) (.seq (.block 1 (.seq (.seq (.ops [(qS 12 (.mv (.tmp 0))), (qS 13 (.mv (.tmp 5))), (qS 14 (.idxS 3 (.tmp 12) (.tmp 13))), (qS 15 (.fieldA 0 (.tmp 14))), (qS 16 (.load 1 false (.tmp 15))), (qS 17 (.mv (.tmp 1))), (qS 18 (.pu (.n (.ar .neq)) [(.tmp 16), (.tmp 17)]))]) (.cond (.tmp 18) (.seq (.ops [(qS 4 (.mv (ic (-1))))]) .ret) .skip)) (.seq (.ops [(qS 19 (.mv (.tmp 1))), (qS 20 (.pu (.n (.ar .add)) [(.tmp 19), (ic 1)])), (qS 1 (.mv (.tmp 20)))]) (.seq (.seq (.ops [(qS 21 (.mv (.tmp 0))), (qS 22 (.mv (.tmp 5))), (qS 23 (.idxS 3 (.tmp 21) (.tmp 22))), (qS 24 (.fieldA 1 (.tmp 23))), (qS 25 (.load 1 false (.tmp 24))), (qS 26 (.mv (.tmp 1))), (qS 27 (.pu (.n (.ar .neq)) [(.tmp 25), (.tmp 26)]))]) (.cond (.tmp 27) (.seq (.ops [(qS 4 (.mv (ic (-1))))]) .ret) .skip)) (.seq (.ops [(qS 28 (.mv (.tmp 1))), (qS 29 (.pu (.n (.ar .add)) [(.tmp 28), (ic 1)])), (qS 1 (.mv (.tmp 29)))]) (.seq (.seq (.ops [(qS 30 (.mv (.tmp 0))), (qS 31 (.mv (.tmp 5))), (qS 32 (.idxS 3 (.tmp 30) (.tmp 31))), (qS 33 (.fieldA 2 (.tmp 32))), (qS 34 (.load 1 false (.tmp 33))), (qS 35 (.mv (.tmp 1))), (qS 36 (.call (2 * f_laws_markText) [(.tmp 35)])), (qS 37 (.pu (.n (.ar .neq)) [(.tmp 34), (.tmp 36)]))]) (.cond (.tmp 37) (.seq (.ops [(qS 4 (.mv (ic (-1))))]) .ret) .skip)) (.ops [(qS 38 (.mv (.tmp 1))), (qS 39 (.pu (.n (.ar .add)) [(.tmp 38), (ic 1)])), (qS 1 (.mv (.tmp 39)))]))))))) (.ops [(qS 10 (.mv (.tmp 5))), (qS 11 (.pu (.n (.ar .add)) [(.tmp 10), (ic 1)])), (qS 5 (.mv (.tmp 11)))])))))) (.seq (.ops [(qS 40 (.mv (.tmp 1))), (qS 4 (.mv (.tmp 40)))]) .ret))), [(.tmp 4)]⟩
set_option maxHeartbeats 10000000 in
theorem d_laws_heldTreeNodeS {P : Program} {env : Env} {f_laws_markText : Nat}  (ep_laws_markText : env (2 * f_laws_markText) = pureFn true (FA fun a : Int => p_laws_markText a)) (x0 : List TNode) (x1 : Int) {b : Int} (hp : p_laws_heldTreeNodeS x0 x1 = some b) : R P env (c_laws_heldTreeNodeS f_laws_markText) ((encA (x0, x1)).map ofI) [] (Tells true b) := by
  refine R_of (by simp [c_laws_heldTreeNodeS, encA]) ?_
  have E := ep_laws_markText
  unfold c_laws_heldTreeNodeS
  unfold p_laws_heldTreeNodeS at hp
  obtain ⟨ee0, hee0, hp⟩ := bind_eq hp
  simp (maxSteps := 2000000) (disch := first|omega|(simp only[ls];first|done|omega)) only [E, gm]
  refine W_loopP 0 (fun s t h => match s with | (s0, s1) => t 0 = .i (.sl 3 (x0.map enc)) ∧ t 1 = .i (.s (.int .i64 s0)) ∧ t 5 = .i (.s (.int .i64 s1))) (RK [.tmp 4] (Tells true)) ?_ hee0 ?_ ?_
  · rintro ⟨s0, s1⟩ ee tt0 hh0 ⟨ftt0_0, ftt0_1, ftt0_2⟩ hp
    rw [p_laws_heldTreeNodeS_l0] at hp
    by_cases hb2 : (decide (s1 < (x0.length : Int))) = true
    · rw [if_t hb2] at hp
      obtain ⟨v3, hv3, hp⟩ := bind_eq hp
      by_cases hb4 : (decide (v3.node = s0)) = true
      · rw [if_t hb4] at hp
        by_cases hb5 : (decide (v3.parent = w64 (s0 + 1))) = true
        · rw [if_t hb5] at hp
          obtain ⟨v6, hv6, hp⟩ := bind_eq hp
          by_cases hb7 : (decide (v3.name = v6)) = true
          · rw [if_t hb7] at hp
            have hp := Option.some.inj hp
            subst hp
            simp (maxSteps := 2000000) (disch := first|omega|(simp only[ls];first|done|omega)) only [E, ftt0_0, ftt0_1, ftt0_2, hb2, hv3, hb4, hb5, hv6, hb7, gm] <;> omega
          · replace hb7 := eq_false_of_ne_true hb7
            rw [if_f hb7] at hp
            have hp := Option.some.inj hp
            subst hp
            simp (maxSteps := 2000000) (disch := first|omega|(simp only[ls];first|done|omega)) only [E, ftt0_0, ftt0_1, ftt0_2, hb2, hv3, hb4, hb5, hv6, hb7, gm]
        · replace hb5 := eq_false_of_ne_true hb5
          rw [if_f hb5] at hp
          have hp := Option.some.inj hp
          subst hp
          simp (maxSteps := 2000000) (disch := first|omega|(simp only[ls];first|done|omega)) only [E, ftt0_0, ftt0_1, ftt0_2, hb2, hv3, hb4, hb5, gm]
      · replace hb4 := eq_false_of_ne_true hb4
        rw [if_f hb4] at hp
        have hp := Option.some.inj hp
        subst hp
        simp (maxSteps := 2000000) (disch := first|omega|(simp only[ls];first|done|omega)) only [E, ftt0_0, ftt0_1, ftt0_2, hb2, hv3, hb4, gm]
    · replace hb2 := eq_false_of_ne_true hb2
      rw [if_f hb2] at hp
      have hp := Option.some.inj hp
      subst hp
      simp (maxSteps := 2000000) (disch := first|omega|(simp only[ls];first|done|omega)) only [E, ftt0_0, ftt0_1, ftt0_2, hb2, gm] <;> omega
  · simp (maxSteps := 2000000) (disch := first|omega|(simp only[ls];first|done|omega)) only [E, gm] <;> omega
  · intro x tt1 hh1 hx
    rcases ee0 with ⟨o8, o9⟩ | r
    · obtain ⟨rfl, ftt1_0, ftt1_1, ftt1_2⟩ := hx
      dsimp only at hp
      have hp := Option.some.inj hp
      subst hp
      simp (maxSteps := 2000000) (disch := first|omega|(simp only[ls];first|done|omega)) only [E, ftt1_0, ftt1_1, ftt1_2, gm]
    · obtain ⟨rfl, hx⟩ := hx
      dsimp only at hp
      cases hp
      simp only [seqK_ret, blockK_ret, retK_RK (K := Tells true), hx, and_self, true_and]

noncomputable def p_laws_heldStampS_l0 (x0 : List TStamp) : Int × Int → Option (Lp (Int × Int) Int)
  | (s0, s1) =>
    if (decide (s1 < (x0.length : Int))) = true then
      (get? x0 s1).bind fun v3 =>
      if (decide (v3.time = s0)) = true then
        if (decide (v3.actor = w64 (s0 + 1))) = true then
          some (.go (w64 ((w64 (s0 + 1)) + 1), w64 (s1 + 1)))
        else
          some (.ret (-1))
      else
        some (.ret (-1))
    else
      some (.out (s0, s1))
noncomputable def p_laws_heldStampS (x0 : List TStamp) (x1 : Int) : Option Int :=
  (loopP (p_laws_heldStampS_l0 x0) (x1, 0)).bind fun ee0 => match ee0 with
  | .ret r => some r
  | .out (o6, o7) =>
    some o6
def c_laws_heldStampS : AFn := ⟨31, (.seq (.ops [(qS 4 (.mv (ic 0)))]) (.seq (.seq (.ops [(qS 5 (.mv (ic 0)))]) (.block 0 (.loop (.seq (.seq (.ops [(qS 6 (.mv (.tmp 5))), (qS 7 (.mv (.tmp 0))), (qS 8 (.len (.tmp 7))), (qS 9 (.pu (.n (.ar .lss)) [(.tmp 6), (.tmp 8)]))]) (.cond (.tmp 9) .skip (.exit 0))) (.seq (.block 1 (.seq (.seq (.ops [(qS 12 (.mv (.tmp 0))), (qS 13 (.mv (.tmp 5))), (qS 14 (.idxS 2 (.tmp 12) (.tmp 13))), (qS 15 (.fieldA 0 (.tmp 14))), (qS 16 (.load 1 false (.tmp 15))), (qS 17 (.mv (.tmp 1))), (qS 18 (.pu (.n (.ar .neq)) [(.tmp 16), (.tmp 17)]))]) (.cond (.tmp 18) (.seq (.ops [(qS 4 (.mv (ic (-1))))]) .ret) .skip)) (.seq (.ops [(qS 19 (.mv (.tmp 1))), (qS 20 (.pu (.n (.ar .add)) [(.tmp 19), (ic 1)])), (qS 1 (.mv (.tmp 20)))]) (.seq (.seq (.ops [(qS 21 (.mv (.tmp 0))), (qS 22 (.mv (.tmp 5))), (qS 23 (.idxS 2 (.tmp 21) (.tmp 22))), (qS 24 (.fieldA 1 (.tmp 23))), (qS 25 (.load 1 false (.tmp 24))), (qS 26 (.mv (.tmp 1))), (qS 27 (.pu (.n (.ar .neq)) [(.tmp 25), (.tmp 26)]))]) (.cond (.tmp 27) (.seq (.ops [(qS 4 (.mv (ic (-1))))]) .ret) .skip)) (.ops [(qS 28 (.mv (.tmp 1))), (qS 29 (.pu (.n (.ar .add)) [(.tmp 28), (ic 1)])), (qS 1 (.mv (.tmp 29)))]))))) (.ops [(qS 10 (.mv (.tmp 5))), (qS 11 (.pu (.n (.ar .add)) [(.tmp 10), (ic 1)])), (qS 5 (.mv (.tmp 11)))])))))) (.seq (.ops [(qS 30 (.mv (.tmp 1))), (qS 4 (.mv (.tmp 30)))]) .ret))), [(.tmp 4)]⟩
set_option maxHeartbeats 10000000 in
theorem d_laws_heldStampS {P : Program} {env : Env}  (x0 : List TStamp) (x1 : Int) {b : Int} (hp : p_laws_heldStampS x0 x1 = some b) : R P env (c_laws_heldStampS) ((encA (x0, x1)).map ofI) [] (Tells true b) := by
  refine R_of (by simp [c_laws_heldStampS, encA]) ?_
  unfold c_laws_heldStampS
  unfold p_laws_heldStampS at hp
  obtain ⟨ee0, hee0, hp⟩ := bind_eq hp
  simp (maxSteps := 2000000) (disch := first|omega|(simp only[ls];first|done|omega)) only [gm]
  refine W_loopP 0 (fun s t h => match s with | (s0, s1) => t 0 = .i (.sl 2 (x0.map enc)) ∧ t 1 = .i (.s (.int .i64 s0)) ∧ t 5 = .i (.s (.int .i64 s1))) (RK [.tmp 4] (Tells true)) ?_ hee0 ?_ ?_
  · rintro ⟨s0, s1⟩ ee tt0 hh0 ⟨ftt0_0, ftt0_1, ftt0_2⟩ hp
    rw [p_laws_heldStampS_l0] at hp
    by_cases hb2 : (decide (s1 < (x0.length : Int))) = true
    · rw [if_t hb2] at hp
      obtain ⟨v3, hv3, hp⟩ := bind_eq hp
      by_cases hb4 : (decide (v3.time = s0)) = true
      · rw [if_t hb4] at hp
        by_cases hb5 : (decide (v3.actor = w64 (s0 + 1))) = true
        · rw [if_t hb5] at hp
          have hp := Option.some.inj hp
          subst hp
          simp (maxSteps := 2000000) (disch := first|omega|(simp only[ls];first|done|omega)) only [ftt0_0, ftt0_1, ftt0_2, hb2, hv3, hb4, hb5, gm] <;> omega
        · replace hb5 := eq_false_of_ne_true hb5
          rw [if_f hb5] at hp
          have hp := Option.some.inj hp
          subst hp
          simp (maxSteps := 2000000) (disch := first|omega|(simp only[ls];first|done|omega)) only [ftt0_0, ftt0_1, ftt0_2, hb2, hv3, hb4, hb5, gm]
      · replace hb4 := eq_false_of_ne_true hb4
        rw [if_f hb4] at hp
        have hp := Option.some.inj hp
        subst hp
        simp (maxSteps := 2000000) (disch := first|omega|(simp only[ls];first|done|omega)) only [ftt0_0, ftt0_1, ftt0_2, hb2, hv3, hb4, gm]
    · replace hb2 := eq_false_of_ne_true hb2
      rw [if_f hb2] at hp
      have hp := Option.some.inj hp
      subst hp
      simp (maxSteps := 2000000) (disch := first|omega|(simp only[ls];first|done|omega)) only [ftt0_0, ftt0_1, ftt0_2, hb2, gm] <;> omega
  · simp (maxSteps := 2000000) (disch := first|omega|(simp only[ls];first|done|omega)) only [gm] <;> omega
  · intro x tt1 hh1 hx
    rcases ee0 with ⟨o6, o7⟩ | r
    · obtain ⟨rfl, ftt1_0, ftt1_1, ftt1_2⟩ := hx
      dsimp only at hp
      have hp := Option.some.inj hp
      subst hp
      simp (maxSteps := 2000000) (disch := first|omega|(simp only[ls];first|done|omega)) only [ftt1_0, ftt1_1, ftt1_2, gm]
    · obtain ⟨rfl, hx⟩ := hx
      dsimp only at hp
      cases hp
      simp only [seqK_ret, blockK_ret, retK_RK (K := Tells true), hx, and_self, true_and]

noncomputable def p_laws_FnExactTreeOf (x0 : List TMove) : Option Bool :=
  (p_laws_szMoveOpS x0 1048576).bind fun v0 =>
  if (decide (v0 < 0)) = true then
    some true
  else
    (p_laws_toMoveOpS x0).bind fun v2 =>
    (p_spec_TreeOf v2).bind fun v3 =>
    (p_impl_TreeOf v2).bind fun v4 =>
    (p_laws_eqTreeNodeS v4.a v3.a).bind fun v5 =>
    if (v5) = true then
      (p_laws_eqStampS v4.b v3.b).bind fun v7 =>
      if (v7) = true then
        if (decide (v4.c = v3.c)) = true then
          (p_laws_eqMoveOpS v2 v2).bind fun v10 =>
          if (v10) = true then
            (p_laws_markMoveOpS v2 1).bind fun v12 =>
            if (decide (v12.a < 0)) = true then
              some false
            else
              (p_laws_markTreeNodeS v4.a 1).bind fun v14 =>
              (p_laws_markStampS v4.b v14.a).bind fun v15 =>
              (p_laws_heldTreeNodeS v14.b 1).bind fun v16 =>
              if (decide (v16 < 0)) = true then
                some false
              else
                (p_laws_heldStampS v15.b v16).bind fun v18 =>
                if (decide (v18 < 0)) = true then
                  some false
                else
                  if (decide (v18 = v15.a)) = true then
                    some true
                  else
                    some false
          else
            some false
        else
          some false
      else
        some false
    else
      some false
def c_laws_FnExactTreeOf (f_laws_szMoveOpS : Nat) (f_laws_toMoveOpS : Nat) (f_spec_TreeOf : Nat) (f_impl_TreeOf : Nat) (f_laws_eqTreeNodeS : Nat) (f_laws_eqStampS : Nat) (f_laws_eqMoveOpS : Nat) (f_laws_markMoveOpS : Nat) (f_laws_markTreeNodeS : Nat) (f_laws_markStampS : Nat) (f_laws_heldTreeNodeS : Nat) (f_laws_heldStampS : Nat) : AFn := ⟨133, (.seq (.ops [(qS 2 (.mv (.const (.bool false))))]) (.seq (.ops [(qS 3 (.mv (ic 1048576)))]) (.seq (.ops [(qS 17 (.mv (.tmp 0))), (qS 18 (.mv (.tmp 3))), (qS 19 (.call (2 * f_laws_szMoveOpS) [(.tmp 17), (.tmp 18)])), (qS 3 (.mv (.tmp 19)))]) (.seq (.seq (.ops [(qS 20 (.mv (.tmp 3))), (qS 21 (.pu (.n (.ar .lss)) [(.tmp 20), (ic 0)]))]) (.cond (.tmp 21) (.seq (.ops [(qS 2 (.mv (.const (.bool true))))]) .ret) .skip)) (.seq (.ops [(qS 23 (.mv (.tmp 0))), (qS 24 (.call (2 * f_laws_toMoveOpS) [(.tmp 23)])), (qS 25 (.call (2 * f_spec_TreeOf) [(.tmp 24)])), (qS 22 (.mv (.tmp 25))), (qS 26 (.extract 0 (.tmp 22))), (qS 27 (.extract 1 (.tmp 22))), (qS 28 (.extract 2 (.tmp 22))), (qS 4 (.mv (.tmp 26))), (qS 5 (.mv (.tmp 27))), (qS 6 (.mv (.tmp 28)))]) (.seq (.ops [(qS 29 (.mv (.tmp 0))), (qS 30 (.call (2 * f_laws_toMoveOpS + 1) [(.tmp 29)])), (qS 7 (.mv (.tmp 30)))]) (.seq (.ops [(qS 32 (.mv (.tmp 7))), (qS 33 (.call (2 * f_impl_TreeOf + 1) [(.tmp 32)])), (qS 31 (.mv (.tmp 33))), (qS 34 (.extract 0 (.tmp 31))), (qS 35 (.extract 1 (.tmp 31))), (qS 36 (.extract 2 (.tmp 31))), (qS 8 (.mv (.tmp 34))), (qS 9 (.mv (.tmp 35))), (qS 10 (.mv (.tmp 36)))]) (.seq (.seq (.ops [(qS 37 (.mv (.tmp 8))), (qS 38 (.mv (.tmp 4))), (qS 39 (.call (2 * f_laws_eqTreeNodeS) [(.tmp 37), (.tmp 38)])), (qS 40 (.pu (.n (.un .not)) [(.tmp 39)])), (qS 41 (.mv (.tmp 40))), ⟨(.some 42), (.mv (.tmp 9)), (.some (41, false)), [], .none⟩, ⟨(.some 43), (.mv (.tmp 5)), (.some (41, false)), [], .none⟩, ⟨(.some 44), (.call (2 * f_laws_eqStampS) [(.tmp 42), (.tmp 43)]), (.some (41, false)), [], .none⟩, ⟨(.some 45), (.pu (.n (.un .not)) [(.tmp 44)]), (.some (41, false)), [], .none⟩, (qS 46 (.pick (.tmp 41) (.const (.bool true)) (.tmp 45))), (qS 47 (.mv (.tmp 46))), ⟨(.some 48), (.mv (.tmp 10)), (.some (47, false)), [], .none⟩, ⟨(.some 49), (.mv (.tmp 6)), (.some (47, false)), [], .none⟩, ⟨(.some 50), (.pu (.n (.ar .neq)) [(.tmp 48), (.tmp 49)]), (.some (47, false)), [], .none⟩, (qS 51 (.pick (.tmp 47) (.const (.bool true)) (.tmp 50)))]) (.cond (.tmp 51) (.seq (.ops [(qS 2 (.mv (.const (.bool false))))]) .ret) .skip)) (.seq (.seq (.ops [(qS 52 (.mv (.tmp 7))), (qS 53 (.mv (.tmp 0))), (qS 54 (.call (2 * f_laws_toMoveOpS + 1) [(.tmp 53)])), (qS 55 (.call (2 * f_laws_eqMoveOpS) [(.tmp 52), (.tmp 54)])), (qS 56 (.pu (.n (.un .not)) [(.tmp 55)]))]) (.cond (.tmp 56) (.seq (.ops [(qS 2 (.mv (.const (.bool false))))]) .ret) .skip)) (.seq (.ops [(qS 11 (.mv (ic 1)))]) (.seq (.ops [(qS 57 (.mv (.tmp 7))), (qS 58 (.mv (.tmp 11))), (qS 59 (.call (2 * f_laws_markMoveOpS + 1) [(.tmp 57), (.tmp 58)])), (qS 11 (.mv (.tmp 59)))]) (.seq (.seq (.ops [(qS 60 (.mv (.tmp 11))), (qS 61 (.pu (.n (.ar .lss)) [(.tmp 60), (ic 0)])), (qS 62 (.mv (.tmp 61))), ⟨(.some 63), (.mv (.tmp 8)), (.some (62, false)), [], .none⟩, ⟨(.some 64), (.mv (.tmp 4)), (.some (62, false)), [], .none⟩, ⟨(.some 65), (.call (2 * f_laws_eqTreeNodeS) [(.tmp 63), (.tmp 64)]), (.some (62, false)), [], .none⟩, ⟨(.some 66), (.pu (.n (.un .not)) [(.tmp 65)]), (.some (62, false)), [], .none⟩, (qS 67 (.pick (.tmp 62) (.const (.bool true)) (.tmp 66))), (qS 68 (.mv (.tmp 67))), ⟨(.some 69), (.mv (.tmp 9)), (.some (68, false)), [], .none⟩, ⟨(.some 70), (.mv (.tmp 5)), (.some (68, false)), [], .none⟩, ⟨(.some 71), (.call (2 * f_laws_eqStampS) [(.tmp 69), (.tmp 70)]), (.some (68, false)), [], .none⟩, ⟨(.some 72), (.pu (.n (.un .not)) [(.tmp 71)]), (.some (68, false)), [], .none⟩, (qS 73 (.pick (.tmp 68) (.const (.bool true)) (.tmp 72))), (qS 74 (.mv (.tmp 73))), ⟨(.some 75), (.mv (.tmp 10)), (.some (74, false)), [], .none⟩, ⟨(.some 76), (.mv (.tmp 6)), (.some (74, false)), [], .none⟩, ⟨(.some 77), (.pu (.n (.ar .neq)) [(.tmp 75), (.tmp 76)]), (.some (74, false)), [], .none⟩, (qS 78 (.pick (.tmp 74) (.const (.bool true)) (.tmp 77)))]) (.cond (.tmp 78) (.seq (.ops [(qS 2 (.mv (.const (.bool false))))]) .ret) .skip)) (.seq (.ops [(qS 12 (.mv (ic 1)))]) (.seq (.ops [(qS 79 (.mv (.tmp 8))), (qS 80 (.mv (.tmp 12))), (qS 81 (.call (2 * f_laws_markTreeNodeS + 1) [(.tmp 79), (.tmp 80)])), (qS 12 (.mv (.tmp 81)))]) (.seq (.ops [(qS 82 (.mv (.tmp 9))), (qS 83 (.mv (.tmp 12))), (qS 84 (.call (2 * f_laws_markStampS + 1) [(.tmp 82), (.tmp 83)])), (qS 12 (.mv (.tmp 84)))]) (.seq (.ops [(qS 13 (.mv (ic 1)))]) (.seq (.ops [(qS 85 (.mv (.tmp 8))), (qS 86 (.mv (.tmp 13))), (qS 87 (.call (2 * f_laws_heldTreeNodeS) [(.tmp 85), (.tmp 86)])), (qS 13 (.mv (.tmp 87)))]) (.seq (.seq (.ops [(qS 88 (.mv (.tmp 13))), (qS 89 (.pu (.n (.ar .lss)) [(.tmp 88), (ic 0)]))]) (.cond (.tmp 89) (.seq (.ops [(qS 2 (.mv (.const (.bool false))))]) .ret) .skip)) (.seq (.ops [(qS 90 (.mv (.tmp 9))), (qS 91 (.mv (.tmp 13))), (qS 92 (.call (2 * f_laws_heldStampS) [(.tmp 90), (.tmp 91)])), (qS 13 (.mv (.tmp 92)))]) (.seq (.seq (.ops [(qS 93 (.mv (.tmp 13))), (qS 94 (.pu (.n (.ar .lss)) [(.tmp 93), (ic 0)]))]) (.cond (.tmp 94) (.seq (.ops [(qS 2 (.mv (.const (.bool false))))]) .ret) .skip)) (.seq (.seq (.ops [(qS 95 (.mv (.tmp 13))), (qS 96 (.mv (.tmp 12))), (qS 97 (.pu (.n (.ar .neq)) [(.tmp 95), (.tmp 96)]))]) (.cond (.tmp 97) (.seq (.ops [(qS 2 (.mv (.const (.bool false))))]) .ret) .skip)) (.seq (.ops [(qS 99 (.mv (.tmp 0))), (qS 100 (.call (2 * f_laws_toMoveOpS + 1) [(.tmp 99)])), (qS 101 (.call (2 * f_impl_TreeOf + 1) [(.tmp 100)])), (qS 98 (.mv (.tmp 101))), (qS 102 (.extract 0 (.tmp 98))), (qS 103 (.extract 1 (.tmp 98))), (qS 104 (.extract 2 (.tmp 98))), (qS 14 (.mv (.tmp 102))), (qS 15 (.mv (.tmp 103))), (qS 16 (.mv (.tmp 104)))]) (.seq (.seq (.ops [(qS 105 (.mv (.tmp 14))), (qS 106 (.mv (.tmp 4))), (qS 107 (.call (2 * f_laws_eqTreeNodeS) [(.tmp 105), (.tmp 106)])), (qS 108 (.pu (.n (.un .not)) [(.tmp 107)])), (qS 109 (.mv (.tmp 108))), ⟨(.some 110), (.mv (.tmp 15)), (.some (109, false)), [], .none⟩, ⟨(.some 111), (.mv (.tmp 5)), (.some (109, false)), [], .none⟩, ⟨(.some 112), (.call (2 * f_laws_eqStampS) [(.tmp 110), (.tmp 111)]), (.some (109, false)), [], .none⟩, ⟨(.some 113), (.pu (.n (.un .not)) [(.tmp 112)]), (.some (109, false)), [], .none⟩, (qS 114 (.pick (.tmp 109) (.const (.bool true)) (.tmp 113))), (qS 115 (.mv (.tmp 114))), ⟨(.some 116), (.mv (.tmp 16)), (.some (115, false)), [], .none⟩, ⟨(.some 117), (.mv (.tmp 6)), (.some (115, false)), [], .none⟩, ⟨(.some 118), (.pu (.n (.ar .neq)) [(.tmp 116), (.tmp 117)]), (.some (115, false)), [], .none⟩, (qS 119 (.pick (.tmp 115) (.const (.bool true)) (.tmp 118)))]) (.cond (.tmp 119) (.seq (.ops [(qS 2 (.mv (.const (.bool false))))]) .ret) .skip)) (.seq (.ops [(qS 13 (.mv (ic 1)))]) (.seq (.ops [(qS 120 (.mv (.tmp 8))), (qS 121 (.mv (.tmp 13))), (qS 122 (.call (2 * f_laws_heldTreeNodeS) [(.tmp 120), (.tmp 121)])), (qS 13 (.mv (.tmp 122)))]) (.seq (.seq (.ops [(qS 123 (.mv (.tmp 13))), (qS 124 (.pu (.n (.ar .lss)) [(.tmp 123), (ic 0)]))]) (.cond (.tmp 124) (.seq (.ops [(qS 2 (.mv (.const (.bool false))))]) .ret) .skip)) (.seq (.ops [(qS 125 (.mv (.tmp 9))), (qS 126 (.mv (.tmp 13))), (qS 127 (.call (2 * f_laws_heldStampS) [(.tmp 125), (.tmp 126)])), (qS 13 (.mv (.tmp 127)))]) (.seq (.seq (.ops [(qS 128 (.mv (.tmp 13))), (qS 129 (.pu (.n (.ar .lss)) [(.tmp 128), (ic 0)]))]) (.cond (.tmp 129) (.seq (.ops [(qS 2 (.mv (.const (.bool false))))]) .ret) .skip)) (.seq (.seq (.ops [(qS 130 (.mv (.tmp 13))), (qS 131 (.mv (.tmp 12))), (qS 132 (.pu (.n (.ar .neq)) [(.tmp 130), (.tmp 131)]))]) (.cond (.tmp 132) (.seq (.ops [(qS 2 (.mv (.const (.bool false))))]) .ret) .skip)) (.seq (.ops [(qS 2 (.mv (.const (.bool true))))]) .ret)))))))))))))))))))))))))))))), [(.tmp 2)]⟩
set_option maxHeartbeats 10000000 in
theorem d_laws_FnExactTreeOf {P : Program} {env : Env} {f_laws_szMoveOpS : Nat} {f_laws_toMoveOpS : Nat} {f_spec_TreeOf : Nat} {f_impl_TreeOf : Nat} {f_laws_eqTreeNodeS : Nat} {f_laws_eqStampS : Nat} {f_laws_eqMoveOpS : Nat} {f_laws_markMoveOpS : Nat} {f_laws_markTreeNodeS : Nat} {f_laws_markStampS : Nat} {f_laws_heldTreeNodeS : Nat} {f_laws_heldStampS : Nat}  (ep_laws_szMoveOpS : env (2 * f_laws_szMoveOpS) = pureFn true (FA fun a : List TMove × Int => p_laws_szMoveOpS a.1 a.2)) (ep_laws_toMoveOpS : env (2 * f_laws_toMoveOpS) = pureFn true (FA fun a : List TMove => p_laws_toMoveOpS a)) (ep_spec_TreeOf : env (2 * f_spec_TreeOf) = pureFn false (FA fun a : List TMove => p_spec_TreeOf a)) (ep_laws_eqTreeNodeS : env (2 * f_laws_eqTreeNodeS) = pureFn true (FA fun a : List TNode × List TNode => p_laws_eqTreeNodeS a.1 a.2)) (ep_laws_eqStampS : env (2 * f_laws_eqStampS) = pureFn true (FA fun a : List TStamp × List TStamp => p_laws_eqStampS a.1 a.2)) (ep_laws_eqMoveOpS : env (2 * f_laws_eqMoveOpS) = pureFn true (FA fun a : List TMove × List TMove => p_laws_eqMoveOpS a.1 a.2)) (ep_laws_heldTreeNodeS : env (2 * f_laws_heldTreeNodeS) = pureFn true (FA fun a : List TNode × Int => p_laws_heldTreeNodeS a.1 a.2)) (ep_laws_heldStampS : env (2 * f_laws_heldStampS) = pureFn true (FA fun a : List TStamp × Int => p_laws_heldStampS a.1 a.2)) (e_laws_toMoveOpS : k_laws_toMoveOpS (env (2 * f_laws_toMoveOpS + 1))) (e_impl_TreeOf : k_impl_TreeOf (env (2 * f_impl_TreeOf + 1))) (e_laws_markMoveOpS : k_laws_markMoveOpS (env (2 * f_laws_markMoveOpS + 1))) (e_laws_markTreeNodeS : k_laws_markTreeNodeS (env (2 * f_laws_markTreeNodeS + 1))) (e_laws_markStampS : k_laws_markStampS (env (2 * f_laws_markStampS + 1))) (x0 : List TMove) (hp : p_laws_FnExactTreeOf x0 = some true) : R P env (c_laws_FnExactTreeOf f_laws_szMoveOpS f_laws_toMoveOpS f_spec_TreeOf f_impl_TreeOf f_laws_eqTreeNodeS f_laws_eqStampS f_laws_eqMoveOpS f_laws_markMoveOpS f_laws_markTreeNodeS f_laws_markStampS f_laws_heldTreeNodeS f_laws_heldStampS) ((encA (x0)).map ofI) [] (fun v _ => v = .i (iB true)) := by
  refine R_of (by simp [c_laws_FnExactTreeOf, encA]) ?_
  have E := And.intro ep_laws_szMoveOpS (And.intro ep_laws_toMoveOpS (And.intro ep_spec_TreeOf (And.intro ep_laws_eqTreeNodeS (And.intro ep_laws_eqStampS (And.intro ep_laws_eqMoveOpS (And.intro ep_laws_heldTreeNodeS ep_laws_heldStampS))))))
  unfold c_laws_FnExactTreeOf
  unfold p_laws_FnExactTreeOf at hp
  obtain ⟨v0, hv0, hp⟩ := bind_eq hp
  by_cases hb1 : (decide (v0 < 0)) = true
  · rw [if_t hb1] at hp
    cases hp
    simp (maxSteps := 2000000) (disch := first|omega|(simp only[ls];first|done|omega)) only [E, hv0, hb1, gm]
  · replace hb1 := eq_false_of_ne_true hb1
    rw [if_f hb1] at hp
    obtain ⟨v2, hv2, hp⟩ := bind_eq hp
    obtain ⟨v3, hv3, hp⟩ := bind_eq hp
    simp (maxSteps := 2000000) (disch := first|omega|(simp only[ls];first|done|omega)) only [E, hv0, hb1, hv2, hv3, gm]
    refine call_f (fun h => True) (fun h v h2 => oo_laws_toMoveOpS v2 h v h2) ?_ ?_ ?_
    · simp (maxSteps := 2000000) (disch := first|omega|(simp only[ls];first|done|omega)) only [E, hv0, hb1, hv2, hv3, gm] <;> omega
    · rintro h _
      exact e_laws_toMoveOpS _ _ hv2 h _ (by simp (maxSteps := 2000000) (disch := first|omega|(simp only[ls];first|done|omega)) only [E, hv0, hb1, hv2, hv3, gm])
    · rintro hc0 v hh0 _ hpost
      obtain ⟨kk0, nb0_0, rfl, lnb0_0, gnb0_0, wnb0_0⟩ := hpost
      have d0_0 := wnb0_0
      obtain ⟨v4, hv4, hp⟩ := bind_eq hp
      simp (maxSteps := 2000000) (disch := first|omega|(simp only[ls];first|done|omega)) only [E, hv0, hb1, hv2, hv3, d0_0, gm]
      refine call_f (fun h => getCells h nb0_0 (v2.length * 5) = some (rows (v2 : List TMove)) ∧ nb0_0 < h.length) (fun h v h2 => oo_impl_TreeOf v4 h v h2) ?_ ?_ ?_
      · simp (maxSteps := 2000000) (disch := first|omega|(simp only[ls];first|done|omega)) only [E, hv0, hb1, hv2, hv3, d0_0, hv4, gm] <;> omega
      · rintro h ⟨c1_0, c1_1⟩
        exact e_impl_TreeOf _ _ hv4 h _ (by simp (maxSteps := 2000000) (disch := first|omega|(simp only[ls];first|done|omega)) only [E, hv0, hb1, hv2, hv3, d0_0, hv4, c1_0, c1_1, gm])
      · rintro hc1 v hh1 ⟨c1_0, c1_1⟩ hpost
        obtain ⟨kk1, nb1_0, nb1_1, rfl, lnb1_0, gnb1_0, wnb1_0, lnb1_1, gnb1_1, wnb1_1, ne1_1_0⟩ := hpost
        have d1_0 : getCells hh1 nb0_0 (v2.length * 5) = some (rows (v2 : List TMove)) := (keep_get kk1 c1_1 (by first | (simp; done) | (simp; omega))).trans c1_0
        have d1_0l := keep_lt kk1 c1_1
        have d1_1 := wnb1_0
        have d1_2 := wnb1_1
        obtain ⟨v5, hv5, hp⟩ := bind_eq hp
        by_cases hb6 : (v5) = true
        · rw [if_t hb6] at hp
          obtain ⟨v7, hv7, hp⟩ := bind_eq hp
          by_cases hb8 : (v7) = true
          · rw [if_t hb8] at hp
            by_cases hb9 : (decide (v4.c = v3.c)) = true
            · rw [if_t hb9] at hp
              simp (maxSteps := 2000000) (disch := first|omega|(simp only[ls];first|done|omega)) only [E, hv0, hb1, hv2, hv3, d0_0, hv4, d1_0, d1_1, d1_2, hv5, hb6, hv7, hb8, hb9, gm]
              refine call_f (fun h => getCells h nb0_0 (v2.length * 5) = some (rows (v2 : List TMove)) ∧ nb0_0 < h.length ∧ getCells h nb1_0 (v4.a.length * 3) = some (rows (v4.a : List TNode)) ∧ nb1_0 < h.length ∧ getCells h nb1_1 (v4.b.length * 2) = some (rows (v4.b : List TStamp)) ∧ nb1_1 < h.length) (fun h v h2 => oo_laws_toMoveOpS v2 h v h2) ?_ ?_ ?_
              · simp (maxSteps := 2000000) (disch := first|omega|(simp only[ls];first|done|omega)) only [E, hv0, hb1, hv2, hv3, d0_0, hv4, d1_0, d1_1, d1_2, hv5, hb6, hv7, hb8, hb9, gm] <;> omega
              · rintro h ⟨c2_0, c2_1, c2_2, c2_3, c2_4, c2_5⟩
                exact e_laws_toMoveOpS _ _ hv2 h _ (by simp (maxSteps := 2000000) (disch := first|omega|(simp only[ls];first|done|omega)) only [E, hv0, hb1, hv2, hv3, d0_0, hv4, d1_0, d1_1, d1_2, hv5, hb6, hv7, hb8, hb9, c2_0, c2_1, c2_2, c2_3, c2_4, c2_5, gm])
              · rintro hc2 v hh2 ⟨c2_0, c2_1, c2_2, c2_3, c2_4, c2_5⟩ hpost
                obtain ⟨kk2, nb2_0, rfl, lnb2_0, gnb2_0, wnb2_0⟩ := hpost
                have d2_0 : getCells hh2 nb0_0 (v2.length * 5) = some (rows (v2 : List TMove)) := (keep_get kk2 c2_1 (by first | (simp; done) | (simp; omega))).trans c2_0
                have d2_0l := keep_lt kk2 c2_1
                have d2_1 : getCells hh2 nb1_0 (v4.a.length * 3) = some (rows (v4.a : List TNode)) := (keep_get kk2 c2_3 (by first | (simp; done) | (simp; omega))).trans c2_2
                have d2_1l := keep_lt kk2 c2_3
                have d2_2 : getCells hh2 nb1_1 (v4.b.length * 2) = some (rows (v4.b : List TStamp)) := (keep_get kk2 c2_5 (by first | (simp; done) | (simp; omega))).trans c2_4
                have d2_2l := keep_lt kk2 c2_5
                have d2_3 := wnb2_0
                obtain ⟨v10, hv10, hp⟩ := bind_eq hp
                by_cases hb11 : (v10) = true
                · rw [if_t hb11] at hp
                  obtain ⟨v12, hv12, hp⟩ := bind_eq hp
                  simp (maxSteps := 2000000) (disch := first|omega|(simp only[ls];first|done|omega)) only [E, hv0, hb1, hv2, hv3, d0_0, hv4, d1_0, d1_1, d1_2, hv5, hb6, hv7, hb8, hb9, d2_0, d2_1, d2_2, d2_3, hv10, hb11, gm]
                  refine call_f (fun h => getCells h nb0_0 (v2.length * 5) = some (rows (v2 : List TMove)) ∧ nb0_0 < h.length ∧ getCells h nb1_0 (v4.a.length * 3) = some (rows (v4.a : List TNode)) ∧ nb1_0 < h.length ∧ getCells h nb1_1 (v4.b.length * 2) = some (rows (v4.b : List TStamp)) ∧ nb1_1 < h.length ∧ getCells h nb2_0 (v2.length * 5) = some (rows (v2 : List TMove)) ∧ nb2_0 < h.length) (fun h v h2 => i_laws_markMoveOpS nb0_0 v2.length h v12 v h2) ?_ ?_ ?_
                  · simp (maxSteps := 2000000) (disch := first|omega|(simp only[ls];first|done|omega)) only [E, hv0, hb1, hv2, hv3, d0_0, hv4, d1_0, d1_1, d1_2, hv5, hb6, hv7, hb8, hb9, d2_0, d2_1, d2_2, d2_3, hv10, hb11, hv12, gm] <;> omega
                  · rintro h ⟨c3_0, c3_1, c3_2, c3_3, c3_4, c3_5, c3_6, c3_7⟩
                    exact e_laws_markMoveOpS _ _ _ hv12 nb0_0 v2.length h (by first | omega | rfl) c3_0
                  · rintro hc3 v hh3 ⟨c3_0, c3_1, c3_2, c3_3, c3_4, c3_5, c3_6, c3_7⟩ hpost
                    obtain ⟨kk3, rfl, w3_0⟩ := hpost
                    have d3_0 : getCells hh3 nb0_0 (v2.length * 5) = some (rows (v12.b : List TMove)) := w3_0
                    have mm3_0 := len_rows w3_0
                    simp only [zs] at mm3_0
                    have d3_0l := keep_lt kk3 c3_1
                    have d3_1 : getCells hh3 nb1_0 (v4.a.length * 3) = some (rows (v4.a : List TNode)) := (keep_get kk3 c3_3 (by first | (simp; done) | (simp; omega))).trans c3_2
                    have d3_1l := keep_lt kk3 c3_3
                    have d3_2 : getCells hh3 nb1_1 (v4.b.length * 2) = some (rows (v4.b : List TStamp)) := (keep_get kk3 c3_5 (by first | (simp; done) | (simp; omega))).trans c3_4
                    have d3_2l := keep_lt kk3 c3_5
                    have d3_3 : getCells hh3 nb2_0 (v2.length * 5) = some (rows (v2 : List TMove)) := (keep_get kk3 c3_7 (by first | (simp; done) | (simp; omega))).trans c3_6
                    have d3_3l := keep_lt kk3 c3_7
                    by_cases hb13 : (decide (v12.a < 0)) = true
                    · rw [if_t hb13] at hp
                      cases hp
                    · replace hb13 := eq_false_of_ne_true hb13
                      rw [if_f hb13] at hp
                      obtain ⟨v14, hv14, hp⟩ := bind_eq hp
                      simp (maxSteps := 2000000) (disch := first|omega|(simp only[ls];first|done|omega)) only [E, hv0, hb1, hv2, hv3, d0_0, hv4, d1_0, d1_1, d1_2, hv5, hb6, hv7, hb8, hb9, d2_0, d2_1, d2_2, d2_3, hv10, hb11, hv12, d3_0, d3_1, d3_2, d3_3, hb13, gm]
                      refine call_f (fun h => getCells h nb0_0 (v2.length * 5) = some (rows (v12.b : List TMove)) ∧ nb0_0 < h.length ∧ getCells h nb1_0 (v4.a.length * 3) = some (rows (v4.a : List TNode)) ∧ nb1_0 < h.length ∧ getCells h nb1_1 (v4.b.length * 2) = some (rows (v4.b : List TStamp)) ∧ nb1_1 < h.length ∧ getCells h nb2_0 (v2.length * 5) = some (rows (v2 : List TMove)) ∧ nb2_0 < h.length) (fun h v h2 => i_laws_markTreeNodeS nb1_0 v4.a.length h v14 v h2) ?_ ?_ ?_
                      · simp (maxSteps := 2000000) (disch := first|omega|(simp only[ls];first|done|omega)) only [E, hv0, hb1, hv2, hv3, d0_0, hv4, d1_0, d1_1, d1_2, hv5, hb6, hv7, hb8, hb9, d2_0, d2_1, d2_2, d2_3, hv10, hb11, hv12, d3_0, d3_1, d3_2, d3_3, hb13, hv14, gm] <;> omega
                      · rintro h ⟨c4_0, c4_1, c4_2, c4_3, c4_4, c4_5, c4_6, c4_7⟩
                        exact e_laws_markTreeNodeS _ _ _ hv14 nb1_0 v4.a.length h (by first | omega | rfl) c4_2
                      · rintro hc4 v hh4 ⟨c4_0, c4_1, c4_2, c4_3, c4_4, c4_5, c4_6, c4_7⟩ hpost
                        obtain ⟨kk4, rfl, w4_0⟩ := hpost
                        have d4_0 : getCells hh4 nb0_0 (v2.length * 5) = some (rows (v12.b : List TMove)) := (keep_get kk4 c4_1 (by first | (simp; done) | (simp; omega))).trans c4_0
                        have d4_0l := keep_lt kk4 c4_1
                        have d4_1 : getCells hh4 nb1_0 (v4.a.length * 3) = some (rows (v14.b : List TNode)) := w4_0
                        have mm4_0 := len_rows w4_0
                        simp only [zs] at mm4_0
                        have d4_1l := keep_lt kk4 c4_3
                        have d4_2 : getCells hh4 nb1_1 (v4.b.length * 2) = some (rows (v4.b : List TStamp)) := (keep_get kk4 c4_5 (by first | (simp; done) | (simp; omega))).trans c4_4
                        have d4_2l := keep_lt kk4 c4_5
                        have d4_3 : getCells hh4 nb2_0 (v2.length * 5) = some (rows (v2 : List TMove)) := (keep_get kk4 c4_7 (by first | (simp; done) | (simp; omega))).trans c4_6
                        have d4_3l := keep_lt kk4 c4_7
                        obtain ⟨v15, hv15, hp⟩ := bind_eq hp
                        simp (maxSteps := 2000000) (disch := first|omega|(simp only[ls];first|done|omega)) only [E, hv0, hb1, hv2, hv3, d0_0, hv4, d1_0, d1_1, d1_2, hv5, hb6, hv7, hb8, hb9, d2_0, d2_1, d2_2, d2_3, hv10, hb11, hv12, d3_0, d3_1, d3_2, d3_3, hb13, hv14, d4_0, d4_1, d4_2, d4_3, gm]
                        refine call_f (fun h => getCells h nb0_0 (v2.length * 5) = some (rows (v12.b : List TMove)) ∧ nb0_0 < h.length ∧ getCells h nb1_0 (v4.a.length * 3) = some (rows (v14.b : List TNode)) ∧ nb1_0 < h.length ∧ getCells h nb1_1 (v4.b.length * 2) = some (rows (v4.b : List TStamp)) ∧ nb1_1 < h.length ∧ getCells h nb2_0 (v2.length * 5) = some (rows (v2 : List TMove)) ∧ nb2_0 < h.length) (fun h v h2 => i_laws_markStampS nb1_1 v4.b.length h v15 v h2) ?_ ?_ ?_
                        · simp (maxSteps := 2000000) (disch := first|omega|(simp only[ls];first|done|omega)) only [E, hv0, hb1, hv2, hv3, d0_0, hv4, d1_0, d1_1, d1_2, hv5, hb6, hv7, hb8, hb9, d2_0, d2_1, d2_2, d2_3, hv10, hb11, hv12, d3_0, d3_1, d3_2, d3_3, hb13, hv14, d4_0, d4_1, d4_2, d4_3, hv15, gm] <;> omega
                        · rintro h ⟨c5_0, c5_1, c5_2, c5_3, c5_4, c5_5, c5_6, c5_7⟩
                          exact e_laws_markStampS _ _ _ hv15 nb1_1 v4.b.length h (by first | omega | rfl) c5_4
                        · rintro hc5 v hh5 ⟨c5_0, c5_1, c5_2, c5_3, c5_4, c5_5, c5_6, c5_7⟩ hpost
                          obtain ⟨kk5, rfl, w5_0⟩ := hpost
                          have d5_0 : getCells hh5 nb0_0 (v2.length * 5) = some (rows (v12.b : List TMove)) := (keep_get kk5 c5_1 (by first | (simp; done) | (simp; omega))).trans c5_0
                          have d5_0l := keep_lt kk5 c5_1
                          have d5_1 : getCells hh5 nb1_0 (v4.a.length * 3) = some (rows (v14.b : List TNode)) := (keep_get kk5 c5_3 (by first | (simp; done) | (simp; omega))).trans c5_2
                          have d5_1l := keep_lt kk5 c5_3
                          have d5_2 : getCells hh5 nb1_1 (v4.b.length * 2) = some (rows (v15.b : List TStamp)) := w5_0
                          have mm5_0 := len_rows w5_0
                          simp only [zs] at mm5_0
                          have d5_2l := keep_lt kk5 c5_5
                          have d5_3 : getCells hh5 nb2_0 (v2.length * 5) = some (rows (v2 : List TMove)) := (keep_get kk5 c5_7 (by first | (simp; done) | (simp; omega))).trans c5_6
                          have d5_3l := keep_lt kk5 c5_7
                          obtain ⟨v16, hv16, hp⟩ := bind_eq hp
                          by_cases hb17 : (decide (v16 < 0)) = true
                          · rw [if_t hb17] at hp
                            cases hp
                          · replace hb17 := eq_false_of_ne_true hb17
                            rw [if_f hb17] at hp
                            obtain ⟨v18, hv18, hp⟩ := bind_eq hp
                            by_cases hb19 : (decide (v18 < 0)) = true
                            · rw [if_t hb19] at hp
                              cases hp
                            · replace hb19 := eq_false_of_ne_true hb19
                              rw [if_f hb19] at hp
                              by_cases hb20 : (decide (v18 = v15.a)) = true
                              · rw [if_t hb20] at hp
                                simp (maxSteps := 2000000) (disch := first|omega|(simp only[ls];first|done|omega)) only [E, hv0, hb1, hv2, hv3, d0_0, hv4, d1_0, d1_1, d1_2, hv5, hb6, hv7, hb8, hb9, d2_0, d2_1, d2_2, d2_3, hv10, hb11, hv12, d3_0, d3_1, d3_2, d3_3, hb13, hv14, d4_0, d4_1, d4_2, d4_3, hv15, d5_0, d5_1, d5_2, d5_3, hv16, hb17, hv18, hb19, hb20, gm]
                                refine call_f (fun h => getCells h nb0_0 (v2.length * 5) = some (rows (v12.b : List TMove)) ∧ nb0_0 < h.length ∧ getCells h nb1_0 (v4.a.length * 3) = some (rows (v14.b : List TNode)) ∧ nb1_0 < h.length ∧ getCells h nb1_1 (v4.b.length * 2) = some (rows (v15.b : List TStamp)) ∧ nb1_1 < h.length ∧ getCells h nb2_0 (v2.length * 5) = some (rows (v2 : List TMove)) ∧ nb2_0 < h.length) (fun h v h2 => oo_laws_toMoveOpS v2 h v h2) ?_ ?_ ?_
                                · simp (maxSteps := 2000000) (disch := first|omega|(simp only[ls];first|done|omega)) only [E, hv0, hb1, hv2, hv3, d0_0, hv4, d1_0, d1_1, d1_2, hv5, hb6, hv7, hb8, hb9, d2_0, d2_1, d2_2, d2_3, hv10, hb11, hv12, d3_0, d3_1, d3_2, d3_3, hb13, hv14, d4_0, d4_1, d4_2, d4_3, hv15, d5_0, d5_1, d5_2, d5_3, hv16, hb17, hv18, hb19, hb20, gm] <;> omega
                                · rintro h ⟨c6_0, c6_1, c6_2, c6_3, c6_4, c6_5, c6_6, c6_7⟩
                                  exact e_laws_toMoveOpS _ _ hv2 h _ (by simp (maxSteps := 2000000) (disch := first|omega|(simp only[ls];first|done|omega)) only [E, hv0, hb1, hv2, hv3, d0_0, hv4, d1_0, d1_1, d1_2, hv5, hb6, hv7, hb8, hb9, d2_0, d2_1, d2_2, d2_3, hv10, hb11, hv12, d3_0, d3_1, d3_2, d3_3, hb13, hv14, d4_0, d4_1, d4_2, d4_3, hv15, d5_0, d5_1, d5_2, d5_3, hv16, hb17, hv18, hb19, hb20, c6_0, c6_1, c6_2, c6_3, c6_4, c6_5, c6_6, c6_7, gm])
                                · rintro hc6 v hh6 ⟨c6_0, c6_1, c6_2, c6_3, c6_4, c6_5, c6_6, c6_7⟩ hpost
                                  obtain ⟨kk6, nb6_0, rfl, lnb6_0, gnb6_0, wnb6_0⟩ := hpost
                                  have d6_0 : getCells hh6 nb0_0 (v2.length * 5) = some (rows (v12.b : List TMove)) := (keep_get kk6 c6_1 (by first | (simp; done) | (simp; omega))).trans c6_0
                                  have d6_0l := keep_lt kk6 c6_1
                                  have d6_1 : getCells hh6 nb1_0 (v4.a.length * 3) = some (rows (v14.b : List TNode)) := (keep_get kk6 c6_3 (by first | (simp; done) | (simp; omega))).trans c6_2
                                  have d6_1l := keep_lt kk6 c6_3
                                  have d6_2 : getCells hh6 nb1_1 (v4.b.length * 2) = some (rows (v15.b : List TStamp)) := (keep_get kk6 c6_5 (by first | (simp; done) | (simp; omega))).trans c6_4
                                  have d6_2l := keep_lt kk6 c6_5
                                  have d6_3 : getCells hh6 nb2_0 (v2.length * 5) = some (rows (v2 : List TMove)) := (keep_get kk6 c6_7 (by first | (simp; done) | (simp; omega))).trans c6_6
                                  have d6_3l := keep_lt kk6 c6_7
                                  have d6_4 := wnb6_0
                                  simp (maxSteps := 2000000) (disch := first|omega|(simp only[ls];first|done|omega)) only [E, hv0, hb1, hv2, hv3, d0_0, hv4, d1_0, d1_1, d1_2, hv5, hb6, hv7, hb8, hb9, d2_0, d2_1, d2_2, d2_3, hv10, hb11, hv12, d3_0, d3_1, d3_2, d3_3, hb13, hv14, d4_0, d4_1, d4_2, d4_3, hv15, d5_0, d5_1, d5_2, d5_3, hv16, hb17, hv18, hb19, hb20, d6_0, d6_1, d6_2, d6_3, d6_4, gm]
                                  refine call_f (fun h => getCells h nb0_0 (v2.length * 5) = some (rows (v12.b : List TMove)) ∧ nb0_0 < h.length ∧ getCells h nb1_0 (v4.a.length * 3) = some (rows (v14.b : List TNode)) ∧ nb1_0 < h.length ∧ getCells h nb1_1 (v4.b.length * 2) = some (rows (v15.b : List TStamp)) ∧ nb1_1 < h.length ∧ getCells h nb2_0 (v2.length * 5) = some (rows (v2 : List TMove)) ∧ nb2_0 < h.length ∧ getCells h nb6_0 (v2.length * 5) = some (rows (v2 : List TMove)) ∧ nb6_0 < h.length) (fun h v h2 => oo_impl_TreeOf v4 h v h2) ?_ ?_ ?_
                                  · simp (maxSteps := 2000000) (disch := first|omega|(simp only[ls];first|done|omega)) only [E, hv0, hb1, hv2, hv3, d0_0, hv4, d1_0, d1_1, d1_2, hv5, hb6, hv7, hb8, hb9, d2_0, d2_1, d2_2, d2_3, hv10, hb11, hv12, d3_0, d3_1, d3_2, d3_3, hb13, hv14, d4_0, d4_1, d4_2, d4_3, hv15, d5_0, d5_1, d5_2, d5_3, hv16, hb17, hv18, hb19, hb20, d6_0, d6_1, d6_2, d6_3, d6_4, gm] <;> omega
                                  · rintro h ⟨c7_0, c7_1, c7_2, c7_3, c7_4, c7_5, c7_6, c7_7, c7_8, c7_9⟩
                                    exact e_impl_TreeOf _ _ hv4 h _ (by simp (maxSteps := 2000000) (disch := first|omega|(simp only[ls];first|done|omega)) only [E, hv0, hb1, hv2, hv3, d0_0, hv4, d1_0, d1_1, d1_2, hv5, hb6, hv7, hb8, hb9, d2_0, d2_1, d2_2, d2_3, hv10, hb11, hv12, d3_0, d3_1, d3_2, d3_3, hb13, hv14, d4_0, d4_1, d4_2, d4_3, hv15, d5_0, d5_1, d5_2, d5_3, hv16, hb17, hv18, hb19, hb20, d6_0, d6_1, d6_2, d6_3, d6_4, c7_0, c7_1, c7_2, c7_3, c7_4, c7_5, c7_6, c7_7, c7_8, c7_9, gm])
                                  · rintro hc7 v hh7 ⟨c7_0, c7_1, c7_2, c7_3, c7_4, c7_5, c7_6, c7_7, c7_8, c7_9⟩ hpost
                                    obtain ⟨kk7, nb7_0, nb7_1, rfl, lnb7_0, gnb7_0, wnb7_0, lnb7_1, gnb7_1, wnb7_1, ne7_1_0⟩ := hpost
                                    have d7_0 : getCells hh7 nb0_0 (v2.length * 5) = some (rows (v12.b : List TMove)) := (keep_get kk7 c7_1 (by first | (simp; done) | (simp; omega))).trans c7_0
                                    have d7_0l := keep_lt kk7 c7_1
                                    have d7_1 : getCells hh7 nb1_0 (v4.a.length * 3) = some (rows (v14.b : List TNode)) := (keep_get kk7 c7_3 (by first | (simp; done) | (simp; omega))).trans c7_2
                                    have d7_1l := keep_lt kk7 c7_3
                                    have d7_2 : getCells hh7 nb1_1 (v4.b.length * 2) = some (rows (v15.b : List TStamp)) := (keep_get kk7 c7_5 (by first | (simp; done) | (simp; omega))).trans c7_4
                                    have d7_2l := keep_lt kk7 c7_5
                                    have d7_3 : getCells hh7 nb2_0 (v2.length * 5) = some (rows (v2 : List TMove)) := (keep_get kk7 c7_7 (by first | (simp; done) | (simp; omega))).trans c7_6
                                    have d7_3l := keep_lt kk7 c7_7
                                    have d7_4 : getCells hh7 nb6_0 (v2.length * 5) = some (rows (v2 : List TMove)) := (keep_get kk7 c7_9 (by first | (simp; done) | (simp; omega))).trans c7_8
                                    have d7_4l := keep_lt kk7 c7_9
                                    have d7_5 := wnb7_0
                                    have d7_6 := wnb7_1
                                    cases hp
                                    simp (maxSteps := 2000000) (disch := first|omega|(simp only[ls];first|done|omega)) only [E, hv0, hb1, hv2, hv3, d0_0, hv4, d1_0, d1_1, d1_2, hv5, hb6, hv7, hb8, hb9, d2_0, d2_1, d2_2, d2_3, hv10, hb11, hv12, d3_0, d3_1, d3_2, d3_3, hb13, hv14, d4_0, d4_1, d4_2, d4_3, hv15, d5_0, d5_1, d5_2, d5_3, hv16, hb17, hv18, hb19, hb20, d6_0, d6_1, d6_2, d6_3, d6_4, d7_0, d7_1, d7_2, d7_3, d7_4, d7_5, d7_6, gm]
                              · replace hb20 := eq_false_of_ne_true hb20
                                rw [if_f hb20] at hp
                                cases hp
                · replace hb11 := eq_false_of_ne_true hb11
                  rw [if_f hb11] at hp
                  cases hp
            · replace hb9 := eq_false_of_ne_true hb9
              rw [if_f hb9] at hp
              cases hp
          · replace hb8 := eq_false_of_ne_true hb8
            rw [if_f hb8] at hp
            cases hp
        · replace hb6 := eq_false_of_ne_true hb6
          rw [if_f hb6] at hp
          cases hp

end Go.AM
