/- Plain functions of Follow and their walks. No condition. -/
import Derived.Test.YtbmeclcmcknbaaaLabPackF
set_option linter.unusedVariables false
set_option linter.unusedSimpArgs false
set_option maxRecDepth 20000
namespace Go.AM
open Pic (enc dec dec_enc dec_sub)
open PicA (encA decA decA_encA decA_sub)
noncomputable def p_laws_szLOpS (x0 : List TLOp) (x1 : Int) : Option Int :=
  if (decide (w64 (x1 - (x0.length : Int)) < 0)) = true then
    some (-1)
  else
    some (w64 (x1 - (x0.length : Int)))
def c_laws_szLOpS : AFn := ⟨12, (.seq (.ops [(qS 4 (.mv (ic 0)))]) (.seq (.ops [(qS 5 (.mv (.tmp 1))), (qS 6 (.mv (.tmp 0))), (qS 7 (.len (.tmp 6))), (qS 8 (.pu (.n (.ar .sub)) [(.tmp 5), (.tmp 7)])), (qS 1 (.mv (.tmp 8)))]) (.seq (.seq (.ops [(qS 9 (.mv (.tmp 1))), (qS 10 (.pu (.n (.ar .lss)) [(.tmp 9), (ic 0)]))]) (.cond (.tmp 10) (.seq (.ops [(qS 4 (.mv (ic (-1))))]) .ret) .skip)) (.seq (.ops [(qS 11 (.mv (.tmp 1))), (qS 4 (.mv (.tmp 11)))]) .ret)))), [(.tmp 4)]⟩
set_option maxHeartbeats 10000000 in
theorem d_laws_szLOpS {P : Program} {env : Env}  (x0 : List TLOp) (x1 : Int) {b : Int} (hp : p_laws_szLOpS x0 x1 = some b) : R P env (c_laws_szLOpS) ((encA (x0, x1)).map ofI) [] (Tells true b) := by
  refine R_of (by simp [c_laws_szLOpS, encA]) ?_
  unfold c_laws_szLOpS
  unfold p_laws_szLOpS at hp
  by_cases hb0 : (decide (w64 (x1 - (x0.length : Int)) < 0)) = true
  · rw [if_t hb0] at hp
    have hp := Option.some.inj hp
    subst hp
    simp (maxSteps := 2000000) (disch := first|omega|(simp only[ls];first|done|omega)) only [hb0, gm]
  · replace hb0 := eq_false_of_ne_true hb0
    rw [if_f hb0] at hp
    have hp := Option.some.inj hp
    subst hp
    simp (maxSteps := 2000000) (disch := first|omega|(simp only[ls];first|done|omega)) only [hb0, gm]

noncomputable def p_laws_toStamp (x0 : TStamp) : Option TStamp :=
  some x0
def c_laws_toStamp : AFn := ⟨11, (.seq (.ops [(qS 1 (.box (.tmp 0))), (qS 2 (.allocV [(0, false), (0, false)] [(.int .i64 0), (.int .i64 0)]))]) (.seq (.ops [(qS 3 (.allocV [(0, false), (0, false)] [(.int .i64 0), (.int .i64 0)]))]) (.seq (.ops [(qS 4 (.fieldA 0 (.tmp 1))), (qS 5 (.load 1 false (.tmp 4))), (qS 6 (.fieldA 0 (.tmp 3))), ⟨.none, (.storeV [(0, false)] 1 (.tmp 6) (.tmp 5)), .none, [], .none⟩]) (.seq (.ops [(qS 7 (.fieldA 1 (.tmp 1))), (qS 8 (.load 1 false (.tmp 7))), (qS 9 (.fieldA 1 (.tmp 3))), ⟨.none, (.storeV [(0, false)] 1 (.tmp 9) (.tmp 8)), .none, [], .none⟩]) (.seq (.ops [(qS 10 (.load 2 true (.tmp 3))), ⟨.none, (.storeV [(0, false), (0, false)] 2 (.tmp 2) (.tmp 10)), .none, [], .none⟩]) .ret))))), [(.cell 2 2 true)]⟩
set_option maxHeartbeats 10000000 in
theorem d_laws_toStamp {P : Program} {env : Env}  (x0 : TStamp) {b : TStamp} (hp : p_laws_toStamp x0 = some b) : R P env (c_laws_toStamp) ((encA (x0)).map ofI) [] (Tells true b) := by
  refine R_of (by simp [c_laws_toStamp, encA]) ?_
  unfold c_laws_toStamp
  unfold p_laws_toStamp at hp
  have hp := Option.some.inj hp
  subst hp
  simp (maxSteps := 2000000) (disch := first|omega|(simp only[ls];first|done|omega)) only [gm]

noncomputable def p_laws_toLOp (x0 : TLOp) : Option TLOp :=
  (p_laws_toStamp x0.id).bind fun v0 =>
  (p_laws_toStamp x0.at_).bind fun v1 =>
  some (TLOp.mk x0.kind x0.char v0 v1)
def c_laws_toLOp (f_laws_toStamp : Nat) : AFn := ⟨19, (.seq (.ops [(qS 1 (.box (.tmp 0))), (qS 2 (.allocV [(0, false), (0, false), (0, false), (0, false), (0, false), (0, false)] [(.int .i64 0), (.int .i64 0), (.int .i64 0), (.int .i64 0), (.int .i64 0), (.int .i64 0)]))]) (.seq (.ops [(qS 3 (.allocV [(0, false), (0, false), (0, false), (0, false), (0, false), (0, false)] [(.int .i64 0), (.int .i64 0), (.int .i64 0), (.int .i64 0), (.int .i64 0), (.int .i64 0)]))]) (.seq (.ops [(qS 4 (.fieldA 0 (.tmp 1))), (qS 5 (.load 1 false (.tmp 4))), (qS 6 (.fieldA 0 (.tmp 3))), ⟨.none, (.storeV [(0, false)] 1 (.tmp 6) (.tmp 5)), .none, [], .none⟩]) (.seq (.ops [(qS 7 (.fieldA 1 (.tmp 1))), (qS 8 (.load 1 false (.tmp 7))), (qS 9 (.fieldA 1 (.tmp 3))), ⟨.none, (.storeV [(0, false)] 1 (.tmp 9) (.tmp 8)), .none, [], .none⟩]) (.seq (.ops [(qS 10 (.fieldA 2 (.tmp 1))), (qS 11 (.load 2 true (.tmp 10))), (qS 12 (.call (2 * f_laws_toStamp) [(.tmp 11)])), (qS 13 (.fieldA 2 (.tmp 3))), ⟨.none, (.storeV [(0, false), (0, false)] 2 (.tmp 13) (.tmp 12)), .none, [], .none⟩]) (.seq (.ops [(qS 14 (.fieldA 4 (.tmp 1))), (qS 15 (.load 2 true (.tmp 14))), (qS 16 (.call (2 * f_laws_toStamp) [(.tmp 15)])), (qS 17 (.fieldA 4 (.tmp 3))), ⟨.none, (.storeV [(0, false), (0, false)] 2 (.tmp 17) (.tmp 16)), .none, [], .none⟩]) (.seq (.ops [(qS 18 (.load 6 true (.tmp 3))), ⟨.none, (.storeV [(0, false), (0, false), (0, false), (0, false), (0, false), (0, false)] 6 (.tmp 2) (.tmp 18)), .none, [], .none⟩]) .ret))))))), [(.cell 2 6 true)]⟩
set_option maxHeartbeats 10000000 in
theorem d_laws_toLOp {P : Program} {env : Env} {f_laws_toStamp : Nat}  (ep_laws_toStamp : env (2 * f_laws_toStamp) = pureFn true (FA fun a : TStamp => p_laws_toStamp a)) (x0 : TLOp) {b : TLOp} (hp : p_laws_toLOp x0 = some b) : R P env (c_laws_toLOp f_laws_toStamp) ((encA (x0)).map ofI) [] (Tells true b) := by
  refine R_of (by simp [c_laws_toLOp, encA]) ?_
  have E := ep_laws_toStamp
  unfold c_laws_toLOp
  unfold p_laws_toLOp at hp
  obtain ⟨v0, hv0, hp⟩ := bind_eq hp
  obtain ⟨v1, hv1, hp⟩ := bind_eq hp
  have hp := Option.some.inj hp
  subst hp
  simp (maxSteps := 2000000) (disch := first|omega|(simp only[ls];first|done|omega)) only [E, hv0, hv1, gm]

noncomputable def p_laws_toLOpS_l0 (x0 : List TLOp) : List TLOp × Int → Option (Lp (List TLOp × Int) (List TLOp))
  | (s1, s2) =>
    if (decide (s2 < (x0.length : Int))) = true then
      (get? x0 s2).bind fun v4 =>
      (p_laws_toLOp v4).bind fun v5 =>
      (get? s1 s2).bind fun v6 =>
      some (.go ((s1.set s2.toNat v5), w64 (s2 + 1)))
    else
      some (.out (s1, s2))
noncomputable def p_laws_toLOpS (x0 : List TLOp) : Option (List TLOp) :=
  ((mkL (x0.length : Int) 48 (x0.length : Int) (TLOp.mk 0 0 (TStamp.mk 0 0) (TStamp.mk 0 0)) : Option (List TLOp))).bind fun v0 =>
  (loopP (p_laws_toLOpS_l0 x0) (v0, 0)).bind fun ee0 => match ee0 with
  | .ret r => some r
  | .out (o8, o9) =>
    some o8
def c_laws_toLOpS (f_laws_toLOp : Nat) : AFn := ⟨23, (.seq (.ops [(qS 2 (.vnil 6 true))]) (.seq (.ops [(qS 5 (.mv (.tmp 0))), (qS 6 (.len (.tmp 5))), (qS 7 (.makeSl 6 true 48 [(.int .i64 0), (.int .i64 0), (.int .i64 0), (.int .i64 0), (.int .i64 0), (.int .i64 0)] (.tmp 6) (.tmp 6))), (qS 3 (.mv (.tmp 7)))]) (.seq (.seq (.ops [(qS 4 (.mv (ic 0)))]) (.block 0 (.loop (.seq (.seq (.ops [(qS 8 (.mv (.tmp 4))), (qS 9 (.mv (.tmp 0))), (qS 10 (.len (.tmp 9))), (qS 11 (.pu (.n (.ar .lss)) [(.tmp 8), (.tmp 10)]))]) (.cond (.tmp 11) .skip (.exit 0))) (.seq (.block 1 (.ops [(qS 14 (.mv (.tmp 3))), (qS 15 (.mv (.tmp 4))), (qS 16 (.mv (.tmp 0))), (qS 17 (.mv (.tmp 4))), (qS 18 (.idxS 6 (.tmp 16) (.tmp 17))), (qS 19 (.load 6 true (.tmp 18))), (qS 20 (.call (2 * f_laws_toLOp) [(.tmp 19)])), (qS 21 (.idxS 6 (.tmp 14) (.tmp 15))), ⟨.none, (.storeV [(0, false), (0, false), (0, false), (0, false), (0, false), (0, false)] 6 (.tmp 21) (.tmp 20)), .none, [], .none⟩])) (.ops [(qS 12 (.mv (.tmp 4))), (qS 13 (.pu (.n (.ar .add)) [(.tmp 12), (ic 1)])), (qS 4 (.mv (.tmp 13)))])))))) (.seq (.ops [(qS 22 (.mv (.tmp 3))), (qS 2 (.mv (.tmp 22)))]) .ret)))), [(.tmp 2)]⟩
set_option maxHeartbeats 10000000 in
theorem d_laws_toLOpS {P : Program} {env : Env} {f_laws_toLOp : Nat}  (ep_laws_toLOp : env (2 * f_laws_toLOp) = pureFn true (FA fun a : TLOp => p_laws_toLOp a)) (x0 : List TLOp) {b : List TLOp} (hp : p_laws_toLOpS x0 = some b) : R P env (c_laws_toLOpS f_laws_toLOp) ((encA (x0)).map ofI) [] (Tells true b) := by
  refine R_of (by simp [c_laws_toLOpS, encA]) ?_
  have E := ep_laws_toLOp
  unfold c_laws_toLOpS
  unfold p_laws_toLOpS at hp
  obtain ⟨v0, hv0, hp⟩ := bind_eq hp
  obtain ⟨kv0, qv0, lv0⟩ := mkL_some hv0
  have rv0 : (List.replicate x0.length [.i (.s (.int .i64 0)), .i (.s (.int .i64 0)), .i (.s (.int .i64 0)), .i (.s (.int .i64 0)), .i (.s (.int .i64 0)), .i (.s (.int .i64 0))]).flatten = rows v0 := by rw [qv0]; exact rows_rep (x := ((TLOp.mk 0 0 (TStamp.mk 0 0) (TStamp.mk 0 0)) : TLOp)) rfl
  have mv0 : x0.length = v0.length := by rw [lv0]; simp
  obtain ⟨ee0, hee0, hp⟩ := bind_eq hp
  simp (maxSteps := 2000000) (disch := first|omega|(simp only[ls];first|done|omega)) only [E, hv0, rv0, kv0.1, kv0.2.1, kv0.2.2.1, kv0.2.2.2, gm]
  refine W_loopP 0 (fun s t h => match s with | (s1, s2) => t 0 = .i (.sl 6 (x0.map enc)) ∧ t 3 = .hsl 1 (x0.length * 6) 0 6 true x0.length ∧ t 4 = .i (.s (.int .i64 s2)) ∧ getCells h 1 (x0.length * 6) = some (rows (s1 : List TLOp)) ∧ 1 < h.length) (RK [.tmp 2] (Tells true)) ?_ hee0 ?_ ?_
  · rintro ⟨s1, s2⟩ ee tt0 hh0 ⟨ftt0_0, ftt0_1, ftt0_2, ftt0_3, ftt0_4⟩ hp
    have ztt0_3 := len_rows ftt0_3
    simp only [zs] at ztt0_3
    rw [p_laws_toLOpS_l0] at hp
    by_cases hb3 : (decide (s2 < (x0.length : Int))) = true
    · rw [if_t hb3] at hp
      obtain ⟨v4, hv4, hp⟩ := bind_eq hp
      obtain ⟨v5, hv5, hp⟩ := bind_eq hp
      obtain ⟨v6, hv6, hp⟩ := bind_eq hp
      have gv6 := get_some hv6
      have hs7 : List.take (s2.toNat * 6) (rows s1) ++ .i (.s (.int .i64 v5.kind)) :: .i (.s (.int .i64 v5.char)) :: .i (.s (.int .i64 v5.id.time)) :: .i (.s (.int .i64 v5.id.actor)) :: .i (.s (.int .i64 v5.at_.time)) :: .i (.s (.int .i64 v5.at_.actor)) :: List.drop (s2.toNat * 6 + 6) (rows s1) = rows (s1.set s2.toNat v5) := by simpa [splice, zs, cellsV, I.cells, enc_TLOp] using rows_set_off (y := v5) (ys := [.i (.s (.int .i64 v5.kind)), .i (.s (.int .i64 v5.char)), .i (.s (.int .i64 v5.id.time)), .i (.s (.int .i64 v5.id.actor)), .i (.s (.int .i64 v5.at_.time)), .i (.s (.int .i64 v5.at_.actor))]) (k := 0) gv6.2.2 (Nat.le_of_ble_eq_true rfl) (by rfl)
      have hp := Option.some.inj hp
      subst hp
      simp (maxSteps := 2000000) (disch := first|omega|(simp only[ls];first|done|omega)) only [E, hv0, rv0, kv0.1, kv0.2.1, kv0.2.2.1, kv0.2.2.2, ftt0_0, ftt0_1, ftt0_2, ftt0_3, ftt0_4, hb3, hv4, hv5, hv6, (gv6).1, (gv6).2.1, hs7, gm] <;> omega
    · replace hb3 := eq_false_of_ne_true hb3
      rw [if_f hb3] at hp
      have hp := Option.some.inj hp
      subst hp
      simp (maxSteps := 2000000) (disch := first|omega|(simp only[ls];first|done|omega)) only [E, hv0, rv0, kv0.1, kv0.2.1, kv0.2.2.1, kv0.2.2.2, ftt0_0, ftt0_1, ftt0_2, ftt0_3, ftt0_4, hb3, gm] <;> omega
  · simp (maxSteps := 2000000) (disch := first|omega|(simp only[ls];first|done|omega)) only [E, hv0, rv0, kv0.1, kv0.2.1, kv0.2.2.1, kv0.2.2.2, gm] <;> omega
  · intro x tt1 hh1 hx
    rcases ee0 with ⟨o8, o9⟩ | r
    · obtain ⟨rfl, ftt1_0, ftt1_1, ftt1_2, ftt1_3, ftt1_4⟩ := hx
      have ztt1_3 := len_rows ftt1_3
      simp only [zs] at ztt1_3
      dsimp only at hp
      have hp := Option.some.inj hp
      subst hp
      simp (maxSteps := 2000000) (disch := first|omega|(simp only[ls];first|done|omega)) only [E, hv0, rv0, kv0.1, kv0.2.1, kv0.2.2.1, kv0.2.2.2, ftt1_0, ftt1_1, ftt1_2, ftt1_3, ftt1_4, gm]
    · obtain ⟨rfl, hx⟩ := hx
      dsimp only at hp
      cases hp
      simp only [seqK_ret, blockK_ret, retK_RK (K := Tells true), hx, and_self, true_and]

def o_laws_toLOpS (b : List TLOp) (v : V) (h : Heap) : Prop := ∃ n0 : Nat, v = .hsl n0 (b.length * 6) 0 6 true b.length ∧ getCells h n0 (b.length * 6) = some (rows b)
def oo_laws_toLOpS (b : List TLOp) (h : Heap) (v : V) (h2 : Heap) : Prop := Keep [] h h2 ∧ ∃ n0 : Nat, v = .hsl n0 (b.length * 6) 0 6 true b.length ∧ n0 < h2.length ∧ h.length ≤ n0 ∧ getCells h2 n0 (b.length * 6) = some (rows b)
def k_laws_toLOpS (F : Fun) : Prop := ∀ (x0 : List TLOp) (b : List TLOp), p_laws_toLOpS x0 = some b → ∀ (h : Heap) (args : List V), snapA 9 false h args = some (encA (x0)) → ∃ p, F none args h = some p ∧ oo_laws_toLOpS b h p.1 p.2
set_option maxHeartbeats 10000000 in
theorem w_laws_toLOpS {P : Program} {env : Env} {f_laws_toLOp : Nat}  (ep_laws_toLOp : env (2 * f_laws_toLOp) = pureFn true (FA fun a : TLOp => p_laws_toLOp a)) (x0 : List TLOp) {b : List TLOp} (hp : p_laws_toLOpS x0 = some b) : R P env (c_laws_toLOpS f_laws_toLOp) ((encA (x0)).map ofI) [] (o_laws_toLOpS b) := by
  refine R_of (by simp [c_laws_toLOpS, encA]) ?_
  have E := ep_laws_toLOp
  unfold c_laws_toLOpS
  unfold p_laws_toLOpS at hp
  obtain ⟨v0, hv0, hp⟩ := bind_eq hp
  obtain ⟨kv0, qv0, lv0⟩ := mkL_some hv0
  have rv0 : (List.replicate x0.length [.i (.s (.int .i64 0)), .i (.s (.int .i64 0)), .i (.s (.int .i64 0)), .i (.s (.int .i64 0)), .i (.s (.int .i64 0)), .i (.s (.int .i64 0))]).flatten = rows v0 := by rw [qv0]; exact rows_rep (x := ((TLOp.mk 0 0 (TStamp.mk 0 0) (TStamp.mk 0 0)) : TLOp)) rfl
  have mv0 : x0.length = v0.length := by rw [lv0]; simp
  obtain ⟨ee0, hee0, hp⟩ := bind_eq hp
  simp (maxSteps := 2000000) (disch := first|omega|(simp only[ls];first|done|omega)) only [E, hv0, rv0, kv0.1, kv0.2.1, kv0.2.2.1, kv0.2.2.2, gm]
  refine W_loopP 0 (fun s t h => match s with | (s1, s2) => t 0 = .i (.sl 6 (x0.map enc)) ∧ t 3 = .hsl 1 (x0.length * 6) 0 6 true x0.length ∧ t 4 = .i (.s (.int .i64 s2)) ∧ getCells h 1 (x0.length * 6) = some (rows (s1 : List TLOp)) ∧ 1 < h.length) (RK [.tmp 2] (o_laws_toLOpS)) ?_ hee0 ?_ ?_
  · rintro ⟨s1, s2⟩ ee tt0 hh0 ⟨ftt0_0, ftt0_1, ftt0_2, ftt0_3, ftt0_4⟩ hp
    have ztt0_3 := len_rows ftt0_3
    simp only [zs] at ztt0_3
    rw [p_laws_toLOpS_l0] at hp
    by_cases hb3 : (decide (s2 < (x0.length : Int))) = true
    · rw [if_t hb3] at hp
      obtain ⟨v4, hv4, hp⟩ := bind_eq hp
      obtain ⟨v5, hv5, hp⟩ := bind_eq hp
      obtain ⟨v6, hv6, hp⟩ := bind_eq hp
      have gv6 := get_some hv6
      have hs7 : List.take (s2.toNat * 6) (rows s1) ++ .i (.s (.int .i64 v5.kind)) :: .i (.s (.int .i64 v5.char)) :: .i (.s (.int .i64 v5.id.time)) :: .i (.s (.int .i64 v5.id.actor)) :: .i (.s (.int .i64 v5.at_.time)) :: .i (.s (.int .i64 v5.at_.actor)) :: List.drop (s2.toNat * 6 + 6) (rows s1) = rows (s1.set s2.toNat v5) := by simpa [splice, zs, cellsV, I.cells, enc_TLOp] using rows_set_off (y := v5) (ys := [.i (.s (.int .i64 v5.kind)), .i (.s (.int .i64 v5.char)), .i (.s (.int .i64 v5.id.time)), .i (.s (.int .i64 v5.id.actor)), .i (.s (.int .i64 v5.at_.time)), .i (.s (.int .i64 v5.at_.actor))]) (k := 0) gv6.2.2 (Nat.le_of_ble_eq_true rfl) (by rfl)
      have hp := Option.some.inj hp
      subst hp
      simp (maxSteps := 2000000) (disch := first|omega|(simp only[ls];first|done|omega)) only [E, hv0, rv0, kv0.1, kv0.2.1, kv0.2.2.1, kv0.2.2.2, ftt0_0, ftt0_1, ftt0_2, ftt0_3, ftt0_4, hb3, hv4, hv5, hv6, (gv6).1, (gv6).2.1, hs7, gm] <;> omega
    · replace hb3 := eq_false_of_ne_true hb3
      rw [if_f hb3] at hp
      have hp := Option.some.inj hp
      subst hp
      simp (maxSteps := 2000000) (disch := first|omega|(simp only[ls];first|done|omega)) only [E, hv0, rv0, kv0.1, kv0.2.1, kv0.2.2.1, kv0.2.2.2, ftt0_0, ftt0_1, ftt0_2, ftt0_3, ftt0_4, hb3, gm] <;> omega
  · simp (maxSteps := 2000000) (disch := first|omega|(simp only[ls];first|done|omega)) only [E, hv0, rv0, kv0.1, kv0.2.1, kv0.2.2.1, kv0.2.2.2, gm] <;> omega
  · intro x tt1 hh1 hx
    rcases ee0 with ⟨o8, o9⟩ | r
    · obtain ⟨rfl, ftt1_0, ftt1_1, ftt1_2, ftt1_3, ftt1_4⟩ := hx
      have ztt1_3 := len_rows ftt1_3
      simp only [zs] at ztt1_3
      dsimp only at hp
      have hp := Option.some.inj hp
      subst hp
      simp (maxSteps := 2000000) (disch := first|omega|(simp only[ls];first|done|omega)) only [E, hv0, rv0, kv0.1, kv0.2.1, kv0.2.2.1, kv0.2.2.2, ftt1_0, ftt1_1, ftt1_2, ftt1_3, ftt1_4, gm]
      refine ⟨1, ?_⟩
      simp (maxSteps := 2000000) (disch := first|omega|(simp only[ls];first|done|omega)) only [E, hv0, rv0, kv0.1, kv0.2.1, kv0.2.2.1, kv0.2.2.2, ftt1_0, ftt1_1, ftt1_2, ftt1_3, ftt1_4, o_laws_toLOpS, (show (o8).length = x0.length from by first | omega | rfl | (simp; done) | (simp; omega)), gm] <;> omega
    · obtain ⟨rfl, hx⟩ := hx
      dsimp only at hp
      cases hp
      simp only [seqK_ret, blockK_ret, retK_RK (K := o_laws_toLOpS), hx, and_self, true_and]
theorem ko_laws_toLOpS {P : Program} {env : Env} {f_laws_toLOp : Nat}  (ep_laws_toLOp : env (2 * f_laws_toLOp) = pureFn true (FA fun a : TLOp => p_laws_toLOp a)) : k_laws_toLOpS (ownFn P env (c_laws_toLOpS f_laws_toLOp)) := by
  intro x0 b hp h args has
  obtain ⟨⟨v, H2⟩, hr, n0, rfl, wn0⟩ := w_laws_toLOpS ep_laws_toLOp x0 hp
  exact ⟨_, own_call has hr rfl, keep_moved, n0 + h.length, rfl, (moved_lt wn0).2, (moved_lt wn0).1, moved_rows wn0⟩

noncomputable def p_spec_l05Place_l0 (x0 : List TLCell) (x1 : TStamp) : Int → Option (Lp (Int) Int)
  | s0 =>
    if (decide (s0 < (x0.length : Int))) = true then
      (get? x0 s0).bind fun v2 =>
      if ((decide (v2.id.time = x1.time) && decide (v2.id.actor = x1.actor))) = true then
        some (.ret s0)
      else
        some (.go (w64 (s0 + 1)))
    else
      some (.out s0)
noncomputable def p_spec_l05Place (x0 : List TLCell) (x1 : TStamp) : Option Int :=
  (loopP (p_spec_l05Place_l0 x0 x1) 0).bind fun ee0 => match ee0 with
  | .ret r => some r
  | .out o4 =>
    some (-1)
def c_spec_l05Place : AFn := ⟨20, (.seq (.ops [(qS 3 (.box (.tmp 1))), (qS 4 (.mv (ic 0)))]) (.seq (.seq (.ops [(qS 5 (.mv (ic 0)))]) (.block 0 (.loop (.seq (.seq (.ops [(qS 6 (.mv (.tmp 5))), (qS 7 (.mv (.tmp 0))), (qS 8 (.len (.tmp 7))), (qS 9 (.pu (.n (.ar .lss)) [(.tmp 6), (.tmp 8)]))]) (.cond (.tmp 9) .skip (.exit 0))) (.seq (.block 1 (.seq (.ops [(qS 12 (.mv (.tmp 0))), (qS 13 (.mv (.tmp 5))), (qS 14 (.idxS 4 (.tmp 12) (.tmp 13))), (qS 15 (.fieldA 0 (.tmp 14))), (qS 16 (.load 2 true (.tmp 15))), (qS 17 (.load 2 true (.tmp 3))), (qS 18 (.aeq false [(.int .i64), (.int .i64)] (.tmp 16) (.tmp 17)))]) (.cond (.tmp 18) (.seq (.ops [(qS 19 (.mv (.tmp 5))), (qS 4 (.mv (.tmp 19)))]) .ret) .skip))) (.ops [(qS 10 (.mv (.tmp 5))), (qS 11 (.pu (.n (.ar .add)) [(.tmp 10), (ic 1)])), (qS 5 (.mv (.tmp 11)))])))))) (.seq (.ops [(qS 4 (.mv (ic (-1))))]) .ret))), [(.tmp 4)]⟩
set_option maxHeartbeats 10000000 in
theorem d_spec_l05Place {P : Program} {env : Env}  (x0 : List TLCell) (x1 : TStamp) {b : Int} (hp : p_spec_l05Place x0 x1 = some b) : R P env (c_spec_l05Place) ((encA (x0, x1)).map ofI) [] (Tells true b) := by
  refine R_of (by simp [c_spec_l05Place, encA]) ?_
  unfold c_spec_l05Place
  unfold p_spec_l05Place at hp
  obtain ⟨ee0, hee0, hp⟩ := bind_eq hp
  simp (maxSteps := 2000000) (disch := first|omega|(simp only[ls];first|done|omega)) only [gm]
  refine W_loopP 0 (fun s t h => match s with | s0 => t 0 = .i (.sl 4 (x0.map enc)) ∧ t 3 = .ptr 0 2 0 ∧ t 5 = .i (.s (.int .i64 s0)) ∧ getCells h 0 2 = some [.i (.s (.int .i64 x1.time)), .i (.s (.int .i64 x1.actor))] ∧ 0 < h.length) (RK [.tmp 4] (Tells true)) ?_ hee0 ?_ ?_
  · rintro s0 ee tt0 hh0 ⟨ftt0_0, ftt0_1, ftt0_2, ftt0_3, ftt0_4⟩ hp
    rw [p_spec_l05Place_l0] at hp
    by_cases hb1 : (decide (s0 < (x0.length : Int))) = true
    · rw [if_t hb1] at hp
      obtain ⟨v2, hv2, hp⟩ := bind_eq hp
      by_cases hb3 : ((decide (v2.id.time = x1.time) && decide (v2.id.actor = x1.actor))) = true
      · rw [if_t hb3] at hp
        have hp := Option.some.inj hp
        subst hp
        simp (maxSteps := 2000000) (disch := first|omega|(simp only[ls];first|done|omega)) only [ftt0_0, ftt0_1, ftt0_2, ftt0_3, ftt0_4, hb1, hv2, hb3, gm]
      · replace hb3 := eq_false_of_ne_true hb3
        rw [if_f hb3] at hp
        have hp := Option.some.inj hp
        subst hp
        simp (maxSteps := 2000000) (disch := first|omega|(simp only[ls];first|done|omega)) only [ftt0_0, ftt0_1, ftt0_2, ftt0_3, ftt0_4, hb1, hv2, hb3, gm] <;> omega
    · replace hb1 := eq_false_of_ne_true hb1
      rw [if_f hb1] at hp
      have hp := Option.some.inj hp
      subst hp
      simp (maxSteps := 2000000) (disch := first|omega|(simp only[ls];first|done|omega)) only [ftt0_0, ftt0_1, ftt0_2, ftt0_3, ftt0_4, hb1, gm] <;> omega
  · simp (maxSteps := 2000000) (disch := first|omega|(simp only[ls];first|done|omega)) only [gm] <;> omega
  · intro x tt1 hh1 hx
    rcases ee0 with o4 | r
    · obtain ⟨rfl, ftt1_0, ftt1_1, ftt1_2, ftt1_3, ftt1_4⟩ := hx
      dsimp only at hp
      have hp := Option.some.inj hp
      subst hp
      simp (maxSteps := 2000000) (disch := first|omega|(simp only[ls];first|done|omega)) only [ftt1_0, ftt1_1, ftt1_2, ftt1_3, ftt1_4, gm]
    · obtain ⟨rfl, hx⟩ := hx
      dsimp only at hp
      cases hp
      simp only [seqK_ret, blockK_ret, retK_RK (K := Tells true), hx, and_self, true_and]

noncomputable def p_spec_Follow (x0 : List TLOp) (x1 : TStamp) : Option (T2 Int Int) :=
  (p_spec_l04Clean x0).bind fun v0 =>
  if (decide (v0.b = 0)) = true then
    (p_spec_l04Has v0.a x1).bind fun v2 =>
    if (v2) = true then
      (p_spec_l04Cells v0.a).bind fun v4 =>
      (p_spec_l05Place v4 x1).bind fun v5 =>
      (cut? v4 0 v5).bind fun v6 =>
      (p_spec_l04Seen v6).bind fun v7 =>
      some ⟨(v7.length : Int), 0⟩
    else
      some ⟨0, 7⟩
  else
    some ⟨0, v0.b⟩
def c_spec_Follow (f_spec_l04Clean : Nat) (f_spec_l04Has : Nat) (f_spec_l04Cells : Nat) (f_spec_l05Place : Nat) (f_spec_l04Seen : Nat) : AFn := ⟨30, (.seq (.ops [(qS 3 (.box (.tmp 1))), (qS 4 (.mv (ic 0))), (qS 5 (.mv (ic 0)))]) (.seq (.ops [(qS 10 (.mv (.tmp 0))), (qS 11 (.call (2 * f_spec_l04Clean) [(.tmp 10)])), (qS 9 (.mv (.tmp 11))), (qS 12 (.extract 0 (.tmp 9))), (qS 13 (.extract 1 (.tmp 9))), (qS 6 (.mv (.tmp 12))), (qS 7 (.mv (.tmp 13)))]) (.seq (.seq (.ops [(qS 14 (.mv (.tmp 7))), (qS 15 (.pu (.n (.ar .neq)) [(.tmp 14), (ic 0)]))]) (.cond (.tmp 15) (.seq (.ops [(qS 16 (.mv (.tmp 7))), (qS 4 (.mv (ic 0))), (qS 5 (.mv (.tmp 16)))]) .ret) .skip)) (.seq (.seq (.ops [(qS 17 (.mv (.tmp 6))), (qS 18 (.load 2 true (.tmp 3))), (qS 19 (.call (2 * f_spec_l04Has) [(.tmp 17), (.tmp 18)])), (qS 20 (.pu (.n (.un .not)) [(.tmp 19)]))]) (.cond (.tmp 20) (.seq (.ops [(qS 4 (.mv (ic 0))), (qS 5 (.mv (ic 7)))]) .ret) .skip)) (.seq (.ops [(qS 21 (.mv (.tmp 6))), (qS 22 (.call (2 * f_spec_l04Cells) [(.tmp 21)])), (qS 8 (.mv (.tmp 22)))]) (.seq (.ops [(qS 23 (.mv (.tmp 8))), (qS 24 (.mv (.tmp 8))), (qS 25 (.load 2 true (.tmp 3))), (qS 26 (.call (2 * f_spec_l05Place) [(.tmp 24), (.tmp 25)])), (qS 27 (.slice 4 (.tmp 23) .none (.some (.tmp 26)))), (qS 28 (.call (2 * f_spec_l04Seen) [(.tmp 27)])), (qS 29 (.len (.tmp 28))), (qS 4 (.mv (.tmp 29))), (qS 5 (.mv (ic 0)))]) .ret)))))), [(.tmp 4), (.tmp 5)]⟩
set_option maxHeartbeats 10000000 in
theorem d_spec_Follow {P : Program} {env : Env} {f_spec_l04Clean : Nat} {f_spec_l04Has : Nat} {f_spec_l04Cells : Nat} {f_spec_l05Place : Nat} {f_spec_l04Seen : Nat}  (ep_spec_l04Clean : env (2 * f_spec_l04Clean) = pureFn true (FA fun a : List TLOp => p_spec_l04Clean a)) (ep_spec_l04Has : env (2 * f_spec_l04Has) = pureFn true (FA fun a : List TLOp × TStamp => p_spec_l04Has a.1 a.2)) (ep_spec_l04Cells : env (2 * f_spec_l04Cells) = pureFn true (FA fun a : List TLOp => p_spec_l04Cells a)) (ep_spec_l05Place : env (2 * f_spec_l05Place) = pureFn true (FA fun a : List TLCell × TStamp => p_spec_l05Place a.1 a.2)) (ep_spec_l04Seen : env (2 * f_spec_l04Seen) = pureFn true (FA fun a : List TLCell => p_spec_l04Seen a)) (x0 : List TLOp) (x1 : TStamp) {b : T2 Int Int} (hp : p_spec_Follow x0 x1 = some b) : R P env (c_spec_Follow f_spec_l04Clean f_spec_l04Has f_spec_l04Cells f_spec_l05Place f_spec_l04Seen) ((encA (x0, x1)).map ofI) [] (Tells true b) := by
  refine R_of (by simp [c_spec_Follow, encA]) ?_
  have E := And.intro ep_spec_l04Clean (And.intro ep_spec_l04Has (And.intro ep_spec_l04Cells (And.intro ep_spec_l05Place ep_spec_l04Seen)))
  unfold c_spec_Follow
  unfold p_spec_Follow at hp
  obtain ⟨v0, hv0, hp⟩ := bind_eq hp
  by_cases hb1 : (decide (v0.b = 0)) = true
  · rw [if_t hb1] at hp
    obtain ⟨v2, hv2, hp⟩ := bind_eq hp
    by_cases hb3 : (v2) = true
    · rw [if_t hb3] at hp
      obtain ⟨v4, hv4, hp⟩ := bind_eq hp
      obtain ⟨v5, hv5, hp⟩ := bind_eq hp
      obtain ⟨v6, hv6, hp⟩ := bind_eq hp
      obtain ⟨v7, hv7, hp⟩ := bind_eq hp
      have hp := Option.some.inj hp
      subst hp
      simp (maxSteps := 2000000) (disch := first|omega|(simp only[ls];first|done|omega)) only [E, hv0, hb1, hv2, hb3, hv4, hv5, hv6, hv7, gm]
    · replace hb3 := eq_false_of_ne_true hb3
      rw [if_f hb3] at hp
      have hp := Option.some.inj hp
      subst hp
      simp (maxSteps := 2000000) (disch := first|omega|(simp only[ls];first|done|omega)) only [E, hv0, hb1, hv2, hb3, gm]
  · replace hb1 := eq_false_of_ne_true hb1
    rw [if_f hb1] at hp
    have hp := Option.some.inj hp
    subst hp
    simp (maxSteps := 2000000) (disch := first|omega|(simp only[ls];first|done|omega)) only [E, hv0, hb1, gm]

noncomputable def p_laws_eqStamp (x0 : TStamp) (x1 : TStamp) : Option Bool :=
  if (decide (x0.time = x1.time)) = true then
    if (decide (x0.actor = x1.actor)) = true then
      some true
    else
      some false
  else
    some false
def c_laws_eqStamp : AFn := ⟨15, (.seq (.ops [(qS 2 (.box (.tmp 0))), (qS 3 (.box (.tmp 1))), (qS 4 (.mv (.const (.bool false))))]) (.seq (.seq (.ops [(qS 5 (.fieldA 0 (.tmp 2))), (qS 6 (.load 1 false (.tmp 5))), (qS 7 (.fieldA 0 (.tmp 3))), (qS 8 (.load 1 false (.tmp 7))), (qS 9 (.pu (.n (.ar .neq)) [(.tmp 6), (.tmp 8)]))]) (.cond (.tmp 9) (.seq (.ops [(qS 4 (.mv (.const (.bool false))))]) .ret) .skip)) (.seq (.seq (.ops [(qS 10 (.fieldA 1 (.tmp 2))), (qS 11 (.load 1 false (.tmp 10))), (qS 12 (.fieldA 1 (.tmp 3))), (qS 13 (.load 1 false (.tmp 12))), (qS 14 (.pu (.n (.ar .neq)) [(.tmp 11), (.tmp 13)]))]) (.cond (.tmp 14) (.seq (.ops [(qS 4 (.mv (.const (.bool false))))]) .ret) .skip)) (.seq (.ops [(qS 4 (.mv (.const (.bool true))))]) .ret)))), [(.tmp 4)]⟩
set_option maxHeartbeats 10000000 in
theorem d_laws_eqStamp {P : Program} {env : Env}  (x0 : TStamp) (x1 : TStamp) {b : Bool} (hp : p_laws_eqStamp x0 x1 = some b) : R P env (c_laws_eqStamp) ((encA (x0, x1)).map ofI) [] (Tells true b) := by
  refine R_of (by simp [c_laws_eqStamp, encA]) ?_
  unfold c_laws_eqStamp
  unfold p_laws_eqStamp at hp
  by_cases hb0 : (decide (x0.time = x1.time)) = true
  · rw [if_t hb0] at hp
    by_cases hb1 : (decide (x0.actor = x1.actor)) = true
    · rw [if_t hb1] at hp
      have hp := Option.some.inj hp
      subst hp
      simp (maxSteps := 2000000) (disch := first|omega|(simp only[ls];first|done|omega)) only [hb0, hb1, gm]
    · replace hb1 := eq_false_of_ne_true hb1
      rw [if_f hb1] at hp
      have hp := Option.some.inj hp
      subst hp
      simp (maxSteps := 2000000) (disch := first|omega|(simp only[ls];first|done|omega)) only [hb0, hb1, gm]
  · replace hb0 := eq_false_of_ne_true hb0
    rw [if_f hb0] at hp
    have hp := Option.some.inj hp
    subst hp
    simp (maxSteps := 2000000) (disch := first|omega|(simp only[ls];first|done|omega)) only [hb0, gm]

noncomputable def p_laws_eqLOp (x0 : TLOp) (x1 : TLOp) : Option Bool :=
  if (decide (x0.kind = x1.kind)) = true then
    if (decide (x0.char = x1.char)) = true then
      (p_laws_eqStamp x0.id x1.id).bind fun v2 =>
      if (v2) = true then
        (p_laws_eqStamp x0.at_ x1.at_).bind fun v4 =>
        if (v4) = true then
          some true
        else
          some false
      else
        some false
    else
      some false
  else
    some false
def c_laws_eqLOp (f_laws_eqStamp : Nat) : AFn := ⟨27, (.seq (.ops [(qS 2 (.box (.tmp 0))), (qS 3 (.box (.tmp 1))), (qS 4 (.mv (.const (.bool false))))]) (.seq (.seq (.ops [(qS 5 (.fieldA 0 (.tmp 2))), (qS 6 (.load 1 false (.tmp 5))), (qS 7 (.fieldA 0 (.tmp 3))), (qS 8 (.load 1 false (.tmp 7))), (qS 9 (.pu (.n (.ar .neq)) [(.tmp 6), (.tmp 8)]))]) (.cond (.tmp 9) (.seq (.ops [(qS 4 (.mv (.const (.bool false))))]) .ret) .skip)) (.seq (.seq (.ops [(qS 10 (.fieldA 1 (.tmp 2))), (qS 11 (.load 1 false (.tmp 10))), (qS 12 (.fieldA 1 (.tmp 3))), (qS 13 (.load 1 false (.tmp 12))), (qS 14 (.pu (.n (.ar .neq)) [(.tmp 11), (.tmp 13)]))]) (.cond (.tmp 14) (.seq (.ops [(qS 4 (.mv (.const (.bool false))))]) .ret) .skip)) (.seq (.seq (.ops [(qS 15 (.fieldA 2 (.tmp 2))), (qS 16 (.load 2 true (.tmp 15))), (qS 17 (.fieldA 2 (.tmp 3))), (qS 18 (.load 2 true (.tmp 17))), (qS 19 (.call (2 * f_laws_eqStamp) [(.tmp 16), (.tmp 18)])), (qS 20 (.pu (.n (.un .not)) [(.tmp 19)]))]) (.cond (.tmp 20) (.seq (.ops [(qS 4 (.mv (.const (.bool false))))]) .ret) .skip)) (.seq (.seq (.ops [(qS 21 (.fieldA 4 (.tmp 2))), (qS 22 (.load 2 true (.tmp 21))), (qS 23 (.fieldA 4 (.tmp 3))), (qS 24 (.load 2 true (.tmp 23))), (qS 25 (.call (2 * f_laws_eqStamp) [(.tmp 22), (.tmp 24)])), (qS 26 (.pu (.n (.un .not)) [(.tmp 25)]))]) (.cond (.tmp 26) (.seq (.ops [(qS 4 (.mv (.const (.bool false))))]) .ret) .skip)) (.seq (.ops [(qS 4 (.mv (.const (.bool true))))]) .ret)))))), [(.tmp 4)]⟩
set_option maxHeartbeats 10000000 in
theorem d_laws_eqLOp {P : Program} {env : Env} {f_laws_eqStamp : Nat}  (ep_laws_eqStamp : env (2 * f_laws_eqStamp) = pureFn true (FA fun a : TStamp × TStamp => p_laws_eqStamp a.1 a.2)) (x0 : TLOp) (x1 : TLOp) {b : Bool} (hp : p_laws_eqLOp x0 x1 = some b) : R P env (c_laws_eqLOp f_laws_eqStamp) ((encA (x0, x1)).map ofI) [] (Tells true b) := by
  refine R_of (by simp [c_laws_eqLOp, encA]) ?_
  have E := ep_laws_eqStamp
  unfold c_laws_eqLOp
  unfold p_laws_eqLOp at hp
  by_cases hb0 : (decide (x0.kind = x1.kind)) = true
  · rw [if_t hb0] at hp
    by_cases hb1 : (decide (x0.char = x1.char)) = true
    · rw [if_t hb1] at hp
      obtain ⟨v2, hv2, hp⟩ := bind_eq hp
      by_cases hb3 : (v2) = true
      · rw [if_t hb3] at hp
        obtain ⟨v4, hv4, hp⟩ := bind_eq hp
        by_cases hb5 : (v4) = true
        · rw [if_t hb5] at hp
          have hp := Option.some.inj hp
          subst hp
          simp (maxSteps := 2000000) (disch := first|omega|(simp only[ls];first|done|omega)) only [E, hb0, hb1, hv2, hb3, hv4, hb5, gm]
        · replace hb5 := eq_false_of_ne_true hb5
          rw [if_f hb5] at hp
          have hp := Option.some.inj hp
          subst hp
          simp (maxSteps := 2000000) (disch := first|omega|(simp only[ls];first|done|omega)) only [E, hb0, hb1, hv2, hb3, hv4, hb5, gm]
      · replace hb3 := eq_false_of_ne_true hb3
        rw [if_f hb3] at hp
        have hp := Option.some.inj hp
        subst hp
        simp (maxSteps := 2000000) (disch := first|omega|(simp only[ls];first|done|omega)) only [E, hb0, hb1, hv2, hb3, gm]
    · replace hb1 := eq_false_of_ne_true hb1
      rw [if_f hb1] at hp
      have hp := Option.some.inj hp
      subst hp
      simp (maxSteps := 2000000) (disch := first|omega|(simp only[ls];first|done|omega)) only [E, hb0, hb1, gm]
  · replace hb0 := eq_false_of_ne_true hb0
    rw [if_f hb0] at hp
    have hp := Option.some.inj hp
    subst hp
    simp (maxSteps := 2000000) (disch := first|omega|(simp only[ls];first|done|omega)) only [E, hb0, gm]

noncomputable def p_laws_eqLOpS_l0 (x0 : List TLOp) (x1 : List TLOp) : Int → Option (Lp (Int) Bool)
  | s1 =>
    if (decide (s1 < (x0.length : Int))) = true then
      (get? x0 s1).bind fun v3 =>
      (get? x1 s1).bind fun v4 =>
      (p_laws_eqLOp v3 v4).bind fun v5 =>
      if (v5) = true then
        some (.go (w64 (s1 + 1)))
      else
        some (.ret false)
    else
      some (.out s1)
noncomputable def p_laws_eqLOpS (x0 : List TLOp) (x1 : List TLOp) : Option Bool :=
  if (decide ((x0.length : Int) = (x1.length : Int))) = true then
    (loopP (p_laws_eqLOpS_l0 x0 x1) 0).bind fun ee0 => match ee0 with
    | .ret r => some r
    | .out o7 =>
      some true
  else
    some false
def c_laws_eqLOpS (f_laws_eqLOp : Nat) : AFn := ⟨27, (.seq (.ops [(qS 4 (.mv (.const (.bool false))))]) (.seq (.seq (.ops [(qS 6 (.mv (.tmp 0))), (qS 7 (.len (.tmp 6))), (qS 8 (.mv (.tmp 1))), (qS 9 (.len (.tmp 8))), (qS 10 (.pu (.n (.ar .neq)) [(.tmp 7), (.tmp 9)]))]) (.cond (.tmp 10) (.seq (.ops [(qS 4 (.mv (.const (.bool false))))]) .ret) .skip)) (.seq (.seq (.ops [(qS 5 (.mv (ic 0)))]) (.block 0 (.loop (.seq (.seq (.ops [(qS 11 (.mv (.tmp 5))), (qS 12 (.mv (.tmp 0))), (qS 13 (.len (.tmp 12))), (qS 14 (.pu (.n (.ar .lss)) [(.tmp 11), (.tmp 13)]))]) (.cond (.tmp 14) .skip (.exit 0))) (.seq (.block 1 (.seq (.ops [(qS 17 (.mv (.tmp 0))), (qS 18 (.mv (.tmp 5))), (qS 19 (.idxS 6 (.tmp 17) (.tmp 18))), (qS 20 (.load 6 true (.tmp 19))), (qS 21 (.mv (.tmp 1))), (qS 22 (.mv (.tmp 5))), (qS 23 (.idxS 6 (.tmp 21) (.tmp 22))), (qS 24 (.load 6 true (.tmp 23))), (qS 25 (.call (2 * f_laws_eqLOp) [(.tmp 20), (.tmp 24)])), (qS 26 (.pu (.n (.un .not)) [(.tmp 25)]))]) (.cond (.tmp 26) (.seq (.ops [(qS 4 (.mv (.const (.bool false))))]) .ret) .skip))) (.ops [(qS 15 (.mv (.tmp 5))), (qS 16 (.pu (.n (.ar .add)) [(.tmp 15), (ic 1)])), (qS 5 (.mv (.tmp 16)))])))))) (.seq (.ops [(qS 4 (.mv (.const (.bool true))))]) .ret)))), [(.tmp 4)]⟩
set_option maxHeartbeats 10000000 in
theorem d_laws_eqLOpS {P : Program} {env : Env} {f_laws_eqLOp : Nat}  (ep_laws_eqLOp : env (2 * f_laws_eqLOp) = pureFn true (FA fun a : TLOp × TLOp => p_laws_eqLOp a.1 a.2)) (x0 : List TLOp) (x1 : List TLOp) {b : Bool} (hp : p_laws_eqLOpS x0 x1 = some b) : R P env (c_laws_eqLOpS f_laws_eqLOp) ((encA (x0, x1)).map ofI) [] (Tells true b) := by
  refine R_of (by simp [c_laws_eqLOpS, encA]) ?_
  have E := ep_laws_eqLOp
  unfold c_laws_eqLOpS
  unfold p_laws_eqLOpS at hp
  by_cases hb0 : (decide ((x0.length : Int) = (x1.length : Int))) = true
  · rw [if_t hb0] at hp
    obtain ⟨ee0, hee0, hp⟩ := bind_eq hp
    simp (maxSteps := 2000000) (disch := first|omega|(simp only[ls];first|done|omega)) only [E, hb0, gm]
    refine W_loopP 0 (fun s t h => match s with | s1 => t 0 = .i (.sl 6 (x0.map enc)) ∧ t 1 = .i (.sl 6 (x1.map enc)) ∧ t 5 = .i (.s (.int .i64 s1))) (RK [.tmp 4] (Tells true)) ?_ hee0 ?_ ?_
    · rintro s1 ee tt0 hh0 ⟨ftt0_0, ftt0_1, ftt0_2⟩ hp
      rw [p_laws_eqLOpS_l0] at hp
      by_cases hb2 : (decide (s1 < (x0.length : Int))) = true
      · rw [if_t hb2] at hp
        obtain ⟨v3, hv3, hp⟩ := bind_eq hp
        obtain ⟨v4, hv4, hp⟩ := bind_eq hp
        obtain ⟨v5, hv5, hp⟩ := bind_eq hp
        by_cases hb6 : (v5) = true
        · rw [if_t hb6] at hp
          have hp := Option.some.inj hp
          subst hp
          simp (maxSteps := 2000000) (disch := first|omega|(simp only[ls];first|done|omega)) only [E, hb0, ftt0_0, ftt0_1, ftt0_2, hb2, hv3, hv4, hv5, hb6, gm] <;> omega
        · replace hb6 := eq_false_of_ne_true hb6
          rw [if_f hb6] at hp
          have hp := Option.some.inj hp
          subst hp
          simp (maxSteps := 2000000) (disch := first|omega|(simp only[ls];first|done|omega)) only [E, hb0, ftt0_0, ftt0_1, ftt0_2, hb2, hv3, hv4, hv5, hb6, gm]
      · replace hb2 := eq_false_of_ne_true hb2
        rw [if_f hb2] at hp
        have hp := Option.some.inj hp
        subst hp
        simp (maxSteps := 2000000) (disch := first|omega|(simp only[ls];first|done|omega)) only [E, hb0, ftt0_0, ftt0_1, ftt0_2, hb2, gm] <;> omega
    · simp (maxSteps := 2000000) (disch := first|omega|(simp only[ls];first|done|omega)) only [E, hb0, gm] <;> omega
    · intro x tt1 hh1 hx
      rcases ee0 with o7 | r
      · obtain ⟨rfl, ftt1_0, ftt1_1, ftt1_2⟩ := hx
        dsimp only at hp
        have hp := Option.some.inj hp
        subst hp
        simp (maxSteps := 2000000) (disch := first|omega|(simp only[ls];first|done|omega)) only [E, hb0, ftt1_0, ftt1_1, ftt1_2, gm]
      · obtain ⟨rfl, hx⟩ := hx
        dsimp only at hp
        cases hp
        simp only [seqK_ret, blockK_ret, retK_RK (K := Tells true), hx, and_self, true_and]
  · replace hb0 := eq_false_of_ne_true hb0
    rw [if_f hb0] at hp
    have hp := Option.some.inj hp
    subst hp
    simp (maxSteps := 2000000) (disch := first|omega|(simp only[ls];first|done|omega)) only [E, hb0, gm]

noncomputable def p_laws_FnExactFollow (x0 : List TLOp) (x1 : TStamp) : Option Bool :=
  (p_laws_szLOpS x0 1048576).bind fun v0 =>
  if (decide (v0 < 0)) = true then
    some true
  else
    (p_laws_toLOpS x0).bind fun v2 =>
    (p_laws_toStamp x1).bind fun v3 =>
    (p_spec_Follow v2 v3).bind fun v4 =>
    (p_impl_Follow v2 v3).bind fun v5 =>
    if (decide (v5.a = v4.a)) = true then
      if (decide (v5.b = v4.b)) = true then
        (p_laws_eqLOpS v2 v2).bind fun v8 =>
        if (v8) = true then
          some true
        else
          some false
      else
        some false
    else
      some false
def c_laws_FnExactFollow (f_laws_szLOpS : Nat) (f_laws_toLOpS : Nat) (f_laws_toStamp : Nat) (f_spec_Follow : Nat) (f_impl_Follow : Nat) (f_laws_eqLOpS : Nat) : AFn := ⟨46, (.seq (.ops [(qS 3 (.box (.tmp 1))), (qS 4 (.mv (.const (.bool false))))]) (.seq (.ops [(qS 5 (.mv (ic 1048576)))]) (.seq (.ops [(qS 11 (.mv (.tmp 0))), (qS 12 (.mv (.tmp 5))), (qS 13 (.call (2 * f_laws_szLOpS) [(.tmp 11), (.tmp 12)])), (qS 5 (.mv (.tmp 13)))]) (.seq (.seq (.ops [(qS 14 (.mv (.tmp 5))), (qS 15 (.pu (.n (.ar .lss)) [(.tmp 14), (ic 0)]))]) (.cond (.tmp 15) (.seq (.ops [(qS 4 (.mv (.const (.bool true))))]) .ret) .skip)) (.seq (.ops [(qS 17 (.mv (.tmp 0))), (qS 18 (.call (2 * f_laws_toLOpS) [(.tmp 17)])), (qS 19 (.load 2 true (.tmp 3))), (qS 20 (.call (2 * f_laws_toStamp) [(.tmp 19)])), (qS 21 (.call (2 * f_spec_Follow) [(.tmp 18), (.tmp 20)])), (qS 16 (.mv (.tmp 21))), (qS 22 (.extract 0 (.tmp 16))), (qS 23 (.extract 1 (.tmp 16))), (qS 6 (.mv (.tmp 22))), (qS 7 (.mv (.tmp 23)))]) (.seq (.ops [(qS 24 (.mv (.tmp 0))), (qS 25 (.call (2 * f_laws_toLOpS + 1) [(.tmp 24)])), (qS 8 (.mv (.tmp 25)))]) (.seq (.ops [(qS 27 (.mv (.tmp 8))), (qS 28 (.load 2 true (.tmp 3))), (qS 29 (.call (2 * f_laws_toStamp) [(.tmp 28)])), (qS 30 (.call (2 * f_impl_Follow) [(.tmp 27), (.tmp 29)])), (qS 26 (.mv (.tmp 30))), (qS 31 (.extract 0 (.tmp 26))), (qS 32 (.extract 1 (.tmp 26))), (qS 9 (.mv (.tmp 31))), (qS 10 (.mv (.tmp 32)))]) (.seq (.seq (.ops [(qS 33 (.mv (.tmp 9))), (qS 34 (.mv (.tmp 6))), (qS 35 (.pu (.n (.ar .neq)) [(.tmp 33), (.tmp 34)])), (qS 36 (.mv (.tmp 35))), ⟨(.some 37), (.mv (.tmp 10)), (.some (36, false)), [], .none⟩, ⟨(.some 38), (.mv (.tmp 7)), (.some (36, false)), [], .none⟩, ⟨(.some 39), (.pu (.n (.ar .neq)) [(.tmp 37), (.tmp 38)]), (.some (36, false)), [], .none⟩, (qS 40 (.pick (.tmp 36) (.const (.bool true)) (.tmp 39)))]) (.cond (.tmp 40) (.seq (.ops [(qS 4 (.mv (.const (.bool false))))]) .ret) .skip)) (.seq (.seq (.ops [(qS 41 (.mv (.tmp 8))), (qS 42 (.mv (.tmp 0))), (qS 43 (.call (2 * f_laws_toLOpS + 1) [(.tmp 42)])), (qS 44 (.call (2 * f_laws_eqLOpS) [(.tmp 41), (.tmp 43)])), (qS 45 (.pu (.n (.un .not)) [(.tmp 44)]))]) (.cond (.tmp 45) (.seq (.ops [(qS 4 (.mv (.const (.bool false))))]) .ret) .skip)) (.seq (.ops [(qS 4 (.mv (.const (.bool true))))]) .ret)))))))))), [(.tmp 4)]⟩
set_option maxHeartbeats 10000000 in
theorem d_laws_FnExactFollow {P : Program} {env : Env} {f_laws_szLOpS : Nat} {f_laws_toLOpS : Nat} {f_laws_toStamp : Nat} {f_spec_Follow : Nat} {f_impl_Follow : Nat} {f_laws_eqLOpS : Nat}  (ep_laws_szLOpS : env (2 * f_laws_szLOpS) = pureFn true (FA fun a : List TLOp × Int => p_laws_szLOpS a.1 a.2)) (ep_laws_toLOpS : env (2 * f_laws_toLOpS) = pureFn true (FA fun a : List TLOp => p_laws_toLOpS a)) (ep_laws_toStamp : env (2 * f_laws_toStamp) = pureFn true (FA fun a : TStamp => p_laws_toStamp a)) (ep_spec_Follow : env (2 * f_spec_Follow) = pureFn true (FA fun a : List TLOp × TStamp => p_spec_Follow a.1 a.2)) (ep_impl_Follow : env (2 * f_impl_Follow) = pureFn true (FA fun a : List TLOp × TStamp => p_impl_Follow a.1 a.2)) (ep_laws_eqLOpS : env (2 * f_laws_eqLOpS) = pureFn true (FA fun a : List TLOp × List TLOp => p_laws_eqLOpS a.1 a.2)) (e_laws_toLOpS : k_laws_toLOpS (env (2 * f_laws_toLOpS + 1))) (x0 : List TLOp) (x1 : TStamp) (hp : p_laws_FnExactFollow x0 x1 = some true) : R P env (c_laws_FnExactFollow f_laws_szLOpS f_laws_toLOpS f_laws_toStamp f_spec_Follow f_impl_Follow f_laws_eqLOpS) ((encA (x0, x1)).map ofI) [] (fun v _ => v = .i (iB true)) := by
  refine R_of (by simp [c_laws_FnExactFollow, encA]) ?_
  have E := And.intro ep_laws_szLOpS (And.intro ep_laws_toLOpS (And.intro ep_laws_toStamp (And.intro ep_spec_Follow (And.intro ep_impl_Follow ep_laws_eqLOpS))))
  unfold c_laws_FnExactFollow
  unfold p_laws_FnExactFollow at hp
  obtain ⟨v0, hv0, hp⟩ := bind_eq hp
  by_cases hb1 : (decide (v0 < 0)) = true
  · rw [if_t hb1] at hp
    cases hp
    simp (maxSteps := 2000000) (disch := first|omega|(simp only[ls];first|done|omega)) only [E, hv0, hb1, gm]
  · replace hb1 := eq_false_of_ne_true hb1
    rw [if_f hb1] at hp
    obtain ⟨v2, hv2, hp⟩ := bind_eq hp
    obtain ⟨v3, hv3, hp⟩ := bind_eq hp
    obtain ⟨v4, hv4, hp⟩ := bind_eq hp
    simp (maxSteps := 2000000) (disch := first|omega|(simp only[ls];first|done|omega)) only [E, hv0, hb1, hv2, hv3, hv4, gm]
    refine call_f (fun h => getCells h 0 2 = some [.i (.s (.int .i64 x1.time)), .i (.s (.int .i64 x1.actor))] ∧ 0 < h.length) (fun h v h2 => oo_laws_toLOpS v2 h v h2) ?_ ?_ ?_
    · simp (maxSteps := 2000000) (disch := first|omega|(simp only[ls];first|done|omega)) only [E, hv0, hb1, hv2, hv3, hv4, gm] <;> omega
    · rintro h ⟨c0_0, c0_1⟩
      exact e_laws_toLOpS _ _ hv2 h _ (by simp (maxSteps := 2000000) (disch := first|omega|(simp only[ls];first|done|omega)) only [E, hv0, hb1, hv2, hv3, hv4, c0_0, c0_1, gm])
    · rintro hc0 v hh0 ⟨c0_0, c0_1⟩ hpost
      obtain ⟨kk0, nb0_0, rfl, lnb0_0, gnb0_0, wnb0_0⟩ := hpost
      have d0_0 : getCells hh0 0 2 = some [.i (.s (.int .i64 x1.time)), .i (.s (.int .i64 x1.actor))] := (keep_get kk0 c0_1 (by first | (simp; done) | (simp; omega))).trans c0_0
      have d0_0l := keep_lt kk0 c0_1
      have d0_1 := wnb0_0
      obtain ⟨v5, hv5, hp⟩ := bind_eq hp
      by_cases hb6 : (decide (v5.a = v4.a)) = true
      · rw [if_t hb6] at hp
        by_cases hb7 : (decide (v5.b = v4.b)) = true
        · rw [if_t hb7] at hp
          simp (maxSteps := 2000000) (disch := first|omega|(simp only[ls];first|done|omega)) only [E, hv0, hb1, hv2, hv3, hv4, d0_0, d0_1, hv5, hb6, hb7, gm]
          refine call_f (fun h => getCells h 0 2 = some [.i (.s (.int .i64 x1.time)), .i (.s (.int .i64 x1.actor))] ∧ 0 < h.length ∧ getCells h nb0_0 (v2.length * 6) = some (rows (v2 : List TLOp)) ∧ nb0_0 < h.length) (fun h v h2 => oo_laws_toLOpS v2 h v h2) ?_ ?_ ?_
          · simp (maxSteps := 2000000) (disch := first|omega|(simp only[ls];first|done|omega)) only [E, hv0, hb1, hv2, hv3, hv4, d0_0, d0_1, hv5, hb6, hb7, gm] <;> omega
          · rintro h ⟨c1_0, c1_1, c1_2, c1_3⟩
            exact e_laws_toLOpS _ _ hv2 h _ (by simp (maxSteps := 2000000) (disch := first|omega|(simp only[ls];first|done|omega)) only [E, hv0, hb1, hv2, hv3, hv4, d0_0, d0_1, hv5, hb6, hb7, c1_0, c1_1, c1_2, c1_3, gm])
          · rintro hc1 v hh1 ⟨c1_0, c1_1, c1_2, c1_3⟩ hpost
            obtain ⟨kk1, nb1_0, rfl, lnb1_0, gnb1_0, wnb1_0⟩ := hpost
            have d1_0 : getCells hh1 0 2 = some [.i (.s (.int .i64 x1.time)), .i (.s (.int .i64 x1.actor))] := (keep_get kk1 c1_1 (by first | (simp; done) | (simp; omega))).trans c1_0
            have d1_0l := keep_lt kk1 c1_1
            have d1_1 : getCells hh1 nb0_0 (v2.length * 6) = some (rows (v2 : List TLOp)) := (keep_get kk1 c1_3 (by first | (simp; done) | (simp; omega))).trans c1_2
            have d1_1l := keep_lt kk1 c1_3
            have d1_2 := wnb1_0
            obtain ⟨v8, hv8, hp⟩ := bind_eq hp
            by_cases hb9 : (v8) = true
            · rw [if_t hb9] at hp
              cases hp
              simp (maxSteps := 2000000) (disch := first|omega|(simp only[ls];first|done|omega)) only [E, hv0, hb1, hv2, hv3, hv4, d0_0, d0_1, hv5, hb6, hb7, d1_0, d1_1, d1_2, hv8, hb9, gm]
            · replace hb9 := eq_false_of_ne_true hb9
              rw [if_f hb9] at hp
              cases hp
        · replace hb7 := eq_false_of_ne_true hb7
          rw [if_f hb7] at hp
          cases hp
      · replace hb6 := eq_false_of_ne_true hb6
        rw [if_f hb6] at hp
        cases hp

end Go.AM
