/- Plain functions of ListText and their walks. No condition. -/
import Derived.Test.YtbmeclcmcknbaaaLabPackF
set_option linter.unusedVariables false
set_option linter.unusedSimpArgs false
set_option maxRecDepth 20000
namespace Go.AM
open Pic (enc dec dec_enc dec_sub)
open PicA (encA decA decA_encA decA_sub)
noncomputable def p_laws_szLOpS (x0 : List TLOp) (x1 : Int) : Option Int :=
  if (decide (w64 (x1 - (x0.length : Int)) < 0)) = true then
    some (-1)
  else
    some (w64 (x1 - (x0.length : Int)))
def c_laws_szLOpS : AFn := ⟨12, (.seq (.ops [(qS 4 (.mv (ic 0)))]) (.seq (.ops [(qS 5 (.mv (.tmp 1))), (qS 6 (.mv (.tmp 0))), (qS 7 (.len (.tmp 6))), (qS 8 (.pu (.n (.ar .sub)) [(.tmp 5), (.tmp 7)])), (qS 1 (.mv (.tmp 8)))]) (.seq (.seq (.ops [(qS 9 (.mv (.tmp 1))), (qS 10 (.pu (.n (.ar .lss)) [(.tmp 9), (ic 0)]))]) (.cond (.tmp 10) (.seq (.ops [(qS 4 (.mv (ic (-1))))]) .ret) .skip)) (.seq (.ops [(qS 11 (.mv (.tmp 1))), (qS 4 (.mv (.tmp 11)))]) .ret)))), [(.tmp 4)]⟩
set_option maxHeartbeats 10000000 in
theorem d_laws_szLOpS {P : Program} {env : Env}  (x0 : List TLOp) (x1 : Int) {b : Int} (hp : p_laws_szLOpS x0 x1 = some b) : R P env (c_laws_szLOpS) ((encA (x0, x1)).map ofI) [] (Tells true b) := by
  refine R_of (by simp [c_laws_szLOpS, encA]) ?_
  unfold c_laws_szLOpS
  unfold p_laws_szLOpS at hp
  by_cases hb0 : (decide (w64 (x1 - (x0.length : Int)) < 0)) = true
  · rw [if_t hb0] at hp
    have hp := Option.some.inj hp
    subst hp
    simp (maxSteps := 2000000) (disch := first|omega|(simp only[ls];first|done|omega)) only [hb0, gm]
  · replace hb0 := eq_false_of_ne_true hb0
    rw [if_f hb0] at hp
    have hp := Option.some.inj hp
    subst hp
    simp (maxSteps := 2000000) (disch := first|omega|(simp only[ls];first|done|omega)) only [hb0, gm]

noncomputable def p_laws_toStamp (x0 : TStamp) : Option TStamp :=
  some x0
def c_laws_toStamp : AFn := ⟨11, (.seq (.ops [(qS 1 (.box (.tmp 0))), (qS 2 (.allocV [(0, false), (0, false)] [(.int .i64 0), (.int .i64 0)]))]) (.seq (.ops [(qS 3 (.allocV [(0, false), (0, false)] [(.int .i64 0), (.int .i64 0)]))]) (.seq (.ops [(qS 4 (.fieldA 0 (.tmp 1))), (qS 5 (.load 1 false (.tmp 4))), (qS 6 (.fieldA 0 (.tmp 3))), ⟨.none, (.storeV [(0, false)] 1 (.tmp 6) (.tmp 5)), .none, [], .none⟩]) (.seq (.ops [(qS 7 (.fieldA 1 (.tmp 1))), (qS 8 (.load 1 false (.tmp 7))), (qS 9 (.fieldA 1 (.tmp 3))), ⟨.none, (.storeV [(0, false)] 1 (.tmp 9) (.tmp 8)), .none, [], .none⟩]) (.seq (.ops [(qS 10 (.load 2 true (.tmp 3))), ⟨.none, (.storeV [(0, false), (0, false)] 2 (.tmp 2) (.tmp 10)), .none, [], .none⟩]) .ret))))), [(.cell 2 2 true)]⟩
set_option maxHeartbeats 10000000 in
theorem d_laws_toStamp {P : Program} {env : Env}  (x0 : TStamp) {b : TStamp} (hp : p_laws_toStamp x0 = some b) : R P env (c_laws_toStamp) ((encA (x0)).map ofI) [] (Tells true b) := by
  refine R_of (by simp [c_laws_toStamp, encA]) ?_
  unfold c_laws_toStamp
  unfold p_laws_toStamp at hp
  have hp := Option.some.inj hp
  subst hp
  simp (maxSteps := 2000000) (disch := first|omega|(simp only[ls];first|done|omega)) only [gm]

noncomputable def p_laws_toLOp (x0 : TLOp) : Option TLOp :=
  (p_laws_toStamp x0.id).bind fun v0 =>
  (p_laws_toStamp x0.at_).bind fun v1 =>
  some (TLOp.mk x0.kind x0.char v0 v1)
def c_laws_toLOp (f_laws_toStamp : Nat) : AFn := ⟨19, (.seq (.ops [(qS 1 (.box (.tmp 0))), (qS 2 (.allocV [(0, false), (0, false), (0, false), (0, false), (0, false), (0, false)] [(.int .i64 0), (.int .i64 0), (.int .i64 0), (.int .i64 0), (.int .i64 0), (.int .i64 0)]))]) (.seq (.ops [(qS 3 (.allocV [(0, false), (0, false), (0, false), (0, false), (0, false), (0, false)] [(.int .i64 0), (.int .i64 0), (.int .i64 0), (.int .i64 0), (.int .i64 0), (.int .i64 0)]))]) (.seq (.ops [(qS 4 (.fieldA 0 (.tmp 1))), (qS 5 (.load 1 false (.tmp 4))), (qS 6 (.fieldA 0 (.tmp 3))), ⟨.none, (.storeV [(0, false)] 1 (.tmp 6) (.tmp 5)), .none, [], .none⟩]) (.seq (.ops [(qS 7 (.fieldA 1 (.tmp 1))), (qS 8 (.load 1 false (.tmp 7))), (qS 9 (.fieldA 1 (.tmp 3))), ⟨.none, (.storeV [(0, false)] 1 (.tmp 9) (.tmp 8)), .none, [], .none⟩]) (.seq (.ops [(qS 10 (.fieldA 2 (.tmp 1))), (qS 11 (.load 2 true (.tmp 10))), (qS 12 (.call (2 * f_laws_toStamp) [(.tmp 11)])), (qS 13 (.fieldA 2 (.tmp 3))), ⟨.none, (.storeV [(0, false), (0, false)] 2 (.tmp 13) (.tmp 12)), .none, [], .none⟩]) (.seq (.ops [(qS 14 (.fieldA 4 (.tmp 1))), (qS 15 (.load 2 true (.tmp 14))), (qS 16 (.call (2 * f_laws_toStamp) [(.tmp 15)])), (qS 17 (.fieldA 4 (.tmp 3))), ⟨.none, (.storeV [(0, false), (0, false)] 2 (.tmp 17) (.tmp 16)), .none, [], .none⟩]) (.seq (.ops [(qS 18 (.load 6 true (.tmp 3))), ⟨.none, (.storeV [(0, false), (0, false), (0, false), (0, false), (0, false), (0, false)] 6 (.tmp 2) (.tmp 18)), .none, [], .none⟩]) .ret))))))), [(.cell 2 6 true)]⟩
set_option maxHeartbeats 10000000 in
theorem d_laws_toLOp {P : Program} {env : Env} {f_laws_toStamp : Nat}  (ep_laws_toStamp : env (2 * f_laws_toStamp) = pureFn true (FA fun a : TStamp => p_laws_toStamp a)) (x0 : TLOp) {b : TLOp} (hp : p_laws_toLOp x0 = some b) : R P env (c_laws_toLOp f_laws_toStamp) ((encA (x0)).map ofI) [] (Tells true b) := by
  refine R_of (by simp [c_laws_toLOp, encA]) ?_
  have E := ep_laws_toStamp
  unfold c_laws_toLOp
  unfold p_laws_toLOp at hp
  obtain ⟨v0, hv0, hp⟩ := bind_eq hp
  obtain ⟨v1, hv1, hp⟩ := bind_eq hp
  have hp := Option.some.inj hp
  subst hp
  simp (maxSteps := 2000000) (disch := first|omega|(simp only[ls];first|done|omega)) only [E, hv0, hv1, gm]

noncomputable def p_laws_toLOpS_l0 (x0 : List TLOp) : List TLOp × Int → Option (Lp (List TLOp × Int) (List TLOp))
  | (s1, s2) =>
    if (decide (s2 < (x0.length : Int))) = true then
      (get? x0 s2).bind fun v4 =>
      (p_laws_toLOp v4).bind fun v5 =>
      (get? s1 s2).bind fun v6 =>
      some (.go ((s1.set s2.toNat v5), w64 (s2 + 1)))
    else
      some (.out (s1, s2))
noncomputable def p_laws_toLOpS (x0 : List TLOp) : Option (List TLOp) :=
  ((mkL (x0.length : Int) 48 (x0.length : Int) (TLOp.mk 0 0 (TStamp.mk 0 0) (TStamp.mk 0 0)) : Option (List TLOp))).bind fun v0 =>
  (loopP (p_laws_toLOpS_l0 x0) (v0, 0)).bind fun ee0 => match ee0 with
  | .ret r => some r
  | .out (o8, o9) =>
    some o8
def c_laws_toLOpS (f_laws_toLOp : Nat) : AFn := ⟨23, (.seq (.ops [(qS 2 (.vnil 6 true))]) (.seq (.ops [(qS 5 (.mv (.tmp 0))), (qS 6 (.len (.tmp 5))), (qS 7 (.makeSl 6 true 48 [(.int .i64 0), (.int .i64 0), (.int .i64 0), (.int .i64 0), (.int .i64 0), (.int .i64 0)] (.tmp 6) (.tmp 6))), (qS 3 (.mv (.tmp 7)))]) (.seq (.seq (.ops [(qS 4 (.mv (ic 0)))]) (.block 0 (.loop (.seq (.seq (.ops [(qS 8 (.mv (.tmp 4))), (qS 9 (.mv (.tmp 0))), (qS 10 (.len (.tmp 9))), (qS 11 (.pu (.n (.ar .lss)) [(.tmp 8), (.tmp 10)]))]) (.cond (.tmp 11) .skip (.exit 0))) (.seq (.block 1 (.ops [(qS 14 (.mv (.tmp 3))), (qS 15 (.mv (.tmp 4))), (qS 16 (.mv (.tmp 0))), (qS 17 (.mv (.tmp 4))), (qS 18 (.idxS 6 (.tmp 16) (.tmp 17))), (qS 19 (.load 6 true (.tmp 18))), (qS 20 (.call (2 * f_laws_toLOp) [(.tmp 19)])), (qS 21 (.idxS 6 (.tmp 14) (.tmp 15))), ⟨.none, (.storeV [(0, false), (0, false), (0, false), (0, false), (0, false), (0, false)] 6 (.tmp 21) (.tmp 20)), .none, [], .none⟩])) (.ops [(qS 12 (.mv (.tmp 4))), (qS 13 (.pu (.n (.ar .add)) [(.tmp 12), (ic 1)])), (qS 4 (.mv (.tmp 13)))])))))) (.seq (.ops [(qS 22 (.mv (.tmp 3))), (qS 2 (.mv (.tmp 22)))]) .ret)))), [(.tmp 2)]⟩
set_option maxHeartbeats 10000000 in
theorem d_laws_toLOpS {P : Program} {env : Env} {f_laws_toLOp : Nat}  (ep_laws_toLOp : env (2 * f_laws_toLOp) = pureFn true (FA fun a : TLOp => p_laws_toLOp a)) (x0 : List TLOp) {b : List TLOp} (hp : p_laws_toLOpS x0 = some b) : R P env (c_laws_toLOpS f_laws_toLOp) ((encA (x0)).map ofI) [] (Tells true b) := by
  refine R_of (by simp [c_laws_toLOpS, encA]) ?_
  have E := ep_laws_toLOp
  unfold c_laws_toLOpS
  unfold p_laws_toLOpS at hp
  obtain ⟨v0, hv0, hp⟩ := bind_eq hp
  obtain ⟨kv0, qv0, lv0⟩ := mkL_some hv0
  have rv0 : (List.replicate x0.length [.i (.s (.int .i64 0)), .i (.s (.int .i64 0)), .i (.s (.int .i64 0)), .i (.s (.int .i64 0)), .i (.s (.int .i64 0)), .i (.s (.int .i64 0))]).flatten = rows v0 := by rw [qv0]; exact rows_rep (x := ((TLOp.mk 0 0 (TStamp.mk 0 0) (TStamp.mk 0 0)) : TLOp)) rfl
  have mv0 : x0.length = v0.length := by rw [lv0]; simp
  obtain ⟨ee0, hee0, hp⟩ := bind_eq hp
  simp (maxSteps := 2000000) (disch := first|omega|(simp only[ls];first|done|omega)) only [E, hv0, rv0, kv0.1, kv0.2.1, kv0.2.2.1, kv0.2.2.2, gm]
  refine W_loopP 0 (fun s t h => match s with | (s1, s2) => t 0 = .i (.sl 6 (x0.map enc)) ∧ t 3 = .hsl 1 (x0.length * 6) 0 6 true x0.length ∧ t 4 = .i (.s (.int .i64 s2)) ∧ getCells h 1 (x0.length * 6) = some (rows (s1 : List TLOp)) ∧ 1 < h.length) (RK [.tmp 2] (Tells true)) ?_ hee0 ?_ ?_
  · rintro ⟨s1, s2⟩ ee tt0 hh0 ⟨ftt0_0, ftt0_1, ftt0_2, ftt0_3, ftt0_4⟩ hp
    have ztt0_3 := len_rows ftt0_3
    simp only [zs] at ztt0_3
    rw [p_laws_toLOpS_l0] at hp
    by_cases hb3 : (decide (s2 < (x0.length : Int))) = true
    · rw [if_t hb3] at hp
      obtain ⟨v4, hv4, hp⟩ := bind_eq hp
      obtain ⟨v5, hv5, hp⟩ := bind_eq hp
      obtain ⟨v6, hv6, hp⟩ := bind_eq hp
      have gv6 := get_some hv6
      have hs7 : List.take (s2.toNat * 6) (rows s1) ++ .i (.s (.int .i64 v5.kind)) :: .i (.s (.int .i64 v5.char)) :: .i (.s (.int .i64 v5.id.time)) :: .i (.s (.int .i64 v5.id.actor)) :: .i (.s (.int .i64 v5.at_.time)) :: .i (.s (.int .i64 v5.at_.actor)) :: List.drop (s2.toNat * 6 + 6) (rows s1) = rows (s1.set s2.toNat v5) := by simpa [splice, zs, cellsV, I.cells, enc_TLOp] using rows_set_off (y := v5) (ys := [.i (.s (.int .i64 v5.kind)), .i (.s (.int .i64 v5.char)), .i (.s (.int .i64 v5.id.time)), .i (.s (.int .i64 v5.id.actor)), .i (.s (.int .i64 v5.at_.time)), .i (.s (.int .i64 v5.at_.actor))]) (k := 0) gv6.2.2 (Nat.le_of_ble_eq_true rfl) (by rfl)
      have hp := Option.some.inj hp
      subst hp
      simp (maxSteps := 2000000) (disch := first|omega|(simp only[ls];first|done|omega)) only [E, hv0, rv0, kv0.1, kv0.2.1, kv0.2.2.1, kv0.2.2.2, ftt0_0, ftt0_1, ftt0_2, ftt0_3, ftt0_4, hb3, hv4, hv5, hv6, (gv6).1, (gv6).2.1, hs7, gm] <;> omega
    · replace hb3 := eq_false_of_ne_true hb3
      rw [if_f hb3] at hp
      have hp := Option.some.inj hp
      subst hp
      simp (maxSteps := 2000000) (disch := first|omega|(simp only[ls];first|done|omega)) only [E, hv0, rv0, kv0.1, kv0.2.1, kv0.2.2.1, kv0.2.2.2, ftt0_0, ftt0_1, ftt0_2, ftt0_3, ftt0_4, hb3, gm] <;> omega
  · simp (maxSteps := 2000000) (disch := first|omega|(simp only[ls];first|done|omega)) only [E, hv0, rv0, kv0.1, kv0.2.1, kv0.2.2.1, kv0.2.2.2, gm] <;> omega
  · intro x tt1 hh1 hx
    rcases ee0 with ⟨o8, o9⟩ | r
    · obtain ⟨rfl, ftt1_0, ftt1_1, ftt1_2, ftt1_3, ftt1_4⟩ := hx
      have ztt1_3 := len_rows ftt1_3
      simp only [zs] at ztt1_3
      dsimp only at hp
      have hp := Option.some.inj hp
      subst hp
      simp (maxSteps := 2000000) (disch := first|omega|(simp only[ls];first|done|omega)) only [E, hv0, rv0, kv0.1, kv0.2.1, kv0.2.2.1, kv0.2.2.2, ftt1_0, ftt1_1, ftt1_2, ftt1_3, ftt1_4, gm]
    · obtain ⟨rfl, hx⟩ := hx
      dsimp only at hp
      cases hp
      simp only [seqK_ret, blockK_ret, retK_RK (K := Tells true), hx, and_self, true_and]

def o_laws_toLOpS (b : List TLOp) (v : V) (h : Heap) : Prop := ∃ n0 : Nat, v = .hsl n0 (b.length * 6) 0 6 true b.length ∧ getCells h n0 (b.length * 6) = some (rows b)
def oo_laws_toLOpS (b : List TLOp) (h : Heap) (v : V) (h2 : Heap) : Prop := Keep [] h h2 ∧ ∃ n0 : Nat, v = .hsl n0 (b.length * 6) 0 6 true b.length ∧ n0 < h2.length ∧ h.length ≤ n0 ∧ getCells h2 n0 (b.length * 6) = some (rows b)
def k_laws_toLOpS (F : Fun) : Prop := ∀ (x0 : List TLOp) (b : List TLOp), p_laws_toLOpS x0 = some b → ∀ (h : Heap) (args : List V), snapA 9 false h args = some (encA (x0)) → ∃ p, F none args h = some p ∧ oo_laws_toLOpS b h p.1 p.2
set_option maxHeartbeats 10000000 in
theorem w_laws_toLOpS {P : Program} {env : Env} {f_laws_toLOp : Nat}  (ep_laws_toLOp : env (2 * f_laws_toLOp) = pureFn true (FA fun a : TLOp => p_laws_toLOp a)) (x0 : List TLOp) {b : List TLOp} (hp : p_laws_toLOpS x0 = some b) : R P env (c_laws_toLOpS f_laws_toLOp) ((encA (x0)).map ofI) [] (o_laws_toLOpS b) := by
  refine R_of (by simp [c_laws_toLOpS, encA]) ?_
  have E := ep_laws_toLOp
  unfold c_laws_toLOpS
  unfold p_laws_toLOpS at hp
  obtain ⟨v0, hv0, hp⟩ := bind_eq hp
  obtain ⟨kv0, qv0, lv0⟩ := mkL_some hv0
  have rv0 : (List.replicate x0.length [.i (.s (.int .i64 0)), .i (.s (.int .i64 0)), .i (.s (.int .i64 0)), .i (.s (.int .i64 0)), .i (.s (.int .i64 0)), .i (.s (.int .i64 0))]).flatten = rows v0 := by rw [qv0]; exact rows_rep (x := ((TLOp.mk 0 0 (TStamp.mk 0 0) (TStamp.mk 0 0)) : TLOp)) rfl
  have mv0 : x0.length = v0.length := by rw [lv0]; simp
  obtain ⟨ee0, hee0, hp⟩ := bind_eq hp
  simp (maxSteps := 2000000) (disch := first|omega|(simp only[ls];first|done|omega)) only [E, hv0, rv0, kv0.1, kv0.2.1, kv0.2.2.1, kv0.2.2.2, gm]
  refine W_loopP 0 (fun s t h => match s with | (s1, s2) => t 0 = .i (.sl 6 (x0.map enc)) ∧ t 3 = .hsl 1 (x0.length * 6) 0 6 true x0.length ∧ t 4 = .i (.s (.int .i64 s2)) ∧ getCells h 1 (x0.length * 6) = some (rows (s1 : List TLOp)) ∧ 1 < h.length) (RK [.tmp 2] (o_laws_toLOpS)) ?_ hee0 ?_ ?_
  · rintro ⟨s1, s2⟩ ee tt0 hh0 ⟨ftt0_0, ftt0_1, ftt0_2, ftt0_3, ftt0_4⟩ hp
    have ztt0_3 := len_rows ftt0_3
    simp only [zs] at ztt0_3
    rw [p_laws_toLOpS_l0] at hp
    by_cases hb3 : (decide (s2 < (x0.length : Int))) = true
    · rw [if_t hb3] at hp
      obtain ⟨v4, hv4, hp⟩ := bind_eq hp
      obtain ⟨v5, hv5, hp⟩ := bind_eq hp
      obtain ⟨v6, hv6, hp⟩ := bind_eq hp
      have gv6 := get_some hv6
      have hs7 : List.take (s2.toNat * 6) (rows s1) ++ .i (.s (.int .i64 v5.kind)) :: .i (.s (.int .i64 v5.char)) :: .i (.s (.int .i64 v5.id.time)) :: .i (.s (.int .i64 v5.id.actor)) :: .i (.s (.int .i64 v5.at_.time)) :: .i (.s (.int .i64 v5.at_.actor)) :: List.drop (s2.toNat * 6 + 6) (rows s1) = rows (s1.set s2.toNat v5) := by simpa [splice, zs, cellsV, I.cells, enc_TLOp] using rows_set_off (y := v5) (ys := [.i (.s (.int .i64 v5.kind)), .i (.s (.int .i64 v5.char)), .i (.s (.int .i64 v5.id.time)), .i (.s (.int .i64 v5.id.actor)), .i (.s (.int .i64 v5.at_.time)), .i (.s (.int .i64 v5.at_.actor))]) (k := 0) gv6.2.2 (Nat.le_of_ble_eq_true rfl) (by rfl)
      have hp := Option.some.inj hp
      subst hp
      simp (maxSteps := 2000000) (disch := first|omega|(simp only[ls];first|done|omega)) only [E, hv0, rv0, kv0.1, kv0.2.1, kv0.2.2.1, kv0.2.2.2, ftt0_0, ftt0_1, ftt0_2, ftt0_3, ftt0_4, hb3, hv4, hv5, hv6, (gv6).1, (gv6).2.1, hs7, gm] <;> omega
    · replace hb3 := eq_false_of_ne_true hb3
      rw [if_f hb3] at hp
      have hp := Option.some.inj hp
      subst hp
      simp (maxSteps := 2000000) (disch := first|omega|(simp only[ls];first|done|omega)) only [E, hv0, rv0, kv0.1, kv0.2.1, kv0.2.2.1, kv0.2.2.2, ftt0_0, ftt0_1, ftt0_2, ftt0_3, ftt0_4, hb3, gm] <;> omega
  · simp (maxSteps := 2000000) (disch := first|omega|(simp only[ls];first|done|omega)) only [E, hv0, rv0, kv0.1, kv0.2.1, kv0.2.2.1, kv0.2.2.2, gm] <;> omega
  · intro x tt1 hh1 hx
    rcases ee0 with ⟨o8, o9⟩ | r
    · obtain ⟨rfl, ftt1_0, ftt1_1, ftt1_2, ftt1_3, ftt1_4⟩ := hx
      have ztt1_3 := len_rows ftt1_3
      simp only [zs] at ztt1_3
      dsimp only at hp
      have hp := Option.some.inj hp
      subst hp
      simp (maxSteps := 2000000) (disch := first|omega|(simp only[ls];first|done|omega)) only [E, hv0, rv0, kv0.1, kv0.2.1, kv0.2.2.1, kv0.2.2.2, ftt1_0, ftt1_1, ftt1_2, ftt1_3, ftt1_4, gm]
      refine ⟨1, ?_⟩
      simp (maxSteps := 2000000) (disch := first|omega|(simp only[ls];first|done|omega)) only [E, hv0, rv0, kv0.1, kv0.2.1, kv0.2.2.1, kv0.2.2.2, ftt1_0, ftt1_1, ftt1_2, ftt1_3, ftt1_4, o_laws_toLOpS, (show (o8).length = x0.length from by first | omega | rfl | (simp; done) | (simp; omega)), gm] <;> omega
    · obtain ⟨rfl, hx⟩ := hx
      dsimp only at hp
      cases hp
      simp only [seqK_ret, blockK_ret, retK_RK (K := o_laws_toLOpS), hx, and_self, true_and]
theorem ko_laws_toLOpS {P : Program} {env : Env} {f_laws_toLOp : Nat}  (ep_laws_toLOp : env (2 * f_laws_toLOp) = pureFn true (FA fun a : TLOp => p_laws_toLOp a)) : k_laws_toLOpS (ownFn P env (c_laws_toLOpS f_laws_toLOp)) := by
  intro x0 b hp h args has
  obtain ⟨⟨v, H2⟩, hr, n0, rfl, wn0⟩ := w_laws_toLOpS ep_laws_toLOp x0 hp
  exact ⟨_, own_call has hr rfl, keep_moved, n0 + h.length, rfl, (moved_lt wn0).2, (moved_lt wn0).1, moved_rows wn0⟩

noncomputable def p_spec_l04Bytes (x0 : Int) : Option (List U8) :=
  if (decide (x0 < 128)) = true then
    some ([(U8.mk (IntKind.wrap .u8 x0))])
  else
    if (decide (x0 < 2048)) = true then
      some ([(U8.mk (IntKind.wrap .u8 (w64 (192 + (w64 (Int.tdiv x0 64)))))), (U8.mk (IntKind.wrap .u8 (w64 (128 + (Int.tmod x0 64)))))])
    else
      if (decide (x0 < 65536)) = true then
        some ([(U8.mk (IntKind.wrap .u8 (w64 (224 + (w64 (Int.tdiv x0 4096)))))), (U8.mk (IntKind.wrap .u8 (w64 (128 + (Int.tmod (w64 (Int.tdiv x0 64)) 64))))), (U8.mk (IntKind.wrap .u8 (w64 (128 + (Int.tmod x0 64)))))])
      else
        some ([(U8.mk (IntKind.wrap .u8 (w64 (240 + (w64 (Int.tdiv x0 262144)))))), (U8.mk (IntKind.wrap .u8 (w64 (128 + (Int.tmod (w64 (Int.tdiv x0 4096)) 64))))), (U8.mk (IntKind.wrap .u8 (w64 (128 + (Int.tmod (w64 (Int.tdiv x0 64)) 64))))), (U8.mk (IntKind.wrap .u8 (w64 (128 + (Int.tmod x0 64)))))])
def c_spec_l04Bytes : AFn := ⟨57, (.seq (.ops [(qS 2 (.vnil 1 false))]) (.seq (.block 0 (.seq (.ops [(qS 4 (.mv (.tmp 0))), (qS 5 (.pu (.n (.ar .lss)) [(.tmp 4), (ic 128)])), (qS 3 (.mv (.tmp 5)))]) (.cond (.tmp 3) (.seq (.ops [(qS 6 (.mv (.tmp 0))), (qS 7 (.pu (.n (.conv .u8)) [(.tmp 6)])), (qS 8 (.buildSl 1 false 1 [(.int .u8 0)] [(0, (.tmp 7))])), (qS 2 (.mv (.tmp 8)))]) .ret) (.seq (.ops [(qS 10 (.mv (.tmp 0))), (qS 11 (.pu (.n (.ar .lss)) [(.tmp 10), (ic 2048)])), (qS 9 (.mv (.tmp 11)))]) (.cond (.tmp 9) (.seq (.ops [(qS 12 (.mv (.tmp 0))), (qS 13 (.pu (.n (.ar .quo)) [(.tmp 12), (ic 64)])), (qS 14 (.pu (.n (.ar .add)) [(ic 192), (.tmp 13)])), (qS 15 (.pu (.n (.conv .u8)) [(.tmp 14)])), (qS 16 (.mv (.tmp 0))), (qS 17 (.pu (.n (.ar .rem)) [(.tmp 16), (ic 64)])), (qS 18 (.pu (.n (.ar .add)) [(ic 128), (.tmp 17)])), (qS 19 (.pu (.n (.conv .u8)) [(.tmp 18)])), (qS 20 (.buildSl 1 false 2 [(.int .u8 0)] [(0, (.tmp 15)), (1, (.tmp 19))])), (qS 2 (.mv (.tmp 20)))]) .ret) (.seq (.ops [(qS 22 (.mv (.tmp 0))), (qS 23 (.pu (.n (.ar .lss)) [(.tmp 22), (ic 65536)])), (qS 21 (.mv (.tmp 23)))]) (.cond (.tmp 21) (.seq (.ops [(qS 24 (.mv (.tmp 0))), (qS 25 (.pu (.n (.ar .quo)) [(.tmp 24), (ic 4096)])), (qS 26 (.pu (.n (.ar .add)) [(ic 224), (.tmp 25)])), (qS 27 (.pu (.n (.conv .u8)) [(.tmp 26)])), (qS 28 (.mv (.tmp 0))), (qS 29 (.pu (.n (.ar .quo)) [(.tmp 28), (ic 64)])), (qS 30 (.pu (.n (.ar .rem)) [(.tmp 29), (ic 64)])), (qS 31 (.pu (.n (.ar .add)) [(ic 128), (.tmp 30)])), (qS 32 (.pu (.n (.conv .u8)) [(.tmp 31)])), (qS 33 (.mv (.tmp 0))), (qS 34 (.pu (.n (.ar .rem)) [(.tmp 33), (ic 64)])), (qS 35 (.pu (.n (.ar .add)) [(ic 128), (.tmp 34)])), (qS 36 (.pu (.n (.conv .u8)) [(.tmp 35)])), (qS 37 (.buildSl 1 false 3 [(.int .u8 0)] [(0, (.tmp 27)), (1, (.tmp 32)), (2, (.tmp 36))])), (qS 2 (.mv (.tmp 37)))]) .ret) .skip))))))) (.seq (.ops [(qS 38 (.mv (.tmp 0))), (qS 39 (.pu (.n (.ar .quo)) [(.tmp 38), (ic 262144)])), (qS 40 (.pu (.n (.ar .add)) [(ic 240), (.tmp 39)])), (qS 41 (.pu (.n (.conv .u8)) [(.tmp 40)])), (qS 42 (.mv (.tmp 0))), (qS 43 (.pu (.n (.ar .quo)) [(.tmp 42), (ic 4096)])), (qS 44 (.pu (.n (.ar .rem)) [(.tmp 43), (ic 64)])), (qS 45 (.pu (.n (.ar .add)) [(ic 128), (.tmp 44)])), (qS 46 (.pu (.n (.conv .u8)) [(.tmp 45)])), (qS 47 (.mv (.tmp 0))), (qS 48 (.pu (.n (.ar .quo)) [(.tmp 47), (ic 64)])), (qS 49 (.pu (.n (.ar .rem)) [(.tmp 48), (ic 64)])), (qS 50 (.pu (.n (.ar .add)) [(ic 128), (.tmp 49)])), (qS 51 (.pu (.n (.conv .u8)) [(.tmp 50)])), (qS 52 (.mv (.tmp 0))), (qS 53 (.pu (.n (.ar .rem)) [(.tmp 52), (ic 64)])), (qS 54 (.pu (.n (.ar .add)) [(ic 128), (.tmp 53)])), (qS 55 (.pu (.n (.conv .u8)) [(.tmp 54)])), (qS 56 (.buildSl 1 false 4 [(.int .u8 0)] [(0, (.tmp 41)), (1, (.tmp 46)), (2, (.tmp 51)), (3, (.tmp 55))])), (qS 2 (.mv (.tmp 56)))]) .ret))), [(.tmp 2)]⟩
set_option maxHeartbeats 10000000 in
theorem d_spec_l04Bytes {P : Program} {env : Env}  (x0 : Int) {b : List U8} (hp : p_spec_l04Bytes x0 = some b) : R P env (c_spec_l04Bytes) ((encA (x0)).map ofI) [] (Tells true b) := by
  refine R_of (by simp [c_spec_l04Bytes, encA]) ?_
  unfold c_spec_l04Bytes
  unfold p_spec_l04Bytes at hp
  by_cases hb0 : (decide (x0 < 128)) = true
  · rw [if_t hb0] at hp
    have hp := Option.some.inj hp
    subst hp
    simp (maxSteps := 2000000) (disch := first|omega|(simp only[ls];first|done|omega)) only [hb0, gm]
    rfl
  · replace hb0 := eq_false_of_ne_true hb0
    rw [if_f hb0] at hp
    by_cases hb1 : (decide (x0 < 2048)) = true
    · rw [if_t hb1] at hp
      have hp := Option.some.inj hp
      subst hp
      simp (maxSteps := 2000000) (disch := first|omega|(simp only[ls];first|done|omega)) only [hb0, hb1, gm]
      rfl
    · replace hb1 := eq_false_of_ne_true hb1
      rw [if_f hb1] at hp
      by_cases hb2 : (decide (x0 < 65536)) = true
      · rw [if_t hb2] at hp
        have hp := Option.some.inj hp
        subst hp
        simp (maxSteps := 2000000) (disch := first|omega|(simp only[ls];first|done|omega)) only [hb0, hb1, hb2, gm]
        rfl
      · replace hb2 := eq_false_of_ne_true hb2
        rw [if_f hb2] at hp
        have hp := Option.some.inj hp
        subst hp
        simp (maxSteps := 2000000) (disch := first|omega|(simp only[ls];first|done|omega)) only [hb0, hb1, hb2, gm]
        rfl

noncomputable def p_spec_ListText_l0 (v3 : List TLCell) : List U8 × Int → Option (Lp (List U8 × Int) (T2 ByteArray Int))
  | (s4, s5) =>
    if (decide (s5 < (v3.length : Int))) = true then
      (get? v3 s5).bind fun v7 =>
      (p_spec_l04Bytes v7.char).bind fun v8 =>
      (app? 1 s4 v8).bind fun v9 =>
      some (.go (v9, w64 (s5 + 1)))
    else
      some (.out (s4, s5))
noncomputable def p_spec_ListText (x0 : List TLOp) : Option (T2 ByteArray Int) :=
  (p_spec_l04Clean x0).bind fun v0 =>
  if (decide (v0.b = 0)) = true then
    (p_spec_l04Cells v0.a).bind fun v2 =>
    (p_spec_l04Seen v2).bind fun v3 =>
    (loopP (p_spec_ListText_l0 v3) (([] : List U8), 0)).bind fun ee0 => match ee0 with
    | .ret r => some r
    | .out (o10, o11) =>
      some ⟨(strOfNums (nums o10)), 0⟩
  else
    some ⟨(ByteArray.mk #[]), v0.b⟩
def c_spec_ListText (f_spec_l04Clean : Nat) (f_spec_l04Cells : Nat) (f_spec_l04Seen : Nat) (f_spec_l04Bytes : Nat) : AFn := ⟨37, (.seq (.ops [(qS 2 (.mv (.const (.string ⟨#[]⟩)))), (qS 3 (.mv (ic 0)))]) (.seq (.ops [(qS 10 (.mv (.tmp 0))), (qS 11 (.call (2 * f_spec_l04Clean) [(.tmp 10)])), (qS 9 (.mv (.tmp 11))), (qS 12 (.extract 0 (.tmp 9))), (qS 13 (.extract 1 (.tmp 9))), (qS 4 (.mv (.tmp 12))), (qS 5 (.mv (.tmp 13)))]) (.seq (.seq (.ops [(qS 14 (.mv (.tmp 5))), (qS 15 (.pu (.n (.ar .neq)) [(.tmp 14), (ic 0)]))]) (.cond (.tmp 15) (.seq (.ops [(qS 16 (.mv (.tmp 5))), (qS 2 (.mv (.const (.string ⟨#[]⟩)))), (qS 3 (.mv (.tmp 16)))]) .ret) .skip)) (.seq (.ops [(qS 17 (.buildSl 1 false 0 [(.int .u8 0)] [])), (qS 6 (.mv (.tmp 17)))]) (.seq (.ops [(qS 18 (.mv (.tmp 4))), (qS 19 (.call (2 * f_spec_l04Cells) [(.tmp 18)])), (qS 20 (.call (2 * f_spec_l04Seen) [(.tmp 19)])), (qS 7 (.mv (.tmp 20)))]) (.seq (.seq (.ops [(qS 8 (.mv (ic 0)))]) (.block 0 (.loop (.seq (.seq (.ops [(qS 21 (.mv (.tmp 8))), (qS 22 (.mv (.tmp 7))), (qS 23 (.len (.tmp 22))), (qS 24 (.pu (.n (.ar .lss)) [(.tmp 21), (.tmp 23)]))]) (.cond (.tmp 24) .skip (.exit 0))) (.seq (.block 1 (.ops [(qS 27 (.mv (.tmp 6))), (qS 28 (.mv (.tmp 7))), (qS 29 (.mv (.tmp 8))), (qS 30 (.idxS 4 (.tmp 28) (.tmp 29))), (qS 31 (.fieldA 2 (.tmp 30))), (qS 32 (.load 1 false (.tmp 31))), (qS 33 (.call (2 * f_spec_l04Bytes) [(.tmp 32)])), (qS 34 (.append 1 false 1 (.tmp 27) (.tmp 33))), (qS 6 (.mv (.tmp 34)))])) (.ops [(qS 25 (.mv (.tmp 8))), (qS 26 (.pu (.n (.ar .add)) [(.tmp 25), (ic 1)])), (qS 8 (.mv (.tmp 26)))])))))) (.seq (.ops [(qS 35 (.mv (.tmp 6))), (qS 36 (.b2s (.tmp 35))), (qS 2 (.mv (.tmp 36))), (qS 3 (.mv (ic 0)))]) .ret))))))), [(.tmp 2), (.tmp 3)]⟩
set_option maxHeartbeats 10000000 in
theorem d_spec_ListText {P : Program} {env : Env} {f_spec_l04Clean : Nat} {f_spec_l04Cells : Nat} {f_spec_l04Seen : Nat} {f_spec_l04Bytes : Nat}  (ep_spec_l04Clean : env (2 * f_spec_l04Clean) = pureFn true (FA fun a : List TLOp => p_spec_l04Clean a)) (ep_spec_l04Cells : env (2 * f_spec_l04Cells) = pureFn true (FA fun a : List TLOp => p_spec_l04Cells a)) (ep_spec_l04Seen : env (2 * f_spec_l04Seen) = pureFn true (FA fun a : List TLCell => p_spec_l04Seen a)) (ep_spec_l04Bytes : env (2 * f_spec_l04Bytes) = pureFn true (FA fun a : Int => p_spec_l04Bytes a)) (x0 : List TLOp) {b : T2 ByteArray Int} (hp : p_spec_ListText x0 = some b) : R P env (c_spec_ListText f_spec_l04Clean f_spec_l04Cells f_spec_l04Seen f_spec_l04Bytes) ((encA (x0)).map ofI) [] (Tells true b) := by
  refine R_of (by simp [c_spec_ListText, encA]) ?_
  have E := And.intro ep_spec_l04Clean (And.intro ep_spec_l04Cells (And.intro ep_spec_l04Seen ep_spec_l04Bytes))
  unfold c_spec_ListText
  unfold p_spec_ListText at hp
  obtain ⟨v0, hv0, hp⟩ := bind_eq hp
  by_cases hb1 : (decide (v0.b = 0)) = true
  · rw [if_t hb1] at hp
    obtain ⟨v2, hv2, hp⟩ := bind_eq hp
    obtain ⟨v3, hv3, hp⟩ := bind_eq hp
    obtain ⟨ee0, hee0, hp⟩ := bind_eq hp
    simp (maxSteps := 2000000) (disch := first|omega|(simp only[ls];first|done|omega)) only [E, hv0, hb1, hv2, hv3, gm]
    refine W_loopP 0 (fun s t h => match s with | (s4, s5) => t 6 = .hsl 0 s4.length 0 1 false s4.length ∧ t 7 = .i (.sl 4 (v3.map enc)) ∧ t 8 = .i (.s (.int .i64 s5)) ∧ getCells h 0 s4.length = some (rows (s4 : List U8)) ∧ 0 < h.length) (RK [.tmp 2, .tmp 3] (Tells true)) ?_ hee0 ?_ ?_
    · rintro ⟨s4, s5⟩ ee tt0 hh0 ⟨ftt0_0, ftt0_1, ftt0_2, ftt0_3, ftt0_4⟩ hp
      rw [p_spec_ListText_l0] at hp
      by_cases hb6 : (decide (s5 < (v3.length : Int))) = true
      · rw [if_t hb6] at hp
        obtain ⟨v7, hv7, hp⟩ := bind_eq hp
        obtain ⟨v8, hv8, hp⟩ := bind_eq hp
        obtain ⟨v9, hv9, hp⟩ := bind_eq hp
        simp (maxSteps := 2000000) (disch := first|omega|(simp only[ls];first|done|omega)) only [E, hv0, hb1, hv2, hv3, ftt0_0, ftt0_1, ftt0_2, ftt0_3, ftt0_4, hb6, hv7, hv8, gm]
        refine app_f (b := 0) (xs := s4) (ys := v8) (fun h => getCells h 0 s4.length = some (rows (s4 : List U8)) ∧ 0 < h.length) ?_ ?_ hv9 rfl (by first | rfl | omega | (simp; omega)) (by first | rfl | omega | (simp; omega)) (by first | rfl | omega | (simp; omega)) ?_
        · simp (maxSteps := 2000000) (disch := first|omega|(simp only[ls];first|done|omega)) only [E, hv0, hb1, hv2, hv3, ftt0_0, ftt0_1, ftt0_2, ftt0_3, ftt0_4, hb6, hv7, hv8, hv9, gm] <;> omega
        · rintro h ⟨c1_0, c1_1⟩
          exact gc_eq c1_0 (by omega)
        · rintro h hh1 ⟨c1_0, c1_1⟩ kk1 w1
          have d1_0 : getCells hh1 0 v9.length = some (rows (v9 : List U8)) := by simpa only [Nat.mul_one] using w1
          have d1_0l := keep_lt kk1 c1_1
          have hp := Option.some.inj hp
          subst hp
          simp (maxSteps := 2000000) (disch := first|omega|(simp only[ls];first|done|omega)) only [E, hv0, hb1, hv2, hv3, ftt0_0, ftt0_1, ftt0_2, ftt0_3, ftt0_4, hb6, hv7, hv8, hv9, d1_0, gm] <;> omega
      · replace hb6 := eq_false_of_ne_true hb6
        rw [if_f hb6] at hp
        have hp := Option.some.inj hp
        subst hp
        simp (maxSteps := 2000000) (disch := first|omega|(simp only[ls];first|done|omega)) only [E, hv0, hb1, hv2, hv3, ftt0_0, ftt0_1, ftt0_2, ftt0_3, ftt0_4, hb6, gm] <;> omega
    · simp (maxSteps := 2000000) (disch := first|omega|(simp only[ls];first|done|omega)) only [E, hv0, hb1, hv2, hv3, gm] <;> omega
    · intro x tt2 hh2 hx
      rcases ee0 with ⟨o10, o11⟩ | r
      · obtain ⟨rfl, ftt2_0, ftt2_1, ftt2_2, ftt2_3, ftt2_4⟩ := hx
        dsimp only at hp
        have hb12 : o10.length = o10.length := by omega
        have hp := Option.some.inj hp
        subst hp
        simp (maxSteps := 2000000) (disch := first|omega|(simp only[ls];first|done|omega)) only [E, hv0, hb1, hv2, hv3, ftt2_0, ftt2_1, ftt2_2, ftt2_3, ftt2_4, hb12, gm]
      · obtain ⟨rfl, hx⟩ := hx
        dsimp only at hp
        cases hp
        simp only [seqK_ret, blockK_ret, retK_RK (K := Tells true), hx, and_self, true_and]
  · replace hb1 := eq_false_of_ne_true hb1
    rw [if_f hb1] at hp
    have hp := Option.some.inj hp
    subst hp
    simp (maxSteps := 2000000) (disch := first|omega|(simp only[ls];first|done|omega)) only [E, hv0, hb1, gm]

noncomputable def p_laws_eqStamp (x0 : TStamp) (x1 : TStamp) : Option Bool :=
  if (decide (x0.time = x1.time)) = true then
    if (decide (x0.actor = x1.actor)) = true then
      some true
    else
      some false
  else
    some false
def c_laws_eqStamp : AFn := ⟨15, (.seq (.ops [(qS 2 (.box (.tmp 0))), (qS 3 (.box (.tmp 1))), (qS 4 (.mv (.const (.bool false))))]) (.seq (.seq (.ops [(qS 5 (.fieldA 0 (.tmp 2))), (qS 6 (.load 1 false (.tmp 5))), (qS 7 (.fieldA 0 (.tmp 3))), (qS 8 (.load 1 false (.tmp 7))), (qS 9 (.pu (.n (.ar .neq)) [(.tmp 6), (.tmp 8)]))]) (.cond (.tmp 9) (.seq (.ops [(qS 4 (.mv (.const (.bool false))))]) .ret) .skip)) (.seq (.seq (.ops [(qS 10 (.fieldA 1 (.tmp 2))), (qS 11 (.load 1 false (.tmp 10))), (qS 12 (.fieldA 1 (.tmp 3))), (qS 13 (.load 1 false (.tmp 12))), (qS 14 (.pu (.n (.ar .neq)) [(.tmp 11), (.tmp 13)]))]) (.cond (.tmp 14) (.seq (.ops [(qS 4 (.mv (.const (.bool false))))]) .ret) .skip)) (.seq (.ops [(qS 4 (.mv (.const (.bool true))))]) .ret)))), [(.tmp 4)]⟩
set_option maxHeartbeats 10000000 in
theorem d_laws_eqStamp {P : Program} {env : Env}  (x0 : TStamp) (x1 : TStamp) {b : Bool} (hp : p_laws_eqStamp x0 x1 = some b) : R P env (c_laws_eqStamp) ((encA (x0, x1)).map ofI) [] (Tells true b) := by
  refine R_of (by simp [c_laws_eqStamp, encA]) ?_
  unfold c_laws_eqStamp
  unfold p_laws_eqStamp at hp
  by_cases hb0 : (decide (x0.time = x1.time)) = true
  · rw [if_t hb0] at hp
    by_cases hb1 : (decide (x0.actor = x1.actor)) = true
    · rw [if_t hb1] at hp
      have hp := Option.some.inj hp
      subst hp
      simp (maxSteps := 2000000) (disch := first|omega|(simp only[ls];first|done|omega)) only [hb0, hb1, gm]
    · replace hb1 := eq_false_of_ne_true hb1
      rw [if_f hb1] at hp
      have hp := Option.some.inj hp
      subst hp
      simp (maxSteps := 2000000) (disch := first|omega|(simp only[ls];first|done|omega)) only [hb0, hb1, gm]
  · replace hb0 := eq_false_of_ne_true hb0
    rw [if_f hb0] at hp
    have hp := Option.some.inj hp
    subst hp
    simp (maxSteps := 2000000) (disch := first|omega|(simp only[ls];first|done|omega)) only [hb0, gm]

noncomputable def p_laws_eqLOp (x0 : TLOp) (x1 : TLOp) : Option Bool :=
  if (decide (x0.kind = x1.kind)) = true then
    if (decide (x0.char = x1.char)) = true then
      (p_laws_eqStamp x0.id x1.id).bind fun v2 =>
      if (v2) = true then
        (p_laws_eqStamp x0.at_ x1.at_).bind fun v4 =>
        if (v4) = true then
          some true
        else
          some false
      else
        some false
    else
      some false
  else
    some false
def c_laws_eqLOp (f_laws_eqStamp : Nat) : AFn := ⟨27, (.seq (.ops [(qS 2 (.box (.tmp 0))), (qS 3 (.box (.tmp 1))), (qS 4 (.mv (.const (.bool false))))]) (.seq (.seq (.ops [(qS 5 (.fieldA 0 (.tmp 2))), (qS 6 (.load 1 false (.tmp 5))), (qS 7 (.fieldA 0 (.tmp 3))), (qS 8 (.load 1 false (.tmp 7))), (qS 9 (.pu (.n (.ar .neq)) [(.tmp 6), (.tmp 8)]))]) (.cond (.tmp 9) (.seq (.ops [(qS 4 (.mv (.const (.bool false))))]) .ret) .skip)) (.seq (.seq (.ops [(qS 10 (.fieldA 1 (.tmp 2))), (qS 11 (.load 1 false (.tmp 10))), (qS 12 (.fieldA 1 (.tmp 3))), (qS 13 (.load 1 false (.tmp 12))), (qS 14 (.pu (.n (.ar .neq)) [(.tmp 11), (.tmp 13)]))]) (.cond (.tmp 14) (.seq (.ops [(qS 4 (.mv (.const (.bool false))))]) .ret) .skip)) (.seq (.seq (.ops [(qS 15 (.fieldA 2 (.tmp 2))), (qS 16 (.load 2 true (.tmp 15))), (qS 17 (.fieldA 2 (.tmp 3))), (qS 18 (.load 2 true (.tmp 17))), (qS 19 (.call (2 * f_laws_eqStamp) [(.tmp 16), (.tmp 18)])), (qS 20 (.pu (.n (.un .not)) [(.tmp 19)]))]) (.cond (.tmp 20) (.seq (.ops [(qS 4 (.mv (.const (.bool false))))]) .ret) .skip)) (.seq (.seq (.ops [(qS 21 (.fieldA 4 (.tmp 2))), (qS 22 (.load 2 true (.tmp 21))), (qS 23 (.fieldA 4 (.tmp 3))), (qS 24 (.load 2 true (.tmp 23))), (qS 25 (.call (2 * f_laws_eqStamp) [(.tmp 22), (.tmp 24)])), (qS 26 (.pu (.n (.un .not)) [(.tmp 25)]))]) (.cond (.tmp 26) (.seq (.ops [(qS 4 (.mv (.const (.bool false))))]) .ret) .skip)) (.seq (.ops [(qS 4 (.mv (.const (.bool true))))]) .ret)))))), [(.tmp 4)]⟩
set_option maxHeartbeats 10000000 in
theorem d_laws_eqLOp {P : Program} {env : Env} {f_laws_eqStamp : Nat}  (ep_laws_eqStamp : env (2 * f_laws_eqStamp) = pureFn true (FA fun a : TStamp × TStamp => p_laws_eqStamp a.1 a.2)) (x0 : TLOp) (x1 : TLOp) {b : Bool} (hp : p_laws_eqLOp x0 x1 = some b) : R P env (c_laws_eqLOp f_laws_eqStamp) ((encA (x0, x1)).map ofI) [] (Tells true b) := by
  refine R_of (by simp [c_laws_eqLOp, encA]) ?_
  have E := ep_laws_eqStamp
  unfold c_laws_eqLOp
  unfold p_laws_eqLOp at hp
  by_cases hb0 : (decide (x0.kind = x1.kind)) = true
  · rw [if_t hb0] at hp
    by_cases hb1 : (decide (x0.char = x1.char)) = true
    · rw [if_t hb1] at hp
      obtain ⟨v2, hv2, hp⟩ := bind_eq hp
      by_cases hb3 : (v2) = true
      · rw [if_t hb3] at hp
        obtain ⟨v4, hv4, hp⟩ := bind_eq hp
        by_cases hb5 : (v4) = true
        · rw [if_t hb5] at hp
          have hp := Option.some.inj hp
          subst hp
          simp (maxSteps := 2000000) (disch := first|omega|(simp only[ls];first|done|omega)) only [E, hb0, hb1, hv2, hb3, hv4, hb5, gm]
        · replace hb5 := eq_false_of_ne_true hb5
          rw [if_f hb5] at hp
          have hp := Option.some.inj hp
          subst hp
          simp (maxSteps := 2000000) (disch := first|omega|(simp only[ls];first|done|omega)) only [E, hb0, hb1, hv2, hb3, hv4, hb5, gm]
      · replace hb3 := eq_false_of_ne_true hb3
        rw [if_f hb3] at hp
        have hp := Option.some.inj hp
        subst hp
        simp (maxSteps := 2000000) (disch := first|omega|(simp only[ls];first|done|omega)) only [E, hb0, hb1, hv2, hb3, gm]
    · replace hb1 := eq_false_of_ne_true hb1
      rw [if_f hb1] at hp
      have hp := Option.some.inj hp
      subst hp
      simp (maxSteps := 2000000) (disch := first|omega|(simp only[ls];first|done|omega)) only [E, hb0, hb1, gm]
  · replace hb0 := eq_false_of_ne_true hb0
    rw [if_f hb0] at hp
    have hp := Option.some.inj hp
    subst hp
    simp (maxSteps := 2000000) (disch := first|omega|(simp only[ls];first|done|omega)) only [E, hb0, gm]

noncomputable def p_laws_eqLOpS_l0 (x0 : List TLOp) (x1 : List TLOp) : Int → Option (Lp (Int) Bool)
  | s1 =>
    if (decide (s1 < (x0.length : Int))) = true then
      (get? x0 s1).bind fun v3 =>
      (get? x1 s1).bind fun v4 =>
      (p_laws_eqLOp v3 v4).bind fun v5 =>
      if (v5) = true then
        some (.go (w64 (s1 + 1)))
      else
        some (.ret false)
    else
      some (.out s1)
noncomputable def p_laws_eqLOpS (x0 : List TLOp) (x1 : List TLOp) : Option Bool :=
  if (decide ((x0.length : Int) = (x1.length : Int))) = true then
    (loopP (p_laws_eqLOpS_l0 x0 x1) 0).bind fun ee0 => match ee0 with
    | .ret r => some r
    | .out o7 =>
      some true
  else
    some false
def c_laws_eqLOpS (f_laws_eqLOp : Nat) : AFn := ⟨27, (.seq (.ops [(qS 4 (.mv (.const (.bool false))))]) (.seq (.seq (.ops [(qS 6 (.mv (.tmp 0))), (qS 7 (.len (.tmp 6))), (qS 8 (.mv (.tmp 1))), (qS 9 (.len (.tmp 8))), (qS 10 (.pu (.n (.ar .neq)) [(.tmp 7), (.tmp 9)]))]) (.cond (.tmp 10) (.seq (.ops [(qS 4 (.mv (.const (.bool false))))]) .ret) .skip)) (.seq (.seq (.ops [(qS 5 (.mv (ic 0)))]) (.block 0 (.loop (.seq (.seq (.ops [(qS 11 (.mv (.tmp 5))), (qS 12 (.mv (.tmp 0))), (qS 13 (.len (.tmp 12))), (qS 14 (.pu (.n (.ar .lss)) [(.tmp 11), (.tmp 13)]))]) (.cond (.tmp 14) .skip (.exit 0))) (.seq (.block 1 (.seq (.ops [(qS 17 (.mv (.tmp 0))), (qS 18 (.mv (.tmp 5))), (qS 19 (.idxS 6 (.tmp 17) (.tmp 18))), (qS 20 (.load 6 true (.tmp 19))), (qS 21 (.mv (.tmp 1))), (qS 22 (.mv (.tmp 5))), (qS 23 (.idxS 6 (.tmp 21) (.tmp 22))), (qS 24 (.load 6 true (.tmp 23))), (qS 25 (.call (2 * f_laws_eqLOp) [(.tmp 20), (.tmp 24)])), (qS 26 (.pu (.n (.un .not)) [(.tmp 25)]))]) (.cond (.tmp 26) (.seq (.ops [(qS 4 (.mv (.const (.bool false))))]) .ret) .skip))) (.ops [(qS 15 (.mv (.tmp 5))), (qS 16 (.pu (.n (.ar .add)) [(.tmp 15), (ic 1)])), (qS 5 (.mv (.tmp 16)))])))))) (.seq (.ops [(qS 4 (.mv (.const (.bool true))))]) .ret)))), [(.tmp 4)]⟩
set_option maxHeartbeats 10000000 in
theorem d_laws_eqLOpS {P : Program} {env : Env} {f_laws_eqLOp : Nat}  (ep_laws_eqLOp : env (2 * f_laws_eqLOp) = pureFn true (FA fun a : TLOp × TLOp => p_laws_eqLOp a.1 a.2)) (x0 : List TLOp) (x1 : List TLOp) {b : Bool} (hp : p_laws_eqLOpS x0 x1 = some b) : R P env (c_laws_eqLOpS f_laws_eqLOp) ((encA (x0, x1)).map ofI) [] (Tells true b) := by
  refine R_of (by simp [c_laws_eqLOpS, encA]) ?_
  have E := ep_laws_eqLOp
  unfold c_laws_eqLOpS
  unfold p_laws_eqLOpS at hp
  by_cases hb0 : (decide ((x0.length : Int) = (x1.length : Int))) = true
  · rw [if_t hb0] at hp
    obtain ⟨ee0, hee0, hp⟩ := bind_eq hp
    simp (maxSteps := 2000000) (disch := first|omega|(simp only[ls];first|done|omega)) only [E, hb0, gm]
    refine W_loopP 0 (fun s t h => match s with | s1 => t 0 = .i (.sl 6 (x0.map enc)) ∧ t 1 = .i (.sl 6 (x1.map enc)) ∧ t 5 = .i (.s (.int .i64 s1))) (RK [.tmp 4] (Tells true)) ?_ hee0 ?_ ?_
    · rintro s1 ee tt0 hh0 ⟨ftt0_0, ftt0_1, ftt0_2⟩ hp
      rw [p_laws_eqLOpS_l0] at hp
      by_cases hb2 : (decide (s1 < (x0.length : Int))) = true
      · rw [if_t hb2] at hp
        obtain ⟨v3, hv3, hp⟩ := bind_eq hp
        obtain ⟨v4, hv4, hp⟩ := bind_eq hp
        obtain ⟨v5, hv5, hp⟩ := bind_eq hp
        by_cases hb6 : (v5) = true
        · rw [if_t hb6] at hp
          have hp := Option.some.inj hp
          subst hp
          simp (maxSteps := 2000000) (disch := first|omega|(simp only[ls];first|done|omega)) only [E, hb0, ftt0_0, ftt0_1, ftt0_2, hb2, hv3, hv4, hv5, hb6, gm] <;> omega
        · replace hb6 := eq_false_of_ne_true hb6
          rw [if_f hb6] at hp
          have hp := Option.some.inj hp
          subst hp
          simp (maxSteps := 2000000) (disch := first|omega|(simp only[ls];first|done|omega)) only [E, hb0, ftt0_0, ftt0_1, ftt0_2, hb2, hv3, hv4, hv5, hb6, gm]
      · replace hb2 := eq_false_of_ne_true hb2
        rw [if_f hb2] at hp
        have hp := Option.some.inj hp
        subst hp
        simp (maxSteps := 2000000) (disch := first|omega|(simp only[ls];first|done|omega)) only [E, hb0, ftt0_0, ftt0_1, ftt0_2, hb2, gm] <;> omega
    · simp (maxSteps := 2000000) (disch := first|omega|(simp only[ls];first|done|omega)) only [E, hb0, gm] <;> omega
    · intro x tt1 hh1 hx
      rcases ee0 with o7 | r
      · obtain ⟨rfl, ftt1_0, ftt1_1, ftt1_2⟩ := hx
        dsimp only at hp
        have hp := Option.some.inj hp
        subst hp
        simp (maxSteps := 2000000) (disch := first|omega|(simp only[ls];first|done|omega)) only [E, hb0, ftt1_0, ftt1_1, ftt1_2, gm]
      · obtain ⟨rfl, hx⟩ := hx
        dsimp only at hp
        cases hp
        simp only [seqK_ret, blockK_ret, retK_RK (K := Tells true), hx, and_self, true_and]
  · replace hb0 := eq_false_of_ne_true hb0
    rw [if_f hb0] at hp
    have hp := Option.some.inj hp
    subst hp
    simp (maxSteps := 2000000) (disch := first|omega|(simp only[ls];first|done|omega)) only [E, hb0, gm]

noncomputable def p_laws_FnExactListText (x0 : List TLOp) : Option Bool :=
  (p_laws_szLOpS x0 1048576).bind fun v0 =>
  if (decide (v0 < 0)) = true then
    some true
  else
    (p_laws_toLOpS x0).bind fun v2 =>
    (p_spec_ListText v2).bind fun v3 =>
    (p_impl_ListText v2).bind fun v4 =>
    if (decide (v4.a = v3.a)) = true then
      if (decide (v4.b = v3.b)) = true then
        (p_laws_eqLOpS v2 v2).bind fun v7 =>
        if (v7) = true then
          some true
        else
          some false
      else
        some false
    else
      some false
def c_laws_FnExactListText (f_laws_szLOpS : Nat) (f_laws_toLOpS : Nat) (f_spec_ListText : Nat) (f_impl_ListText : Nat) (f_laws_eqLOpS : Nat) : AFn := ⟨40, (.seq (.ops [(qS 2 (.mv (.const (.bool false))))]) (.seq (.ops [(qS 3 (.mv (ic 1048576)))]) (.seq (.ops [(qS 9 (.mv (.tmp 0))), (qS 10 (.mv (.tmp 3))), (qS 11 (.call (2 * f_laws_szLOpS) [(.tmp 9), (.tmp 10)])), (qS 3 (.mv (.tmp 11)))]) (.seq (.seq (.ops [(qS 12 (.mv (.tmp 3))), (qS 13 (.pu (.n (.ar .lss)) [(.tmp 12), (ic 0)]))]) (.cond (.tmp 13) (.seq (.ops [(qS 2 (.mv (.const (.bool true))))]) .ret) .skip)) (.seq (.ops [(qS 15 (.mv (.tmp 0))), (qS 16 (.call (2 * f_laws_toLOpS) [(.tmp 15)])), (qS 17 (.call (2 * f_spec_ListText) [(.tmp 16)])), (qS 14 (.mv (.tmp 17))), (qS 18 (.extract 0 (.tmp 14))), (qS 19 (.extract 1 (.tmp 14))), (qS 4 (.mv (.tmp 18))), (qS 5 (.mv (.tmp 19)))]) (.seq (.ops [(qS 20 (.mv (.tmp 0))), (qS 21 (.call (2 * f_laws_toLOpS + 1) [(.tmp 20)])), (qS 6 (.mv (.tmp 21)))]) (.seq (.ops [(qS 23 (.mv (.tmp 6))), (qS 24 (.call (2 * f_impl_ListText) [(.tmp 23)])), (qS 22 (.mv (.tmp 24))), (qS 25 (.extract 0 (.tmp 22))), (qS 26 (.extract 1 (.tmp 22))), (qS 7 (.mv (.tmp 25))), (qS 8 (.mv (.tmp 26)))]) (.seq (.seq (.ops [(qS 27 (.mv (.tmp 7))), (qS 28 (.mv (.tmp 4))), (qS 29 (.pu (.n (.ar .neq)) [(.tmp 27), (.tmp 28)])), (qS 30 (.mv (.tmp 29))), ⟨(.some 31), (.mv (.tmp 8)), (.some (30, false)), [], .none⟩, ⟨(.some 32), (.mv (.tmp 5)), (.some (30, false)), [], .none⟩, ⟨(.some 33), (.pu (.n (.ar .neq)) [(.tmp 31), (.tmp 32)]), (.some (30, false)), [], .none⟩, (qS 34 (.pick (.tmp 30) (.const (.bool true)) (.tmp 33)))]) (.cond (.tmp 34) (.seq (.ops [(qS 2 (.mv (.const (.bool false))))]) .ret) .skip)) (.seq (.seq (.ops [(qS 35 (.mv (.tmp 6))), (qS 36 (.mv (.tmp 0))), (qS 37 (.call (2 * f_laws_toLOpS + 1) [(.tmp 36)])), (qS 38 (.call (2 * f_laws_eqLOpS) [(.tmp 35), (.tmp 37)])), (qS 39 (.pu (.n (.un .not)) [(.tmp 38)]))]) (.cond (.tmp 39) (.seq (.ops [(qS 2 (.mv (.const (.bool false))))]) .ret) .skip)) (.seq (.ops [(qS 2 (.mv (.const (.bool true))))]) .ret)))))))))), [(.tmp 2)]⟩
set_option maxHeartbeats 10000000 in
theorem d_laws_FnExactListText {P : Program} {env : Env} {f_laws_szLOpS : Nat} {f_laws_toLOpS : Nat} {f_spec_ListText : Nat} {f_impl_ListText : Nat} {f_laws_eqLOpS : Nat}  (ep_laws_szLOpS : env (2 * f_laws_szLOpS) = pureFn true (FA fun a : List TLOp × Int => p_laws_szLOpS a.1 a.2)) (ep_laws_toLOpS : env (2 * f_laws_toLOpS) = pureFn true (FA fun a : List TLOp => p_laws_toLOpS a)) (ep_spec_ListText : env (2 * f_spec_ListText) = pureFn true (FA fun a : List TLOp => p_spec_ListText a)) (ep_impl_ListText : env (2 * f_impl_ListText) = pureFn true (FA fun a : List TLOp => p_impl_ListText a)) (ep_laws_eqLOpS : env (2 * f_laws_eqLOpS) = pureFn true (FA fun a : List TLOp × List TLOp => p_laws_eqLOpS a.1 a.2)) (e_laws_toLOpS : k_laws_toLOpS (env (2 * f_laws_toLOpS + 1))) (x0 : List TLOp) (hp : p_laws_FnExactListText x0 = some true) : R P env (c_laws_FnExactListText f_laws_szLOpS f_laws_toLOpS f_spec_ListText f_impl_ListText f_laws_eqLOpS) ((encA (x0)).map ofI) [] (fun v _ => v = .i (iB true)) := by
  refine R_of (by simp [c_laws_FnExactListText, encA]) ?_
  have E := And.intro ep_laws_szLOpS (And.intro ep_laws_toLOpS (And.intro ep_spec_ListText (And.intro ep_impl_ListText ep_laws_eqLOpS)))
  unfold c_laws_FnExactListText
  unfold p_laws_FnExactListText at hp
  obtain ⟨v0, hv0, hp⟩ := bind_eq hp
  by_cases hb1 : (decide (v0 < 0)) = true
  · rw [if_t hb1] at hp
    cases hp
    simp (maxSteps := 2000000) (disch := first|omega|(simp only[ls];first|done|omega)) only [E, hv0, hb1, gm]
  · replace hb1 := eq_false_of_ne_true hb1
    rw [if_f hb1] at hp
    obtain ⟨v2, hv2, hp⟩ := bind_eq hp
    obtain ⟨v3, hv3, hp⟩ := bind_eq hp
    simp (maxSteps := 2000000) (disch := first|omega|(simp only[ls];first|done|omega)) only [E, hv0, hb1, hv2, hv3, gm]
    refine call_f (fun h => True) (fun h v h2 => oo_laws_toLOpS v2 h v h2) ?_ ?_ ?_
    · simp (maxSteps := 2000000) (disch := first|omega|(simp only[ls];first|done|omega)) only [E, hv0, hb1, hv2, hv3, gm] <;> omega
    · rintro h _
      exact e_laws_toLOpS _ _ hv2 h _ (by simp (maxSteps := 2000000) (disch := first|omega|(simp only[ls];first|done|omega)) only [E, hv0, hb1, hv2, hv3, gm])
    · rintro hc0 v hh0 _ hpost
      obtain ⟨kk0, nb0_0, rfl, lnb0_0, gnb0_0, wnb0_0⟩ := hpost
      have d0_0 := wnb0_0
      obtain ⟨v4, hv4, hp⟩ := bind_eq hp
      by_cases hb5 : (decide (v4.a = v3.a)) = true
      · rw [if_t hb5] at hp
        by_cases hb6 : (decide (v4.b = v3.b)) = true
        · rw [if_t hb6] at hp
          simp (maxSteps := 2000000) (disch := first|omega|(simp only[ls];first|done|omega)) only [E, hv0, hb1, hv2, hv3, d0_0, hv4, hb5, hb6, gm]
          refine call_f (fun h => getCells h nb0_0 (v2.length * 6) = some (rows (v2 : List TLOp)) ∧ nb0_0 < h.length) (fun h v h2 => oo_laws_toLOpS v2 h v h2) ?_ ?_ ?_
          · simp (maxSteps := 2000000) (disch := first|omega|(simp only[ls];first|done|omega)) only [E, hv0, hb1, hv2, hv3, d0_0, hv4, hb5, hb6, gm] <;> omega
          · rintro h ⟨c1_0, c1_1⟩
            exact e_laws_toLOpS _ _ hv2 h _ (by simp (maxSteps := 2000000) (disch := first|omega|(simp only[ls];first|done|omega)) only [E, hv0, hb1, hv2, hv3, d0_0, hv4, hb5, hb6, c1_0, c1_1, gm])
          · rintro hc1 v hh1 ⟨c1_0, c1_1⟩ hpost
            obtain ⟨kk1, nb1_0, rfl, lnb1_0, gnb1_0, wnb1_0⟩ := hpost
            have d1_0 : getCells hh1 nb0_0 (v2.length * 6) = some (rows (v2 : List TLOp)) := (keep_get kk1 c1_1 (by first | (simp; done) | (simp; omega))).trans c1_0
            have d1_0l := keep_lt kk1 c1_1
            have d1_1 := wnb1_0
            obtain ⟨v7, hv7, hp⟩ := bind_eq hp
            by_cases hb8 : (v7) = true
            · rw [if_t hb8] at hp
              cases hp
              simp (maxSteps := 2000000) (disch := first|omega|(simp only[ls];first|done|omega)) only [E, hv0, hb1, hv2, hv3, d0_0, hv4, hb5, hb6, d1_0, d1_1, hv7, hb8, gm]
            · replace hb8 := eq_false_of_ne_true hb8
              rw [if_f hb8] at hp
              cases hp
        · replace hb6 := eq_false_of_ne_true hb6
          rw [if_f hb6] at hp
          cases hp
      · replace hb5 := eq_false_of_ne_true hb5
        rw [if_f hb5] at hp
        cases hp

end Go.AM
