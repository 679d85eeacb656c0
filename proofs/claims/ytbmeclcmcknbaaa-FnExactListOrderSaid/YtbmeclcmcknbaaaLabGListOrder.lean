/- Plain functions of ListOrder and their walks. No condition. -/
import Derived.Test.YtbmeclcmcknbaaaLabPackF
set_option linter.unusedVariables false
set_option linter.unusedSimpArgs false
set_option maxRecDepth 20000
namespace Go.AM
open Pic (enc dec dec_enc dec_sub)
open PicA (encA decA decA_encA decA_sub)
noncomputable def p_laws_szLOpS (x0 : List TLOp) (x1 : Int) : Option Int :=
  if (decide (w64 (x1 - (x0.length : Int)) < 0)) = true then
    some (-1)
  else
    some (w64 (x1 - (x0.length : Int)))
def c_laws_szLOpS : AFn := ⟨12, (.seq (.ops [(qS 4 (.mv (ic 0)))]) (.seq (.ops [(qS 5 (.mv (.tmp 1))), (qS 6 (.mv (.tmp 0))), (qS 7 (.len (.tmp 6))), (qS 8 (.pu (.n (.ar .sub)) [(.tmp 5), (.tmp 7)])), (qS 1 (.mv (.tmp 8)))]) (.seq (.seq (.ops [(qS 9 (.mv (.tmp 1))), (qS 10 (.pu (.n (.ar .lss)) [(.tmp 9), (ic 0)]))]) (.cond (.tmp 10) (.seq (.ops [(qS 4 (.mv (ic (-1))))]) .ret) .skip)) (.seq (.ops [(qS 11 (.mv (.tmp 1))), (qS 4 (.mv (.tmp 11)))]) .ret)))), [(.tmp 4)]⟩
set_option maxHeartbeats 10000000 in
theorem d_laws_szLOpS {P : Program} {env : Env}  (x0 : List TLOp) (x1 : Int) {b : Int} (hp : p_laws_szLOpS x0 x1 = some b) : R P env (c_laws_szLOpS) ((encA (x0, x1)).map ofI) [] (Tells true b) := by
  refine R_of (by simp [c_laws_szLOpS, encA]) ?_
  unfold c_laws_szLOpS
  unfold p_laws_szLOpS at hp
  by_cases hb0 : (decide (w64 (x1 - (x0.length : Int)) < 0)) = true
  · rw [if_t hb0] at hp
    have hp := Option.some.inj hp
    subst hp
    simp (maxSteps := 2000000) (disch := first|omega|(simp only[ls];first|done|omega)) only [hb0, gm]
  · replace hb0 := eq_false_of_ne_true hb0
    rw [if_f hb0] at hp
    have hp := Option.some.inj hp
    subst hp
    simp (maxSteps := 2000000) (disch := first|omega|(simp only[ls];first|done|omega)) only [hb0, gm]

noncomputable def p_laws_toStamp (x0 : TStamp) : Option TStamp :=
  some x0
def c_laws_toStamp : AFn := ⟨11, (.seq (.ops [(qS 1 (.box (.tmp 0))), (qS 2 (.allocV [(0, false), (0, false)] [(.int .i64 0), (.int .i64 0)]))]) (.seq (.ops [(qS 3 (.allocV [(0, false), (0, false)] [(.int .i64 0), (.int .i64 0)]))]) (.seq (.ops [(qS 4 (.fieldA 0 (.tmp 1))), (qS 5 (.load 1 false (.tmp 4))), (qS 6 (.fieldA 0 (.tmp 3))), ⟨.none, (.storeV [(0, false)] 1 (.tmp 6) (.tmp 5)), .none, [], .none⟩]) (.seq (.ops [(qS 7 (.fieldA 1 (.tmp 1))), (qS 8 (.load 1 false (.tmp 7))), (qS 9 (.fieldA 1 (.tmp 3))), ⟨.none, (.storeV [(0, false)] 1 (.tmp 9) (.tmp 8)), .none, [], .none⟩]) (.seq (.ops [(qS 10 (.load 2 true (.tmp 3))), ⟨.none, (.storeV [(0, false), (0, false)] 2 (.tmp 2) (.tmp 10)), .none, [], .none⟩]) .ret))))), [(.cell 2 2 true)]⟩
set_option maxHeartbeats 10000000 in
theorem d_laws_toStamp {P : Program} {env : Env}  (x0 : TStamp) {b : TStamp} (hp : p_laws_toStamp x0 = some b) : R P env (c_laws_toStamp) ((encA (x0)).map ofI) [] (Tells true b) := by
  refine R_of (by simp [c_laws_toStamp, encA]) ?_
  unfold c_laws_toStamp
  unfold p_laws_toStamp at hp
  have hp := Option.some.inj hp
  subst hp
  simp (maxSteps := 2000000) (disch := first|omega|(simp only[ls];first|done|omega)) only [gm]

noncomputable def p_laws_toLOp (x0 : TLOp) : Option TLOp :=
  (p_laws_toStamp x0.id).bind fun v0 =>
  (p_laws_toStamp x0.at_).bind fun v1 =>
  some (TLOp.mk x0.kind x0.char v0 v1)
def c_laws_toLOp (f_laws_toStamp : Nat) : AFn := ⟨19, (.seq (.ops [(qS 1 (.box (.tmp 0))), (qS 2 (.allocV [(0, false), (0, false), (0, false), (0, false), (0, false), (0, false)] [(.int .i64 0), (.int .i64 0), (.int .i64 0), (.int .i64 0), (.int .i64 0), (.int .i64 0)]))]) (.seq (.ops [(qS 3 (.allocV [(0, false), (0, false), (0, false), (0, false), (0, false), (0, false)] [(.int .i64 0), (.int .i64 0), (.int .i64 0), (.int .i64 0), (.int .i64 0), (.int .i64 0)]))]) (.seq (.ops [(qS 4 (.fieldA 0 (.tmp 1))), (qS 5 (.load 1 false (.tmp 4))), (qS 6 (.fieldA 0 (.tmp 3))), ⟨.none, (.storeV [(0, false)] 1 (.tmp 6) (.tmp 5)), .none, [], .none⟩]) (.seq (.ops [(qS 7 (.fieldA 1 (.tmp 1))), (qS 8 (.load 1 false (.tmp 7))), (qS 9 (.fieldA 1 (.tmp 3))), ⟨.none, (.storeV [(0, false)] 1 (.tmp 9) (.tmp 8)), .none, [], .none⟩]) (.seq (.ops [(qS 10 (.fieldA 2 (.tmp 1))), (qS 11 (.load 2 true (.tmp 10))), (qS 12 (.call (2 * f_laws_toStamp) [(.tmp 11)])), (qS 13 (.fieldA 2 (.tmp 3))), ⟨.none, (.storeV [(0, false), (0, false)] 2 (.tmp 13) (.tmp 12)), .none, [], .none⟩]) (.seq (.ops [(qS 14 (.fieldA 4 (.tmp 1))), (qS 15 (.load 2 true (.tmp 14))), (qS 16 (.call (2 * f_laws_toStamp) [(.tmp 15)])), (qS 17 (.fieldA 4 (.tmp 3))), ⟨.none, (.storeV [(0, false), (0, false)] 2 (.tmp 17) (.tmp 16)), .none, [], .none⟩]) (.seq (.ops [(qS 18 (.load 6 true (.tmp 3))), ⟨.none, (.storeV [(0, false), (0, false), (0, false), (0, false), (0, false), (0, false)] 6 (.tmp 2) (.tmp 18)), .none, [], .none⟩]) .ret))))))), [(.cell 2 6 true)]⟩
set_option maxHeartbeats 10000000 in
theorem d_laws_toLOp {P : Program} {env : Env} {f_laws_toStamp : Nat}  (ep_laws_toStamp : env (2 * f_laws_toStamp) = pureFn true (FA fun a : TStamp => p_laws_toStamp a)) (x0 : TLOp) {b : TLOp} (hp : p_laws_toLOp x0 = some b) : R P env (c_laws_toLOp f_laws_toStamp) ((encA (x0)).map ofI) [] (Tells true b) := by
  refine R_of (by simp [c_laws_toLOp, encA]) ?_
  have E := ep_laws_toStamp
  unfold c_laws_toLOp
  unfold p_laws_toLOp at hp
  obtain ⟨v0, hv0, hp⟩ := bind_eq hp
  obtain ⟨v1, hv1, hp⟩ := bind_eq hp
  have hp := Option.some.inj hp
  subst hp
  simp (maxSteps := 2000000) (disch := first|omega|(simp only[ls];first|done|omega)) only [E, hv0, hv1, gm]

noncomputable def p_laws_toLOpS_l0 (x0 : List TLOp) : List TLOp × Int → Option (Lp (List TLOp × Int) (List TLOp))
  | (s1, s2) =>
    if (decide (s2 < (x0.length : Int))) = true then
      (get? x0 s2).bind fun v4 =>
      (p_laws_toLOp v4).bind fun v5 =>
      (get? s1 s2).bind fun v6 =>
      some (.go ((s1.set s2.toNat v5), w64 (s2 + 1)))
    else
      some (.out (s1, s2))
noncomputable def p_laws_toLOpS (x0 : List TLOp) : Option (List TLOp) :=
  ((mkL (x0.length : Int) 48 (x0.length : Int) (TLOp.mk 0 0 (TStamp.mk 0 0) (TStamp.mk 0 0)) : Option (List TLOp))).bind fun v0 =>
  (loopP (p_laws_toLOpS_l0 x0) (v0, 0)).bind fun ee0 => match ee0 with
  | .ret r => some r
  | .out (o8, o9) =>
    some o8
def c_laws_toLOpS (f_laws_toLOp : Nat) : AFn := ⟨23, (.seq (.ops [(qS 2 (.vnil 6 true))]) (.seq (.ops [(qS 5 (.mv (.tmp 0))), (qS 6 (.len (.tmp 5))), (qS 7 (.makeSl 6 true 48 [(.int .i64 0), (.int .i64 0), (.int .i64 0), (.int .i64 0), (.int .i64 0), (.int .i64 0)] (.tmp 6) (.tmp 6))), (qS 3 (.mv (.tmp 7)))]) (.seq (.seq (.ops [(qS 4 (.mv (ic 0)))]) (.block 0 (.loop (.seq (.seq (.ops [(qS 8 (.mv (.tmp 4))), (qS 9 (.mv (.tmp 0))), (qS 10 (.len (.tmp 9))), (qS 11 (.pu (.n (.ar .lss)) [(.tmp 8), (.tmp 10)]))]) (.cond (.tmp 11) .skip (.exit 0))) (.seq (.block 1 (.ops [(qS 14 (.mv (.tmp 3))), (qS 15 (.mv (.tmp 4))), (qS 16 (.mv (.tmp 0))), (qS 17 (.mv (.tmp 4))), (qS 18 (.idxS 6 (.tmp 16) (.tmp 17))), (qS 19 (.load 6 true (.tmp 18))), (qS 20 (.call (2 * f_laws_toLOp) [(.tmp 19)])), (qS 21 (.idxS 6 (.tmp 14) (.tmp 15))), ⟨.none, (.storeV [(0, false), (0, false), (0, false), (0, false), (0, false), (0, false)] 6 (.tmp 21) (.tmp 20)), .none, [], .none⟩])) (.ops [(qS 12 (.mv (.tmp 4))), (qS 13 (.pu (.n (.ar .add)) [(.tmp 12), (ic 1)])), (qS 4 (.mv (.tmp 13)))])))))) (.seq (.ops [(qS 22 (.mv (.tmp 3))), (qS 2 (.mv (.tmp 22)))]) .ret)))), [(.tmp 2)]⟩
set_option maxHeartbeats 10000000 in
theorem d_laws_toLOpS {P : Program} {env : Env} {f_laws_toLOp : Nat}  (ep_laws_toLOp : env (2 * f_laws_toLOp) = pureFn true (FA fun a : TLOp => p_laws_toLOp a)) (x0 : List TLOp) {b : List TLOp} (hp : p_laws_toLOpS x0 = some b) : R P env (c_laws_toLOpS f_laws_toLOp) ((encA (x0)).map ofI) [] (Tells true b) := by
  refine R_of (by simp [c_laws_toLOpS, encA]) ?_
  have E := ep_laws_toLOp
  unfold c_laws_toLOpS
  unfold p_laws_toLOpS at hp
  obtain ⟨v0, hv0, hp⟩ := bind_eq hp
  obtain ⟨kv0, qv0, lv0⟩ := mkL_some hv0
  have rv0 : (List.replicate x0.length [.i (.s (.int .i64 0)), .i (.s (.int .i64 0)), .i (.s (.int .i64 0)), .i (.s (.int .i64 0)), .i (.s (.int .i64 0)), .i (.s (.int .i64 0))]).flatten = rows v0 := by rw [qv0]; exact rows_rep (x := ((TLOp.mk 0 0 (TStamp.mk 0 0) (TStamp.mk 0 0)) : TLOp)) rfl
  have mv0 : x0.length = v0.length := by rw [lv0]; simp
  obtain ⟨ee0, hee0, hp⟩ := bind_eq hp
  simp (maxSteps := 2000000) (disch := first|omega|(simp only[ls];first|done|omega)) only [E, hv0, rv0, kv0.1, kv0.2.1, kv0.2.2.1, kv0.2.2.2, gm]
  refine W_loopP 0 (fun s t h => match s with | (s1, s2) => t 0 = .i (.sl 6 (x0.map enc)) ∧ t 3 = .hsl 1 (x0.length * 6) 0 6 true x0.length ∧ t 4 = .i (.s (.int .i64 s2)) ∧ getCells h 1 (x0.length * 6) = some (rows (s1 : List TLOp)) ∧ 1 < h.length) (RK [.tmp 2] (Tells true)) ?_ hee0 ?_ ?_
  · rintro ⟨s1, s2⟩ ee tt0 hh0 ⟨ftt0_0, ftt0_1, ftt0_2, ftt0_3, ftt0_4⟩ hp
    have ztt0_3 := len_rows ftt0_3
    simp only [zs] at ztt0_3
    rw [p_laws_toLOpS_l0] at hp
    by_cases hb3 : (decide (s2 < (x0.length : Int))) = true
    · rw [if_t hb3] at hp
      obtain ⟨v4, hv4, hp⟩ := bind_eq hp
      obtain ⟨v5, hv5, hp⟩ := bind_eq hp
      obtain ⟨v6, hv6, hp⟩ := bind_eq hp
      have gv6 := get_some hv6
      have hs7 : List.take (s2.toNat * 6) (rows s1) ++ .i (.s (.int .i64 v5.kind)) :: .i (.s (.int .i64 v5.char)) :: .i (.s (.int .i64 v5.id.time)) :: .i (.s (.int .i64 v5.id.actor)) :: .i (.s (.int .i64 v5.at_.time)) :: .i (.s (.int .i64 v5.at_.actor)) :: List.drop (s2.toNat * 6 + 6) (rows s1) = rows (s1.set s2.toNat v5) := by simpa [splice, zs, cellsV, I.cells, enc_TLOp] using rows_set_off (y := v5) (ys := [.i (.s (.int .i64 v5.kind)), .i (.s (.int .i64 v5.char)), .i (.s (.int .i64 v5.id.time)), .i (.s (.int .i64 v5.id.actor)), .i (.s (.int .i64 v5.at_.time)), .i (.s (.int .i64 v5.at_.actor))]) (k := 0) gv6.2.2 (Nat.le_of_ble_eq_true rfl) (by rfl)
      have hp := Option.some.inj hp
      subst hp
      simp (maxSteps := 2000000) (disch := first|omega|(simp only[ls];first|done|omega)) only [E, hv0, rv0, kv0.1, kv0.2.1, kv0.2.2.1, kv0.2.2.2, ftt0_0, ftt0_1, ftt0_2, ftt0_3, ftt0_4, hb3, hv4, hv5, hv6, (gv6).1, (gv6).2.1, hs7, gm] <;> omega
    · replace hb3 := eq_false_of_ne_true hb3
      rw [if_f hb3] at hp
      have hp := Option.some.inj hp
      subst hp
      simp (maxSteps := 2000000) (disch := first|omega|(simp only[ls];first|done|omega)) only [E, hv0, rv0, kv0.1, kv0.2.1, kv0.2.2.1, kv0.2.2.2, ftt0_0, ftt0_1, ftt0_2, ftt0_3, ftt0_4, hb3, gm] <;> omega
  · simp (maxSteps := 2000000) (disch := first|omega|(simp only[ls];first|done|omega)) only [E, hv0, rv0, kv0.1, kv0.2.1, kv0.2.2.1, kv0.2.2.2, gm] <;> omega
  · intro x tt1 hh1 hx
    rcases ee0 with ⟨o8, o9⟩ | r
    · obtain ⟨rfl, ftt1_0, ftt1_1, ftt1_2, ftt1_3, ftt1_4⟩ := hx
      have ztt1_3 := len_rows ftt1_3
      simp only [zs] at ztt1_3
      dsimp only at hp
      have hp := Option.some.inj hp
      subst hp
      simp (maxSteps := 2000000) (disch := first|omega|(simp only[ls];first|done|omega)) only [E, hv0, rv0, kv0.1, kv0.2.1, kv0.2.2.1, kv0.2.2.2, ftt1_0, ftt1_1, ftt1_2, ftt1_3, ftt1_4, gm]
    · obtain ⟨rfl, hx⟩ := hx
      dsimp only at hp
      cases hp
      simp only [seqK_ret, blockK_ret, retK_RK (K := Tells true), hx, and_self, true_and]

def o_laws_toLOpS (b : List TLOp) (v : V) (h : Heap) : Prop := ∃ n0 : Nat, v = .hsl n0 (b.length * 6) 0 6 true b.length ∧ getCells h n0 (b.length * 6) = some (rows b)
def oo_laws_toLOpS (b : List TLOp) (h : Heap) (v : V) (h2 : Heap) : Prop := Keep [] h h2 ∧ ∃ n0 : Nat, v = .hsl n0 (b.length * 6) 0 6 true b.length ∧ n0 < h2.length ∧ h.length ≤ n0 ∧ getCells h2 n0 (b.length * 6) = some (rows b)
def k_laws_toLOpS (F : Fun) : Prop := ∀ (x0 : List TLOp) (b : List TLOp), p_laws_toLOpS x0 = some b → ∀ (h : Heap) (args : List V), snapA 9 false h args = some (encA (x0)) → ∃ p, F none args h = some p ∧ oo_laws_toLOpS b h p.1 p.2
set_option maxHeartbeats 10000000 in
theorem w_laws_toLOpS {P : Program} {env : Env} {f_laws_toLOp : Nat}  (ep_laws_toLOp : env (2 * f_laws_toLOp) = pureFn true (FA fun a : TLOp => p_laws_toLOp a)) (x0 : List TLOp) {b : List TLOp} (hp : p_laws_toLOpS x0 = some b) : R P env (c_laws_toLOpS f_laws_toLOp) ((encA (x0)).map ofI) [] (o_laws_toLOpS b) := by
  refine R_of (by simp [c_laws_toLOpS, encA]) ?_
  have E := ep_laws_toLOp
  unfold c_laws_toLOpS
  unfold p_laws_toLOpS at hp
  obtain ⟨v0, hv0, hp⟩ := bind_eq hp
  obtain ⟨kv0, qv0, lv0⟩ := mkL_some hv0
  have rv0 : (List.replicate x0.length [.i (.s (.int .i64 0)), .i (.s (.int .i64 0)), .i (.s (.int .i64 0)), .i (.s (.int .i64 0)), .i (.s (.int .i64 0)), .i (.s (.int .i64 0))]).flatten = rows v0 := by rw [qv0]; exact rows_rep (x := ((TLOp.mk 0 0 (TStamp.mk 0 0) (TStamp.mk 0 0)) : TLOp)) rfl
  have mv0 : x0.length = v0.length := by rw [lv0]; simp
  obtain ⟨ee0, hee0, hp⟩ := bind_eq hp
  simp (maxSteps := 2000000) (disch := first|omega|(simp only[ls];first|done|omega)) only [E, hv0, rv0, kv0.1, kv0.2.1, kv0.2.2.1, kv0.2.2.2, gm]
  refine W_loopP 0 (fun s t h => match s with | (s1, s2) => t 0 = .i (.sl 6 (x0.map enc)) ∧ t 3 = .hsl 1 (x0.length * 6) 0 6 true x0.length ∧ t 4 = .i (.s (.int .i64 s2)) ∧ getCells h 1 (x0.length * 6) = some (rows (s1 : List TLOp)) ∧ 1 < h.length) (RK [.tmp 2] (o_laws_toLOpS)) ?_ hee0 ?_ ?_
  · rintro ⟨s1, s2⟩ ee tt0 hh0 ⟨ftt0_0, ftt0_1, ftt0_2, ftt0_3, ftt0_4⟩ hp
    have ztt0_3 := len_rows ftt0_3
    simp only [zs] at ztt0_3
    rw [p_laws_toLOpS_l0] at hp
    by_cases hb3 : (decide (s2 < (x0.length : Int))) = true
    · rw [if_t hb3] at hp
      obtain ⟨v4, hv4, hp⟩ := bind_eq hp
      obtain ⟨v5, hv5, hp⟩ := bind_eq hp
      obtain ⟨v6, hv6, hp⟩ := bind_eq hp
      have gv6 := get_some hv6
      have hs7 : List.take (s2.toNat * 6) (rows s1) ++ .i (.s (.int .i64 v5.kind)) :: .i (.s (.int .i64 v5.char)) :: .i (.s (.int .i64 v5.id.time)) :: .i (.s (.int .i64 v5.id.actor)) :: .i (.s (.int .i64 v5.at_.time)) :: .i (.s (.int .i64 v5.at_.actor)) :: List.drop (s2.toNat * 6 + 6) (rows s1) = rows (s1.set s2.toNat v5) := by simpa [splice, zs, cellsV, I.cells, enc_TLOp] using rows_set_off (y := v5) (ys := [.i (.s (.int .i64 v5.kind)), .i (.s (.int .i64 v5.char)), .i (.s (.int .i64 v5.id.time)), .i (.s (.int .i64 v5.id.actor)), .i (.s (.int .i64 v5.at_.time)), .i (.s (.int .i64 v5.at_.actor))]) (k := 0) gv6.2.2 (Nat.le_of_ble_eq_true rfl) (by rfl)
      have hp := Option.some.inj hp
      subst hp
      simp (maxSteps := 2000000) (disch := first|omega|(simp only[ls];first|done|omega)) only [E, hv0, rv0, kv0.1, kv0.2.1, kv0.2.2.1, kv0.2.2.2, ftt0_0, ftt0_1, ftt0_2, ftt0_3, ftt0_4, hb3, hv4, hv5, hv6, (gv6).1, (gv6).2.1, hs7, gm] <;> omega
    · replace hb3 := eq_false_of_ne_true hb3
      rw [if_f hb3] at hp
      have hp := Option.some.inj hp
      subst hp
      simp (maxSteps := 2000000) (disch := first|omega|(simp only[ls];first|done|omega)) only [E, hv0, rv0, kv0.1, kv0.2.1, kv0.2.2.1, kv0.2.2.2, ftt0_0, ftt0_1, ftt0_2, ftt0_3, ftt0_4, hb3, gm] <;> omega
  · simp (maxSteps := 2000000) (disch := first|omega|(simp only[ls];first|done|omega)) only [E, hv0, rv0, kv0.1, kv0.2.1, kv0.2.2.1, kv0.2.2.2, gm] <;> omega
  · intro x tt1 hh1 hx
    rcases ee0 with ⟨o8, o9⟩ | r
    · obtain ⟨rfl, ftt1_0, ftt1_1, ftt1_2, ftt1_3, ftt1_4⟩ := hx
      have ztt1_3 := len_rows ftt1_3
      simp only [zs] at ztt1_3
      dsimp only at hp
      have hp := Option.some.inj hp
      subst hp
      simp (maxSteps := 2000000) (disch := first|omega|(simp only[ls];first|done|omega)) only [E, hv0, rv0, kv0.1, kv0.2.1, kv0.2.2.1, kv0.2.2.2, ftt1_0, ftt1_1, ftt1_2, ftt1_3, ftt1_4, gm]
      refine ⟨1, ?_⟩
      simp (maxSteps := 2000000) (disch := first|omega|(simp only[ls];first|done|omega)) only [E, hv0, rv0, kv0.1, kv0.2.1, kv0.2.2.1, kv0.2.2.2, ftt1_0, ftt1_1, ftt1_2, ftt1_3, ftt1_4, o_laws_toLOpS, (show (o8).length = x0.length from by first | omega | rfl | (simp; done) | (simp; omega)), gm] <;> omega
    · obtain ⟨rfl, hx⟩ := hx
      dsimp only at hp
      cases hp
      simp only [seqK_ret, blockK_ret, retK_RK (K := o_laws_toLOpS), hx, and_self, true_and]
theorem ko_laws_toLOpS {P : Program} {env : Env} {f_laws_toLOp : Nat}  (ep_laws_toLOp : env (2 * f_laws_toLOp) = pureFn true (FA fun a : TLOp => p_laws_toLOp a)) : k_laws_toLOpS (ownFn P env (c_laws_toLOpS f_laws_toLOp)) := by
  intro x0 b hp h args has
  obtain ⟨⟨v, H2⟩, hr, n0, rfl, wn0⟩ := w_laws_toLOpS ep_laws_toLOp x0 hp
  exact ⟨_, own_call has hr rfl, keep_moved, n0 + h.length, rfl, (moved_lt wn0).2, (moved_lt wn0).1, moved_rows wn0⟩

noncomputable def p_spec_ListOrder_l0 (v2 : List TLCell) : List TStamp × Int → Option (Lp (List TStamp × Int) (T2 (List TStamp) Int))
  | (s3, s4) =>
    if (decide (s4 < (v2.length : Int))) = true then
      (get? v2 s4).bind fun v6 =>
      (app? 16 s3 ([v6.id])).bind fun v7 =>
      some (.go (v7, w64 (s4 + 1)))
    else
      some (.out (s3, s4))
noncomputable def p_spec_ListOrder (x0 : List TLOp) : Option (T2 (List TStamp) Int) :=
  (p_spec_l04Clean x0).bind fun v0 =>
  if (decide (v0.b = 0)) = true then
    (p_spec_l04Cells v0.a).bind fun v2 =>
    (loopP (p_spec_ListOrder_l0 v2) (([] : List TStamp), 0)).bind fun ee0 => match ee0 with
    | .ret r => some r
    | .out (o8, o9) =>
      some ⟨o8, 0⟩
  else
    some ⟨[], v0.b⟩
def c_spec_ListOrder (f_spec_l04Clean : Nat) (f_spec_l04Cells : Nat) : AFn := ⟨36, (.seq (.ops [(qS 2 (.vnil 2 true)), (qS 3 (.mv (ic 0)))]) (.seq (.ops [(qS 10 (.mv (.tmp 0))), (qS 11 (.call (2 * f_spec_l04Clean) [(.tmp 10)])), (qS 9 (.mv (.tmp 11))), (qS 12 (.extract 0 (.tmp 9))), (qS 13 (.extract 1 (.tmp 9))), (qS 4 (.mv (.tmp 12))), (qS 5 (.mv (.tmp 13)))]) (.seq (.seq (.ops [(qS 14 (.mv (.tmp 5))), (qS 15 (.pu (.n (.ar .neq)) [(.tmp 14), (ic 0)]))]) (.cond (.tmp 15) (.seq (.ops [(qS 16 (.buildSl 2 true 0 [(.int .i64 0), (.int .i64 0)] [])), (qS 17 (.mv (.tmp 5))), (qS 2 (.mv (.tmp 16))), (qS 3 (.mv (.tmp 17)))]) .ret) .skip)) (.seq (.ops [(qS 18 (.buildSl 2 true 0 [(.int .i64 0), (.int .i64 0)] [])), (qS 6 (.mv (.tmp 18)))]) (.seq (.ops [(qS 19 (.mv (.tmp 4))), (qS 20 (.call (2 * f_spec_l04Cells) [(.tmp 19)])), (qS 7 (.mv (.tmp 20)))]) (.seq (.seq (.ops [(qS 8 (.mv (ic 0)))]) (.block 0 (.loop (.seq (.seq (.ops [(qS 21 (.mv (.tmp 8))), (qS 22 (.mv (.tmp 7))), (qS 23 (.len (.tmp 22))), (qS 24 (.pu (.n (.ar .lss)) [(.tmp 21), (.tmp 23)]))]) (.cond (.tmp 24) .skip (.exit 0))) (.seq (.block 1 (.ops [(qS 27 (.mv (.tmp 6))), (qS 28 (.mv (.tmp 7))), (qS 29 (.mv (.tmp 8))), (qS 30 (.idxS 4 (.tmp 28) (.tmp 29))), (qS 31 (.fieldA 0 (.tmp 30))), (qS 32 (.load 2 true (.tmp 31))), (qS 33 (.buildSl 2 true 1 [(.int .i64 0), (.int .i64 0)] [(0, (.tmp 32))])), (qS 34 (.append 2 true 16 (.tmp 27) (.tmp 33))), (qS 6 (.mv (.tmp 34)))])) (.ops [(qS 25 (.mv (.tmp 8))), (qS 26 (.pu (.n (.ar .add)) [(.tmp 25), (ic 1)])), (qS 8 (.mv (.tmp 26)))])))))) (.seq (.ops [(qS 35 (.mv (.tmp 6))), (qS 2 (.mv (.tmp 35))), (qS 3 (.mv (ic 0)))]) .ret))))))), [(.tmp 2), (.tmp 3)]⟩
set_option maxHeartbeats 10000000 in
theorem d_spec_ListOrder {P : Program} {env : Env} {f_spec_l04Clean : Nat} {f_spec_l04Cells : Nat}  (ep_spec_l04Clean : env (2 * f_spec_l04Clean) = pureFn true (FA fun a : List TLOp => p_spec_l04Clean a)) (ep_spec_l04Cells : env (2 * f_spec_l04Cells) = pureFn true (FA fun a : List TLOp => p_spec_l04Cells a)) (x0 : List TLOp) {b : T2 (List TStamp) Int} (hp : p_spec_ListOrder x0 = some b) : R P env (c_spec_ListOrder f_spec_l04Clean f_spec_l04Cells) ((encA (x0)).map ofI) [] (Tells true b) := by
  refine R_of (by simp [c_spec_ListOrder, encA]) ?_
  have E := And.intro ep_spec_l04Clean ep_spec_l04Cells
  unfold c_spec_ListOrder
  unfold p_spec_ListOrder at hp
  obtain ⟨v0, hv0, hp⟩ := bind_eq hp
  by_cases hb1 : (decide (v0.b = 0)) = true
  · rw [if_t hb1] at hp
    obtain ⟨v2, hv2, hp⟩ := bind_eq hp
    obtain ⟨ee0, hee0, hp⟩ := bind_eq hp
    simp (maxSteps := 2000000) (disch := first|omega|(simp only[ls];first|done|omega)) only [E, hv0, hb1, hv2, gm]
    refine W_loopP 0 (fun s t h => match s with | (s3, s4) => t 6 = .hsl 1 (s3.length * 2) 0 2 true s3.length ∧ t 7 = .i (.sl 4 (v2.map enc)) ∧ t 8 = .i (.s (.int .i64 s4)) ∧ getCells h 1 (s3.length * 2) = some (rows (s3 : List TStamp)) ∧ 1 < h.length) (RK [.tmp 2, .tmp 3] (Tells true)) ?_ hee0 ?_ ?_
    · rintro ⟨s3, s4⟩ ee tt0 hh0 ⟨ftt0_0, ftt0_1, ftt0_2, ftt0_3, ftt0_4⟩ hp
      rw [p_spec_ListOrder_l0] at hp
      by_cases hb5 : (decide (s4 < (v2.length : Int))) = true
      · rw [if_t hb5] at hp
        obtain ⟨v6, hv6, hp⟩ := bind_eq hp
        obtain ⟨v7, hv7, hp⟩ := bind_eq hp
        obtain ⟨kv7, qv7, lv7⟩ := app_some hv7
        have rv7 : rows s3 ++ [.i (.s (.int .i64 v6.id.time)), .i (.s (.int .i64 v6.id.actor))] = rows v7 := by rw [qv7, rows_append]; rfl
        have mv7 : s3.length + 1 = v7.length := by simp at lv7; omega
        have nv7 : (s3.length + 1) * 16 ≤ 140737488355328 := by simp at kv7; omega
        have hp := Option.some.inj hp
        subst hp
        simp (maxSteps := 2000000) (disch := first|omega|(simp only[ls];first|done|omega)) only [E, hv0, hb1, hv2, ftt0_0, ftt0_1, ftt0_2, ftt0_3, ftt0_4, hb5, hv6, hv7, rv7, nv7, gm] <;> omega
      · replace hb5 := eq_false_of_ne_true hb5
        rw [if_f hb5] at hp
        have hp := Option.some.inj hp
        subst hp
        simp (maxSteps := 2000000) (disch := first|omega|(simp only[ls];first|done|omega)) only [E, hv0, hb1, hv2, ftt0_0, ftt0_1, ftt0_2, ftt0_3, ftt0_4, hb5, gm] <;> omega
    · simp (maxSteps := 2000000) (disch := first|omega|(simp only[ls];first|done|omega)) only [E, hv0, hb1, hv2, gm] <;> omega
    · intro x tt1 hh1 hx
      rcases ee0 with ⟨o8, o9⟩ | r
      · obtain ⟨rfl, ftt1_0, ftt1_1, ftt1_2, ftt1_3, ftt1_4⟩ := hx
        dsimp only at hp
        have hp := Option.some.inj hp
        subst hp
        simp (maxSteps := 2000000) (disch := first|omega|(simp only[ls];first|done|omega)) only [E, hv0, hb1, hv2, ftt1_0, ftt1_1, ftt1_2, ftt1_3, ftt1_4, gm]
      · obtain ⟨rfl, hx⟩ := hx
        dsimp only at hp
        cases hp
        simp only [seqK_ret, blockK_ret, retK_RK (K := Tells true), hx, and_self, true_and]
  · replace hb1 := eq_false_of_ne_true hb1
    rw [if_f hb1] at hp
    have hp := Option.some.inj hp
    subst hp
    simp (maxSteps := 2000000) (disch := first|omega|(simp only[ls];first|done|omega)) only [E, hv0, hb1, gm]

noncomputable def p_laws_eqStamp (x0 : TStamp) (x1 : TStamp) : Option Bool :=
  if (decide (x0.time = x1.time)) = true then
    if (decide (x0.actor = x1.actor)) = true then
      some true
    else
      some false
  else
    some false
def c_laws_eqStamp : AFn := ⟨15, (.seq (.ops [(qS 2 (.box (.tmp 0))), (qS 3 (.box (.tmp 1))), (qS 4 (.mv (.const (.bool false))))]) (.seq (.seq (.ops [(qS 5 (.fieldA 0 (.tmp 2))), (qS 6 (.load 1 false (.tmp 5))), (qS 7 (.fieldA 0 (.tmp 3))), (qS 8 (.load 1 false (.tmp 7))), (qS 9 (.pu (.n (.ar .neq)) [(.tmp 6), (.tmp 8)]))]) (.cond (.tmp 9) (.seq (.ops [(qS 4 (.mv (.const (.bool false))))]) .ret) .skip)) (.seq (.seq (.ops [(qS 10 (.fieldA 1 (.tmp 2))), (qS 11 (.load 1 false (.tmp 10))), (qS 12 (.fieldA 1 (.tmp 3))), (qS 13 (.load 1 false (.tmp 12))), (qS 14 (.pu (.n (.ar .neq)) [(.tmp 11), (.tmp 13)]))]) (.cond (.tmp 14) (.seq (.ops [(qS 4 (.mv (.const (.bool false))))]) .ret) .skip)) (.seq (.ops [(qS 4 (.mv (.const (.bool true))))]) .ret)))), [(.tmp 4)]⟩
set_option maxHeartbeats 10000000 in
theorem d_laws_eqStamp {P : Program} {env : Env}  (x0 : TStamp) (x1 : TStamp) {b : Bool} (hp : p_laws_eqStamp x0 x1 = some b) : R P env (c_laws_eqStamp) ((encA (x0, x1)).map ofI) [] (Tells true b) := by
  refine R_of (by simp [c_laws_eqStamp, encA]) ?_
  unfold c_laws_eqStamp
  unfold p_laws_eqStamp at hp
  by_cases hb0 : (decide (x0.time = x1.time)) = true
  · rw [if_t hb0] at hp
    by_cases hb1 : (decide (x0.actor = x1.actor)) = true
    · rw [if_t hb1] at hp
      have hp := Option.some.inj hp
      subst hp
      simp (maxSteps := 2000000) (disch := first|omega|(simp only[ls];first|done|omega)) only [hb0, hb1, gm]
    · replace hb1 := eq_false_of_ne_true hb1
      rw [if_f hb1] at hp
      have hp := Option.some.inj hp
      subst hp
      simp (maxSteps := 2000000) (disch := first|omega|(simp only[ls];first|done|omega)) only [hb0, hb1, gm]
  · replace hb0 := eq_false_of_ne_true hb0
    rw [if_f hb0] at hp
    have hp := Option.some.inj hp
    subst hp
    simp (maxSteps := 2000000) (disch := first|omega|(simp only[ls];first|done|omega)) only [hb0, gm]

noncomputable def p_laws_eqStampS_l0 (x0 : List TStamp) (x1 : List TStamp) : Int → Option (Lp (Int) Bool)
  | s1 =>
    if (decide (s1 < (x0.length : Int))) = true then
      (get? x0 s1).bind fun v3 =>
      (get? x1 s1).bind fun v4 =>
      (p_laws_eqStamp v3 v4).bind fun v5 =>
      if (v5) = true then
        some (.go (w64 (s1 + 1)))
      else
        some (.ret false)
    else
      some (.out s1)
noncomputable def p_laws_eqStampS (x0 : List TStamp) (x1 : List TStamp) : Option Bool :=
  if (decide ((x0.length : Int) = (x1.length : Int))) = true then
    (loopP (p_laws_eqStampS_l0 x0 x1) 0).bind fun ee0 => match ee0 with
    | .ret r => some r
    | .out o7 =>
      some true
  else
    some false
def c_laws_eqStampS (f_laws_eqStamp : Nat) : AFn := ⟨27, (.seq (.ops [(qS 4 (.mv (.const (.bool false))))]) (.seq (.seq (.ops [(qS 6 (.mv (.tmp 0))), (qS 7 (.len (.tmp 6))), (qS 8 (.mv (.tmp 1))), (qS 9 (.len (.tmp 8))), (qS 10 (.pu (.n (.ar .neq)) [(.tmp 7), (.tmp 9)]))]) (.cond (.tmp 10) (.seq (.ops [(qS 4 (.mv (.const (.bool false))))]) .ret) .skip)) (.seq (.seq (.ops [(qS 5 (.mv (ic 0)))]) (.block 0 (.loop (.seq (.seq (.ops [(qS 11 (.mv (.tmp 5))), (qS 12 (.mv (.tmp 0))), (qS 13 (.len (.tmp 12))), (qS 14 (.pu (.n (.ar .lss)) [(.tmp 11), (.tmp 13)]))]) (.cond (.tmp 14) .skip (.exit 0))) (.seq (.block 1 (.seq (.ops [(qS 17 (.mv (.tmp 0))), (qS 18 (.mv (.tmp 5))), (qS 19 (.idxS 2 (.tmp 17) (.tmp 18))), (qS 20 (.load 2 true (.tmp 19))), (qS 21 (.mv (.tmp 1))), (qS 22 (.mv (.tmp 5))), (qS 23 (.idxS 2 (.tmp 21) (.tmp 22))), (qS 24 (.load 2 true (.tmp 23))), (qS 25 (.call (2 * f_laws_eqStamp) [(.tmp 20), (.tmp 24)])), (qS 26 (.pu (.n (.un .not)) [(.tmp 25)]))]) (.cond (.tmp 26) (.seq (.ops [(qS 4 (.mv (.const (.bool false))))]) .ret) .skip))) (.ops [(qS 15 (.mv (.tmp 5))), (qS 16 (.pu (.n (.ar .add)) [(.tmp 15), (ic 1)])), (qS 5 (.mv (.tmp 16)))])))))) (.seq (.ops [(qS 4 (.mv (.const (.bool true))))]) .ret)))), [(.tmp 4)]⟩
set_option maxHeartbeats 10000000 in
theorem d_laws_eqStampS {P : Program} {env : Env} {f_laws_eqStamp : Nat}  (ep_laws_eqStamp : env (2 * f_laws_eqStamp) = pureFn true (FA fun a : TStamp × TStamp => p_laws_eqStamp a.1 a.2)) (x0 : List TStamp) (x1 : List TStamp) {b : Bool} (hp : p_laws_eqStampS x0 x1 = some b) : R P env (c_laws_eqStampS f_laws_eqStamp) ((encA (x0, x1)).map ofI) [] (Tells true b) := by
  refine R_of (by simp [c_laws_eqStampS, encA]) ?_
  have E := ep_laws_eqStamp
  unfold c_laws_eqStampS
  unfold p_laws_eqStampS at hp
  by_cases hb0 : (decide ((x0.length : Int) = (x1.length : Int))) = true
  · rw [if_t hb0] at hp
    obtain ⟨ee0, hee0, hp⟩ := bind_eq hp
    simp (maxSteps := 2000000) (disch := first|omega|(simp only[ls];first|done|omega)) only [E, hb0, gm]
    refine W_loopP 0 (fun s t h => match s with | s1 => t 0 = .i (.sl 2 (x0.map enc)) ∧ t 1 = .i (.sl 2 (x1.map enc)) ∧ t 5 = .i (.s (.int .i64 s1))) (RK [.tmp 4] (Tells true)) ?_ hee0 ?_ ?_
    · rintro s1 ee tt0 hh0 ⟨ftt0_0, ftt0_1, ftt0_2⟩ hp
      rw [p_laws_eqStampS_l0] at hp
      by_cases hb2 : (decide (s1 < (x0.length : Int))) = true
      · rw [if_t hb2] at hp
        obtain ⟨v3, hv3, hp⟩ := bind_eq hp
        obtain ⟨v4, hv4, hp⟩ := bind_eq hp
        obtain ⟨v5, hv5, hp⟩ := bind_eq hp
        by_cases hb6 : (v5) = true
        · rw [if_t hb6] at hp
          have hp := Option.some.inj hp
          subst hp
          simp (maxSteps := 2000000) (disch := first|omega|(simp only[ls];first|done|omega)) only [E, hb0, ftt0_0, ftt0_1, ftt0_2, hb2, hv3, hv4, hv5, hb6, gm] <;> omega
        · replace hb6 := eq_false_of_ne_true hb6
          rw [if_f hb6] at hp
          have hp := Option.some.inj hp
          subst hp
          simp (maxSteps := 2000000) (disch := first|omega|(simp only[ls];first|done|omega)) only [E, hb0, ftt0_0, ftt0_1, ftt0_2, hb2, hv3, hv4, hv5, hb6, gm]
      · replace hb2 := eq_false_of_ne_true hb2
        rw [if_f hb2] at hp
        have hp := Option.some.inj hp
        subst hp
        simp (maxSteps := 2000000) (disch := first|omega|(simp only[ls];first|done|omega)) only [E, hb0, ftt0_0, ftt0_1, ftt0_2, hb2, gm] <;> omega
    · simp (maxSteps := 2000000) (disch := first|omega|(simp only[ls];first|done|omega)) only [E, hb0, gm] <;> omega
    · intro x tt1 hh1 hx
      rcases ee0 with o7 | r
      · obtain ⟨rfl, ftt1_0, ftt1_1, ftt1_2⟩ := hx
        dsimp only at hp
        have hp := Option.some.inj hp
        subst hp
        simp (maxSteps := 2000000) (disch := first|omega|(simp only[ls];first|done|omega)) only [E, hb0, ftt1_0, ftt1_1, ftt1_2, gm]
      · obtain ⟨rfl, hx⟩ := hx
        dsimp only at hp
        cases hp
        simp only [seqK_ret, blockK_ret, retK_RK (K := Tells true), hx, and_self, true_and]
  · replace hb0 := eq_false_of_ne_true hb0
    rw [if_f hb0] at hp
    have hp := Option.some.inj hp
    subst hp
    simp (maxSteps := 2000000) (disch := first|omega|(simp only[ls];first|done|omega)) only [E, hb0, gm]

noncomputable def p_laws_eqLOp (x0 : TLOp) (x1 : TLOp) : Option Bool :=
  if (decide (x0.kind = x1.kind)) = true then
    if (decide (x0.char = x1.char)) = true then
      (p_laws_eqStamp x0.id x1.id).bind fun v2 =>
      if (v2) = true then
        (p_laws_eqStamp x0.at_ x1.at_).bind fun v4 =>
        if (v4) = true then
          some true
        else
          some false
      else
        some false
    else
      some false
  else
    some false
def c_laws_eqLOp (f_laws_eqStamp : Nat) : AFn := ⟨27, (.seq (.ops [(qS 2 (.box (.tmp 0))), (qS 3 (.box (.tmp 1))), (qS 4 (.mv (.const (.bool false))))]) (.seq (.seq (.ops [(qS 5 (.fieldA 0 (.tmp 2))), (qS 6 (.load 1 false (.tmp 5))), (qS 7 (.fieldA 0 (.tmp 3))), (qS 8 (.load 1 false (.tmp 7))), (qS 9 (.pu (.n (.ar .neq)) [(.tmp 6), (.tmp 8)]))]) (.cond (.tmp 9) (.seq (.ops [(qS 4 (.mv (.const (.bool false))))]) .ret) .skip)) (.seq (.seq (.ops [(qS 10 (.fieldA 1 (.tmp 2))), (qS 11 (.load 1 false (.tmp 10))), (qS 12 (.fieldA 1 (.tmp 3))), (qS 13 (.load 1 false (.tmp 12))), (qS 14 (.pu (.n (.ar .neq)) [(.tmp 11), (.tmp 13)]))]) (.cond (.tmp 14) (.seq (.ops [(qS 4 (.mv (.const (.bool false))))]) .ret) .skip)) (.seq (.seq (.ops [(qS 15 (.fieldA 2 (.tmp 2))), (qS 16 (.load 2 true (.tmp 15))), (qS 17 (.fieldA 2 (.tmp 3))), (qS 18 (.load 2 true (.tmp 17))), (qS 19 (.call (2 * f_laws_eqStamp) [(.tmp 16), (.tmp 18)])), (qS 20 (.pu (.n (.un .not)) [(.tmp 19)]))]) (.cond (.tmp 20) (.seq (.ops [(qS 4 (.mv (.const (.bool false))))]) .ret) .skip)) (.seq (.seq (.ops [(qS 21 (.fieldA 4 (.tmp 2))), (qS 22 (.load 2 true (.tmp 21))), (qS 23 (.fieldA 4 (.tmp 3))), (qS 24 (.load 2 true (.tmp 23))), (qS 25 (.call (2 * f_laws_eqStamp) [(.tmp 22), (.tmp 24)])), (qS 26 (.pu (.n (.un .not)) [(.tmp 25)]))]) (.cond (.tmp 26) (.seq (.ops [(qS 4 (.mv (.const (.bool false))))]) .ret) .skip)) (.seq (.ops [(qS 4 (.mv (.const (.bool true))))]) .ret)))))), [(.tmp 4)]⟩
set_option maxHeartbeats 10000000 in
theorem d_laws_eqLOp {P : Program} {env : Env} {f_laws_eqStamp : Nat}  (ep_laws_eqStamp : env (2 * f_laws_eqStamp) = pureFn true (FA fun a : TStamp × TStamp => p_laws_eqStamp a.1 a.2)) (x0 : TLOp) (x1 : TLOp) {b : Bool} (hp : p_laws_eqLOp x0 x1 = some b) : R P env (c_laws_eqLOp f_laws_eqStamp) ((encA (x0, x1)).map ofI) [] (Tells true b) := by
  refine R_of (by simp [c_laws_eqLOp, encA]) ?_
  have E := ep_laws_eqStamp
  unfold c_laws_eqLOp
  unfold p_laws_eqLOp at hp
  by_cases hb0 : (decide (x0.kind = x1.kind)) = true
  · rw [if_t hb0] at hp
    by_cases hb1 : (decide (x0.char = x1.char)) = true
    · rw [if_t hb1] at hp
      obtain ⟨v2, hv2, hp⟩ := bind_eq hp
      by_cases hb3 : (v2) = true
      · rw [if_t hb3] at hp
        obtain ⟨v4, hv4, hp⟩ := bind_eq hp
        by_cases hb5 : (v4) = true
        · rw [if_t hb5] at hp
          have hp := Option.some.inj hp
          subst hp
          simp (maxSteps := 2000000) (disch := first|omega|(simp only[ls];first|done|omega)) only [E, hb0, hb1, hv2, hb3, hv4, hb5, gm]
        · replace hb5 := eq_false_of_ne_true hb5
          rw [if_f hb5] at hp
          have hp := Option.some.inj hp
          subst hp
          simp (maxSteps := 2000000) (disch := first|omega|(simp only[ls];first|done|omega)) only [E, hb0, hb1, hv2, hb3, hv4, hb5, gm]
      · replace hb3 := eq_false_of_ne_true hb3
        rw [if_f hb3] at hp
        have hp := Option.some.inj hp
        subst hp
        simp (maxSteps := 2000000) (disch := first|omega|(simp only[ls];first|done|omega)) only [E, hb0, hb1, hv2, hb3, gm]
    · replace hb1 := eq_false_of_ne_true hb1
      rw [if_f hb1] at hp
      have hp := Option.some.inj hp
      subst hp
      simp (maxSteps := 2000000) (disch := first|omega|(simp only[ls];first|done|omega)) only [E, hb0, hb1, gm]
  · replace hb0 := eq_false_of_ne_true hb0
    rw [if_f hb0] at hp
    have hp := Option.some.inj hp
    subst hp
    simp (maxSteps := 2000000) (disch := first|omega|(simp only[ls];first|done|omega)) only [E, hb0, gm]

noncomputable def p_laws_eqLOpS_l0 (x0 : List TLOp) (x1 : List TLOp) : Int → Option (Lp (Int) Bool)
  | s1 =>
    if (decide (s1 < (x0.length : Int))) = true then
      (get? x0 s1).bind fun v3 =>
      (get? x1 s1).bind fun v4 =>
      (p_laws_eqLOp v3 v4).bind fun v5 =>
      if (v5) = true then
        some (.go (w64 (s1 + 1)))
      else
        some (.ret false)
    else
      some (.out s1)
noncomputable def p_laws_eqLOpS (x0 : List TLOp) (x1 : List TLOp) : Option Bool :=
  if (decide ((x0.length : Int) = (x1.length : Int))) = true then
    (loopP (p_laws_eqLOpS_l0 x0 x1) 0).bind fun ee0 => match ee0 with
    | .ret r => some r
    | .out o7 =>
      some true
  else
    some false
def c_laws_eqLOpS (f_laws_eqLOp : Nat) : AFn := ⟨27, (.seq (.ops [(qS 4 (.mv (.const (.bool false))))]) (.seq (.seq (.ops [(qS 6 (.mv (.tmp 0))), (qS 7 (.len (.tmp 6))), (qS 8 (.mv (.tmp 1))), (qS 9 (.len (.tmp 8))), (qS 10 (.pu (.n (.ar .neq)) [(.tmp 7), (.tmp 9)]))]) (.cond (.tmp 10) (.seq (.ops [(qS 4 (.mv (.const (.bool false))))]) .ret) .skip)) (.seq (.seq (.ops [(qS 5 (.mv (ic 0)))]) (.block 0 (.loop (.seq (.seq (.ops [(qS 11 (.mv (.tmp 5))), (qS 12 (.mv (.tmp 0))), (qS 13 (.len (.tmp 12))), (qS 14 (.pu (.n (.ar .lss)) [(.tmp 11), (.tmp 13)]))]) (.cond (.tmp 14) .skip (.exit 0))) (.seq (.block 1 (.seq (.ops [(qS 17 (.mv (.tmp 0))), (qS 18 (.mv (.tmp 5))), (qS 19 (.idxS 6 (.tmp 17) (.tmp 18))), (qS 20 (.load 6 true (.tmp 19))), (qS 21 (.mv (.tmp 1))), (qS 22 (.mv (.tmp 5))), (qS 23 (.idxS 6 (.tmp 21) (.tmp 22))), (qS 24 (.load 6 true (.tmp 23))), (qS 25 (.call (2 * f_laws_eqLOp) [(.tmp 20), (.tmp 24)])), (qS 26 (.pu (.n (.un .not)) [(.tmp 25)]))]) (.cond (.tmp 26) (.seq (.ops [(qS 4 (.mv (.const (.bool false))))]) .ret) .skip))) (.ops [(qS 15 (.mv (.tmp 5))), (qS 16 (.pu (.n (.ar .add)) [(.tmp 15), (ic 1)])), (qS 5 (.mv (.tmp 16)))])))))) (.seq (.ops [(qS 4 (.mv (.const (.bool true))))]) .ret)))), [(.tmp 4)]⟩
set_option maxHeartbeats 10000000 in
theorem d_laws_eqLOpS {P : Program} {env : Env} {f_laws_eqLOp : Nat}  (ep_laws_eqLOp : env (2 * f_laws_eqLOp) = pureFn true (FA fun a : TLOp × TLOp => p_laws_eqLOp a.1 a.2)) (x0 : List TLOp) (x1 : List TLOp) {b : Bool} (hp : p_laws_eqLOpS x0 x1 = some b) : R P env (c_laws_eqLOpS f_laws_eqLOp) ((encA (x0, x1)).map ofI) [] (Tells true b) := by
  refine R_of (by simp [c_laws_eqLOpS, encA]) ?_
  have E := ep_laws_eqLOp
  unfold c_laws_eqLOpS
  unfold p_laws_eqLOpS at hp
  by_cases hb0 : (decide ((x0.length : Int) = (x1.length : Int))) = true
  · rw [if_t hb0] at hp
    obtain ⟨ee0, hee0, hp⟩ := bind_eq hp
    simp (maxSteps := 2000000) (disch := first|omega|(simp only[ls];first|done|omega)) only [E, hb0, gm]
    refine W_loopP 0 (fun s t h => match s with | s1 => t 0 = .i (.sl 6 (x0.map enc)) ∧ t 1 = .i (.sl 6 (x1.map enc)) ∧ t 5 = .i (.s (.int .i64 s1))) (RK [.tmp 4] (Tells true)) ?_ hee0 ?_ ?_
    · rintro s1 ee tt0 hh0 ⟨ftt0_0, ftt0_1, ftt0_2⟩ hp
      rw [p_laws_eqLOpS_l0] at hp
      by_cases hb2 : (decide (s1 < (x0.length : Int))) = true
      · rw [if_t hb2] at hp
        obtain ⟨v3, hv3, hp⟩ := bind_eq hp
        obtain ⟨v4, hv4, hp⟩ := bind_eq hp
        obtain ⟨v5, hv5, hp⟩ := bind_eq hp
        by_cases hb6 : (v5) = true
        · rw [if_t hb6] at hp
          have hp := Option.some.inj hp
          subst hp
          simp (maxSteps := 2000000) (disch := first|omega|(simp only[ls];first|done|omega)) only [E, hb0, ftt0_0, ftt0_1, ftt0_2, hb2, hv3, hv4, hv5, hb6, gm] <;> omega
        · replace hb6 := eq_false_of_ne_true hb6
          rw [if_f hb6] at hp
          have hp := Option.some.inj hp
          subst hp
          simp (maxSteps := 2000000) (disch := first|omega|(simp only[ls];first|done|omega)) only [E, hb0, ftt0_0, ftt0_1, ftt0_2, hb2, hv3, hv4, hv5, hb6, gm]
      · replace hb2 := eq_false_of_ne_true hb2
        rw [if_f hb2] at hp
        have hp := Option.some.inj hp
        subst hp
        simp (maxSteps := 2000000) (disch := first|omega|(simp only[ls];first|done|omega)) only [E, hb0, ftt0_0, ftt0_1, ftt0_2, hb2, gm] <;> omega
    · simp (maxSteps := 2000000) (disch := first|omega|(simp only[ls];first|done|omega)) only [E, hb0, gm] <;> omega
    · intro x tt1 hh1 hx
      rcases ee0 with o7 | r
      · obtain ⟨rfl, ftt1_0, ftt1_1, ftt1_2⟩ := hx
        dsimp only at hp
        have hp := Option.some.inj hp
        subst hp
        simp (maxSteps := 2000000) (disch := first|omega|(simp only[ls];first|done|omega)) only [E, hb0, ftt1_0, ftt1_1, ftt1_2, gm]
      · obtain ⟨rfl, hx⟩ := hx
        dsimp only at hp
        cases hp
        simp only [seqK_ret, blockK_ret, retK_RK (K := Tells true), hx, and_self, true_and]
  · replace hb0 := eq_false_of_ne_true hb0
    rw [if_f hb0] at hp
    have hp := Option.some.inj hp
    subst hp
    simp (maxSteps := 2000000) (disch := first|omega|(simp only[ls];first|done|omega)) only [E, hb0, gm]

noncomputable def p_laws_markLOpS_l0 : List TLOp × Int × Int → Option (Lp (List TLOp × Int × Int) (T2 Int (List TLOp)))
  | (s0, s1, s2) =>
    if (decide (s2 < (s0.length : Int))) = true then
      (get? s0 s2).bind fun v5 =>
      (get? (s0.set s2.toNat (TLOp.mk s1 v5.char v5.id v5.at_)) s2).bind fun v7 =>
      (get? ((s0.set s2.toNat (TLOp.mk s1 v5.char v5.id v5.at_)).set s2.toNat (TLOp.mk v7.kind (w64 (s1 + 1)) v7.id v7.at_)) s2).bind fun v9 =>
      (get? (((s0.set s2.toNat (TLOp.mk s1 v5.char v5.id v5.at_)).set s2.toNat (TLOp.mk v7.kind (w64 (s1 + 1)) v7.id v7.at_)).set s2.toNat (TLOp.mk v9.kind v9.char (TStamp.mk (w64 ((w64 (s1 + 1)) + 1)) v9.id.actor) v9.at_)) s2).bind fun v11 =>
      (get? ((((s0.set s2.toNat (TLOp.mk s1 v5.char v5.id v5.at_)).set s2.toNat (TLOp.mk v7.kind (w64 (s1 + 1)) v7.id v7.at_)).set s2.toNat (TLOp.mk v9.kind v9.char (TStamp.mk (w64 ((w64 (s1 + 1)) + 1)) v9.id.actor) v9.at_)).set s2.toNat (TLOp.mk v11.kind v11.char (TStamp.mk v11.id.time (w64 ((w64 ((w64 (s1 + 1)) + 1)) + 1))) v11.at_)) s2).bind fun v13 =>
      (get? (((((s0.set s2.toNat (TLOp.mk s1 v5.char v5.id v5.at_)).set s2.toNat (TLOp.mk v7.kind (w64 (s1 + 1)) v7.id v7.at_)).set s2.toNat (TLOp.mk v9.kind v9.char (TStamp.mk (w64 ((w64 (s1 + 1)) + 1)) v9.id.actor) v9.at_)).set s2.toNat (TLOp.mk v11.kind v11.char (TStamp.mk v11.id.time (w64 ((w64 ((w64 (s1 + 1)) + 1)) + 1))) v11.at_)).set s2.toNat (TLOp.mk v13.kind v13.char v13.id (TStamp.mk (w64 ((w64 ((w64 ((w64 (s1 + 1)) + 1)) + 1)) + 1)) v13.at_.actor))) s2).bind fun v15 =>
      some (.go (((((((s0.set s2.toNat (TLOp.mk s1 v5.char v5.id v5.at_)).set s2.toNat (TLOp.mk v7.kind (w64 (s1 + 1)) v7.id v7.at_)).set s2.toNat (TLOp.mk v9.kind v9.char (TStamp.mk (w64 ((w64 (s1 + 1)) + 1)) v9.id.actor) v9.at_)).set s2.toNat (TLOp.mk v11.kind v11.char (TStamp.mk v11.id.time (w64 ((w64 ((w64 (s1 + 1)) + 1)) + 1))) v11.at_)).set s2.toNat (TLOp.mk v13.kind v13.char v13.id (TStamp.mk (w64 ((w64 ((w64 ((w64 (s1 + 1)) + 1)) + 1)) + 1)) v13.at_.actor))).set s2.toNat (TLOp.mk v15.kind v15.char v15.id (TStamp.mk v15.at_.time (w64 ((w64 ((w64 ((w64 ((w64 (s1 + 1)) + 1)) + 1)) + 1)) + 1))))), w64 ((w64 ((w64 ((w64 ((w64 ((w64 (s1 + 1)) + 1)) + 1)) + 1)) + 1)) + 1), w64 (s2 + 1)))
    else
      some (.out (s0, s1, s2))
noncomputable def p_laws_markLOpS (x0 : List TLOp) (x1 : Int) : Option (T2 Int (List TLOp)) :=
  (loopP (p_laws_markLOpS_l0) (x0, x1, 0)).bind fun ee0 => match ee0 with
  | .ret r => some r
  | .out (o17, o18, o19) =>
    some ⟨o18, o17⟩
def c_laws_markLOpS : AFn := ⟨59, (.seq (.ops [(qS 4 (.mv (ic 0)))]) (.seq (.seq (.ops [(qS 5 (.mv (ic 0)))]) (.block 0 (.loop (.seq (.seq (.ops [(qS 6 (.mv (.tmp 5))), (qS 7 (.mv (.tmp 0))), (qS 8 (.len (.tmp 7))), (qS 9 (.pu (.n (.ar .lss)) [(.tmp 6), (.tmp 8)]))]) (.cond (.tmp 9) .skip (.exit 0))) (.seq (.block 1 (.seq (.ops [(qS 12 (.mv (.tmp 0))), (qS 13 (.mv (.tmp 5))), (qS 14 (.mv (.tmp 1))), (qS 15 (.idxS 6 (.tmp 12) (.tmp 13))), (qS 16 (.fieldA 0 (.tmp 15))), ⟨.none, (.storeV [(0, false)] 1 (.tmp 16) (.tmp 14)), .none, [], .none⟩]) (.seq (.ops [(qS 17 (.mv (.tmp 1))), (qS 18 (.pu (.n (.ar .add)) [(.tmp 17), (ic 1)])), (qS 1 (.mv (.tmp 18)))]) (.seq (.ops [(qS 19 (.mv (.tmp 0))), (qS 20 (.mv (.tmp 5))), (qS 21 (.mv (.tmp 1))), (qS 22 (.idxS 6 (.tmp 19) (.tmp 20))), (qS 23 (.fieldA 1 (.tmp 22))), ⟨.none, (.storeV [(0, false)] 1 (.tmp 23) (.tmp 21)), .none, [], .none⟩]) (.seq (.ops [(qS 24 (.mv (.tmp 1))), (qS 25 (.pu (.n (.ar .add)) [(.tmp 24), (ic 1)])), (qS 1 (.mv (.tmp 25)))]) (.seq (.ops [(qS 26 (.mv (.tmp 0))), (qS 27 (.mv (.tmp 5))), (qS 28 (.mv (.tmp 1))), (qS 29 (.idxS 6 (.tmp 26) (.tmp 27))), (qS 30 (.fieldA 2 (.tmp 29))), (qS 31 (.fieldA 0 (.tmp 30))), ⟨.none, (.storeV [(0, false)] 1 (.tmp 31) (.tmp 28)), .none, [], .none⟩]) (.seq (.ops [(qS 32 (.mv (.tmp 1))), (qS 33 (.pu (.n (.ar .add)) [(.tmp 32), (ic 1)])), (qS 1 (.mv (.tmp 33)))]) (.seq (.ops [(qS 34 (.mv (.tmp 0))), (qS 35 (.mv (.tmp 5))), (qS 36 (.mv (.tmp 1))), (qS 37 (.idxS 6 (.tmp 34) (.tmp 35))), (qS 38 (.fieldA 2 (.tmp 37))), (qS 39 (.fieldA 1 (.tmp 38))), ⟨.none, (.storeV [(0, false)] 1 (.tmp 39) (.tmp 36)), .none, [], .none⟩]) (.seq (.ops [(qS 40 (.mv (.tmp 1))), (qS 41 (.pu (.n (.ar .add)) [(.tmp 40), (ic 1)])), (qS 1 (.mv (.tmp 41)))]) (.seq (.ops [(qS 42 (.mv (.tmp 0))), (qS 43 (.mv (.tmp 5))), (qS 44 (.mv (.tmp 1))), (qS 45 (.idxS 6 (.tmp 42) (.tmp 43))), (qS 46 (.fieldA 4 (.tmp 45))), (qS 47 (.fieldA 0 (.tmp 46))), ⟨.none, (.storeV [(0, false)] 1 (.tmp 47) (.tmp 44)), .none, [], .none⟩]) (.seq (.ops [(qS 48 (.mv (.tmp 1))), (qS 49 (.pu (.n (.ar .add)) [(.tmp 48), (ic 1)])), (qS 1 (.mv (.tmp 49)))]) (.seq (.ops [(qS 50 (.mv (.tmp 0))), (qS 51 (.mv (.tmp 5))), (qS 52 (.mv (.tmp 1))), (qS 53 (.idxS 6 (.tmp 50) (.tmp 51))), (qS 54 (.fieldA 4 (.tmp 53))), (qS 55 (.fieldA 1 (.tmp 54))), ⟨.none, (.storeV [(0, false)] 1 (.tmp 55) (.tmp 52)), .none, [], .none⟩]) (.ops [(qS 56 (.mv (.tmp 1))), (qS 57 (.pu (.n (.ar .add)) [(.tmp 56), (ic 1)])), (qS 1 (.mv (.tmp 57)))]))))))))))))) (.ops [(qS 10 (.mv (.tmp 5))), (qS 11 (.pu (.n (.ar .add)) [(.tmp 10), (ic 1)])), (qS 5 (.mv (.tmp 11)))])))))) (.seq (.ops [(qS 58 (.mv (.tmp 1))), (qS 4 (.mv (.tmp 58)))]) .ret))), [(.tmp 4)]⟩
def i_laws_markLOpS (pb0 pn0 : Nat) (h : Heap) (b : T2 Int (List TLOp)) (v : V) (h2 : Heap) : Prop := Keep [pb0] h h2 ∧ v = .i (.s (.int .i64 b.a)) ∧ getCells h2 pb0 (pn0 * 6) = some (rows b.b)
def k_laws_markLOpS (F : Fun) : Prop := ∀ (x0 : List TLOp) (x1 : Int) (b : T2 Int (List TLOp)), p_laws_markLOpS x0 x1 = some b → ∀ (pb0 pn0 : Nat) (h : Heap), pn0 = (x0).length → getCells h pb0 (pn0 * 6) = some (rows x0) → ∃ p, F none [.hsl pb0 (pn0 * 6) 0 6 true pn0, .i (.s (.int .i64 x1))] h = some p ∧ i_laws_markLOpS pb0 pn0 h b p.1 p.2
set_option maxHeartbeats 10000000 in
theorem w_laws_markLOpS {P : Program} {env : Env}  (x0 : List TLOp) (x1 : Int) {b : T2 Int (List TLOp)} (hp : p_laws_markLOpS x0 x1 = some b) (pb0 pn0 : Nat) (hh : Heap) (pm0 : pn0 = (x0).length) (pf0 : getCells hh pb0 (pn0 * 6) = some (rows x0)) : R P env (c_laws_markLOpS) [.hsl pb0 (pn0 * 6) 0 6 true pn0, .i (.s (.int .i64 x1))] hh (i_laws_markLOpS pb0 pn0 hh b) := by
  have pl0 := gc_lt pf0
  have pg0 : getCells hh pb0 (x0.length * 6) = some (rows x0) := by rw [← pm0]; exact pf0
  refine R_of (by simp [c_laws_markLOpS, encA]) ?_
  unfold c_laws_markLOpS
  unfold p_laws_markLOpS at hp
  obtain ⟨ee0, hee0, hp⟩ := bind_eq hp
  simp (maxSteps := 2000000) (disch := first|omega|(simp only[ls];first|done|omega)) only [pf0, pg0, gm]
  refine W_loopP 0 (fun s t h => match s with | (s0, s1, s2) => t 0 = .hsl pb0 (pn0 * 6) 0 6 true pn0 ∧ t 1 = .i (.s (.int .i64 s1)) ∧ t 5 = .i (.s (.int .i64 s2)) ∧ getCells h pb0 (pn0 * 6) = some (rows (s0 : List TLOp)) ∧ pb0 < h.length ∧ Keep [pb0] hh h) (RK [.tmp 4] (i_laws_markLOpS pb0 pn0 hh)) ?_ hee0 ?_ ?_
  · rintro ⟨s0, s1, s2⟩ ee tt0 hh0 ⟨ftt0_0, ftt0_1, ftt0_2, ftt0_3, ftt0_4, ftt0_5⟩ hp
    have ztt0_3 := len_rows ftt0_3
    simp only [zs] at ztt0_3
    rw [p_laws_markLOpS_l0] at hp
    have hz3 : ((pn0 : Nat) : Int) = (s0.length : Int) := by omega
    by_cases hb4 : (decide (s2 < (s0.length : Int))) = true
    · rw [if_t hb4] at hp
      obtain ⟨v5, hv5, hp⟩ := bind_eq hp
      have gv5 := get_some hv5
      have hs6 : List.take (s2.toNat * 6) (rows s0) ++ .i (.s (.int .i64 s1)) :: List.drop (s2.toNat * 6 + 1) (rows s0) = rows (s0.set s2.toNat (TLOp.mk s1 v5.char v5.id v5.at_)) := by simpa [splice, zs, cellsV, I.cells, enc_TLOp] using rows_set_off (y := (TLOp.mk s1 v5.char v5.id v5.at_)) (ys := [.i (.s (.int .i64 s1))]) (k := 0) gv5.2.2 (Nat.le_of_ble_eq_true rfl) (by rfl)
      obtain ⟨v7, hv7, hp⟩ := bind_eq hp
      have gv7 := get_some hv7
      have hs8 : List.take (s2.toNat * 6 + 1) (rows (s0.set s2.toNat (TLOp.mk s1 v5.char v5.id v5.at_))) ++ .i (.s (.int .i64 (w64 (s1 + 1)))) :: List.drop (s2.toNat * 6 + 1 + 1) (rows (s0.set s2.toNat (TLOp.mk s1 v5.char v5.id v5.at_))) = rows ((s0.set s2.toNat (TLOp.mk s1 v5.char v5.id v5.at_)).set s2.toNat (TLOp.mk v7.kind (w64 (s1 + 1)) v7.id v7.at_)) := by simpa [splice, zs, cellsV, I.cells, enc_TLOp] using rows_set_off (y := (TLOp.mk v7.kind (w64 (s1 + 1)) v7.id v7.at_)) (ys := [.i (.s (.int .i64 (w64 (s1 + 1))))]) (k := 1) gv7.2.2 (Nat.le_of_ble_eq_true rfl) (by rfl)
      obtain ⟨v9, hv9, hp⟩ := bind_eq hp
      have gv9 := get_some hv9
      have hs10 : List.take (s2.toNat * 6 + 2) (rows ((s0.set s2.toNat (TLOp.mk s1 v5.char v5.id v5.at_)).set s2.toNat (TLOp.mk v7.kind (w64 (s1 + 1)) v7.id v7.at_))) ++ .i (.s (.int .i64 (w64 ((w64 (s1 + 1)) + 1)))) :: List.drop (s2.toNat * 6 + 2 + 1) (rows ((s0.set s2.toNat (TLOp.mk s1 v5.char v5.id v5.at_)).set s2.toNat (TLOp.mk v7.kind (w64 (s1 + 1)) v7.id v7.at_))) = rows (((s0.set s2.toNat (TLOp.mk s1 v5.char v5.id v5.at_)).set s2.toNat (TLOp.mk v7.kind (w64 (s1 + 1)) v7.id v7.at_)).set s2.toNat (TLOp.mk v9.kind v9.char (TStamp.mk (w64 ((w64 (s1 + 1)) + 1)) v9.id.actor) v9.at_)) := by simpa [splice, zs, cellsV, I.cells, enc_TLOp] using rows_set_off (y := (TLOp.mk v9.kind v9.char (TStamp.mk (w64 ((w64 (s1 + 1)) + 1)) v9.id.actor) v9.at_)) (ys := [.i (.s (.int .i64 (w64 ((w64 (s1 + 1)) + 1))))]) (k := 2) gv9.2.2 (Nat.le_of_ble_eq_true rfl) (by rfl)
      obtain ⟨v11, hv11, hp⟩ := bind_eq hp
      have gv11 := get_some hv11
      have hs12 : List.take (s2.toNat * 6 + 3) (rows (((s0.set s2.toNat (TLOp.mk s1 v5.char v5.id v5.at_)).set s2.toNat (TLOp.mk v7.kind (w64 (s1 + 1)) v7.id v7.at_)).set s2.toNat (TLOp.mk v9.kind v9.char (TStamp.mk (w64 ((w64 (s1 + 1)) + 1)) v9.id.actor) v9.at_))) ++ .i (.s (.int .i64 (w64 ((w64 ((w64 (s1 + 1)) + 1)) + 1)))) :: List.drop (s2.toNat * 6 + 3 + 1) (rows (((s0.set s2.toNat (TLOp.mk s1 v5.char v5.id v5.at_)).set s2.toNat (TLOp.mk v7.kind (w64 (s1 + 1)) v7.id v7.at_)).set s2.toNat (TLOp.mk v9.kind v9.char (TStamp.mk (w64 ((w64 (s1 + 1)) + 1)) v9.id.actor) v9.at_))) = rows ((((s0.set s2.toNat (TLOp.mk s1 v5.char v5.id v5.at_)).set s2.toNat (TLOp.mk v7.kind (w64 (s1 + 1)) v7.id v7.at_)).set s2.toNat (TLOp.mk v9.kind v9.char (TStamp.mk (w64 ((w64 (s1 + 1)) + 1)) v9.id.actor) v9.at_)).set s2.toNat (TLOp.mk v11.kind v11.char (TStamp.mk v11.id.time (w64 ((w64 ((w64 (s1 + 1)) + 1)) + 1))) v11.at_)) := by simpa [splice, zs, cellsV, I.cells, enc_TLOp] using rows_set_off (y := (TLOp.mk v11.kind v11.char (TStamp.mk v11.id.time (w64 ((w64 ((w64 (s1 + 1)) + 1)) + 1))) v11.at_)) (ys := [.i (.s (.int .i64 (w64 ((w64 ((w64 (s1 + 1)) + 1)) + 1))))]) (k := 3) gv11.2.2 (Nat.le_of_ble_eq_true rfl) (by rfl)
      obtain ⟨v13, hv13, hp⟩ := bind_eq hp
      have gv13 := get_some hv13
      have hs14 : List.take (s2.toNat * 6 + 4) (rows ((((s0.set s2.toNat (TLOp.mk s1 v5.char v5.id v5.at_)).set s2.toNat (TLOp.mk v7.kind (w64 (s1 + 1)) v7.id v7.at_)).set s2.toNat (TLOp.mk v9.kind v9.char (TStamp.mk (w64 ((w64 (s1 + 1)) + 1)) v9.id.actor) v9.at_)).set s2.toNat (TLOp.mk v11.kind v11.char (TStamp.mk v11.id.time (w64 ((w64 ((w64 (s1 + 1)) + 1)) + 1))) v11.at_))) ++ .i (.s (.int .i64 (w64 ((w64 ((w64 ((w64 (s1 + 1)) + 1)) + 1)) + 1)))) :: List.drop (s2.toNat * 6 + 4 + 1) (rows ((((s0.set s2.toNat (TLOp.mk s1 v5.char v5.id v5.at_)).set s2.toNat (TLOp.mk v7.kind (w64 (s1 + 1)) v7.id v7.at_)).set s2.toNat (TLOp.mk v9.kind v9.char (TStamp.mk (w64 ((w64 (s1 + 1)) + 1)) v9.id.actor) v9.at_)).set s2.toNat (TLOp.mk v11.kind v11.char (TStamp.mk v11.id.time (w64 ((w64 ((w64 (s1 + 1)) + 1)) + 1))) v11.at_))) = rows (((((s0.set s2.toNat (TLOp.mk s1 v5.char v5.id v5.at_)).set s2.toNat (TLOp.mk v7.kind (w64 (s1 + 1)) v7.id v7.at_)).set s2.toNat (TLOp.mk v9.kind v9.char (TStamp.mk (w64 ((w64 (s1 + 1)) + 1)) v9.id.actor) v9.at_)).set s2.toNat (TLOp.mk v11.kind v11.char (TStamp.mk v11.id.time (w64 ((w64 ((w64 (s1 + 1)) + 1)) + 1))) v11.at_)).set s2.toNat (TLOp.mk v13.kind v13.char v13.id (TStamp.mk (w64 ((w64 ((w64 ((w64 (s1 + 1)) + 1)) + 1)) + 1)) v13.at_.actor))) := by simpa [splice, zs, cellsV, I.cells, enc_TLOp] using rows_set_off (y := (TLOp.mk v13.kind v13.char v13.id (TStamp.mk (w64 ((w64 ((w64 ((w64 (s1 + 1)) + 1)) + 1)) + 1)) v13.at_.actor))) (ys := [.i (.s (.int .i64 (w64 ((w64 ((w64 ((w64 (s1 + 1)) + 1)) + 1)) + 1))))]) (k := 4) gv13.2.2 (Nat.le_of_ble_eq_true rfl) (by rfl)
      obtain ⟨v15, hv15, hp⟩ := bind_eq hp
      have gv15 := get_some hv15
      have hs16 : List.take (s2.toNat * 6 + 5) (rows (((((s0.set s2.toNat (TLOp.mk s1 v5.char v5.id v5.at_)).set s2.toNat (TLOp.mk v7.kind (w64 (s1 + 1)) v7.id v7.at_)).set s2.toNat (TLOp.mk v9.kind v9.char (TStamp.mk (w64 ((w64 (s1 + 1)) + 1)) v9.id.actor) v9.at_)).set s2.toNat (TLOp.mk v11.kind v11.char (TStamp.mk v11.id.time (w64 ((w64 ((w64 (s1 + 1)) + 1)) + 1))) v11.at_)).set s2.toNat (TLOp.mk v13.kind v13.char v13.id (TStamp.mk (w64 ((w64 ((w64 ((w64 (s1 + 1)) + 1)) + 1)) + 1)) v13.at_.actor)))) ++ .i (.s (.int .i64 (w64 ((w64 ((w64 ((w64 ((w64 (s1 + 1)) + 1)) + 1)) + 1)) + 1)))) :: List.drop (s2.toNat * 6 + 5 + 1) (rows (((((s0.set s2.toNat (TLOp.mk s1 v5.char v5.id v5.at_)).set s2.toNat (TLOp.mk v7.kind (w64 (s1 + 1)) v7.id v7.at_)).set s2.toNat (TLOp.mk v9.kind v9.char (TStamp.mk (w64 ((w64 (s1 + 1)) + 1)) v9.id.actor) v9.at_)).set s2.toNat (TLOp.mk v11.kind v11.char (TStamp.mk v11.id.time (w64 ((w64 ((w64 (s1 + 1)) + 1)) + 1))) v11.at_)).set s2.toNat (TLOp.mk v13.kind v13.char v13.id (TStamp.mk (w64 ((w64 ((w64 ((w64 (s1 + 1)) + 1)) + 1)) + 1)) v13.at_.actor)))) = rows ((((((s0.set s2.toNat (TLOp.mk s1 v5.char v5.id v5.at_)).set s2.toNat (TLOp.mk v7.kind (w64 (s1 + 1)) v7.id v7.at_)).set s2.toNat (TLOp.mk v9.kind v9.char (TStamp.mk (w64 ((w64 (s1 + 1)) + 1)) v9.id.actor) v9.at_)).set s2.toNat (TLOp.mk v11.kind v11.char (TStamp.mk v11.id.time (w64 ((w64 ((w64 (s1 + 1)) + 1)) + 1))) v11.at_)).set s2.toNat (TLOp.mk v13.kind v13.char v13.id (TStamp.mk (w64 ((w64 ((w64 ((w64 (s1 + 1)) + 1)) + 1)) + 1)) v13.at_.actor))).set s2.toNat (TLOp.mk v15.kind v15.char v15.id (TStamp.mk v15.at_.time (w64 ((w64 ((w64 ((w64 ((w64 (s1 + 1)) + 1)) + 1)) + 1)) + 1))))) := by simpa [splice, zs, cellsV, I.cells, enc_TLOp] using rows_set_off (y := (TLOp.mk v15.kind v15.char v15.id (TStamp.mk v15.at_.time (w64 ((w64 ((w64 ((w64 ((w64 (s1 + 1)) + 1)) + 1)) + 1)) + 1))))) (ys := [.i (.s (.int .i64 (w64 ((w64 ((w64 ((w64 ((w64 (s1 + 1)) + 1)) + 1)) + 1)) + 1))))]) (k := 5) gv15.2.2 (Nat.le_of_ble_eq_true rfl) (by rfl)
      have hp := Option.some.inj hp
      subst hp
      simp (maxSteps := 2000000) (disch := first|omega|(simp only[ls];first|done|omega)) only [i_laws_markLOpS, pf0, pg0, ftt0_0, ftt0_1, ftt0_2, ftt0_3, ftt0_4, ftt0_5, hz3, hb4, hv5, (gv5).1, (gv5).2.1, hs6, hv7, (gv7).1, (gv7).2.1, hs8, hv9, (gv9).1, (gv9).2.1, hs10, hv11, (gv11).1, (gv11).2.1, hs12, hv13, (gv13).1, (gv13).2.1, hs14, hv15, (gv15).1, (gv15).2.1, hs16, gm] <;> (repeat (first | omega | assumption | rfl | exact keep_refl | refine keep_app ?_ | (refine keep_set (by first | (left; simp; done) | (right; simp; omega)) ?_) | refine And.intro ?_ ?_))
    · replace hb4 := eq_false_of_ne_true hb4
      rw [if_f hb4] at hp
      have hp := Option.some.inj hp
      subst hp
      simp (maxSteps := 2000000) (disch := first|omega|(simp only[ls];first|done|omega)) only [i_laws_markLOpS, pf0, pg0, ftt0_0, ftt0_1, ftt0_2, ftt0_3, ftt0_4, ftt0_5, hz3, hb4, gm] <;> (repeat (first | omega | assumption | rfl | exact keep_refl | refine keep_app ?_ | (refine keep_set (by first | (left; simp; done) | (right; simp; omega)) ?_) | refine And.intro ?_ ?_))
  · simp (maxSteps := 2000000) (disch := first|omega|(simp only[ls];first|done|omega)) only [i_laws_markLOpS, pf0, pg0, gm] <;> (repeat (first | omega | assumption | rfl | exact keep_refl | refine keep_app ?_ | (refine keep_set (by first | (left; simp; done) | (right; simp; omega)) ?_) | refine And.intro ?_ ?_))
  · intro x tt1 hh1 hx
    rcases ee0 with ⟨o17, o18, o19⟩ | r
    · obtain ⟨rfl, ftt1_0, ftt1_1, ftt1_2, ftt1_3, ftt1_4, ftt1_5⟩ := hx
      have ztt1_3 := len_rows ftt1_3
      simp only [zs] at ztt1_3
      dsimp only at hp
      have hp := Option.some.inj hp
      subst hp
      simp (maxSteps := 2000000) (disch := first|omega|(simp only[ls];first|done|omega)) only [i_laws_markLOpS, pf0, pg0, ftt1_0, ftt1_1, ftt1_2, ftt1_3, ftt1_4, ftt1_5, gm] <;> (repeat (first | omega | assumption | rfl | exact keep_refl | refine keep_app ?_ | (refine keep_set (by first | (left; simp; done) | (right; simp; omega)) ?_) | refine And.intro ?_ ?_))
    · obtain ⟨rfl, hx⟩ := hx
      dsimp only at hp
      cases hp
      simp only [seqK_ret, blockK_ret, retK_RK (K := i_laws_markLOpS pb0 pn0 hh), hx, and_self, true_and]
theorem ko_laws_markLOpS {P : Program} {env : Env}  : k_laws_markLOpS (runIn P env (c_laws_markLOpS)) := by
  intro x0 x1 b hp pb0 pn0 h a0 a1
  exact w_laws_markLOpS x0 x1 hp pb0 pn0 h a0 a1

noncomputable def p_laws_markStampS_l0 : List TStamp × Int × Int → Option (Lp (List TStamp × Int × Int) (T2 Int (List TStamp)))
  | (s0, s1, s2) =>
    if (decide (s2 < (s0.length : Int))) = true then
      (get? s0 s2).bind fun v5 =>
      (get? (s0.set s2.toNat (TStamp.mk s1 v5.actor)) s2).bind fun v7 =>
      some (.go (((s0.set s2.toNat (TStamp.mk s1 v5.actor)).set s2.toNat (TStamp.mk v7.time (w64 (s1 + 1)))), w64 ((w64 (s1 + 1)) + 1), w64 (s2 + 1)))
    else
      some (.out (s0, s1, s2))
noncomputable def p_laws_markStampS (x0 : List TStamp) (x1 : Int) : Option (T2 Int (List TStamp)) :=
  (loopP (p_laws_markStampS_l0) (x0, x1, 0)).bind fun ee0 => match ee0 with
  | .ret r => some r
  | .out (o9, o10, o11) =>
    some ⟨o10, o9⟩
def c_laws_markStampS : AFn := ⟨27, (.seq (.ops [(qS 4 (.mv (ic 0)))]) (.seq (.seq (.ops [(qS 5 (.mv (ic 0)))]) (.block 0 (.loop (.seq (.seq (.ops [(qS 6 (.mv (.tmp 5))), (qS 7 (.mv (.tmp 0))), (qS 8 (.len (.tmp 7))), (qS 9 (.pu (.n (.ar .lss)) [(.tmp 6), (.tmp 8)]))]) (.cond (.tmp 9) .skip (.exit 0))) (.seq (.block 1 (.seq (.ops [(qS 12 (.mv (.tmp 0))), (qS 13 (.mv (.tmp 5))), (qS 14 (.mv (.tmp 1))), (qS 15 (.idxS 2 (.tmp 12) (.tmp 13))), (qS 16 (.fieldA 0 (.tmp 15))), ⟨.none, (.storeV [(0, false)] 1 (.tmp 16) (.tmp 14)), .none, [], .none⟩]) (.seq (.ops [(qS 17 (.mv (.tmp 1))), (qS 18 (.pu (.n (.ar .add)) [(.tmp 17), (ic 1)])), (qS 1 (.mv (.tmp 18)))]) (.seq (.ops [(qS 19 (.mv (.tmp 0))), (qS 20 (.mv (.tmp 5))), (qS 21 (.mv (.tmp 1))), (qS 22 (.idxS 2 (.tmp 19) (.tmp 20))), (qS 23 (.fieldA 1 (.tmp 22))), ⟨.none, (.storeV [(0, false)] 1 (.tmp 23) (.tmp 21)), .none, [], .none⟩]) (.ops [(qS 24 (.mv (.tmp 1))), (qS 25 (.pu (.n (.ar .add)) [(.tmp 24), (ic 1)])), (qS 1 (.mv (.tmp 25)))]))))) (.ops [(qS 10 (.mv (.tmp 5))), (qS 11 (.pu (.n (.ar .add)) [(.tmp 10), (ic 1)])), (qS 5 (.mv (.tmp 11)))])))))) (.seq (.ops [(qS 26 (.mv (.tmp 1))), (qS 4 (.mv (.tmp 26)))]) .ret))), [(.tmp 4)]⟩
def i_laws_markStampS (pb0 pn0 : Nat) (h : Heap) (b : T2 Int (List TStamp)) (v : V) (h2 : Heap) : Prop := Keep [pb0] h h2 ∧ v = .i (.s (.int .i64 b.a)) ∧ getCells h2 pb0 (pn0 * 2) = some (rows b.b)
def k_laws_markStampS (F : Fun) : Prop := ∀ (x0 : List TStamp) (x1 : Int) (b : T2 Int (List TStamp)), p_laws_markStampS x0 x1 = some b → ∀ (pb0 pn0 : Nat) (h : Heap), pn0 = (x0).length → getCells h pb0 (pn0 * 2) = some (rows x0) → ∃ p, F none [.hsl pb0 (pn0 * 2) 0 2 true pn0, .i (.s (.int .i64 x1))] h = some p ∧ i_laws_markStampS pb0 pn0 h b p.1 p.2
set_option maxHeartbeats 10000000 in
theorem w_laws_markStampS {P : Program} {env : Env}  (x0 : List TStamp) (x1 : Int) {b : T2 Int (List TStamp)} (hp : p_laws_markStampS x0 x1 = some b) (pb0 pn0 : Nat) (hh : Heap) (pm0 : pn0 = (x0).length) (pf0 : getCells hh pb0 (pn0 * 2) = some (rows x0)) : R P env (c_laws_markStampS) [.hsl pb0 (pn0 * 2) 0 2 true pn0, .i (.s (.int .i64 x1))] hh (i_laws_markStampS pb0 pn0 hh b) := by
  have pl0 := gc_lt pf0
  have pg0 : getCells hh pb0 (x0.length * 2) = some (rows x0) := by rw [← pm0]; exact pf0
  refine R_of (by simp [c_laws_markStampS, encA]) ?_
  unfold c_laws_markStampS
  unfold p_laws_markStampS at hp
  obtain ⟨ee0, hee0, hp⟩ := bind_eq hp
  simp (maxSteps := 2000000) (disch := first|omega|(simp only[ls];first|done|omega)) only [pf0, pg0, gm]
  refine W_loopP 0 (fun s t h => match s with | (s0, s1, s2) => t 0 = .hsl pb0 (pn0 * 2) 0 2 true pn0 ∧ t 1 = .i (.s (.int .i64 s1)) ∧ t 5 = .i (.s (.int .i64 s2)) ∧ getCells h pb0 (pn0 * 2) = some (rows (s0 : List TStamp)) ∧ pb0 < h.length ∧ Keep [pb0] hh h) (RK [.tmp 4] (i_laws_markStampS pb0 pn0 hh)) ?_ hee0 ?_ ?_
  · rintro ⟨s0, s1, s2⟩ ee tt0 hh0 ⟨ftt0_0, ftt0_1, ftt0_2, ftt0_3, ftt0_4, ftt0_5⟩ hp
    have ztt0_3 := len_rows ftt0_3
    simp only [zs] at ztt0_3
    rw [p_laws_markStampS_l0] at hp
    have hz3 : ((pn0 : Nat) : Int) = (s0.length : Int) := by omega
    by_cases hb4 : (decide (s2 < (s0.length : Int))) = true
    · rw [if_t hb4] at hp
      obtain ⟨v5, hv5, hp⟩ := bind_eq hp
      have gv5 := get_some hv5
      have hs6 : List.take (s2.toNat * 2) (rows s0) ++ .i (.s (.int .i64 s1)) :: List.drop (s2.toNat * 2 + 1) (rows s0) = rows (s0.set s2.toNat (TStamp.mk s1 v5.actor)) := by simpa [splice, zs, cellsV, I.cells, enc_TStamp] using rows_set_off (y := (TStamp.mk s1 v5.actor)) (ys := [.i (.s (.int .i64 s1))]) (k := 0) gv5.2.2 (Nat.le_of_ble_eq_true rfl) (by rfl)
      obtain ⟨v7, hv7, hp⟩ := bind_eq hp
      have gv7 := get_some hv7
      have hs8 : List.take (s2.toNat * 2 + 1) (rows (s0.set s2.toNat (TStamp.mk s1 v5.actor))) ++ .i (.s (.int .i64 (w64 (s1 + 1)))) :: List.drop (s2.toNat * 2 + 1 + 1) (rows (s0.set s2.toNat (TStamp.mk s1 v5.actor))) = rows ((s0.set s2.toNat (TStamp.mk s1 v5.actor)).set s2.toNat (TStamp.mk v7.time (w64 (s1 + 1)))) := by simpa [splice, zs, cellsV, I.cells, enc_TStamp] using rows_set_off (y := (TStamp.mk v7.time (w64 (s1 + 1)))) (ys := [.i (.s (.int .i64 (w64 (s1 + 1))))]) (k := 1) gv7.2.2 (Nat.le_of_ble_eq_true rfl) (by rfl)
      have hp := Option.some.inj hp
      subst hp
      simp (maxSteps := 2000000) (disch := first|omega|(simp only[ls];first|done|omega)) only [i_laws_markStampS, pf0, pg0, ftt0_0, ftt0_1, ftt0_2, ftt0_3, ftt0_4, ftt0_5, hz3, hb4, hv5, (gv5).1, (gv5).2.1, hs6, hv7, (gv7).1, (gv7).2.1, hs8, gm] <;> (repeat (first | omega | assumption | rfl | exact keep_refl | refine keep_app ?_ | (refine keep_set (by first | (left; simp; done) | (right; simp; omega)) ?_) | refine And.intro ?_ ?_))
    · replace hb4 := eq_false_of_ne_true hb4
      rw [if_f hb4] at hp
      have hp := Option.some.inj hp
      subst hp
      simp (maxSteps := 2000000) (disch := first|omega|(simp only[ls];first|done|omega)) only [i_laws_markStampS, pf0, pg0, ftt0_0, ftt0_1, ftt0_2, ftt0_3, ftt0_4, ftt0_5, hz3, hb4, gm] <;> (repeat (first | omega | assumption | rfl | exact keep_refl | refine keep_app ?_ | (refine keep_set (by first | (left; simp; done) | (right; simp; omega)) ?_) | refine And.intro ?_ ?_))
  · simp (maxSteps := 2000000) (disch := first|omega|(simp only[ls];first|done|omega)) only [i_laws_markStampS, pf0, pg0, gm] <;> (repeat (first | omega | assumption | rfl | exact keep_refl | refine keep_app ?_ | (refine keep_set (by first | (left; simp; done) | (right; simp; omega)) ?_) | refine And.intro ?_ ?_))
  · intro x tt1 hh1 hx
    rcases ee0 with ⟨o9, o10, o11⟩ | r
    · obtain ⟨rfl, ftt1_0, ftt1_1, ftt1_2, ftt1_3, ftt1_4, ftt1_5⟩ := hx
      have ztt1_3 := len_rows ftt1_3
      simp only [zs] at ztt1_3
      dsimp only at hp
      have hp := Option.some.inj hp
      subst hp
      simp (maxSteps := 2000000) (disch := first|omega|(simp only[ls];first|done|omega)) only [i_laws_markStampS, pf0, pg0, ftt1_0, ftt1_1, ftt1_2, ftt1_3, ftt1_4, ftt1_5, gm] <;> (repeat (first | omega | assumption | rfl | exact keep_refl | refine keep_app ?_ | (refine keep_set (by first | (left; simp; done) | (right; simp; omega)) ?_) | refine And.intro ?_ ?_))
    · obtain ⟨rfl, hx⟩ := hx
      dsimp only at hp
      cases hp
      simp only [seqK_ret, blockK_ret, retK_RK (K := i_laws_markStampS pb0 pn0 hh), hx, and_self, true_and]
theorem ko_laws_markStampS {P : Program} {env : Env}  : k_laws_markStampS (runIn P env (c_laws_markStampS)) := by
  intro x0 x1 b hp pb0 pn0 h a0 a1
  exact w_laws_markStampS x0 x1 hp pb0 pn0 h a0 a1

noncomputable def p_laws_heldStampS_l0 (x0 : List TStamp) : Int × Int → Option (Lp (Int × Int) Int)
  | (s0, s1) =>
    if (decide (s1 < (x0.length : Int))) = true then
      (get? x0 s1).bind fun v3 =>
      if (decide (v3.time = s0)) = true then
        if (decide (v3.actor = w64 (s0 + 1))) = true then
          some (.go (w64 ((w64 (s0 + 1)) + 1), w64 (s1 + 1)))
        else
          some (.ret (-1))
      else
        some (.ret (-1))
    else
      some (.out (s0, s1))
noncomputable def p_laws_heldStampS (x0 : List TStamp) (x1 : Int) : Option Int :=
  (loopP (p_laws_heldStampS_l0 x0) (x1, 0)).bind fun ee0 => match ee0 with
  | .ret r => some r
  | .out (o6, o7) =>
    some o6
def c_laws_heldStampS : AFn := ⟨31, (.seq (.ops [(qS 4 (.mv (ic 0)))]) (.seq (.seq (.ops [(qS 5 (.mv (ic 0)))]) (.block 0 (.loop (.seq (.seq (.ops [(qS 6 (.mv (.tmp 5))), (qS 7 (.mv (.tmp 0))), (qS 8 (.len (.tmp 7))), (qS 9 (.pu (.n (.ar .lss)) [(.tmp 6), (.tmp 8)]))]) (.cond (.tmp 9) .skip (.exit 0))) (.seq (.block 1 (.seq (.seq (.ops [(qS 12 (.mv (.tmp 0))), (qS 13 (.mv (.tmp 5))), (qS 14 (.idxS 2 (.tmp 12) (.tmp 13))), (qS 15 (.fieldA 0 (.tmp 14))), (qS 16 (.load 1 false (.tmp 15))), (qS 17 (.mv (.tmp 1))), (qS 18 (.pu (.n (.ar .neq)) [(.tmp 16), (.tmp 17)]))]) (.cond (.tmp 18) (.seq (.ops [(qS 4 (.mv (ic (-1))))]) .ret) .skip)) (.seq (.ops [(qS 19 (.mv (.tmp 1))), (qS 20 (.pu (.n (.ar .add)) [(.tmp 19), (ic 1)])), (qS 1 (.mv (.tmp 20)))]) (.seq (.seq (.ops [(qS 21 (.mv (.tmp 0))), (qS 22 (.mv (.tmp 5))), (qS 23 (.idxS 2 (.tmp 21) (.tmp 22))), (qS 24 (.fieldA 1 (.tmp 23))), (qS 25 (.load 1 false (.tmp 24))), (qS 26 (.mv (.tmp 1))), (qS 27 (.pu (.n (.ar .neq)) [(.tmp 25), (.tmp 26)]))]) (.cond (.tmp 27) (.seq (.ops [(qS 4 (.mv (ic (-1))))]) .ret) .skip)) (.ops [(qS 28 (.mv (.tmp 1))), (qS 29 (.pu (.n (.ar .add)) [(.tmp 28), (ic 1)])), (qS 1 (.mv (.tmp 29)))]))))) (.ops [(qS 10 (.mv (.tmp 5))), (qS 11 (.pu (.n (.ar .add)) [(.tmp 10), (ic 1)])), (qS 5 (.mv (.tmp 11)))])))))) (.seq (.ops [(qS 30 (.mv (.tmp 1))), (qS 4 (.mv (.tmp 30)))]) .ret))), [(.tmp 4)]⟩
set_option maxHeartbeats 10000000 in
theorem d_laws_heldStampS {P : Program} {env : Env}  (x0 : List TStamp) (x1 : Int) {b : Int} (hp : p_laws_heldStampS x0 x1 = some b) : R P env (c_laws_heldStampS) ((encA (x0, x1)).map ofI) [] (Tells true b) := by
  refine R_of (by simp [c_laws_heldStampS, encA]) ?_
  unfold c_laws_heldStampS
  unfold p_laws_heldStampS at hp
  obtain ⟨ee0, hee0, hp⟩ := bind_eq hp
  simp (maxSteps := 2000000) (disch := first|omega|(simp only[ls];first|done|omega)) only [gm]
  refine W_loopP 0 (fun s t h => match s with | (s0, s1) => t 0 = .i (.sl 2 (x0.map enc)) ∧ t 1 = .i (.s (.int .i64 s0)) ∧ t 5 = .i (.s (.int .i64 s1))) (RK [.tmp 4] (Tells true)) ?_ hee0 ?_ ?_
  · rintro ⟨s0, s1⟩ ee tt0 hh0 ⟨ftt0_0, ftt0_1, ftt0_2⟩ hp
    rw [p_laws_heldStampS_l0] at hp
    by_cases hb2 : (decide (s1 < (x0.length : Int))) = true
    · rw [if_t hb2] at hp
      obtain ⟨v3, hv3, hp⟩ := bind_eq hp
      by_cases hb4 : (decide (v3.time = s0)) = true
      · rw [if_t hb4] at hp
        by_cases hb5 : (decide (v3.actor = w64 (s0 + 1))) = true
        · rw [if_t hb5] at hp
          have hp := Option.some.inj hp
          subst hp
          simp (maxSteps := 2000000) (disch := first|omega|(simp only[ls];first|done|omega)) only [ftt0_0, ftt0_1, ftt0_2, hb2, hv3, hb4, hb5, gm] <;> omega
        · replace hb5 := eq_false_of_ne_true hb5
          rw [if_f hb5] at hp
          have hp := Option.some.inj hp
          subst hp
          simp (maxSteps := 2000000) (disch := first|omega|(simp only[ls];first|done|omega)) only [ftt0_0, ftt0_1, ftt0_2, hb2, hv3, hb4, hb5, gm]
      · replace hb4 := eq_false_of_ne_true hb4
        rw [if_f hb4] at hp
        have hp := Option.some.inj hp
        subst hp
        simp (maxSteps := 2000000) (disch := first|omega|(simp only[ls];first|done|omega)) only [ftt0_0, ftt0_1, ftt0_2, hb2, hv3, hb4, gm]
    · replace hb2 := eq_false_of_ne_true hb2
      rw [if_f hb2] at hp
      have hp := Option.some.inj hp
      subst hp
      simp (maxSteps := 2000000) (disch := first|omega|(simp only[ls];first|done|omega)) only [ftt0_0, ftt0_1, ftt0_2, hb2, gm] <;> omega
  · simp (maxSteps := 2000000) (disch := first|omega|(simp only[ls];first|done|omega)) only [gm] <;> omega
  · intro x tt1 hh1 hx
    rcases ee0 with ⟨o6, o7⟩ | r
    · obtain ⟨rfl, ftt1_0, ftt1_1, ftt1_2⟩ := hx
      dsimp only at hp
      have hp := Option.some.inj hp
      subst hp
      simp (maxSteps := 2000000) (disch := first|omega|(simp only[ls];first|done|omega)) only [ftt1_0, ftt1_1, ftt1_2, gm]
    · obtain ⟨rfl, hx⟩ := hx
      dsimp only at hp
      cases hp
      simp only [seqK_ret, blockK_ret, retK_RK (K := Tells true), hx, and_self, true_and]

noncomputable def p_laws_FnExactListOrder (x0 : List TLOp) : Option Bool :=
  (p_laws_szLOpS x0 1048576).bind fun v0 =>
  if (decide (v0 < 0)) = true then
    some true
  else
    (p_laws_toLOpS x0).bind fun v2 =>
    (p_spec_ListOrder v2).bind fun v3 =>
    (p_impl_ListOrder v2).bind fun v4 =>
    (p_laws_eqStampS v4.a v3.a).bind fun v5 =>
    if (v5) = true then
      if (decide (v4.b = v3.b)) = true then
        (p_laws_eqLOpS v2 v2).bind fun v8 =>
        if (v8) = true then
          (p_laws_markLOpS v2 1).bind fun v10 =>
          if (decide (v10.a < 0)) = true then
            some false
          else
            (p_laws_markStampS v4.a 1).bind fun v12 =>
            (p_laws_heldStampS v12.b 1).bind fun v13 =>
            if (decide (v13 < 0)) = true then
              some false
            else
              if (decide (v13 = v12.a)) = true then
                some true
              else
                some false
        else
          some false
      else
        some false
    else
      some false
def c_laws_FnExactListOrder (f_laws_szLOpS : Nat) (f_laws_toLOpS : Nat) (f_spec_ListOrder : Nat) (f_impl_ListOrder : Nat) (f_laws_eqStampS : Nat) (f_laws_eqLOpS : Nat) (f_laws_markLOpS : Nat) (f_laws_markStampS : Nat) (f_laws_heldStampS : Nat) : AFn := ⟨96, (.seq (.ops [(qS 2 (.mv (.const (.bool false))))]) (.seq (.ops [(qS 3 (.mv (ic 1048576)))]) (.seq (.ops [(qS 14 (.mv (.tmp 0))), (qS 15 (.mv (.tmp 3))), (qS 16 (.call (2 * f_laws_szLOpS) [(.tmp 14), (.tmp 15)])), (qS 3 (.mv (.tmp 16)))]) (.seq (.seq (.ops [(qS 17 (.mv (.tmp 3))), (qS 18 (.pu (.n (.ar .lss)) [(.tmp 17), (ic 0)]))]) (.cond (.tmp 18) (.seq (.ops [(qS 2 (.mv (.const (.bool true))))]) .ret) .skip)) (.seq (.ops [(qS 20 (.mv (.tmp 0))), (qS 21 (.call (2 * f_laws_toLOpS) [(.tmp 20)])), (qS 22 (.call (2 * f_spec_ListOrder) [(.tmp 21)])), (qS 19 (.mv (.tmp 22))), (qS 23 (.extract 0 (.tmp 19))), (qS 24 (.extract 1 (.tmp 19))), (qS 4 (.mv (.tmp 23))), (qS 5 (.mv (.tmp 24)))]) (.seq (.ops [(qS 25 (.mv (.tmp 0))), (qS 26 (.call (2 * f_laws_toLOpS + 1) [(.tmp 25)])), (qS 6 (.mv (.tmp 26)))]) (.seq (.ops [(qS 28 (.mv (.tmp 6))), (qS 29 (.call (2 * f_impl_ListOrder + 1) [(.tmp 28)])), (qS 27 (.mv (.tmp 29))), (qS 30 (.extract 0 (.tmp 27))), (qS 31 (.extract 1 (.tmp 27))), (qS 7 (.mv (.tmp 30))), (qS 8 (.mv (.tmp 31)))]) (.seq (.seq (.ops [(qS 32 (.mv (.tmp 7))), (qS 33 (.mv (.tmp 4))), (qS 34 (.call (2 * f_laws_eqStampS) [(.tmp 32), (.tmp 33)])), (qS 35 (.pu (.n (.un .not)) [(.tmp 34)])), (qS 36 (.mv (.tmp 35))), ⟨(.some 37), (.mv (.tmp 8)), (.some (36, false)), [], .none⟩, ⟨(.some 38), (.mv (.tmp 5)), (.some (36, false)), [], .none⟩, ⟨(.some 39), (.pu (.n (.ar .neq)) [(.tmp 37), (.tmp 38)]), (.some (36, false)), [], .none⟩, (qS 40 (.pick (.tmp 36) (.const (.bool true)) (.tmp 39)))]) (.cond (.tmp 40) (.seq (.ops [(qS 2 (.mv (.const (.bool false))))]) .ret) .skip)) (.seq (.seq (.ops [(qS 41 (.mv (.tmp 6))), (qS 42 (.mv (.tmp 0))), (qS 43 (.call (2 * f_laws_toLOpS + 1) [(.tmp 42)])), (qS 44 (.call (2 * f_laws_eqLOpS) [(.tmp 41), (.tmp 43)])), (qS 45 (.pu (.n (.un .not)) [(.tmp 44)]))]) (.cond (.tmp 45) (.seq (.ops [(qS 2 (.mv (.const (.bool false))))]) .ret) .skip)) (.seq (.ops [(qS 9 (.mv (ic 1)))]) (.seq (.ops [(qS 46 (.mv (.tmp 6))), (qS 47 (.mv (.tmp 9))), (qS 48 (.call (2 * f_laws_markLOpS + 1) [(.tmp 46), (.tmp 47)])), (qS 9 (.mv (.tmp 48)))]) (.seq (.seq (.ops [(qS 49 (.mv (.tmp 9))), (qS 50 (.pu (.n (.ar .lss)) [(.tmp 49), (ic 0)])), (qS 51 (.mv (.tmp 50))), ⟨(.some 52), (.mv (.tmp 7)), (.some (51, false)), [], .none⟩, ⟨(.some 53), (.mv (.tmp 4)), (.some (51, false)), [], .none⟩, ⟨(.some 54), (.call (2 * f_laws_eqStampS) [(.tmp 52), (.tmp 53)]), (.some (51, false)), [], .none⟩, ⟨(.some 55), (.pu (.n (.un .not)) [(.tmp 54)]), (.some (51, false)), [], .none⟩, (qS 56 (.pick (.tmp 51) (.const (.bool true)) (.tmp 55))), (qS 57 (.mv (.tmp 56))), ⟨(.some 58), (.mv (.tmp 8)), (.some (57, false)), [], .none⟩, ⟨(.some 59), (.mv (.tmp 5)), (.some (57, false)), [], .none⟩, ⟨(.some 60), (.pu (.n (.ar .neq)) [(.tmp 58), (.tmp 59)]), (.some (57, false)), [], .none⟩, (qS 61 (.pick (.tmp 57) (.const (.bool true)) (.tmp 60)))]) (.cond (.tmp 61) (.seq (.ops [(qS 2 (.mv (.const (.bool false))))]) .ret) .skip)) (.seq (.ops [(qS 10 (.mv (ic 1)))]) (.seq (.ops [(qS 62 (.mv (.tmp 7))), (qS 63 (.mv (.tmp 10))), (qS 64 (.call (2 * f_laws_markStampS + 1) [(.tmp 62), (.tmp 63)])), (qS 10 (.mv (.tmp 64)))]) (.seq (.ops [(qS 11 (.mv (ic 1)))]) (.seq (.ops [(qS 65 (.mv (.tmp 7))), (qS 66 (.mv (.tmp 11))), (qS 67 (.call (2 * f_laws_heldStampS) [(.tmp 65), (.tmp 66)])), (qS 11 (.mv (.tmp 67)))]) (.seq (.seq (.ops [(qS 68 (.mv (.tmp 11))), (qS 69 (.pu (.n (.ar .lss)) [(.tmp 68), (ic 0)]))]) (.cond (.tmp 69) (.seq (.ops [(qS 2 (.mv (.const (.bool false))))]) .ret) .skip)) (.seq (.seq (.ops [(qS 70 (.mv (.tmp 11))), (qS 71 (.mv (.tmp 10))), (qS 72 (.pu (.n (.ar .neq)) [(.tmp 70), (.tmp 71)]))]) (.cond (.tmp 72) (.seq (.ops [(qS 2 (.mv (.const (.bool false))))]) .ret) .skip)) (.seq (.ops [(qS 74 (.mv (.tmp 0))), (qS 75 (.call (2 * f_laws_toLOpS + 1) [(.tmp 74)])), (qS 76 (.call (2 * f_impl_ListOrder + 1) [(.tmp 75)])), (qS 73 (.mv (.tmp 76))), (qS 77 (.extract 0 (.tmp 73))), (qS 78 (.extract 1 (.tmp 73))), (qS 12 (.mv (.tmp 77))), (qS 13 (.mv (.tmp 78)))]) (.seq (.seq (.ops [(qS 79 (.mv (.tmp 12))), (qS 80 (.mv (.tmp 4))), (qS 81 (.call (2 * f_laws_eqStampS) [(.tmp 79), (.tmp 80)])), (qS 82 (.pu (.n (.un .not)) [(.tmp 81)])), (qS 83 (.mv (.tmp 82))), ⟨(.some 84), (.mv (.tmp 13)), (.some (83, false)), [], .none⟩, ⟨(.some 85), (.mv (.tmp 5)), (.some (83, false)), [], .none⟩, ⟨(.some 86), (.pu (.n (.ar .neq)) [(.tmp 84), (.tmp 85)]), (.some (83, false)), [], .none⟩, (qS 87 (.pick (.tmp 83) (.const (.bool true)) (.tmp 86)))]) (.cond (.tmp 87) (.seq (.ops [(qS 2 (.mv (.const (.bool false))))]) .ret) .skip)) (.seq (.ops [(qS 11 (.mv (ic 1)))]) (.seq (.ops [(qS 88 (.mv (.tmp 7))), (qS 89 (.mv (.tmp 11))), (qS 90 (.call (2 * f_laws_heldStampS) [(.tmp 88), (.tmp 89)])), (qS 11 (.mv (.tmp 90)))]) (.seq (.seq (.ops [(qS 91 (.mv (.tmp 11))), (qS 92 (.pu (.n (.ar .lss)) [(.tmp 91), (ic 0)]))]) (.cond (.tmp 92) (.seq (.ops [(qS 2 (.mv (.const (.bool false))))]) .ret) .skip)) (.seq (.seq (.ops [(qS 93 (.mv (.tmp 11))), (qS 94 (.mv (.tmp 10))), (qS 95 (.pu (.n (.ar .neq)) [(.tmp 93), (.tmp 94)]))]) (.cond (.tmp 95) (.seq (.ops [(qS 2 (.mv (.const (.bool false))))]) .ret) .skip)) (.seq (.ops [(qS 2 (.mv (.const (.bool true))))]) .ret))))))))))))))))))))))))), [(.tmp 2)]⟩
set_option maxHeartbeats 10000000 in
theorem d_laws_FnExactListOrder {P : Program} {env : Env} {f_laws_szLOpS : Nat} {f_laws_toLOpS : Nat} {f_spec_ListOrder : Nat} {f_impl_ListOrder : Nat} {f_laws_eqStampS : Nat} {f_laws_eqLOpS : Nat} {f_laws_markLOpS : Nat} {f_laws_markStampS : Nat} {f_laws_heldStampS : Nat}  (ep_laws_szLOpS : env (2 * f_laws_szLOpS) = pureFn true (FA fun a : List TLOp × Int => p_laws_szLOpS a.1 a.2)) (ep_laws_toLOpS : env (2 * f_laws_toLOpS) = pureFn true (FA fun a : List TLOp => p_laws_toLOpS a)) (ep_spec_ListOrder : env (2 * f_spec_ListOrder) = pureFn true (FA fun a : List TLOp => p_spec_ListOrder a)) (ep_laws_eqStampS : env (2 * f_laws_eqStampS) = pureFn true (FA fun a : List TStamp × List TStamp => p_laws_eqStampS a.1 a.2)) (ep_laws_eqLOpS : env (2 * f_laws_eqLOpS) = pureFn true (FA fun a : List TLOp × List TLOp => p_laws_eqLOpS a.1 a.2)) (ep_laws_heldStampS : env (2 * f_laws_heldStampS) = pureFn true (FA fun a : List TStamp × Int => p_laws_heldStampS a.1 a.2)) (e_laws_toLOpS : k_laws_toLOpS (env (2 * f_laws_toLOpS + 1))) (e_impl_ListOrder : k_impl_ListOrder (env (2 * f_impl_ListOrder + 1))) (e_laws_markLOpS : k_laws_markLOpS (env (2 * f_laws_markLOpS + 1))) (e_laws_markStampS : k_laws_markStampS (env (2 * f_laws_markStampS + 1))) (x0 : List TLOp) (hp : p_laws_FnExactListOrder x0 = some true) : R P env (c_laws_FnExactListOrder f_laws_szLOpS f_laws_toLOpS f_spec_ListOrder f_impl_ListOrder f_laws_eqStampS f_laws_eqLOpS f_laws_markLOpS f_laws_markStampS f_laws_heldStampS) ((encA (x0)).map ofI) [] (fun v _ => v = .i (iB true)) := by
  refine R_of (by simp [c_laws_FnExactListOrder, encA]) ?_
  have E := And.intro ep_laws_szLOpS (And.intro ep_laws_toLOpS (And.intro ep_spec_ListOrder (And.intro ep_laws_eqStampS (And.intro ep_laws_eqLOpS ep_laws_heldStampS))))
  unfold c_laws_FnExactListOrder
  unfold p_laws_FnExactListOrder at hp
  obtain ⟨v0, hv0, hp⟩ := bind_eq hp
  by_cases hb1 : (decide (v0 < 0)) = true
  · rw [if_t hb1] at hp
    cases hp
    simp (maxSteps := 2000000) (disch := first|omega|(simp only[ls];first|done|omega)) only [E, hv0, hb1, gm]
  · replace hb1 := eq_false_of_ne_true hb1
    rw [if_f hb1] at hp
    obtain ⟨v2, hv2, hp⟩ := bind_eq hp
    obtain ⟨v3, hv3, hp⟩ := bind_eq hp
    simp (maxSteps := 2000000) (disch := first|omega|(simp only[ls];first|done|omega)) only [E, hv0, hb1, hv2, hv3, gm]
    refine call_f (fun h => True) (fun h v h2 => oo_laws_toLOpS v2 h v h2) ?_ ?_ ?_
    · simp (maxSteps := 2000000) (disch := first|omega|(simp only[ls];first|done|omega)) only [E, hv0, hb1, hv2, hv3, gm] <;> omega
    · rintro h _
      exact e_laws_toLOpS _ _ hv2 h _ (by simp (maxSteps := 2000000) (disch := first|omega|(simp only[ls];first|done|omega)) only [E, hv0, hb1, hv2, hv3, gm])
    · rintro hc0 v hh0 _ hpost
      obtain ⟨kk0, nb0_0, rfl, lnb0_0, gnb0_0, wnb0_0⟩ := hpost
      have d0_0 := wnb0_0
      obtain ⟨v4, hv4, hp⟩ := bind_eq hp
      simp (maxSteps := 2000000) (disch := first|omega|(simp only[ls];first|done|omega)) only [E, hv0, hb1, hv2, hv3, d0_0, gm]
      refine call_f (fun h => getCells h nb0_0 (v2.length * 6) = some (rows (v2 : List TLOp)) ∧ nb0_0 < h.length) (fun h v h2 => oo_impl_ListOrder v4 h v h2) ?_ ?_ ?_
      · simp (maxSteps := 2000000) (disch := first|omega|(simp only[ls];first|done|omega)) only [E, hv0, hb1, hv2, hv3, d0_0, hv4, gm] <;> omega
      · rintro h ⟨c1_0, c1_1⟩
        exact e_impl_ListOrder _ _ hv4 h _ (by simp (maxSteps := 2000000) (disch := first|omega|(simp only[ls];first|done|omega)) only [E, hv0, hb1, hv2, hv3, d0_0, hv4, c1_0, c1_1, gm])
      · rintro hc1 v hh1 ⟨c1_0, c1_1⟩ hpost
        obtain ⟨kk1, nb1_0, rfl, lnb1_0, gnb1_0, wnb1_0⟩ := hpost
        have d1_0 : getCells hh1 nb0_0 (v2.length * 6) = some (rows (v2 : List TLOp)) := (keep_get kk1 c1_1 (by first | (simp; done) | (simp; omega))).trans c1_0
        have d1_0l := keep_lt kk1 c1_1
        have d1_1 := wnb1_0
        obtain ⟨v5, hv5, hp⟩ := bind_eq hp
        by_cases hb6 : (v5) = true
        · rw [if_t hb6] at hp
          by_cases hb7 : (decide (v4.b = v3.b)) = true
          · rw [if_t hb7] at hp
            simp (maxSteps := 2000000) (disch := first|omega|(simp only[ls];first|done|omega)) only [E, hv0, hb1, hv2, hv3, d0_0, hv4, d1_0, d1_1, hv5, hb6, hb7, gm]
            refine call_f (fun h => getCells h nb0_0 (v2.length * 6) = some (rows (v2 : List TLOp)) ∧ nb0_0 < h.length ∧ getCells h nb1_0 (v4.a.length * 2) = some (rows (v4.a : List TStamp)) ∧ nb1_0 < h.length) (fun h v h2 => oo_laws_toLOpS v2 h v h2) ?_ ?_ ?_
            · simp (maxSteps := 2000000) (disch := first|omega|(simp only[ls];first|done|omega)) only [E, hv0, hb1, hv2, hv3, d0_0, hv4, d1_0, d1_1, hv5, hb6, hb7, gm] <;> omega
            · rintro h ⟨c2_0, c2_1, c2_2, c2_3⟩
              exact e_laws_toLOpS _ _ hv2 h _ (by simp (maxSteps := 2000000) (disch := first|omega|(simp only[ls];first|done|omega)) only [E, hv0, hb1, hv2, hv3, d0_0, hv4, d1_0, d1_1, hv5, hb6, hb7, c2_0, c2_1, c2_2, c2_3, gm])
            · rintro hc2 v hh2 ⟨c2_0, c2_1, c2_2, c2_3⟩ hpost
              obtain ⟨kk2, nb2_0, rfl, lnb2_0, gnb2_0, wnb2_0⟩ := hpost
              have d2_0 : getCells hh2 nb0_0 (v2.length * 6) = some (rows (v2 : List TLOp)) := (keep_get kk2 c2_1 (by first | (simp; done) | (simp; omega))).trans c2_0
              have d2_0l := keep_lt kk2 c2_1
              have d2_1 : getCells hh2 nb1_0 (v4.a.length * 2) = some (rows (v4.a : List TStamp)) := (keep_get kk2 c2_3 (by first | (simp; done) | (simp; omega))).trans c2_2
              have d2_1l := keep_lt kk2 c2_3
              have d2_2 := wnb2_0
              obtain ⟨v8, hv8, hp⟩ := bind_eq hp
              by_cases hb9 : (v8) = true
              · rw [if_t hb9] at hp
                obtain ⟨v10, hv10, hp⟩ := bind_eq hp
                simp (maxSteps := 2000000) (disch := first|omega|(simp only[ls];first|done|omega)) only [E, hv0, hb1, hv2, hv3, d0_0, hv4, d1_0, d1_1, hv5, hb6, hb7, d2_0, d2_1, d2_2, hv8, hb9, gm]
                refine call_f (fun h => getCells h nb0_0 (v2.length * 6) = some (rows (v2 : List TLOp)) ∧ nb0_0 < h.length ∧ getCells h nb1_0 (v4.a.length * 2) = some (rows (v4.a : List TStamp)) ∧ nb1_0 < h.length ∧ getCells h nb2_0 (v2.length * 6) = some (rows (v2 : List TLOp)) ∧ nb2_0 < h.length) (fun h v h2 => i_laws_markLOpS nb0_0 v2.length h v10 v h2) ?_ ?_ ?_
                · simp (maxSteps := 2000000) (disch := first|omega|(simp only[ls];first|done|omega)) only [E, hv0, hb1, hv2, hv3, d0_0, hv4, d1_0, d1_1, hv5, hb6, hb7, d2_0, d2_1, d2_2, hv8, hb9, hv10, gm] <;> omega
                · rintro h ⟨c3_0, c3_1, c3_2, c3_3, c3_4, c3_5⟩
                  exact e_laws_markLOpS _ _ _ hv10 nb0_0 v2.length h (by first | omega | rfl) c3_0
                · rintro hc3 v hh3 ⟨c3_0, c3_1, c3_2, c3_3, c3_4, c3_5⟩ hpost
                  obtain ⟨kk3, rfl, w3_0⟩ := hpost
                  have d3_0 : getCells hh3 nb0_0 (v2.length * 6) = some (rows (v10.b : List TLOp)) := w3_0
                  have mm3_0 := len_rows w3_0
                  simp only [zs] at mm3_0
                  have d3_0l := keep_lt kk3 c3_1
                  have d3_1 : getCells hh3 nb1_0 (v4.a.length * 2) = some (rows (v4.a : List TStamp)) := (keep_get kk3 c3_3 (by first | (simp; done) | (simp; omega))).trans c3_2
                  have d3_1l := keep_lt kk3 c3_3
                  have d3_2 : getCells hh3 nb2_0 (v2.length * 6) = some (rows (v2 : List TLOp)) := (keep_get kk3 c3_5 (by first | (simp; done) | (simp; omega))).trans c3_4
                  have d3_2l := keep_lt kk3 c3_5
                  by_cases hb11 : (decide (v10.a < 0)) = true
                  · rw [if_t hb11] at hp
                    cases hp
                  · replace hb11 := eq_false_of_ne_true hb11
                    rw [if_f hb11] at hp
                    obtain ⟨v12, hv12, hp⟩ := bind_eq hp
                    simp (maxSteps := 2000000) (disch := first|omega|(simp only[ls];first|done|omega)) only [E, hv0, hb1, hv2, hv3, d0_0, hv4, d1_0, d1_1, hv5, hb6, hb7, d2_0, d2_1, d2_2, hv8, hb9, hv10, d3_0, d3_1, d3_2, hb11, gm]
                    refine call_f (fun h => getCells h nb0_0 (v2.length * 6) = some (rows (v10.b : List TLOp)) ∧ nb0_0 < h.length ∧ getCells h nb1_0 (v4.a.length * 2) = some (rows (v4.a : List TStamp)) ∧ nb1_0 < h.length ∧ getCells h nb2_0 (v2.length * 6) = some (rows (v2 : List TLOp)) ∧ nb2_0 < h.length) (fun h v h2 => i_laws_markStampS nb1_0 v4.a.length h v12 v h2) ?_ ?_ ?_
                    · simp (maxSteps := 2000000) (disch := first|omega|(simp only[ls];first|done|omega)) only [E, hv0, hb1, hv2, hv3, d0_0, hv4, d1_0, d1_1, hv5, hb6, hb7, d2_0, d2_1, d2_2, hv8, hb9, hv10, d3_0, d3_1, d3_2, hb11, hv12, gm] <;> omega
                    · rintro h ⟨c4_0, c4_1, c4_2, c4_3, c4_4, c4_5⟩
                      exact e_laws_markStampS _ _ _ hv12 nb1_0 v4.a.length h (by first | omega | rfl) c4_2
                    · rintro hc4 v hh4 ⟨c4_0, c4_1, c4_2, c4_3, c4_4, c4_5⟩ hpost
                      obtain ⟨kk4, rfl, w4_0⟩ := hpost
                      have d4_0 : getCells hh4 nb0_0 (v2.length * 6) = some (rows (v10.b : List TLOp)) := (keep_get kk4 c4_1 (by first | (simp; done) | (simp; omega))).trans c4_0
                      have d4_0l := keep_lt kk4 c4_1
                      have d4_1 : getCells hh4 nb1_0 (v4.a.length * 2) = some (rows (v12.b : List TStamp)) := w4_0
                      have mm4_0 := len_rows w4_0
                      simp only [zs] at mm4_0
                      have d4_1l := keep_lt kk4 c4_3
                      have d4_2 : getCells hh4 nb2_0 (v2.length * 6) = some (rows (v2 : List TLOp)) := (keep_get kk4 c4_5 (by first | (simp; done) | (simp; omega))).trans c4_4
                      have d4_2l := keep_lt kk4 c4_5
                      obtain ⟨v13, hv13, hp⟩ := bind_eq hp
                      by_cases hb14 : (decide (v13 < 0)) = true
                      · rw [if_t hb14] at hp
                        cases hp
                      · replace hb14 := eq_false_of_ne_true hb14
                        rw [if_f hb14] at hp
                        by_cases hb15 : (decide (v13 = v12.a)) = true
                        · rw [if_t hb15] at hp
                          simp (maxSteps := 2000000) (disch := first|omega|(simp only[ls];first|done|omega)) only [E, hv0, hb1, hv2, hv3, d0_0, hv4, d1_0, d1_1, hv5, hb6, hb7, d2_0, d2_1, d2_2, hv8, hb9, hv10, d3_0, d3_1, d3_2, hb11, hv12, d4_0, d4_1, d4_2, hv13, hb14, hb15, gm]
                          refine call_f (fun h => getCells h nb0_0 (v2.length * 6) = some (rows (v10.b : List TLOp)) ∧ nb0_0 < h.length ∧ getCells h nb1_0 (v4.a.length * 2) = some (rows (v12.b : List TStamp)) ∧ nb1_0 < h.length ∧ getCells h nb2_0 (v2.length * 6) = some (rows (v2 : List TLOp)) ∧ nb2_0 < h.length) (fun h v h2 => oo_laws_toLOpS v2 h v h2) ?_ ?_ ?_
                          · simp (maxSteps := 2000000) (disch := first|omega|(simp only[ls];first|done|omega)) only [E, hv0, hb1, hv2, hv3, d0_0, hv4, d1_0, d1_1, hv5, hb6, hb7, d2_0, d2_1, d2_2, hv8, hb9, hv10, d3_0, d3_1, d3_2, hb11, hv12, d4_0, d4_1, d4_2, hv13, hb14, hb15, gm] <;> omega
                          · rintro h ⟨c5_0, c5_1, c5_2, c5_3, c5_4, c5_5⟩
                            exact e_laws_toLOpS _ _ hv2 h _ (by simp (maxSteps := 2000000) (disch := first|omega|(simp only[ls];first|done|omega)) only [E, hv0, hb1, hv2, hv3, d0_0, hv4, d1_0, d1_1, hv5, hb6, hb7, d2_0, d2_1, d2_2, hv8, hb9, hv10, d3_0, d3_1, d3_2, hb11, hv12, d4_0, d4_1, d4_2, hv13, hb14, hb15, c5_0, c5_1, c5_2, c5_3, c5_4, c5_5, gm])
                          · rintro hc5 v hh5 ⟨c5_0, c5_1, c5_2, c5_3, c5_4, c5_5⟩ hpost
                            obtain ⟨kk5, nb5_0, rfl, lnb5_0, gnb5_0, wnb5_0⟩ := hpost
                            have d5_0 : getCells hh5 nb0_0 (v2.length * 6) = some (rows (v10.b : List TLOp)) := (keep_get kk5 c5_1 (by first | (simp; done) | (simp; omega))).trans c5_0
                            have d5_0l := keep_lt kk5 c5_1
                            have d5_1 : getCells hh5 nb1_0 (v4.a.length * 2) = some (rows (v12.b : List TStamp)) := (keep_get kk5 c5_3 (by first | (simp; done) | (simp; omega))).trans c5_2
                            have d5_1l := keep_lt kk5 c5_3
                            have d5_2 : getCells hh5 nb2_0 (v2.length * 6) = some (rows (v2 : List TLOp)) := (keep_get kk5 c5_5 (by first | (simp; done) | (simp; omega))).trans c5_4
                            have d5_2l := keep_lt kk5 c5_5
                            have d5_3 := wnb5_0
                            simp (maxSteps := 2000000) (disch := first|omega|(simp only[ls];first|done|omega)) only [E, hv0, hb1, hv2, hv3, d0_0, hv4, d1_0, d1_1, hv5, hb6, hb7, d2_0, d2_1, d2_2, hv8, hb9, hv10, d3_0, d3_1, d3_2, hb11, hv12, d4_0, d4_1, d4_2, hv13, hb14, hb15, d5_0, d5_1, d5_2, d5_3, gm]
                            refine call_f (fun h => getCells h nb0_0 (v2.length * 6) = some (rows (v10.b : List TLOp)) ∧ nb0_0 < h.length ∧ getCells h nb1_0 (v4.a.length * 2) = some (rows (v12.b : List TStamp)) ∧ nb1_0 < h.length ∧ getCells h nb2_0 (v2.length * 6) = some (rows (v2 : List TLOp)) ∧ nb2_0 < h.length ∧ getCells h nb5_0 (v2.length * 6) = some (rows (v2 : List TLOp)) ∧ nb5_0 < h.length) (fun h v h2 => oo_impl_ListOrder v4 h v h2) ?_ ?_ ?_
                            · simp (maxSteps := 2000000) (disch := first|omega|(simp only[ls];first|done|omega)) only [E, hv0, hb1, hv2, hv3, d0_0, hv4, d1_0, d1_1, hv5, hb6, hb7, d2_0, d2_1, d2_2, hv8, hb9, hv10, d3_0, d3_1, d3_2, hb11, hv12, d4_0, d4_1, d4_2, hv13, hb14, hb15, d5_0, d5_1, d5_2, d5_3, gm] <;> omega
                            · rintro h ⟨c6_0, c6_1, c6_2, c6_3, c6_4, c6_5, c6_6, c6_7⟩
                              exact e_impl_ListOrder _ _ hv4 h _ (by simp (maxSteps := 2000000) (disch := first|omega|(simp only[ls];first|done|omega)) only [E, hv0, hb1, hv2, hv3, d0_0, hv4, d1_0, d1_1, hv5, hb6, hb7, d2_0, d2_1, d2_2, hv8, hb9, hv10, d3_0, d3_1, d3_2, hb11, hv12, d4_0, d4_1, d4_2, hv13, hb14, hb15, d5_0, d5_1, d5_2, d5_3, c6_0, c6_1, c6_2, c6_3, c6_4, c6_5, c6_6, c6_7, gm])
                            · rintro hc6 v hh6 ⟨c6_0, c6_1, c6_2, c6_3, c6_4, c6_5, c6_6, c6_7⟩ hpost
                              obtain ⟨kk6, nb6_0, rfl, lnb6_0, gnb6_0, wnb6_0⟩ := hpost
                              have d6_0 : getCells hh6 nb0_0 (v2.length * 6) = some (rows (v10.b : List TLOp)) := (keep_get kk6 c6_1 (by first | (simp; done) | (simp; omega))).trans c6_0
                              have d6_0l := keep_lt kk6 c6_1
                              have d6_1 : getCells hh6 nb1_0 (v4.a.length * 2) = some (rows (v12.b : List TStamp)) := (keep_get kk6 c6_3 (by first | (simp; done) | (simp; omega))).trans c6_2
                              have d6_1l := keep_lt kk6 c6_3
                              have d6_2 : getCells hh6 nb2_0 (v2.length * 6) = some (rows (v2 : List TLOp)) := (keep_get kk6 c6_5 (by first | (simp; done) | (simp; omega))).trans c6_4
                              have d6_2l := keep_lt kk6 c6_5
                              have d6_3 : getCells hh6 nb5_0 (v2.length * 6) = some (rows (v2 : List TLOp)) := (keep_get kk6 c6_7 (by first | (simp; done) | (simp; omega))).trans c6_6
                              have d6_3l := keep_lt kk6 c6_7
                              have d6_4 := wnb6_0
                              cases hp
                              simp (maxSteps := 2000000) (disch := first|omega|(simp only[ls];first|done|omega)) only [E, hv0, hb1, hv2, hv3, d0_0, hv4, d1_0, d1_1, hv5, hb6, hb7, d2_0, d2_1, d2_2, hv8, hb9, hv10, d3_0, d3_1, d3_2, hb11, hv12, d4_0, d4_1, d4_2, hv13, hb14, hb15, d5_0, d5_1, d5_2, d5_3, d6_0, d6_1, d6_2, d6_3, d6_4, gm]
                        · replace hb15 := eq_false_of_ne_true hb15
                          rw [if_f hb15] at hp
                          cases hp
              · replace hb9 := eq_false_of_ne_true hb9
                rw [if_f hb9] at hp
                cases hp
          · replace hb7 := eq_false_of_ne_true hb7
            rw [if_f hb7] at hp
            cases hp
        · replace hb6 := eq_false_of_ne_true hb6
          rw [if_f hb6] at hp
          cases hp

end Go.AM
