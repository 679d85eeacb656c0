/- Plain functions of ListMerge and their walks. No condition. -/
import Derived.Test.YtbmeclcmcknbaaaLabPackF
set_option linter.unusedVariables false
set_option linter.unusedSimpArgs false
set_option maxRecDepth 20000
namespace Go.AM
open Pic (enc dec dec_enc dec_sub)
open PicA (encA decA decA_encA decA_sub)
noncomputable def p_laws_szLOpS (x0 : List TLOp) (x1 : Int) : Option Int :=
  if (decide (w64 (x1 - (x0.length : Int)) < 0)) = true then
    some (-1)
  else
    some (w64 (x1 - (x0.length : Int)))
def c_laws_szLOpS : AFn := ⟨12, (.seq (.ops [(qS 4 (.mv (ic 0)))]) (.seq (.ops [(qS 5 (.mv (.tmp 1))), (qS 6 (.mv (.tmp 0))), (qS 7 (.len (.tmp 6))), (qS 8 (.pu (.n (.ar .sub)) [(.tmp 5), (.tmp 7)])), (qS 1 (.mv (.tmp 8)))]) (.seq (.seq (.ops [(qS 9 (.mv (.tmp 1))), (qS 10 (.pu (.n (.ar .lss)) [(.tmp 9), (ic 0)]))]) (.cond (.tmp 10) (.seq (.ops [(qS 4 (.mv (ic (-1))))]) .ret) .skip)) (.seq (.ops [(qS 11 (.mv (.tmp 1))), (qS 4 (.mv (.tmp 11)))]) .ret)))), [(.tmp 4)]⟩
set_option maxHeartbeats 10000000 in
theorem d_laws_szLOpS {P : Program} {env : Env}  (x0 : List TLOp) (x1 : Int) {b : Int} (hp : p_laws_szLOpS x0 x1 = some b) : R P env (c_laws_szLOpS) ((encA (x0, x1)).map ofI) [] (Tells true b) := by
  refine R_of (by simp [c_laws_szLOpS, encA]) ?_
  unfold c_laws_szLOpS
  unfold p_laws_szLOpS at hp
  by_cases hb0 : (decide (w64 (x1 - (x0.length : Int)) < 0)) = true
  · rw [if_t hb0] at hp
    have hp := Option.some.inj hp
    subst hp
    simp (maxSteps := 2000000) (disch := first|omega|(simp only[ls];first|done|omega)) only [hb0, gm]
  · replace hb0 := eq_false_of_ne_true hb0
    rw [if_f hb0] at hp
    have hp := Option.some.inj hp
    subst hp
    simp (maxSteps := 2000000) (disch := first|omega|(simp only[ls];first|done|omega)) only [hb0, gm]

noncomputable def p_laws_toStamp (x0 : TStamp) : Option TStamp :=
  some x0
def c_laws_toStamp : AFn := ⟨11, (.seq (.ops [(qS 1 (.box (.tmp 0))), (qS 2 (.allocV [(0, false), (0, false)] [(.int .i64 0), (.int .i64 0)]))]) (.seq (.ops [(qS 3 (.allocV [(0, false), (0, false)] [(.int .i64 0), (.int .i64 0)]))]) (.seq (.ops [(qS 4 (.fieldA 0 (.tmp 1))), (qS 5 (.load 1 false (.tmp 4))), (qS 6 (.fieldA 0 (.tmp 3))), ⟨.none, (.storeV [(0, false)] 1 (.tmp 6) (.tmp 5)), .none, [], .none⟩]) (.seq (.ops [(qS 7 (.fieldA 1 (.tmp 1))), (qS 8 (.load 1 false (.tmp 7))), (qS 9 (.fieldA 1 (.tmp 3))), ⟨.none, (.storeV [(0, false)] 1 (.tmp 9) (.tmp 8)), .none, [], .none⟩]) (.seq (.ops [(qS 10 (.load 2 true (.tmp 3))), ⟨.none, (.storeV [(0, false), (0, false)] 2 (.tmp 2) (.tmp 10)), .none, [], .none⟩]) .ret))))), [(.cell 2 2 true)]⟩
set_option maxHeartbeats 10000000 in
theorem d_laws_toStamp {P : Program} {env : Env}  (x0 : TStamp) {b : TStamp} (hp : p_laws_toStamp x0 = some b) : R P env (c_laws_toStamp) ((encA (x0)).map ofI) [] (Tells true b) := by
  refine R_of (by simp [c_laws_toStamp, encA]) ?_
  unfold c_laws_toStamp
  unfold p_laws_toStamp at hp
  have hp := Option.some.inj hp
  subst hp
  simp (maxSteps := 2000000) (disch := first|omega|(simp only[ls];first|done|omega)) only [gm]

noncomputable def p_laws_toLOp (x0 : TLOp) : Option TLOp :=
  (p_laws_toStamp x0.id).bind fun v0 =>
  (p_laws_toStamp x0.at_).bind fun v1 =>
  some (TLOp.mk x0.kind x0.char v0 v1)
def c_laws_toLOp (f_laws_toStamp : Nat) : AFn := ⟨19, (.seq (.ops [(qS 1 (.box (.tmp 0))), (qS 2 (.allocV [(0, false), (0, false), (0, false), (0, false), (0, false), (0, false)] [(.int .i64 0), (.int .i64 0), (.int .i64 0), (.int .i64 0), (.int .i64 0), (.int .i64 0)]))]) (.seq (.ops [(qS 3 (.allocV [(0, false), (0, false), (0, false), (0, false), (0, false), (0, false)] [(.int .i64 0), (.int .i64 0), (.int .i64 0), (.int .i64 0), (.int .i64 0), (.int .i64 0)]))]) (.seq (.ops [(qS 4 (.fieldA 0 (.tmp 1))), (qS 5 (.load 1 false (.tmp 4))), (qS 6 (.fieldA 0 (.tmp 3))), ⟨.none, (.storeV [(0, false)] 1 (.tmp 6) (.tmp 5)), .none, [], .none⟩]) (.seq (.ops [(qS 7 (.fieldA 1 (.tmp 1))), (qS 8 (.load 1 false (.tmp 7))), (qS 9 (.fieldA 1 (.tmp 3))), ⟨.none, (.storeV [(0, false)] 1 (.tmp 9) (.tmp 8)), .none, [], .none⟩]) (.seq (.ops [(qS 10 (.fieldA 2 (.tmp 1))), (qS 11 (.load 2 true (.tmp 10))), (qS 12 (.call (2 * f_laws_toStamp) [(.tmp 11)])), (qS 13 (.fieldA 2 (.tmp 3))), ⟨.none, (.storeV [(0, false), (0, false)] 2 (.tmp 13) (.tmp 12)), .none, [], .none⟩]) (.seq (.ops [(qS 14 (.fieldA 4 (.tmp 1))), (qS 15 (.load 2 true (.tmp 14))), (qS 16 (.call (2 * f_laws_toStamp) [(.tmp 15)])), (qS 17 (.fieldA 4 (.tmp 3))), ⟨.none, (.storeV [(0, false), (0, false)] 2 (.tmp 17) (.tmp 16)), .none, [], .none⟩]) (.seq (.ops [(qS 18 (.load 6 true (.tmp 3))), ⟨.none, (.storeV [(0, false), (0, false), (0, false), (0, false), (0, false), (0, false)] 6 (.tmp 2) (.tmp 18)), .none, [], .none⟩]) .ret))))))), [(.cell 2 6 true)]⟩
set_option maxHeartbeats 10000000 in
theorem d_laws_toLOp {P : Program} {env : Env} {f_laws_toStamp : Nat}  (ep_laws_toStamp : env (2 * f_laws_toStamp) = pureFn true (FA fun a : TStamp => p_laws_toStamp a)) (x0 : TLOp) {b : TLOp} (hp : p_laws_toLOp x0 = some b) : R P env (c_laws_toLOp f_laws_toStamp) ((encA (x0)).map ofI) [] (Tells true b) := by
  refine R_of (by simp [c_laws_toLOp, encA]) ?_
  have E := ep_laws_toStamp
  unfold c_laws_toLOp
  unfold p_laws_toLOp at hp
  obtain ⟨v0, hv0, hp⟩ := bind_eq hp
  obtain ⟨v1, hv1, hp⟩ := bind_eq hp
  have hp := Option.some.inj hp
  subst hp
  simp (maxSteps := 2000000) (disch := first|omega|(simp only[ls];first|done|omega)) only [E, hv0, hv1, gm]

noncomputable def p_laws_toLOpS_l0 (x0 : List TLOp) : List TLOp × Int → Option (Lp (List TLOp × Int) (List TLOp))
  | (s1, s2) =>
    if (decide (s2 < (x0.length : Int))) = true then
      (get? x0 s2).bind fun v4 =>
      (p_laws_toLOp v4).bind fun v5 =>
      (get? s1 s2).bind fun v6 =>
      some (.go ((s1.set s2.toNat v5), w64 (s2 + 1)))
    else
      some (.out (s1, s2))
noncomputable def p_laws_toLOpS (x0 : List TLOp) : Option (List TLOp) :=
  ((mkL (x0.length : Int) 48 (x0.length : Int) (TLOp.mk 0 0 (TStamp.mk 0 0) (TStamp.mk 0 0)) : Option (List TLOp))).bind fun v0 =>
  (loopP (p_laws_toLOpS_l0 x0) (v0, 0)).bind fun ee0 => match ee0 with
  | .ret r => some r
  | .out (o8, o9) =>
    some o8
def c_laws_toLOpS (f_laws_toLOp : Nat) : AFn := ⟨23, (.seq (.ops [(qS 2 (.vnil 6 true))]) (.seq (.ops [(qS 5 (.mv (.tmp 0))), (qS 6 (.len (.tmp 5))), (qS 7 (.makeSl 6 true 48 [(.int .i64 0), (.int .i64 0), (.int .i64 0), (.int .i64 0), (.int .i64 0), (.int .i64 0)] (.tmp 6) (.tmp 6))), (qS 3 (.mv (.tmp 7)))]) (.seq (.seq (.ops [(qS 4 (.mv (ic 0)))]) (.block 0 (.loop (.seq (.seq (.ops [(qS 8 (.mv (.tmp 4))), (qS 9 (.mv (.tmp 0))), (qS 10 (.len (.tmp 9))), (qS 11 (.pu (.n (.ar .lss)) [(.tmp 8), (.tmp 10)]))]) (.cond (.tmp 11) .skip (.exit 0))) (.seq (.block 1 (.ops [(qS 14 (.mv (.tmp 3))), (qS 15 (.mv (.tmp 4))), (qS 16 (.mv (.tmp 0))), (qS 17 (.mv (.tmp 4))), (qS 18 (.idxS 6 (.tmp 16) (.tmp 17))), (qS 19 (.load 6 true (.tmp 18))), (qS 20 (.call (2 * f_laws_toLOp) [(.tmp 19)])), (qS 21 (.idxS 6 (.tmp 14) (.tmp 15))), ⟨.none, (.storeV [(0, false), (0, false), (0, false), (0, false), (0, false), (0, false)] 6 (.tmp 21) (.tmp 20)), .none, [], .none⟩])) (.ops [(qS 12 (.mv (.tmp 4))), (qS 13 (.pu (.n (.ar .add)) [(.tmp 12), (ic 1)])), (qS 4 (.mv (.tmp 13)))])))))) (.seq (.ops [(qS 22 (.mv (.tmp 3))), (qS 2 (.mv (.tmp 22)))]) .ret)))), [(.tmp 2)]⟩
set_option maxHeartbeats 10000000 in
theorem d_laws_toLOpS {P : Program} {env : Env} {f_laws_toLOp : Nat}  (ep_laws_toLOp : env (2 * f_laws_toLOp) = pureFn true (FA fun a : TLOp => p_laws_toLOp a)) (x0 : List TLOp) {b : List TLOp} (hp : p_laws_toLOpS x0 = some b) : R P env (c_laws_toLOpS f_laws_toLOp) ((encA (x0)).map ofI) [] (Tells true b) := by
  refine R_of (by simp [c_laws_toLOpS, encA]) ?_
  have E := ep_laws_toLOp
  unfold c_laws_toLOpS
  unfold p_laws_toLOpS at hp
  obtain ⟨v0, hv0, hp⟩ := bind_eq hp
  obtain ⟨kv0, qv0, lv0⟩ := mkL_some hv0
  have rv0 : (List.replicate x0.length [.i (.s (.int .i64 0)), .i (.s (.int .i64 0)), .i (.s (.int .i64 0)), .i (.s (.int .i64 0)), .i (.s (.int .i64 0)), .i (.s (.int .i64 0))]).flatten = rows v0 := by rw [qv0]; exact rows_rep (x := ((TLOp.mk 0 0 (TStamp.mk 0 0) (TStamp.mk 0 0)) : TLOp)) rfl
  have mv0 : x0.length = v0.length := by rw [lv0]; simp
  obtain ⟨ee0, hee0, hp⟩ := bind_eq hp
  simp (maxSteps := 2000000) (disch := first|omega|(simp only[ls];first|done|omega)) only [E, hv0, rv0, kv0.1, kv0.2.1, kv0.2.2.1, kv0.2.2.2, gm]
  refine W_loopP 0 (fun s t h => match s with | (s1, s2) => t 0 = .i (.sl 6 (x0.map enc)) ∧ t 3 = .hsl 1 (x0.length * 6) 0 6 true x0.length ∧ t 4 = .i (.s (.int .i64 s2)) ∧ getCells h 1 (x0.length * 6) = some (rows (s1 : List TLOp)) ∧ 1 < h.length) (RK [.tmp 2] (Tells true)) ?_ hee0 ?_ ?_
  · rintro ⟨s1, s2⟩ ee tt0 hh0 ⟨ftt0_0, ftt0_1, ftt0_2, ftt0_3, ftt0_4⟩ hp
    have ztt0_3 := len_rows ftt0_3
    simp only [zs] at ztt0_3
    rw [p_laws_toLOpS_l0] at hp
    by_cases hb3 : (decide (s2 < (x0.length : Int))) = true
    · rw [if_t hb3] at hp
      obtain ⟨v4, hv4, hp⟩ := bind_eq hp
      obtain ⟨v5, hv5, hp⟩ := bind_eq hp
      obtain ⟨v6, hv6, hp⟩ := bind_eq hp
      have gv6 := get_some hv6
      have hs7 : List.take (s2.toNat * 6) (rows s1) ++ .i (.s (.int .i64 v5.kind)) :: .i (.s (.int .i64 v5.char)) :: .i (.s (.int .i64 v5.id.time)) :: .i (.s (.int .i64 v5.id.actor)) :: .i (.s (.int .i64 v5.at_.time)) :: .i (.s (.int .i64 v5.at_.actor)) :: List.drop (s2.toNat * 6 + 6) (rows s1) = rows (s1.set s2.toNat v5) := by simpa [splice, zs, cellsV, I.cells, enc_TLOp] using rows_set_off (y := v5) (ys := [.i (.s (.int .i64 v5.kind)), .i (.s (.int .i64 v5.char)), .i (.s (.int .i64 v5.id.time)), .i (.s (.int .i64 v5.id.actor)), .i (.s (.int .i64 v5.at_.time)), .i (.s (.int .i64 v5.at_.actor))]) (k := 0) gv6.2.2 (Nat.le_of_ble_eq_true rfl) (by rfl)
      have hp := Option.some.inj hp
      subst hp
      simp (maxSteps := 2000000) (disch := first|omega|(simp only[ls];first|done|omega)) only [E, hv0, rv0, kv0.1, kv0.2.1, kv0.2.2.1, kv0.2.2.2, ftt0_0, ftt0_1, ftt0_2, ftt0_3, ftt0_4, hb3, hv4, hv5, hv6, (gv6).1, (gv6).2.1, hs7, gm] <;> omega
    · replace hb3 := eq_false_of_ne_true hb3
      rw [if_f hb3] at hp
      have hp := Option.some.inj hp
      subst hp
      simp (maxSteps := 2000000) (disch := first|omega|(simp only[ls];first|done|omega)) only [E, hv0, rv0, kv0.1, kv0.2.1, kv0.2.2.1, kv0.2.2.2, ftt0_0, ftt0_1, ftt0_2, ftt0_3, ftt0_4, hb3, gm] <;> omega
  · simp (maxSteps := 2000000) (disch := first|omega|(simp only[ls];first|done|omega)) only [E, hv0, rv0, kv0.1, kv0.2.1, kv0.2.2.1, kv0.2.2.2, gm] <;> omega
  · intro x tt1 hh1 hx
    rcases ee0 with ⟨o8, o9⟩ | r
    · obtain ⟨rfl, ftt1_0, ftt1_1, ftt1_2, ftt1_3, ftt1_4⟩ := hx
      have ztt1_3 := len_rows ftt1_3
      simp only [zs] at ztt1_3
      dsimp only at hp
      have hp := Option.some.inj hp
      subst hp
      simp (maxSteps := 2000000) (disch := first|omega|(simp only[ls];first|done|omega)) only [E, hv0, rv0, kv0.1, kv0.2.1, kv0.2.2.1, kv0.2.2.2, ftt1_0, ftt1_1, ftt1_2, ftt1_3, ftt1_4, gm]
    · obtain ⟨rfl, hx⟩ := hx
      dsimp only at hp
      cases hp
      simp only [seqK_ret, blockK_ret, retK_RK (K := Tells true), hx, and_self, true_and]

def o_laws_toLOpS (b : List TLOp) (v : V) (h : Heap) : Prop := ∃ n0 : Nat, v = .hsl n0 (b.length * 6) 0 6 true b.length ∧ getCells h n0 (b.length * 6) = some (rows b)
def oo_laws_toLOpS (b : List TLOp) (h : Heap) (v : V) (h2 : Heap) : Prop := Keep [] h h2 ∧ ∃ n0 : Nat, v = .hsl n0 (b.length * 6) 0 6 true b.length ∧ n0 < h2.length ∧ h.length ≤ n0 ∧ getCells h2 n0 (b.length * 6) = some (rows b)
def k_laws_toLOpS (F : Fun) : Prop := ∀ (x0 : List TLOp) (b : List TLOp), p_laws_toLOpS x0 = some b → ∀ (h : Heap) (args : List V), snapA 9 false h args = some (encA (x0)) → ∃ p, F none args h = some p ∧ oo_laws_toLOpS b h p.1 p.2
set_option maxHeartbeats 10000000 in
theorem w_laws_toLOpS {P : Program} {env : Env} {f_laws_toLOp : Nat}  (ep_laws_toLOp : env (2 * f_laws_toLOp) = pureFn true (FA fun a : TLOp => p_laws_toLOp a)) (x0 : List TLOp) {b : List TLOp} (hp : p_laws_toLOpS x0 = some b) : R P env (c_laws_toLOpS f_laws_toLOp) ((encA (x0)).map ofI) [] (o_laws_toLOpS b) := by
  refine R_of (by simp [c_laws_toLOpS, encA]) ?_
  have E := ep_laws_toLOp
  unfold c_laws_toLOpS
  unfold p_laws_toLOpS at hp
  obtain ⟨v0, hv0, hp⟩ := bind_eq hp
  obtain ⟨kv0, qv0, lv0⟩ := mkL_some hv0
  have rv0 : (List.replicate x0.length [.i (.s (.int .i64 0)), .i (.s (.int .i64 0)), .i (.s (.int .i64 0)), .i (.s (.int .i64 0)), .i (.s (.int .i64 0)), .i (.s (.int .i64 0))]).flatten = rows v0 := by rw [qv0]; exact rows_rep (x := ((TLOp.mk 0 0 (TStamp.mk 0 0) (TStamp.mk 0 0)) : TLOp)) rfl
  have mv0 : x0.length = v0.length := by rw [lv0]; simp
  obtain ⟨ee0, hee0, hp⟩ := bind_eq hp
  simp (maxSteps := 2000000) (disch := first|omega|(simp only[ls];first|done|omega)) only [E, hv0, rv0, kv0.1, kv0.2.1, kv0.2.2.1, kv0.2.2.2, gm]
  refine W_loopP 0 (fun s t h => match s with | (s1, s2) => t 0 = .i (.sl 6 (x0.map enc)) ∧ t 3 = .hsl 1 (x0.length * 6) 0 6 true x0.length ∧ t 4 = .i (.s (.int .i64 s2)) ∧ getCells h 1 (x0.length * 6) = some (rows (s1 : List TLOp)) ∧ 1 < h.length) (RK [.tmp 2] (o_laws_toLOpS)) ?_ hee0 ?_ ?_
  · rintro ⟨s1, s2⟩ ee tt0 hh0 ⟨ftt0_0, ftt0_1, ftt0_2, ftt0_3, ftt0_4⟩ hp
    have ztt0_3 := len_rows ftt0_3
    simp only [zs] at ztt0_3
    rw [p_laws_toLOpS_l0] at hp
    by_cases hb3 : (decide (s2 < (x0.length : Int))) = true
    · rw [if_t hb3] at hp
      obtain ⟨v4, hv4, hp⟩ := bind_eq hp
      obtain ⟨v5, hv5, hp⟩ := bind_eq hp
      obtain ⟨v6, hv6, hp⟩ := bind_eq hp
      have gv6 := get_some hv6
      have hs7 : List.take (s2.toNat * 6) (rows s1) ++ .i (.s (.int .i64 v5.kind)) :: .i (.s (.int .i64 v5.char)) :: .i (.s (.int .i64 v5.id.time)) :: .i (.s (.int .i64 v5.id.actor)) :: .i (.s (.int .i64 v5.at_.time)) :: .i (.s (.int .i64 v5.at_.actor)) :: List.drop (s2.toNat * 6 + 6) (rows s1) = rows (s1.set s2.toNat v5) := by simpa [splice, zs, cellsV, I.cells, enc_TLOp] using rows_set_off (y := v5) (ys := [.i (.s (.int .i64 v5.kind)), .i (.s (.int .i64 v5.char)), .i (.s (.int .i64 v5.id.time)), .i (.s (.int .i64 v5.id.actor)), .i (.s (.int .i64 v5.at_.time)), .i (.s (.int .i64 v5.at_.actor))]) (k := 0) gv6.2.2 (Nat.le_of_ble_eq_true rfl) (by rfl)
      have hp := Option.some.inj hp
      subst hp
      simp (maxSteps := 2000000) (disch := first|omega|(simp only[ls];first|done|omega)) only [E, hv0, rv0, kv0.1, kv0.2.1, kv0.2.2.1, kv0.2.2.2, ftt0_0, ftt0_1, ftt0_2, ftt0_3, ftt0_4, hb3, hv4, hv5, hv6, (gv6).1, (gv6).2.1, hs7, gm] <;> omega
    · replace hb3 := eq_false_of_ne_true hb3
      rw [if_f hb3] at hp
      have hp := Option.some.inj hp
      subst hp
      simp (maxSteps := 2000000) (disch := first|omega|(simp only[ls];first|done|omega)) only [E, hv0, rv0, kv0.1, kv0.2.1, kv0.2.2.1, kv0.2.2.2, ftt0_0, ftt0_1, ftt0_2, ftt0_3, ftt0_4, hb3, gm] <;> omega
  · simp (maxSteps := 2000000) (disch := first|omega|(simp only[ls];first|done|omega)) only [E, hv0, rv0, kv0.1, kv0.2.1, kv0.2.2.1, kv0.2.2.2, gm] <;> omega
  · intro x tt1 hh1 hx
    rcases ee0 with ⟨o8, o9⟩ | r
    · obtain ⟨rfl, ftt1_0, ftt1_1, ftt1_2, ftt1_3, ftt1_4⟩ := hx
      have ztt1_3 := len_rows ftt1_3
      simp only [zs] at ztt1_3
      dsimp only at hp
      have hp := Option.some.inj hp
      subst hp
      simp (maxSteps := 2000000) (disch := first|omega|(simp only[ls];first|done|omega)) only [E, hv0, rv0, kv0.1, kv0.2.1, kv0.2.2.1, kv0.2.2.2, ftt1_0, ftt1_1, ftt1_2, ftt1_3, ftt1_4, gm]
      refine ⟨1, ?_⟩
      simp (maxSteps := 2000000) (disch := first|omega|(simp only[ls];first|done|omega)) only [E, hv0, rv0, kv0.1, kv0.2.1, kv0.2.2.1, kv0.2.2.2, ftt1_0, ftt1_1, ftt1_2, ftt1_3, ftt1_4, o_laws_toLOpS, (show (o8).length = x0.length from by first | omega | rfl | (simp; done) | (simp; omega)), gm] <;> omega
    · obtain ⟨rfl, hx⟩ := hx
      dsimp only at hp
      cases hp
      simp only [seqK_ret, blockK_ret, retK_RK (K := o_laws_toLOpS), hx, and_self, true_and]
theorem ko_laws_toLOpS {P : Program} {env : Env} {f_laws_toLOp : Nat}  (ep_laws_toLOp : env (2 * f_laws_toLOp) = pureFn true (FA fun a : TLOp => p_laws_toLOp a)) : k_laws_toLOpS (ownFn P env (c_laws_toLOpS f_laws_toLOp)) := by
  intro x0 b hp h args has
  obtain ⟨⟨v, H2⟩, hr, n0, rfl, wn0⟩ := w_laws_toLOpS ep_laws_toLOp x0 hp
  exact ⟨_, own_call has hr rfl, keep_moved, n0 + h.length, rfl, (moved_lt wn0).2, (moved_lt wn0).1, moved_rows wn0⟩

noncomputable def p_spec_ListMerge_l0 (v0 : T2 (List TLOp) Int) : List TLOp × Int → Option (Lp (List TLOp × Int) (T2 (List TLOp) Int))
  | (s4, s5) =>
    if (decide (s5 < (v0.a.length : Int))) = true then
      (get? v0.a s5).bind fun v7 =>
      (app? 48 s4 ([v7])).bind fun v8 =>
      some (.go (v8, w64 (s5 + 1)))
    else
      some (.out (s4, s5))
noncomputable def p_spec_ListMerge_l2 (v0 : T2 (List TLOp) Int) (v2 : T2 (List TLOp) Int) (s12 : Int) : Bool × Int → Option (Lp (Bool × Int) (T2 (List TLOp) Int))
  | (s14, s15) =>
    if (decide (s15 < (v0.a.length : Int))) = true then
      if (s14) = true then
        some (.out (s14, s15))
      else
        (get? v0.a s15).bind fun v18 =>
        (get? v2.a s12).bind fun v19 =>
        some (.go ((decide (v18.kind = v19.kind) && (decide (v18.char = v19.char) && (decide (v18.id.time = v19.id.time) && (decide (v18.id.actor = v19.id.actor) && (decide (v18.at_.time = v19.at_.time) && decide (v18.at_.actor = v19.at_.actor)))))), w64 (s15 + 1)))
    else
      some (.out (s14, s15))
noncomputable def p_spec_ListMerge_l3 (v0 : T2 (List TLOp) Int) (v2 : T2 (List TLOp) Int) : List TLOp × Int → Option (Lp (List TLOp × Int) (T2 (List TLOp) Int))
  | (s11, s12) =>
    if (decide (s12 < (v2.a.length : Int))) = true then
      (loopP (p_spec_ListMerge_l2 v0 v2 s12) (false, 0)).bind fun ee2 => match ee2 with
      | .ret r => some (.ret r)
      | .out (o20, o21) =>
        if (o20) = true then
          some (.go (s11, w64 (s12 + 1)))
        else
          (get? v2.a s12).bind fun v23 =>
          (app? 48 s11 ([v23])).bind fun v24 =>
          some (.go (v24, w64 (s12 + 1)))
    else
      some (.out (s11, s12))
noncomputable def p_spec_ListMerge (x0 : List TLOp) (x1 : List TLOp) : Option (T2 (List TLOp) Int) :=
  (p_spec_l04Clean x0).bind fun v0 =>
  if (decide (v0.b = 0)) = true then
    (p_spec_l04Clean x1).bind fun v2 =>
    if (decide (v2.b = 0)) = true then
      (loopP (p_spec_ListMerge_l0 v0) (([] : List TLOp), 0)).bind fun ee0 => match ee0 with
      | .ret r => some r
      | .out (o9, o10) =>
        (loopP (p_spec_ListMerge_l3 v0 v2) (o9, 0)).bind fun ee3 => match ee3 with
        | .ret r => some r
        | .out (o25, o26) =>
          (p_spec_l04Clean o25).bind fun v27 =>
          some ⟨v27.a, v27.b⟩
    else
      some ⟨[], v2.b⟩
  else
    some ⟨[], v0.b⟩
def c_spec_ListMerge (f_spec_l04Clean : Nat) : AFn := ⟨84, (.seq (.ops [(qS 4 (.vnil 6 true)), (qS 5 (.mv (ic 0)))]) (.seq (.ops [(qS 15 (.mv (.tmp 0))), (qS 16 (.call (2 * f_spec_l04Clean) [(.tmp 15)])), (qS 14 (.mv (.tmp 16))), (qS 17 (.extract 0 (.tmp 14))), (qS 18 (.extract 1 (.tmp 14))), (qS 6 (.mv (.tmp 17))), (qS 7 (.mv (.tmp 18)))]) (.seq (.seq (.ops [(qS 19 (.mv (.tmp 7))), (qS 20 (.pu (.n (.ar .neq)) [(.tmp 19), (ic 0)]))]) (.cond (.tmp 20) (.seq (.ops [(qS 21 (.buildSl 6 true 0 [(.int .i64 0), (.int .i64 0), (.int .i64 0), (.int .i64 0), (.int .i64 0), (.int .i64 0)] [])), (qS 22 (.mv (.tmp 7))), (qS 4 (.mv (.tmp 21))), (qS 5 (.mv (.tmp 22)))]) .ret) .skip)) (.seq (.ops [(qS 24 (.mv (.tmp 1))), (qS 25 (.call (2 * f_spec_l04Clean) [(.tmp 24)])), (qS 23 (.mv (.tmp 25))), (qS 26 (.extract 0 (.tmp 23))), (qS 27 (.extract 1 (.tmp 23))), (qS 8 (.mv (.tmp 26))), (qS 7 (.mv (.tmp 27)))]) (.seq (.seq (.ops [(qS 28 (.mv (.tmp 7))), (qS 29 (.pu (.n (.ar .neq)) [(.tmp 28), (ic 0)]))]) (.cond (.tmp 29) (.seq (.ops [(qS 30 (.buildSl 6 true 0 [(.int .i64 0), (.int .i64 0), (.int .i64 0), (.int .i64 0), (.int .i64 0), (.int .i64 0)] [])), (qS 31 (.mv (.tmp 7))), (qS 4 (.mv (.tmp 30))), (qS 5 (.mv (.tmp 31)))]) .ret) .skip)) (.seq (.ops [(qS 32 (.buildSl 6 true 0 [(.int .i64 0), (.int .i64 0), (.int .i64 0), (.int .i64 0), (.int .i64 0), (.int .i64 0)] [])), (qS 9 (.mv (.tmp 32)))]) (.seq (.seq (.ops [(qS 10 (.mv (ic 0)))]) (.block 0 (.loop (.seq (.seq (.ops [(qS 33 (.mv (.tmp 10))), (qS 34 (.mv (.tmp 6))), (qS 35 (.len (.tmp 34))), (qS 36 (.pu (.n (.ar .lss)) [(.tmp 33), (.tmp 35)]))]) (.cond (.tmp 36) .skip (.exit 0))) (.seq (.block 1 (.ops [(qS 39 (.mv (.tmp 9))), (qS 40 (.mv (.tmp 6))), (qS 41 (.mv (.tmp 10))), (qS 42 (.idxS 6 (.tmp 40) (.tmp 41))), (qS 43 (.load 6 true (.tmp 42))), (qS 44 (.buildSl 6 true 1 [(.int .i64 0), (.int .i64 0), (.int .i64 0), (.int .i64 0), (.int .i64 0), (.int .i64 0)] [(0, (.tmp 43))])), (qS 45 (.append 6 true 48 (.tmp 39) (.tmp 44))), (qS 9 (.mv (.tmp 45)))])) (.ops [(qS 37 (.mv (.tmp 10))), (qS 38 (.pu (.n (.ar .add)) [(.tmp 37), (ic 1)])), (qS 10 (.mv (.tmp 38)))])))))) (.seq (.seq (.ops [(qS 11 (.mv (ic 0)))]) (.block 2 (.loop (.seq (.seq (.ops [(qS 46 (.mv (.tmp 11))), (qS 47 (.mv (.tmp 8))), (qS 48 (.len (.tmp 47))), (qS 49 (.pu (.n (.ar .lss)) [(.tmp 46), (.tmp 48)]))]) (.cond (.tmp 49) .skip (.exit 2))) (.seq (.block 3 (.seq (.ops [(qS 12 (.mv (.const (.bool false))))]) (.seq (.seq (.ops [(qS 13 (.mv (ic 0)))]) (.block 4 (.loop (.seq (.seq (.ops [(qS 52 (.mv (.tmp 13))), (qS 53 (.mv (.tmp 6))), (qS 54 (.len (.tmp 53))), (qS 55 (.pu (.n (.ar .lss)) [(.tmp 52), (.tmp 54)])), (qS 56 (.mv (.tmp 55))), ⟨(.some 57), (.mv (.tmp 12)), (.some (56, true)), [], .none⟩, ⟨(.some 58), (.pu (.n (.un .not)) [(.tmp 57)]), (.some (56, true)), [], .none⟩, (qS 59 (.pick (.tmp 56) (.tmp 58) (.const (.bool false))))]) (.cond (.tmp 59) .skip (.exit 4))) (.seq (.block 5 (.ops [(qS 62 (.mv (.tmp 6))), (qS 63 (.mv (.tmp 13))), (qS 64 (.idxS 6 (.tmp 62) (.tmp 63))), (qS 65 (.load 6 true (.tmp 64))), (qS 66 (.mv (.tmp 8))), (qS 67 (.mv (.tmp 11))), (qS 68 (.idxS 6 (.tmp 66) (.tmp 67))), (qS 69 (.load 6 true (.tmp 68))), (qS 70 (.aeq false [(.int .i64), (.int .i64), (.int .i64), (.int .i64), (.int .i64), (.int .i64)] (.tmp 65) (.tmp 69))), (qS 12 (.mv (.tmp 70)))])) (.ops [(qS 60 (.mv (.tmp 13))), (qS 61 (.pu (.n (.ar .add)) [(.tmp 60), (ic 1)])), (qS 13 (.mv (.tmp 61)))])))))) (.seq (.ops [(qS 71 (.mv (.tmp 12))), (qS 72 (.pu (.n (.un .not)) [(.tmp 71)]))]) (.cond (.tmp 72) (.ops [(qS 73 (.mv (.tmp 9))), (qS 74 (.mv (.tmp 8))), (qS 75 (.mv (.tmp 11))), (qS 76 (.idxS 6 (.tmp 74) (.tmp 75))), (qS 77 (.load 6 true (.tmp 76))), (qS 78 (.buildSl 6 true 1 [(.int .i64 0), (.int .i64 0), (.int .i64 0), (.int .i64 0), (.int .i64 0), (.int .i64 0)] [(0, (.tmp 77))])), (qS 79 (.append 6 true 48 (.tmp 73) (.tmp 78))), (qS 9 (.mv (.tmp 79)))]) .skip))))) (.ops [(qS 50 (.mv (.tmp 11))), (qS 51 (.pu (.n (.ar .add)) [(.tmp 50), (ic 1)])), (qS 11 (.mv (.tmp 51)))])))))) (.seq (.ops [(qS 80 (.mv (.tmp 9))), (qS 81 (.call (2 * f_spec_l04Clean) [(.tmp 80)])), (qS 82 (.extract 0 (.tmp 81))), (qS 83 (.extract 1 (.tmp 81))), (qS 4 (.mv (.tmp 82))), (qS 5 (.mv (.tmp 83)))]) .ret))))))))), [(.tmp 4), (.tmp 5)]⟩
set_option maxHeartbeats 10000000 in
theorem d_spec_ListMerge {P : Program} {env : Env} {f_spec_l04Clean : Nat}  (ep_spec_l04Clean : env (2 * f_spec_l04Clean) = pureFn true (FA fun a : List TLOp => p_spec_l04Clean a)) (x0 : List TLOp) (x1 : List TLOp) {b : T2 (List TLOp) Int} (hp : p_spec_ListMerge x0 x1 = some b) : R P env (c_spec_ListMerge f_spec_l04Clean) ((encA (x0, x1)).map ofI) [] (Tells false b) := by
  refine R_of (by simp [c_spec_ListMerge, encA]) ?_
  have E := ep_spec_l04Clean
  unfold c_spec_ListMerge
  unfold p_spec_ListMerge at hp
  obtain ⟨v0, hv0, hp⟩ := bind_eq hp
  by_cases hb1 : (decide (v0.b = 0)) = true
  · rw [if_t hb1] at hp
    obtain ⟨v2, hv2, hp⟩ := bind_eq hp
    by_cases hb3 : (decide (v2.b = 0)) = true
    · rw [if_t hb3] at hp
      obtain ⟨ee0, hee0, hp⟩ := bind_eq hp
      simp (maxSteps := 2000000) (disch := first|omega|(simp only[ls];first|done|omega)) only [E, hv0, hb1, hv2, hb3, gm]
      refine W_loopP 0 (fun s t h => match s with | (s4, s5) => t 6 = .i (.sl 6 (v0.a.map enc)) ∧ t 8 = .i (.sl 6 (v2.a.map enc)) ∧ t 9 = .hsl 1 (s4.length * 6) 0 6 true s4.length ∧ t 10 = .i (.s (.int .i64 s5)) ∧ getCells h 1 (s4.length * 6) = some (rows (s4 : List TLOp)) ∧ 1 < h.length) (RK [.tmp 4, .tmp 5] (Tells false)) ?_ hee0 ?_ ?_
      · rintro ⟨s4, s5⟩ ee tt0 hh0 ⟨ftt0_0, ftt0_1, ftt0_2, ftt0_3, ftt0_4, ftt0_5⟩ hp
        rw [p_spec_ListMerge_l0] at hp
        by_cases hb6 : (decide (s5 < (v0.a.length : Int))) = true
        · rw [if_t hb6] at hp
          obtain ⟨v7, hv7, hp⟩ := bind_eq hp
          obtain ⟨v8, hv8, hp⟩ := bind_eq hp
          obtain ⟨kv8, qv8, lv8⟩ := app_some hv8
          have rv8 : rows s4 ++ [.i (.s (.int .i64 v7.kind)), .i (.s (.int .i64 v7.char)), .i (.s (.int .i64 v7.id.time)), .i (.s (.int .i64 v7.id.actor)), .i (.s (.int .i64 v7.at_.time)), .i (.s (.int .i64 v7.at_.actor))] = rows v8 := by rw [qv8, rows_append]; rfl
          have mv8 : s4.length + 1 = v8.length := by simp at lv8; omega
          have nv8 : (s4.length + 1) * 48 ≤ 140737488355328 := by simp at kv8; omega
          have hp := Option.some.inj hp
          subst hp
          simp (maxSteps := 2000000) (disch := first|omega|(simp only[ls];first|done|omega)) only [E, hv0, hb1, hv2, hb3, ftt0_0, ftt0_1, ftt0_2, ftt0_3, ftt0_4, ftt0_5, hb6, hv7, hv8, rv8, nv8, gm] <;> omega
        · replace hb6 := eq_false_of_ne_true hb6
          rw [if_f hb6] at hp
          have hp := Option.some.inj hp
          subst hp
          simp (maxSteps := 2000000) (disch := first|omega|(simp only[ls];first|done|omega)) only [E, hv0, hb1, hv2, hb3, ftt0_0, ftt0_1, ftt0_2, ftt0_3, ftt0_4, ftt0_5, hb6, gm] <;> omega
      · simp (maxSteps := 2000000) (disch := first|omega|(simp only[ls];first|done|omega)) only [E, hv0, hb1, hv2, hb3, gm] <;> omega
      · intro x tt1 hh1 hx
        rcases ee0 with ⟨o9, o10⟩ | r
        · obtain ⟨rfl, ftt1_0, ftt1_1, ftt1_2, ftt1_3, ftt1_4, ftt1_5⟩ := hx
          dsimp only at hp
          obtain ⟨ee3, hee3, hp⟩ := bind_eq hp
          simp (maxSteps := 2000000) (disch := first|omega|(simp only[ls];first|done|omega)) only [E, hv0, hb1, hv2, hb3, ftt1_0, ftt1_1, ftt1_2, ftt1_3, ftt1_4, ftt1_5, gm]
          refine W_loopP 2 (fun s t h => match s with | (s11, s12) => t 6 = .i (.sl 6 (v0.a.map enc)) ∧ t 8 = .i (.sl 6 (v2.a.map enc)) ∧ t 9 = .hsl 1 (s11.length * 6) 0 6 true s11.length ∧ t 11 = .i (.s (.int .i64 s12)) ∧ getCells h 1 (s11.length * 6) = some (rows (s11 : List TLOp)) ∧ 1 < h.length) (RK [.tmp 4, .tmp 5] (Tells false)) ?_ hee3 ?_ ?_
          · rintro ⟨s11, s12⟩ ee tt2 hh2 ⟨ftt2_0, ftt2_1, ftt2_2, ftt2_3, ftt2_4, ftt2_5⟩ hp
            rw [p_spec_ListMerge_l3] at hp
            by_cases hb13 : (decide (s12 < (v2.a.length : Int))) = true
            · rw [if_t hb13] at hp
              obtain ⟨ee2, hee2, hp⟩ := bind_eq hp
              simp (maxSteps := 2000000) (disch := first|omega|(simp only[ls];first|done|omega)) only [E, hv0, hb1, hv2, hb3, ftt1_0, ftt1_1, ftt1_2, ftt1_3, ftt1_4, ftt1_5, ftt2_0, ftt2_1, ftt2_2, ftt2_3, ftt2_4, ftt2_5, hb13, gm]
              refine W_loopP 4 (fun s t h => match s with | (s14, s15) => t 6 = .i (.sl 6 (v0.a.map enc)) ∧ t 8 = .i (.sl 6 (v2.a.map enc)) ∧ t 9 = .hsl 1 (s11.length * 6) 0 6 true s11.length ∧ t 11 = .i (.s (.int .i64 s12)) ∧ t 12 = .i (.s (.bool s14)) ∧ t 13 = .i (.s (.int .i64 s15)) ∧ getCells h 1 (s11.length * 6) = some (rows (s11 : List TLOp)) ∧ 1 < h.length) (RK [.tmp 4, .tmp 5] (Tells false)) ?_ hee2 ?_ ?_
              · rintro ⟨s14, s15⟩ ee tt3 hh3 ⟨ftt3_0, ftt3_1, ftt3_2, ftt3_3, ftt3_4, ftt3_5, ftt3_6, ftt3_7⟩ hp
                rw [p_spec_ListMerge_l2] at hp
                by_cases hb16 : (decide (s15 < (v0.a.length : Int))) = true
                · rw [if_t hb16] at hp
                  by_cases hb17 : (s14) = true
                  · rw [if_t hb17] at hp
                    have hp := Option.some.inj hp
                    subst hp
                    simp (maxSteps := 2000000) (disch := first|omega|(simp only[ls];first|done|omega)) only [E, hv0, hb1, hv2, hb3, ftt1_0, ftt1_1, ftt1_2, ftt1_3, ftt1_4, ftt1_5, ftt2_0, ftt2_1, ftt2_2, ftt2_3, ftt2_4, ftt2_5, hb13, ftt3_0, ftt3_1, ftt3_2, ftt3_3, ftt3_4, ftt3_5, ftt3_6, ftt3_7, hb16, hb17, gm] <;> omega
                  · replace hb17 := eq_false_of_ne_true hb17
                    rw [if_f hb17] at hp
                    obtain ⟨v18, hv18, hp⟩ := bind_eq hp
                    obtain ⟨v19, hv19, hp⟩ := bind_eq hp
                    have hp := Option.some.inj hp
                    subst hp
                    simp (maxSteps := 2000000) (disch := first|omega|(simp only[ls];first|done|omega)) only [E, hv0, hb1, hv2, hb3, ftt1_0, ftt1_1, ftt1_2, ftt1_3, ftt1_4, ftt1_5, ftt2_0, ftt2_1, ftt2_2, ftt2_3, ftt2_4, ftt2_5, hb13, ftt3_0, ftt3_1, ftt3_2, ftt3_3, ftt3_4, ftt3_5, ftt3_6, ftt3_7, hb16, hb17, hv18, hv19, gm] <;> omega
                · replace hb16 := eq_false_of_ne_true hb16
                  rw [if_f hb16] at hp
                  have hp := Option.some.inj hp
                  subst hp
                  simp (maxSteps := 2000000) (disch := first|omega|(simp only[ls];first|done|omega)) only [E, hv0, hb1, hv2, hb3, ftt1_0, ftt1_1, ftt1_2, ftt1_3, ftt1_4, ftt1_5, ftt2_0, ftt2_1, ftt2_2, ftt2_3, ftt2_4, ftt2_5, hb13, ftt3_0, ftt3_1, ftt3_2, ftt3_3, ftt3_4, ftt3_5, ftt3_6, ftt3_7, hb16, gm] <;> omega
              · simp (maxSteps := 2000000) (disch := first|omega|(simp only[ls];first|done|omega)) only [E, hv0, hb1, hv2, hb3, ftt1_0, ftt1_1, ftt1_2, ftt1_3, ftt1_4, ftt1_5, ftt2_0, ftt2_1, ftt2_2, ftt2_3, ftt2_4, ftt2_5, hb13, gm] <;> omega
              · intro x tt4 hh4 hx
                rcases ee2 with ⟨o20, o21⟩ | r
                · obtain ⟨rfl, ftt4_0, ftt4_1, ftt4_2, ftt4_3, ftt4_4, ftt4_5, ftt4_6, ftt4_7⟩ := hx
                  dsimp only at hp
                  by_cases hb22 : (o20) = true
                  · rw [if_t hb22] at hp
                    have hp := Option.some.inj hp
                    subst hp
                    simp (maxSteps := 2000000) (disch := first|omega|(simp only[ls];first|done|omega)) only [E, hv0, hb1, hv2, hb3, ftt1_0, ftt1_1, ftt1_2, ftt1_3, ftt1_4, ftt1_5, ftt2_0, ftt2_1, ftt2_2, ftt2_3, ftt2_4, ftt2_5, hb13, ftt4_0, ftt4_1, ftt4_2, ftt4_3, ftt4_4, ftt4_5, ftt4_6, ftt4_7, hb22, gm] <;> omega
                  · replace hb22 := eq_false_of_ne_true hb22
                    rw [if_f hb22] at hp
                    obtain ⟨v23, hv23, hp⟩ := bind_eq hp
                    obtain ⟨v24, hv24, hp⟩ := bind_eq hp
                    obtain ⟨kv24, qv24, lv24⟩ := app_some hv24
                    have rv24 : rows s11 ++ [.i (.s (.int .i64 v23.kind)), .i (.s (.int .i64 v23.char)), .i (.s (.int .i64 v23.id.time)), .i (.s (.int .i64 v23.id.actor)), .i (.s (.int .i64 v23.at_.time)), .i (.s (.int .i64 v23.at_.actor))] = rows v24 := by rw [qv24, rows_append]; rfl
                    have mv24 : s11.length + 1 = v24.length := by simp at lv24; omega
                    have nv24 : (s11.length + 1) * 48 ≤ 140737488355328 := by simp at kv24; omega
                    have hp := Option.some.inj hp
                    subst hp
                    simp (maxSteps := 2000000) (disch := first|omega|(simp only[ls];first|done|omega)) only [E, hv0, hb1, hv2, hb3, ftt1_0, ftt1_1, ftt1_2, ftt1_3, ftt1_4, ftt1_5, ftt2_0, ftt2_1, ftt2_2, ftt2_3, ftt2_4, ftt2_5, hb13, ftt4_0, ftt4_1, ftt4_2, ftt4_3, ftt4_4, ftt4_5, ftt4_6, ftt4_7, hb22, hv23, hv24, rv24, nv24, gm] <;> omega
                · obtain ⟨rfl, hx⟩ := hx
                  dsimp only at hp
                  cases hp
                  simp only [seqK_ret, blockK_ret, retK_RK (K := Tells false), hx, and_self, true_and]
            · replace hb13 := eq_false_of_ne_true hb13
              rw [if_f hb13] at hp
              have hp := Option.some.inj hp
              subst hp
              simp (maxSteps := 2000000) (disch := first|omega|(simp only[ls];first|done|omega)) only [E, hv0, hb1, hv2, hb3, ftt1_0, ftt1_1, ftt1_2, ftt1_3, ftt1_4, ftt1_5, ftt2_0, ftt2_1, ftt2_2, ftt2_3, ftt2_4, ftt2_5, hb13, gm] <;> omega
          · simp (maxSteps := 2000000) (disch := first|omega|(simp only[ls];first|done|omega)) only [E, hv0, hb1, hv2, hb3, ftt1_0, ftt1_1, ftt1_2, ftt1_3, ftt1_4, ftt1_5, gm] <;> omega
          · intro x tt5 hh5 hx
            rcases ee3 with ⟨o25, o26⟩ | r
            · obtain ⟨rfl, ftt5_0, ftt5_1, ftt5_2, ftt5_3, ftt5_4, ftt5_5⟩ := hx
              dsimp only at hp
              obtain ⟨v27, hv27, hp⟩ := bind_eq hp
              have hp := Option.some.inj hp
              subst hp
              simp (maxSteps := 2000000) (disch := first|omega|(simp only[ls];first|done|omega)) only [E, hv0, hb1, hv2, hb3, ftt1_0, ftt1_1, ftt1_2, ftt1_3, ftt1_4, ftt1_5, ftt5_0, ftt5_1, ftt5_2, ftt5_3, ftt5_4, ftt5_5, hv27, gm]
            · obtain ⟨rfl, hx⟩ := hx
              dsimp only at hp
              cases hp
              simp only [seqK_ret, blockK_ret, retK_RK (K := Tells false), hx, and_self, true_and]
        · obtain ⟨rfl, hx⟩ := hx
          dsimp only at hp
          cases hp
          simp only [seqK_ret, blockK_ret, retK_RK (K := Tells false), hx, and_self, true_and]
    · replace hb3 := eq_false_of_ne_true hb3
      rw [if_f hb3] at hp
      have hp := Option.some.inj hp
      subst hp
      simp (maxSteps := 2000000) (disch := first|omega|(simp only[ls];first|done|omega)) only [E, hv0, hb1, hv2, hb3, gm]
  · replace hb1 := eq_false_of_ne_true hb1
    rw [if_f hb1] at hp
    have hp := Option.some.inj hp
    subst hp
    simp (maxSteps := 2000000) (disch := first|omega|(simp only[ls];first|done|omega)) only [E, hv0, hb1, gm]

noncomputable def p_laws_eqStamp (x0 : TStamp) (x1 : TStamp) : Option Bool :=
  if (decide (x0.time = x1.time)) = true then
    if (decide (x0.actor = x1.actor)) = true then
      some true
    else
      some false
  else
    some false
def c_laws_eqStamp : AFn := ⟨15, (.seq (.ops [(qS 2 (.box (.tmp 0))), (qS 3 (.box (.tmp 1))), (qS 4 (.mv (.const (.bool false))))]) (.seq (.seq (.ops [(qS 5 (.fieldA 0 (.tmp 2))), (qS 6 (.load 1 false (.tmp 5))), (qS 7 (.fieldA 0 (.tmp 3))), (qS 8 (.load 1 false (.tmp 7))), (qS 9 (.pu (.n (.ar .neq)) [(.tmp 6), (.tmp 8)]))]) (.cond (.tmp 9) (.seq (.ops [(qS 4 (.mv (.const (.bool false))))]) .ret) .skip)) (.seq (.seq (.ops [(qS 10 (.fieldA 1 (.tmp 2))), (qS 11 (.load 1 false (.tmp 10))), (qS 12 (.fieldA 1 (.tmp 3))), (qS 13 (.load 1 false (.tmp 12))), (qS 14 (.pu (.n (.ar .neq)) [(.tmp 11), (.tmp 13)]))]) (.cond (.tmp 14) (.seq (.ops [(qS 4 (.mv (.const (.bool false))))]) .ret) .skip)) (.seq (.ops [(qS 4 (.mv (.const (.bool true))))]) .ret)))), [(.tmp 4)]⟩
set_option maxHeartbeats 10000000 in
theorem d_laws_eqStamp {P : Program} {env : Env}  (x0 : TStamp) (x1 : TStamp) {b : Bool} (hp : p_laws_eqStamp x0 x1 = some b) : R P env (c_laws_eqStamp) ((encA (x0, x1)).map ofI) [] (Tells true b) := by
  refine R_of (by simp [c_laws_eqStamp, encA]) ?_
  unfold c_laws_eqStamp
  unfold p_laws_eqStamp at hp
  by_cases hb0 : (decide (x0.time = x1.time)) = true
  · rw [if_t hb0] at hp
    by_cases hb1 : (decide (x0.actor = x1.actor)) = true
    · rw [if_t hb1] at hp
      have hp := Option.some.inj hp
      subst hp
      simp (maxSteps := 2000000) (disch := first|omega|(simp only[ls];first|done|omega)) only [hb0, hb1, gm]
    · replace hb1 := eq_false_of_ne_true hb1
      rw [if_f hb1] at hp
      have hp := Option.some.inj hp
      subst hp
      simp (maxSteps := 2000000) (disch := first|omega|(simp only[ls];first|done|omega)) only [hb0, hb1, gm]
  · replace hb0 := eq_false_of_ne_true hb0
    rw [if_f hb0] at hp
    have hp := Option.some.inj hp
    subst hp
    simp (maxSteps := 2000000) (disch := first|omega|(simp only[ls];first|done|omega)) only [hb0, gm]

noncomputable def p_laws_eqLOp (x0 : TLOp) (x1 : TLOp) : Option Bool :=
  if (decide (x0.kind = x1.kind)) = true then
    if (decide (x0.char = x1.char)) = true then
      (p_laws_eqStamp x0.id x1.id).bind fun v2 =>
      if (v2) = true then
        (p_laws_eqStamp x0.at_ x1.at_).bind fun v4 =>
        if (v4) = true then
          some true
        else
          some false
      else
        some false
    else
      some false
  else
    some false
def c_laws_eqLOp (f_laws_eqStamp : Nat) : AFn := ⟨27, (.seq (.ops [(qS 2 (.box (.tmp 0))), (qS 3 (.box (.tmp 1))), (qS 4 (.mv (.const (.bool false))))]) (.seq (.seq (.ops [(qS 5 (.fieldA 0 (.tmp 2))), (qS 6 (.load 1 false (.tmp 5))), (qS 7 (.fieldA 0 (.tmp 3))), (qS 8 (.load 1 false (.tmp 7))), (qS 9 (.pu (.n (.ar .neq)) [(.tmp 6), (.tmp 8)]))]) (.cond (.tmp 9) (.seq (.ops [(qS 4 (.mv (.const (.bool false))))]) .ret) .skip)) (.seq (.seq (.ops [(qS 10 (.fieldA 1 (.tmp 2))), (qS 11 (.load 1 false (.tmp 10))), (qS 12 (.fieldA 1 (.tmp 3))), (qS 13 (.load 1 false (.tmp 12))), (qS 14 (.pu (.n (.ar .neq)) [(.tmp 11), (.tmp 13)]))]) (.cond (.tmp 14) (.seq (.ops [(qS 4 (.mv (.const (.bool false))))]) .ret) .skip)) (.seq (.seq (.ops [(qS 15 (.fieldA 2 (.tmp 2))), (qS 16 (.load 2 true (.tmp 15))), (qS 17 (.fieldA 2 (.tmp 3))), (qS 18 (.load 2 true (.tmp 17))), (qS 19 (.call (2 * f_laws_eqStamp) [(.tmp 16), (.tmp 18)])), (qS 20 (.pu (.n (.un .not)) [(.tmp 19)]))]) (.cond (.tmp 20) (.seq (.ops [(qS 4 (.mv (.const (.bool false))))]) .ret) .skip)) (.seq (.seq (.ops [(qS 21 (.fieldA 4 (.tmp 2))), (qS 22 (.load 2 true (.tmp 21))), (qS 23 (.fieldA 4 (.tmp 3))), (qS 24 (.load 2 true (.tmp 23))), (qS 25 (.call (2 * f_laws_eqStamp) [(.tmp 22), (.tmp 24)])), (qS 26 (.pu (.n (.un .not)) [(.tmp 25)]))]) (.cond (.tmp 26) (.seq (.ops [(qS 4 (.mv (.const (.bool false))))]) .ret) .skip)) (.seq (.ops [(qS 4 (.mv (.const (.bool true))))]) .ret)))))), [(.tmp 4)]⟩
set_option maxHeartbeats 10000000 in
theorem d_laws_eqLOp {P : Program} {env : Env} {f_laws_eqStamp : Nat}  (ep_laws_eqStamp : env (2 * f_laws_eqStamp) = pureFn true (FA fun a : TStamp × TStamp => p_laws_eqStamp a.1 a.2)) (x0 : TLOp) (x1 : TLOp) {b : Bool} (hp : p_laws_eqLOp x0 x1 = some b) : R P env (c_laws_eqLOp f_laws_eqStamp) ((encA (x0, x1)).map ofI) [] (Tells true b) := by
  refine R_of (by simp [c_laws_eqLOp, encA]) ?_
  have E := ep_laws_eqStamp
  unfold c_laws_eqLOp
  unfold p_laws_eqLOp at hp
  by_cases hb0 : (decide (x0.kind = x1.kind)) = true
  · rw [if_t hb0] at hp
    by_cases hb1 : (decide (x0.char = x1.char)) = true
    · rw [if_t hb1] at hp
      obtain ⟨v2, hv2, hp⟩ := bind_eq hp
      by_cases hb3 : (v2) = true
      · rw [if_t hb3] at hp
        obtain ⟨v4, hv4, hp⟩ := bind_eq hp
        by_cases hb5 : (v4) = true
        · rw [if_t hb5] at hp
          have hp := Option.some.inj hp
          subst hp
          simp (maxSteps := 2000000) (disch := first|omega|(simp only[ls];first|done|omega)) only [E, hb0, hb1, hv2, hb3, hv4, hb5, gm]
        · replace hb5 := eq_false_of_ne_true hb5
          rw [if_f hb5] at hp
          have hp := Option.some.inj hp
          subst hp
          simp (maxSteps := 2000000) (disch := first|omega|(simp only[ls];first|done|omega)) only [E, hb0, hb1, hv2, hb3, hv4, hb5, gm]
      · replace hb3 := eq_false_of_ne_true hb3
        rw [if_f hb3] at hp
        have hp := Option.some.inj hp
        subst hp
        simp (maxSteps := 2000000) (disch := first|omega|(simp only[ls];first|done|omega)) only [E, hb0, hb1, hv2, hb3, gm]
    · replace hb1 := eq_false_of_ne_true hb1
      rw [if_f hb1] at hp
      have hp := Option.some.inj hp
      subst hp
      simp (maxSteps := 2000000) (disch := first|omega|(simp only[ls];first|done|omega)) only [E, hb0, hb1, gm]
  · replace hb0 := eq_false_of_ne_true hb0
    rw [if_f hb0] at hp
    have hp := Option.some.inj hp
    subst hp
    simp (maxSteps := 2000000) (disch := first|omega|(simp only[ls];first|done|omega)) only [E, hb0, gm]

noncomputable def p_laws_eqLOpS_l0 (x0 : List TLOp) (x1 : List TLOp) : Int → Option (Lp (Int) Bool)
  | s1 =>
    if (decide (s1 < (x0.length : Int))) = true then
      (get? x0 s1).bind fun v3 =>
      (get? x1 s1).bind fun v4 =>
      (p_laws_eqLOp v3 v4).bind fun v5 =>
      if (v5) = true then
        some (.go (w64 (s1 + 1)))
      else
        some (.ret false)
    else
      some (.out s1)
noncomputable def p_laws_eqLOpS (x0 : List TLOp) (x1 : List TLOp) : Option Bool :=
  if (decide ((x0.length : Int) = (x1.length : Int))) = true then
    (loopP (p_laws_eqLOpS_l0 x0 x1) 0).bind fun ee0 => match ee0 with
    | .ret r => some r
    | .out o7 =>
      some true
  else
    some false
def c_laws_eqLOpS (f_laws_eqLOp : Nat) : AFn := ⟨27, (.seq (.ops [(qS 4 (.mv (.const (.bool false))))]) (.seq (.seq (.ops [(qS 6 (.mv (.tmp 0))), (qS 7 (.len (.tmp 6))), (qS 8 (.mv (.tmp 1))), (qS 9 (.len (.tmp 8))), (qS 10 (.pu (.n (.ar .neq)) [(.tmp 7), (.tmp 9)]))]) (.cond (.tmp 10) (.seq (.ops [(qS 4 (.mv (.const (.bool false))))]) .ret) .skip)) (.seq (.seq (.ops [(qS 5 (.mv (ic 0)))]) (.block 0 (.loop (.seq (.seq (.ops [(qS 11 (.mv (.tmp 5))), (qS 12 (.mv (.tmp 0))), (qS 13 (.len (.tmp 12))), (qS 14 (.pu (.n (.ar .lss)) [(.tmp 11), (.tmp 13)]))]) (.cond (.tmp 14) .skip (.exit 0))) (.seq (.block 1 (.seq (.ops [(qS 17 (.mv (.tmp 0))), (qS 18 (.mv (.tmp 5))), (qS 19 (.idxS 6 (.tmp 17) (.tmp 18))), (qS 20 (.load 6 true (.tmp 19))), (qS 21 (.mv (.tmp 1))), (qS 22 (.mv (.tmp 5))), (qS 23 (.idxS 6 (.tmp 21) (.tmp 22))), (qS 24 (.load 6 true (.tmp 23))), (qS 25 (.call (2 * f_laws_eqLOp) [(.tmp 20), (.tmp 24)])), (qS 26 (.pu (.n (.un .not)) [(.tmp 25)]))]) (.cond (.tmp 26) (.seq (.ops [(qS 4 (.mv (.const (.bool false))))]) .ret) .skip))) (.ops [(qS 15 (.mv (.tmp 5))), (qS 16 (.pu (.n (.ar .add)) [(.tmp 15), (ic 1)])), (qS 5 (.mv (.tmp 16)))])))))) (.seq (.ops [(qS 4 (.mv (.const (.bool true))))]) .ret)))), [(.tmp 4)]⟩
set_option maxHeartbeats 10000000 in
theorem d_laws_eqLOpS {P : Program} {env : Env} {f_laws_eqLOp : Nat}  (ep_laws_eqLOp : env (2 * f_laws_eqLOp) = pureFn true (FA fun a : TLOp × TLOp => p_laws_eqLOp a.1 a.2)) (x0 : List TLOp) (x1 : List TLOp) {b : Bool} (hp : p_laws_eqLOpS x0 x1 = some b) : R P env (c_laws_eqLOpS f_laws_eqLOp) ((encA (x0, x1)).map ofI) [] (Tells true b) := by
  refine R_of (by simp [c_laws_eqLOpS, encA]) ?_
  have E := ep_laws_eqLOp
  unfold c_laws_eqLOpS
  unfold p_laws_eqLOpS at hp
  by_cases hb0 : (decide ((x0.length : Int) = (x1.length : Int))) = true
  · rw [if_t hb0] at hp
    obtain ⟨ee0, hee0, hp⟩ := bind_eq hp
    simp (maxSteps := 2000000) (disch := first|omega|(simp only[ls];first|done|omega)) only [E, hb0, gm]
    refine W_loopP 0 (fun s t h => match s with | s1 => t 0 = .i (.sl 6 (x0.map enc)) ∧ t 1 = .i (.sl 6 (x1.map enc)) ∧ t 5 = .i (.s (.int .i64 s1))) (RK [.tmp 4] (Tells true)) ?_ hee0 ?_ ?_
    · rintro s1 ee tt0 hh0 ⟨ftt0_0, ftt0_1, ftt0_2⟩ hp
      rw [p_laws_eqLOpS_l0] at hp
      by_cases hb2 : (decide (s1 < (x0.length : Int))) = true
      · rw [if_t hb2] at hp
        obtain ⟨v3, hv3, hp⟩ := bind_eq hp
        obtain ⟨v4, hv4, hp⟩ := bind_eq hp
        obtain ⟨v5, hv5, hp⟩ := bind_eq hp
        by_cases hb6 : (v5) = true
        · rw [if_t hb6] at hp
          have hp := Option.some.inj hp
          subst hp
          simp (maxSteps := 2000000) (disch := first|omega|(simp only[ls];first|done|omega)) only [E, hb0, ftt0_0, ftt0_1, ftt0_2, hb2, hv3, hv4, hv5, hb6, gm] <;> omega
        · replace hb6 := eq_false_of_ne_true hb6
          rw [if_f hb6] at hp
          have hp := Option.some.inj hp
          subst hp
          simp (maxSteps := 2000000) (disch := first|omega|(simp only[ls];first|done|omega)) only [E, hb0, ftt0_0, ftt0_1, ftt0_2, hb2, hv3, hv4, hv5, hb6, gm]
      · replace hb2 := eq_false_of_ne_true hb2
        rw [if_f hb2] at hp
        have hp := Option.some.inj hp
        subst hp
        simp (maxSteps := 2000000) (disch := first|omega|(simp only[ls];first|done|omega)) only [E, hb0, ftt0_0, ftt0_1, ftt0_2, hb2, gm] <;> omega
    · simp (maxSteps := 2000000) (disch := first|omega|(simp only[ls];first|done|omega)) only [E, hb0, gm] <;> omega
    · intro x tt1 hh1 hx
      rcases ee0 with o7 | r
      · obtain ⟨rfl, ftt1_0, ftt1_1, ftt1_2⟩ := hx
        dsimp only at hp
        have hp := Option.some.inj hp
        subst hp
        simp (maxSteps := 2000000) (disch := first|omega|(simp only[ls];first|done|omega)) only [E, hb0, ftt1_0, ftt1_1, ftt1_2, gm]
      · obtain ⟨rfl, hx⟩ := hx
        dsimp only at hp
        cases hp
        simp only [seqK_ret, blockK_ret, retK_RK (K := Tells true), hx, and_self, true_and]
  · replace hb0 := eq_false_of_ne_true hb0
    rw [if_f hb0] at hp
    have hp := Option.some.inj hp
    subst hp
    simp (maxSteps := 2000000) (disch := first|omega|(simp only[ls];first|done|omega)) only [E, hb0, gm]

noncomputable def p_laws_markLOpS_l0 : List TLOp × Int × Int → Option (Lp (List TLOp × Int × Int) (T2 Int (List TLOp)))
  | (s0, s1, s2) =>
    if (decide (s2 < (s0.length : Int))) = true then
      (get? s0 s2).bind fun v5 =>
      (get? (s0.set s2.toNat (TLOp.mk s1 v5.char v5.id v5.at_)) s2).bind fun v7 =>
      (get? ((s0.set s2.toNat (TLOp.mk s1 v5.char v5.id v5.at_)).set s2.toNat (TLOp.mk v7.kind (w64 (s1 + 1)) v7.id v7.at_)) s2).bind fun v9 =>
      (get? (((s0.set s2.toNat (TLOp.mk s1 v5.char v5.id v5.at_)).set s2.toNat (TLOp.mk v7.kind (w64 (s1 + 1)) v7.id v7.at_)).set s2.toNat (TLOp.mk v9.kind v9.char (TStamp.mk (w64 ((w64 (s1 + 1)) + 1)) v9.id.actor) v9.at_)) s2).bind fun v11 =>
      (get? ((((s0.set s2.toNat (TLOp.mk s1 v5.char v5.id v5.at_)).set s2.toNat (TLOp.mk v7.kind (w64 (s1 + 1)) v7.id v7.at_)).set s2.toNat (TLOp.mk v9.kind v9.char (TStamp.mk (w64 ((w64 (s1 + 1)) + 1)) v9.id.actor) v9.at_)).set s2.toNat (TLOp.mk v11.kind v11.char (TStamp.mk v11.id.time (w64 ((w64 ((w64 (s1 + 1)) + 1)) + 1))) v11.at_)) s2).bind fun v13 =>
      (get? (((((s0.set s2.toNat (TLOp.mk s1 v5.char v5.id v5.at_)).set s2.toNat (TLOp.mk v7.kind (w64 (s1 + 1)) v7.id v7.at_)).set s2.toNat (TLOp.mk v9.kind v9.char (TStamp.mk (w64 ((w64 (s1 + 1)) + 1)) v9.id.actor) v9.at_)).set s2.toNat (TLOp.mk v11.kind v11.char (TStamp.mk v11.id.time (w64 ((w64 ((w64 (s1 + 1)) + 1)) + 1))) v11.at_)).set s2.toNat (TLOp.mk v13.kind v13.char v13.id (TStamp.mk (w64 ((w64 ((w64 ((w64 (s1 + 1)) + 1)) + 1)) + 1)) v13.at_.actor))) s2).bind fun v15 =>
      some (.go (((((((s0.set s2.toNat (TLOp.mk s1 v5.char v5.id v5.at_)).set s2.toNat (TLOp.mk v7.kind (w64 (s1 + 1)) v7.id v7.at_)).set s2.toNat (TLOp.mk v9.kind v9.char (TStamp.mk (w64 ((w64 (s1 + 1)) + 1)) v9.id.actor) v9.at_)).set s2.toNat (TLOp.mk v11.kind v11.char (TStamp.mk v11.id.time (w64 ((w64 ((w64 (s1 + 1)) + 1)) + 1))) v11.at_)).set s2.toNat (TLOp.mk v13.kind v13.char v13.id (TStamp.mk (w64 ((w64 ((w64 ((w64 (s1 + 1)) + 1)) + 1)) + 1)) v13.at_.actor))).set s2.toNat (TLOp.mk v15.kind v15.char v15.id (TStamp.mk v15.at_.time (w64 ((w64 ((w64 ((w64 ((w64 (s1 + 1)) + 1)) + 1)) + 1)) + 1))))), w64 ((w64 ((w64 ((w64 ((w64 ((w64 (s1 + 1)) + 1)) + 1)) + 1)) + 1)) + 1), w64 (s2 + 1)))
    else
      some (.out (s0, s1, s2))
noncomputable def p_laws_markLOpS (x0 : List TLOp) (x1 : Int) : Option (T2 Int (List TLOp)) :=
  (loopP (p_laws_markLOpS_l0) (x0, x1, 0)).bind fun ee0 => match ee0 with
  | .ret r => some r
  | .out (o17, o18, o19) =>
    some ⟨o18, o17⟩
def c_laws_markLOpS : AFn := ⟨59, (.seq (.ops [(qS 4 (.mv (ic 0)))]) (.seq (.seq (.ops [(qS 5 (.mv (ic 0)))]) (.block 0 (.loop (.seq (.seq (.ops [(qS 6 (.mv (.tmp 5))), (qS 7 (.mv (.tmp 0))), (qS 8 (.len (.tmp 7))), (qS 9 (.pu (.n (.ar .lss)) [(.tmp 6), (.tmp 8)]))]) (.cond (.tmp 9) .skip (.exit 0))) (.seq (.block 1 (.seq (.ops [(qS 12 (.mv (.tmp 0))), (qS 13 (.mv (.tmp 5))), (qS 14 (.mv (.tmp 1))), (qS 15 (.idxS 6 (.tmp 12) (.tmp 13))), (qS 16 (.fieldA 0 (.tmp 15))), ⟨.none, (.storeV [(0, false)] 1 (.tmp 16) (.tmp 14)), .none, [], .none⟩]) (.seq (.ops [(qS 17 (.mv (.tmp 1))), (qS 18 (.pu (.n (.ar .add)) [(.tmp 17), (ic 1)])), (qS 1 (.mv (.tmp 18)))]) (.seq (.ops [(qS 19 (.mv (.tmp 0))), (qS 20 (.mv (.tmp 5))), (qS 21 (.mv (.tmp 1))), (qS 22 (.idxS 6 (.tmp 19) (.tmp 20))), (qS 23 (.fieldA 1 (.tmp 22))), ⟨.none, (.storeV [(0, false)] 1 (.tmp 23) (.tmp 21)), .none, [], .none⟩]) (.seq (.ops [(qS 24 (.mv (.tmp 1))), (qS 25 (.pu (.n (.ar .add)) [(.tmp 24), (ic 1)])), (qS 1 (.mv (.tmp 25)))]) (.seq (.ops [(qS 26 (.mv (.tmp 0))), (qS 27 (.mv (.tmp 5))), (qS 28 (.mv (.tmp 1))), (qS 29 (.idxS 6 (.tmp 26) (.tmp 27))), (qS 30 (.fieldA 2 (.tmp 29))), (qS 31 (.fieldA 0 (.tmp 30))), ⟨.none, (.storeV [(0, false)] 1 (.tmp 31) (.tmp 28)), .none, [], .none⟩]) (.seq (.ops [(qS 32 (.mv (.tmp 1))), (qS 33 (.pu (.n (.ar .add)) [(.tmp 32), (ic 1)])), (qS 1 (.mv (.tmp 33)))]) (.seq (.ops [(qS 34 (.mv (.tmp 0))), (qS 35 (.mv (.tmp 5))), (qS 36 (.mv (.tmp 1))), (qS 37 (.idxS 6 (.tmp 34) (.tmp 35))), (qS 38 (.fieldA 2 (.tmp 37))), (qS 39 (.fieldA 1 (.tmp 38))), ⟨.none, (.storeV [(0, false)] 1 (.tmp 39) (.tmp 36)), .none, [], .none⟩]) (.seq (.ops [(qS 40 (.mv (.tmp 1))), (qS 41 (.pu (.n (.ar .add)) [(.tmp 40), (ic 1)])), (qS 1 (.mv (.tmp 41)))]) (.seq (.ops [(qS 42 (.mv (.tmp 0))), (qS 43 (.mv (.tmp 5))), (qS 44 (.mv (.tmp 1))), (qS 45 (.idxS 6 (.tmp 42) (.tmp 43))), (qS 46 (.fieldA 4 (.tmp 45))), (qS 47 (.fieldA 0 (.tmp 46))), ⟨.none, (.storeV [(0, false)] 1 (.tmp 47) (.tmp 44)), .none, [], .none⟩]) (.seq (.ops [(qS 48 (.mv (.tmp 1))), (qS 49 (.pu (.n (.ar .add)) [(.tmp 48), (ic 1)])), (qS 1 (.mv (.tmp 49)))]) (.seq (.ops [(qS 50 (.mv (.tmp 0))), (qS 51 (.mv (.tmp 5))), (qS 52 (.mv (.tmp 1))), (qS 53 (.idxS 6 (.tmp 50) (.tmp 51))), (qS 54 (.fieldA 4 (.tmp 53))), (qS 55 (.fieldA 1 (.tmp 54))), ⟨.none, (.storeV [(0, false)] 1 (.tmp 55) (.tmp 52)), .none, [], .none⟩]) (.ops [(qS 56 (.mv (.tmp 1))), (qS 57 (.pu (.n (.ar .add)) [(.tmp 56), (ic 1)])), (qS 1 (.mv (.tmp 57)))]))))))))))))) (.ops [(qS 10 (.mv (.tmp 5))), (qS 11 (.pu (.n (.ar .add)) [(.tmp 10), (ic 1)])), (qS 5 (.mv (.tmp 11)))])))))) (.seq (.ops [(qS 58 (.mv (.tmp 1))), (qS 4 (.mv (.tmp 58)))]) .ret))), [(.tmp 4)]⟩
def i_laws_markLOpS (pb0 pn0 : Nat) (h : Heap) (b : T2 Int (List TLOp)) (v : V) (h2 : Heap) : Prop := Keep [pb0] h h2 ∧ v = .i (.s (.int .i64 b.a)) ∧ getCells h2 pb0 (pn0 * 6) = some (rows b.b)
def k_laws_markLOpS (F : Fun) : Prop := ∀ (x0 : List TLOp) (x1 : Int) (b : T2 Int (List TLOp)), p_laws_markLOpS x0 x1 = some b → ∀ (pb0 pn0 : Nat) (h : Heap), pn0 = (x0).length → getCells h pb0 (pn0 * 6) = some (rows x0) → ∃ p, F none [.hsl pb0 (pn0 * 6) 0 6 true pn0, .i (.s (.int .i64 x1))] h = some p ∧ i_laws_markLOpS pb0 pn0 h b p.1 p.2
set_option maxHeartbeats 10000000 in
theorem w_laws_markLOpS {P : Program} {env : Env}  (x0 : List TLOp) (x1 : Int) {b : T2 Int (List TLOp)} (hp : p_laws_markLOpS x0 x1 = some b) (pb0 pn0 : Nat) (hh : Heap) (pm0 : pn0 = (x0).length) (pf0 : getCells hh pb0 (pn0 * 6) = some (rows x0)) : R P env (c_laws_markLOpS) [.hsl pb0 (pn0 * 6) 0 6 true pn0, .i (.s (.int .i64 x1))] hh (i_laws_markLOpS pb0 pn0 hh b) := by
  have pl0 := gc_lt pf0
  have pg0 : getCells hh pb0 (x0.length * 6) = some (rows x0) := by rw [← pm0]; exact pf0
  refine R_of (by simp [c_laws_markLOpS, encA]) ?_
  unfold c_laws_markLOpS
  unfold p_laws_markLOpS at hp
  obtain ⟨ee0, hee0, hp⟩ := bind_eq hp
  simp (maxSteps := 2000000) (disch := first|omega|(simp only[ls];first|done|omega)) only [pf0, pg0, gm]
  refine W_loopP 0 (fun s t h => match s with | (s0, s1, s2) => t 0 = .hsl pb0 (pn0 * 6) 0 6 true pn0 ∧ t 1 = .i (.s (.int .i64 s1)) ∧ t 5 = .i (.s (.int .i64 s2)) ∧ getCells h pb0 (pn0 * 6) = some (rows (s0 : List TLOp)) ∧ pb0 < h.length ∧ Keep [pb0] hh h) (RK [.tmp 4] (i_laws_markLOpS pb0 pn0 hh)) ?_ hee0 ?_ ?_
  · rintro ⟨s0, s1, s2⟩ ee tt0 hh0 ⟨ftt0_0, ftt0_1, ftt0_2, ftt0_3, ftt0_4, ftt0_5⟩ hp
    have ztt0_3 := len_rows ftt0_3
    simp only [zs] at ztt0_3
    rw [p_laws_markLOpS_l0] at hp
    have hz3 : ((pn0 : Nat) : Int) = (s0.length : Int) := by omega
    by_cases hb4 : (decide (s2 < (s0.length : Int))) = true
    · rw [if_t hb4] at hp
      obtain ⟨v5, hv5, hp⟩ := bind_eq hp
      have gv5 := get_some hv5
      have hs6 : List.take (s2.toNat * 6) (rows s0) ++ .i (.s (.int .i64 s1)) :: List.drop (s2.toNat * 6 + 1) (rows s0) = rows (s0.set s2.toNat (TLOp.mk s1 v5.char v5.id v5.at_)) := by simpa [splice, zs, cellsV, I.cells, enc_TLOp] using rows_set_off (y := (TLOp.mk s1 v5.char v5.id v5.at_)) (ys := [.i (.s (.int .i64 s1))]) (k := 0) gv5.2.2 (Nat.le_of_ble_eq_true rfl) (by rfl)
      obtain ⟨v7, hv7, hp⟩ := bind_eq hp
      have gv7 := get_some hv7
      have hs8 : List.take (s2.toNat * 6 + 1) (rows (s0.set s2.toNat (TLOp.mk s1 v5.char v5.id v5.at_))) ++ .i (.s (.int .i64 (w64 (s1 + 1)))) :: List.drop (s2.toNat * 6 + 1 + 1) (rows (s0.set s2.toNat (TLOp.mk s1 v5.char v5.id v5.at_))) = rows ((s0.set s2.toNat (TLOp.mk s1 v5.char v5.id v5.at_)).set s2.toNat (TLOp.mk v7.kind (w64 (s1 + 1)) v7.id v7.at_)) := by simpa [splice, zs, cellsV, I.cells, enc_TLOp] using rows_set_off (y := (TLOp.mk v7.kind (w64 (s1 + 1)) v7.id v7.at_)) (ys := [.i (.s (.int .i64 (w64 (s1 + 1))))]) (k := 1) gv7.2.2 (Nat.le_of_ble_eq_true rfl) (by rfl)
      obtain ⟨v9, hv9, hp⟩ := bind_eq hp
      have gv9 := get_some hv9
      have hs10 : List.take (s2.toNat * 6 + 2) (rows ((s0.set s2.toNat (TLOp.mk s1 v5.char v5.id v5.at_)).set s2.toNat (TLOp.mk v7.kind (w64 (s1 + 1)) v7.id v7.at_))) ++ .i (.s (.int .i64 (w64 ((w64 (s1 + 1)) + 1)))) :: List.drop (s2.toNat * 6 + 2 + 1) (rows ((s0.set s2.toNat (TLOp.mk s1 v5.char v5.id v5.at_)).set s2.toNat (TLOp.mk v7.kind (w64 (s1 + 1)) v7.id v7.at_))) = rows (((s0.set s2.toNat (TLOp.mk s1 v5.char v5.id v5.at_)).set s2.toNat (TLOp.mk v7.kind (w64 (s1 + 1)) v7.id v7.at_)).set s2.toNat (TLOp.mk v9.kind v9.char (TStamp.mk (w64 ((w64 (s1 + 1)) + 1)) v9.id.actor) v9.at_)) := by simpa [splice, zs, cellsV, I.cells, enc_TLOp] using rows_set_off (y := (TLOp.mk v9.kind v9.char (TStamp.mk (w64 ((w64 (s1 + 1)) + 1)) v9.id.actor) v9.at_)) (ys := [.i (.s (.int .i64 (w64 ((w64 (s1 + 1)) + 1))))]) (k := 2) gv9.2.2 (Nat.le_of_ble_eq_true rfl) (by rfl)
      obtain ⟨v11, hv11, hp⟩ := bind_eq hp
      have gv11 := get_some hv11
      have hs12 : List.take (s2.toNat * 6 + 3) (rows (((s0.set s2.toNat (TLOp.mk s1 v5.char v5.id v5.at_)).set s2.toNat (TLOp.mk v7.kind (w64 (s1 + 1)) v7.id v7.at_)).set s2.toNat (TLOp.mk v9.kind v9.char (TStamp.mk (w64 ((w64 (s1 + 1)) + 1)) v9.id.actor) v9.at_))) ++ .i (.s (.int .i64 (w64 ((w64 ((w64 (s1 + 1)) + 1)) + 1)))) :: List.drop (s2.toNat * 6 + 3 + 1) (rows (((s0.set s2.toNat (TLOp.mk s1 v5.char v5.id v5.at_)).set s2.toNat (TLOp.mk v7.kind (w64 (s1 + 1)) v7.id v7.at_)).set s2.toNat (TLOp.mk v9.kind v9.char (TStamp.mk (w64 ((w64 (s1 + 1)) + 1)) v9.id.actor) v9.at_))) = rows ((((s0.set s2.toNat (TLOp.mk s1 v5.char v5.id v5.at_)).set s2.toNat (TLOp.mk v7.kind (w64 (s1 + 1)) v7.id v7.at_)).set s2.toNat (TLOp.mk v9.kind v9.char (TStamp.mk (w64 ((w64 (s1 + 1)) + 1)) v9.id.actor) v9.at_)).set s2.toNat (TLOp.mk v11.kind v11.char (TStamp.mk v11.id.time (w64 ((w64 ((w64 (s1 + 1)) + 1)) + 1))) v11.at_)) := by simpa [splice, zs, cellsV, I.cells, enc_TLOp] using rows_set_off (y := (TLOp.mk v11.kind v11.char (TStamp.mk v11.id.time (w64 ((w64 ((w64 (s1 + 1)) + 1)) + 1))) v11.at_)) (ys := [.i (.s (.int .i64 (w64 ((w64 ((w64 (s1 + 1)) + 1)) + 1))))]) (k := 3) gv11.2.2 (Nat.le_of_ble_eq_true rfl) (by rfl)
      obtain ⟨v13, hv13, hp⟩ := bind_eq hp
      have gv13 := get_some hv13
      have hs14 : List.take (s2.toNat * 6 + 4) (rows ((((s0.set s2.toNat (TLOp.mk s1 v5.char v5.id v5.at_)).set s2.toNat (TLOp.mk v7.kind (w64 (s1 + 1)) v7.id v7.at_)).set s2.toNat (TLOp.mk v9.kind v9.char (TStamp.mk (w64 ((w64 (s1 + 1)) + 1)) v9.id.actor) v9.at_)).set s2.toNat (TLOp.mk v11.kind v11.char (TStamp.mk v11.id.time (w64 ((w64 ((w64 (s1 + 1)) + 1)) + 1))) v11.at_))) ++ .i (.s (.int .i64 (w64 ((w64 ((w64 ((w64 (s1 + 1)) + 1)) + 1)) + 1)))) :: List.drop (s2.toNat * 6 + 4 + 1) (rows ((((s0.set s2.toNat (TLOp.mk s1 v5.char v5.id v5.at_)).set s2.toNat (TLOp.mk v7.kind (w64 (s1 + 1)) v7.id v7.at_)).set s2.toNat (TLOp.mk v9.kind v9.char (TStamp.mk (w64 ((w64 (s1 + 1)) + 1)) v9.id.actor) v9.at_)).set s2.toNat (TLOp.mk v11.kind v11.char (TStamp.mk v11.id.time (w64 ((w64 ((w64 (s1 + 1)) + 1)) + 1))) v11.at_))) = rows (((((s0.set s2.toNat (TLOp.mk s1 v5.char v5.id v5.at_)).set s2.toNat (TLOp.mk v7.kind (w64 (s1 + 1)) v7.id v7.at_)).set s2.toNat (TLOp.mk v9.kind v9.char (TStamp.mk (w64 ((w64 (s1 + 1)) + 1)) v9.id.actor) v9.at_)).set s2.toNat (TLOp.mk v11.kind v11.char (TStamp.mk v11.id.time (w64 ((w64 ((w64 (s1 + 1)) + 1)) + 1))) v11.at_)).set s2.toNat (TLOp.mk v13.kind v13.char v13.id (TStamp.mk (w64 ((w64 ((w64 ((w64 (s1 + 1)) + 1)) + 1)) + 1)) v13.at_.actor))) := by simpa [splice, zs, cellsV, I.cells, enc_TLOp] using rows_set_off (y := (TLOp.mk v13.kind v13.char v13.id (TStamp.mk (w64 ((w64 ((w64 ((w64 (s1 + 1)) + 1)) + 1)) + 1)) v13.at_.actor))) (ys := [.i (.s (.int .i64 (w64 ((w64 ((w64 ((w64 (s1 + 1)) + 1)) + 1)) + 1))))]) (k := 4) gv13.2.2 (Nat.le_of_ble_eq_true rfl) (by rfl)
      obtain ⟨v15, hv15, hp⟩ := bind_eq hp
      have gv15 := get_some hv15
      have hs16 : List.take (s2.toNat * 6 + 5) (rows (((((s0.set s2.toNat (TLOp.mk s1 v5.char v5.id v5.at_)).set s2.toNat (TLOp.mk v7.kind (w64 (s1 + 1)) v7.id v7.at_)).set s2.toNat (TLOp.mk v9.kind v9.char (TStamp.mk (w64 ((w64 (s1 + 1)) + 1)) v9.id.actor) v9.at_)).set s2.toNat (TLOp.mk v11.kind v11.char (TStamp.mk v11.id.time (w64 ((w64 ((w64 (s1 + 1)) + 1)) + 1))) v11.at_)).set s2.toNat (TLOp.mk v13.kind v13.char v13.id (TStamp.mk (w64 ((w64 ((w64 ((w64 (s1 + 1)) + 1)) + 1)) + 1)) v13.at_.actor)))) ++ .i (.s (.int .i64 (w64 ((w64 ((w64 ((w64 ((w64 (s1 + 1)) + 1)) + 1)) + 1)) + 1)))) :: List.drop (s2.toNat * 6 + 5 + 1) (rows (((((s0.set s2.toNat (TLOp.mk s1 v5.char v5.id v5.at_)).set s2.toNat (TLOp.mk v7.kind (w64 (s1 + 1)) v7.id v7.at_)).set s2.toNat (TLOp.mk v9.kind v9.char (TStamp.mk (w64 ((w64 (s1 + 1)) + 1)) v9.id.actor) v9.at_)).set s2.toNat (TLOp.mk v11.kind v11.char (TStamp.mk v11.id.time (w64 ((w64 ((w64 (s1 + 1)) + 1)) + 1))) v11.at_)).set s2.toNat (TLOp.mk v13.kind v13.char v13.id (TStamp.mk (w64 ((w64 ((w64 ((w64 (s1 + 1)) + 1)) + 1)) + 1)) v13.at_.actor)))) = rows ((((((s0.set s2.toNat (TLOp.mk s1 v5.char v5.id v5.at_)).set s2.toNat (TLOp.mk v7.kind (w64 (s1 + 1)) v7.id v7.at_)).set s2.toNat (TLOp.mk v9.kind v9.char (TStamp.mk (w64 ((w64 (s1 + 1)) + 1)) v9.id.actor) v9.at_)).set s2.toNat (TLOp.mk v11.kind v11.char (TStamp.mk v11.id.time (w64 ((w64 ((w64 (s1 + 1)) + 1)) + 1))) v11.at_)).set s2.toNat (TLOp.mk v13.kind v13.char v13.id (TStamp.mk (w64 ((w64 ((w64 ((w64 (s1 + 1)) + 1)) + 1)) + 1)) v13.at_.actor))).set s2.toNat (TLOp.mk v15.kind v15.char v15.id (TStamp.mk v15.at_.time (w64 ((w64 ((w64 ((w64 ((w64 (s1 + 1)) + 1)) + 1)) + 1)) + 1))))) := by simpa [splice, zs, cellsV, I.cells, enc_TLOp] using rows_set_off (y := (TLOp.mk v15.kind v15.char v15.id (TStamp.mk v15.at_.time (w64 ((w64 ((w64 ((w64 ((w64 (s1 + 1)) + 1)) + 1)) + 1)) + 1))))) (ys := [.i (.s (.int .i64 (w64 ((w64 ((w64 ((w64 ((w64 (s1 + 1)) + 1)) + 1)) + 1)) + 1))))]) (k := 5) gv15.2.2 (Nat.le_of_ble_eq_true rfl) (by rfl)
      have hp := Option.some.inj hp
      subst hp
      simp (maxSteps := 2000000) (disch := first|omega|(simp only[ls];first|done|omega)) only [i_laws_markLOpS, pf0, pg0, ftt0_0, ftt0_1, ftt0_2, ftt0_3, ftt0_4, ftt0_5, hz3, hb4, hv5, (gv5).1, (gv5).2.1, hs6, hv7, (gv7).1, (gv7).2.1, hs8, hv9, (gv9).1, (gv9).2.1, hs10, hv11, (gv11).1, (gv11).2.1, hs12, hv13, (gv13).1, (gv13).2.1, hs14, hv15, (gv15).1, (gv15).2.1, hs16, gm] <;> (repeat (first | omega | assumption | rfl | exact keep_refl | refine keep_app ?_ | (refine keep_set (by first | (left; simp; done) | (right; simp; omega)) ?_) | refine And.intro ?_ ?_))
    · replace hb4 := eq_false_of_ne_true hb4
      rw [if_f hb4] at hp
      have hp := Option.some.inj hp
      subst hp
      simp (maxSteps := 2000000) (disch := first|omega|(simp only[ls];first|done|omega)) only [i_laws_markLOpS, pf0, pg0, ftt0_0, ftt0_1, ftt0_2, ftt0_3, ftt0_4, ftt0_5, hz3, hb4, gm] <;> (repeat (first | omega | assumption | rfl | exact keep_refl | refine keep_app ?_ | (refine keep_set (by first | (left; simp; done) | (right; simp; omega)) ?_) | refine And.intro ?_ ?_))
  · simp (maxSteps := 2000000) (disch := first|omega|(simp only[ls];first|done|omega)) only [i_laws_markLOpS, pf0, pg0, gm] <;> (repeat (first | omega | assumption | rfl | exact keep_refl | refine keep_app ?_ | (refine keep_set (by first | (left; simp; done) | (right; simp; omega)) ?_) | refine And.intro ?_ ?_))
  · intro x tt1 hh1 hx
    rcases ee0 with ⟨o17, o18, o19⟩ | r
    · obtain ⟨rfl, ftt1_0, ftt1_1, ftt1_2, ftt1_3, ftt1_4, ftt1_5⟩ := hx
      have ztt1_3 := len_rows ftt1_3
      simp only [zs] at ztt1_3
      dsimp only at hp
      have hp := Option.some.inj hp
      subst hp
      simp (maxSteps := 2000000) (disch := first|omega|(simp only[ls];first|done|omega)) only [i_laws_markLOpS, pf0, pg0, ftt1_0, ftt1_1, ftt1_2, ftt1_3, ftt1_4, ftt1_5, gm] <;> (repeat (first | omega | assumption | rfl | exact keep_refl | refine keep_app ?_ | (refine keep_set (by first | (left; simp; done) | (right; simp; omega)) ?_) | refine And.intro ?_ ?_))
    · obtain ⟨rfl, hx⟩ := hx
      dsimp only at hp
      cases hp
      simp only [seqK_ret, blockK_ret, retK_RK (K := i_laws_markLOpS pb0 pn0 hh), hx, and_self, true_and]
theorem ko_laws_markLOpS {P : Program} {env : Env}  : k_laws_markLOpS (runIn P env (c_laws_markLOpS)) := by
  intro x0 x1 b hp pb0 pn0 h a0 a1
  exact w_laws_markLOpS x0 x1 hp pb0 pn0 h a0 a1

noncomputable def p_laws_heldLOpS_l0 (x0 : List TLOp) : Int × Int → Option (Lp (Int × Int) Int)
  | (s0, s1) =>
    if (decide (s1 < (x0.length : Int))) = true then
      (get? x0 s1).bind fun v3 =>
      if (decide (v3.kind = s0)) = true then
        if (decide (v3.char = w64 (s0 + 1))) = true then
          if (decide (v3.id.time = w64 ((w64 (s0 + 1)) + 1))) = true then
            if (decide (v3.id.actor = w64 ((w64 ((w64 (s0 + 1)) + 1)) + 1))) = true then
              if (decide (v3.at_.time = w64 ((w64 ((w64 ((w64 (s0 + 1)) + 1)) + 1)) + 1))) = true then
                if (decide (v3.at_.actor = w64 ((w64 ((w64 ((w64 ((w64 (s0 + 1)) + 1)) + 1)) + 1)) + 1))) = true then
                  some (.go (w64 ((w64 ((w64 ((w64 ((w64 ((w64 (s0 + 1)) + 1)) + 1)) + 1)) + 1)) + 1), w64 (s1 + 1)))
                else
                  some (.ret (-1))
              else
                some (.ret (-1))
            else
              some (.ret (-1))
          else
            some (.ret (-1))
        else
          some (.ret (-1))
      else
        some (.ret (-1))
    else
      some (.out (s0, s1))
noncomputable def p_laws_heldLOpS (x0 : List TLOp) (x1 : Int) : Option Int :=
  (loopP (p_laws_heldLOpS_l0 x0) (x1, 0)).bind fun ee0 => match ee0 with
  | .ret r => some r
  | .out (o10, o11) =>
    some o10
def c_laws_heldLOpS : AFn := ⟨71, (.seq (.ops [(qS 4 (.mv (ic 0)))]) (.seq (.seq (.ops [(qS 5 (.mv (ic 0)))]) (.block 0 (.loop (.seq (.seq (.ops [(qS 6 (.mv (.tmp 5))), (qS 7 (.mv (.tmp 0))), (qS 8 (.len (.tmp 7))), (qS 9 (.pu (.n (.ar .lss)) [(.tmp 6), (.tmp 8)]))]) (.cond (.tmp 9) .skip (.exit 0))) (.seq (.block 1 (.seq (.seq (.ops [(qS 12 (.mv (.tmp 0))), (qS 13 (.mv (.tmp 5))), (qS 14 (.idxS 6 (.tmp 12) (.tmp 13))), (qS 15 (.fieldA 0 (.tmp 14))), (qS 16 (.load 1 false (.tmp 15))), (qS 17 (.mv (.tmp 1))), (qS 18 (.pu (.n (.ar .neq)) [(.tmp 16), (.tmp 17)]))]) (.cond (.tmp 18) (.seq (.ops [(qS 4 (.mv (ic (-1))))]) .ret) .skip)) (.seq (.ops [(qS 19 (.mv (.tmp 1))), (qS 20 (.pu (.n (.ar .add)) [(.tmp 19), (ic 1)])), (qS 1 (.mv (.tmp 20)))]) (.seq (.seq (.ops [(qS 21 (.mv (.tmp 0))), (qS 22 (.mv (.tmp 5))), (qS 23 (.idxS 6 (.tmp 21) (.tmp 22))), (qS 24 (.fieldA 1 (.tmp 23))), (qS 25 (.load 1 false (.tmp 24))), (qS 26 (.mv (.tmp 1))), (qS 27 (.pu (.n (.ar .neq)) [(.tmp 25), (.tmp 26)]))]) (.cond (.tmp 27) (.seq (.ops [(qS 4 (.mv (ic (-1))))]) .ret) .skip)) (.seq (.ops [(qS 28 (.mv (.tmp 1))), (qS 29 (.pu (.n (.ar .add)) [(.tmp 28), (ic 1)])), (qS 1 (.mv (.tmp 29)))]) (.seq (.seq (.ops [(qS 30 (.mv (.tmp 0))), (qS 31 (.mv (.tmp 5))), (qS 32 (.idxS 6 (.tmp 30) (.tmp 31))), (qS 33 (.fieldA 2 (.tmp 32))), (qS 34 (.fieldA 0 (.tmp 33))), (qS 35 (.load 1 false (.tmp 34))), (qS 36 (.mv (.tmp 1))), (qS 37 (.pu (.n (.ar .neq)) [(.tmp 35), (.tmp 36)]))]) (.cond (.tmp 37) (.seq (.ops [(qS 4 (.mv (ic (-1))))]) .ret) .skip)) (.seq (.ops [(qS 38 (.mv (.tmp 1))), (qS 39 (.pu (.n (.ar .add)) [(.tmp 38), (ic 1)])), (qS 1 (.mv (.tmp 39)))]) (.seq (.seq (.ops [(qS 40 (.mv (.tmp 0))), (qS 41 (.mv (.tmp 5))), (qS 42 (.idxS 6 (.tmp 40) (.tmp 41))), (qS 43 (.fieldA 2 (.tmp 42))), (qS 44 (.fieldA 1 (.tmp 43))), (qS 45 (.load 1 false (.tmp 44))), (qS 46 (.mv (.tmp 1))), (qS 47 (.pu (.n (.ar .neq)) [(.tmp 45), (.tmp 46)]))]) (.cond (.tmp 47) (.seq (.ops [(qS 4 (.mv (ic (-1))))]) .ret) .skip)) (.seq (.ops [(qS 48 (.mv (.tmp 1))), (qS 49 (.pu (.n (.ar .add)) [(.tmp 48), (ic 1)])), (qS 1 (.mv (.tmp 49)))]) (.seq (.seq (.ops [(qS 50 (.mv (.tmp 0))), (qS 51 (.mv (.tmp 5))), (qS 52 (.idxS 6 (.tmp 50) (.tmp 51))), (qS 53 (.fieldA 4 (.tmp 52))), (qS 54 (.fieldA 0 (.tmp 53))), (qS 55 (.load 1 false (.tmp 54))), (qS 56 (.mv (.tmp 1))), (qS 57 (.pu (.n (.ar .neq)) [(.tmp 55), (.tmp 56)]))]) (.cond (.tmp 57) (.seq (.ops [(qS 4 (.mv (ic (-1))))]) .ret) .skip)) (.seq (.ops [(qS 58 (.mv (.tmp 1))), (qS 59 (.pu (.n (.ar .add)) [(.tmp 58), (ic 1)])), (qS 1 (.mv (.tmp 59)))]) (.seq (.seq (.ops [(qS 60 (.mv (.tmp 0))), (qS 61 (.mv (.tmp 5))), (qS 62 (.idxS 6 (.tmp 60) (.tmp 61))), (qS 63 (.fieldA 4 (.tmp 62))), (qS 64 (.fieldA 1 (.tmp 63))), (qS 65 (.load 1 false (.tmp 64))), (qS 66 (.mv (.tmp 1))), (qS 67 (.pu (.n (.ar .neq)) [(.tmp 65), (.tmp 66)]))]) (.cond (.tmp 67) (.seq (.ops [(qS 4 (.mv (ic (-1))))]) .ret) .skip)) (.ops [(qS 68 (.mv (.tmp 1))), (qS 69 (.pu (.n (.ar .add)) [(.tmp 68), (ic 1)])), (qS 1 (.mv (.tmp 69)))]))))))))))))) (.ops [(qS 10 (.mv (.tmp 5))), (qS 11 (.pu (.n (.ar .add)) [(.tmp 10), (ic 1)])), (qS 5 (.mv (.tmp 11)))])))))) (.seq (.ops [(qS 70 (.mv (.tmp 1))), (qS 4 (.mv (.tmp 70)))]) .ret))), [(.tmp 4)]⟩
set_option maxHeartbeats 10000000 in
theorem d_laws_heldLOpS {P : Program} {env : Env}  (x0 : List TLOp) (x1 : Int) {b : Int} (hp : p_laws_heldLOpS x0 x1 = some b) : R P env (c_laws_heldLOpS) ((encA (x0, x1)).map ofI) [] (Tells true b) := by
  refine R_of (by simp [c_laws_heldLOpS, encA]) ?_
  unfold c_laws_heldLOpS
  unfold p_laws_heldLOpS at hp
  obtain ⟨ee0, hee0, hp⟩ := bind_eq hp
  simp (maxSteps := 2000000) (disch := first|omega|(simp only[ls];first|done|omega)) only [gm]
  refine W_loopP 0 (fun s t h => match s with | (s0, s1) => t 0 = .i (.sl 6 (x0.map enc)) ∧ t 1 = .i (.s (.int .i64 s0)) ∧ t 5 = .i (.s (.int .i64 s1))) (RK [.tmp 4] (Tells true)) ?_ hee0 ?_ ?_
  · rintro ⟨s0, s1⟩ ee tt0 hh0 ⟨ftt0_0, ftt0_1, ftt0_2⟩ hp
    rw [p_laws_heldLOpS_l0] at hp
    by_cases hb2 : (decide (s1 < (x0.length : Int))) = true
    · rw [if_t hb2] at hp
      obtain ⟨v3, hv3, hp⟩ := bind_eq hp
      by_cases hb4 : (decide (v3.kind = s0)) = true
      · rw [if_t hb4] at hp
        by_cases hb5 : (decide (v3.char = w64 (s0 + 1))) = true
        · rw [if_t hb5] at hp
          by_cases hb6 : (decide (v3.id.time = w64 ((w64 (s0 + 1)) + 1))) = true
          · rw [if_t hb6] at hp
            by_cases hb7 : (decide (v3.id.actor = w64 ((w64 ((w64 (s0 + 1)) + 1)) + 1))) = true
            · rw [if_t hb7] at hp
              by_cases hb8 : (decide (v3.at_.time = w64 ((w64 ((w64 ((w64 (s0 + 1)) + 1)) + 1)) + 1))) = true
              · rw [if_t hb8] at hp
                by_cases hb9 : (decide (v3.at_.actor = w64 ((w64 ((w64 ((w64 ((w64 (s0 + 1)) + 1)) + 1)) + 1)) + 1))) = true
                · rw [if_t hb9] at hp
                  have hp := Option.some.inj hp
                  subst hp
                  simp (maxSteps := 2000000) (disch := first|omega|(simp only[ls];first|done|omega)) only [ftt0_0, ftt0_1, ftt0_2, hb2, hv3, hb4, hb5, hb6, hb7, hb8, hb9, gm] <;> omega
                · replace hb9 := eq_false_of_ne_true hb9
                  rw [if_f hb9] at hp
                  have hp := Option.some.inj hp
                  subst hp
                  simp (maxSteps := 2000000) (disch := first|omega|(simp only[ls];first|done|omega)) only [ftt0_0, ftt0_1, ftt0_2, hb2, hv3, hb4, hb5, hb6, hb7, hb8, hb9, gm]
              · replace hb8 := eq_false_of_ne_true hb8
                rw [if_f hb8] at hp
                have hp := Option.some.inj hp
                subst hp
                simp (maxSteps := 2000000) (disch := first|omega|(simp only[ls];first|done|omega)) only [ftt0_0, ftt0_1, ftt0_2, hb2, hv3, hb4, hb5, hb6, hb7, hb8, gm]
            · replace hb7 := eq_false_of_ne_true hb7
              rw [if_f hb7] at hp
              have hp := Option.some.inj hp
              subst hp
              simp (maxSteps := 2000000) (disch := first|omega|(simp only[ls];first|done|omega)) only [ftt0_0, ftt0_1, ftt0_2, hb2, hv3, hb4, hb5, hb6, hb7, gm]
          · replace hb6 := eq_false_of_ne_true hb6
            rw [if_f hb6] at hp
            have hp := Option.some.inj hp
            subst hp
            simp (maxSteps := 2000000) (disch := first|omega|(simp only[ls];first|done|omega)) only [ftt0_0, ftt0_1, ftt0_2, hb2, hv3, hb4, hb5, hb6, gm]
        · replace hb5 := eq_false_of_ne_true hb5
          rw [if_f hb5] at hp
          have hp := Option.some.inj hp
          subst hp
          simp (maxSteps := 2000000) (disch := first|omega|(simp only[ls];first|done|omega)) only [ftt0_0, ftt0_1, ftt0_2, hb2, hv3, hb4, hb5, gm]
      · replace hb4 := eq_false_of_ne_true hb4
        rw [if_f hb4] at hp
        have hp := Option.some.inj hp
        subst hp
        simp (maxSteps := 2000000) (disch := first|omega|(simp only[ls];first|done|omega)) only [ftt0_0, ftt0_1, ftt0_2, hb2, hv3, hb4, gm]
    · replace hb2 := eq_false_of_ne_true hb2
      rw [if_f hb2] at hp
      have hp := Option.some.inj hp
      subst hp
      simp (maxSteps := 2000000) (disch := first|omega|(simp only[ls];first|done|omega)) only [ftt0_0, ftt0_1, ftt0_2, hb2, gm] <;> omega
  · simp (maxSteps := 2000000) (disch := first|omega|(simp only[ls];first|done|omega)) only [gm] <;> omega
  · intro x tt1 hh1 hx
    rcases ee0 with ⟨o10, o11⟩ | r
    · obtain ⟨rfl, ftt1_0, ftt1_1, ftt1_2⟩ := hx
      dsimp only at hp
      have hp := Option.some.inj hp
      subst hp
      simp (maxSteps := 2000000) (disch := first|omega|(simp only[ls];first|done|omega)) only [ftt1_0, ftt1_1, ftt1_2, gm]
    · obtain ⟨rfl, hx⟩ := hx
      dsimp only at hp
      cases hp
      simp only [seqK_ret, blockK_ret, retK_RK (K := Tells true), hx, and_self, true_and]

noncomputable def p_laws_FnExactListMerge (x0 : List TLOp) (x1 : List TLOp) : Option Bool :=
  (p_laws_szLOpS x0 1048576).bind fun v0 =>
  if (decide (v0 < 0)) = true then
    some true
  else
    (p_laws_szLOpS x1 v0).bind fun v2 =>
    if (decide (v2 < 0)) = true then
      some true
    else
      (p_laws_toLOpS x0).bind fun v4 =>
      (p_laws_toLOpS x1).bind fun v5 =>
      (p_spec_ListMerge v4 v5).bind fun v6 =>
      (p_impl_ListMerge v4 v5).bind fun v7 =>
      (p_laws_eqLOpS v7.a v6.a).bind fun v8 =>
      if (v8) = true then
        if (decide (v7.b = v6.b)) = true then
          (p_laws_eqLOpS v4 v4).bind fun v11 =>
          if (v11) = true then
            (p_laws_eqLOpS v5 v5).bind fun v13 =>
            if (v13) = true then
              (p_laws_markLOpS v4 1).bind fun v15 =>
              (p_laws_markLOpS v5 v15.a).bind fun v16 =>
              if (decide (v16.a < 0)) = true then
                some false
              else
                (p_laws_markLOpS v7.a 1).bind fun v18 =>
                (p_laws_heldLOpS v18.b 1).bind fun v19 =>
                if (decide (v19 < 0)) = true then
                  some false
                else
                  if (decide (v19 = v18.a)) = true then
                    some true
                  else
                    some false
            else
              some false
          else
            some false
        else
          some false
      else
        some false
def c_laws_FnExactListMerge (f_laws_szLOpS : Nat) (f_laws_toLOpS : Nat) (f_spec_ListMerge : Nat) (f_impl_ListMerge : Nat) (f_laws_eqLOpS : Nat) (f_laws_markLOpS : Nat) (f_laws_heldLOpS : Nat) : AFn := ⟨119, (.seq (.ops [(qS 4 (.mv (.const (.bool false))))]) (.seq (.ops [(qS 5 (.mv (ic 1048576)))]) (.seq (.ops [(qS 17 (.mv (.tmp 0))), (qS 18 (.mv (.tmp 5))), (qS 19 (.call (2 * f_laws_szLOpS) [(.tmp 17), (.tmp 18)])), (qS 5 (.mv (.tmp 19)))]) (.seq (.seq (.ops [(qS 20 (.mv (.tmp 5))), (qS 21 (.pu (.n (.ar .lss)) [(.tmp 20), (ic 0)]))]) (.cond (.tmp 21) (.seq (.ops [(qS 4 (.mv (.const (.bool true))))]) .ret) .skip)) (.seq (.ops [(qS 22 (.mv (.tmp 1))), (qS 23 (.mv (.tmp 5))), (qS 24 (.call (2 * f_laws_szLOpS) [(.tmp 22), (.tmp 23)])), (qS 5 (.mv (.tmp 24)))]) (.seq (.seq (.ops [(qS 25 (.mv (.tmp 5))), (qS 26 (.pu (.n (.ar .lss)) [(.tmp 25), (ic 0)]))]) (.cond (.tmp 26) (.seq (.ops [(qS 4 (.mv (.const (.bool true))))]) .ret) .skip)) (.seq (.ops [(qS 28 (.mv (.tmp 0))), (qS 29 (.call (2 * f_laws_toLOpS) [(.tmp 28)])), (qS 30 (.mv (.tmp 1))), (qS 31 (.call (2 * f_laws_toLOpS) [(.tmp 30)])), (qS 32 (.call (2 * f_spec_ListMerge) [(.tmp 29), (.tmp 31)])), (qS 27 (.mv (.tmp 32))), (qS 33 (.extract 0 (.tmp 27))), (qS 34 (.extract 1 (.tmp 27))), (qS 6 (.mv (.tmp 33))), (qS 7 (.mv (.tmp 34)))]) (.seq (.ops [(qS 35 (.mv (.tmp 0))), (qS 36 (.call (2 * f_laws_toLOpS + 1) [(.tmp 35)])), (qS 8 (.mv (.tmp 36)))]) (.seq (.ops [(qS 37 (.mv (.tmp 1))), (qS 38 (.call (2 * f_laws_toLOpS + 1) [(.tmp 37)])), (qS 9 (.mv (.tmp 38)))]) (.seq (.ops [(qS 40 (.mv (.tmp 8))), (qS 41 (.mv (.tmp 9))), (qS 42 (.call (2 * f_impl_ListMerge + 1) [(.tmp 40), (.tmp 41)])), (qS 39 (.mv (.tmp 42))), (qS 43 (.extract 0 (.tmp 39))), (qS 44 (.extract 1 (.tmp 39))), (qS 10 (.mv (.tmp 43))), (qS 11 (.mv (.tmp 44)))]) (.seq (.seq (.ops [(qS 45 (.mv (.tmp 10))), (qS 46 (.mv (.tmp 6))), (qS 47 (.call (2 * f_laws_eqLOpS) [(.tmp 45), (.tmp 46)])), (qS 48 (.pu (.n (.un .not)) [(.tmp 47)])), (qS 49 (.mv (.tmp 48))), ⟨(.some 50), (.mv (.tmp 11)), (.some (49, false)), [], .none⟩, ⟨(.some 51), (.mv (.tmp 7)), (.some (49, false)), [], .none⟩, ⟨(.some 52), (.pu (.n (.ar .neq)) [(.tmp 50), (.tmp 51)]), (.some (49, false)), [], .none⟩, (qS 53 (.pick (.tmp 49) (.const (.bool true)) (.tmp 52)))]) (.cond (.tmp 53) (.seq (.ops [(qS 4 (.mv (.const (.bool false))))]) .ret) .skip)) (.seq (.seq (.ops [(qS 54 (.mv (.tmp 8))), (qS 55 (.mv (.tmp 0))), (qS 56 (.call (2 * f_laws_toLOpS + 1) [(.tmp 55)])), (qS 57 (.call (2 * f_laws_eqLOpS) [(.tmp 54), (.tmp 56)])), (qS 58 (.pu (.n (.un .not)) [(.tmp 57)]))]) (.cond (.tmp 58) (.seq (.ops [(qS 4 (.mv (.const (.bool false))))]) .ret) .skip)) (.seq (.seq (.ops [(qS 59 (.mv (.tmp 9))), (qS 60 (.mv (.tmp 1))), (qS 61 (.call (2 * f_laws_toLOpS + 1) [(.tmp 60)])), (qS 62 (.call (2 * f_laws_eqLOpS) [(.tmp 59), (.tmp 61)])), (qS 63 (.pu (.n (.un .not)) [(.tmp 62)]))]) (.cond (.tmp 63) (.seq (.ops [(qS 4 (.mv (.const (.bool false))))]) .ret) .skip)) (.seq (.ops [(qS 12 (.mv (ic 1)))]) (.seq (.ops [(qS 64 (.mv (.tmp 8))), (qS 65 (.mv (.tmp 12))), (qS 66 (.call (2 * f_laws_markLOpS + 1) [(.tmp 64), (.tmp 65)])), (qS 12 (.mv (.tmp 66)))]) (.seq (.ops [(qS 67 (.mv (.tmp 9))), (qS 68 (.mv (.tmp 12))), (qS 69 (.call (2 * f_laws_markLOpS + 1) [(.tmp 67), (.tmp 68)])), (qS 12 (.mv (.tmp 69)))]) (.seq (.seq (.ops [(qS 70 (.mv (.tmp 12))), (qS 71 (.pu (.n (.ar .lss)) [(.tmp 70), (ic 0)])), (qS 72 (.mv (.tmp 71))), ⟨(.some 73), (.mv (.tmp 10)), (.some (72, false)), [], .none⟩, ⟨(.some 74), (.mv (.tmp 6)), (.some (72, false)), [], .none⟩, ⟨(.some 75), (.call (2 * f_laws_eqLOpS) [(.tmp 73), (.tmp 74)]), (.some (72, false)), [], .none⟩, ⟨(.some 76), (.pu (.n (.un .not)) [(.tmp 75)]), (.some (72, false)), [], .none⟩, (qS 77 (.pick (.tmp 72) (.const (.bool true)) (.tmp 76))), (qS 78 (.mv (.tmp 77))), ⟨(.some 79), (.mv (.tmp 11)), (.some (78, false)), [], .none⟩, ⟨(.some 80), (.mv (.tmp 7)), (.some (78, false)), [], .none⟩, ⟨(.some 81), (.pu (.n (.ar .neq)) [(.tmp 79), (.tmp 80)]), (.some (78, false)), [], .none⟩, (qS 82 (.pick (.tmp 78) (.const (.bool true)) (.tmp 81)))]) (.cond (.tmp 82) (.seq (.ops [(qS 4 (.mv (.const (.bool false))))]) .ret) .skip)) (.seq (.ops [(qS 13 (.mv (ic 1)))]) (.seq (.ops [(qS 83 (.mv (.tmp 10))), (qS 84 (.mv (.tmp 13))), (qS 85 (.call (2 * f_laws_markLOpS + 1) [(.tmp 83), (.tmp 84)])), (qS 13 (.mv (.tmp 85)))]) (.seq (.ops [(qS 14 (.mv (ic 1)))]) (.seq (.ops [(qS 86 (.mv (.tmp 10))), (qS 87 (.mv (.tmp 14))), (qS 88 (.call (2 * f_laws_heldLOpS) [(.tmp 86), (.tmp 87)])), (qS 14 (.mv (.tmp 88)))]) (.seq (.seq (.ops [(qS 89 (.mv (.tmp 14))), (qS 90 (.pu (.n (.ar .lss)) [(.tmp 89), (ic 0)]))]) (.cond (.tmp 90) (.seq (.ops [(qS 4 (.mv (.const (.bool false))))]) .ret) .skip)) (.seq (.seq (.ops [(qS 91 (.mv (.tmp 14))), (qS 92 (.mv (.tmp 13))), (qS 93 (.pu (.n (.ar .neq)) [(.tmp 91), (.tmp 92)]))]) (.cond (.tmp 93) (.seq (.ops [(qS 4 (.mv (.const (.bool false))))]) .ret) .skip)) (.seq (.ops [(qS 95 (.mv (.tmp 0))), (qS 96 (.call (2 * f_laws_toLOpS + 1) [(.tmp 95)])), (qS 97 (.mv (.tmp 1))), (qS 98 (.call (2 * f_laws_toLOpS + 1) [(.tmp 97)])), (qS 99 (.call (2 * f_impl_ListMerge + 1) [(.tmp 96), (.tmp 98)])), (qS 94 (.mv (.tmp 99))), (qS 100 (.extract 0 (.tmp 94))), (qS 101 (.extract 1 (.tmp 94))), (qS 15 (.mv (.tmp 100))), (qS 16 (.mv (.tmp 101)))]) (.seq (.seq (.ops [(qS 102 (.mv (.tmp 15))), (qS 103 (.mv (.tmp 6))), (qS 104 (.call (2 * f_laws_eqLOpS) [(.tmp 102), (.tmp 103)])), (qS 105 (.pu (.n (.un .not)) [(.tmp 104)])), (qS 106 (.mv (.tmp 105))), ⟨(.some 107), (.mv (.tmp 16)), (.some (106, false)), [], .none⟩, ⟨(.some 108), (.mv (.tmp 7)), (.some (106, false)), [], .none⟩, ⟨(.some 109), (.pu (.n (.ar .neq)) [(.tmp 107), (.tmp 108)]), (.some (106, false)), [], .none⟩, (qS 110 (.pick (.tmp 106) (.const (.bool true)) (.tmp 109)))]) (.cond (.tmp 110) (.seq (.ops [(qS 4 (.mv (.const (.bool false))))]) .ret) .skip)) (.seq (.ops [(qS 14 (.mv (ic 1)))]) (.seq (.ops [(qS 111 (.mv (.tmp 10))), (qS 112 (.mv (.tmp 14))), (qS 113 (.call (2 * f_laws_heldLOpS) [(.tmp 111), (.tmp 112)])), (qS 14 (.mv (.tmp 113)))]) (.seq (.seq (.ops [(qS 114 (.mv (.tmp 14))), (qS 115 (.pu (.n (.ar .lss)) [(.tmp 114), (ic 0)]))]) (.cond (.tmp 115) (.seq (.ops [(qS 4 (.mv (.const (.bool false))))]) .ret) .skip)) (.seq (.seq (.ops [(qS 116 (.mv (.tmp 14))), (qS 117 (.mv (.tmp 13))), (qS 118 (.pu (.n (.ar .neq)) [(.tmp 116), (.tmp 117)]))]) (.cond (.tmp 118) (.seq (.ops [(qS 4 (.mv (.const (.bool false))))]) .ret) .skip)) (.seq (.ops [(qS 4 (.mv (.const (.bool true))))]) .ret)))))))))))))))))))))))))))))), [(.tmp 4)]⟩
set_option maxHeartbeats 10000000 in
theorem d_laws_FnExactListMerge {P : Program} {env : Env} {f_laws_szLOpS : Nat} {f_laws_toLOpS : Nat} {f_spec_ListMerge : Nat} {f_impl_ListMerge : Nat} {f_laws_eqLOpS : Nat} {f_laws_markLOpS : Nat} {f_laws_heldLOpS : Nat}  (ep_laws_szLOpS : env (2 * f_laws_szLOpS) = pureFn true (FA fun a : List TLOp × Int => p_laws_szLOpS a.1 a.2)) (ep_laws_toLOpS : env (2 * f_laws_toLOpS) = pureFn true (FA fun a : List TLOp => p_laws_toLOpS a)) (ep_spec_ListMerge : env (2 * f_spec_ListMerge) = pureFn false (FA fun a : List TLOp × List TLOp => p_spec_ListMerge a.1 a.2)) (ep_laws_eqLOpS : env (2 * f_laws_eqLOpS) = pureFn true (FA fun a : List TLOp × List TLOp => p_laws_eqLOpS a.1 a.2)) (ep_laws_heldLOpS : env (2 * f_laws_heldLOpS) = pureFn true (FA fun a : List TLOp × Int => p_laws_heldLOpS a.1 a.2)) (e_laws_toLOpS : k_laws_toLOpS (env (2 * f_laws_toLOpS + 1))) (e_impl_ListMerge : k_impl_ListMerge (env (2 * f_impl_ListMerge + 1))) (e_laws_markLOpS : k_laws_markLOpS (env (2 * f_laws_markLOpS + 1))) (x0 : List TLOp) (x1 : List TLOp) (hp : p_laws_FnExactListMerge x0 x1 = some true) : R P env (c_laws_FnExactListMerge f_laws_szLOpS f_laws_toLOpS f_spec_ListMerge f_impl_ListMerge f_laws_eqLOpS f_laws_markLOpS f_laws_heldLOpS) ((encA (x0, x1)).map ofI) [] (fun v _ => v = .i (iB true)) := by
  refine R_of (by simp [c_laws_FnExactListMerge, encA]) ?_
  have E := And.intro ep_laws_szLOpS (And.intro ep_laws_toLOpS (And.intro ep_spec_ListMerge (And.intro ep_laws_eqLOpS ep_laws_heldLOpS)))
  unfold c_laws_FnExactListMerge
  unfold p_laws_FnExactListMerge at hp
  obtain ⟨v0, hv0, hp⟩ := bind_eq hp
  by_cases hb1 : (decide (v0 < 0)) = true
  · rw [if_t hb1] at hp
    cases hp
    simp (maxSteps := 2000000) (disch := first|omega|(simp only[ls];first|done|omega)) only [E, hv0, hb1, gm]
  · replace hb1 := eq_false_of_ne_true hb1
    rw [if_f hb1] at hp
    obtain ⟨v2, hv2, hp⟩ := bind_eq hp
    by_cases hb3 : (decide (v2 < 0)) = true
    · rw [if_t hb3] at hp
      cases hp
      simp (maxSteps := 2000000) (disch := first|omega|(simp only[ls];first|done|omega)) only [E, hv0, hb1, hv2, hb3, gm]
    · replace hb3 := eq_false_of_ne_true hb3
      rw [if_f hb3] at hp
      obtain ⟨v4, hv4, hp⟩ := bind_eq hp
      obtain ⟨v5, hv5, hp⟩ := bind_eq hp
      obtain ⟨v6, hv6, hp⟩ := bind_eq hp
      simp (maxSteps := 2000000) (disch := first|omega|(simp only[ls];first|done|omega)) only [E, hv0, hb1, hv2, hb3, hv4, hv5, hv6, gm]
      refine call_f (fun h => True) (fun h v h2 => oo_laws_toLOpS v4 h v h2) ?_ ?_ ?_
      · simp (maxSteps := 2000000) (disch := first|omega|(simp only[ls];first|done|omega)) only [E, hv0, hb1, hv2, hb3, hv4, hv5, hv6, gm] <;> omega
      · rintro h _
        exact e_laws_toLOpS _ _ hv4 h _ (by simp (maxSteps := 2000000) (disch := first|omega|(simp only[ls];first|done|omega)) only [E, hv0, hb1, hv2, hb3, hv4, hv5, hv6, gm])
      · rintro hc0 v hh0 _ hpost
        obtain ⟨kk0, nb0_0, rfl, lnb0_0, gnb0_0, wnb0_0⟩ := hpost
        have d0_0 := wnb0_0
        simp (maxSteps := 2000000) (disch := first|omega|(simp only[ls];first|done|omega)) only [E, hv0, hb1, hv2, hb3, hv4, hv5, hv6, d0_0, gm]
        refine call_f (fun h => getCells h nb0_0 (v4.length * 6) = some (rows (v4 : List TLOp)) ∧ nb0_0 < h.length) (fun h v h2 => oo_laws_toLOpS v5 h v h2) ?_ ?_ ?_
        · simp (maxSteps := 2000000) (disch := first|omega|(simp only[ls];first|done|omega)) only [E, hv0, hb1, hv2, hb3, hv4, hv5, hv6, d0_0, gm] <;> omega
        · rintro h ⟨c1_0, c1_1⟩
          exact e_laws_toLOpS _ _ hv5 h _ (by simp (maxSteps := 2000000) (disch := first|omega|(simp only[ls];first|done|omega)) only [E, hv0, hb1, hv2, hb3, hv4, hv5, hv6, d0_0, c1_0, c1_1, gm])
        · rintro hc1 v hh1 ⟨c1_0, c1_1⟩ hpost
          obtain ⟨kk1, nb1_0, rfl, lnb1_0, gnb1_0, wnb1_0⟩ := hpost
          have d1_0 : getCells hh1 nb0_0 (v4.length * 6) = some (rows (v4 : List TLOp)) := (keep_get kk1 c1_1 (by first | (simp; done) | (simp; omega))).trans c1_0
          have d1_0l := keep_lt kk1 c1_1
          have d1_1 := wnb1_0
          obtain ⟨v7, hv7, hp⟩ := bind_eq hp
          simp (maxSteps := 2000000) (disch := first|omega|(simp only[ls];first|done|omega)) only [E, hv0, hb1, hv2, hb3, hv4, hv5, hv6, d0_0, d1_0, d1_1, gm]
          refine call_f (fun h => getCells h nb0_0 (v4.length * 6) = some (rows (v4 : List TLOp)) ∧ nb0_0 < h.length ∧ getCells h nb1_0 (v5.length * 6) = some (rows (v5 : List TLOp)) ∧ nb1_0 < h.length) (fun h v h2 => oo_impl_ListMerge v7 h v h2) ?_ ?_ ?_
          · simp (maxSteps := 2000000) (disch := first|omega|(simp only[ls];first|done|omega)) only [E, hv0, hb1, hv2, hb3, hv4, hv5, hv6, d0_0, d1_0, d1_1, hv7, gm] <;> omega
          · rintro h ⟨c2_0, c2_1, c2_2, c2_3⟩
            exact e_impl_ListMerge _ _ _ hv7 h _ (by simp (maxSteps := 2000000) (disch := first|omega|(simp only[ls];first|done|omega)) only [E, hv0, hb1, hv2, hb3, hv4, hv5, hv6, d0_0, d1_0, d1_1, hv7, c2_0, c2_1, c2_2, c2_3, gm])
          · rintro hc2 v hh2 ⟨c2_0, c2_1, c2_2, c2_3⟩ hpost
            obtain ⟨kk2, nb2_0, rfl, lnb2_0, gnb2_0, wnb2_0⟩ := hpost
            have d2_0 : getCells hh2 nb0_0 (v4.length * 6) = some (rows (v4 : List TLOp)) := (keep_get kk2 c2_1 (by first | (simp; done) | (simp; omega))).trans c2_0
            have d2_0l := keep_lt kk2 c2_1
            have d2_1 : getCells hh2 nb1_0 (v5.length * 6) = some (rows (v5 : List TLOp)) := (keep_get kk2 c2_3 (by first | (simp; done) | (simp; omega))).trans c2_2
            have d2_1l := keep_lt kk2 c2_3
            have d2_2 := wnb2_0
            obtain ⟨v8, hv8, hp⟩ := bind_eq hp
            by_cases hb9 : (v8) = true
            · rw [if_t hb9] at hp
              by_cases hb10 : (decide (v7.b = v6.b)) = true
              · rw [if_t hb10] at hp
                simp (maxSteps := 2000000) (disch := first|omega|(simp only[ls];first|done|omega)) only [E, hv0, hb1, hv2, hb3, hv4, hv5, hv6, d0_0, d1_0, d1_1, hv7, d2_0, d2_1, d2_2, hv8, hb9, hb10, gm]
                refine call_f (fun h => getCells h nb0_0 (v4.length * 6) = some (rows (v4 : List TLOp)) ∧ nb0_0 < h.length ∧ getCells h nb1_0 (v5.length * 6) = some (rows (v5 : List TLOp)) ∧ nb1_0 < h.length ∧ getCells h nb2_0 (v7.a.length * 6) = some (rows (v7.a : List TLOp)) ∧ nb2_0 < h.length) (fun h v h2 => oo_laws_toLOpS v4 h v h2) ?_ ?_ ?_
                · simp (maxSteps := 2000000) (disch := first|omega|(simp only[ls];first|done|omega)) only [E, hv0, hb1, hv2, hb3, hv4, hv5, hv6, d0_0, d1_0, d1_1, hv7, d2_0, d2_1, d2_2, hv8, hb9, hb10, gm] <;> omega
                · rintro h ⟨c3_0, c3_1, c3_2, c3_3, c3_4, c3_5⟩
                  exact e_laws_toLOpS _ _ hv4 h _ (by simp (maxSteps := 2000000) (disch := first|omega|(simp only[ls];first|done|omega)) only [E, hv0, hb1, hv2, hb3, hv4, hv5, hv6, d0_0, d1_0, d1_1, hv7, d2_0, d2_1, d2_2, hv8, hb9, hb10, c3_0, c3_1, c3_2, c3_3, c3_4, c3_5, gm])
                · rintro hc3 v hh3 ⟨c3_0, c3_1, c3_2, c3_3, c3_4, c3_5⟩ hpost
                  obtain ⟨kk3, nb3_0, rfl, lnb3_0, gnb3_0, wnb3_0⟩ := hpost
                  have d3_0 : getCells hh3 nb0_0 (v4.length * 6) = some (rows (v4 : List TLOp)) := (keep_get kk3 c3_1 (by first | (simp; done) | (simp; omega))).trans c3_0
                  have d3_0l := keep_lt kk3 c3_1
                  have d3_1 : getCells hh3 nb1_0 (v5.length * 6) = some (rows (v5 : List TLOp)) := (keep_get kk3 c3_3 (by first | (simp; done) | (simp; omega))).trans c3_2
                  have d3_1l := keep_lt kk3 c3_3
                  have d3_2 : getCells hh3 nb2_0 (v7.a.length * 6) = some (rows (v7.a : List TLOp)) := (keep_get kk3 c3_5 (by first | (simp; done) | (simp; omega))).trans c3_4
                  have d3_2l := keep_lt kk3 c3_5
                  have d3_3 := wnb3_0
                  obtain ⟨v11, hv11, hp⟩ := bind_eq hp
                  by_cases hb12 : (v11) = true
                  · rw [if_t hb12] at hp
                    simp (maxSteps := 2000000) (disch := first|omega|(simp only[ls];first|done|omega)) only [E, hv0, hb1, hv2, hb3, hv4, hv5, hv6, d0_0, d1_0, d1_1, hv7, d2_0, d2_1, d2_2, hv8, hb9, hb10, d3_0, d3_1, d3_2, d3_3, hv11, hb12, gm]
                    refine call_f (fun h => getCells h nb0_0 (v4.length * 6) = some (rows (v4 : List TLOp)) ∧ nb0_0 < h.length ∧ getCells h nb1_0 (v5.length * 6) = some (rows (v5 : List TLOp)) ∧ nb1_0 < h.length ∧ getCells h nb2_0 (v7.a.length * 6) = some (rows (v7.a : List TLOp)) ∧ nb2_0 < h.length ∧ getCells h nb3_0 (v4.length * 6) = some (rows (v4 : List TLOp)) ∧ nb3_0 < h.length) (fun h v h2 => oo_laws_toLOpS v5 h v h2) ?_ ?_ ?_
                    · simp (maxSteps := 2000000) (disch := first|omega|(simp only[ls];first|done|omega)) only [E, hv0, hb1, hv2, hb3, hv4, hv5, hv6, d0_0, d1_0, d1_1, hv7, d2_0, d2_1, d2_2, hv8, hb9, hb10, d3_0, d3_1, d3_2, d3_3, hv11, hb12, gm] <;> omega
                    · rintro h ⟨c4_0, c4_1, c4_2, c4_3, c4_4, c4_5, c4_6, c4_7⟩
                      exact e_laws_toLOpS _ _ hv5 h _ (by simp (maxSteps := 2000000) (disch := first|omega|(simp only[ls];first|done|omega)) only [E, hv0, hb1, hv2, hb3, hv4, hv5, hv6, d0_0, d1_0, d1_1, hv7, d2_0, d2_1, d2_2, hv8, hb9, hb10, d3_0, d3_1, d3_2, d3_3, hv11, hb12, c4_0, c4_1, c4_2, c4_3, c4_4, c4_5, c4_6, c4_7, gm])
                    · rintro hc4 v hh4 ⟨c4_0, c4_1, c4_2, c4_3, c4_4, c4_5, c4_6, c4_7⟩ hpost
                      obtain ⟨kk4, nb4_0, rfl, lnb4_0, gnb4_0, wnb4_0⟩ := hpost
                      have d4_0 : getCells hh4 nb0_0 (v4.length * 6) = some (rows (v4 : List TLOp)) := (keep_get kk4 c4_1 (by first | (simp; done) | (simp; omega))).trans c4_0
                      have d4_0l := keep_lt kk4 c4_1
                      have d4_1 : getCells hh4 nb1_0 (v5.length * 6) = some (rows (v5 : List TLOp)) := (keep_get kk4 c4_3 (by first | (simp; done) | (simp; omega))).trans c4_2
                      have d4_1l := keep_lt kk4 c4_3
                      have d4_2 : getCells hh4 nb2_0 (v7.a.length * 6) = some (rows (v7.a : List TLOp)) := (keep_get kk4 c4_5 (by first | (simp; done) | (simp; omega))).trans c4_4
                      have d4_2l := keep_lt kk4 c4_5
                      have d4_3 : getCells hh4 nb3_0 (v4.length * 6) = some (rows (v4 : List TLOp)) := (keep_get kk4 c4_7 (by first | (simp; done) | (simp; omega))).trans c4_6
                      have d4_3l := keep_lt kk4 c4_7
                      have d4_4 := wnb4_0
                      obtain ⟨v13, hv13, hp⟩ := bind_eq hp
                      by_cases hb14 : (v13) = true
                      · rw [if_t hb14] at hp
                        obtain ⟨v15, hv15, hp⟩ := bind_eq hp
                        simp (maxSteps := 2000000) (disch := first|omega|(simp only[ls];first|done|omega)) only [E, hv0, hb1, hv2, hb3, hv4, hv5, hv6, d0_0, d1_0, d1_1, hv7, d2_0, d2_1, d2_2, hv8, hb9, hb10, d3_0, d3_1, d3_2, d3_3, hv11, hb12, d4_0, d4_1, d4_2, d4_3, d4_4, hv13, hb14, gm]
                        refine call_f (fun h => getCells h nb0_0 (v4.length * 6) = some (rows (v4 : List TLOp)) ∧ nb0_0 < h.length ∧ getCells h nb1_0 (v5.length * 6) = some (rows (v5 : List TLOp)) ∧ nb1_0 < h.length ∧ getCells h nb2_0 (v7.a.length * 6) = some (rows (v7.a : List TLOp)) ∧ nb2_0 < h.length ∧ getCells h nb3_0 (v4.length * 6) = some (rows (v4 : List TLOp)) ∧ nb3_0 < h.length ∧ getCells h nb4_0 (v5.length * 6) = some (rows (v5 : List TLOp)) ∧ nb4_0 < h.length) (fun h v h2 => i_laws_markLOpS nb0_0 v4.length h v15 v h2) ?_ ?_ ?_
                        · simp (maxSteps := 2000000) (disch := first|omega|(simp only[ls];first|done|omega)) only [E, hv0, hb1, hv2, hb3, hv4, hv5, hv6, d0_0, d1_0, d1_1, hv7, d2_0, d2_1, d2_2, hv8, hb9, hb10, d3_0, d3_1, d3_2, d3_3, hv11, hb12, d4_0, d4_1, d4_2, d4_3, d4_4, hv13, hb14, hv15, gm] <;> omega
                        · rintro h ⟨c5_0, c5_1, c5_2, c5_3, c5_4, c5_5, c5_6, c5_7, c5_8, c5_9⟩
                          exact e_laws_markLOpS _ _ _ hv15 nb0_0 v4.length h (by first | omega | rfl) c5_0
                        · rintro hc5 v hh5 ⟨c5_0, c5_1, c5_2, c5_3, c5_4, c5_5, c5_6, c5_7, c5_8, c5_9⟩ hpost
                          obtain ⟨kk5, rfl, w5_0⟩ := hpost
                          have d5_0 : getCells hh5 nb0_0 (v4.length * 6) = some (rows (v15.b : List TLOp)) := w5_0
                          have mm5_0 := len_rows w5_0
                          simp only [zs] at mm5_0
                          have d5_0l := keep_lt kk5 c5_1
                          have d5_1 : getCells hh5 nb1_0 (v5.length * 6) = some (rows (v5 : List TLOp)) := (keep_get kk5 c5_3 (by first | (simp; done) | (simp; omega))).trans c5_2
                          have d5_1l := keep_lt kk5 c5_3
                          have d5_2 : getCells hh5 nb2_0 (v7.a.length * 6) = some (rows (v7.a : List TLOp)) := (keep_get kk5 c5_5 (by first | (simp; done) | (simp; omega))).trans c5_4
                          have d5_2l := keep_lt kk5 c5_5
                          have d5_3 : getCells hh5 nb3_0 (v4.length * 6) = some (rows (v4 : List TLOp)) := (keep_get kk5 c5_7 (by first | (simp; done) | (simp; omega))).trans c5_6
                          have d5_3l := keep_lt kk5 c5_7
                          have d5_4 : getCells hh5 nb4_0 (v5.length * 6) = some (rows (v5 : List TLOp)) := (keep_get kk5 c5_9 (by first | (simp; done) | (simp; omega))).trans c5_8
                          have d5_4l := keep_lt kk5 c5_9
                          obtain ⟨v16, hv16, hp⟩ := bind_eq hp
                          simp (maxSteps := 2000000) (disch := first|omega|(simp only[ls];first|done|omega)) only [E, hv0, hb1, hv2, hb3, hv4, hv5, hv6, d0_0, d1_0, d1_1, hv7, d2_0, d2_1, d2_2, hv8, hb9, hb10, d3_0, d3_1, d3_2, d3_3, hv11, hb12, d4_0, d4_1, d4_2, d4_3, d4_4, hv13, hb14, hv15, d5_0, d5_1, d5_2, d5_3, d5_4, gm]
                          refine call_f (fun h => getCells h nb0_0 (v4.length * 6) = some (rows (v15.b : List TLOp)) ∧ nb0_0 < h.length ∧ getCells h nb1_0 (v5.length * 6) = some (rows (v5 : List TLOp)) ∧ nb1_0 < h.length ∧ getCells h nb2_0 (v7.a.length * 6) = some (rows (v7.a : List TLOp)) ∧ nb2_0 < h.length ∧ getCells h nb3_0 (v4.length * 6) = some (rows (v4 : List TLOp)) ∧ nb3_0 < h.length ∧ getCells h nb4_0 (v5.length * 6) = some (rows (v5 : List TLOp)) ∧ nb4_0 < h.length) (fun h v h2 => i_laws_markLOpS nb1_0 v5.length h v16 v h2) ?_ ?_ ?_
                          · simp (maxSteps := 2000000) (disch := first|omega|(simp only[ls];first|done|omega)) only [E, hv0, hb1, hv2, hb3, hv4, hv5, hv6, d0_0, d1_0, d1_1, hv7, d2_0, d2_1, d2_2, hv8, hb9, hb10, d3_0, d3_1, d3_2, d3_3, hv11, hb12, d4_0, d4_1, d4_2, d4_3, d4_4, hv13, hb14, hv15, d5_0, d5_1, d5_2, d5_3, d5_4, hv16, gm] <;> omega
                          · rintro h ⟨c6_0, c6_1, c6_2, c6_3, c6_4, c6_5, c6_6, c6_7, c6_8, c6_9⟩
                            exact e_laws_markLOpS _ _ _ hv16 nb1_0 v5.length h (by first | omega | rfl) c6_2
                          · rintro hc6 v hh6 ⟨c6_0, c6_1, c6_2, c6_3, c6_4, c6_5, c6_6, c6_7, c6_8, c6_9⟩ hpost
                            obtain ⟨kk6, rfl, w6_0⟩ := hpost
                            have d6_0 : getCells hh6 nb0_0 (v4.length * 6) = some (rows (v15.b : List TLOp)) := (keep_get kk6 c6_1 (by first | (simp; done) | (simp; omega))).trans c6_0
                            have d6_0l := keep_lt kk6 c6_1
                            have d6_1 : getCells hh6 nb1_0 (v5.length * 6) = some (rows (v16.b : List TLOp)) := w6_0
                            have mm6_0 := len_rows w6_0
                            simp only [zs] at mm6_0
                            have d6_1l := keep_lt kk6 c6_3
                            have d6_2 : getCells hh6 nb2_0 (v7.a.length * 6) = some (rows (v7.a : List TLOp)) := (keep_get kk6 c6_5 (by first | (simp; done) | (simp; omega))).trans c6_4
                            have d6_2l := keep_lt kk6 c6_5
                            have d6_3 : getCells hh6 nb3_0 (v4.length * 6) = some (rows (v4 : List TLOp)) := (keep_get kk6 c6_7 (by first | (simp; done) | (simp; omega))).trans c6_6
                            have d6_3l := keep_lt kk6 c6_7
                            have d6_4 : getCells hh6 nb4_0 (v5.length * 6) = some (rows (v5 : List TLOp)) := (keep_get kk6 c6_9 (by first | (simp; done) | (simp; omega))).trans c6_8
                            have d6_4l := keep_lt kk6 c6_9
                            by_cases hb17 : (decide (v16.a < 0)) = true
                            · rw [if_t hb17] at hp
                              cases hp
                            · replace hb17 := eq_false_of_ne_true hb17
                              rw [if_f hb17] at hp
                              obtain ⟨v18, hv18, hp⟩ := bind_eq hp
                              simp (maxSteps := 2000000) (disch := first|omega|(simp only[ls];first|done|omega)) only [E, hv0, hb1, hv2, hb3, hv4, hv5, hv6, d0_0, d1_0, d1_1, hv7, d2_0, d2_1, d2_2, hv8, hb9, hb10, d3_0, d3_1, d3_2, d3_3, hv11, hb12, d4_0, d4_1, d4_2, d4_3, d4_4, hv13, hb14, hv15, d5_0, d5_1, d5_2, d5_3, d5_4, hv16, d6_0, d6_1, d6_2, d6_3, d6_4, hb17, gm]
                              refine call_f (fun h => getCells h nb0_0 (v4.length * 6) = some (rows (v15.b : List TLOp)) ∧ nb0_0 < h.length ∧ getCells h nb1_0 (v5.length * 6) = some (rows (v16.b : List TLOp)) ∧ nb1_0 < h.length ∧ getCells h nb2_0 (v7.a.length * 6) = some (rows (v7.a : List TLOp)) ∧ nb2_0 < h.length ∧ getCells h nb3_0 (v4.length * 6) = some (rows (v4 : List TLOp)) ∧ nb3_0 < h.length ∧ getCells h nb4_0 (v5.length * 6) = some (rows (v5 : List TLOp)) ∧ nb4_0 < h.length) (fun h v h2 => i_laws_markLOpS nb2_0 v7.a.length h v18 v h2) ?_ ?_ ?_
                              · simp (maxSteps := 2000000) (disch := first|omega|(simp only[ls];first|done|omega)) only [E, hv0, hb1, hv2, hb3, hv4, hv5, hv6, d0_0, d1_0, d1_1, hv7, d2_0, d2_1, d2_2, hv8, hb9, hb10, d3_0, d3_1, d3_2, d3_3, hv11, hb12, d4_0, d4_1, d4_2, d4_3, d4_4, hv13, hb14, hv15, d5_0, d5_1, d5_2, d5_3, d5_4, hv16, d6_0, d6_1, d6_2, d6_3, d6_4, hb17, hv18, gm] <;> omega
                              · rintro h ⟨c7_0, c7_1, c7_2, c7_3, c7_4, c7_5, c7_6, c7_7, c7_8, c7_9⟩
                                exact e_laws_markLOpS _ _ _ hv18 nb2_0 v7.a.length h (by first | omega | rfl) c7_4
                              · rintro hc7 v hh7 ⟨c7_0, c7_1, c7_2, c7_3, c7_4, c7_5, c7_6, c7_7, c7_8, c7_9⟩ hpost
                                obtain ⟨kk7, rfl, w7_0⟩ := hpost
                                have d7_0 : getCells hh7 nb0_0 (v4.length * 6) = some (rows (v15.b : List TLOp)) := (keep_get kk7 c7_1 (by first | (simp; done) | (simp; omega))).trans c7_0
                                have d7_0l := keep_lt kk7 c7_1
                                have d7_1 : getCells hh7 nb1_0 (v5.length * 6) = some (rows (v16.b : List TLOp)) := (keep_get kk7 c7_3 (by first | (simp; done) | (simp; omega))).trans c7_2
                                have d7_1l := keep_lt kk7 c7_3
                                have d7_2 : getCells hh7 nb2_0 (v7.a.length * 6) = some (rows (v18.b : List TLOp)) := w7_0
                                have mm7_0 := len_rows w7_0
                                simp only [zs] at mm7_0
                                have d7_2l := keep_lt kk7 c7_5
                                have d7_3 : getCells hh7 nb3_0 (v4.length * 6) = some (rows (v4 : List TLOp)) := (keep_get kk7 c7_7 (by first | (simp; done) | (simp; omega))).trans c7_6
                                have d7_3l := keep_lt kk7 c7_7
                                have d7_4 : getCells hh7 nb4_0 (v5.length * 6) = some (rows (v5 : List TLOp)) := (keep_get kk7 c7_9 (by first | (simp; done) | (simp; omega))).trans c7_8
                                have d7_4l := keep_lt kk7 c7_9
                                obtain ⟨v19, hv19, hp⟩ := bind_eq hp
                                by_cases hb20 : (decide (v19 < 0)) = true
                                · rw [if_t hb20] at hp
                                  cases hp
                                · replace hb20 := eq_false_of_ne_true hb20
                                  rw [if_f hb20] at hp
                                  by_cases hb21 : (decide (v19 = v18.a)) = true
                                  · rw [if_t hb21] at hp
                                    simp (maxSteps := 2000000) (disch := first|omega|(simp only[ls];first|done|omega)) only [E, hv0, hb1, hv2, hb3, hv4, hv5, hv6, d0_0, d1_0, d1_1, hv7, d2_0, d2_1, d2_2, hv8, hb9, hb10, d3_0, d3_1, d3_2, d3_3, hv11, hb12, d4_0, d4_1, d4_2, d4_3, d4_4, hv13, hb14, hv15, d5_0, d5_1, d5_2, d5_3, d5_4, hv16, d6_0, d6_1, d6_2, d6_3, d6_4, hb17, hv18, d7_0, d7_1, d7_2, d7_3, d7_4, hv19, hb20, hb21, gm]
                                    refine call_f (fun h => getCells h nb0_0 (v4.length * 6) = some (rows (v15.b : List TLOp)) ∧ nb0_0 < h.length ∧ getCells h nb1_0 (v5.length * 6) = some (rows (v16.b : List TLOp)) ∧ nb1_0 < h.length ∧ getCells h nb2_0 (v7.a.length * 6) = some (rows (v18.b : List TLOp)) ∧ nb2_0 < h.length ∧ getCells h nb3_0 (v4.length * 6) = some (rows (v4 : List TLOp)) ∧ nb3_0 < h.length ∧ getCells h nb4_0 (v5.length * 6) = some (rows (v5 : List TLOp)) ∧ nb4_0 < h.length) (fun h v h2 => oo_laws_toLOpS v4 h v h2) ?_ ?_ ?_
                                    · simp (maxSteps := 2000000) (disch := first|omega|(simp only[ls];first|done|omega)) only [E, hv0, hb1, hv2, hb3, hv4, hv5, hv6, d0_0, d1_0, d1_1, hv7, d2_0, d2_1, d2_2, hv8, hb9, hb10, d3_0, d3_1, d3_2, d3_3, hv11, hb12, d4_0, d4_1, d4_2, d4_3, d4_4, hv13, hb14, hv15, d5_0, d5_1, d5_2, d5_3, d5_4, hv16, d6_0, d6_1, d6_2, d6_3, d6_4, hb17, hv18, d7_0, d7_1, d7_2, d7_3, d7_4, hv19, hb20, hb21, gm] <;> omega
                                    · rintro h ⟨c8_0, c8_1, c8_2, c8_3, c8_4, c8_5, c8_6, c8_7, c8_8, c8_9⟩
                                      exact e_laws_toLOpS _ _ hv4 h _ (by simp (maxSteps := 2000000) (disch := first|omega|(simp only[ls];first|done|omega)) only [E, hv0, hb1, hv2, hb3, hv4, hv5, hv6, d0_0, d1_0, d1_1, hv7, d2_0, d2_1, d2_2, hv8, hb9, hb10, d3_0, d3_1, d3_2, d3_3, hv11, hb12, d4_0, d4_1, d4_2, d4_3, d4_4, hv13, hb14, hv15, d5_0, d5_1, d5_2, d5_3, d5_4, hv16, d6_0, d6_1, d6_2, d6_3, d6_4, hb17, hv18, d7_0, d7_1, d7_2, d7_3, d7_4, hv19, hb20, hb21, c8_0, c8_1, c8_2, c8_3, c8_4, c8_5, c8_6, c8_7, c8_8, c8_9, gm])
                                    · rintro hc8 v hh8 ⟨c8_0, c8_1, c8_2, c8_3, c8_4, c8_5, c8_6, c8_7, c8_8, c8_9⟩ hpost
                                      obtain ⟨kk8, nb8_0, rfl, lnb8_0, gnb8_0, wnb8_0⟩ := hpost
                                      have d8_0 : getCells hh8 nb0_0 (v4.length * 6) = some (rows (v15.b : List TLOp)) := (keep_get kk8 c8_1 (by first | (simp; done) | (simp; omega))).trans c8_0
                                      have d8_0l := keep_lt kk8 c8_1
                                      have d8_1 : getCells hh8 nb1_0 (v5.length * 6) = some (rows (v16.b : List TLOp)) := (keep_get kk8 c8_3 (by first | (simp; done) | (simp; omega))).trans c8_2
                                      have d8_1l := keep_lt kk8 c8_3
                                      have d8_2 : getCells hh8 nb2_0 (v7.a.length * 6) = some (rows (v18.b : List TLOp)) := (keep_get kk8 c8_5 (by first | (simp; done) | (simp; omega))).trans c8_4
                                      have d8_2l := keep_lt kk8 c8_5
                                      have d8_3 : getCells hh8 nb3_0 (v4.length * 6) = some (rows (v4 : List TLOp)) := (keep_get kk8 c8_7 (by first | (simp; done) | (simp; omega))).trans c8_6
                                      have d8_3l := keep_lt kk8 c8_7
                                      have d8_4 : getCells hh8 nb4_0 (v5.length * 6) = some (rows (v5 : List TLOp)) := (keep_get kk8 c8_9 (by first | (simp; done) | (simp; omega))).trans c8_8
                                      have d8_4l := keep_lt kk8 c8_9
                                      have d8_5 := wnb8_0
                                      simp (maxSteps := 2000000) (disch := first|omega|(simp only[ls];first|done|omega)) only [E, hv0, hb1, hv2, hb3, hv4, hv5, hv6, d0_0, d1_0, d1_1, hv7, d2_0, d2_1, d2_2, hv8, hb9, hb10, d3_0, d3_1, d3_2, d3_3, hv11, hb12, d4_0, d4_1, d4_2, d4_3, d4_4, hv13, hb14, hv15, d5_0, d5_1, d5_2, d5_3, d5_4, hv16, d6_0, d6_1, d6_2, d6_3, d6_4, hb17, hv18, d7_0, d7_1, d7_2, d7_3, d7_4, hv19, hb20, hb21, d8_0, d8_1, d8_2, d8_3, d8_4, d8_5, gm]
                                      refine call_f (fun h => getCells h nb0_0 (v4.length * 6) = some (rows (v15.b : List TLOp)) ∧ nb0_0 < h.length ∧ getCells h nb1_0 (v5.length * 6) = some (rows (v16.b : List TLOp)) ∧ nb1_0 < h.length ∧ getCells h nb2_0 (v7.a.length * 6) = some (rows (v18.b : List TLOp)) ∧ nb2_0 < h.length ∧ getCells h nb3_0 (v4.length * 6) = some (rows (v4 : List TLOp)) ∧ nb3_0 < h.length ∧ getCells h nb4_0 (v5.length * 6) = some (rows (v5 : List TLOp)) ∧ nb4_0 < h.length ∧ getCells h nb8_0 (v4.length * 6) = some (rows (v4 : List TLOp)) ∧ nb8_0 < h.length) (fun h v h2 => oo_laws_toLOpS v5 h v h2) ?_ ?_ ?_
                                      · simp (maxSteps := 2000000) (disch := first|omega|(simp only[ls];first|done|omega)) only [E, hv0, hb1, hv2, hb3, hv4, hv5, hv6, d0_0, d1_0, d1_1, hv7, d2_0, d2_1, d2_2, hv8, hb9, hb10, d3_0, d3_1, d3_2, d3_3, hv11, hb12, d4_0, d4_1, d4_2, d4_3, d4_4, hv13, hb14, hv15, d5_0, d5_1, d5_2, d5_3, d5_4, hv16, d6_0, d6_1, d6_2, d6_3, d6_4, hb17, hv18, d7_0, d7_1, d7_2, d7_3, d7_4, hv19, hb20, hb21, d8_0, d8_1, d8_2, d8_3, d8_4, d8_5, gm] <;> omega
                                      · rintro h ⟨c9_0, c9_1, c9_2, c9_3, c9_4, c9_5, c9_6, c9_7, c9_8, c9_9, c9_10, c9_11⟩
                                        exact e_laws_toLOpS _ _ hv5 h _ (by simp (maxSteps := 2000000) (disch := first|omega|(simp only[ls];first|done|omega)) only [E, hv0, hb1, hv2, hb3, hv4, hv5, hv6, d0_0, d1_0, d1_1, hv7, d2_0, d2_1, d2_2, hv8, hb9, hb10, d3_0, d3_1, d3_2, d3_3, hv11, hb12, d4_0, d4_1, d4_2, d4_3, d4_4, hv13, hb14, hv15, d5_0, d5_1, d5_2, d5_3, d5_4, hv16, d6_0, d6_1, d6_2, d6_3, d6_4, hb17, hv18, d7_0, d7_1, d7_2, d7_3, d7_4, hv19, hb20, hb21, d8_0, d8_1, d8_2, d8_3, d8_4, d8_5, c9_0, c9_1, c9_2, c9_3, c9_4, c9_5, c9_6, c9_7, c9_8, c9_9, c9_10, c9_11, gm])
                                      · rintro hc9 v hh9 ⟨c9_0, c9_1, c9_2, c9_3, c9_4, c9_5, c9_6, c9_7, c9_8, c9_9, c9_10, c9_11⟩ hpost
                                        obtain ⟨kk9, nb9_0, rfl, lnb9_0, gnb9_0, wnb9_0⟩ := hpost
                                        have d9_0 : getCells hh9 nb0_0 (v4.length * 6) = some (rows (v15.b : List TLOp)) := (keep_get kk9 c9_1 (by first | (simp; done) | (simp; omega))).trans c9_0
                                        have d9_0l := keep_lt kk9 c9_1
                                        have d9_1 : getCells hh9 nb1_0 (v5.length * 6) = some (rows (v16.b : List TLOp)) := (keep_get kk9 c9_3 (by first | (simp; done) | (simp; omega))).trans c9_2
                                        have d9_1l := keep_lt kk9 c9_3
                                        have d9_2 : getCells hh9 nb2_0 (v7.a.length * 6) = some (rows (v18.b : List TLOp)) := (keep_get kk9 c9_5 (by first | (simp; done) | (simp; omega))).trans c9_4
                                        have d9_2l := keep_lt kk9 c9_5
                                        have d9_3 : getCells hh9 nb3_0 (v4.length * 6) = some (rows (v4 : List TLOp)) := (keep_get kk9 c9_7 (by first | (simp; done) | (simp; omega))).trans c9_6
                                        have d9_3l := keep_lt kk9 c9_7
                                        have d9_4 : getCells hh9 nb4_0 (v5.length * 6) = some (rows (v5 : List TLOp)) := (keep_get kk9 c9_9 (by first | (simp; done) | (simp; omega))).trans c9_8
                                        have d9_4l := keep_lt kk9 c9_9
                                        have d9_5 : getCells hh9 nb8_0 (v4.length * 6) = some (rows (v4 : List TLOp)) := (keep_get kk9 c9_11 (by first | (simp; done) | (simp; omega))).trans c9_10
                                        have d9_5l := keep_lt kk9 c9_11
                                        have d9_6 := wnb9_0
                                        simp (maxSteps := 2000000) (disch := first|omega|(simp only[ls];first|done|omega)) only [E, hv0, hb1, hv2, hb3, hv4, hv5, hv6, d0_0, d1_0, d1_1, hv7, d2_0, d2_1, d2_2, hv8, hb9, hb10, d3_0, d3_1, d3_2, d3_3, hv11, hb12, d4_0, d4_1, d4_2, d4_3, d4_4, hv13, hb14, hv15, d5_0, d5_1, d5_2, d5_3, d5_4, hv16, d6_0, d6_1, d6_2, d6_3, d6_4, hb17, hv18, d7_0, d7_1, d7_2, d7_3, d7_4, hv19, hb20, hb21, d8_0, d8_1, d8_2, d8_3, d8_4, d8_5, d9_0, d9_1, d9_2, d9_3, d9_4, d9_5, d9_6, gm]
                                        refine call_f (fun h => getCells h nb0_0 (v4.length * 6) = some (rows (v15.b : List TLOp)) ∧ nb0_0 < h.length ∧ getCells h nb1_0 (v5.length * 6) = some (rows (v16.b : List TLOp)) ∧ nb1_0 < h.length ∧ getCells h nb2_0 (v7.a.length * 6) = some (rows (v18.b : List TLOp)) ∧ nb2_0 < h.length ∧ getCells h nb3_0 (v4.length * 6) = some (rows (v4 : List TLOp)) ∧ nb3_0 < h.length ∧ getCells h nb4_0 (v5.length * 6) = some (rows (v5 : List TLOp)) ∧ nb4_0 < h.length ∧ getCells h nb8_0 (v4.length * 6) = some (rows (v4 : List TLOp)) ∧ nb8_0 < h.length ∧ getCells h nb9_0 (v5.length * 6) = some (rows (v5 : List TLOp)) ∧ nb9_0 < h.length) (fun h v h2 => oo_impl_ListMerge v7 h v h2) ?_ ?_ ?_
                                        · simp (maxSteps := 2000000) (disch := first|omega|(simp only[ls];first|done|omega)) only [E, hv0, hb1, hv2, hb3, hv4, hv5, hv6, d0_0, d1_0, d1_1, hv7, d2_0, d2_1, d2_2, hv8, hb9, hb10, d3_0, d3_1, d3_2, d3_3, hv11, hb12, d4_0, d4_1, d4_2, d4_3, d4_4, hv13, hb14, hv15, d5_0, d5_1, d5_2, d5_3, d5_4, hv16, d6_0, d6_1, d6_2, d6_3, d6_4, hb17, hv18, d7_0, d7_1, d7_2, d7_3, d7_4, hv19, hb20, hb21, d8_0, d8_1, d8_2, d8_3, d8_4, d8_5, d9_0, d9_1, d9_2, d9_3, d9_4, d9_5, d9_6, gm] <;> omega
                                        · rintro h ⟨c10_0, c10_1, c10_2, c10_3, c10_4, c10_5, c10_6, c10_7, c10_8, c10_9, c10_10, c10_11, c10_12, c10_13⟩
                                          exact e_impl_ListMerge _ _ _ hv7 h _ (by simp (maxSteps := 2000000) (disch := first|omega|(simp only[ls];first|done|omega)) only [E, hv0, hb1, hv2, hb3, hv4, hv5, hv6, d0_0, d1_0, d1_1, hv7, d2_0, d2_1, d2_2, hv8, hb9, hb10, d3_0, d3_1, d3_2, d3_3, hv11, hb12, d4_0, d4_1, d4_2, d4_3, d4_4, hv13, hb14, hv15, d5_0, d5_1, d5_2, d5_3, d5_4, hv16, d6_0, d6_1, d6_2, d6_3, d6_4, hb17, hv18, d7_0, d7_1, d7_2, d7_3, d7_4, hv19, hb20, hb21, d8_0, d8_1, d8_2, d8_3, d8_4, d8_5, d9_0, d9_1, d9_2, d9_3, d9_4, d9_5, d9_6, c10_0, c10_1, c10_2, c10_3, c10_4, c10_5, c10_6, c10_7, c10_8, c10_9, c10_10, c10_11, c10_12, c10_13, gm])
                                        · rintro hc10 v hh10 ⟨c10_0, c10_1, c10_2, c10_3, c10_4, c10_5, c10_6, c10_7, c10_8, c10_9, c10_10, c10_11, c10_12, c10_13⟩ hpost
                                          obtain ⟨kk10, nb10_0, rfl, lnb10_0, gnb10_0, wnb10_0⟩ := hpost
                                          have d10_0 : getCells hh10 nb0_0 (v4.length * 6) = some (rows (v15.b : List TLOp)) := (keep_get kk10 c10_1 (by first | (simp; done) | (simp; omega))).trans c10_0
                                          have d10_0l := keep_lt kk10 c10_1
                                          have d10_1 : getCells hh10 nb1_0 (v5.length * 6) = some (rows (v16.b : List TLOp)) := (keep_get kk10 c10_3 (by first | (simp; done) | (simp; omega))).trans c10_2
                                          have d10_1l := keep_lt kk10 c10_3
                                          have d10_2 : getCells hh10 nb2_0 (v7.a.length * 6) = some (rows (v18.b : List TLOp)) := (keep_get kk10 c10_5 (by first | (simp; done) | (simp; omega))).trans c10_4
                                          have d10_2l := keep_lt kk10 c10_5
                                          have d10_3 : getCells hh10 nb3_0 (v4.length * 6) = some (rows (v4 : List TLOp)) := (keep_get kk10 c10_7 (by first | (simp; done) | (simp; omega))).trans c10_6
                                          have d10_3l := keep_lt kk10 c10_7
                                          have d10_4 : getCells hh10 nb4_0 (v5.length * 6) = some (rows (v5 : List TLOp)) := (keep_get kk10 c10_9 (by first | (simp; done) | (simp; omega))).trans c10_8
                                          have d10_4l := keep_lt kk10 c10_9
                                          have d10_5 : getCells hh10 nb8_0 (v4.length * 6) = some (rows (v4 : List TLOp)) := (keep_get kk10 c10_11 (by first | (simp; done) | (simp; omega))).trans c10_10
                                          have d10_5l := keep_lt kk10 c10_11
                                          have d10_6 : getCells hh10 nb9_0 (v5.length * 6) = some (rows (v5 : List TLOp)) := (keep_get kk10 c10_13 (by first | (simp; done) | (simp; omega))).trans c10_12
                                          have d10_6l := keep_lt kk10 c10_13
                                          have d10_7 := wnb10_0
                                          cases hp
                                          simp (maxSteps := 2000000) (disch := first|omega|(simp only[ls];first|done|omega)) only [E, hv0, hb1, hv2, hb3, hv4, hv5, hv6, d0_0, d1_0, d1_1, hv7, d2_0, d2_1, d2_2, hv8, hb9, hb10, d3_0, d3_1, d3_2, d3_3, hv11, hb12, d4_0, d4_1, d4_2, d4_3, d4_4, hv13, hb14, hv15, d5_0, d5_1, d5_2, d5_3, d5_4, hv16, d6_0, d6_1, d6_2, d6_3, d6_4, hb17, hv18, d7_0, d7_1, d7_2, d7_3, d7_4, hv19, hb20, hb21, d8_0, d8_1, d8_2, d8_3, d8_4, d8_5, d9_0, d9_1, d9_2, d9_3, d9_4, d9_5, d9_6, d10_0, d10_1, d10_2, d10_3, d10_4, d10_5, d10_6, d10_7, gm]
                                  · replace hb21 := eq_false_of_ne_true hb21
                                    rw [if_f hb21] at hp
                                    cases hp
                      · replace hb14 := eq_false_of_ne_true hb14
                        rw [if_f hb14] at hp
                        cases hp
                  · replace hb12 := eq_false_of_ne_true hb12
                    rw [if_f hb12] at hp
                    cases hp
              · replace hb10 := eq_false_of_ne_true hb10
                rw [if_f hb10] at hp
                cases hp
            · replace hb9 := eq_false_of_ne_true hb9
              rw [if_f hb9] at hp
              cases hp

end Go.AM
