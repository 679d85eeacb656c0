/- Plain functions of MarkText and their walks. No condition. -/
import Derived.Test.YtbmeclcmcknbaaaLabPackF
set_option linter.unusedVariables false
set_option linter.unusedSimpArgs false
set_option maxRecDepth 20000
namespace Go.AM
open Pic (enc dec dec_enc dec_sub)
open PicA (encA decA decA_encA decA_sub)
noncomputable def p_laws_szLOpS (x0 : List TLOp) (x1 : Int) : Option Int :=
  if (decide (w64 (x1 - (x0.length : Int)) < 0)) = true then
    some (-1)
  else
    some (w64 (x1 - (x0.length : Int)))
def c_laws_szLOpS : AFn := ⟨12, (.seq (.ops [(qS 4 (.mv (ic 0)))]) (.seq (.ops [(qS 5 (.mv (.tmp 1))), (qS 6 (.mv (.tmp 0))), (qS 7 (.len (.tmp 6))), (qS 8 (.pu (.n (.ar .sub)) [(.tmp 5), (.tmp 7)])), (qS 1 (.mv (.tmp 8)))]) (.seq (.seq (.ops [(qS 9 (.mv (.tmp 1))), (qS 10 (.pu (.n (.ar .lss)) [(.tmp 9), (ic 0)]))]) (.cond (.tmp 10) (.seq (.ops [(qS 4 (.mv (ic (-1))))]) .ret) .skip)) (.seq (.ops [(qS 11 (.mv (.tmp 1))), (qS 4 (.mv (.tmp 11)))]) .ret)))), [(.tmp 4)]⟩
set_option maxHeartbeats 10000000 in
theorem d_laws_szLOpS {P : Program} {env : Env}  (x0 : List TLOp) (x1 : Int) {b : Int} (hp : p_laws_szLOpS x0 x1 = some b) : R P env (c_laws_szLOpS) ((encA (x0, x1)).map ofI) [] (Tells true b) := by
  refine R_of (by simp [c_laws_szLOpS, encA]) ?_
  unfold c_laws_szLOpS
  unfold p_laws_szLOpS at hp
  by_cases hb0 : (decide (w64 (x1 - (x0.length : Int)) < 0)) = true
  · rw [if_t hb0] at hp
    have hp := Option.some.inj hp
    subst hp
    simp (maxSteps := 2000000) (disch := first|omega|(simp only[ls];first|done|omega)) only [hb0, gm]
  · replace hb0 := eq_false_of_ne_true hb0
    rw [if_f hb0] at hp
    have hp := Option.some.inj hp
    subst hp
    simp (maxSteps := 2000000) (disch := first|omega|(simp only[ls];first|done|omega)) only [hb0, gm]

noncomputable def p_laws_szMarkOpS (x0 : List TMark) (x1 : Int) : Option Int :=
  if (decide (w64 (x1 - (x0.length : Int)) < 0)) = true then
    some (-1)
  else
    some (w64 (x1 - (x0.length : Int)))
def c_laws_szMarkOpS : AFn := ⟨12, (.seq (.ops [(qS 4 (.mv (ic 0)))]) (.seq (.ops [(qS 5 (.mv (.tmp 1))), (qS 6 (.mv (.tmp 0))), (qS 7 (.len (.tmp 6))), (qS 8 (.pu (.n (.ar .sub)) [(.tmp 5), (.tmp 7)])), (qS 1 (.mv (.tmp 8)))]) (.seq (.seq (.ops [(qS 9 (.mv (.tmp 1))), (qS 10 (.pu (.n (.ar .lss)) [(.tmp 9), (ic 0)]))]) (.cond (.tmp 10) (.seq (.ops [(qS 4 (.mv (ic (-1))))]) .ret) .skip)) (.seq (.ops [(qS 11 (.mv (.tmp 1))), (qS 4 (.mv (.tmp 11)))]) .ret)))), [(.tmp 4)]⟩
set_option maxHeartbeats 10000000 in
theorem d_laws_szMarkOpS {P : Program} {env : Env}  (x0 : List TMark) (x1 : Int) {b : Int} (hp : p_laws_szMarkOpS x0 x1 = some b) : R P env (c_laws_szMarkOpS) ((encA (x0, x1)).map ofI) [] (Tells true b) := by
  refine R_of (by simp [c_laws_szMarkOpS, encA]) ?_
  unfold c_laws_szMarkOpS
  unfold p_laws_szMarkOpS at hp
  by_cases hb0 : (decide (w64 (x1 - (x0.length : Int)) < 0)) = true
  · rw [if_t hb0] at hp
    have hp := Option.some.inj hp
    subst hp
    simp (maxSteps := 2000000) (disch := first|omega|(simp only[ls];first|done|omega)) only [hb0, gm]
  · replace hb0 := eq_false_of_ne_true hb0
    rw [if_f hb0] at hp
    have hp := Option.some.inj hp
    subst hp
    simp (maxSteps := 2000000) (disch := first|omega|(simp only[ls];first|done|omega)) only [hb0, gm]

noncomputable def p_laws_toStamp (x0 : TStamp) : Option TStamp :=
  some x0
def c_laws_toStamp : AFn := ⟨11, (.seq (.ops [(qS 1 (.box (.tmp 0))), (qS 2 (.allocV [(0, false), (0, false)] [(.int .i64 0), (.int .i64 0)]))]) (.seq (.ops [(qS 3 (.allocV [(0, false), (0, false)] [(.int .i64 0), (.int .i64 0)]))]) (.seq (.ops [(qS 4 (.fieldA 0 (.tmp 1))), (qS 5 (.load 1 false (.tmp 4))), (qS 6 (.fieldA 0 (.tmp 3))), ⟨.none, (.storeV [(0, false)] 1 (.tmp 6) (.tmp 5)), .none, [], .none⟩]) (.seq (.ops [(qS 7 (.fieldA 1 (.tmp 1))), (qS 8 (.load 1 false (.tmp 7))), (qS 9 (.fieldA 1 (.tmp 3))), ⟨.none, (.storeV [(0, false)] 1 (.tmp 9) (.tmp 8)), .none, [], .none⟩]) (.seq (.ops [(qS 10 (.load 2 true (.tmp 3))), ⟨.none, (.storeV [(0, false), (0, false)] 2 (.tmp 2) (.tmp 10)), .none, [], .none⟩]) .ret))))), [(.cell 2 2 true)]⟩
set_option maxHeartbeats 10000000 in
theorem d_laws_toStamp {P : Program} {env : Env}  (x0 : TStamp) {b : TStamp} (hp : p_laws_toStamp x0 = some b) : R P env (c_laws_toStamp) ((encA (x0)).map ofI) [] (Tells true b) := by
  refine R_of (by simp [c_laws_toStamp, encA]) ?_
  unfold c_laws_toStamp
  unfold p_laws_toStamp at hp
  have hp := Option.some.inj hp
  subst hp
  simp (maxSteps := 2000000) (disch := first|omega|(simp only[ls];first|done|omega)) only [gm]

noncomputable def p_laws_toLOp (x0 : TLOp) : Option TLOp :=
  (p_laws_toStamp x0.id).bind fun v0 =>
  (p_laws_toStamp x0.at_).bind fun v1 =>
  some (TLOp.mk x0.kind x0.char v0 v1)
def c_laws_toLOp (f_laws_toStamp : Nat) : AFn := ⟨19, (.seq (.ops [(qS 1 (.box (.tmp 0))), (qS 2 (.allocV [(0, false), (0, false), (0, false), (0, false), (0, false), (0, false)] [(.int .i64 0), (.int .i64 0), (.int .i64 0), (.int .i64 0), (.int .i64 0), (.int .i64 0)]))]) (.seq (.ops [(qS 3 (.allocV [(0, false), (0, false), (0, false), (0, false), (0, false), (0, false)] [(.int .i64 0), (.int .i64 0), (.int .i64 0), (.int .i64 0), (.int .i64 0), (.int .i64 0)]))]) (.seq (.ops [(qS 4 (.fieldA 0 (.tmp 1))), (qS 5 (.load 1 false (.tmp 4))), (qS 6 (.fieldA 0 (.tmp 3))), ⟨.none, (.storeV [(0, false)] 1 (.tmp 6) (.tmp 5)), .none, [], .none⟩]) (.seq (.ops [(qS 7 (.fieldA 1 (.tmp 1))), (qS 8 (.load 1 false (.tmp 7))), (qS 9 (.fieldA 1 (.tmp 3))), ⟨.none, (.storeV [(0, false)] 1 (.tmp 9) (.tmp 8)), .none, [], .none⟩]) (.seq (.ops [(qS 10 (.fieldA 2 (.tmp 1))), (qS 11 (.load 2 true (.tmp 10))), (qS 12 (.call (2 * f_laws_toStamp) [(.tmp 11)])), (qS 13 (.fieldA 2 (.tmp 3))), ⟨.none, (.storeV [(0, false), (0, false)] 2 (.tmp 13) (.tmp 12)), .none, [], .none⟩]) (.seq (.ops [(qS 14 (.fieldA 4 (.tmp 1))), (qS 15 (.load 2 true (.tmp 14))), (qS 16 (.call (2 * f_laws_toStamp) [(.tmp 15)])), (qS 17 (.fieldA 4 (.tmp 3))), ⟨.none, (.storeV [(0, false), (0, false)] 2 (.tmp 17) (.tmp 16)), .none, [], .none⟩]) (.seq (.ops [(qS 18 (.load 6 true (.tmp 3))), ⟨.none, (.storeV [(0, false), (0, false), (0, false), (0, false), (0, false), (0, false)] 6 (.tmp 2) (.tmp 18)), .none, [], .none⟩]) .ret))))))), [(.cell 2 6 true)]⟩
set_option maxHeartbeats 10000000 in
theorem d_laws_toLOp {P : Program} {env : Env} {f_laws_toStamp : Nat}  (ep_laws_toStamp : env (2 * f_laws_toStamp) = pureFn true (FA fun a : TStamp => p_laws_toStamp a)) (x0 : TLOp) {b : TLOp} (hp : p_laws_toLOp x0 = some b) : R P env (c_laws_toLOp f_laws_toStamp) ((encA (x0)).map ofI) [] (Tells true b) := by
  refine R_of (by simp [c_laws_toLOp, encA]) ?_
  have E := ep_laws_toStamp
  unfold c_laws_toLOp
  unfold p_laws_toLOp at hp
  obtain ⟨v0, hv0, hp⟩ := bind_eq hp
  obtain ⟨v1, hv1, hp⟩ := bind_eq hp
  have hp := Option.some.inj hp
  subst hp
  simp (maxSteps := 2000000) (disch := first|omega|(simp only[ls];first|done|omega)) only [E, hv0, hv1, gm]

noncomputable def p_laws_toLOpS_l0 (x0 : List TLOp) : List TLOp × Int → Option (Lp (List TLOp × Int) (List TLOp))
  | (s1, s2) =>
    if (decide (s2 < (x0.length : Int))) = true then
      (get? x0 s2).bind fun v4 =>
      (p_laws_toLOp v4).bind fun v5 =>
      (get? s1 s2).bind fun v6 =>
      some (.go ((s1.set s2.toNat v5), w64 (s2 + 1)))
    else
      some (.out (s1, s2))
noncomputable def p_laws_toLOpS (x0 : List TLOp) : Option (List TLOp) :=
  ((mkL (x0.length : Int) 48 (x0.length : Int) (TLOp.mk 0 0 (TStamp.mk 0 0) (TStamp.mk 0 0)) : Option (List TLOp))).bind fun v0 =>
  (loopP (p_laws_toLOpS_l0 x0) (v0, 0)).bind fun ee0 => match ee0 with
  | .ret r => some r
  | .out (o8, o9) =>
    some o8
def c_laws_toLOpS (f_laws_toLOp : Nat) : AFn := ⟨23, (.seq (.ops [(qS 2 (.vnil 6 true))]) (.seq (.ops [(qS 5 (.mv (.tmp 0))), (qS 6 (.len (.tmp 5))), (qS 7 (.makeSl 6 true 48 [(.int .i64 0), (.int .i64 0), (.int .i64 0), (.int .i64 0), (.int .i64 0), (.int .i64 0)] (.tmp 6) (.tmp 6))), (qS 3 (.mv (.tmp 7)))]) (.seq (.seq (.ops [(qS 4 (.mv (ic 0)))]) (.block 0 (.loop (.seq (.seq (.ops [(qS 8 (.mv (.tmp 4))), (qS 9 (.mv (.tmp 0))), (qS 10 (.len (.tmp 9))), (qS 11 (.pu (.n (.ar .lss)) [(.tmp 8), (.tmp 10)]))]) (.cond (.tmp 11) .skip (.exit 0))) (.seq (.block 1 (.ops [(qS 14 (.mv (.tmp 3))), (qS 15 (.mv (.tmp 4))), (qS 16 (.mv (.tmp 0))), (qS 17 (.mv (.tmp 4))), (qS 18 (.idxS 6 (.tmp 16) (.tmp 17))), (qS 19 (.load 6 true (.tmp 18))), (qS 20 (.call (2 * f_laws_toLOp) [(.tmp 19)])), (qS 21 (.idxS 6 (.tmp 14) (.tmp 15))), ⟨.none, (.storeV [(0, false), (0, false), (0, false), (0, false), (0, false), (0, false)] 6 (.tmp 21) (.tmp 20)), .none, [], .none⟩])) (.ops [(qS 12 (.mv (.tmp 4))), (qS 13 (.pu (.n (.ar .add)) [(.tmp 12), (ic 1)])), (qS 4 (.mv (.tmp 13)))])))))) (.seq (.ops [(qS 22 (.mv (.tmp 3))), (qS 2 (.mv (.tmp 22)))]) .ret)))), [(.tmp 2)]⟩
set_option maxHeartbeats 10000000 in
theorem d_laws_toLOpS {P : Program} {env : Env} {f_laws_toLOp : Nat}  (ep_laws_toLOp : env (2 * f_laws_toLOp) = pureFn true (FA fun a : TLOp => p_laws_toLOp a)) (x0 : List TLOp) {b : List TLOp} (hp : p_laws_toLOpS x0 = some b) : R P env (c_laws_toLOpS f_laws_toLOp) ((encA (x0)).map ofI) [] (Tells true b) := by
  refine R_of (by simp [c_laws_toLOpS, encA]) ?_
  have E := ep_laws_toLOp
  unfold c_laws_toLOpS
  unfold p_laws_toLOpS at hp
  obtain ⟨v0, hv0, hp⟩ := bind_eq hp
  obtain ⟨kv0, qv0, lv0⟩ := mkL_some hv0
  have rv0 : (List.replicate x0.length [.i (.s (.int .i64 0)), .i (.s (.int .i64 0)), .i (.s (.int .i64 0)), .i (.s (.int .i64 0)), .i (.s (.int .i64 0)), .i (.s (.int .i64 0))]).flatten = rows v0 := by rw [qv0]; exact rows_rep (x := ((TLOp.mk 0 0 (TStamp.mk 0 0) (TStamp.mk 0 0)) : TLOp)) rfl
  have mv0 : x0.length = v0.length := by rw [lv0]; simp
  obtain ⟨ee0, hee0, hp⟩ := bind_eq hp
  simp (maxSteps := 2000000) (disch := first|omega|(simp only[ls];first|done|omega)) only [E, hv0, rv0, kv0.1, kv0.2.1, kv0.2.2.1, kv0.2.2.2, gm]
  refine W_loopP 0 (fun s t h => match s with | (s1, s2) => t 0 = .i (.sl 6 (x0.map enc)) ∧ t 3 = .hsl 1 (x0.length * 6) 0 6 true x0.length ∧ t 4 = .i (.s (.int .i64 s2)) ∧ getCells h 1 (x0.length * 6) = some (rows (s1 : List TLOp)) ∧ 1 < h.length) (RK [.tmp 2] (Tells true)) ?_ hee0 ?_ ?_
  · rintro ⟨s1, s2⟩ ee tt0 hh0 ⟨ftt0_0, ftt0_1, ftt0_2, ftt0_3, ftt0_4⟩ hp
    have ztt0_3 := len_rows ftt0_3
    simp only [zs] at ztt0_3
    rw [p_laws_toLOpS_l0] at hp
    by_cases hb3 : (decide (s2 < (x0.length : Int))) = true
    · rw [if_t hb3] at hp
      obtain ⟨v4, hv4, hp⟩ := bind_eq hp
      obtain ⟨v5, hv5, hp⟩ := bind_eq hp
      obtain ⟨v6, hv6, hp⟩ := bind_eq hp
      have gv6 := get_some hv6
      have hs7 : List.take (s2.toNat * 6) (rows s1) ++ .i (.s (.int .i64 v5.kind)) :: .i (.s (.int .i64 v5.char)) :: .i (.s (.int .i64 v5.id.time)) :: .i (.s (.int .i64 v5.id.actor)) :: .i (.s (.int .i64 v5.at_.time)) :: .i (.s (.int .i64 v5.at_.actor)) :: List.drop (s2.toNat * 6 + 6) (rows s1) = rows (s1.set s2.toNat v5) := by simpa [splice, zs, cellsV, I.cells, enc_TLOp] using rows_set_off (y := v5) (ys := [.i (.s (.int .i64 v5.kind)), .i (.s (.int .i64 v5.char)), .i (.s (.int .i64 v5.id.time)), .i (.s (.int .i64 v5.id.actor)), .i (.s (.int .i64 v5.at_.time)), .i (.s (.int .i64 v5.at_.actor))]) (k := 0) gv6.2.2 (Nat.le_of_ble_eq_true rfl) (by rfl)
      have hp := Option.some.inj hp
      subst hp
      simp (maxSteps := 2000000) (disch := first|omega|(simp only[ls];first|done|omega)) only [E, hv0, rv0, kv0.1, kv0.2.1, kv0.2.2.1, kv0.2.2.2, ftt0_0, ftt0_1, ftt0_2, ftt0_3, ftt0_4, hb3, hv4, hv5, hv6, (gv6).1, (gv6).2.1, hs7, gm] <;> omega
    · replace hb3 := eq_false_of_ne_true hb3
      rw [if_f hb3] at hp
      have hp := Option.some.inj hp
      subst hp
      simp (maxSteps := 2000000) (disch := first|omega|(simp only[ls];first|done|omega)) only [E, hv0, rv0, kv0.1, kv0.2.1, kv0.2.2.1, kv0.2.2.2, ftt0_0, ftt0_1, ftt0_2, ftt0_3, ftt0_4, hb3, gm] <;> omega
  · simp (maxSteps := 2000000) (disch := first|omega|(simp only[ls];first|done|omega)) only [E, hv0, rv0, kv0.1, kv0.2.1, kv0.2.2.1, kv0.2.2.2, gm] <;> omega
  · intro x tt1 hh1 hx
    rcases ee0 with ⟨o8, o9⟩ | r
    · obtain ⟨rfl, ftt1_0, ftt1_1, ftt1_2, ftt1_3, ftt1_4⟩ := hx
      have ztt1_3 := len_rows ftt1_3
      simp only [zs] at ztt1_3
      dsimp only at hp
      have hp := Option.some.inj hp
      subst hp
      simp (maxSteps := 2000000) (disch := first|omega|(simp only[ls];first|done|omega)) only [E, hv0, rv0, kv0.1, kv0.2.1, kv0.2.2.1, kv0.2.2.2, ftt1_0, ftt1_1, ftt1_2, ftt1_3, ftt1_4, gm]
    · obtain ⟨rfl, hx⟩ := hx
      dsimp only at hp
      cases hp
      simp only [seqK_ret, blockK_ret, retK_RK (K := Tells true), hx, and_self, true_and]

def o_laws_toLOpS (b : List TLOp) (v : V) (h : Heap) : Prop := ∃ n0 : Nat, v = .hsl n0 (b.length * 6) 0 6 true b.length ∧ getCells h n0 (b.length * 6) = some (rows b)
def oo_laws_toLOpS (b : List TLOp) (h : Heap) (v : V) (h2 : Heap) : Prop := Keep [] h h2 ∧ ∃ n0 : Nat, v = .hsl n0 (b.length * 6) 0 6 true b.length ∧ n0 < h2.length ∧ h.length ≤ n0 ∧ getCells h2 n0 (b.length * 6) = some (rows b)
def k_laws_toLOpS (F : Fun) : Prop := ∀ (x0 : List TLOp) (b : List TLOp), p_laws_toLOpS x0 = some b → ∀ (h : Heap) (args : List V), snapA 9 false h args = some (encA (x0)) → ∃ p, F none args h = some p ∧ oo_laws_toLOpS b h p.1 p.2
set_option maxHeartbeats 10000000 in
theorem w_laws_toLOpS {P : Program} {env : Env} {f_laws_toLOp : Nat}  (ep_laws_toLOp : env (2 * f_laws_toLOp) = pureFn true (FA fun a : TLOp => p_laws_toLOp a)) (x0 : List TLOp) {b : List TLOp} (hp : p_laws_toLOpS x0 = some b) : R P env (c_laws_toLOpS f_laws_toLOp) ((encA (x0)).map ofI) [] (o_laws_toLOpS b) := by
  refine R_of (by simp [c_laws_toLOpS, encA]) ?_
  have E := ep_laws_toLOp
  unfold c_laws_toLOpS
  unfold p_laws_toLOpS at hp
  obtain ⟨v0, hv0, hp⟩ := bind_eq hp
  obtain ⟨kv0, qv0, lv0⟩ := mkL_some hv0
  have rv0 : (List.replicate x0.length [.i (.s (.int .i64 0)), .i (.s (.int .i64 0)), .i (.s (.int .i64 0)), .i (.s (.int .i64 0)), .i (.s (.int .i64 0)), .i (.s (.int .i64 0))]).flatten = rows v0 := by rw [qv0]; exact rows_rep (x := ((TLOp.mk 0 0 (TStamp.mk 0 0) (TStamp.mk 0 0)) : TLOp)) rfl
  have mv0 : x0.length = v0.length := by rw [lv0]; simp
  obtain ⟨ee0, hee0, hp⟩ := bind_eq hp
  simp (maxSteps := 2000000) (disch := first|omega|(simp only[ls];first|done|omega)) only [E, hv0, rv0, kv0.1, kv0.2.1, kv0.2.2.1, kv0.2.2.2, gm]
  refine W_loopP 0 (fun s t h => match s with | (s1, s2) => t 0 = .i (.sl 6 (x0.map enc)) ∧ t 3 = .hsl 1 (x0.length * 6) 0 6 true x0.length ∧ t 4 = .i (.s (.int .i64 s2)) ∧ getCells h 1 (x0.length * 6) = some (rows (s1 : List TLOp)) ∧ 1 < h.length) (RK [.tmp 2] (o_laws_toLOpS)) ?_ hee0 ?_ ?_
  · rintro ⟨s1, s2⟩ ee tt0 hh0 ⟨ftt0_0, ftt0_1, ftt0_2, ftt0_3, ftt0_4⟩ hp
    have ztt0_3 := len_rows ftt0_3
    simp only [zs] at ztt0_3
    rw [p_laws_toLOpS_l0] at hp
    by_cases hb3 : (decide (s2 < (x0.length : Int))) = true
    · rw [if_t hb3] at hp
      obtain ⟨v4, hv4, hp⟩ := bind_eq hp
      obtain ⟨v5, hv5, hp⟩ := bind_eq hp
      obtain ⟨v6, hv6, hp⟩ := bind_eq hp
      have gv6 := get_some hv6
      have hs7 : List.take (s2.toNat * 6) (rows s1) ++ .i (.s (.int .i64 v5.kind)) :: .i (.s (.int .i64 v5.char)) :: .i (.s (.int .i64 v5.id.time)) :: .i (.s (.int .i64 v5.id.actor)) :: .i (.s (.int .i64 v5.at_.time)) :: .i (.s (.int .i64 v5.at_.actor)) :: List.drop (s2.toNat * 6 + 6) (rows s1) = rows (s1.set s2.toNat v5) := by simpa [splice, zs, cellsV, I.cells, enc_TLOp] using rows_set_off (y := v5) (ys := [.i (.s (.int .i64 v5.kind)), .i (.s (.int .i64 v5.char)), .i (.s (.int .i64 v5.id.time)), .i (.s (.int .i64 v5.id.actor)), .i (.s (.int .i64 v5.at_.time)), .i (.s (.int .i64 v5.at_.actor))]) (k := 0) gv6.2.2 (Nat.le_of_ble_eq_true rfl) (by rfl)
      have hp := Option.some.inj hp
      subst hp
      simp (maxSteps := 2000000) (disch := first|omega|(simp only[ls];first|done|omega)) only [E, hv0, rv0, kv0.1, kv0.2.1, kv0.2.2.1, kv0.2.2.2, ftt0_0, ftt0_1, ftt0_2, ftt0_3, ftt0_4, hb3, hv4, hv5, hv6, (gv6).1, (gv6).2.1, hs7, gm] <;> omega
    · replace hb3 := eq_false_of_ne_true hb3
      rw [if_f hb3] at hp
      have hp := Option.some.inj hp
      subst hp
      simp (maxSteps := 2000000) (disch := first|omega|(simp only[ls];first|done|omega)) only [E, hv0, rv0, kv0.1, kv0.2.1, kv0.2.2.1, kv0.2.2.2, ftt0_0, ftt0_1, ftt0_2, ftt0_3, ftt0_4, hb3, gm] <;> omega
  · simp (maxSteps := 2000000) (disch := first|omega|(simp only[ls];first|done|omega)) only [E, hv0, rv0, kv0.1, kv0.2.1, kv0.2.2.1, kv0.2.2.2, gm] <;> omega
  · intro x tt1 hh1 hx
    rcases ee0 with ⟨o8, o9⟩ | r
    · obtain ⟨rfl, ftt1_0, ftt1_1, ftt1_2, ftt1_3, ftt1_4⟩ := hx
      have ztt1_3 := len_rows ftt1_3
      simp only [zs] at ztt1_3
      dsimp only at hp
      have hp := Option.some.inj hp
      subst hp
      simp (maxSteps := 2000000) (disch := first|omega|(simp only[ls];first|done|omega)) only [E, hv0, rv0, kv0.1, kv0.2.1, kv0.2.2.1, kv0.2.2.2, ftt1_0, ftt1_1, ftt1_2, ftt1_3, ftt1_4, gm]
      refine ⟨1, ?_⟩
      simp (maxSteps := 2000000) (disch := first|omega|(simp only[ls];first|done|omega)) only [E, hv0, rv0, kv0.1, kv0.2.1, kv0.2.2.1, kv0.2.2.2, ftt1_0, ftt1_1, ftt1_2, ftt1_3, ftt1_4, o_laws_toLOpS, (show (o8).length = x0.length from by first | omega | rfl | (simp; done) | (simp; omega)), gm] <;> omega
    · obtain ⟨rfl, hx⟩ := hx
      dsimp only at hp
      cases hp
      simp only [seqK_ret, blockK_ret, retK_RK (K := o_laws_toLOpS), hx, and_self, true_and]
theorem ko_laws_toLOpS {P : Program} {env : Env} {f_laws_toLOp : Nat}  (ep_laws_toLOp : env (2 * f_laws_toLOp) = pureFn true (FA fun a : TLOp => p_laws_toLOp a)) : k_laws_toLOpS (ownFn P env (c_laws_toLOpS f_laws_toLOp)) := by
  intro x0 b hp h args has
  obtain ⟨⟨v, H2⟩, hr, n0, rfl, wn0⟩ := w_laws_toLOpS ep_laws_toLOp x0 hp
  exact ⟨_, own_call has hr rfl, keep_moved, n0 + h.length, rfl, (moved_lt wn0).2, (moved_lt wn0).1, moved_rows wn0⟩

noncomputable def p_laws_toMarkOp (x0 : TMark) : Option TMark :=
  (p_laws_toStamp x0.id).bind fun v0 =>
  (p_laws_toStamp x0.from_).bind fun v1 =>
  (p_laws_toStamp x0.to).bind fun v2 =>
  some (TMark.mk v0 v1 v2 x0.kind x0.on)
def c_laws_toMarkOp (f_laws_toStamp : Nat) : AFn := ⟨23, (.seq (.ops [(qS 1 (.box (.tmp 0))), (qS 2 (.allocV [(0, false), (0, false), (0, false), (0, false), (0, false), (0, false), (0, false), (0, false)] [(.int .i64 0), (.int .i64 0), (.int .i64 0), (.int .i64 0), (.int .i64 0), (.int .i64 0), (.int .i64 0), (.bool false)]))]) (.seq (.ops [(qS 3 (.allocV [(0, false), (0, false), (0, false), (0, false), (0, false), (0, false), (0, false), (0, false)] [(.int .i64 0), (.int .i64 0), (.int .i64 0), (.int .i64 0), (.int .i64 0), (.int .i64 0), (.int .i64 0), (.bool false)]))]) (.seq (.ops [(qS 4 (.fieldA 0 (.tmp 1))), (qS 5 (.load 2 true (.tmp 4))), (qS 6 (.call (2 * f_laws_toStamp) [(.tmp 5)])), (qS 7 (.fieldA 0 (.tmp 3))), ⟨.none, (.storeV [(0, false), (0, false)] 2 (.tmp 7) (.tmp 6)), .none, [], .none⟩]) (.seq (.ops [(qS 8 (.fieldA 2 (.tmp 1))), (qS 9 (.load 2 true (.tmp 8))), (qS 10 (.call (2 * f_laws_toStamp) [(.tmp 9)])), (qS 11 (.fieldA 2 (.tmp 3))), ⟨.none, (.storeV [(0, false), (0, false)] 2 (.tmp 11) (.tmp 10)), .none, [], .none⟩]) (.seq (.ops [(qS 12 (.fieldA 4 (.tmp 1))), (qS 13 (.load 2 true (.tmp 12))), (qS 14 (.call (2 * f_laws_toStamp) [(.tmp 13)])), (qS 15 (.fieldA 4 (.tmp 3))), ⟨.none, (.storeV [(0, false), (0, false)] 2 (.tmp 15) (.tmp 14)), .none, [], .none⟩]) (.seq (.ops [(qS 16 (.fieldA 6 (.tmp 1))), (qS 17 (.load 1 false (.tmp 16))), (qS 18 (.fieldA 6 (.tmp 3))), ⟨.none, (.storeV [(0, false)] 1 (.tmp 18) (.tmp 17)), .none, [], .none⟩]) (.seq (.ops [(qS 19 (.fieldA 7 (.tmp 1))), (qS 20 (.load 1 false (.tmp 19))), (qS 21 (.fieldA 7 (.tmp 3))), ⟨.none, (.storeV [(0, false)] 1 (.tmp 21) (.tmp 20)), .none, [], .none⟩]) (.seq (.ops [(qS 22 (.load 8 true (.tmp 3))), ⟨.none, (.storeV [(0, false), (0, false), (0, false), (0, false), (0, false), (0, false), (0, false), (0, false)] 8 (.tmp 2) (.tmp 22)), .none, [], .none⟩]) .ret)))))))), [(.cell 2 8 true)]⟩
set_option maxHeartbeats 10000000 in
theorem d_laws_toMarkOp {P : Program} {env : Env} {f_laws_toStamp : Nat}  (ep_laws_toStamp : env (2 * f_laws_toStamp) = pureFn true (FA fun a : TStamp => p_laws_toStamp a)) (x0 : TMark) {b : TMark} (hp : p_laws_toMarkOp x0 = some b) : R P env (c_laws_toMarkOp f_laws_toStamp) ((encA (x0)).map ofI) [] (Tells true b) := by
  refine R_of (by simp [c_laws_toMarkOp, encA]) ?_
  have E := ep_laws_toStamp
  unfold c_laws_toMarkOp
  unfold p_laws_toMarkOp at hp
  obtain ⟨v0, hv0, hp⟩ := bind_eq hp
  obtain ⟨v1, hv1, hp⟩ := bind_eq hp
  obtain ⟨v2, hv2, hp⟩ := bind_eq hp
  have hp := Option.some.inj hp
  subst hp
  simp (maxSteps := 2000000) (disch := first|omega|(simp only[ls];first|done|omega)) only [E, hv0, hv1, hv2, gm]

noncomputable def p_laws_toMarkOpS_l0 (x0 : List TMark) : List TMark × Int → Option (Lp (List TMark × Int) (List TMark))
  | (s1, s2) =>
    if (decide (s2 < (x0.length : Int))) = true then
      (get? x0 s2).bind fun v4 =>
      (p_laws_toMarkOp v4).bind fun v5 =>
      (get? s1 s2).bind fun v6 =>
      some (.go ((s1.set s2.toNat v5), w64 (s2 + 1)))
    else
      some (.out (s1, s2))
noncomputable def p_laws_toMarkOpS (x0 : List TMark) : Option (List TMark) :=
  ((mkL (x0.length : Int) 64 (x0.length : Int) (TMark.mk (TStamp.mk 0 0) (TStamp.mk 0 0) (TStamp.mk 0 0) 0 false) : Option (List TMark))).bind fun v0 =>
  (loopP (p_laws_toMarkOpS_l0 x0) (v0, 0)).bind fun ee0 => match ee0 with
  | .ret r => some r
  | .out (o8, o9) =>
    some o8
def c_laws_toMarkOpS (f_laws_toMarkOp : Nat) : AFn := ⟨23, (.seq (.ops [(qS 2 (.vnil 8 true))]) (.seq (.ops [(qS 5 (.mv (.tmp 0))), (qS 6 (.len (.tmp 5))), (qS 7 (.makeSl 8 true 64 [(.int .i64 0), (.int .i64 0), (.int .i64 0), (.int .i64 0), (.int .i64 0), (.int .i64 0), (.int .i64 0), (.bool false)] (.tmp 6) (.tmp 6))), (qS 3 (.mv (.tmp 7)))]) (.seq (.seq (.ops [(qS 4 (.mv (ic 0)))]) (.block 0 (.loop (.seq (.seq (.ops [(qS 8 (.mv (.tmp 4))), (qS 9 (.mv (.tmp 0))), (qS 10 (.len (.tmp 9))), (qS 11 (.pu (.n (.ar .lss)) [(.tmp 8), (.tmp 10)]))]) (.cond (.tmp 11) .skip (.exit 0))) (.seq (.block 1 (.ops [(qS 14 (.mv (.tmp 3))), (qS 15 (.mv (.tmp 4))), (qS 16 (.mv (.tmp 0))), (qS 17 (.mv (.tmp 4))), (qS 18 (.idxS 8 (.tmp 16) (.tmp 17))), (qS 19 (.load 8 true (.tmp 18))), (qS 20 (.call (2 * f_laws_toMarkOp) [(.tmp 19)])), (qS 21 (.idxS 8 (.tmp 14) (.tmp 15))), ⟨.none, (.storeV [(0, false), (0, false), (0, false), (0, false), (0, false), (0, false), (0, false), (0, false)] 8 (.tmp 21) (.tmp 20)), .none, [], .none⟩])) (.ops [(qS 12 (.mv (.tmp 4))), (qS 13 (.pu (.n (.ar .add)) [(.tmp 12), (ic 1)])), (qS 4 (.mv (.tmp 13)))])))))) (.seq (.ops [(qS 22 (.mv (.tmp 3))), (qS 2 (.mv (.tmp 22)))]) .ret)))), [(.tmp 2)]⟩
set_option maxHeartbeats 10000000 in
theorem d_laws_toMarkOpS {P : Program} {env : Env} {f_laws_toMarkOp : Nat}  (ep_laws_toMarkOp : env (2 * f_laws_toMarkOp) = pureFn true (FA fun a : TMark => p_laws_toMarkOp a)) (x0 : List TMark) {b : List TMark} (hp : p_laws_toMarkOpS x0 = some b) : R P env (c_laws_toMarkOpS f_laws_toMarkOp) ((encA (x0)).map ofI) [] (Tells true b) := by
  refine R_of (by simp [c_laws_toMarkOpS, encA]) ?_
  have E := ep_laws_toMarkOp
  unfold c_laws_toMarkOpS
  unfold p_laws_toMarkOpS at hp
  obtain ⟨v0, hv0, hp⟩ := bind_eq hp
  obtain ⟨kv0, qv0, lv0⟩ := mkL_some hv0
  have rv0 : (List.replicate x0.length [.i (.s (.int .i64 0)), .i (.s (.int .i64 0)), .i (.s (.int .i64 0)), .i (.s (.int .i64 0)), .i (.s (.int .i64 0)), .i (.s (.int .i64 0)), .i (.s (.int .i64 0)), .i (.s (.bool false))]).flatten = rows v0 := by rw [qv0]; exact rows_rep (x := ((TMark.mk (TStamp.mk 0 0) (TStamp.mk 0 0) (TStamp.mk 0 0) 0 false) : TMark)) rfl
  have mv0 : x0.length = v0.length := by rw [lv0]; simp
  obtain ⟨ee0, hee0, hp⟩ := bind_eq hp
  simp (maxSteps := 2000000) (disch := first|omega|(simp only[ls];first|done|omega)) only [E, hv0, rv0, kv0.1, kv0.2.1, kv0.2.2.1, kv0.2.2.2, gm]
  refine W_loopP 0 (fun s t h => match s with | (s1, s2) => t 0 = .i (.sl 8 (x0.map enc)) ∧ t 3 = .hsl 1 (x0.length * 8) 0 8 true x0.length ∧ t 4 = .i (.s (.int .i64 s2)) ∧ getCells h 1 (x0.length * 8) = some (rows (s1 : List TMark)) ∧ 1 < h.length) (RK [.tmp 2] (Tells true)) ?_ hee0 ?_ ?_
  · rintro ⟨s1, s2⟩ ee tt0 hh0 ⟨ftt0_0, ftt0_1, ftt0_2, ftt0_3, ftt0_4⟩ hp
    have ztt0_3 := len_rows ftt0_3
    simp only [zs] at ztt0_3
    rw [p_laws_toMarkOpS_l0] at hp
    by_cases hb3 : (decide (s2 < (x0.length : Int))) = true
    · rw [if_t hb3] at hp
      obtain ⟨v4, hv4, hp⟩ := bind_eq hp
      obtain ⟨v5, hv5, hp⟩ := bind_eq hp
      obtain ⟨v6, hv6, hp⟩ := bind_eq hp
      have gv6 := get_some hv6
      have hs7 : List.take (s2.toNat * 8) (rows s1) ++ .i (.s (.int .i64 v5.id.time)) :: .i (.s (.int .i64 v5.id.actor)) :: .i (.s (.int .i64 v5.from_.time)) :: .i (.s (.int .i64 v5.from_.actor)) :: .i (.s (.int .i64 v5.to.time)) :: .i (.s (.int .i64 v5.to.actor)) :: .i (.s (.int .i64 v5.kind)) :: .i (.s (.bool v5.on)) :: List.drop (s2.toNat * 8 + 8) (rows s1) = rows (s1.set s2.toNat v5) := by simpa [splice, zs, cellsV, I.cells, enc_TMark] using rows_set_off (y := v5) (ys := [.i (.s (.int .i64 v5.id.time)), .i (.s (.int .i64 v5.id.actor)), .i (.s (.int .i64 v5.from_.time)), .i (.s (.int .i64 v5.from_.actor)), .i (.s (.int .i64 v5.to.time)), .i (.s (.int .i64 v5.to.actor)), .i (.s (.int .i64 v5.kind)), .i (.s (.bool v5.on))]) (k := 0) gv6.2.2 (Nat.le_of_ble_eq_true rfl) (by rfl)
      have hp := Option.some.inj hp
      subst hp
      simp (maxSteps := 2000000) (disch := first|omega|(simp only[ls];first|done|omega)) only [E, hv0, rv0, kv0.1, kv0.2.1, kv0.2.2.1, kv0.2.2.2, ftt0_0, ftt0_1, ftt0_2, ftt0_3, ftt0_4, hb3, hv4, hv5, hv6, (gv6).1, (gv6).2.1, hs7, gm] <;> omega
    · replace hb3 := eq_false_of_ne_true hb3
      rw [if_f hb3] at hp
      have hp := Option.some.inj hp
      subst hp
      simp (maxSteps := 2000000) (disch := first|omega|(simp only[ls];first|done|omega)) only [E, hv0, rv0, kv0.1, kv0.2.1, kv0.2.2.1, kv0.2.2.2, ftt0_0, ftt0_1, ftt0_2, ftt0_3, ftt0_4, hb3, gm] <;> omega
  · simp (maxSteps := 2000000) (disch := first|omega|(simp only[ls];first|done|omega)) only [E, hv0, rv0, kv0.1, kv0.2.1, kv0.2.2.1, kv0.2.2.2, gm] <;> omega
  · intro x tt1 hh1 hx
    rcases ee0 with ⟨o8, o9⟩ | r
    · obtain ⟨rfl, ftt1_0, ftt1_1, ftt1_2, ftt1_3, ftt1_4⟩ := hx
      have ztt1_3 := len_rows ftt1_3
      simp only [zs] at ztt1_3
      dsimp only at hp
      have hp := Option.some.inj hp
      subst hp
      simp (maxSteps := 2000000) (disch := first|omega|(simp only[ls];first|done|omega)) only [E, hv0, rv0, kv0.1, kv0.2.1, kv0.2.2.1, kv0.2.2.2, ftt1_0, ftt1_1, ftt1_2, ftt1_3, ftt1_4, gm]
    · obtain ⟨rfl, hx⟩ := hx
      dsimp only at hp
      cases hp
      simp only [seqK_ret, blockK_ret, retK_RK (K := Tells true), hx, and_self, true_and]

def o_laws_toMarkOpS (b : List TMark) (v : V) (h : Heap) : Prop := ∃ n0 : Nat, v = .hsl n0 (b.length * 8) 0 8 true b.length ∧ getCells h n0 (b.length * 8) = some (rows b)
def oo_laws_toMarkOpS (b : List TMark) (h : Heap) (v : V) (h2 : Heap) : Prop := Keep [] h h2 ∧ ∃ n0 : Nat, v = .hsl n0 (b.length * 8) 0 8 true b.length ∧ n0 < h2.length ∧ h.length ≤ n0 ∧ getCells h2 n0 (b.length * 8) = some (rows b)
def k_laws_toMarkOpS (F : Fun) : Prop := ∀ (x0 : List TMark) (b : List TMark), p_laws_toMarkOpS x0 = some b → ∀ (h : Heap) (args : List V), snapA 9 false h args = some (encA (x0)) → ∃ p, F none args h = some p ∧ oo_laws_toMarkOpS b h p.1 p.2
set_option maxHeartbeats 10000000 in
theorem w_laws_toMarkOpS {P : Program} {env : Env} {f_laws_toMarkOp : Nat}  (ep_laws_toMarkOp : env (2 * f_laws_toMarkOp) = pureFn true (FA fun a : TMark => p_laws_toMarkOp a)) (x0 : List TMark) {b : List TMark} (hp : p_laws_toMarkOpS x0 = some b) : R P env (c_laws_toMarkOpS f_laws_toMarkOp) ((encA (x0)).map ofI) [] (o_laws_toMarkOpS b) := by
  refine R_of (by simp [c_laws_toMarkOpS, encA]) ?_
  have E := ep_laws_toMarkOp
  unfold c_laws_toMarkOpS
  unfold p_laws_toMarkOpS at hp
  obtain ⟨v0, hv0, hp⟩ := bind_eq hp
  obtain ⟨kv0, qv0, lv0⟩ := mkL_some hv0
  have rv0 : (List.replicate x0.length [.i (.s (.int .i64 0)), .i (.s (.int .i64 0)), .i (.s (.int .i64 0)), .i (.s (.int .i64 0)), .i (.s (.int .i64 0)), .i (.s (.int .i64 0)), .i (.s (.int .i64 0)), .i (.s (.bool false))]).flatten = rows v0 := by rw [qv0]; exact rows_rep (x := ((TMark.mk (TStamp.mk 0 0) (TStamp.mk 0 0) (TStamp.mk 0 0) 0 false) : TMark)) rfl
  have mv0 : x0.length = v0.length := by rw [lv0]; simp
  obtain ⟨ee0, hee0, hp⟩ := bind_eq hp
  simp (maxSteps := 2000000) (disch := first|omega|(simp only[ls];first|done|omega)) only [E, hv0, rv0, kv0.1, kv0.2.1, kv0.2.2.1, kv0.2.2.2, gm]
  refine W_loopP 0 (fun s t h => match s with | (s1, s2) => t 0 = .i (.sl 8 (x0.map enc)) ∧ t 3 = .hsl 1 (x0.length * 8) 0 8 true x0.length ∧ t 4 = .i (.s (.int .i64 s2)) ∧ getCells h 1 (x0.length * 8) = some (rows (s1 : List TMark)) ∧ 1 < h.length) (RK [.tmp 2] (o_laws_toMarkOpS)) ?_ hee0 ?_ ?_
  · rintro ⟨s1, s2⟩ ee tt0 hh0 ⟨ftt0_0, ftt0_1, ftt0_2, ftt0_3, ftt0_4⟩ hp
    have ztt0_3 := len_rows ftt0_3
    simp only [zs] at ztt0_3
    rw [p_laws_toMarkOpS_l0] at hp
    by_cases hb3 : (decide (s2 < (x0.length : Int))) = true
    · rw [if_t hb3] at hp
      obtain ⟨v4, hv4, hp⟩ := bind_eq hp
      obtain ⟨v5, hv5, hp⟩ := bind_eq hp
      obtain ⟨v6, hv6, hp⟩ := bind_eq hp
      have gv6 := get_some hv6
      have hs7 : List.take (s2.toNat * 8) (rows s1) ++ .i (.s (.int .i64 v5.id.time)) :: .i (.s (.int .i64 v5.id.actor)) :: .i (.s (.int .i64 v5.from_.time)) :: .i (.s (.int .i64 v5.from_.actor)) :: .i (.s (.int .i64 v5.to.time)) :: .i (.s (.int .i64 v5.to.actor)) :: .i (.s (.int .i64 v5.kind)) :: .i (.s (.bool v5.on)) :: List.drop (s2.toNat * 8 + 8) (rows s1) = rows (s1.set s2.toNat v5) := by simpa [splice, zs, cellsV, I.cells, enc_TMark] using rows_set_off (y := v5) (ys := [.i (.s (.int .i64 v5.id.time)), .i (.s (.int .i64 v5.id.actor)), .i (.s (.int .i64 v5.from_.time)), .i (.s (.int .i64 v5.from_.actor)), .i (.s (.int .i64 v5.to.time)), .i (.s (.int .i64 v5.to.actor)), .i (.s (.int .i64 v5.kind)), .i (.s (.bool v5.on))]) (k := 0) gv6.2.2 (Nat.le_of_ble_eq_true rfl) (by rfl)
      have hp := Option.some.inj hp
      subst hp
      simp (maxSteps := 2000000) (disch := first|omega|(simp only[ls];first|done|omega)) only [E, hv0, rv0, kv0.1, kv0.2.1, kv0.2.2.1, kv0.2.2.2, ftt0_0, ftt0_1, ftt0_2, ftt0_3, ftt0_4, hb3, hv4, hv5, hv6, (gv6).1, (gv6).2.1, hs7, gm] <;> omega
    · replace hb3 := eq_false_of_ne_true hb3
      rw [if_f hb3] at hp
      have hp := Option.some.inj hp
      subst hp
      simp (maxSteps := 2000000) (disch := first|omega|(simp only[ls];first|done|omega)) only [E, hv0, rv0, kv0.1, kv0.2.1, kv0.2.2.1, kv0.2.2.2, ftt0_0, ftt0_1, ftt0_2, ftt0_3, ftt0_4, hb3, gm] <;> omega
  · simp (maxSteps := 2000000) (disch := first|omega|(simp only[ls];first|done|omega)) only [E, hv0, rv0, kv0.1, kv0.2.1, kv0.2.2.1, kv0.2.2.2, gm] <;> omega
  · intro x tt1 hh1 hx
    rcases ee0 with ⟨o8, o9⟩ | r
    · obtain ⟨rfl, ftt1_0, ftt1_1, ftt1_2, ftt1_3, ftt1_4⟩ := hx
      have ztt1_3 := len_rows ftt1_3
      simp only [zs] at ztt1_3
      dsimp only at hp
      have hp := Option.some.inj hp
      subst hp
      simp (maxSteps := 2000000) (disch := first|omega|(simp only[ls];first|done|omega)) only [E, hv0, rv0, kv0.1, kv0.2.1, kv0.2.2.1, kv0.2.2.2, ftt1_0, ftt1_1, ftt1_2, ftt1_3, ftt1_4, gm]
      refine ⟨1, ?_⟩
      simp (maxSteps := 2000000) (disch := first|omega|(simp only[ls];first|done|omega)) only [E, hv0, rv0, kv0.1, kv0.2.1, kv0.2.2.1, kv0.2.2.2, ftt1_0, ftt1_1, ftt1_2, ftt1_3, ftt1_4, o_laws_toMarkOpS, (show (o8).length = x0.length from by first | omega | rfl | (simp; done) | (simp; omega)), gm] <;> omega
    · obtain ⟨rfl, hx⟩ := hx
      dsimp only at hp
      cases hp
      simp only [seqK_ret, blockK_ret, retK_RK (K := o_laws_toMarkOpS), hx, and_self, true_and]
theorem ko_laws_toMarkOpS {P : Program} {env : Env} {f_laws_toMarkOp : Nat}  (ep_laws_toMarkOp : env (2 * f_laws_toMarkOp) = pureFn true (FA fun a : TMark => p_laws_toMarkOp a)) : k_laws_toMarkOpS (ownFn P env (c_laws_toMarkOpS f_laws_toMarkOp)) := by
  intro x0 b hp h args has
  obtain ⟨⟨v, H2⟩, hr, n0, rfl, wn0⟩ := w_laws_toMarkOpS ep_laws_toMarkOp x0 hp
  exact ⟨_, own_call has hr rfl, keep_moved, n0 + h.length, rfl, (moved_lt wn0).2, (moved_lt wn0).1, moved_rows wn0⟩

noncomputable def p_spec_l04Ids_l0 (x0 : List TLOp) : Int × Int × Int → Option (Lp (Int × Int × Int) TStamp)
  | (s0, s1, s2) =>
    if (decide (s2 < (x0.length : Int))) = true then
      (get? x0 s2).bind fun v4 =>
      (p_spec_StampLess (TStamp.mk s0 s1) v4.id).bind fun v5 =>
      if (v5) = true then
        some (.go (v4.id.time, v4.id.actor, w64 (s2 + 1)))
      else
        some (.go (s0, s1, w64 (s2 + 1)))
    else
      some (.out (s0, s1, s2))
noncomputable def p_spec_l04Ids (x0 : List TLOp) : Option TStamp :=
  (loopP (p_spec_l04Ids_l0 x0) (0, 0, 0)).bind fun ee0 => match ee0 with
  | .ret r => some r
  | .out (o7, o8, o9) =>
    some (TStamp.mk o7 o8)
def c_spec_l04Ids (f_spec_StampLess : Nat) : AFn := ⟨25, (.seq (.ops [(qS 2 (.allocV [(0, false), (0, false)] [(.int .i64 0), (.int .i64 0)]))]) (.seq (.ops [(qS 5 (.build [(.int .i64 0), (.int .i64 0)] [])), (qS 3 (.allocV [(0, false), (0, false)] [(.int .i64 0), (.int .i64 0)])), ⟨.none, (.storeV [(0, false), (0, false)] 2 (.tmp 3) (.tmp 5)), .none, [], .none⟩]) (.seq (.seq (.ops [(qS 4 (.mv (ic 0)))]) (.block 0 (.loop (.seq (.seq (.ops [(qS 6 (.mv (.tmp 4))), (qS 7 (.mv (.tmp 0))), (qS 8 (.len (.tmp 7))), (qS 9 (.pu (.n (.ar .lss)) [(.tmp 6), (.tmp 8)]))]) (.cond (.tmp 9) .skip (.exit 0))) (.seq (.block 1 (.seq (.ops [(qS 12 (.load 2 true (.tmp 3))), (qS 13 (.mv (.tmp 0))), (qS 14 (.mv (.tmp 4))), (qS 15 (.idxS 6 (.tmp 13) (.tmp 14))), (qS 16 (.fieldA 2 (.tmp 15))), (qS 17 (.load 2 true (.tmp 16))), (qS 18 (.call (2 * f_spec_StampLess) [(.tmp 12), (.tmp 17)]))]) (.cond (.tmp 18) (.ops [(qS 19 (.mv (.tmp 0))), (qS 20 (.mv (.tmp 4))), (qS 21 (.idxS 6 (.tmp 19) (.tmp 20))), (qS 22 (.fieldA 2 (.tmp 21))), (qS 23 (.load 2 true (.tmp 22))), ⟨.none, (.storeV [(0, false), (0, false)] 2 (.tmp 3) (.tmp 23)), .none, [], .none⟩]) .skip))) (.ops [(qS 10 (.mv (.tmp 4))), (qS 11 (.pu (.n (.ar .add)) [(.tmp 10), (ic 1)])), (qS 4 (.mv (.tmp 11)))])))))) (.seq (.ops [(qS 24 (.load 2 true (.tmp 3))), ⟨.none, (.storeV [(0, false), (0, false)] 2 (.tmp 2) (.tmp 24)), .none, [], .none⟩]) .ret)))), [(.cell 2 2 true)]⟩
set_option maxHeartbeats 10000000 in
theorem d_spec_l04Ids {P : Program} {env : Env} {f_spec_StampLess : Nat}  (ep_spec_StampLess : env (2 * f_spec_StampLess) = pureFn true (FA fun a : TStamp × TStamp => p_spec_StampLess a.1 a.2)) (x0 : List TLOp) {b : TStamp} (hp : p_spec_l04Ids x0 = some b) : R P env (c_spec_l04Ids f_spec_StampLess) ((encA (x0)).map ofI) [] (Tells true b) := by
  refine R_of (by simp [c_spec_l04Ids, encA]) ?_
  have E := ep_spec_StampLess
  unfold c_spec_l04Ids
  unfold p_spec_l04Ids at hp
  obtain ⟨ee0, hee0, hp⟩ := bind_eq hp
  simp (maxSteps := 2000000) (disch := first|omega|(simp only[ls];first|done|omega)) only [E, gm]
  refine W_loopP 0 (fun s t h => match s with | (s0, s1, s2) => t 0 = .i (.sl 6 (x0.map enc)) ∧ t 2 = .ptr 0 2 0 ∧ t 3 = .ptr 1 2 0 ∧ t 4 = .i (.s (.int .i64 s2)) ∧ getCells h 0 2 = some [.i (.s (.int .i64 0)), .i (.s (.int .i64 0))] ∧ 0 < h.length ∧ getCells h 1 2 = some [.i (.s (.int .i64 s0)), .i (.s (.int .i64 s1))] ∧ 1 < h.length) (RK [.cell 2 2 true] (Tells true)) ?_ hee0 ?_ ?_
  · rintro ⟨s0, s1, s2⟩ ee tt0 hh0 ⟨ftt0_0, ftt0_1, ftt0_2, ftt0_3, ftt0_4, ftt0_5, ftt0_6, ftt0_7⟩ hp
    rw [p_spec_l04Ids_l0] at hp
    by_cases hb3 : (decide (s2 < (x0.length : Int))) = true
    · rw [if_t hb3] at hp
      obtain ⟨v4, hv4, hp⟩ := bind_eq hp
      obtain ⟨v5, hv5, hp⟩ := bind_eq hp
      by_cases hb6 : (v5) = true
      · rw [if_t hb6] at hp
        have hp := Option.some.inj hp
        subst hp
        simp (maxSteps := 2000000) (disch := first|omega|(simp only[ls];first|done|omega)) only [E, ftt0_0, ftt0_1, ftt0_2, ftt0_3, ftt0_4, ftt0_5, ftt0_6, ftt0_7, hb3, hv4, hv5, hb6, gm] <;> omega
      · replace hb6 := eq_false_of_ne_true hb6
        rw [if_f hb6] at hp
        have hp := Option.some.inj hp
        subst hp
        simp (maxSteps := 2000000) (disch := first|omega|(simp only[ls];first|done|omega)) only [E, ftt0_0, ftt0_1, ftt0_2, ftt0_3, ftt0_4, ftt0_5, ftt0_6, ftt0_7, hb3, hv4, hv5, hb6, gm] <;> omega
    · replace hb3 := eq_false_of_ne_true hb3
      rw [if_f hb3] at hp
      have hp := Option.some.inj hp
      subst hp
      simp (maxSteps := 2000000) (disch := first|omega|(simp only[ls];first|done|omega)) only [E, ftt0_0, ftt0_1, ftt0_2, ftt0_3, ftt0_4, ftt0_5, ftt0_6, ftt0_7, hb3, gm] <;> omega
  · simp (maxSteps := 2000000) (disch := first|omega|(simp only[ls];first|done|omega)) only [E, gm] <;> omega
  · intro x tt1 hh1 hx
    rcases ee0 with ⟨o7, o8, o9⟩ | r
    · obtain ⟨rfl, ftt1_0, ftt1_1, ftt1_2, ftt1_3, ftt1_4, ftt1_5, ftt1_6, ftt1_7⟩ := hx
      dsimp only at hp
      have hp := Option.some.inj hp
      subst hp
      simp (maxSteps := 2000000) (disch := first|omega|(simp only[ls];first|done|omega)) only [E, ftt1_0, ftt1_1, ftt1_2, ftt1_3, ftt1_4, ftt1_5, ftt1_6, ftt1_7, gm]
    · obtain ⟨rfl, hx⟩ := hx
      dsimp only at hp
      cases hp
      simp only [seqK_ret, blockK_ret, retK_RK (K := Tells true), hx, and_self, true_and]

noncomputable def p_spec_StampNext_l0 (x0 : List TStamp) : Int → Option (Lp (Int) (T2 TStamp Int))
  | s3 =>
    if (decide (s3 < (x0.length : Int))) = true then
      (get? x0 s3).bind fun v5 =>
      (p_spec_StampOK v5).bind fun v6 =>
      if (v6) = true then
        some (.go (w64 (s3 + 1)))
      else
        (p_spec_l02None v5).bind fun v8 =>
        if (v8) = true then
          some (.go (w64 (s3 + 1)))
        else
          some (.ret ⟨(TStamp.mk 0 0), 4⟩)
    else
      some (.out s3)
noncomputable def p_spec_StampNext_l1 (x0 : List TStamp) (x1 : Int) : Int × Int → Option (Lp (Int × Int) (T2 TStamp Int))
  | (s11, s12) =>
    if (decide (s12 < (x0.length : Int))) = true then
      (get? x0 s12).bind fun v14 =>
      (p_spec_StampLess v14 (TStamp.mk s11 x1)).bind fun v15 =>
      if (v15) = true then
        some (.go (s11, w64 (s12 + 1)))
      else
        if (decide (x1 ≤ v14.actor)) = true then
          some (.go (w64 (v14.time + 1), w64 (s12 + 1)))
        else
          some (.go (v14.time, w64 (s12 + 1)))
    else
      some (.out (s11, s12))
noncomputable def p_spec_StampNext (x0 : List TStamp) (x1 : Int) : Option (T2 TStamp Int) :=
  if (decide (4096 < (x0.length : Int))) = true then
    some ⟨(TStamp.mk 0 0), 2⟩
  else
    if (decide (x1 < 0)) = true then
      some ⟨(TStamp.mk 0 0), 4⟩
    else
      if (decide (16 ≤ x1)) = true then
        some ⟨(TStamp.mk 0 0), 4⟩
      else
        (loopP (p_spec_StampNext_l0 x0) 0).bind fun ee0 => match ee0 with
        | .ret r => some r
        | .out o10 =>
          (loopP (p_spec_StampNext_l1 x0 x1) (1, 0)).bind fun ee1 => match ee1 with
          | .ret r => some r
          | .out (o18, o19) =>
            if (decide (1000000000000 < o18)) = true then
              some ⟨(TStamp.mk 0 0), 11⟩
            else
              some ⟨(TStamp.mk o18 x1), 0⟩
def c_spec_StampNext (f_spec_StampOK : Nat) (f_spec_l02None : Nat) (f_spec_StampLess : Nat) : AFn := ⟨78, (.seq (.ops [(qS 4 (.allocV [(0, false), (0, false)] [(.int .i64 0), (.int .i64 0)])), (qS 5 (.mv (ic 0)))]) (.seq (.seq (.ops [(qS 9 (.mv (.tmp 0))), (qS 10 (.len (.tmp 9))), (qS 11 (.pu (.n (.ar .gtr)) [(.tmp 10), (ic 4096)]))]) (.cond (.tmp 11) (.seq (.ops [(qS 12 (.build [(.int .i64 0), (.int .i64 0)] [])), ⟨.none, (.storeV [(0, false), (0, false)] 2 (.tmp 4) (.tmp 12)), .none, [], .none⟩, (qS 5 (.mv (ic 2)))]) .ret) .skip)) (.seq (.seq (.ops [(qS 13 (.mv (.tmp 1))), (qS 14 (.pu (.n (.ar .lss)) [(.tmp 13), (ic 0)])), (qS 15 (.mv (.tmp 14))), ⟨(.some 16), (.mv (.tmp 1)), (.some (15, false)), [], .none⟩, ⟨(.some 17), (.pu (.n (.ar .geq)) [(.tmp 16), (ic 16)]), (.some (15, false)), [], .none⟩, (qS 18 (.pick (.tmp 15) (.const (.bool true)) (.tmp 17)))]) (.cond (.tmp 18) (.seq (.ops [(qS 19 (.build [(.int .i64 0), (.int .i64 0)] [])), ⟨.none, (.storeV [(0, false), (0, false)] 2 (.tmp 4) (.tmp 19)), .none, [], .none⟩, (qS 5 (.mv (ic 4)))]) .ret) .skip)) (.seq (.ops [(qS 20 (.mv (.tmp 1))), (qS 21 (.build [(.int .i64 0), (.int .i64 0)] [(0, (1, (ic 1))), (1, (1, (.tmp 20)))])), (qS 6 (.allocV [(0, false), (0, false)] [(.int .i64 0), (.int .i64 0)])), ⟨.none, (.storeV [(0, false), (0, false)] 2 (.tmp 6) (.tmp 21)), .none, [], .none⟩]) (.seq (.seq (.ops [(qS 7 (.mv (ic 0)))]) (.block 0 (.loop (.seq (.seq (.ops [(qS 22 (.mv (.tmp 7))), (qS 23 (.mv (.tmp 0))), (qS 24 (.len (.tmp 23))), (qS 25 (.pu (.n (.ar .lss)) [(.tmp 22), (.tmp 24)]))]) (.cond (.tmp 25) .skip (.exit 0))) (.seq (.block 1 (.seq (.ops [(qS 28 (.mv (.tmp 0))), (qS 29 (.mv (.tmp 7))), (qS 30 (.idxS 2 (.tmp 28) (.tmp 29))), (qS 31 (.load 2 true (.tmp 30))), (qS 32 (.call (2 * f_spec_StampOK) [(.tmp 31)])), (qS 33 (.pu (.n (.un .not)) [(.tmp 32)])), (qS 34 (.mv (.tmp 33))), ⟨(.some 35), (.mv (.tmp 0)), (.some (34, true)), [], .none⟩, ⟨(.some 36), (.mv (.tmp 7)), (.some (34, true)), [], .none⟩, ⟨(.some 37), (.idxS 2 (.tmp 35) (.tmp 36)), (.some (34, true)), [], .none⟩, ⟨(.some 38), (.load 2 true (.tmp 37)), (.some (34, true)), [], .none⟩, ⟨(.some 39), (.call (2 * f_spec_l02None) [(.tmp 38)]), (.some (34, true)), [], .none⟩, ⟨(.some 40), (.pu (.n (.un .not)) [(.tmp 39)]), (.some (34, true)), [], .none⟩, (qS 41 (.pick (.tmp 34) (.tmp 40) (.const (.bool false))))]) (.cond (.tmp 41) (.seq (.ops [(qS 42 (.build [(.int .i64 0), (.int .i64 0)] [])), ⟨.none, (.storeV [(0, false), (0, false)] 2 (.tmp 4) (.tmp 42)), .none, [], .none⟩, (qS 5 (.mv (ic 4)))]) .ret) .skip))) (.ops [(qS 26 (.mv (.tmp 7))), (qS 27 (.pu (.n (.ar .add)) [(.tmp 26), (ic 1)])), (qS 7 (.mv (.tmp 27)))])))))) (.seq (.seq (.ops [(qS 8 (.mv (ic 0)))]) (.block 2 (.loop (.seq (.seq (.ops [(qS 43 (.mv (.tmp 8))), (qS 44 (.mv (.tmp 0))), (qS 45 (.len (.tmp 44))), (qS 46 (.pu (.n (.ar .lss)) [(.tmp 43), (.tmp 45)]))]) (.cond (.tmp 46) .skip (.exit 2))) (.seq (.block 3 (.seq (.ops [(qS 49 (.mv (.tmp 0))), (qS 50 (.mv (.tmp 8))), (qS 51 (.idxS 2 (.tmp 49) (.tmp 50))), (qS 52 (.load 2 true (.tmp 51))), (qS 53 (.load 2 true (.tmp 6))), (qS 54 (.call (2 * f_spec_StampLess) [(.tmp 52), (.tmp 53)])), (qS 55 (.pu (.n (.un .not)) [(.tmp 54)]))]) (.cond (.tmp 55) (.seq (.ops [(qS 56 (.mv (.tmp 0))), (qS 57 (.mv (.tmp 8))), (qS 58 (.idxS 2 (.tmp 56) (.tmp 57))), (qS 59 (.fieldA 0 (.tmp 58))), (qS 60 (.load 1 false (.tmp 59))), (qS 61 (.fieldA 0 (.tmp 6))), ⟨.none, (.storeV [(0, false)] 1 (.tmp 61) (.tmp 60)), .none, [], .none⟩]) (.seq (.ops [(qS 62 (.mv (.tmp 0))), (qS 63 (.mv (.tmp 8))), (qS 64 (.idxS 2 (.tmp 62) (.tmp 63))), (qS 65 (.fieldA 1 (.tmp 64))), (qS 66 (.load 1 false (.tmp 65))), (qS 67 (.mv (.tmp 1))), (qS 68 (.pu (.n (.ar .geq)) [(.tmp 66), (.tmp 67)]))]) (.cond (.tmp 68) (.ops [(qS 69 (.fieldA 0 (.tmp 6))), (qS 70 (.load 1 false (.tmp 69))), (qS 71 (.pu (.n (.ar .add)) [(.tmp 70), (ic 1)])), (qS 72 (.fieldA 0 (.tmp 6))), ⟨.none, (.storeV [(0, false)] 1 (.tmp 72) (.tmp 71)), .none, [], .none⟩]) .skip))) .skip))) (.ops [(qS 47 (.mv (.tmp 8))), (qS 48 (.pu (.n (.ar .add)) [(.tmp 47), (ic 1)])), (qS 8 (.mv (.tmp 48)))])))))) (.seq (.seq (.ops [(qS 73 (.fieldA 0 (.tmp 6))), (qS 74 (.load 1 false (.tmp 73))), (qS 75 (.pu (.n (.ar .gtr)) [(.tmp 74), (ic 1000000000000)]))]) (.cond (.tmp 75) (.seq (.ops [(qS 76 (.build [(.int .i64 0), (.int .i64 0)] [])), ⟨.none, (.storeV [(0, false), (0, false)] 2 (.tmp 4) (.tmp 76)), .none, [], .none⟩, (qS 5 (.mv (ic 11)))]) .ret) .skip)) (.seq (.ops [(qS 77 (.load 2 true (.tmp 6))), ⟨.none, (.storeV [(0, false), (0, false)] 2 (.tmp 4) (.tmp 77)), .none, [], .none⟩, (qS 5 (.mv (ic 0)))]) .ret)))))))), [(.cell 4 2 true), (.tmp 5)]⟩
set_option maxHeartbeats 10000000 in
theorem d_spec_StampNext {P : Program} {env : Env} {f_spec_StampOK : Nat} {f_spec_l02None : Nat} {f_spec_StampLess : Nat}  (ep_spec_StampOK : env (2 * f_spec_StampOK) = pureFn true (FA fun a : TStamp => p_spec_StampOK a)) (ep_spec_l02None : env (2 * f_spec_l02None) = pureFn true (FA fun a : TStamp => p_spec_l02None a)) (ep_spec_StampLess : env (2 * f_spec_StampLess) = pureFn true (FA fun a : TStamp × TStamp => p_spec_StampLess a.1 a.2)) (x0 : List TStamp) (x1 : Int) {b : T2 TStamp Int} (hp : p_spec_StampNext x0 x1 = some b) : R P env (c_spec_StampNext f_spec_StampOK f_spec_l02None f_spec_StampLess) ((encA (x0, x1)).map ofI) [] (Tells true b) := by
  refine R_of (by simp [c_spec_StampNext, encA]) ?_
  have E := And.intro ep_spec_StampOK (And.intro ep_spec_l02None ep_spec_StampLess)
  unfold c_spec_StampNext
  unfold p_spec_StampNext at hp
  by_cases hb0 : (decide (4096 < (x0.length : Int))) = true
  · rw [if_t hb0] at hp
    have hp := Option.some.inj hp
    subst hp
    simp (maxSteps := 2000000) (disch := first|omega|(simp only[ls];first|done|omega)) only [E, hb0, gm]
  · replace hb0 := eq_false_of_ne_true hb0
    rw [if_f hb0] at hp
    by_cases hb1 : (decide (x1 < 0)) = true
    · rw [if_t hb1] at hp
      have hp := Option.some.inj hp
      subst hp
      simp (maxSteps := 2000000) (disch := first|omega|(simp only[ls];first|done|omega)) only [E, hb0, hb1, gm]
    · replace hb1 := eq_false_of_ne_true hb1
      rw [if_f hb1] at hp
      by_cases hb2 : (decide (16 ≤ x1)) = true
      · rw [if_t hb2] at hp
        have hp := Option.some.inj hp
        subst hp
        simp (maxSteps := 2000000) (disch := first|omega|(simp only[ls];first|done|omega)) only [E, hb0, hb1, hb2, gm]
      · replace hb2 := eq_false_of_ne_true hb2
        rw [if_f hb2] at hp
        obtain ⟨ee0, hee0, hp⟩ := bind_eq hp
        simp (maxSteps := 2000000) (disch := first|omega|(simp only[ls];first|done|omega)) only [E, hb0, hb1, hb2, gm]
        refine W_loopP 0 (fun s t h => match s with | s3 => t 0 = .i (.sl 2 (x0.map enc)) ∧ t 1 = .i (.s (.int .i64 x1)) ∧ t 4 = .ptr 0 2 0 ∧ t 6 = .ptr 1 2 0 ∧ t 7 = .i (.s (.int .i64 s3)) ∧ getCells h 0 2 = some [.i (.s (.int .i64 0)), .i (.s (.int .i64 0))] ∧ 0 < h.length ∧ getCells h 1 2 = some [.i (.s (.int .i64 1)), .i (.s (.int .i64 x1))] ∧ 1 < h.length) (RK [.cell 4 2 true, .tmp 5] (Tells true)) ?_ hee0 ?_ ?_
        · rintro s3 ee tt0 hh0 ⟨ftt0_0, ftt0_1, ftt0_2, ftt0_3, ftt0_4, ftt0_5, ftt0_6, ftt0_7, ftt0_8⟩ hp
          rw [p_spec_StampNext_l0] at hp
          by_cases hb4 : (decide (s3 < (x0.length : Int))) = true
          · rw [if_t hb4] at hp
            obtain ⟨v5, hv5, hp⟩ := bind_eq hp
            obtain ⟨v6, hv6, hp⟩ := bind_eq hp
            by_cases hb7 : (v6) = true
            · rw [if_t hb7] at hp
              have hp := Option.some.inj hp
              subst hp
              simp (maxSteps := 2000000) (disch := first|omega|(simp only[ls];first|done|omega)) only [E, hb0, hb1, hb2, ftt0_0, ftt0_1, ftt0_2, ftt0_3, ftt0_4, ftt0_5, ftt0_6, ftt0_7, ftt0_8, hb4, hv5, hv6, hb7, gm] <;> omega
            · replace hb7 := eq_false_of_ne_true hb7
              rw [if_f hb7] at hp
              obtain ⟨v8, hv8, hp⟩ := bind_eq hp
              by_cases hb9 : (v8) = true
              · rw [if_t hb9] at hp
                have hp := Option.some.inj hp
                subst hp
                simp (maxSteps := 2000000) (disch := first|omega|(simp only[ls];first|done|omega)) only [E, hb0, hb1, hb2, ftt0_0, ftt0_1, ftt0_2, ftt0_3, ftt0_4, ftt0_5, ftt0_6, ftt0_7, ftt0_8, hb4, hv5, hv6, hb7, hv8, hb9, gm] <;> omega
              · replace hb9 := eq_false_of_ne_true hb9
                rw [if_f hb9] at hp
                have hp := Option.some.inj hp
                subst hp
                simp (maxSteps := 2000000) (disch := first|omega|(simp only[ls];first|done|omega)) only [E, hb0, hb1, hb2, ftt0_0, ftt0_1, ftt0_2, ftt0_3, ftt0_4, ftt0_5, ftt0_6, ftt0_7, ftt0_8, hb4, hv5, hv6, hb7, hv8, hb9, gm]
          · replace hb4 := eq_false_of_ne_true hb4
            rw [if_f hb4] at hp
            have hp := Option.some.inj hp
            subst hp
            simp (maxSteps := 2000000) (disch := first|omega|(simp only[ls];first|done|omega)) only [E, hb0, hb1, hb2, ftt0_0, ftt0_1, ftt0_2, ftt0_3, ftt0_4, ftt0_5, ftt0_6, ftt0_7, ftt0_8, hb4, gm] <;> omega
        · simp (maxSteps := 2000000) (disch := first|omega|(simp only[ls];first|done|omega)) only [E, hb0, hb1, hb2, gm] <;> omega
        · intro x tt1 hh1 hx
          rcases ee0 with o10 | r
          · obtain ⟨rfl, ftt1_0, ftt1_1, ftt1_2, ftt1_3, ftt1_4, ftt1_5, ftt1_6, ftt1_7, ftt1_8⟩ := hx
            dsimp only at hp
            obtain ⟨ee1, hee1, hp⟩ := bind_eq hp
            simp (maxSteps := 2000000) (disch := first|omega|(simp only[ls];first|done|omega)) only [E, hb0, hb1, hb2, ftt1_0, ftt1_1, ftt1_2, ftt1_3, ftt1_4, ftt1_5, ftt1_6, ftt1_7, ftt1_8, gm]
            refine W_loopP 2 (fun s t h => match s with | (s11, s12) => t 0 = .i (.sl 2 (x0.map enc)) ∧ t 1 = .i (.s (.int .i64 x1)) ∧ t 4 = .ptr 0 2 0 ∧ t 6 = .ptr 1 2 0 ∧ t 8 = .i (.s (.int .i64 s12)) ∧ getCells h 0 2 = some [.i (.s (.int .i64 0)), .i (.s (.int .i64 0))] ∧ 0 < h.length ∧ getCells h 1 2 = some [.i (.s (.int .i64 s11)), .i (.s (.int .i64 x1))] ∧ 1 < h.length) (RK [.cell 4 2 true, .tmp 5] (Tells true)) ?_ hee1 ?_ ?_
            · rintro ⟨s11, s12⟩ ee tt2 hh2 ⟨ftt2_0, ftt2_1, ftt2_2, ftt2_3, ftt2_4, ftt2_5, ftt2_6, ftt2_7, ftt2_8⟩ hp
              rw [p_spec_StampNext_l1] at hp
              by_cases hb13 : (decide (s12 < (x0.length : Int))) = true
              · rw [if_t hb13] at hp
                obtain ⟨v14, hv14, hp⟩ := bind_eq hp
                obtain ⟨v15, hv15, hp⟩ := bind_eq hp
                by_cases hb16 : (v15) = true
                · rw [if_t hb16] at hp
                  have hp := Option.some.inj hp
                  subst hp
                  simp (maxSteps := 2000000) (disch := first|omega|(simp only[ls];first|done|omega)) only [E, hb0, hb1, hb2, ftt1_0, ftt1_1, ftt1_2, ftt1_3, ftt1_4, ftt1_5, ftt1_6, ftt1_7, ftt1_8, ftt2_0, ftt2_1, ftt2_2, ftt2_3, ftt2_4, ftt2_5, ftt2_6, ftt2_7, ftt2_8, hb13, hv14, hv15, hb16, gm] <;> omega
                · replace hb16 := eq_false_of_ne_true hb16
                  rw [if_f hb16] at hp
                  by_cases hb17 : (decide (x1 ≤ v14.actor)) = true
                  · rw [if_t hb17] at hp
                    have hp := Option.some.inj hp
                    subst hp
                    simp (maxSteps := 2000000) (disch := first|omega|(simp only[ls];first|done|omega)) only [E, hb0, hb1, hb2, ftt1_0, ftt1_1, ftt1_2, ftt1_3, ftt1_4, ftt1_5, ftt1_6, ftt1_7, ftt1_8, ftt2_0, ftt2_1, ftt2_2, ftt2_3, ftt2_4, ftt2_5, ftt2_6, ftt2_7, ftt2_8, hb13, hv14, hv15, hb16, hb17, gm] <;> omega
                  · replace hb17 := eq_false_of_ne_true hb17
                    rw [if_f hb17] at hp
                    have hp := Option.some.inj hp
                    subst hp
                    simp (maxSteps := 2000000) (disch := first|omega|(simp only[ls];first|done|omega)) only [E, hb0, hb1, hb2, ftt1_0, ftt1_1, ftt1_2, ftt1_3, ftt1_4, ftt1_5, ftt1_6, ftt1_7, ftt1_8, ftt2_0, ftt2_1, ftt2_2, ftt2_3, ftt2_4, ftt2_5, ftt2_6, ftt2_7, ftt2_8, hb13, hv14, hv15, hb16, hb17, gm] <;> omega
              · replace hb13 := eq_false_of_ne_true hb13
                rw [if_f hb13] at hp
                have hp := Option.some.inj hp
                subst hp
                simp (maxSteps := 2000000) (disch := first|omega|(simp only[ls];first|done|omega)) only [E, hb0, hb1, hb2, ftt1_0, ftt1_1, ftt1_2, ftt1_3, ftt1_4, ftt1_5, ftt1_6, ftt1_7, ftt1_8, ftt2_0, ftt2_1, ftt2_2, ftt2_3, ftt2_4, ftt2_5, ftt2_6, ftt2_7, ftt2_8, hb13, gm] <;> omega
            · simp (maxSteps := 2000000) (disch := first|omega|(simp only[ls];first|done|omega)) only [E, hb0, hb1, hb2, ftt1_0, ftt1_1, ftt1_2, ftt1_3, ftt1_4, ftt1_5, ftt1_6, ftt1_7, ftt1_8, gm] <;> omega
            · intro x tt3 hh3 hx
              rcases ee1 with ⟨o18, o19⟩ | r
              · obtain ⟨rfl, ftt3_0, ftt3_1, ftt3_2, ftt3_3, ftt3_4, ftt3_5, ftt3_6, ftt3_7, ftt3_8⟩ := hx
                dsimp only at hp
                by_cases hb20 : (decide (1000000000000 < o18)) = true
                · rw [if_t hb20] at hp
                  have hp := Option.some.inj hp
                  subst hp
                  simp (maxSteps := 2000000) (disch := first|omega|(simp only[ls];first|done|omega)) only [E, hb0, hb1, hb2, ftt1_0, ftt1_1, ftt1_2, ftt1_3, ftt1_4, ftt1_5, ftt1_6, ftt1_7, ftt1_8, ftt3_0, ftt3_1, ftt3_2, ftt3_3, ftt3_4, ftt3_5, ftt3_6, ftt3_7, ftt3_8, hb20, gm]
                · replace hb20 := eq_false_of_ne_true hb20
                  rw [if_f hb20] at hp
                  have hp := Option.some.inj hp
                  subst hp
                  simp (maxSteps := 2000000) (disch := first|omega|(simp only[ls];first|done|omega)) only [E, hb0, hb1, hb2, ftt1_0, ftt1_1, ftt1_2, ftt1_3, ftt1_4, ftt1_5, ftt1_6, ftt1_7, ftt1_8, ftt3_0, ftt3_1, ftt3_2, ftt3_3, ftt3_4, ftt3_5, ftt3_6, ftt3_7, ftt3_8, hb20, gm]
              · obtain ⟨rfl, hx⟩ := hx
                dsimp only at hp
                cases hp
                simp only [seqK_ret, blockK_ret, retK_RK (K := Tells true), hx, and_self, true_and]
          · obtain ⟨rfl, hx⟩ := hx
            dsimp only at hp
            cases hp
            simp only [seqK_ret, blockK_ret, retK_RK (K := Tells true), hx, and_self, true_and]

noncomputable def p_spec_MarkText_l0 (v0 : T3 (List TLCell) (List TMark) Int) : Int × Int × Int → Option (Lp (Int × Int × Int) (T2 TMark Int))
  | (s12, s13, s14) =>
    if (decide (s14 < (v0.b.length : Int))) = true then
      (get? v0.b s14).bind fun v16 =>
      (p_spec_StampLess (TStamp.mk s12 s13) v16.id).bind fun v17 =>
      if (v17) = true then
        some (.go (v16.id.time, v16.id.actor, w64 (s14 + 1)))
      else
        some (.go (s12, s13, w64 (s14 + 1)))
    else
      some (.out (s12, s13, s14))
noncomputable def p_spec_MarkText (x0 : List TLOp) (x1 : List TMark) (x2 : Int) (x3 : Int) (x4 : Int) (x5 : Int) (x6 : Bool) : Option (T2 TMark Int) :=
  (p_spec_l05Clean x0 x1).bind fun v0 =>
  if (decide (v0.c = 0)) = true then
    (p_spec_l04Seen v0.a).bind fun v2 =>
    if (decide (x2 < 0)) = true then
      some ⟨(TMark.mk (TStamp.mk 0 0) (TStamp.mk 0 0) (TStamp.mk 0 0) 0 false), 4⟩
    else
      if (decide (16 ≤ x2)) = true then
        some ⟨(TMark.mk (TStamp.mk 0 0) (TStamp.mk 0 0) (TStamp.mk 0 0) 0 false), 4⟩
      else
        if (decide (x5 < 1)) = true then
          some ⟨(TMark.mk (TStamp.mk 0 0) (TStamp.mk 0 0) (TStamp.mk 0 0) 0 false), 4⟩
        else
          if (decide (8 < x5)) = true then
            some ⟨(TMark.mk (TStamp.mk 0 0) (TStamp.mk 0 0) (TStamp.mk 0 0) 0 false), 4⟩
          else
            if (decide (x3 < 0)) = true then
              some ⟨(TMark.mk (TStamp.mk 0 0) (TStamp.mk 0 0) (TStamp.mk 0 0) 0 false), 4⟩
            else
              if (decide (x4 < 1)) = true then
                some ⟨(TMark.mk (TStamp.mk 0 0) (TStamp.mk 0 0) (TStamp.mk 0 0) 0 false), 4⟩
              else
                if (decide ((v2.length : Int) < x3)) = true then
                  some ⟨(TMark.mk (TStamp.mk 0 0) (TStamp.mk 0 0) (TStamp.mk 0 0) 0 false), 4⟩
                else
                  if (decide (w64 ((v2.length : Int) - x3) < x4)) = true then
                    some ⟨(TMark.mk (TStamp.mk 0 0) (TStamp.mk 0 0) (TStamp.mk 0 0) 0 false), 4⟩
                  else
                    (p_spec_l04Ids x0).bind fun v11 =>
                    (loopP (p_spec_MarkText_l0 v0) (v11.time, v11.actor, 0)).bind fun ee0 => match ee0 with
                    | .ret r => some r
                    | .out (o19, o20, o21) =>
                      (p_spec_StampNext ([(TStamp.mk o19 o20)]) x2).bind fun v22 =>
                      if (decide (v22.b = 0)) = true then
                        (get? v2 x3).bind fun v24 =>
                        (get? v2 (w64 ((w64 (x3 + x4)) - 1))).bind fun v25 =>
                        some ⟨(TMark.mk v22.a v24.id v25.id x5 x6), 0⟩
                      else
                        some ⟨(TMark.mk (TStamp.mk 0 0) (TStamp.mk 0 0) (TStamp.mk 0 0) 0 false), 11⟩
  else
    some ⟨(TMark.mk (TStamp.mk 0 0) (TStamp.mk 0 0) (TStamp.mk 0 0) 0 false), v0.c⟩
def c_spec_MarkText (f_spec_l05Clean : Nat) (f_spec_l04Seen : Nat) (f_spec_l04Ids : Nat) (f_spec_StampLess : Nat) (f_spec_StampNext : Nat) : AFn := ⟨120, (.seq (.ops [(qS 14 (.allocV [(0, false), (0, false), (0, false), (0, false), (0, false), (0, false), (0, false), (0, false)] [(.int .i64 0), (.int .i64 0), (.int .i64 0), (.int .i64 0), (.int .i64 0), (.int .i64 0), (.int .i64 0), (.bool false)])), (qS 15 (.mv (ic 0)))]) (.seq (.ops [(qS 24 (.mv (.tmp 0))), (qS 25 (.mv (.tmp 1))), (qS 26 (.call (2 * f_spec_l05Clean) [(.tmp 24), (.tmp 25)])), (qS 23 (.mv (.tmp 26))), (qS 27 (.extract 0 (.tmp 23))), (qS 28 (.extract 1 (.tmp 23))), (qS 29 (.extract 2 (.tmp 23))), (qS 16 (.mv (.tmp 27))), (qS 17 (.mv (.tmp 28))), (qS 18 (.mv (.tmp 29)))]) (.seq (.seq (.ops [(qS 30 (.mv (.tmp 18))), (qS 31 (.pu (.n (.ar .neq)) [(.tmp 30), (ic 0)]))]) (.cond (.tmp 31) (.seq (.ops [(qS 32 (.build [(.int .i64 0), (.int .i64 0), (.int .i64 0), (.int .i64 0), (.int .i64 0), (.int .i64 0), (.int .i64 0), (.bool false)] [])), (qS 33 (.mv (.tmp 18))), ⟨.none, (.storeV [(0, false), (0, false), (0, false), (0, false), (0, false), (0, false), (0, false), (0, false)] 8 (.tmp 14) (.tmp 32)), .none, [], .none⟩, (qS 15 (.mv (.tmp 33)))]) .ret) .skip)) (.seq (.ops [(qS 34 (.mv (.tmp 16))), (qS 35 (.call (2 * f_spec_l04Seen) [(.tmp 34)])), (qS 19 (.mv (.tmp 35)))]) (.seq (.seq (.ops [(qS 36 (.mv (.tmp 2))), (qS 37 (.pu (.n (.ar .lss)) [(.tmp 36), (ic 0)])), (qS 38 (.mv (.tmp 37))), ⟨(.some 39), (.mv (.tmp 2)), (.some (38, false)), [], .none⟩, ⟨(.some 40), (.pu (.n (.ar .geq)) [(.tmp 39), (ic 16)]), (.some (38, false)), [], .none⟩, (qS 41 (.pick (.tmp 38) (.const (.bool true)) (.tmp 40))), (qS 42 (.mv (.tmp 41))), ⟨(.some 43), (.mv (.tmp 5)), (.some (42, false)), [], .none⟩, ⟨(.some 44), (.pu (.n (.ar .lss)) [(.tmp 43), (ic 1)]), (.some (42, false)), [], .none⟩, (qS 45 (.pick (.tmp 42) (.const (.bool true)) (.tmp 44))), (qS 46 (.mv (.tmp 45))), ⟨(.some 47), (.mv (.tmp 5)), (.some (46, false)), [], .none⟩, ⟨(.some 48), (.pu (.n (.ar .gtr)) [(.tmp 47), (ic 8)]), (.some (46, false)), [], .none⟩, (qS 49 (.pick (.tmp 46) (.const (.bool true)) (.tmp 48))), (qS 50 (.mv (.tmp 49))), ⟨(.some 51), (.mv (.tmp 3)), (.some (50, false)), [], .none⟩, ⟨(.some 52), (.pu (.n (.ar .lss)) [(.tmp 51), (ic 0)]), (.some (50, false)), [], .none⟩, (qS 53 (.pick (.tmp 50) (.const (.bool true)) (.tmp 52))), (qS 54 (.mv (.tmp 53))), ⟨(.some 55), (.mv (.tmp 4)), (.some (54, false)), [], .none⟩, ⟨(.some 56), (.pu (.n (.ar .lss)) [(.tmp 55), (ic 1)]), (.some (54, false)), [], .none⟩, (qS 57 (.pick (.tmp 54) (.const (.bool true)) (.tmp 56))), (qS 58 (.mv (.tmp 57))), ⟨(.some 59), (.mv (.tmp 3)), (.some (58, false)), [], .none⟩, ⟨(.some 60), (.mv (.tmp 19)), (.some (58, false)), [], .none⟩, ⟨(.some 61), (.len (.tmp 60)), (.some (58, false)), [], .none⟩, ⟨(.some 62), (.pu (.n (.ar .gtr)) [(.tmp 59), (.tmp 61)]), (.some (58, false)), [], .none⟩, (qS 63 (.pick (.tmp 58) (.const (.bool true)) (.tmp 62))), (qS 64 (.mv (.tmp 63))), ⟨(.some 65), (.mv (.tmp 4)), (.some (64, false)), [], .none⟩, ⟨(.some 66), (.mv (.tmp 19)), (.some (64, false)), [], .none⟩, ⟨(.some 67), (.len (.tmp 66)), (.some (64, false)), [], .none⟩, ⟨(.some 68), (.mv (.tmp 3)), (.some (64, false)), [], .none⟩, ⟨(.some 69), (.pu (.n (.ar .sub)) [(.tmp 67), (.tmp 68)]), (.some (64, false)), [], .none⟩, ⟨(.some 70), (.pu (.n (.ar .gtr)) [(.tmp 65), (.tmp 69)]), (.some (64, false)), [], .none⟩, (qS 71 (.pick (.tmp 64) (.const (.bool true)) (.tmp 70)))]) (.cond (.tmp 71) (.seq (.ops [(qS 72 (.build [(.int .i64 0), (.int .i64 0), (.int .i64 0), (.int .i64 0), (.int .i64 0), (.int .i64 0), (.int .i64 0), (.bool false)] [])), ⟨.none, (.storeV [(0, false), (0, false), (0, false), (0, false), (0, false), (0, false), (0, false), (0, false)] 8 (.tmp 14) (.tmp 72)), .none, [], .none⟩, (qS 15 (.mv (ic 4)))]) .ret) .skip)) (.seq (.ops [(qS 73 (.mv (.tmp 0))), (qS 74 (.call (2 * f_spec_l04Ids) [(.tmp 73)])), (qS 20 (.allocV [(0, false), (0, false)] [(.int .i64 0), (.int .i64 0)])), ⟨.none, (.storeV [(0, false), (0, false)] 2 (.tmp 20) (.tmp 74)), .none, [], .none⟩]) (.seq (.seq (.ops [(qS 21 (.mv (ic 0)))]) (.block 0 (.loop (.seq (.seq (.ops [(qS 75 (.mv (.tmp 21))), (qS 76 (.mv (.tmp 17))), (qS 77 (.len (.tmp 76))), (qS 78 (.pu (.n (.ar .lss)) [(.tmp 75), (.tmp 77)]))]) (.cond (.tmp 78) .skip (.exit 0))) (.seq (.block 1 (.seq (.ops [(qS 81 (.load 2 true (.tmp 20))), (qS 82 (.mv (.tmp 17))), (qS 83 (.mv (.tmp 21))), (qS 84 (.idxS 8 (.tmp 82) (.tmp 83))), (qS 85 (.fieldA 0 (.tmp 84))), (qS 86 (.load 2 true (.tmp 85))), (qS 87 (.call (2 * f_spec_StampLess) [(.tmp 81), (.tmp 86)]))]) (.cond (.tmp 87) (.ops [(qS 88 (.mv (.tmp 17))), (qS 89 (.mv (.tmp 21))), (qS 90 (.idxS 8 (.tmp 88) (.tmp 89))), (qS 91 (.fieldA 0 (.tmp 90))), (qS 92 (.load 2 true (.tmp 91))), ⟨.none, (.storeV [(0, false), (0, false)] 2 (.tmp 20) (.tmp 92)), .none, [], .none⟩]) .skip))) (.ops [(qS 79 (.mv (.tmp 21))), (qS 80 (.pu (.n (.ar .add)) [(.tmp 79), (ic 1)])), (qS 21 (.mv (.tmp 80)))])))))) (.seq (.ops [(qS 94 (.load 2 true (.tmp 20))), (qS 95 (.buildSl 2 true 1 [(.int .i64 0), (.int .i64 0)] [(0, (.tmp 94))])), (qS 96 (.mv (.tmp 2))), (qS 97 (.call (2 * f_spec_StampNext) [(.tmp 95), (.tmp 96)])), (qS 93 (.mv (.tmp 97))), (qS 98 (.extract 0 (.tmp 93))), (qS 99 (.extract 1 (.tmp 93))), (qS 22 (.allocV [(0, false), (0, false)] [(.int .i64 0), (.int .i64 0)])), ⟨.none, (.storeV [(0, false), (0, false)] 2 (.tmp 22) (.tmp 98)), .none, [], .none⟩, (qS 18 (.mv (.tmp 99)))]) (.seq (.seq (.ops [(qS 100 (.mv (.tmp 18))), (qS 101 (.pu (.n (.ar .neq)) [(.tmp 100), (ic 0)]))]) (.cond (.tmp 101) (.seq (.ops [(qS 102 (.build [(.int .i64 0), (.int .i64 0), (.int .i64 0), (.int .i64 0), (.int .i64 0), (.int .i64 0), (.int .i64 0), (.bool false)] [])), ⟨.none, (.storeV [(0, false), (0, false), (0, false), (0, false), (0, false), (0, false), (0, false), (0, false)] 8 (.tmp 14) (.tmp 102)), .none, [], .none⟩, (qS 15 (.mv (ic 11)))]) .ret) .skip)) (.seq (.ops [(qS 103 (.load 2 true (.tmp 22))), (qS 104 (.mv (.tmp 19))), (qS 105 (.mv (.tmp 3))), (qS 106 (.idxS 4 (.tmp 104) (.tmp 105))), (qS 107 (.fieldA 0 (.tmp 106))), (qS 108 (.load 2 true (.tmp 107))), (qS 109 (.mv (.tmp 19))), (qS 110 (.mv (.tmp 3))), (qS 111 (.mv (.tmp 4))), (qS 112 (.pu (.n (.ar .add)) [(.tmp 110), (.tmp 111)])), (qS 113 (.pu (.n (.ar .sub)) [(.tmp 112), (ic 1)])), (qS 114 (.idxS 4 (.tmp 109) (.tmp 113))), (qS 115 (.fieldA 0 (.tmp 114))), (qS 116 (.load 2 true (.tmp 115))), (qS 117 (.mv (.tmp 5))), (qS 118 (.mv (.tmp 6))), (qS 119 (.build [(.int .i64 0), (.int .i64 0), (.int .i64 0), (.int .i64 0), (.int .i64 0), (.int .i64 0), (.int .i64 0), (.bool false)] [(0, (2, (.tmp 103))), (2, (2, (.tmp 108))), (4, (2, (.tmp 116))), (6, (1, (.tmp 117))), (7, (1, (.tmp 118)))])), ⟨.none, (.store 8 (.tmp 14) (.tmp 119)), .none, [], .none⟩, (qS 15 (.mv (ic 0)))]) .ret)))))))))), [(.cell 14 8 true), (.tmp 15)]⟩
set_option maxHeartbeats 10000000 in
theorem d_spec_MarkText {P : Program} {env : Env} {f_spec_l05Clean : Nat} {f_spec_l04Seen : Nat} {f_spec_l04Ids : Nat} {f_spec_StampLess : Nat} {f_spec_StampNext : Nat}  (ep_spec_l05Clean : env (2 * f_spec_l05Clean) = pureFn false (FA fun a : List TLOp × List TMark => p_spec_l05Clean a.1 a.2)) (ep_spec_l04Seen : env (2 * f_spec_l04Seen) = pureFn true (FA fun a : List TLCell => p_spec_l04Seen a)) (ep_spec_l04Ids : env (2 * f_spec_l04Ids) = pureFn true (FA fun a : List TLOp => p_spec_l04Ids a)) (ep_spec_StampLess : env (2 * f_spec_StampLess) = pureFn true (FA fun a : TStamp × TStamp => p_spec_StampLess a.1 a.2)) (ep_spec_StampNext : env (2 * f_spec_StampNext) = pureFn true (FA fun a : List TStamp × Int => p_spec_StampNext a.1 a.2)) (x0 : List TLOp) (x1 : List TMark) (x2 : Int) (x3 : Int) (x4 : Int) (x5 : Int) (x6 : Bool) {b : T2 TMark Int} (hp : p_spec_MarkText x0 x1 x2 x3 x4 x5 x6 = some b) : R P env (c_spec_MarkText f_spec_l05Clean f_spec_l04Seen f_spec_l04Ids f_spec_StampLess f_spec_StampNext) ((encA (x0, x1, x2, x3, x4, x5, x6)).map ofI) [] (Tells true b) := by
  refine R_of (by simp [c_spec_MarkText, encA]) ?_
  have E := And.intro ep_spec_l05Clean (And.intro ep_spec_l04Seen (And.intro ep_spec_l04Ids (And.intro ep_spec_StampLess ep_spec_StampNext)))
  have hmk : ∀ a b : Int, mkRows 2 true 1 [I.s (Value.int IntKind.i64 a), I.s (Value.int IntKind.i64 b)] = some (.sl 2 [.agg [.s (.int .i64 a), .s (.int .i64 b)]]) := fun _ _ => rfl
  have hdc : ∀ a b : Int, (dec (.sl 2 [.agg [.s (.int .i64 a), .s (.int .i64 b)]]) : Option (List TStamp)) = some [TStamp.mk a b] := fun a b => dec_enc ([TStamp.mk a b] : List TStamp)
  unfold c_spec_MarkText
  unfold p_spec_MarkText at hp
  obtain ⟨v0, hv0, hp⟩ := bind_eq hp
  by_cases hb1 : (decide (v0.c = 0)) = true
  · rw [if_t hb1] at hp
    obtain ⟨v2, hv2, hp⟩ := bind_eq hp
    by_cases hb3 : (decide (x2 < 0)) = true
    · rw [if_t hb3] at hp
      have hp := Option.some.inj hp
      subst hp
      simp (maxSteps := 2000000) (disch := first|omega|(simp only[ls];first|done|omega)) only [E, hv0, hb1, hv2, hb3, gm]
    · replace hb3 := eq_false_of_ne_true hb3
      rw [if_f hb3] at hp
      by_cases hb4 : (decide (16 ≤ x2)) = true
      · rw [if_t hb4] at hp
        have hp := Option.some.inj hp
        subst hp
        simp (maxSteps := 2000000) (disch := first|omega|(simp only[ls];first|done|omega)) only [E, hv0, hb1, hv2, hb3, hb4, gm]
      · replace hb4 := eq_false_of_ne_true hb4
        rw [if_f hb4] at hp
        by_cases hb5 : (decide (x5 < 1)) = true
        · rw [if_t hb5] at hp
          have hp := Option.some.inj hp
          subst hp
          simp (maxSteps := 2000000) (disch := first|omega|(simp only[ls];first|done|omega)) only [E, hv0, hb1, hv2, hb3, hb4, hb5, gm]
        · replace hb5 := eq_false_of_ne_true hb5
          rw [if_f hb5] at hp
          by_cases hb6 : (decide (8 < x5)) = true
          · rw [if_t hb6] at hp
            have hp := Option.some.inj hp
            subst hp
            simp (maxSteps := 2000000) (disch := first|omega|(simp only[ls];first|done|omega)) only [E, hv0, hb1, hv2, hb3, hb4, hb5, hb6, gm]
          · replace hb6 := eq_false_of_ne_true hb6
            rw [if_f hb6] at hp
            by_cases hb7 : (decide (x3 < 0)) = true
            · rw [if_t hb7] at hp
              have hp := Option.some.inj hp
              subst hp
              simp (maxSteps := 2000000) (disch := first|omega|(simp only[ls];first|done|omega)) only [E, hv0, hb1, hv2, hb3, hb4, hb5, hb6, hb7, gm]
            · replace hb7 := eq_false_of_ne_true hb7
              rw [if_f hb7] at hp
              by_cases hb8 : (decide (x4 < 1)) = true
              · rw [if_t hb8] at hp
                have hp := Option.some.inj hp
                subst hp
                simp (maxSteps := 2000000) (disch := first|omega|(simp only[ls];first|done|omega)) only [E, hv0, hb1, hv2, hb3, hb4, hb5, hb6, hb7, hb8, gm]
              · replace hb8 := eq_false_of_ne_true hb8
                rw [if_f hb8] at hp
                by_cases hb9 : (decide ((v2.length : Int) < x3)) = true
                · rw [if_t hb9] at hp
                  have hp := Option.some.inj hp
                  subst hp
                  simp (maxSteps := 2000000) (disch := first|omega|(simp only[ls];first|done|omega)) only [E, hv0, hb1, hv2, hb3, hb4, hb5, hb6, hb7, hb8, hb9, gm]
                · replace hb9 := eq_false_of_ne_true hb9
                  rw [if_f hb9] at hp
                  by_cases hb10 : (decide (w64 ((v2.length : Int) - x3) < x4)) = true
                  · rw [if_t hb10] at hp
                    have hp := Option.some.inj hp
                    subst hp
                    simp (maxSteps := 2000000) (disch := first|omega|(simp only[ls];first|done|omega)) only [E, hv0, hb1, hv2, hb3, hb4, hb5, hb6, hb7, hb8, hb9, hb10, gm]
                  · replace hb10 := eq_false_of_ne_true hb10
                    rw [if_f hb10] at hp
                    obtain ⟨v11, hv11, hp⟩ := bind_eq hp
                    obtain ⟨ee0, hee0, hp⟩ := bind_eq hp
                    simp (maxSteps := 2000000) (disch := first|omega|(simp only[ls];first|done|omega)) only [E, hv0, hb1, hv2, hb3, hb4, hb5, hb6, hb7, hb8, hb9, hb10, hv11, gm]
                    refine W_loopP 0 (fun s t h => match s with | (s12, s13, s14) => t 2 = .i (.s (.int .i64 x2)) ∧ t 3 = .i (.s (.int .i64 x3)) ∧ t 4 = .i (.s (.int .i64 x4)) ∧ t 5 = .i (.s (.int .i64 x5)) ∧ t 6 = .i (.s (.bool x6)) ∧ t 14 = .ptr 0 8 0 ∧ t 17 = .i (.sl 8 (v0.b.map enc)) ∧ t 19 = .i (.sl 4 (v2.map enc)) ∧ t 20 = .ptr 1 2 0 ∧ t 21 = .i (.s (.int .i64 s14)) ∧ getCells h 0 8 = some [.i (.s (.int .i64 0)), .i (.s (.int .i64 0)), .i (.s (.int .i64 0)), .i (.s (.int .i64 0)), .i (.s (.int .i64 0)), .i (.s (.int .i64 0)), .i (.s (.int .i64 0)), .i (.s (.bool false))] ∧ 0 < h.length ∧ getCells h 1 2 = some [.i (.s (.int .i64 s12)), .i (.s (.int .i64 s13))] ∧ 1 < h.length) (RK [.cell 14 8 true, .tmp 15] (Tells true)) ?_ hee0 ?_ ?_
                    · rintro ⟨s12, s13, s14⟩ ee tt0 hh0 ⟨ftt0_0, ftt0_1, ftt0_2, ftt0_3, ftt0_4, ftt0_5, ftt0_6, ftt0_7, ftt0_8, ftt0_9, ftt0_10, ftt0_11, ftt0_12, ftt0_13⟩ hp
                      rw [p_spec_MarkText_l0] at hp
                      by_cases hb15 : (decide (s14 < (v0.b.length : Int))) = true
                      · rw [if_t hb15] at hp
                        obtain ⟨v16, hv16, hp⟩ := bind_eq hp
                        obtain ⟨v17, hv17, hp⟩ := bind_eq hp
                        by_cases hb18 : (v17) = true
                        · rw [if_t hb18] at hp
                          have hp := Option.some.inj hp
                          subst hp
                          simp (maxSteps := 2000000) (disch := first|omega|(simp only[ls];first|done|omega)) only [E, hv0, hb1, hv2, hb3, hb4, hb5, hb6, hb7, hb8, hb9, hb10, hv11, ftt0_0, ftt0_1, ftt0_2, ftt0_3, ftt0_4, ftt0_5, ftt0_6, ftt0_7, ftt0_8, ftt0_9, ftt0_10, ftt0_11, ftt0_12, ftt0_13, hb15, hv16, hv17, hb18, gm] <;> omega
                        · replace hb18 := eq_false_of_ne_true hb18
                          rw [if_f hb18] at hp
                          have hp := Option.some.inj hp
                          subst hp
                          simp (maxSteps := 2000000) (disch := first|omega|(simp only[ls];first|done|omega)) only [E, hv0, hb1, hv2, hb3, hb4, hb5, hb6, hb7, hb8, hb9, hb10, hv11, ftt0_0, ftt0_1, ftt0_2, ftt0_3, ftt0_4, ftt0_5, ftt0_6, ftt0_7, ftt0_8, ftt0_9, ftt0_10, ftt0_11, ftt0_12, ftt0_13, hb15, hv16, hv17, hb18, gm] <;> omega
                      · replace hb15 := eq_false_of_ne_true hb15
                        rw [if_f hb15] at hp
                        have hp := Option.some.inj hp
                        subst hp
                        simp (maxSteps := 2000000) (disch := first|omega|(simp only[ls];first|done|omega)) only [E, hv0, hb1, hv2, hb3, hb4, hb5, hb6, hb7, hb8, hb9, hb10, hv11, ftt0_0, ftt0_1, ftt0_2, ftt0_3, ftt0_4, ftt0_5, ftt0_6, ftt0_7, ftt0_8, ftt0_9, ftt0_10, ftt0_11, ftt0_12, ftt0_13, hb15, gm] <;> omega
                    · simp (maxSteps := 2000000) (disch := first|omega|(simp only[ls];first|done|omega)) only [E, hv0, hb1, hv2, hb3, hb4, hb5, hb6, hb7, hb8, hb9, hb10, hv11, gm] <;> omega
                    · intro x tt1 hh1 hx
                      rcases ee0 with ⟨o19, o20, o21⟩ | r
                      · obtain ⟨rfl, ftt1_0, ftt1_1, ftt1_2, ftt1_3, ftt1_4, ftt1_5, ftt1_6, ftt1_7, ftt1_8, ftt1_9, ftt1_10, ftt1_11, ftt1_12, ftt1_13⟩ := hx
                        dsimp only at hp
                        obtain ⟨v22, hv22, hp⟩ := bind_eq hp
                        by_cases hb23 : (decide (v22.b = 0)) = true
                        · rw [if_t hb23] at hp
                          obtain ⟨v24, hv24, hp⟩ := bind_eq hp
                          obtain ⟨v25, hv25, hp⟩ := bind_eq hp
                          have hp := Option.some.inj hp
                          subst hp
                          simp (maxSteps := 2000000) (disch := first|omega|(simp only[ls];first|done|omega)) only [E, hv0, hb1, hv2, hb3, hb4, hb5, hb6, hb7, hb8, hb9, hb10, hv11, ftt1_0, ftt1_1, ftt1_2, ftt1_3, ftt1_4, ftt1_5, ftt1_6, ftt1_7, ftt1_8, ftt1_9, ftt1_10, ftt1_11, ftt1_12, ftt1_13, hmk, hdc, hv22, hb23, hv24, hv25, gm]
                        · replace hb23 := eq_false_of_ne_true hb23
                          rw [if_f hb23] at hp
                          have hp := Option.some.inj hp
                          subst hp
                          simp (maxSteps := 2000000) (disch := first|omega|(simp only[ls];first|done|omega)) only [E, hv0, hb1, hv2, hb3, hb4, hb5, hb6, hb7, hb8, hb9, hb10, hv11, ftt1_0, ftt1_1, ftt1_2, ftt1_3, ftt1_4, ftt1_5, ftt1_6, ftt1_7, ftt1_8, ftt1_9, ftt1_10, ftt1_11, ftt1_12, ftt1_13, hmk, hdc, hv22, hb23, gm]
                      · obtain ⟨rfl, hx⟩ := hx
                        dsimp only at hp
                        cases hp
                        simp only [seqK_ret, blockK_ret, retK_RK (K := Tells true), hx, and_self, true_and]
  · replace hb1 := eq_false_of_ne_true hb1
    rw [if_f hb1] at hp
    have hp := Option.some.inj hp
    subst hp
    simp (maxSteps := 2000000) (disch := first|omega|(simp only[ls];first|done|omega)) only [E, hv0, hb1, gm]

noncomputable def p_laws_eqStamp (x0 : TStamp) (x1 : TStamp) : Option Bool :=
  if (decide (x0.time = x1.time)) = true then
    if (decide (x0.actor = x1.actor)) = true then
      some true
    else
      some false
  else
    some false
def c_laws_eqStamp : AFn := ⟨15, (.seq (.ops [(qS 2 (.box (.tmp 0))), (qS 3 (.box (.tmp 1))), (qS 4 (.mv (.const (.bool false))))]) (.seq (.seq (.ops [(qS 5 (.fieldA 0 (.tmp 2))), (qS 6 (.load 1 false (.tmp 5))), (qS 7 (.fieldA 0 (.tmp 3))), (qS 8 (.load 1 false (.tmp 7))), (qS 9 (.pu (.n (.ar .neq)) [(.tmp 6), (.tmp 8)]))]) (.cond (.tmp 9) (.seq (.ops [(qS 4 (.mv (.const (.bool false))))]) .ret) .skip)) (.seq (.seq (.ops [(qS 10 (.fieldA 1 (.tmp 2))), (qS 11 (.load 1 false (.tmp 10))), (qS 12 (.fieldA 1 (.tmp 3))), (qS 13 (.load 1 false (.tmp 12))), (qS 14 (.pu (.n (.ar .neq)) [(.tmp 11), (.tmp 13)]))]) (.cond (.tmp 14) (.seq (.ops [(qS 4 (.mv (.const (.bool false))))]) .ret) .skip)) (.seq (.ops [(qS 4 (.mv (.const (.bool true))))]) .ret)))), [(.tmp 4)]⟩
set_option maxHeartbeats 10000000 in
theorem d_laws_eqStamp {P : Program} {env : Env}  (x0 : TStamp) (x1 : TStamp) {b : Bool} (hp : p_laws_eqStamp x0 x1 = some b) : R P env (c_laws_eqStamp) ((encA (x0, x1)).map ofI) [] (Tells true b) := by
  refine R_of (by simp [c_laws_eqStamp, encA]) ?_
  unfold c_laws_eqStamp
  unfold p_laws_eqStamp at hp
  by_cases hb0 : (decide (x0.time = x1.time)) = true
  · rw [if_t hb0] at hp
    by_cases hb1 : (decide (x0.actor = x1.actor)) = true
    · rw [if_t hb1] at hp
      have hp := Option.some.inj hp
      subst hp
      simp (maxSteps := 2000000) (disch := first|omega|(simp only[ls];first|done|omega)) only [hb0, hb1, gm]
    · replace hb1 := eq_false_of_ne_true hb1
      rw [if_f hb1] at hp
      have hp := Option.some.inj hp
      subst hp
      simp (maxSteps := 2000000) (disch := first|omega|(simp only[ls];first|done|omega)) only [hb0, hb1, gm]
  · replace hb0 := eq_false_of_ne_true hb0
    rw [if_f hb0] at hp
    have hp := Option.some.inj hp
    subst hp
    simp (maxSteps := 2000000) (disch := first|omega|(simp only[ls];first|done|omega)) only [hb0, gm]

noncomputable def p_laws_eqMarkOp (x0 : TMark) (x1 : TMark) : Option Bool :=
  (p_laws_eqStamp x0.id x1.id).bind fun v0 =>
  if (v0) = true then
    (p_laws_eqStamp x0.from_ x1.from_).bind fun v2 =>
    if (v2) = true then
      (p_laws_eqStamp x0.to x1.to).bind fun v4 =>
      if (v4) = true then
        if (decide (x0.kind = x1.kind)) = true then
          if ((xor true (x0.on == x1.on))) = true then
            some false
          else
            some true
        else
          some false
      else
        some false
    else
      some false
  else
    some false
def c_laws_eqMarkOp (f_laws_eqStamp : Nat) : AFn := ⟨33, (.seq (.ops [(qS 2 (.box (.tmp 0))), (qS 3 (.box (.tmp 1))), (qS 4 (.mv (.const (.bool false))))]) (.seq (.seq (.ops [(qS 5 (.fieldA 0 (.tmp 2))), (qS 6 (.load 2 true (.tmp 5))), (qS 7 (.fieldA 0 (.tmp 3))), (qS 8 (.load 2 true (.tmp 7))), (qS 9 (.call (2 * f_laws_eqStamp) [(.tmp 6), (.tmp 8)])), (qS 10 (.pu (.n (.un .not)) [(.tmp 9)]))]) (.cond (.tmp 10) (.seq (.ops [(qS 4 (.mv (.const (.bool false))))]) .ret) .skip)) (.seq (.seq (.ops [(qS 11 (.fieldA 2 (.tmp 2))), (qS 12 (.load 2 true (.tmp 11))), (qS 13 (.fieldA 2 (.tmp 3))), (qS 14 (.load 2 true (.tmp 13))), (qS 15 (.call (2 * f_laws_eqStamp) [(.tmp 12), (.tmp 14)])), (qS 16 (.pu (.n (.un .not)) [(.tmp 15)]))]) (.cond (.tmp 16) (.seq (.ops [(qS 4 (.mv (.const (.bool false))))]) .ret) .skip)) (.seq (.seq (.ops [(qS 17 (.fieldA 4 (.tmp 2))), (qS 18 (.load 2 true (.tmp 17))), (qS 19 (.fieldA 4 (.tmp 3))), (qS 20 (.load 2 true (.tmp 19))), (qS 21 (.call (2 * f_laws_eqStamp) [(.tmp 18), (.tmp 20)])), (qS 22 (.pu (.n (.un .not)) [(.tmp 21)]))]) (.cond (.tmp 22) (.seq (.ops [(qS 4 (.mv (.const (.bool false))))]) .ret) .skip)) (.seq (.seq (.ops [(qS 23 (.fieldA 6 (.tmp 2))), (qS 24 (.load 1 false (.tmp 23))), (qS 25 (.fieldA 6 (.tmp 3))), (qS 26 (.load 1 false (.tmp 25))), (qS 27 (.pu (.n (.ar .neq)) [(.tmp 24), (.tmp 26)]))]) (.cond (.tmp 27) (.seq (.ops [(qS 4 (.mv (.const (.bool false))))]) .ret) .skip)) (.seq (.seq (.ops [(qS 28 (.fieldA 7 (.tmp 2))), (qS 29 (.load 1 false (.tmp 28))), (qS 30 (.fieldA 7 (.tmp 3))), (qS 31 (.load 1 false (.tmp 30))), (qS 32 (.pu (.n (.beq true)) [(.tmp 29), (.tmp 31)]))]) (.cond (.tmp 32) (.seq (.ops [(qS 4 (.mv (.const (.bool false))))]) .ret) .skip)) (.seq (.ops [(qS 4 (.mv (.const (.bool true))))]) .ret))))))), [(.tmp 4)]⟩
set_option maxHeartbeats 10000000 in
theorem d_laws_eqMarkOp {P : Program} {env : Env} {f_laws_eqStamp : Nat}  (ep_laws_eqStamp : env (2 * f_laws_eqStamp) = pureFn true (FA fun a : TStamp × TStamp => p_laws_eqStamp a.1 a.2)) (x0 : TMark) (x1 : TMark) {b : Bool} (hp : p_laws_eqMarkOp x0 x1 = some b) : R P env (c_laws_eqMarkOp f_laws_eqStamp) ((encA (x0, x1)).map ofI) [] (Tells true b) := by
  refine R_of (by simp [c_laws_eqMarkOp, encA]) ?_
  have E := ep_laws_eqStamp
  unfold c_laws_eqMarkOp
  unfold p_laws_eqMarkOp at hp
  obtain ⟨v0, hv0, hp⟩ := bind_eq hp
  by_cases hb1 : (v0) = true
  · rw [if_t hb1] at hp
    obtain ⟨v2, hv2, hp⟩ := bind_eq hp
    by_cases hb3 : (v2) = true
    · rw [if_t hb3] at hp
      obtain ⟨v4, hv4, hp⟩ := bind_eq hp
      by_cases hb5 : (v4) = true
      · rw [if_t hb5] at hp
        by_cases hb6 : (decide (x0.kind = x1.kind)) = true
        · rw [if_t hb6] at hp
          by_cases hb7 : ((xor true (x0.on == x1.on))) = true
          · rw [if_t hb7] at hp
            have hp := Option.some.inj hp
            subst hp
            simp (maxSteps := 2000000) (disch := first|omega|(simp only[ls];first|done|omega)) only [E, hv0, hb1, hv2, hb3, hv4, hb5, hb6, hb7, gm]
          · replace hb7 := eq_false_of_ne_true hb7
            rw [if_f hb7] at hp
            have hp := Option.some.inj hp
            subst hp
            simp (maxSteps := 2000000) (disch := first|omega|(simp only[ls];first|done|omega)) only [E, hv0, hb1, hv2, hb3, hv4, hb5, hb6, hb7, gm]
        · replace hb6 := eq_false_of_ne_true hb6
          rw [if_f hb6] at hp
          have hp := Option.some.inj hp
          subst hp
          simp (maxSteps := 2000000) (disch := first|omega|(simp only[ls];first|done|omega)) only [E, hv0, hb1, hv2, hb3, hv4, hb5, hb6, gm]
      · replace hb5 := eq_false_of_ne_true hb5
        rw [if_f hb5] at hp
        have hp := Option.some.inj hp
        subst hp
        simp (maxSteps := 2000000) (disch := first|omega|(simp only[ls];first|done|omega)) only [E, hv0, hb1, hv2, hb3, hv4, hb5, gm]
    · replace hb3 := eq_false_of_ne_true hb3
      rw [if_f hb3] at hp
      have hp := Option.some.inj hp
      subst hp
      simp (maxSteps := 2000000) (disch := first|omega|(simp only[ls];first|done|omega)) only [E, hv0, hb1, hv2, hb3, gm]
  · replace hb1 := eq_false_of_ne_true hb1
    rw [if_f hb1] at hp
    have hp := Option.some.inj hp
    subst hp
    simp (maxSteps := 2000000) (disch := first|omega|(simp only[ls];first|done|omega)) only [E, hv0, hb1, gm]

noncomputable def p_laws_eqLOp (x0 : TLOp) (x1 : TLOp) : Option Bool :=
  if (decide (x0.kind = x1.kind)) = true then
    if (decide (x0.char = x1.char)) = true then
      (p_laws_eqStamp x0.id x1.id).bind fun v2 =>
      if (v2) = true then
        (p_laws_eqStamp x0.at_ x1.at_).bind fun v4 =>
        if (v4) = true then
          some true
        else
          some false
      else
        some false
    else
      some false
  else
    some false
def c_laws_eqLOp (f_laws_eqStamp : Nat) : AFn := ⟨27, (.seq (.ops [(qS 2 (.box (.tmp 0))), (qS 3 (.box (.tmp 1))), (qS 4 (.mv (.const (.bool false))))]) (.seq (.seq (.ops [(qS 5 (.fieldA 0 (.tmp 2))), (qS 6 (.load 1 false (.tmp 5))), (qS 7 (.fieldA 0 (.tmp 3))), (qS 8 (.load 1 false (.tmp 7))), (qS 9 (.pu (.n (.ar .neq)) [(.tmp 6), (.tmp 8)]))]) (.cond (.tmp 9) (.seq (.ops [(qS 4 (.mv (.const (.bool false))))]) .ret) .skip)) (.seq (.seq (.ops [(qS 10 (.fieldA 1 (.tmp 2))), (qS 11 (.load 1 false (.tmp 10))), (qS 12 (.fieldA 1 (.tmp 3))), (qS 13 (.load 1 false (.tmp 12))), (qS 14 (.pu (.n (.ar .neq)) [(.tmp 11), (.tmp 13)]))]) (.cond (.tmp 14) (.seq (.ops [(qS 4 (.mv (.const (.bool false))))]) .ret) .skip)) (.seq (.seq (.ops [(qS 15 (.fieldA 2 (.tmp 2))), (qS 16 (.load 2 true (.tmp 15))), (qS 17 (.fieldA 2 (.tmp 3))), (qS 18 (.load 2 true (.tmp 17))), (qS 19 (.call (2 * f_laws_eqStamp) [(.tmp 16), (.tmp 18)])), (qS 20 (.pu (.n (.un .not)) [(.tmp 19)]))]) (.cond (.tmp 20) (.seq (.ops [(qS 4 (.mv (.const (.bool false))))]) .ret) .skip)) (.seq (.seq (.ops [(qS 21 (.fieldA 4 (.tmp 2))), (qS 22 (.load 2 true (.tmp 21))), (qS 23 (.fieldA 4 (.tmp 3))), (qS 24 (.load 2 true (.tmp 23))), (qS 25 (.call (2 * f_laws_eqStamp) [(.tmp 22), (.tmp 24)])), (qS 26 (.pu (.n (.un .not)) [(.tmp 25)]))]) (.cond (.tmp 26) (.seq (.ops [(qS 4 (.mv (.const (.bool false))))]) .ret) .skip)) (.seq (.ops [(qS 4 (.mv (.const (.bool true))))]) .ret)))))), [(.tmp 4)]⟩
set_option maxHeartbeats 10000000 in
theorem d_laws_eqLOp {P : Program} {env : Env} {f_laws_eqStamp : Nat}  (ep_laws_eqStamp : env (2 * f_laws_eqStamp) = pureFn true (FA fun a : TStamp × TStamp => p_laws_eqStamp a.1 a.2)) (x0 : TLOp) (x1 : TLOp) {b : Bool} (hp : p_laws_eqLOp x0 x1 = some b) : R P env (c_laws_eqLOp f_laws_eqStamp) ((encA (x0, x1)).map ofI) [] (Tells true b) := by
  refine R_of (by simp [c_laws_eqLOp, encA]) ?_
  have E := ep_laws_eqStamp
  unfold c_laws_eqLOp
  unfold p_laws_eqLOp at hp
  by_cases hb0 : (decide (x0.kind = x1.kind)) = true
  · rw [if_t hb0] at hp
    by_cases hb1 : (decide (x0.char = x1.char)) = true
    · rw [if_t hb1] at hp
      obtain ⟨v2, hv2, hp⟩ := bind_eq hp
      by_cases hb3 : (v2) = true
      · rw [if_t hb3] at hp
        obtain ⟨v4, hv4, hp⟩ := bind_eq hp
        by_cases hb5 : (v4) = true
        · rw [if_t hb5] at hp
          have hp := Option.some.inj hp
          subst hp
          simp (maxSteps := 2000000) (disch := first|omega|(simp only[ls];first|done|omega)) only [E, hb0, hb1, hv2, hb3, hv4, hb5, gm]
        · replace hb5 := eq_false_of_ne_true hb5
          rw [if_f hb5] at hp
          have hp := Option.some.inj hp
          subst hp
          simp (maxSteps := 2000000) (disch := first|omega|(simp only[ls];first|done|omega)) only [E, hb0, hb1, hv2, hb3, hv4, hb5, gm]
      · replace hb3 := eq_false_of_ne_true hb3
        rw [if_f hb3] at hp
        have hp := Option.some.inj hp
        subst hp
        simp (maxSteps := 2000000) (disch := first|omega|(simp only[ls];first|done|omega)) only [E, hb0, hb1, hv2, hb3, gm]
    · replace hb1 := eq_false_of_ne_true hb1
      rw [if_f hb1] at hp
      have hp := Option.some.inj hp
      subst hp
      simp (maxSteps := 2000000) (disch := first|omega|(simp only[ls];first|done|omega)) only [E, hb0, hb1, gm]
  · replace hb0 := eq_false_of_ne_true hb0
    rw [if_f hb0] at hp
    have hp := Option.some.inj hp
    subst hp
    simp (maxSteps := 2000000) (disch := first|omega|(simp only[ls];first|done|omega)) only [E, hb0, gm]

noncomputable def p_laws_eqLOpS_l0 (x0 : List TLOp) (x1 : List TLOp) : Int → Option (Lp (Int) Bool)
  | s1 =>
    if (decide (s1 < (x0.length : Int))) = true then
      (get? x0 s1).bind fun v3 =>
      (get? x1 s1).bind fun v4 =>
      (p_laws_eqLOp v3 v4).bind fun v5 =>
      if (v5) = true then
        some (.go (w64 (s1 + 1)))
      else
        some (.ret false)
    else
      some (.out s1)
noncomputable def p_laws_eqLOpS (x0 : List TLOp) (x1 : List TLOp) : Option Bool :=
  if (decide ((x0.length : Int) = (x1.length : Int))) = true then
    (loopP (p_laws_eqLOpS_l0 x0 x1) 0).bind fun ee0 => match ee0 with
    | .ret r => some r
    | .out o7 =>
      some true
  else
    some false
def c_laws_eqLOpS (f_laws_eqLOp : Nat) : AFn := ⟨27, (.seq (.ops [(qS 4 (.mv (.const (.bool false))))]) (.seq (.seq (.ops [(qS 6 (.mv (.tmp 0))), (qS 7 (.len (.tmp 6))), (qS 8 (.mv (.tmp 1))), (qS 9 (.len (.tmp 8))), (qS 10 (.pu (.n (.ar .neq)) [(.tmp 7), (.tmp 9)]))]) (.cond (.tmp 10) (.seq (.ops [(qS 4 (.mv (.const (.bool false))))]) .ret) .skip)) (.seq (.seq (.ops [(qS 5 (.mv (ic 0)))]) (.block 0 (.loop (.seq (.seq (.ops [(qS 11 (.mv (.tmp 5))), (qS 12 (.mv (.tmp 0))), (qS 13 (.len (.tmp 12))), (qS 14 (.pu (.n (.ar .lss)) [(.tmp 11), (.tmp 13)]))]) (.cond (.tmp 14) .skip (.exit 0))) (.seq (.block 1 (.seq (.ops [(qS 17 (.mv (.tmp 0))), (qS 18 (.mv (.tmp 5))), (qS 19 (.idxS 6 (.tmp 17) (.tmp 18))), (qS 20 (.load 6 true (.tmp 19))), (qS 21 (.mv (.tmp 1))), (qS 22 (.mv (.tmp 5))), (qS 23 (.idxS 6 (.tmp 21) (.tmp 22))), (qS 24 (.load 6 true (.tmp 23))), (qS 25 (.call (2 * f_laws_eqLOp) [(.tmp 20), (.tmp 24)])), (qS 26 (.pu (.n (.un .not)) [(.tmp 25)]))]) (.cond (.tmp 26) (.seq (.ops [(qS 4 (.mv (.const (.bool false))))]) .ret) .skip))) (.ops [(qS 15 (.mv (.tmp 5))), (qS 16 (.pu (.n (.ar .add)) [(.tmp 15), (ic 1)])), (qS 5 (.mv (.tmp 16)))])))))) (.seq (.ops [(qS 4 (.mv (.const (.bool true))))]) .ret)))), [(.tmp 4)]⟩
set_option maxHeartbeats 10000000 in
theorem d_laws_eqLOpS {P : Program} {env : Env} {f_laws_eqLOp : Nat}  (ep_laws_eqLOp : env (2 * f_laws_eqLOp) = pureFn true (FA fun a : TLOp × TLOp => p_laws_eqLOp a.1 a.2)) (x0 : List TLOp) (x1 : List TLOp) {b : Bool} (hp : p_laws_eqLOpS x0 x1 = some b) : R P env (c_laws_eqLOpS f_laws_eqLOp) ((encA (x0, x1)).map ofI) [] (Tells true b) := by
  refine R_of (by simp [c_laws_eqLOpS, encA]) ?_
  have E := ep_laws_eqLOp
  unfold c_laws_eqLOpS
  unfold p_laws_eqLOpS at hp
  by_cases hb0 : (decide ((x0.length : Int) = (x1.length : Int))) = true
  · rw [if_t hb0] at hp
    obtain ⟨ee0, hee0, hp⟩ := bind_eq hp
    simp (maxSteps := 2000000) (disch := first|omega|(simp only[ls];first|done|omega)) only [E, hb0, gm]
    refine W_loopP 0 (fun s t h => match s with | s1 => t 0 = .i (.sl 6 (x0.map enc)) ∧ t 1 = .i (.sl 6 (x1.map enc)) ∧ t 5 = .i (.s (.int .i64 s1))) (RK [.tmp 4] (Tells true)) ?_ hee0 ?_ ?_
    · rintro s1 ee tt0 hh0 ⟨ftt0_0, ftt0_1, ftt0_2⟩ hp
      rw [p_laws_eqLOpS_l0] at hp
      by_cases hb2 : (decide (s1 < (x0.length : Int))) = true
      · rw [if_t hb2] at hp
        obtain ⟨v3, hv3, hp⟩ := bind_eq hp
        obtain ⟨v4, hv4, hp⟩ := bind_eq hp
        obtain ⟨v5, hv5, hp⟩ := bind_eq hp
        by_cases hb6 : (v5) = true
        · rw [if_t hb6] at hp
          have hp := Option.some.inj hp
          subst hp
          simp (maxSteps := 2000000) (disch := first|omega|(simp only[ls];first|done|omega)) only [E, hb0, ftt0_0, ftt0_1, ftt0_2, hb2, hv3, hv4, hv5, hb6, gm] <;> omega
        · replace hb6 := eq_false_of_ne_true hb6
          rw [if_f hb6] at hp
          have hp := Option.some.inj hp
          subst hp
          simp (maxSteps := 2000000) (disch := first|omega|(simp only[ls];first|done|omega)) only [E, hb0, ftt0_0, ftt0_1, ftt0_2, hb2, hv3, hv4, hv5, hb6, gm]
      · replace hb2 := eq_false_of_ne_true hb2
        rw [if_f hb2] at hp
        have hp := Option.some.inj hp
        subst hp
        simp (maxSteps := 2000000) (disch := first|omega|(simp only[ls];first|done|omega)) only [E, hb0, ftt0_0, ftt0_1, ftt0_2, hb2, gm] <;> omega
    · simp (maxSteps := 2000000) (disch := first|omega|(simp only[ls];first|done|omega)) only [E, hb0, gm] <;> omega
    · intro x tt1 hh1 hx
      rcases ee0 with o7 | r
      · obtain ⟨rfl, ftt1_0, ftt1_1, ftt1_2⟩ := hx
        dsimp only at hp
        have hp := Option.some.inj hp
        subst hp
        simp (maxSteps := 2000000) (disch := first|omega|(simp only[ls];first|done|omega)) only [E, hb0, ftt1_0, ftt1_1, ftt1_2, gm]
      · obtain ⟨rfl, hx⟩ := hx
        dsimp only at hp
        cases hp
        simp only [seqK_ret, blockK_ret, retK_RK (K := Tells true), hx, and_self, true_and]
  · replace hb0 := eq_false_of_ne_true hb0
    rw [if_f hb0] at hp
    have hp := Option.some.inj hp
    subst hp
    simp (maxSteps := 2000000) (disch := first|omega|(simp only[ls];first|done|omega)) only [E, hb0, gm]

noncomputable def p_laws_eqMarkOpS_l0 (x0 : List TMark) (x1 : List TMark) : Int → Option (Lp (Int) Bool)
  | s1 =>
    if (decide (s1 < (x0.length : Int))) = true then
      (get? x0 s1).bind fun v3 =>
      (get? x1 s1).bind fun v4 =>
      (p_laws_eqMarkOp v3 v4).bind fun v5 =>
      if (v5) = true then
        some (.go (w64 (s1 + 1)))
      else
        some (.ret false)
    else
      some (.out s1)
noncomputable def p_laws_eqMarkOpS (x0 : List TMark) (x1 : List TMark) : Option Bool :=
  if (decide ((x0.length : Int) = (x1.length : Int))) = true then
    (loopP (p_laws_eqMarkOpS_l0 x0 x1) 0).bind fun ee0 => match ee0 with
    | .ret r => some r
    | .out o7 =>
      some true
  else
    some false
def c_laws_eqMarkOpS (f_laws_eqMarkOp : Nat) : AFn := ⟨27, (.seq (.ops [(qS 4 (.mv (.const (.bool false))))]) (.seq (.seq (.ops [(qS 6 (.mv (.tmp 0))), (qS 7 (.len (.tmp 6))), (qS 8 (.mv (.tmp 1))), (qS 9 (.len (.tmp 8))), (qS 10 (.pu (.n (.ar .neq)) [(.tmp 7), (.tmp 9)]))]) (.cond (.tmp 10) (.seq (.ops [(qS 4 (.mv (.const (.bool false))))]) .ret) .skip)) (.seq (.seq (.ops [(qS 5 (.mv (ic 0)))]) (.block 0 (.loop (.seq (.seq (.ops [(qS 11 (.mv (.tmp 5))), (qS 12 (.mv (.tmp 0))), (qS 13 (.len (.tmp 12))), (qS 14 (.pu (.n (.ar .lss)) [(.tmp 11), (.tmp 13)]))]) (.cond (.tmp 14) .skip (.exit 0))) (.seq (.block 1 (.seq (.ops [(qS 17 (.mv (.tmp 0))), (qS 18 (.mv (.tmp 5))), (qS 19 (.idxS 8 (.tmp 17) (.tmp 18))), (qS 20 (.load 8 true (.tmp 19))), (qS 21 (.mv (.tmp 1))), (qS 22 (.mv (.tmp 5))), (qS 23 (.idxS 8 (.tmp 21) (.tmp 22))), (qS 24 (.load 8 true (.tmp 23))), (qS 25 (.call (2 * f_laws_eqMarkOp) [(.tmp 20), (.tmp 24)])), (qS 26 (.pu (.n (.un .not)) [(.tmp 25)]))]) (.cond (.tmp 26) (.seq (.ops [(qS 4 (.mv (.const (.bool false))))]) .ret) .skip))) (.ops [(qS 15 (.mv (.tmp 5))), (qS 16 (.pu (.n (.ar .add)) [(.tmp 15), (ic 1)])), (qS 5 (.mv (.tmp 16)))])))))) (.seq (.ops [(qS 4 (.mv (.const (.bool true))))]) .ret)))), [(.tmp 4)]⟩
set_option maxHeartbeats 10000000 in
theorem d_laws_eqMarkOpS {P : Program} {env : Env} {f_laws_eqMarkOp : Nat}  (ep_laws_eqMarkOp : env (2 * f_laws_eqMarkOp) = pureFn true (FA fun a : TMark × TMark => p_laws_eqMarkOp a.1 a.2)) (x0 : List TMark) (x1 : List TMark) {b : Bool} (hp : p_laws_eqMarkOpS x0 x1 = some b) : R P env (c_laws_eqMarkOpS f_laws_eqMarkOp) ((encA (x0, x1)).map ofI) [] (Tells true b) := by
  refine R_of (by simp [c_laws_eqMarkOpS, encA]) ?_
  have E := ep_laws_eqMarkOp
  unfold c_laws_eqMarkOpS
  unfold p_laws_eqMarkOpS at hp
  by_cases hb0 : (decide ((x0.length : Int) = (x1.length : Int))) = true
  · rw [if_t hb0] at hp
    obtain ⟨ee0, hee0, hp⟩ := bind_eq hp
    simp (maxSteps := 2000000) (disch := first|omega|(simp only[ls];first|done|omega)) only [E, hb0, gm]
    refine W_loopP 0 (fun s t h => match s with | s1 => t 0 = .i (.sl 8 (x0.map enc)) ∧ t 1 = .i (.sl 8 (x1.map enc)) ∧ t 5 = .i (.s (.int .i64 s1))) (RK [.tmp 4] (Tells true)) ?_ hee0 ?_ ?_
    · rintro s1 ee tt0 hh0 ⟨ftt0_0, ftt0_1, ftt0_2⟩ hp
      rw [p_laws_eqMarkOpS_l0] at hp
      by_cases hb2 : (decide (s1 < (x0.length : Int))) = true
      · rw [if_t hb2] at hp
        obtain ⟨v3, hv3, hp⟩ := bind_eq hp
        obtain ⟨v4, hv4, hp⟩ := bind_eq hp
        obtain ⟨v5, hv5, hp⟩ := bind_eq hp
        by_cases hb6 : (v5) = true
        · rw [if_t hb6] at hp
          have hp := Option.some.inj hp
          subst hp
          simp (maxSteps := 2000000) (disch := first|omega|(simp only[ls];first|done|omega)) only [E, hb0, ftt0_0, ftt0_1, ftt0_2, hb2, hv3, hv4, hv5, hb6, gm] <;> omega
        · replace hb6 := eq_false_of_ne_true hb6
          rw [if_f hb6] at hp
          have hp := Option.some.inj hp
          subst hp
          simp (maxSteps := 2000000) (disch := first|omega|(simp only[ls];first|done|omega)) only [E, hb0, ftt0_0, ftt0_1, ftt0_2, hb2, hv3, hv4, hv5, hb6, gm]
      · replace hb2 := eq_false_of_ne_true hb2
        rw [if_f hb2] at hp
        have hp := Option.some.inj hp
        subst hp
        simp (maxSteps := 2000000) (disch := first|omega|(simp only[ls];first|done|omega)) only [E, hb0, ftt0_0, ftt0_1, ftt0_2, hb2, gm] <;> omega
    · simp (maxSteps := 2000000) (disch := first|omega|(simp only[ls];first|done|omega)) only [E, hb0, gm] <;> omega
    · intro x tt1 hh1 hx
      rcases ee0 with o7 | r
      · obtain ⟨rfl, ftt1_0, ftt1_1, ftt1_2⟩ := hx
        dsimp only at hp
        have hp := Option.some.inj hp
        subst hp
        simp (maxSteps := 2000000) (disch := first|omega|(simp only[ls];first|done|omega)) only [E, hb0, ftt1_0, ftt1_1, ftt1_2, gm]
      · obtain ⟨rfl, hx⟩ := hx
        dsimp only at hp
        cases hp
        simp only [seqK_ret, blockK_ret, retK_RK (K := Tells true), hx, and_self, true_and]
  · replace hb0 := eq_false_of_ne_true hb0
    rw [if_f hb0] at hp
    have hp := Option.some.inj hp
    subst hp
    simp (maxSteps := 2000000) (disch := first|omega|(simp only[ls];first|done|omega)) only [E, hb0, gm]

noncomputable def p_laws_FnExactMarkText (x0 : List TLOp) (x1 : List TMark) (x2 : Int) (x3 : Int) (x4 : Int) (x5 : Int) (x6 : Bool) : Option Bool :=
  (p_laws_szLOpS x0 1048576).bind fun v0 =>
  if (decide (v0 < 0)) = true then
    some true
  else
    (p_laws_szMarkOpS x1 v0).bind fun v2 =>
    if (decide (v2 < 0)) = true then
      some true
    else
      (p_laws_toLOpS x0).bind fun v4 =>
      (p_laws_toMarkOpS x1).bind fun v5 =>
      (p_spec_MarkText v4 v5 x2 x3 x4 x5 x6).bind fun v6 =>
      (p_impl_MarkText v4 v5 x2 x3 x4 x5 x6).bind fun v7 =>
      (p_laws_eqMarkOp v7.a v6.a).bind fun v8 =>
      if (v8) = true then
        if (decide (v7.b = v6.b)) = true then
          (p_laws_eqLOpS v4 v4).bind fun v11 =>
          if (v11) = true then
            (p_laws_eqMarkOpS v5 v5).bind fun v13 =>
            if (v13) = true then
              some true
            else
              some false
          else
            some false
        else
          some false
      else
        some false
def c_laws_FnExactMarkText (f_laws_szLOpS : Nat) (f_laws_szMarkOpS : Nat) (f_laws_toLOpS : Nat) (f_laws_toMarkOpS : Nat) (f_spec_MarkText : Nat) (f_impl_MarkText : Nat) (f_laws_eqMarkOp : Nat) (f_laws_eqLOpS : Nat) (f_laws_eqMarkOpS : Nat) : AFn := ⟨79, (.seq (.ops [(qS 14 (.mv (.const (.bool false))))]) (.seq (.ops [(qS 15 (.mv (ic 1048576)))]) (.seq (.ops [(qS 22 (.mv (.tmp 0))), (qS 23 (.mv (.tmp 15))), (qS 24 (.call (2 * f_laws_szLOpS) [(.tmp 22), (.tmp 23)])), (qS 15 (.mv (.tmp 24)))]) (.seq (.seq (.ops [(qS 25 (.mv (.tmp 15))), (qS 26 (.pu (.n (.ar .lss)) [(.tmp 25), (ic 0)]))]) (.cond (.tmp 26) (.seq (.ops [(qS 14 (.mv (.const (.bool true))))]) .ret) .skip)) (.seq (.ops [(qS 27 (.mv (.tmp 1))), (qS 28 (.mv (.tmp 15))), (qS 29 (.call (2 * f_laws_szMarkOpS) [(.tmp 27), (.tmp 28)])), (qS 15 (.mv (.tmp 29)))]) (.seq (.seq (.ops [(qS 30 (.mv (.tmp 15))), (qS 31 (.pu (.n (.ar .lss)) [(.tmp 30), (ic 0)]))]) (.cond (.tmp 31) (.seq (.ops [(qS 14 (.mv (.const (.bool true))))]) .ret) .skip)) (.seq (.ops [(qS 33 (.mv (.tmp 0))), (qS 34 (.call (2 * f_laws_toLOpS) [(.tmp 33)])), (qS 35 (.mv (.tmp 1))), (qS 36 (.call (2 * f_laws_toMarkOpS) [(.tmp 35)])), (qS 37 (.mv (.tmp 2))), (qS 38 (.mv (.tmp 3))), (qS 39 (.mv (.tmp 4))), (qS 40 (.mv (.tmp 5))), (qS 41 (.mv (.tmp 6))), (qS 42 (.call (2 * f_spec_MarkText) [(.tmp 34), (.tmp 36), (.tmp 37), (.tmp 38), (.tmp 39), (.tmp 40), (.tmp 41)])), (qS 32 (.mv (.tmp 42))), (qS 43 (.extract 0 (.tmp 32))), (qS 44 (.extract 1 (.tmp 32))), (qS 16 (.allocV [(0, false), (0, false), (0, false), (0, false), (0, false), (0, false), (0, false), (0, false)] [(.int .i64 0), (.int .i64 0), (.int .i64 0), (.int .i64 0), (.int .i64 0), (.int .i64 0), (.int .i64 0), (.bool false)])), ⟨.none, (.storeV [(0, false), (0, false), (0, false), (0, false), (0, false), (0, false), (0, false), (0, false)] 8 (.tmp 16) (.tmp 43)), .none, [], .none⟩, (qS 17 (.mv (.tmp 44)))]) (.seq (.ops [(qS 45 (.mv (.tmp 0))), (qS 46 (.call (2 * f_laws_toLOpS + 1) [(.tmp 45)])), (qS 18 (.mv (.tmp 46)))]) (.seq (.ops [(qS 47 (.mv (.tmp 1))), (qS 48 (.call (2 * f_laws_toMarkOpS + 1) [(.tmp 47)])), (qS 19 (.mv (.tmp 48)))]) (.seq (.ops [(qS 50 (.mv (.tmp 18))), (qS 51 (.mv (.tmp 19))), (qS 52 (.mv (.tmp 2))), (qS 53 (.mv (.tmp 3))), (qS 54 (.mv (.tmp 4))), (qS 55 (.mv (.tmp 5))), (qS 56 (.mv (.tmp 6))), (qS 57 (.call (2 * f_impl_MarkText) [(.tmp 50), (.tmp 51), (.tmp 52), (.tmp 53), (.tmp 54), (.tmp 55), (.tmp 56)])), (qS 49 (.mv (.tmp 57))), (qS 58 (.extract 0 (.tmp 49))), (qS 59 (.extract 1 (.tmp 49))), (qS 20 (.allocV [(0, false), (0, false), (0, false), (0, false), (0, false), (0, false), (0, false), (0, false)] [(.int .i64 0), (.int .i64 0), (.int .i64 0), (.int .i64 0), (.int .i64 0), (.int .i64 0), (.int .i64 0), (.bool false)])), ⟨.none, (.storeV [(0, false), (0, false), (0, false), (0, false), (0, false), (0, false), (0, false), (0, false)] 8 (.tmp 20) (.tmp 58)), .none, [], .none⟩, (qS 21 (.mv (.tmp 59)))]) (.seq (.seq (.ops [(qS 60 (.load 8 true (.tmp 20))), (qS 61 (.load 8 true (.tmp 16))), (qS 62 (.call (2 * f_laws_eqMarkOp) [(.tmp 60), (.tmp 61)])), (qS 63 (.pu (.n (.un .not)) [(.tmp 62)])), (qS 64 (.mv (.tmp 63))), ⟨(.some 65), (.mv (.tmp 21)), (.some (64, false)), [], .none⟩, ⟨(.some 66), (.mv (.tmp 17)), (.some (64, false)), [], .none⟩, ⟨(.some 67), (.pu (.n (.ar .neq)) [(.tmp 65), (.tmp 66)]), (.some (64, false)), [], .none⟩, (qS 68 (.pick (.tmp 64) (.const (.bool true)) (.tmp 67)))]) (.cond (.tmp 68) (.seq (.ops [(qS 14 (.mv (.const (.bool false))))]) .ret) .skip)) (.seq (.seq (.ops [(qS 69 (.mv (.tmp 18))), (qS 70 (.mv (.tmp 0))), (qS 71 (.call (2 * f_laws_toLOpS + 1) [(.tmp 70)])), (qS 72 (.call (2 * f_laws_eqLOpS) [(.tmp 69), (.tmp 71)])), (qS 73 (.pu (.n (.un .not)) [(.tmp 72)]))]) (.cond (.tmp 73) (.seq (.ops [(qS 14 (.mv (.const (.bool false))))]) .ret) .skip)) (.seq (.seq (.ops [(qS 74 (.mv (.tmp 19))), (qS 75 (.mv (.tmp 1))), (qS 76 (.call (2 * f_laws_toMarkOpS + 1) [(.tmp 75)])), (qS 77 (.call (2 * f_laws_eqMarkOpS) [(.tmp 74), (.tmp 76)])), (qS 78 (.pu (.n (.un .not)) [(.tmp 77)]))]) (.cond (.tmp 78) (.seq (.ops [(qS 14 (.mv (.const (.bool false))))]) .ret) .skip)) (.seq (.ops [(qS 14 (.mv (.const (.bool true))))]) .ret)))))))))))))), [(.tmp 14)]⟩
set_option maxHeartbeats 10000000 in
theorem d_laws_FnExactMarkText {P : Program} {env : Env} {f_laws_szLOpS : Nat} {f_laws_szMarkOpS : Nat} {f_laws_toLOpS : Nat} {f_laws_toMarkOpS : Nat} {f_spec_MarkText : Nat} {f_impl_MarkText : Nat} {f_laws_eqMarkOp : Nat} {f_laws_eqLOpS : Nat} {f_laws_eqMarkOpS : Nat}  (ep_laws_szLOpS : env (2 * f_laws_szLOpS) = pureFn true (FA fun a : List TLOp × Int => p_laws_szLOpS a.1 a.2)) (ep_laws_szMarkOpS : env (2 * f_laws_szMarkOpS) = pureFn true (FA fun a : List TMark × Int => p_laws_szMarkOpS a.1 a.2)) (ep_laws_toLOpS : env (2 * f_laws_toLOpS) = pureFn true (FA fun a : List TLOp => p_laws_toLOpS a)) (ep_laws_toMarkOpS : env (2 * f_laws_toMarkOpS) = pureFn true (FA fun a : List TMark => p_laws_toMarkOpS a)) (ep_spec_MarkText : env (2 * f_spec_MarkText) = pureFn true (FA fun a : List TLOp × List TMark × Int × Int × Int × Int × Bool => p_spec_MarkText a.1 a.2.1 a.2.2.1 a.2.2.2.1 a.2.2.2.2.1 a.2.2.2.2.2.1 a.2.2.2.2.2.2)) (ep_impl_MarkText : env (2 * f_impl_MarkText) = pureFn true (FA fun a : List TLOp × List TMark × Int × Int × Int × Int × Bool => p_impl_MarkText a.1 a.2.1 a.2.2.1 a.2.2.2.1 a.2.2.2.2.1 a.2.2.2.2.2.1 a.2.2.2.2.2.2)) (ep_laws_eqMarkOp : env (2 * f_laws_eqMarkOp) = pureFn true (FA fun a : TMark × TMark => p_laws_eqMarkOp a.1 a.2)) (ep_laws_eqLOpS : env (2 * f_laws_eqLOpS) = pureFn true (FA fun a : List TLOp × List TLOp => p_laws_eqLOpS a.1 a.2)) (ep_laws_eqMarkOpS : env (2 * f_laws_eqMarkOpS) = pureFn true (FA fun a : List TMark × List TMark => p_laws_eqMarkOpS a.1 a.2)) (e_laws_toLOpS : k_laws_toLOpS (env (2 * f_laws_toLOpS + 1))) (e_laws_toMarkOpS : k_laws_toMarkOpS (env (2 * f_laws_toMarkOpS + 1))) (x0 : List TLOp) (x1 : List TMark) (x2 : Int) (x3 : Int) (x4 : Int) (x5 : Int) (x6 : Bool) (hp : p_laws_FnExactMarkText x0 x1 x2 x3 x4 x5 x6 = some true) : R P env (c_laws_FnExactMarkText f_laws_szLOpS f_laws_szMarkOpS f_laws_toLOpS f_laws_toMarkOpS f_spec_MarkText f_impl_MarkText f_laws_eqMarkOp f_laws_eqLOpS f_laws_eqMarkOpS) ((encA (x0, x1, x2, x3, x4, x5, x6)).map ofI) [] (fun v _ => v = .i (iB true)) := by
  refine R_of (by simp [c_laws_FnExactMarkText, encA]) ?_
  have E := And.intro ep_laws_szLOpS (And.intro ep_laws_szMarkOpS (And.intro ep_laws_toLOpS (And.intro ep_laws_toMarkOpS (And.intro ep_spec_MarkText (And.intro ep_impl_MarkText (And.intro ep_laws_eqMarkOp (And.intro ep_laws_eqLOpS ep_laws_eqMarkOpS)))))))
  unfold c_laws_FnExactMarkText
  unfold p_laws_FnExactMarkText at hp
  obtain ⟨v0, hv0, hp⟩ := bind_eq hp
  by_cases hb1 : (decide (v0 < 0)) = true
  · rw [if_t hb1] at hp
    cases hp
    simp (maxSteps := 2000000) (disch := first|omega|(simp only[ls];first|done|omega)) only [E, hv0, hb1, gm]
  · replace hb1 := eq_false_of_ne_true hb1
    rw [if_f hb1] at hp
    obtain ⟨v2, hv2, hp⟩ := bind_eq hp
    by_cases hb3 : (decide (v2 < 0)) = true
    · rw [if_t hb3] at hp
      cases hp
      simp (maxSteps := 2000000) (disch := first|omega|(simp only[ls];first|done|omega)) only [E, hv0, hb1, hv2, hb3, gm]
    · replace hb3 := eq_false_of_ne_true hb3
      rw [if_f hb3] at hp
      obtain ⟨v4, hv4, hp⟩ := bind_eq hp
      obtain ⟨v5, hv5, hp⟩ := bind_eq hp
      obtain ⟨v6, hv6, hp⟩ := bind_eq hp
      simp (maxSteps := 2000000) (disch := first|omega|(simp only[ls];first|done|omega)) only [E, hv0, hb1, hv2, hb3, hv4, hv5, hv6, gm]
      refine call_f (fun h => getCells h 0 8 = some [.i (.s (.int .i64 v6.a.id.time)), .i (.s (.int .i64 v6.a.id.actor)), .i (.s (.int .i64 v6.a.from_.time)), .i (.s (.int .i64 v6.a.from_.actor)), .i (.s (.int .i64 v6.a.to.time)), .i (.s (.int .i64 v6.a.to.actor)), .i (.s (.int .i64 v6.a.kind)), .i (.s (.bool v6.a.on))] ∧ 0 < h.length) (fun h v h2 => oo_laws_toLOpS v4 h v h2) ?_ ?_ ?_
      · simp (maxSteps := 2000000) (disch := first|omega|(simp only[ls];first|done|omega)) only [E, hv0, hb1, hv2, hb3, hv4, hv5, hv6, gm] <;> omega
      · rintro h ⟨c0_0, c0_1⟩
        exact e_laws_toLOpS _ _ hv4 h _ (by simp (maxSteps := 2000000) (disch := first|omega|(simp only[ls];first|done|omega)) only [E, hv0, hb1, hv2, hb3, hv4, hv5, hv6, c0_0, c0_1, gm])
      · rintro hc0 v hh0 ⟨c0_0, c0_1⟩ hpost
        obtain ⟨kk0, nb0_0, rfl, lnb0_0, gnb0_0, wnb0_0⟩ := hpost
        have d0_0 : getCells hh0 0 8 = some [.i (.s (.int .i64 v6.a.id.time)), .i (.s (.int .i64 v6.a.id.actor)), .i (.s (.int .i64 v6.a.from_.time)), .i (.s (.int .i64 v6.a.from_.actor)), .i (.s (.int .i64 v6.a.to.time)), .i (.s (.int .i64 v6.a.to.actor)), .i (.s (.int .i64 v6.a.kind)), .i (.s (.bool v6.a.on))] := (keep_get kk0 c0_1 (by first | (simp; done) | (simp; omega))).trans c0_0
        have d0_0l := keep_lt kk0 c0_1
        have d0_1 := wnb0_0
        simp (maxSteps := 2000000) (disch := first|omega|(simp only[ls];first|done|omega)) only [E, hv0, hb1, hv2, hb3, hv4, hv5, hv6, d0_0, d0_1, gm]
        refine call_f (fun h => getCells h 0 8 = some [.i (.s (.int .i64 v6.a.id.time)), .i (.s (.int .i64 v6.a.id.actor)), .i (.s (.int .i64 v6.a.from_.time)), .i (.s (.int .i64 v6.a.from_.actor)), .i (.s (.int .i64 v6.a.to.time)), .i (.s (.int .i64 v6.a.to.actor)), .i (.s (.int .i64 v6.a.kind)), .i (.s (.bool v6.a.on))] ∧ 0 < h.length ∧ getCells h nb0_0 (v4.length * 6) = some (rows (v4 : List TLOp)) ∧ nb0_0 < h.length) (fun h v h2 => oo_laws_toMarkOpS v5 h v h2) ?_ ?_ ?_
        · simp (maxSteps := 2000000) (disch := first|omega|(simp only[ls];first|done|omega)) only [E, hv0, hb1, hv2, hb3, hv4, hv5, hv6, d0_0, d0_1, gm] <;> omega
        · rintro h ⟨c1_0, c1_1, c1_2, c1_3⟩
          exact e_laws_toMarkOpS _ _ hv5 h _ (by simp (maxSteps := 2000000) (disch := first|omega|(simp only[ls];first|done|omega)) only [E, hv0, hb1, hv2, hb3, hv4, hv5, hv6, d0_0, d0_1, c1_0, c1_1, c1_2, c1_3, gm])
        · rintro hc1 v hh1 ⟨c1_0, c1_1, c1_2, c1_3⟩ hpost
          obtain ⟨kk1, nb1_0, rfl, lnb1_0, gnb1_0, wnb1_0⟩ := hpost
          have d1_0 : getCells hh1 0 8 = some [.i (.s (.int .i64 v6.a.id.time)), .i (.s (.int .i64 v6.a.id.actor)), .i (.s (.int .i64 v6.a.from_.time)), .i (.s (.int .i64 v6.a.from_.actor)), .i (.s (.int .i64 v6.a.to.time)), .i (.s (.int .i64 v6.a.to.actor)), .i (.s (.int .i64 v6.a.kind)), .i (.s (.bool v6.a.on))] := (keep_get kk1 c1_1 (by first | (simp; done) | (simp; omega))).trans c1_0
          have d1_0l := keep_lt kk1 c1_1
          have d1_1 : getCells hh1 nb0_0 (v4.length * 6) = some (rows (v4 : List TLOp)) := (keep_get kk1 c1_3 (by first | (simp; done) | (simp; omega))).trans c1_2
          have d1_1l := keep_lt kk1 c1_3
          have d1_2 := wnb1_0
          obtain ⟨v7, hv7, hp⟩ := bind_eq hp
          obtain ⟨v8, hv8, hp⟩ := bind_eq hp
          by_cases hb9 : (v8) = true
          · rw [if_t hb9] at hp
            by_cases hb10 : (decide (v7.b = v6.b)) = true
            · rw [if_t hb10] at hp
              simp (maxSteps := 2000000) (disch := first|omega|(simp only[ls];first|done|omega)) only [E, hv0, hb1, hv2, hb3, hv4, hv5, hv6, d0_0, d0_1, d1_0, d1_1, d1_2, hv7, hv8, hb9, hb10, gm]
              refine call_f (fun h => getCells h 0 8 = some [.i (.s (.int .i64 v6.a.id.time)), .i (.s (.int .i64 v6.a.id.actor)), .i (.s (.int .i64 v6.a.from_.time)), .i (.s (.int .i64 v6.a.from_.actor)), .i (.s (.int .i64 v6.a.to.time)), .i (.s (.int .i64 v6.a.to.actor)), .i (.s (.int .i64 v6.a.kind)), .i (.s (.bool v6.a.on))] ∧ 0 < h.length ∧ getCells h nb0_0 (v4.length * 6) = some (rows (v4 : List TLOp)) ∧ nb0_0 < h.length ∧ getCells h nb1_0 (v5.length * 8) = some (rows (v5 : List TMark)) ∧ nb1_0 < h.length ∧ getCells h hh1.length 8 = some [.i (.s (.int .i64 v7.a.id.time)), .i (.s (.int .i64 v7.a.id.actor)), .i (.s (.int .i64 v7.a.from_.time)), .i (.s (.int .i64 v7.a.from_.actor)), .i (.s (.int .i64 v7.a.to.time)), .i (.s (.int .i64 v7.a.to.actor)), .i (.s (.int .i64 v7.a.kind)), .i (.s (.bool v7.a.on))] ∧ hh1.length < h.length) (fun h v h2 => oo_laws_toLOpS v4 h v h2) ?_ ?_ ?_
              · simp (maxSteps := 2000000) (disch := first|omega|(simp only[ls];first|done|omega)) only [E, hv0, hb1, hv2, hb3, hv4, hv5, hv6, d0_0, d0_1, d1_0, d1_1, d1_2, hv7, hv8, hb9, hb10, gm] <;> omega
              · rintro h ⟨c2_0, c2_1, c2_2, c2_3, c2_4, c2_5, c2_6, c2_7⟩
                exact e_laws_toLOpS _ _ hv4 h _ (by simp (maxSteps := 2000000) (disch := first|omega|(simp only[ls];first|done|omega)) only [E, hv0, hb1, hv2, hb3, hv4, hv5, hv6, d0_0, d0_1, d1_0, d1_1, d1_2, hv7, hv8, hb9, hb10, c2_0, c2_1, c2_2, c2_3, c2_4, c2_5, c2_6, c2_7, gm])
              · rintro hc2 v hh2 ⟨c2_0, c2_1, c2_2, c2_3, c2_4, c2_5, c2_6, c2_7⟩ hpost
                obtain ⟨kk2, nb2_0, rfl, lnb2_0, gnb2_0, wnb2_0⟩ := hpost
                have d2_0 : getCells hh2 0 8 = some [.i (.s (.int .i64 v6.a.id.time)), .i (.s (.int .i64 v6.a.id.actor)), .i (.s (.int .i64 v6.a.from_.time)), .i (.s (.int .i64 v6.a.from_.actor)), .i (.s (.int .i64 v6.a.to.time)), .i (.s (.int .i64 v6.a.to.actor)), .i (.s (.int .i64 v6.a.kind)), .i (.s (.bool v6.a.on))] := (keep_get kk2 c2_1 (by first | (simp; done) | (simp; omega))).trans c2_0
                have d2_0l := keep_lt kk2 c2_1
                have d2_1 : getCells hh2 nb0_0 (v4.length * 6) = some (rows (v4 : List TLOp)) := (keep_get kk2 c2_3 (by first | (simp; done) | (simp; omega))).trans c2_2
                have d2_1l := keep_lt kk2 c2_3
                have d2_2 : getCells hh2 nb1_0 (v5.length * 8) = some (rows (v5 : List TMark)) := (keep_get kk2 c2_5 (by first | (simp; done) | (simp; omega))).trans c2_4
                have d2_2l := keep_lt kk2 c2_5
                have d2_3 : getCells hh2 hh1.length 8 = some [.i (.s (.int .i64 v7.a.id.time)), .i (.s (.int .i64 v7.a.id.actor)), .i (.s (.int .i64 v7.a.from_.time)), .i (.s (.int .i64 v7.a.from_.actor)), .i (.s (.int .i64 v7.a.to.time)), .i (.s (.int .i64 v7.a.to.actor)), .i (.s (.int .i64 v7.a.kind)), .i (.s (.bool v7.a.on))] := (keep_get kk2 c2_7 (by first | (simp; done) | (simp; omega))).trans c2_6
                have d2_3l := keep_lt kk2 c2_7
                have d2_4 := wnb2_0
                obtain ⟨v11, hv11, hp⟩ := bind_eq hp
                by_cases hb12 : (v11) = true
                · rw [if_t hb12] at hp
                  simp (maxSteps := 2000000) (disch := first|omega|(simp only[ls];first|done|omega)) only [E, hv0, hb1, hv2, hb3, hv4, hv5, hv6, d0_0, d0_1, d1_0, d1_1, d1_2, hv7, hv8, hb9, hb10, d2_0, d2_1, d2_2, d2_3, d2_4, hv11, hb12, gm]
                  refine call_f (fun h => getCells h 0 8 = some [.i (.s (.int .i64 v6.a.id.time)), .i (.s (.int .i64 v6.a.id.actor)), .i (.s (.int .i64 v6.a.from_.time)), .i (.s (.int .i64 v6.a.from_.actor)), .i (.s (.int .i64 v6.a.to.time)), .i (.s (.int .i64 v6.a.to.actor)), .i (.s (.int .i64 v6.a.kind)), .i (.s (.bool v6.a.on))] ∧ 0 < h.length ∧ getCells h nb0_0 (v4.length * 6) = some (rows (v4 : List TLOp)) ∧ nb0_0 < h.length ∧ getCells h nb1_0 (v5.length * 8) = some (rows (v5 : List TMark)) ∧ nb1_0 < h.length ∧ getCells h hh1.length 8 = some [.i (.s (.int .i64 v7.a.id.time)), .i (.s (.int .i64 v7.a.id.actor)), .i (.s (.int .i64 v7.a.from_.time)), .i (.s (.int .i64 v7.a.from_.actor)), .i (.s (.int .i64 v7.a.to.time)), .i (.s (.int .i64 v7.a.to.actor)), .i (.s (.int .i64 v7.a.kind)), .i (.s (.bool v7.a.on))] ∧ hh1.length < h.length ∧ getCells h nb2_0 (v4.length * 6) = some (rows (v4 : List TLOp)) ∧ nb2_0 < h.length) (fun h v h2 => oo_laws_toMarkOpS v5 h v h2) ?_ ?_ ?_
                  · simp (maxSteps := 2000000) (disch := first|omega|(simp only[ls];first|done|omega)) only [E, hv0, hb1, hv2, hb3, hv4, hv5, hv6, d0_0, d0_1, d1_0, d1_1, d1_2, hv7, hv8, hb9, hb10, d2_0, d2_1, d2_2, d2_3, d2_4, hv11, hb12, gm] <;> omega
                  · rintro h ⟨c3_0, c3_1, c3_2, c3_3, c3_4, c3_5, c3_6, c3_7, c3_8, c3_9⟩
                    exact e_laws_toMarkOpS _ _ hv5 h _ (by simp (maxSteps := 2000000) (disch := first|omega|(simp only[ls];first|done|omega)) only [E, hv0, hb1, hv2, hb3, hv4, hv5, hv6, d0_0, d0_1, d1_0, d1_1, d1_2, hv7, hv8, hb9, hb10, d2_0, d2_1, d2_2, d2_3, d2_4, hv11, hb12, c3_0, c3_1, c3_2, c3_3, c3_4, c3_5, c3_6, c3_7, c3_8, c3_9, gm])
                  · rintro hc3 v hh3 ⟨c3_0, c3_1, c3_2, c3_3, c3_4, c3_5, c3_6, c3_7, c3_8, c3_9⟩ hpost
                    obtain ⟨kk3, nb3_0, rfl, lnb3_0, gnb3_0, wnb3_0⟩ := hpost
                    have d3_0 : getCells hh3 0 8 = some [.i (.s (.int .i64 v6.a.id.time)), .i (.s (.int .i64 v6.a.id.actor)), .i (.s (.int .i64 v6.a.from_.time)), .i (.s (.int .i64 v6.a.from_.actor)), .i (.s (.int .i64 v6.a.to.time)), .i (.s (.int .i64 v6.a.to.actor)), .i (.s (.int .i64 v6.a.kind)), .i (.s (.bool v6.a.on))] := (keep_get kk3 c3_1 (by first | (simp; done) | (simp; omega))).trans c3_0
                    have d3_0l := keep_lt kk3 c3_1
                    have d3_1 : getCells hh3 nb0_0 (v4.length * 6) = some (rows (v4 : List TLOp)) := (keep_get kk3 c3_3 (by first | (simp; done) | (simp; omega))).trans c3_2
                    have d3_1l := keep_lt kk3 c3_3
                    have d3_2 : getCells hh3 nb1_0 (v5.length * 8) = some (rows (v5 : List TMark)) := (keep_get kk3 c3_5 (by first | (simp; done) | (simp; omega))).trans c3_4
                    have d3_2l := keep_lt kk3 c3_5
                    have d3_3 : getCells hh3 hh1.length 8 = some [.i (.s (.int .i64 v7.a.id.time)), .i (.s (.int .i64 v7.a.id.actor)), .i (.s (.int .i64 v7.a.from_.time)), .i (.s (.int .i64 v7.a.from_.actor)), .i (.s (.int .i64 v7.a.to.time)), .i (.s (.int .i64 v7.a.to.actor)), .i (.s (.int .i64 v7.a.kind)), .i (.s (.bool v7.a.on))] := (keep_get kk3 c3_7 (by first | (simp; done) | (simp; omega))).trans c3_6
                    have d3_3l := keep_lt kk3 c3_7
                    have d3_4 : getCells hh3 nb2_0 (v4.length * 6) = some (rows (v4 : List TLOp)) := (keep_get kk3 c3_9 (by first | (simp; done) | (simp; omega))).trans c3_8
                    have d3_4l := keep_lt kk3 c3_9
                    have d3_5 := wnb3_0
                    obtain ⟨v13, hv13, hp⟩ := bind_eq hp
                    by_cases hb14 : (v13) = true
                    · rw [if_t hb14] at hp
                      cases hp
                      simp (maxSteps := 2000000) (disch := first|omega|(simp only[ls];first|done|omega)) only [E, hv0, hb1, hv2, hb3, hv4, hv5, hv6, d0_0, d0_1, d1_0, d1_1, d1_2, hv7, hv8, hb9, hb10, d2_0, d2_1, d2_2, d2_3, d2_4, hv11, hb12, d3_0, d3_1, d3_2, d3_3, d3_4, d3_5, hv13, hb14, gm]
                    · replace hb14 := eq_false_of_ne_true hb14
                      rw [if_f hb14] at hp
                      cases hp
                · replace hb12 := eq_false_of_ne_true hb12
                  rw [if_f hb12] at hp
                  cases hp
            · replace hb10 := eq_false_of_ne_true hb10
              rw [if_f hb10] at hp
              cases hp
          · replace hb9 := eq_false_of_ne_true hb9
            rw [if_f hb9] at hp
            cases hp

end Go.AM
