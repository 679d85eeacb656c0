/- Plain functions of CounterAdd and their walks. No condition. -/
import Derived.Test.YtogokiglmhnjkaaLabM3
set_option linter.unusedVariables false
set_option linter.unusedSimpArgs false
set_option maxRecDepth 20000
namespace Go.AM
open Pic (enc dec dec_enc dec_sub)
open PicA (encA decA decA_encA decA_sub)
noncomputable def p_laws_szIntS (x0 : List Int) (x1 : Int) : Option Int :=
  if (decide (w64 (x1 - (x0.length : Int)) < 0)) = true then
    some (-1)
  else
    some (w64 (x1 - (x0.length : Int)))
def c_laws_szIntS : AFn := ⟨12, (.seq (.ops [(qS 4 (.mv (ic 0)))]) (.seq (.ops [(qS 5 (.mv (.tmp 1))), (qS 6 (.mv (.tmp 0))), (qS 7 (.len (.tmp 6))), (qS 8 (.pu (.n (.ar .sub)) [(.tmp 5), (.tmp 7)])), (qS 1 (.mv (.tmp 8)))]) (.seq (.seq (.ops [(qS 9 (.mv (.tmp 1))), (qS 10 (.pu (.n (.ar .lss)) [(.tmp 9), (ic 0)]))]) (.cond (.tmp 10) (.seq (.ops [(qS 4 (.mv (ic (-1))))]) .ret) .skip)) (.seq (.ops [(qS 11 (.mv (.tmp 1))), (qS 4 (.mv (.tmp 11)))]) .ret)))), [(.tmp 4)]⟩
set_option maxHeartbeats 10000000 in
theorem d_laws_szIntS {P : Program} {env : Env}  (x0 : List Int) (x1 : Int) {b : Int} (hp : p_laws_szIntS x0 x1 = some b) : R P env (c_laws_szIntS) ((encA (x0, x1)).map ofI) [] (Tells true b) := by
  refine R_of (by simp [c_laws_szIntS, encA]) ?_
  unfold c_laws_szIntS
  unfold p_laws_szIntS at hp
  by_cases hb0 : (decide (w64 (x1 - (x0.length : Int)) < 0)) = true
  · rw [if_t hb0] at hp
    have hp := Option.some.inj hp
    subst hp
    simp (maxSteps := 2000000) (disch := first|omega|(simp only[ls];first|done|omega)) only [hb0, gm]
  · replace hb0 := eq_false_of_ne_true hb0
    rw [if_f hb0] at hp
    have hp := Option.some.inj hp
    subst hp
    simp (maxSteps := 2000000) (disch := first|omega|(simp only[ls];first|done|omega)) only [hb0, gm]

noncomputable def p_laws_szVector (x0 : TVec) (x1 : Int) : Option Int :=
  (p_laws_szIntS x0.counts x1).bind fun v0 =>
  if (decide (v0 < 0)) = true then
    some (-1)
  else
    some v0
def c_laws_szVector (f_laws_szIntS : Nat) : AFn := ⟨12, (.seq (.ops [(qS 2 (.box (.tmp 0))), (qS 4 (.mv (ic 0)))]) (.seq (.ops [(qS 5 (.fieldA 0 (.tmp 2))), (qS 6 (.load 1 false (.tmp 5))), (qS 7 (.mv (.tmp 1))), (qS 8 (.call (2 * f_laws_szIntS) [(.tmp 6), (.tmp 7)])), (qS 1 (.mv (.tmp 8)))]) (.seq (.seq (.ops [(qS 9 (.mv (.tmp 1))), (qS 10 (.pu (.n (.ar .lss)) [(.tmp 9), (ic 0)]))]) (.cond (.tmp 10) (.seq (.ops [(qS 4 (.mv (ic (-1))))]) .ret) .skip)) (.seq (.ops [(qS 11 (.mv (.tmp 1))), (qS 4 (.mv (.tmp 11)))]) .ret)))), [(.tmp 4)]⟩
set_option maxHeartbeats 10000000 in
theorem d_laws_szVector {P : Program} {env : Env} {f_laws_szIntS : Nat}  (ep_laws_szIntS : env (2 * f_laws_szIntS) = pureFn true (FA fun a : List Int × Int => p_laws_szIntS a.1 a.2)) (x0 : TVec) (x1 : Int) {b : Int} (hp : p_laws_szVector x0 x1 = some b) : R P env (c_laws_szVector f_laws_szIntS) ((encA (x0, x1)).map ofI) [] (Tells true b) := by
  refine R_of (by simp [c_laws_szVector, encA]) ?_
  have E := ep_laws_szIntS
  unfold c_laws_szVector
  unfold p_laws_szVector at hp
  obtain ⟨v0, hv0, hp⟩ := bind_eq hp
  by_cases hb1 : (decide (v0 < 0)) = true
  · rw [if_t hb1] at hp
    have hp := Option.some.inj hp
    subst hp
    simp (maxSteps := 2000000) (disch := first|omega|(simp only[ls];first|done|omega)) only [E, hv0, hb1, gm]
  · replace hb1 := eq_false_of_ne_true hb1
    rw [if_f hb1] at hp
    have hp := Option.some.inj hp
    subst hp
    simp (maxSteps := 2000000) (disch := first|omega|(simp only[ls];first|done|omega)) only [E, hv0, hb1, gm]

noncomputable def p_laws_szCounter (x0 : TCounter) (x1 : Int) : Option Int :=
  (p_laws_szVector x0.plus x1).bind fun v0 =>
  if (decide (v0 < 0)) = true then
    some (-1)
  else
    (p_laws_szVector x0.minus v0).bind fun v2 =>
    if (decide (v2 < 0)) = true then
      some (-1)
    else
      some v2
def c_laws_szCounter (f_laws_szVector : Nat) : AFn := ⟨18, (.seq (.ops [(qS 2 (.box (.tmp 0))), (qS 4 (.mv (ic 0)))]) (.seq (.ops [(qS 5 (.fieldA 0 (.tmp 2))), (qS 6 (.load 1 true (.tmp 5))), (qS 7 (.mv (.tmp 1))), (qS 8 (.call (2 * f_laws_szVector) [(.tmp 6), (.tmp 7)])), (qS 1 (.mv (.tmp 8)))]) (.seq (.seq (.ops [(qS 9 (.mv (.tmp 1))), (qS 10 (.pu (.n (.ar .lss)) [(.tmp 9), (ic 0)]))]) (.cond (.tmp 10) (.seq (.ops [(qS 4 (.mv (ic (-1))))]) .ret) .skip)) (.seq (.ops [(qS 11 (.fieldA 1 (.tmp 2))), (qS 12 (.load 1 true (.tmp 11))), (qS 13 (.mv (.tmp 1))), (qS 14 (.call (2 * f_laws_szVector) [(.tmp 12), (.tmp 13)])), (qS 1 (.mv (.tmp 14)))]) (.seq (.seq (.ops [(qS 15 (.mv (.tmp 1))), (qS 16 (.pu (.n (.ar .lss)) [(.tmp 15), (ic 0)]))]) (.cond (.tmp 16) (.seq (.ops [(qS 4 (.mv (ic (-1))))]) .ret) .skip)) (.seq (.ops [(qS 17 (.mv (.tmp 1))), (qS 4 (.mv (.tmp 17)))]) .ret)))))), [(.tmp 4)]⟩
set_option maxHeartbeats 10000000 in
theorem d_laws_szCounter {P : Program} {env : Env} {f_laws_szVector : Nat}  (ep_laws_szVector : env (2 * f_laws_szVector) = pureFn true (FA fun a : TVec × Int => p_laws_szVector a.1 a.2)) (x0 : TCounter) (x1 : Int) {b : Int} (hp : p_laws_szCounter x0 x1 = some b) : R P env (c_laws_szCounter f_laws_szVector) ((encA (x0, x1)).map ofI) [] (Tells true b) := by
  refine R_of (by simp [c_laws_szCounter, encA]) ?_
  have E := ep_laws_szVector
  unfold c_laws_szCounter
  unfold p_laws_szCounter at hp
  obtain ⟨v0, hv0, hp⟩ := bind_eq hp
  by_cases hb1 : (decide (v0 < 0)) = true
  · rw [if_t hb1] at hp
    have hp := Option.some.inj hp
    subst hp
    simp (maxSteps := 2000000) (disch := first|omega|(simp only[ls];first|done|omega)) only [E, hv0, hb1, gm]
  · replace hb1 := eq_false_of_ne_true hb1
    rw [if_f hb1] at hp
    obtain ⟨v2, hv2, hp⟩ := bind_eq hp
    by_cases hb3 : (decide (v2 < 0)) = true
    · rw [if_t hb3] at hp
      have hp := Option.some.inj hp
      subst hp
      simp (maxSteps := 2000000) (disch := first|omega|(simp only[ls];first|done|omega)) only [E, hv0, hb1, hv2, hb3, gm]
    · replace hb3 := eq_false_of_ne_true hb3
      rw [if_f hb3] at hp
      have hp := Option.some.inj hp
      subst hp
      simp (maxSteps := 2000000) (disch := first|omega|(simp only[ls];first|done|omega)) only [E, hv0, hb1, hv2, hb3, gm]

noncomputable def p_laws_toIntS_l0 (x0 : List Int) : List Int × Int → Option (Lp (List Int × Int) (List Int))
  | (s1, s2) =>
    if (decide (s2 < (x0.length : Int))) = true then
      (get? x0 s2).bind fun v4 =>
      (get? s1 s2).bind fun v5 =>
      some (.go ((s1.set s2.toNat v4), w64 (s2 + 1)))
    else
      some (.out (s1, s2))
noncomputable def p_laws_toIntS (x0 : List Int) : Option (List Int) :=
  ((mkL (x0.length : Int) 8 (x0.length : Int) 0 : Option (List Int))).bind fun v0 =>
  (loopP (p_laws_toIntS_l0 x0) (v0, 0)).bind fun ee0 => match ee0 with
  | .ret r => some r
  | .out (o7, o8) =>
    some o7
def c_laws_toIntS : AFn := ⟨22, (.seq (.ops [(qS 2 (.vnil 1 false))]) (.seq (.ops [(qS 5 (.mv (.tmp 0))), (qS 6 (.len (.tmp 5))), (qS 7 (.makeSl 1 false 8 [(.int .i64 0)] (.tmp 6) (.tmp 6))), (qS 3 (.mv (.tmp 7)))]) (.seq (.seq (.ops [(qS 4 (.mv (ic 0)))]) (.block 0 (.loop (.seq (.seq (.ops [(qS 8 (.mv (.tmp 4))), (qS 9 (.mv (.tmp 0))), (qS 10 (.len (.tmp 9))), (qS 11 (.pu (.n (.ar .lss)) [(.tmp 8), (.tmp 10)]))]) (.cond (.tmp 11) .skip (.exit 0))) (.seq (.block 1 (.ops [(qS 14 (.mv (.tmp 3))), (qS 15 (.mv (.tmp 4))), (qS 16 (.mv (.tmp 0))), (qS 17 (.mv (.tmp 4))), (qS 18 (.idxS 1 (.tmp 16) (.tmp 17))), (qS 19 (.load 1 false (.tmp 18))), (qS 20 (.idxS 1 (.tmp 14) (.tmp 15))), ⟨.none, (.storeV [(0, false)] 1 (.tmp 20) (.tmp 19)), .none, [], .none⟩])) (.ops [(qS 12 (.mv (.tmp 4))), (qS 13 (.pu (.n (.ar .add)) [(.tmp 12), (ic 1)])), (qS 4 (.mv (.tmp 13)))])))))) (.seq (.ops [(qS 21 (.mv (.tmp 3))), (qS 2 (.mv (.tmp 21)))]) .ret)))), [(.tmp 2)]⟩
def o_laws_toIntS (b : List Int) (v : V) (h : Heap) : Prop := ∃ n0 : Nat, v = .hsl n0 b.length 0 1 false b.length ∧ getCells h n0 b.length = some (rows b)
def oo_laws_toIntS (b : List Int) (h : Heap) (v : V) (h2 : Heap) : Prop := Keep [] h h2 ∧ ∃ n0 : Nat, v = .hsl n0 b.length 0 1 false b.length ∧ n0 < h2.length ∧ h.length ≤ n0 ∧ getCells h2 n0 b.length = some (rows b)
def k_laws_toIntS (F : Fun) : Prop := ∀ (x0 : List Int) (b : List Int), p_laws_toIntS x0 = some b → ∀ (h : Heap) (args : List V), snapA 9 false h args = some (encA (x0)) → ∃ p, F none args h = some p ∧ oo_laws_toIntS b h p.1 p.2
set_option maxHeartbeats 10000000 in
theorem w_laws_toIntS {P : Program} {env : Env}  (x0 : List Int) {b : List Int} (hp : p_laws_toIntS x0 = some b) : R P env (c_laws_toIntS) ((encA (x0)).map ofI) [] (o_laws_toIntS b) := by
  refine R_of (by simp [c_laws_toIntS, encA]) ?_
  unfold c_laws_toIntS
  unfold p_laws_toIntS at hp
  obtain ⟨v0, hv0, hp⟩ := bind_eq hp
  obtain ⟨kv0, qv0, lv0⟩ := mkL_some hv0
  have rv0 : (List.replicate x0.length [.i (.s (.int .i64 0))]).flatten = rows v0 := by rw [qv0]; exact rows_rep (x := (0 : Int)) rfl
  have mv0 : x0.length = v0.length := by rw [lv0]; simp
  obtain ⟨ee0, hee0, hp⟩ := bind_eq hp
  simp (maxSteps := 2000000) (disch := first|omega|(simp only[ls];first|done|omega)) only [hv0, rv0, kv0.1, kv0.2.1, kv0.2.2.1, kv0.2.2.2, gm]
  refine W_loopP 0 (fun s t h => match s with | (s1, s2) => t 0 = .i (.sl 1 (x0.map enc)) ∧ t 3 = .hsl 1 x0.length 0 1 false x0.length ∧ t 4 = .i (.s (.int .i64 s2)) ∧ getCells h 1 x0.length = some (rows (s1 : List Int)) ∧ 1 < h.length) (RK [.tmp 2] (o_laws_toIntS)) ?_ hee0 ?_ ?_
  · rintro ⟨s1, s2⟩ ee tt0 hh0 ⟨ftt0_0, ftt0_1, ftt0_2, ftt0_3, ftt0_4⟩ hp
    have ztt0_3 := len_rows ftt0_3
    simp only [zs] at ztt0_3
    rw [p_laws_toIntS_l0] at hp
    by_cases hb3 : (decide (s2 < (x0.length : Int))) = true
    · rw [if_t hb3] at hp
      obtain ⟨v4, hv4, hp⟩ := bind_eq hp
      obtain ⟨v5, hv5, hp⟩ := bind_eq hp
      have gv5 := get_some hv5
      have hs6 : List.take s2.toNat (rows s1) ++ .i (.s (.int .i64 v4)) :: List.drop (s2.toNat + 1) (rows s1) = rows (s1.set s2.toNat v4) := by simpa [splice, zs, cellsV, I.cells, enc_int] using rows_set_off (y := v4) (ys := [.i (.s (.int .i64 v4))]) (k := 0) gv5.2.2 (Nat.le_of_ble_eq_true rfl) (by rfl)
      have hp := Option.some.inj hp
      subst hp
      simp (maxSteps := 2000000) (disch := first|omega|(simp only[ls];first|done|omega)) only [hv0, rv0, kv0.1, kv0.2.1, kv0.2.2.1, kv0.2.2.2, ftt0_0, ftt0_1, ftt0_2, ftt0_3, ftt0_4, hb3, hv4, hv5, (gv5).1, (gv5).2.1, hs6, gm] <;> omega
    · replace hb3 := eq_false_of_ne_true hb3
      rw [if_f hb3] at hp
      have hp := Option.some.inj hp
      subst hp
      simp (maxSteps := 2000000) (disch := first|omega|(simp only[ls];first|done|omega)) only [hv0, rv0, kv0.1, kv0.2.1, kv0.2.2.1, kv0.2.2.2, ftt0_0, ftt0_1, ftt0_2, ftt0_3, ftt0_4, hb3, gm] <;> omega
  · simp (maxSteps := 2000000) (disch := first|omega|(simp only[ls];first|done|omega)) only [hv0, rv0, kv0.1, kv0.2.1, kv0.2.2.1, kv0.2.2.2, gm] <;> omega
  · intro x tt1 hh1 hx
    rcases ee0 with ⟨o7, o8⟩ | r
    · obtain ⟨rfl, ftt1_0, ftt1_1, ftt1_2, ftt1_3, ftt1_4⟩ := hx
      have ztt1_3 := len_rows ftt1_3
      simp only [zs] at ztt1_3
      dsimp only at hp
      have hp := Option.some.inj hp
      subst hp
      simp (maxSteps := 2000000) (disch := first|omega|(simp only[ls];first|done|omega)) only [hv0, rv0, kv0.1, kv0.2.1, kv0.2.2.1, kv0.2.2.2, ftt1_0, ftt1_1, ftt1_2, ftt1_3, ftt1_4, gm]
      refine ⟨1, ?_⟩
      simp (maxSteps := 2000000) (disch := first|omega|(simp only[ls];first|done|omega)) only [hv0, rv0, kv0.1, kv0.2.1, kv0.2.2.1, kv0.2.2.2, ftt1_0, ftt1_1, ftt1_2, ftt1_3, ftt1_4, o_laws_toIntS, (show (o7).length = x0.length from by first | omega | rfl | (simp; done) | (simp; omega)), gm] <;> omega
    · obtain ⟨rfl, hx⟩ := hx
      dsimp only at hp
      cases hp
      simp only [seqK_ret, blockK_ret, retK_RK (K := o_laws_toIntS), hx, and_self, true_and]
theorem ko_laws_toIntS {P : Program} {env : Env}  : k_laws_toIntS (ownFn P env (c_laws_toIntS)) := by
  intro x0 b hp h args has
  obtain ⟨⟨v, H2⟩, hr, n0, rfl, wn0⟩ := w_laws_toIntS x0 hp
  exact ⟨_, own_call has hr rfl, keep_moved, n0 + h.length, rfl, (moved_lt wn0).2, (moved_lt wn0).1, moved_rows wn0⟩

noncomputable def p_laws_toVector (x0 : TVec) : Option TVec :=
  (p_laws_toIntS x0.counts).bind fun v0 =>
  some (TVec.mk v0)
def c_laws_toVector (f_laws_toIntS : Nat) : AFn := ⟨9, (.seq (.ops [(qS 1 (.box (.tmp 0))), (qS 2 (.allocV [(1, false)] [(.slice .none 0 0)]))]) (.seq (.ops [(qS 3 (.allocV [(1, false)] [(.slice .none 0 0)]))]) (.seq (.ops [(qS 4 (.fieldA 0 (.tmp 1))), (qS 5 (.load 1 false (.tmp 4))), (qS 6 (.call (2 * f_laws_toIntS + 1) [(.tmp 5)])), (qS 7 (.fieldA 0 (.tmp 3))), ⟨.none, (.storeV [(1, false)] 1 (.tmp 7) (.tmp 6)), .none, [], .none⟩]) (.seq (.ops [(qS 8 (.load 1 true (.tmp 3))), ⟨.none, (.storeV [(1, false)] 1 (.tmp 2) (.tmp 8)), .none, [], .none⟩]) .ret)))), [(.cell 2 1 true)]⟩
def o_laws_toVector (b : TVec) (v : V) (h : Heap) : Prop := ∃ n0 : Nat, v = .agg [.hsl n0 b.counts.length 0 1 false b.counts.length] ∧ getCells h n0 b.counts.length = some (rows b.counts)
def oo_laws_toVector (b : TVec) (h : Heap) (v : V) (h2 : Heap) : Prop := Keep [] h h2 ∧ ∃ n0 : Nat, v = .agg [.hsl n0 b.counts.length 0 1 false b.counts.length] ∧ n0 < h2.length ∧ h.length ≤ n0 ∧ getCells h2 n0 b.counts.length = some (rows b.counts)
def k_laws_toVector (F : Fun) : Prop := ∀ (x0 : TVec) (b : TVec), p_laws_toVector x0 = some b → ∀ (h : Heap) (args : List V), snapA 9 false h args = some (encA (x0)) → ∃ p, F none args h = some p ∧ oo_laws_toVector b h p.1 p.2
set_option maxHeartbeats 10000000 in
theorem w_laws_toVector {P : Program} {env : Env} {f_laws_toIntS : Nat}  (e_laws_toIntS : k_laws_toIntS (env (2 * f_laws_toIntS + 1))) (x0 : TVec) {b : TVec} (hp : p_laws_toVector x0 = some b) : R P env (c_laws_toVector f_laws_toIntS) ((encA (x0)).map ofI) [] (o_laws_toVector b) := by
  refine R_of (by simp [c_laws_toVector, encA]) ?_
  unfold c_laws_toVector
  unfold p_laws_toVector at hp
  obtain ⟨v0, hv0, hp⟩ := bind_eq hp
  simp (maxSteps := 2000000) (disch := first|omega|(simp only[ls];first|done|omega)) only [gm]
  refine call_f (fun h => getCells h 0 1 = some [.i (.sl 1 (x0.counts.map enc))] ∧ 0 < h.length ∧ getCells h 1 0 = some [] ∧ 1 < h.length ∧ getCells h 2 1 = some [.hsl 1 0 0 1 false 0] ∧ 2 < h.length ∧ getCells h 3 0 = some [] ∧ 3 < h.length ∧ getCells h 4 1 = some [.hsl 3 0 0 1 false 0] ∧ 4 < h.length) (fun h v h2 => oo_laws_toIntS v0 h v h2) ?_ ?_ ?_
  · simp (maxSteps := 2000000) (disch := first|omega|(simp only[ls];first|done|omega)) only [hv0, gm] <;> omega
  · rintro h ⟨c0_0, c0_1, c0_2, c0_3, c0_4, c0_5, c0_6, c0_7, c0_8, c0_9⟩
    exact e_laws_toIntS _ _ hv0 h _ (by simp (maxSteps := 2000000) (disch := first|omega|(simp only[ls];first|done|omega)) only [hv0, c0_0, c0_1, c0_2, c0_3, c0_4, c0_5, c0_6, c0_7, c0_8, c0_9, gm])
  · rintro hc0 v hh0 ⟨c0_0, c0_1, c0_2, c0_3, c0_4, c0_5, c0_6, c0_7, c0_8, c0_9⟩ hpost
    obtain ⟨kk0, nb0_0, rfl, lnb0_0, gnb0_0, wnb0_0⟩ := hpost
    have d0_0 : getCells hh0 0 1 = some [.i (.sl 1 (x0.counts.map enc))] := (keep_get kk0 c0_1 (by first | (simp; done) | (simp; omega))).trans c0_0
    have d0_0l := keep_lt kk0 c0_1
    have d0_1 : getCells hh0 1 0 = some [] := (keep_get kk0 c0_3 (by first | (simp; done) | (simp; omega))).trans c0_2
    have d0_1l := keep_lt kk0 c0_3
    have d0_2 : getCells hh0 2 1 = some [.hsl 1 0 0 1 false 0] := (keep_get kk0 c0_5 (by first | (simp; done) | (simp; omega))).trans c0_4
    have d0_2l := keep_lt kk0 c0_5
    have d0_3 : getCells hh0 3 0 = some [] := (keep_get kk0 c0_7 (by first | (simp; done) | (simp; omega))).trans c0_6
    have d0_3l := keep_lt kk0 c0_7
    have d0_4 : getCells hh0 4 1 = some [.hsl 3 0 0 1 false 0] := (keep_get kk0 c0_9 (by first | (simp; done) | (simp; omega))).trans c0_8
    have d0_4l := keep_lt kk0 c0_9
    have d0_5 := wnb0_0
    have hp := Option.some.inj hp
    subst hp
    simp (maxSteps := 2000000) (disch := first|omega|(simp only[ls];first|done|omega)) only [hv0, d0_0, d0_1, d0_2, d0_3, d0_4, d0_5, gm]
    refine ⟨nb0_0, ?_⟩
    simp (maxSteps := 2000000) (disch := first|omega|(simp only[ls];first|done|omega)) only [hv0, d0_0, d0_1, d0_2, d0_3, d0_4, d0_5, o_laws_toVector, gm] <;> omega
theorem ko_laws_toVector {P : Program} {env : Env} {f_laws_toIntS : Nat}  (e_laws_toIntS : k_laws_toIntS (env (2 * f_laws_toIntS + 1))) : k_laws_toVector (ownFn P env (c_laws_toVector f_laws_toIntS)) := by
  intro x0 b hp h args has
  obtain ⟨⟨v, H2⟩, hr, n0, rfl, wn0⟩ := w_laws_toVector e_laws_toIntS x0 hp
  exact ⟨_, own_call has hr rfl, keep_moved, n0 + h.length, rfl, (moved_lt wn0).2, (moved_lt wn0).1, moved_rows wn0⟩

noncomputable def p_laws_toCounter (x0 : TCounter) : Option TCounter :=
  (p_laws_toVector x0.plus).bind fun v0 =>
  (p_laws_toVector x0.minus).bind fun v1 =>
  some (TCounter.mk v0 v1)
def c_laws_toCounter (f_laws_toVector : Nat) : AFn := ⟨13, (.seq (.ops [(qS 1 (.box (.tmp 0))), (qS 2 (.allocV [(1, false), (1, false)] [(.slice .none 0 0), (.slice .none 0 0)]))]) (.seq (.ops [(qS 3 (.allocV [(1, false), (1, false)] [(.slice .none 0 0), (.slice .none 0 0)]))]) (.seq (.ops [(qS 4 (.fieldA 0 (.tmp 1))), (qS 5 (.load 1 true (.tmp 4))), (qS 6 (.call (2 * f_laws_toVector + 1) [(.tmp 5)])), (qS 7 (.fieldA 0 (.tmp 3))), ⟨.none, (.storeV [(1, false)] 1 (.tmp 7) (.tmp 6)), .none, [], .none⟩]) (.seq (.ops [(qS 8 (.fieldA 1 (.tmp 1))), (qS 9 (.load 1 true (.tmp 8))), (qS 10 (.call (2 * f_laws_toVector + 1) [(.tmp 9)])), (qS 11 (.fieldA 1 (.tmp 3))), ⟨.none, (.storeV [(1, false)] 1 (.tmp 11) (.tmp 10)), .none, [], .none⟩]) (.seq (.ops [(qS 12 (.load 2 true (.tmp 3))), ⟨.none, (.storeV [(1, false), (1, false)] 2 (.tmp 2) (.tmp 12)), .none, [], .none⟩]) .ret))))), [(.cell 2 2 true)]⟩
set_option maxHeartbeats 10000000 in
theorem d_laws_toCounter {P : Program} {env : Env} {f_laws_toVector : Nat}  (e_laws_toVector : k_laws_toVector (env (2 * f_laws_toVector + 1))) (x0 : TCounter) {b : TCounter} (hp : p_laws_toCounter x0 = some b) : R P env (c_laws_toCounter f_laws_toVector) ((encA (x0)).map ofI) [] (Tells true b) := by
  refine R_of (by simp [c_laws_toCounter, encA]) ?_
  unfold c_laws_toCounter
  unfold p_laws_toCounter at hp
  obtain ⟨v0, hv0, hp⟩ := bind_eq hp
  simp (maxSteps := 2000000) (disch := first|omega|(simp only[ls];first|done|omega)) only [gm]
  refine call_f (fun h => getCells h 0 2 = some [.i (.sl 1 (x0.plus.counts.map enc)), .i (.sl 1 (x0.minus.counts.map enc))] ∧ 0 < h.length ∧ getCells h 1 0 = some [] ∧ 1 < h.length ∧ getCells h 2 0 = some [] ∧ 2 < h.length ∧ getCells h 3 2 = some [.hsl 1 0 0 1 false 0, .hsl 2 0 0 1 false 0] ∧ 3 < h.length ∧ getCells h 4 0 = some [] ∧ 4 < h.length ∧ getCells h 5 0 = some [] ∧ 5 < h.length ∧ getCells h 6 2 = some [.hsl 4 0 0 1 false 0, .hsl 5 0 0 1 false 0] ∧ 6 < h.length) (fun h v h2 => oo_laws_toVector v0 h v h2) ?_ ?_ ?_
  · simp (maxSteps := 2000000) (disch := first|omega|(simp only[ls];first|done|omega)) only [hv0, gm] <;> omega
  · rintro h ⟨c0_0, c0_1, c0_2, c0_3, c0_4, c0_5, c0_6, c0_7, c0_8, c0_9, c0_10, c0_11, c0_12, c0_13⟩
    exact e_laws_toVector _ _ hv0 h _ (by simp (maxSteps := 2000000) (disch := first|omega|(simp only[ls];first|done|omega)) only [hv0, c0_0, c0_1, c0_2, c0_3, c0_4, c0_5, c0_6, c0_7, c0_8, c0_9, c0_10, c0_11, c0_12, c0_13, gm])
  · rintro hc0 v hh0 ⟨c0_0, c0_1, c0_2, c0_3, c0_4, c0_5, c0_6, c0_7, c0_8, c0_9, c0_10, c0_11, c0_12, c0_13⟩ hpost
    obtain ⟨kk0, nb0_0, rfl, lnb0_0, gnb0_0, wnb0_0⟩ := hpost
    have d0_0 : getCells hh0 0 2 = some [.i (.sl 1 (x0.plus.counts.map enc)), .i (.sl 1 (x0.minus.counts.map enc))] := (keep_get kk0 c0_1 (by first | (simp; done) | (simp; omega))).trans c0_0
    have d0_0l := keep_lt kk0 c0_1
    have d0_1 : getCells hh0 1 0 = some [] := (keep_get kk0 c0_3 (by first | (simp; done) | (simp; omega))).trans c0_2
    have d0_1l := keep_lt kk0 c0_3
    have d0_2 : getCells hh0 2 0 = some [] := (keep_get kk0 c0_5 (by first | (simp; done) | (simp; omega))).trans c0_4
    have d0_2l := keep_lt kk0 c0_5
    have d0_3 : getCells hh0 3 2 = some [.hsl 1 0 0 1 false 0, .hsl 2 0 0 1 false 0] := (keep_get kk0 c0_7 (by first | (simp; done) | (simp; omega))).trans c0_6
    have d0_3l := keep_lt kk0 c0_7
    have d0_4 : getCells hh0 4 0 = some [] := (keep_get kk0 c0_9 (by first | (simp; done) | (simp; omega))).trans c0_8
    have d0_4l := keep_lt kk0 c0_9
    have d0_5 : getCells hh0 5 0 = some [] := (keep_get kk0 c0_11 (by first | (simp; done) | (simp; omega))).trans c0_10
    have d0_5l := keep_lt kk0 c0_11
    have d0_6 : getCells hh0 6 2 = some [.hsl 4 0 0 1 false 0, .hsl 5 0 0 1 false 0] := (keep_get kk0 c0_13 (by first | (simp; done) | (simp; omega))).trans c0_12
    have d0_6l := keep_lt kk0 c0_13
    have d0_7 := wnb0_0
    obtain ⟨v1, hv1, hp⟩ := bind_eq hp
    simp (maxSteps := 2000000) (disch := first|omega|(simp only[ls];first|done|omega)) only [hv0, d0_0, d0_1, d0_2, d0_3, d0_4, d0_5, d0_6, d0_7, gm]
    refine call_f (fun h => getCells h 0 2 = some [.i (.sl 1 (x0.plus.counts.map enc)), .i (.sl 1 (x0.minus.counts.map enc))] ∧ 0 < h.length ∧ getCells h 1 0 = some [] ∧ 1 < h.length ∧ getCells h 2 0 = some [] ∧ 2 < h.length ∧ getCells h 3 2 = some [.hsl 1 0 0 1 false 0, .hsl 2 0 0 1 false 0] ∧ 3 < h.length ∧ getCells h 4 0 = some [] ∧ 4 < h.length ∧ getCells h 5 0 = some [] ∧ 5 < h.length ∧ getCells h 6 2 = some [.hsl nb0_0 v0.counts.length 0 1 false v0.counts.length, .hsl 5 0 0 1 false 0] ∧ 6 < h.length ∧ getCells h nb0_0 v0.counts.length = some (rows (v0.counts : List Int)) ∧ nb0_0 < h.length) (fun h v h2 => oo_laws_toVector v1 h v h2) ?_ ?_ ?_
    · simp (maxSteps := 2000000) (disch := first|omega|(simp only[ls];first|done|omega)) only [hv0, d0_0, d0_1, d0_2, d0_3, d0_4, d0_5, d0_6, d0_7, hv1, gm] <;> omega
    · rintro h ⟨c1_0, c1_1, c1_2, c1_3, c1_4, c1_5, c1_6, c1_7, c1_8, c1_9, c1_10, c1_11, c1_12, c1_13, c1_14, c1_15⟩
      exact e_laws_toVector _ _ hv1 h _ (by simp (maxSteps := 2000000) (disch := first|omega|(simp only[ls];first|done|omega)) only [hv0, d0_0, d0_1, d0_2, d0_3, d0_4, d0_5, d0_6, d0_7, hv1, c1_0, c1_1, c1_2, c1_3, c1_4, c1_5, c1_6, c1_7, c1_8, c1_9, c1_10, c1_11, c1_12, c1_13, c1_14, c1_15, gm])
    · rintro hc1 v hh1 ⟨c1_0, c1_1, c1_2, c1_3, c1_4, c1_5, c1_6, c1_7, c1_8, c1_9, c1_10, c1_11, c1_12, c1_13, c1_14, c1_15⟩ hpost
      obtain ⟨kk1, nb1_0, rfl, lnb1_0, gnb1_0, wnb1_0⟩ := hpost
      have d1_0 : getCells hh1 0 2 = some [.i (.sl 1 (x0.plus.counts.map enc)), .i (.sl 1 (x0.minus.counts.map enc))] := (keep_get kk1 c1_1 (by first | (simp; done) | (simp; omega))).trans c1_0
      have d1_0l := keep_lt kk1 c1_1
      have d1_1 : getCells hh1 1 0 = some [] := (keep_get kk1 c1_3 (by first | (simp; done) | (simp; omega))).trans c1_2
      have d1_1l := keep_lt kk1 c1_3
      have d1_2 : getCells hh1 2 0 = some [] := (keep_get kk1 c1_5 (by first | (simp; done) | (simp; omega))).trans c1_4
      have d1_2l := keep_lt kk1 c1_5
      have d1_3 : getCells hh1 3 2 = some [.hsl 1 0 0 1 false 0, .hsl 2 0 0 1 false 0] := (keep_get kk1 c1_7 (by first | (simp; done) | (simp; omega))).trans c1_6
      have d1_3l := keep_lt kk1 c1_7
      have d1_4 : getCells hh1 4 0 = some [] := (keep_get kk1 c1_9 (by first | (simp; done) | (simp; omega))).trans c1_8
      have d1_4l := keep_lt kk1 c1_9
      have d1_5 : getCells hh1 5 0 = some [] := (keep_get kk1 c1_11 (by first | (simp; done) | (simp; omega))).trans c1_10
      have d1_5l := keep_lt kk1 c1_11
      have d1_6 : getCells hh1 6 2 = some [.hsl nb0_0 v0.counts.length 0 1 false v0.counts.length, .hsl 5 0 0 1 false 0] := (keep_get kk1 c1_13 (by first | (simp; done) | (simp; omega))).trans c1_12
      have d1_6l := keep_lt kk1 c1_13
      have d1_7 : getCells hh1 nb0_0 v0.counts.length = some (rows (v0.counts : List Int)) := (keep_get kk1 c1_15 (by first | (simp; done) | (simp; omega))).trans c1_14
      have d1_7l := keep_lt kk1 c1_15
      have d1_8 := wnb1_0
      have hp := Option.some.inj hp
      subst hp
      simp (maxSteps := 2000000) (disch := first|omega|(simp only[ls];first|done|omega)) only [hv0, d0_0, d0_1, d0_2, d0_3, d0_4, d0_5, d0_6, d0_7, hv1, d1_0, d1_1, d1_2, d1_3, d1_4, d1_5, d1_6, d1_7, d1_8, gm]

def o_laws_toCounter (b : TCounter) (v : V) (h : Heap) : Prop := ∃ n0 : Nat, ∃ n1 : Nat, v = .agg [.hsl n0 b.plus.counts.length 0 1 false b.plus.counts.length, .hsl n1 b.minus.counts.length 0 1 false b.minus.counts.length] ∧ getCells h n0 b.plus.counts.length = some (rows b.plus.counts) ∧ getCells h n1 b.minus.counts.length = some (rows b.minus.counts) ∧ n1 ≠ n0
def oo_laws_toCounter (b : TCounter) (h : Heap) (v : V) (h2 : Heap) : Prop := Keep [] h h2 ∧ ∃ n0 : Nat, ∃ n1 : Nat, v = .agg [.hsl n0 b.plus.counts.length 0 1 false b.plus.counts.length, .hsl n1 b.minus.counts.length 0 1 false b.minus.counts.length] ∧ n0 < h2.length ∧ h.length ≤ n0 ∧ getCells h2 n0 b.plus.counts.length = some (rows b.plus.counts) ∧ n1 < h2.length ∧ h.length ≤ n1 ∧ getCells h2 n1 b.minus.counts.length = some (rows b.minus.counts) ∧ n1 ≠ n0
def k_laws_toCounter (F : Fun) : Prop := ∀ (x0 : TCounter) (b : TCounter), p_laws_toCounter x0 = some b → ∀ (h : Heap) (args : List V), snapA 9 false h args = some (encA (x0)) → ∃ p, F none args h = some p ∧ oo_laws_toCounter b h p.1 p.2
set_option maxHeartbeats 10000000 in
theorem w_laws_toCounter {P : Program} {env : Env} {f_laws_toVector : Nat}  (e_laws_toVector : k_laws_toVector (env (2 * f_laws_toVector + 1))) (x0 : TCounter) {b : TCounter} (hp : p_laws_toCounter x0 = some b) : R P env (c_laws_toCounter f_laws_toVector) ((encA (x0)).map ofI) [] (o_laws_toCounter b) := by
  refine R_of (by simp [c_laws_toCounter, encA]) ?_
  unfold c_laws_toCounter
  unfold p_laws_toCounter at hp
  obtain ⟨v0, hv0, hp⟩ := bind_eq hp
  simp (maxSteps := 2000000) (disch := first|omega|(simp only[ls];first|done|omega)) only [gm]
  refine call_f (fun h => getCells h 0 2 = some [.i (.sl 1 (x0.plus.counts.map enc)), .i (.sl 1 (x0.minus.counts.map enc))] ∧ 0 < h.length ∧ getCells h 1 0 = some [] ∧ 1 < h.length ∧ getCells h 2 0 = some [] ∧ 2 < h.length ∧ getCells h 3 2 = some [.hsl 1 0 0 1 false 0, .hsl 2 0 0 1 false 0] ∧ 3 < h.length ∧ getCells h 4 0 = some [] ∧ 4 < h.length ∧ getCells h 5 0 = some [] ∧ 5 < h.length ∧ getCells h 6 2 = some [.hsl 4 0 0 1 false 0, .hsl 5 0 0 1 false 0] ∧ 6 < h.length) (fun h v h2 => oo_laws_toVector v0 h v h2) ?_ ?_ ?_
  · simp (maxSteps := 2000000) (disch := first|omega|(simp only[ls];first|done|omega)) only [hv0, gm] <;> omega
  · rintro h ⟨c0_0, c0_1, c0_2, c0_3, c0_4, c0_5, c0_6, c0_7, c0_8, c0_9, c0_10, c0_11, c0_12, c0_13⟩
    exact e_laws_toVector _ _ hv0 h _ (by simp (maxSteps := 2000000) (disch := first|omega|(simp only[ls];first|done|omega)) only [hv0, c0_0, c0_1, c0_2, c0_3, c0_4, c0_5, c0_6, c0_7, c0_8, c0_9, c0_10, c0_11, c0_12, c0_13, gm])
  · rintro hc0 v hh0 ⟨c0_0, c0_1, c0_2, c0_3, c0_4, c0_5, c0_6, c0_7, c0_8, c0_9, c0_10, c0_11, c0_12, c0_13⟩ hpost
    obtain ⟨kk0, nb0_0, rfl, lnb0_0, gnb0_0, wnb0_0⟩ := hpost
    have d0_0 : getCells hh0 0 2 = some [.i (.sl 1 (x0.plus.counts.map enc)), .i (.sl 1 (x0.minus.counts.map enc))] := (keep_get kk0 c0_1 (by first | (simp; done) | (simp; omega))).trans c0_0
    have d0_0l := keep_lt kk0 c0_1
    have d0_1 : getCells hh0 1 0 = some [] := (keep_get kk0 c0_3 (by first | (simp; done) | (simp; omega))).trans c0_2
    have d0_1l := keep_lt kk0 c0_3
    have d0_2 : getCells hh0 2 0 = some [] := (keep_get kk0 c0_5 (by first | (simp; done) | (simp; omega))).trans c0_4
    have d0_2l := keep_lt kk0 c0_5
    have d0_3 : getCells hh0 3 2 = some [.hsl 1 0 0 1 false 0, .hsl 2 0 0 1 false 0] := (keep_get kk0 c0_7 (by first | (simp; done) | (simp; omega))).trans c0_6
    have d0_3l := keep_lt kk0 c0_7
    have d0_4 : getCells hh0 4 0 = some [] := (keep_get kk0 c0_9 (by first | (simp; done) | (simp; omega))).trans c0_8
    have d0_4l := keep_lt kk0 c0_9
    have d0_5 : getCells hh0 5 0 = some [] := (keep_get kk0 c0_11 (by first | (simp; done) | (simp; omega))).trans c0_10
    have d0_5l := keep_lt kk0 c0_11
    have d0_6 : getCells hh0 6 2 = some [.hsl 4 0 0 1 false 0, .hsl 5 0 0 1 false 0] := (keep_get kk0 c0_13 (by first | (simp; done) | (simp; omega))).trans c0_12
    have d0_6l := keep_lt kk0 c0_13
    have d0_7 := wnb0_0
    obtain ⟨v1, hv1, hp⟩ := bind_eq hp
    simp (maxSteps := 2000000) (disch := first|omega|(simp only[ls];first|done|omega)) only [hv0, d0_0, d0_1, d0_2, d0_3, d0_4, d0_5, d0_6, d0_7, gm]
    refine call_f (fun h => getCells h 0 2 = some [.i (.sl 1 (x0.plus.counts.map enc)), .i (.sl 1 (x0.minus.counts.map enc))] ∧ 0 < h.length ∧ getCells h 1 0 = some [] ∧ 1 < h.length ∧ getCells h 2 0 = some [] ∧ 2 < h.length ∧ getCells h 3 2 = some [.hsl 1 0 0 1 false 0, .hsl 2 0 0 1 false 0] ∧ 3 < h.length ∧ getCells h 4 0 = some [] ∧ 4 < h.length ∧ getCells h 5 0 = some [] ∧ 5 < h.length ∧ getCells h 6 2 = some [.hsl nb0_0 v0.counts.length 0 1 false v0.counts.length, .hsl 5 0 0 1 false 0] ∧ 6 < h.length ∧ getCells h nb0_0 v0.counts.length = some (rows (v0.counts : List Int)) ∧ nb0_0 < h.length) (fun h v h2 => oo_laws_toVector v1 h v h2) ?_ ?_ ?_
    · simp (maxSteps := 2000000) (disch := first|omega|(simp only[ls];first|done|omega)) only [hv0, d0_0, d0_1, d0_2, d0_3, d0_4, d0_5, d0_6, d0_7, hv1, gm] <;> omega
    · rintro h ⟨c1_0, c1_1, c1_2, c1_3, c1_4, c1_5, c1_6, c1_7, c1_8, c1_9, c1_10, c1_11, c1_12, c1_13, c1_14, c1_15⟩
      exact e_laws_toVector _ _ hv1 h _ (by simp (maxSteps := 2000000) (disch := first|omega|(simp only[ls];first|done|omega)) only [hv0, d0_0, d0_1, d0_2, d0_3, d0_4, d0_5, d0_6, d0_7, hv1, c1_0, c1_1, c1_2, c1_3, c1_4, c1_5, c1_6, c1_7, c1_8, c1_9, c1_10, c1_11, c1_12, c1_13, c1_14, c1_15, gm])
    · rintro hc1 v hh1 ⟨c1_0, c1_1, c1_2, c1_3, c1_4, c1_5, c1_6, c1_7, c1_8, c1_9, c1_10, c1_11, c1_12, c1_13, c1_14, c1_15⟩ hpost
      obtain ⟨kk1, nb1_0, rfl, lnb1_0, gnb1_0, wnb1_0⟩ := hpost
      have d1_0 : getCells hh1 0 2 = some [.i (.sl 1 (x0.plus.counts.map enc)), .i (.sl 1 (x0.minus.counts.map enc))] := (keep_get kk1 c1_1 (by first | (simp; done) | (simp; omega))).trans c1_0
      have d1_0l := keep_lt kk1 c1_1
      have d1_1 : getCells hh1 1 0 = some [] := (keep_get kk1 c1_3 (by first | (simp; done) | (simp; omega))).trans c1_2
      have d1_1l := keep_lt kk1 c1_3
      have d1_2 : getCells hh1 2 0 = some [] := (keep_get kk1 c1_5 (by first | (simp; done) | (simp; omega))).trans c1_4
      have d1_2l := keep_lt kk1 c1_5
      have d1_3 : getCells hh1 3 2 = some [.hsl 1 0 0 1 false 0, .hsl 2 0 0 1 false 0] := (keep_get kk1 c1_7 (by first | (simp; done) | (simp; omega))).trans c1_6
      have d1_3l := keep_lt kk1 c1_7
      have d1_4 : getCells hh1 4 0 = some [] := (keep_get kk1 c1_9 (by first | (simp; done) | (simp; omega))).trans c1_8
      have d1_4l := keep_lt kk1 c1_9
      have d1_5 : getCells hh1 5 0 = some [] := (keep_get kk1 c1_11 (by first | (simp; done) | (simp; omega))).trans c1_10
      have d1_5l := keep_lt kk1 c1_11
      have d1_6 : getCells hh1 6 2 = some [.hsl nb0_0 v0.counts.length 0 1 false v0.counts.length, .hsl 5 0 0 1 false 0] := (keep_get kk1 c1_13 (by first | (simp; done) | (simp; omega))).trans c1_12
      have d1_6l := keep_lt kk1 c1_13
      have d1_7 : getCells hh1 nb0_0 v0.counts.length = some (rows (v0.counts : List Int)) := (keep_get kk1 c1_15 (by first | (simp; done) | (simp; omega))).trans c1_14
      have d1_7l := keep_lt kk1 c1_15
      have d1_8 := wnb1_0
      have hp := Option.some.inj hp
      subst hp
      simp (maxSteps := 2000000) (disch := first|omega|(simp only[ls];first|done|omega)) only [hv0, d0_0, d0_1, d0_2, d0_3, d0_4, d0_5, d0_6, d0_7, hv1, d1_0, d1_1, d1_2, d1_3, d1_4, d1_5, d1_6, d1_7, d1_8, gm]
      refine ⟨nb0_0, nb1_0, ?_⟩
      simp (maxSteps := 2000000) (disch := first|omega|(simp only[ls];first|done|omega)) only [hv0, d0_0, d0_1, d0_2, d0_3, d0_4, d0_5, d0_6, d0_7, hv1, d1_0, d1_1, d1_2, d1_3, d1_4, d1_5, d1_6, d1_7, d1_8, o_laws_toCounter, gm] <;> omega
theorem ko_laws_toCounter {P : Program} {env : Env} {f_laws_toVector : Nat}  (e_laws_toVector : k_laws_toVector (env (2 * f_laws_toVector + 1))) : k_laws_toCounter (ownFn P env (c_laws_toCounter f_laws_toVector)) := by
  intro x0 b hp h args has
  obtain ⟨⟨v, H2⟩, hr, n0, n1, rfl, wn0, wn1, ne1_0⟩ := w_laws_toCounter e_laws_toVector x0 hp
  exact ⟨_, own_call has hr rfl, keep_moved, n0 + h.length, n1 + h.length, rfl, (moved_lt wn0).2, (moved_lt wn0).1, moved_rows wn0, (moved_lt wn1).2, (moved_lt wn1).1, moved_rows wn1, by omega⟩

noncomputable def p_spec_VecOK_l0 (x0 : TVec) : Int → Option (Lp (Int) Bool)
  | s1 =>
    if (decide (s1 < 16)) = true then
      (get? x0.counts s1).bind fun v3 =>
      if (decide (v3 < 0)) = true then
        some (.ret false)
      else
        if (decide (1000000000000 < v3)) = true then
          some (.ret false)
        else
          some (.go (w64 (s1 + 1)))
    else
      some (.out s1)
noncomputable def p_spec_VecOK (x0 : TVec) : Option Bool :=
  if (decide ((x0.counts.length : Int) = 16)) = true then
    (loopP (p_spec_VecOK_l0 x0) 0).bind fun ee0 => match ee0 with
    | .ret r => some r
    | .out o6 =>
      some true
  else
    some false
def c_spec_VecOK : AFn := ⟨26, (.seq (.ops [(qS 1 (.box (.tmp 0))), (qS 2 (.mv (.const (.bool false))))]) (.seq (.seq (.ops [(qS 4 (.fieldA 0 (.tmp 1))), (qS 5 (.load 1 false (.tmp 4))), (qS 6 (.len (.tmp 5))), (qS 7 (.pu (.n (.ar .neq)) [(.tmp 6), (ic 16)]))]) (.cond (.tmp 7) (.seq (.ops [(qS 2 (.mv (.const (.bool false))))]) .ret) .skip)) (.seq (.seq (.ops [(qS 3 (.mv (ic 0)))]) (.block 0 (.loop (.seq (.seq (.ops [(qS 8 (.mv (.tmp 3))), (qS 9 (.pu (.n (.ar .lss)) [(.tmp 8), (ic 16)]))]) (.cond (.tmp 9) .skip (.exit 0))) (.seq (.block 1 (.seq (.ops [(qS 12 (.fieldA 0 (.tmp 1))), (qS 13 (.load 1 false (.tmp 12))), (qS 14 (.mv (.tmp 3))), (qS 15 (.idxS 1 (.tmp 13) (.tmp 14))), (qS 16 (.load 1 false (.tmp 15))), (qS 17 (.pu (.n (.ar .lss)) [(.tmp 16), (ic 0)])), (qS 18 (.mv (.tmp 17))), ⟨(.some 19), (.fieldA 0 (.tmp 1)), (.some (18, false)), [], .none⟩, ⟨(.some 20), (.load 1 false (.tmp 19)), (.some (18, false)), [], .none⟩, ⟨(.some 21), (.mv (.tmp 3)), (.some (18, false)), [], .none⟩, ⟨(.some 22), (.idxS 1 (.tmp 20) (.tmp 21)), (.some (18, false)), [], .none⟩, ⟨(.some 23), (.load 1 false (.tmp 22)), (.some (18, false)), [], .none⟩, ⟨(.some 24), (.pu (.n (.ar .gtr)) [(.tmp 23), (ic 1000000000000)]), (.some (18, false)), [], .none⟩, (qS 25 (.pick (.tmp 18) (.const (.bool true)) (.tmp 24)))]) (.cond (.tmp 25) (.seq (.ops [(qS 2 (.mv (.const (.bool false))))]) .ret) .skip))) (.ops [(qS 10 (.mv (.tmp 3))), (qS 11 (.pu (.n (.ar .add)) [(.tmp 10), (ic 1)])), (qS 3 (.mv (.tmp 11)))])))))) (.seq (.ops [(qS 2 (.mv (.const (.bool true))))]) .ret)))), [(.tmp 2)]⟩
set_option maxHeartbeats 10000000 in
theorem d_spec_VecOK {P : Program} {env : Env}  (x0 : TVec) {b : Bool} (hp : p_spec_VecOK x0 = some b) : R P env (c_spec_VecOK) ((encA (x0)).map ofI) [] (Tells true b) := by
  refine R_of (by simp [c_spec_VecOK, encA]) ?_
  unfold c_spec_VecOK
  unfold p_spec_VecOK at hp
  by_cases hb0 : (decide ((x0.counts.length : Int) = 16)) = true
  · rw [if_t hb0] at hp
    obtain ⟨ee0, hee0, hp⟩ := bind_eq hp
    simp (maxSteps := 2000000) (disch := first|omega|(simp only[ls];first|done|omega)) only [hb0, gm]
    refine W_loopP 0 (fun s t h => match s with | s1 => t 1 = .ptr 0 1 0 ∧ t 3 = .i (.s (.int .i64 s1)) ∧ getCells h 0 1 = some [.i (.sl 1 (x0.counts.map enc))] ∧ 0 < h.length) (RK [.tmp 2] (Tells true)) ?_ hee0 ?_ ?_
    · rintro s1 ee tt0 hh0 ⟨ftt0_0, ftt0_1, ftt0_2, ftt0_3⟩ hp
      rw [p_spec_VecOK_l0] at hp
      by_cases hb2 : (decide (s1 < 16)) = true
      · rw [if_t hb2] at hp
        obtain ⟨v3, hv3, hp⟩ := bind_eq hp
        by_cases hb4 : (decide (v3 < 0)) = true
        · rw [if_t hb4] at hp
          have hp := Option.some.inj hp
          subst hp
          simp (maxSteps := 2000000) (disch := first|omega|(simp only[ls];first|done|omega)) only [hb0, ftt0_0, ftt0_1, ftt0_2, ftt0_3, hb2, hv3, hb4, gm]
        · replace hb4 := eq_false_of_ne_true hb4
          rw [if_f hb4] at hp
          by_cases hb5 : (decide (1000000000000 < v3)) = true
          · rw [if_t hb5] at hp
            have hp := Option.some.inj hp
            subst hp
            simp (maxSteps := 2000000) (disch := first|omega|(simp only[ls];first|done|omega)) only [hb0, ftt0_0, ftt0_1, ftt0_2, ftt0_3, hb2, hv3, hb4, hb5, gm]
          · replace hb5 := eq_false_of_ne_true hb5
            rw [if_f hb5] at hp
            have hp := Option.some.inj hp
            subst hp
            simp (maxSteps := 2000000) (disch := first|omega|(simp only[ls];first|done|omega)) only [hb0, ftt0_0, ftt0_1, ftt0_2, ftt0_3, hb2, hv3, hb4, hb5, gm] <;> omega
      · replace hb2 := eq_false_of_ne_true hb2
        rw [if_f hb2] at hp
        have hp := Option.some.inj hp
        subst hp
        simp (maxSteps := 2000000) (disch := first|omega|(simp only[ls];first|done|omega)) only [hb0, ftt0_0, ftt0_1, ftt0_2, ftt0_3, hb2, gm] <;> omega
    · simp (maxSteps := 2000000) (disch := first|omega|(simp only[ls];first|done|omega)) only [hb0, gm] <;> omega
    · intro x tt1 hh1 hx
      rcases ee0 with o6 | r
      · obtain ⟨rfl, ftt1_0, ftt1_1, ftt1_2, ftt1_3⟩ := hx
        dsimp only at hp
        have hp := Option.some.inj hp
        subst hp
        simp (maxSteps := 2000000) (disch := first|omega|(simp only[ls];first|done|omega)) only [hb0, ftt1_0, ftt1_1, ftt1_2, ftt1_3, gm]
      · obtain ⟨rfl, hx⟩ := hx
        dsimp only at hp
        cases hp
        simp only [seqK_ret, blockK_ret, retK_RK (K := Tells true), hx, and_self, true_and]
  · replace hb0 := eq_false_of_ne_true hb0
    rw [if_f hb0] at hp
    have hp := Option.some.inj hp
    subst hp
    simp (maxSteps := 2000000) (disch := first|omega|(simp only[ls];first|done|omega)) only [hb0, gm]

noncomputable def p_spec_l03CounterOK (x0 : TCounter) : Option Bool :=
  (p_spec_VecOK x0.plus).bind fun v0 =>
  if (v0) = true then
    (p_spec_VecOK x0.minus).bind fun v2 =>
    some v2
  else
    some false
def c_spec_l03CounterOK (f_spec_VecOK : Nat) : AFn := ⟨11, (.seq (.ops [(qS 1 (.box (.tmp 0))), (qS 2 (.mv (.const (.bool false))))]) (.seq (.ops [(qS 3 (.fieldA 0 (.tmp 1))), (qS 4 (.load 1 true (.tmp 3))), (qS 5 (.call (2 * f_spec_VecOK) [(.tmp 4)])), (qS 6 (.mv (.tmp 5))), ⟨(.some 7), (.fieldA 1 (.tmp 1)), (.some (6, true)), [], .none⟩, ⟨(.some 8), (.load 1 true (.tmp 7)), (.some (6, true)), [], .none⟩, ⟨(.some 9), (.call (2 * f_spec_VecOK) [(.tmp 8)]), (.some (6, true)), [], .none⟩, (qS 10 (.pick (.tmp 6) (.tmp 9) (.const (.bool false)))), (qS 2 (.mv (.tmp 10)))]) .ret)), [(.tmp 2)]⟩
set_option maxHeartbeats 10000000 in
theorem d_spec_l03CounterOK {P : Program} {env : Env} {f_spec_VecOK : Nat}  (ep_spec_VecOK : env (2 * f_spec_VecOK) = pureFn true (FA fun a : TVec => p_spec_VecOK a)) (x0 : TCounter) {b : Bool} (hp : p_spec_l03CounterOK x0 = some b) : R P env (c_spec_l03CounterOK f_spec_VecOK) ((encA (x0)).map ofI) [] (Tells true b) := by
  refine R_of (by simp [c_spec_l03CounterOK, encA]) ?_
  have E := ep_spec_VecOK
  unfold c_spec_l03CounterOK
  unfold p_spec_l03CounterOK at hp
  obtain ⟨v0, hv0, hp⟩ := bind_eq hp
  by_cases hb1 : (v0) = true
  · rw [if_t hb1] at hp
    obtain ⟨v2, hv2, hp⟩ := bind_eq hp
    have hp := Option.some.inj hp
    subst hp
    simp (maxSteps := 2000000) (disch := first|omega|(simp only[ls];first|done|omega)) only [E, hv0, hb1, hv2, gm]
  · replace hb1 := eq_false_of_ne_true hb1
    rw [if_f hb1] at hp
    have hp := Option.some.inj hp
    subst hp
    simp (maxSteps := 2000000) (disch := first|omega|(simp only[ls];first|done|omega)) only [E, hv0, hb1, gm]

noncomputable def p_spec_l02Copy (x0 : TVec) : Option TVec :=
  (app? 8 ([] : List Int) x0.counts).bind fun v0 =>
  some (TVec.mk v0)
def c_spec_l02Copy : AFn := ⟨8, (.seq (.ops [(qS 1 (.box (.tmp 0))), (qS 2 (.allocV [(1, false)] [(.slice .none 0 0)]))]) (.seq (.ops [(qS 3 (.buildSl 1 false 0 [(.int .i64 0)] [])), (qS 4 (.fieldA 0 (.tmp 1))), (qS 5 (.load 1 false (.tmp 4))), (qS 6 (.append 1 false 8 (.tmp 3) (.tmp 5))), (qS 7 (.build [(.slice .none 0 0)] [(0, (1, (.tmp 6)))])), ⟨.none, (.storeV [(1, false)] 1 (.tmp 2) (.tmp 7)), .none, [], .none⟩]) .ret)), [(.cell 2 1 true)]⟩
def o_spec_l02Copy (b : TVec) (v : V) (h : Heap) : Prop := ∃ n0 : Nat, v = .agg [.hsl n0 b.counts.length 0 1 false b.counts.length] ∧ getCells h n0 b.counts.length = some (rows b.counts)
def oo_spec_l02Copy (b : TVec) (h : Heap) (v : V) (h2 : Heap) : Prop := Keep [] h h2 ∧ ∃ n0 : Nat, v = .agg [.hsl n0 b.counts.length 0 1 false b.counts.length] ∧ n0 < h2.length ∧ h.length ≤ n0 ∧ getCells h2 n0 b.counts.length = some (rows b.counts)
def k_spec_l02Copy (F : Fun) : Prop := ∀ (x0 : TVec) (b : TVec), p_spec_l02Copy x0 = some b → ∀ (h : Heap) (args : List V), snapA 9 false h args = some (encA (x0)) → ∃ p, F none args h = some p ∧ oo_spec_l02Copy b h p.1 p.2
set_option maxHeartbeats 10000000 in
theorem w_spec_l02Copy {P : Program} {env : Env}  (x0 : TVec) {b : TVec} (hp : p_spec_l02Copy x0 = some b) : R P env (c_spec_l02Copy) ((encA (x0)).map ofI) [] (o_spec_l02Copy b) := by
  refine R_of (by simp [c_spec_l02Copy, encA]) ?_
  unfold c_spec_l02Copy
  unfold p_spec_l02Copy at hp
  obtain ⟨v0, hv0, hp⟩ := bind_eq hp
  simp (maxSteps := 2000000) (disch := first|omega|(simp only[ls];first|done|omega)) only [gm]
  refine app_f (b := 3) (xs := ([] : List Int)) (ys := x0.counts) (fun h => getCells h 0 1 = some [.i (.sl 1 (x0.counts.map enc))] ∧ 0 < h.length ∧ getCells h 1 0 = some [] ∧ 1 < h.length ∧ getCells h 2 1 = some [.hsl 1 0 0 1 false 0] ∧ 2 < h.length ∧ getCells h 3 0 = some [] ∧ 3 < h.length) ?_ ?_ hv0 rfl (by first | rfl | omega | (simp; omega)) (by first | rfl | omega | (simp; omega)) (by first | rfl | omega | (simp; omega)) ?_
  · simp (maxSteps := 2000000) (disch := first|omega|(simp only[ls];first|done|omega)) only [hv0, gm] <;> omega
  · rintro h ⟨c0_0, c0_1, c0_2, c0_3, c0_4, c0_5, c0_6, c0_7⟩
    exact gc_eq c0_6 (by omega)
  · rintro h hh0 ⟨c0_0, c0_1, c0_2, c0_3, c0_4, c0_5, c0_6, c0_7⟩ kk0 w0
    have d0_0 : getCells hh0 0 1 = some [.i (.sl 1 (x0.counts.map enc))] := (keep_get kk0 c0_1 (by first | (simp; done) | (simp; omega))).trans c0_0
    have d0_0l := keep_lt kk0 c0_1
    have d0_1 : getCells hh0 1 0 = some [] := (keep_get kk0 c0_3 (by first | (simp; done) | (simp; omega))).trans c0_2
    have d0_1l := keep_lt kk0 c0_3
    have d0_2 : getCells hh0 2 1 = some [.hsl 1 0 0 1 false 0] := (keep_get kk0 c0_5 (by first | (simp; done) | (simp; omega))).trans c0_4
    have d0_2l := keep_lt kk0 c0_5
    have d0_3 : getCells hh0 3 v0.length = some (rows (v0 : List Int)) := by simpa only [Nat.mul_one] using w0
    have d0_3l := keep_lt kk0 c0_7
    have hp := Option.some.inj hp
    subst hp
    simp (maxSteps := 2000000) (disch := first|omega|(simp only[ls];first|done|omega)) only [hv0, d0_0, d0_1, d0_2, d0_3, gm]
    refine ⟨3, ?_⟩
    simp (maxSteps := 2000000) (disch := first|omega|(simp only[ls];first|done|omega)) only [hv0, d0_0, d0_1, d0_2, d0_3, o_spec_l02Copy, gm] <;> omega
theorem ko_spec_l02Copy {P : Program} {env : Env}  : k_spec_l02Copy (ownFn P env (c_spec_l02Copy)) := by
  intro x0 b hp h args has
  obtain ⟨⟨v, H2⟩, hr, n0, rfl, wn0⟩ := w_spec_l02Copy x0 hp
  exact ⟨_, own_call has hr rfl, keep_moved, n0 + h.length, rfl, (moved_lt wn0).2, (moved_lt wn0).1, moved_rows wn0⟩

noncomputable def p_spec_CounterAdd (x0 : TCounter) (x1 : Int) (x2 : Int) : Option (T2 TCounter Int) :=
  (p_spec_l03CounterOK x0).bind fun v0 =>
  if (v0) = true then
    if (decide (x1 < 0)) = true then
      some ⟨(TCounter.mk (TVec.mk ([])) (TVec.mk ([]))), 4⟩
    else
      if (decide (16 ≤ x1)) = true then
        some ⟨(TCounter.mk (TVec.mk ([])) (TVec.mk ([]))), 4⟩
      else
        if (decide (x2 < (-1000000000000))) = true then
          some ⟨(TCounter.mk (TVec.mk ([])) (TVec.mk ([]))), 4⟩
        else
          if (decide (1000000000000 < x2)) = true then
            some ⟨(TCounter.mk (TVec.mk ([])) (TVec.mk ([]))), 4⟩
          else
            (p_spec_l02Copy x0.plus).bind fun v6 =>
            (p_spec_l02Copy x0.minus).bind fun v7 =>
            if (decide (0 ≤ x2)) = true then
              (get? v6.counts x1).bind fun v9 =>
              (p_spec_l03CounterOK (TCounter.mk (TVec.mk (v6.counts.set x1.toNat (w64 (v9 + x2)))) v7)).bind fun v12 =>
              if (v12) = true then
                some ⟨(TCounter.mk (TVec.mk (v6.counts.set x1.toNat (w64 (v9 + x2)))) v7), 0⟩
              else
                some ⟨(TCounter.mk (TVec.mk ([])) (TVec.mk ([]))), 11⟩
            else
              (get? v7.counts x1).bind fun v14 =>
              (p_spec_l03CounterOK (TCounter.mk v6 (TVec.mk (v7.counts.set x1.toNat (w64 (v14 - x2)))))).bind fun v17 =>
              if (v17) = true then
                some ⟨(TCounter.mk v6 (TVec.mk (v7.counts.set x1.toNat (w64 (v14 - x2))))), 0⟩
              else
                some ⟨(TCounter.mk (TVec.mk ([])) (TVec.mk ([]))), 11⟩
  else
    some ⟨(TCounter.mk (TVec.mk ([])) (TVec.mk ([]))), 1⟩
def c_spec_CounterAdd (f_spec_l03CounterOK : Nat) (f_spec_l02Copy : Nat) : AFn := ⟨68, (.seq (.ops [(qS 3 (.box (.tmp 0))), (qS 6 (.allocV [(1, false), (1, false)] [(.slice .none 0 0), (.slice .none 0 0)])), (qS 7 (.mv (ic 0)))]) (.seq (.seq (.ops [(qS 9 (.load 2 true (.tmp 3))), (qS 10 (.call (2 * f_spec_l03CounterOK) [(.tmp 9)])), (qS 11 (.pu (.n (.un .not)) [(.tmp 10)]))]) (.cond (.tmp 11) (.seq (.ops [(qS 12 (.build [(.slice .none 0 0), (.slice .none 0 0)] [])), ⟨.none, (.storeV [(1, false), (1, false)] 2 (.tmp 6) (.tmp 12)), .none, [], .none⟩, (qS 7 (.mv (ic 1)))]) .ret) .skip)) (.seq (.seq (.ops [(qS 13 (.mv (.tmp 1))), (qS 14 (.pu (.n (.ar .lss)) [(.tmp 13), (ic 0)])), (qS 15 (.mv (.tmp 14))), ⟨(.some 16), (.mv (.tmp 1)), (.some (15, false)), [], .none⟩, ⟨(.some 17), (.pu (.n (.ar .geq)) [(.tmp 16), (ic 16)]), (.some (15, false)), [], .none⟩, (qS 18 (.pick (.tmp 15) (.const (.bool true)) (.tmp 17))), (qS 19 (.mv (.tmp 18))), ⟨(.some 20), (.mv (.tmp 2)), (.some (19, false)), [], .none⟩, ⟨(.some 21), (.pu (.n (.ar .lss)) [(.tmp 20), (ic (-1000000000000))]), (.some (19, false)), [], .none⟩, (qS 22 (.pick (.tmp 19) (.const (.bool true)) (.tmp 21))), (qS 23 (.mv (.tmp 22))), ⟨(.some 24), (.mv (.tmp 2)), (.some (23, false)), [], .none⟩, ⟨(.some 25), (.pu (.n (.ar .gtr)) [(.tmp 24), (ic 1000000000000)]), (.some (23, false)), [], .none⟩, (qS 26 (.pick (.tmp 23) (.const (.bool true)) (.tmp 25)))]) (.cond (.tmp 26) (.seq (.ops [(qS 27 (.build [(.slice .none 0 0), (.slice .none 0 0)] [])), ⟨.none, (.storeV [(1, false), (1, false)] 2 (.tmp 6) (.tmp 27)), .none, [], .none⟩, (qS 7 (.mv (ic 4)))]) .ret) .skip)) (.seq (.opsR 1 [(qS 28 (.fieldA 0 (.tmp 3))), (qS 29 (.load 1 true (.tmp 28))), (qS 30 (.call (2 * f_spec_l02Copy + 1) [(.tmp 29)])), (qS 31 (.fieldA 1 (.tmp 3))), (qS 32 (.load 1 true (.tmp 31))), (qS 33 (.call (2 * f_spec_l02Copy + 1) [(.tmp 32)])), (qS 34 (.build [(.slice .none 0 0), (.slice .none 0 0)] [(0, (1, (.tmp 30))), (1, (1, (.tmp 33)))])), ⟨(.some 8), (.alloc [(.slice .none 0 0), (.slice .none 0 0)]), .none, [], (.some 0)⟩, ⟨.none, (.store 2 (.tmp 8) (.tmp 34)), .none, [], .none⟩]) (.seq (.seq (.ops [(qS 35 (.mv (.tmp 2))), (qS 36 (.pu (.n (.ar .geq)) [(.tmp 35), (ic 0)]))]) (.cond (.tmp 36) (.ops [(qS 37 (.fieldA 0 (.tmp 8))), (qS 38 (.fieldA 0 (.tmp 37))), (qS 39 (.load 1 false (.tmp 38))), (qS 40 (.mv (.tmp 1))), (qS 41 (.fieldA 0 (.tmp 8))), (qS 42 (.fieldA 0 (.tmp 41))), (qS 43 (.load 1 false (.tmp 42))), (qS 44 (.mv (.tmp 1))), (qS 45 (.idxS 1 (.tmp 43) (.tmp 44))), (qS 46 (.load 1 false (.tmp 45))), (qS 47 (.mv (.tmp 2))), (qS 48 (.pu (.n (.ar .add)) [(.tmp 46), (.tmp 47)])), (qS 49 (.idxS 1 (.tmp 39) (.tmp 40))), ⟨.none, (.store 1 (.tmp 49) (.tmp 48)), .none, [], .none⟩]) (.ops [(qS 50 (.fieldA 1 (.tmp 8))), (qS 51 (.fieldA 0 (.tmp 50))), (qS 52 (.load 1 false (.tmp 51))), (qS 53 (.mv (.tmp 1))), (qS 54 (.fieldA 1 (.tmp 8))), (qS 55 (.fieldA 0 (.tmp 54))), (qS 56 (.load 1 false (.tmp 55))), (qS 57 (.mv (.tmp 1))), (qS 58 (.idxS 1 (.tmp 56) (.tmp 57))), (qS 59 (.load 1 false (.tmp 58))), (qS 60 (.mv (.tmp 2))), (qS 61 (.pu (.n (.ar .sub)) [(.tmp 59), (.tmp 60)])), (qS 62 (.idxS 1 (.tmp 52) (.tmp 53))), ⟨.none, (.store 1 (.tmp 62) (.tmp 61)), .none, [], .none⟩]))) (.seq (.seq (.ops [(qS 63 (.load 2 true (.tmp 8))), (qS 64 (.call (2 * f_spec_l03CounterOK) [(.tmp 63)])), (qS 65 (.pu (.n (.un .not)) [(.tmp 64)]))]) (.cond (.tmp 65) (.seq (.ops [(qS 66 (.build [(.slice .none 0 0), (.slice .none 0 0)] [])), ⟨.none, (.storeV [(1, false), (1, false)] 2 (.tmp 6) (.tmp 66)), .none, [], .none⟩, (qS 7 (.mv (ic 11)))]) .ret) .skip)) (.seq (.ops [(qS 67 (.load 2 true (.tmp 8))), ⟨.none, (.storeV [(1, false), (1, false)] 2 (.tmp 6) (.tmp 67)), .none, [], .none⟩, (qS 7 (.mv (ic 0)))]) .ret))))))), [(.cell 6 2 true), (.tmp 7)]⟩
set_option maxHeartbeats 10000000 in
theorem d_spec_CounterAdd {P : Program} {env : Env} {f_spec_l03CounterOK : Nat} {f_spec_l02Copy : Nat}  (ep_spec_l03CounterOK : env (2 * f_spec_l03CounterOK) = pureFn true (FA fun a : TCounter => p_spec_l03CounterOK a)) (e_spec_l02Copy : k_spec_l02Copy (env (2 * f_spec_l02Copy + 1))) (x0 : TCounter) (x1 : Int) (x2 : Int) {b : T2 TCounter Int} (hp : p_spec_CounterAdd x0 x1 x2 = some b) : R P env (c_spec_CounterAdd f_spec_l03CounterOK f_spec_l02Copy) ((encA (x0, x1, x2)).map ofI) [] (Tells true b) := by
  refine R_of (by simp [c_spec_CounterAdd, encA]) ?_
  have E := ep_spec_l03CounterOK
  unfold c_spec_CounterAdd
  unfold p_spec_CounterAdd at hp
  obtain ⟨v0, hv0, hp⟩ := bind_eq hp
  by_cases hb1 : (v0) = true
  · rw [if_t hb1] at hp
    by_cases hb2 : (decide (x1 < 0)) = true
    · rw [if_t hb2] at hp
      have hp := Option.some.inj hp
      subst hp
      simp (maxSteps := 2000000) (disch := first|omega|(simp only[ls];first|done|omega)) only [E, hv0, hb1, hb2, gm]
    · replace hb2 := eq_false_of_ne_true hb2
      rw [if_f hb2] at hp
      by_cases hb3 : (decide (16 ≤ x1)) = true
      · rw [if_t hb3] at hp
        have hp := Option.some.inj hp
        subst hp
        simp (maxSteps := 2000000) (disch := first|omega|(simp only[ls];first|done|omega)) only [E, hv0, hb1, hb2, hb3, gm]
      · replace hb3 := eq_false_of_ne_true hb3
        rw [if_f hb3] at hp
        by_cases hb4 : (decide (x2 < (-1000000000000))) = true
        · rw [if_t hb4] at hp
          have hp := Option.some.inj hp
          subst hp
          simp (maxSteps := 2000000) (disch := first|omega|(simp only[ls];first|done|omega)) only [E, hv0, hb1, hb2, hb3, hb4, gm]
        · replace hb4 := eq_false_of_ne_true hb4
          rw [if_f hb4] at hp
          by_cases hb5 : (decide (1000000000000 < x2)) = true
          · rw [if_t hb5] at hp
            have hp := Option.some.inj hp
            subst hp
            simp (maxSteps := 2000000) (disch := first|omega|(simp only[ls];first|done|omega)) only [E, hv0, hb1, hb2, hb3, hb4, hb5, gm]
          · replace hb5 := eq_false_of_ne_true hb5
            rw [if_f hb5] at hp
            obtain ⟨v6, hv6, hp⟩ := bind_eq hp
            simp (maxSteps := 2000000) (disch := first|omega|(simp only[ls];first|done|omega)) only [E, hv0, hb1, hb2, hb3, hb4, hb5, gm]
            refine call_f (fun h => getCells h 0 2 = some [.i (.sl 1 (x0.plus.counts.map enc)), .i (.sl 1 (x0.minus.counts.map enc))] ∧ 0 < h.length ∧ getCells h 1 0 = some [] ∧ 1 < h.length ∧ getCells h 2 0 = some [] ∧ 2 < h.length ∧ getCells h 3 2 = some [.hsl 1 0 0 1 false 0, .hsl 2 0 0 1 false 0] ∧ 3 < h.length ∧ h[4]? = some .free ∧ 4 < h.length) (fun h v h2 => oo_spec_l02Copy v6 h v h2) ?_ ?_ ?_
            · simp (maxSteps := 2000000) (disch := first|omega|(simp only[ls];first|done|omega)) only [E, hv0, hb1, hb2, hb3, hb4, hb5, hv6, gm] <;> omega
            · rintro h ⟨c0_0, c0_1, c0_2, c0_3, c0_4, c0_5, c0_6, c0_7, c0_8, c0_9⟩
              exact e_spec_l02Copy _ _ hv6 h _ (by simp (maxSteps := 2000000) (disch := first|omega|(simp only[ls];first|done|omega)) only [E, hv0, hb1, hb2, hb3, hb4, hb5, hv6, c0_0, c0_1, c0_2, c0_3, c0_4, c0_5, c0_6, c0_7, c0_8, c0_9, gm])
            · rintro hc0 v hh0 ⟨c0_0, c0_1, c0_2, c0_3, c0_4, c0_5, c0_6, c0_7, c0_8, c0_9⟩ hpost
              obtain ⟨kk0, nb0_0, rfl, lnb0_0, gnb0_0, wnb0_0⟩ := hpost
              have d0_0 : getCells hh0 0 2 = some [.i (.sl 1 (x0.plus.counts.map enc)), .i (.sl 1 (x0.minus.counts.map enc))] := (keep_get kk0 c0_1 (by first | (simp; done) | (simp; omega))).trans c0_0
              have d0_0l := keep_lt kk0 c0_1
              have d0_1 : getCells hh0 1 0 = some [] := (keep_get kk0 c0_3 (by first | (simp; done) | (simp; omega))).trans c0_2
              have d0_1l := keep_lt kk0 c0_3
              have d0_2 : getCells hh0 2 0 = some [] := (keep_get kk0 c0_5 (by first | (simp; done) | (simp; omega))).trans c0_4
              have d0_2l := keep_lt kk0 c0_5
              have d0_3 : getCells hh0 3 2 = some [.hsl 1 0 0 1 false 0, .hsl 2 0 0 1 false 0] := (keep_get kk0 c0_7 (by first | (simp; done) | (simp; omega))).trans c0_6
              have d0_3l := keep_lt kk0 c0_7
              have d0_4 : hh0[4]? = some .free := free_keep2 kk0 c0_8 (by first | (simp; done) | (simp; omega))
              have d0_4l := free_lt d0_4
              have d0_5 := wnb0_0
              obtain ⟨v7, hv7, hp⟩ := bind_eq hp
              simp (maxSteps := 2000000) (disch := first|omega|(simp only[ls];first|done|omega)) only [E, hv0, hb1, hb2, hb3, hb4, hb5, hv6, d0_0, d0_1, d0_2, d0_3, d0_4, d0_5, gm]
              refine call_f (fun h => getCells h 0 2 = some [.i (.sl 1 (x0.plus.counts.map enc)), .i (.sl 1 (x0.minus.counts.map enc))] ∧ 0 < h.length ∧ getCells h 1 0 = some [] ∧ 1 < h.length ∧ getCells h 2 0 = some [] ∧ 2 < h.length ∧ getCells h 3 2 = some [.hsl 1 0 0 1 false 0, .hsl 2 0 0 1 false 0] ∧ 3 < h.length ∧ h[4]? = some .free ∧ 4 < h.length ∧ getCells h nb0_0 v6.counts.length = some (rows (v6.counts : List Int)) ∧ nb0_0 < h.length) (fun h v h2 => oo_spec_l02Copy v7 h v h2) ?_ ?_ ?_
              · simp (maxSteps := 2000000) (disch := first|omega|(simp only[ls];first|done|omega)) only [E, hv0, hb1, hb2, hb3, hb4, hb5, hv6, d0_0, d0_1, d0_2, d0_3, d0_4, d0_5, hv7, gm] <;> omega
              · rintro h ⟨c1_0, c1_1, c1_2, c1_3, c1_4, c1_5, c1_6, c1_7, c1_8, c1_9, c1_10, c1_11⟩
                exact e_spec_l02Copy _ _ hv7 h _ (by simp (maxSteps := 2000000) (disch := first|omega|(simp only[ls];first|done|omega)) only [E, hv0, hb1, hb2, hb3, hb4, hb5, hv6, d0_0, d0_1, d0_2, d0_3, d0_4, d0_5, hv7, c1_0, c1_1, c1_2, c1_3, c1_4, c1_5, c1_6, c1_7, c1_8, c1_9, c1_10, c1_11, gm])
              · rintro hc1 v hh1 ⟨c1_0, c1_1, c1_2, c1_3, c1_4, c1_5, c1_6, c1_7, c1_8, c1_9, c1_10, c1_11⟩ hpost
                obtain ⟨kk1, nb1_0, rfl, lnb1_0, gnb1_0, wnb1_0⟩ := hpost
                have d1_0 : getCells hh1 0 2 = some [.i (.sl 1 (x0.plus.counts.map enc)), .i (.sl 1 (x0.minus.counts.map enc))] := (keep_get kk1 c1_1 (by first | (simp; done) | (simp; omega))).trans c1_0
                have d1_0l := keep_lt kk1 c1_1
                have d1_1 : getCells hh1 1 0 = some [] := (keep_get kk1 c1_3 (by first | (simp; done) | (simp; omega))).trans c1_2
                have d1_1l := keep_lt kk1 c1_3
                have d1_2 : getCells hh1 2 0 = some [] := (keep_get kk1 c1_5 (by first | (simp; done) | (simp; omega))).trans c1_4
                have d1_2l := keep_lt kk1 c1_5
                have d1_3 : getCells hh1 3 2 = some [.hsl 1 0 0 1 false 0, .hsl 2 0 0 1 false 0] := (keep_get kk1 c1_7 (by first | (simp; done) | (simp; omega))).trans c1_6
                have d1_3l := keep_lt kk1 c1_7
                have d1_4 : hh1[4]? = some .free := free_keep2 kk1 c1_8 (by first | (simp; done) | (simp; omega))
                have d1_4l := free_lt d1_4
                have d1_5 : getCells hh1 nb0_0 v6.counts.length = some (rows (v6.counts : List Int)) := (keep_get kk1 c1_11 (by first | (simp; done) | (simp; omega))).trans c1_10
                have d1_5l := keep_lt kk1 c1_11
                have d1_6 := wnb1_0
                by_cases hb8 : (decide (0 ≤ x2)) = true
                · rw [if_t hb8] at hp
                  obtain ⟨v9, hv9, hp⟩ := bind_eq hp
                  have gv9 := get_some hv9
                  have hl10 : List.take 1 (List.drop x1.toNat (rows v6.counts)) = [.i (.s (.int .i64 v9))] := by simpa [zs, cellsV, I.cells, enc_int] using rows_get_off (k := 0) (m := 1) gv9.2.2 (Nat.le_of_ble_eq_true rfl)
                  have hs11 : List.take x1.toNat (rows v6.counts) ++ .i (.s (.int .i64 (w64 (v9 + x2)))) :: List.drop (x1.toNat + 1) (rows v6.counts) = rows (v6.counts.set x1.toNat (w64 (v9 + x2))) := by simpa [splice, zs, cellsV, I.cells, enc_int] using rows_set_off (y := w64 (v9 + x2)) (ys := [.i (.s (.int .i64 (w64 (v9 + x2))))]) (k := 0) gv9.2.2 (Nat.le_of_ble_eq_true rfl) (by rfl)
                  obtain ⟨v12, hv12, hp⟩ := bind_eq hp
                  by_cases hb13 : (v12) = true
                  · rw [if_t hb13] at hp
                    have hp := Option.some.inj hp
                    subst hp
                    simp (maxSteps := 2000000) (disch := first|omega|(simp only[ls];first|done|omega)) only [E, hv0, hb1, hb2, hb3, hb4, hb5, hv6, d0_0, d0_1, d0_2, d0_3, d0_4, d0_5, hv7, d1_0, d1_1, d1_2, d1_3, d1_4, d1_5, d1_6, hb8, hv9, (gv9).1, (gv9).2.1, hl10, hs11, hv12, hb13, gm]
                  · replace hb13 := eq_false_of_ne_true hb13
                    rw [if_f hb13] at hp
                    have hp := Option.some.inj hp
                    subst hp
                    simp (maxSteps := 2000000) (disch := first|omega|(simp only[ls];first|done|omega)) only [E, hv0, hb1, hb2, hb3, hb4, hb5, hv6, d0_0, d0_1, d0_2, d0_3, d0_4, d0_5, hv7, d1_0, d1_1, d1_2, d1_3, d1_4, d1_5, d1_6, hb8, hv9, (gv9).1, (gv9).2.1, hl10, hs11, hv12, hb13, gm]
                · replace hb8 := eq_false_of_ne_true hb8
                  rw [if_f hb8] at hp
                  obtain ⟨v14, hv14, hp⟩ := bind_eq hp
                  have gv14 := get_some hv14
                  have hl15 : List.take 1 (List.drop x1.toNat (rows v7.counts)) = [.i (.s (.int .i64 v14))] := by simpa [zs, cellsV, I.cells, enc_int] using rows_get_off (k := 0) (m := 1) gv14.2.2 (Nat.le_of_ble_eq_true rfl)
                  have hs16 : List.take x1.toNat (rows v7.counts) ++ .i (.s (.int .i64 (w64 (v14 - x2)))) :: List.drop (x1.toNat + 1) (rows v7.counts) = rows (v7.counts.set x1.toNat (w64 (v14 - x2))) := by simpa [splice, zs, cellsV, I.cells, enc_int] using rows_set_off (y := w64 (v14 - x2)) (ys := [.i (.s (.int .i64 (w64 (v14 - x2))))]) (k := 0) gv14.2.2 (Nat.le_of_ble_eq_true rfl) (by rfl)
                  obtain ⟨v17, hv17, hp⟩ := bind_eq hp
                  by_cases hb18 : (v17) = true
                  · rw [if_t hb18] at hp
                    have hp := Option.some.inj hp
                    subst hp
                    simp (maxSteps := 2000000) (disch := first|omega|(simp only[ls];first|done|omega)) only [E, hv0, hb1, hb2, hb3, hb4, hb5, hv6, d0_0, d0_1, d0_2, d0_3, d0_4, d0_5, hv7, d1_0, d1_1, d1_2, d1_3, d1_4, d1_5, d1_6, hb8, hv14, (gv14).1, (gv14).2.1, hl15, hs16, hv17, hb18, gm]
                  · replace hb18 := eq_false_of_ne_true hb18
                    rw [if_f hb18] at hp
                    have hp := Option.some.inj hp
                    subst hp
                    simp (maxSteps := 2000000) (disch := first|omega|(simp only[ls];first|done|omega)) only [E, hv0, hb1, hb2, hb3, hb4, hb5, hv6, d0_0, d0_1, d0_2, d0_3, d0_4, d0_5, hv7, d1_0, d1_1, d1_2, d1_3, d1_4, d1_5, d1_6, hb8, hv14, (gv14).1, (gv14).2.1, hl15, hs16, hv17, hb18, gm]
  · replace hb1 := eq_false_of_ne_true hb1
    rw [if_f hb1] at hp
    have hp := Option.some.inj hp
    subst hp
    simp (maxSteps := 2000000) (disch := first|omega|(simp only[ls];first|done|omega)) only [E, hv0, hb1, gm]

noncomputable def p_impl_VecOK_l0 (x0 : TVec) : Int → Option (Lp (Int) Bool)
  | s1 =>
    if (decide (s1 < (x0.counts.length : Int))) = true then
      (get? x0.counts s1).bind fun v3 =>
      if (decide (v3 < 0)) = true then
        some (.ret false)
      else
        if (decide (1000000000000 < v3)) = true then
          some (.ret false)
        else
          some (.go (w64 (s1 + 1)))
    else
      some (.out s1)
noncomputable def p_impl_VecOK (x0 : TVec) : Option Bool :=
  if (decide ((x0.counts.length : Int) = 16)) = true then
    (loopP (p_impl_VecOK_l0 x0) 0).bind fun ee0 => match ee0 with
    | .ret r => some r
    | .out o6 =>
      some true
  else
    some false
def c_impl_VecOK : AFn := ⟨23, (.seq (.ops [(qS 1 (.box (.tmp 0))), (qS 2 (.mv (.const (.bool false))))]) (.seq (.seq (.ops [(qS 5 (.fieldA 0 (.tmp 1))), (qS 6 (.load 1 false (.tmp 5))), (qS 7 (.len (.tmp 6))), (qS 8 (.pu (.n (.ar .neq)) [(.tmp 7), (ic 16)]))]) (.cond (.tmp 8) (.seq (.ops [(qS 2 (.mv (.const (.bool false))))]) .ret) .skip)) (.seq (.seq (.ops [(qS 9 (.fieldA 0 (.tmp 1))), (qS 10 (.load 1 false (.tmp 9))), (qS 11 (.len (.tmp 10))), (qS 12 (.mv (ic 0)))]) (.block 0 (.loop (.seq (.ops [(qS 13 (.pu (.n (.ar .lss)) [(.tmp 12), (.tmp 11)]))]) (.seq (.cond (.tmp 13) .skip (.exit 0)) (.seq (.block 1 (.seq (.ops [(qS 14 (.idxS 1 (.tmp 10) (.tmp 12))), (qS 15 (.load 1 false (.tmp 14))), (qS 4 (.mv (.tmp 15)))]) (.seq (.ops [(qS 16 (.mv (.tmp 4))), (qS 17 (.pu (.n (.ar .lss)) [(.tmp 16), (ic 0)])), (qS 18 (.mv (.tmp 17))), ⟨(.some 19), (.mv (.tmp 4)), (.some (18, false)), [], .none⟩, ⟨(.some 20), (.pu (.n (.ar .gtr)) [(.tmp 19), (ic 1000000000000)]), (.some (18, false)), [], .none⟩, (qS 21 (.pick (.tmp 18) (.const (.bool true)) (.tmp 20)))]) (.cond (.tmp 21) (.seq (.ops [(qS 2 (.mv (.const (.bool false))))]) .ret) .skip)))) (.ops [(qS 22 (.pu (.n (.ar .add)) [(.tmp 12), (ic 1)])), (qS 12 (.mv (.tmp 22)))]))))))) (.seq (.ops [(qS 2 (.mv (.const (.bool true))))]) .ret)))), [(.tmp 2)]⟩
set_option maxHeartbeats 10000000 in
theorem d_impl_VecOK {P : Program} {env : Env}  (x0 : TVec) {b : Bool} (hp : p_impl_VecOK x0 = some b) : R P env (c_impl_VecOK) ((encA (x0)).map ofI) [] (Tells true b) := by
  refine R_of (by simp [c_impl_VecOK, encA]) ?_
  unfold c_impl_VecOK
  unfold p_impl_VecOK at hp
  by_cases hb0 : (decide ((x0.counts.length : Int) = 16)) = true
  · rw [if_t hb0] at hp
    obtain ⟨ee0, hee0, hp⟩ := bind_eq hp
    simp (maxSteps := 2000000) (disch := first|omega|(simp only[ls];first|done|omega)) only [hb0, gm]
    refine W_loopP 0 (fun s t h => match s with | s1 => t 10 = .i (.sl 1 (x0.counts.map enc)) ∧ t 11 = .i (.s (.int .i64 (x0.counts.length : Int))) ∧ t 12 = .i (.s (.int .i64 s1))) (RK [.tmp 2] (Tells true)) ?_ hee0 ?_ ?_
    · rintro s1 ee tt0 hh0 ⟨ftt0_0, ftt0_1, ftt0_2⟩ hp
      rw [p_impl_VecOK_l0] at hp
      by_cases hb2 : (decide (s1 < (x0.counts.length : Int))) = true
      · rw [if_t hb2] at hp
        obtain ⟨v3, hv3, hp⟩ := bind_eq hp
        by_cases hb4 : (decide (v3 < 0)) = true
        · rw [if_t hb4] at hp
          have hp := Option.some.inj hp
          subst hp
          simp (maxSteps := 2000000) (disch := first|omega|(simp only[ls];first|done|omega)) only [hb0, ftt0_0, ftt0_1, ftt0_2, hb2, hv3, hb4, gm]
        · replace hb4 := eq_false_of_ne_true hb4
          rw [if_f hb4] at hp
          by_cases hb5 : (decide (1000000000000 < v3)) = true
          · rw [if_t hb5] at hp
            have hp := Option.some.inj hp
            subst hp
            simp (maxSteps := 2000000) (disch := first|omega|(simp only[ls];first|done|omega)) only [hb0, ftt0_0, ftt0_1, ftt0_2, hb2, hv3, hb4, hb5, gm]
          · replace hb5 := eq_false_of_ne_true hb5
            rw [if_f hb5] at hp
            have hp := Option.some.inj hp
            subst hp
            simp (maxSteps := 2000000) (disch := first|omega|(simp only[ls];first|done|omega)) only [hb0, ftt0_0, ftt0_1, ftt0_2, hb2, hv3, hb4, hb5, gm] <;> omega
      · replace hb2 := eq_false_of_ne_true hb2
        rw [if_f hb2] at hp
        have hp := Option.some.inj hp
        subst hp
        simp (maxSteps := 2000000) (disch := first|omega|(simp only[ls];first|done|omega)) only [hb0, ftt0_0, ftt0_1, ftt0_2, hb2, gm] <;> omega
    · simp (maxSteps := 2000000) (disch := first|omega|(simp only[ls];first|done|omega)) only [hb0, gm] <;> omega
    · intro x tt1 hh1 hx
      rcases ee0 with o6 | r
      · obtain ⟨rfl, ftt1_0, ftt1_1, ftt1_2⟩ := hx
        dsimp only at hp
        have hp := Option.some.inj hp
        subst hp
        simp (maxSteps := 2000000) (disch := first|omega|(simp only[ls];first|done|omega)) only [hb0, ftt1_0, ftt1_1, ftt1_2, gm]
      · obtain ⟨rfl, hx⟩ := hx
        dsimp only at hp
        cases hp
        simp only [seqK_ret, blockK_ret, retK_RK (K := Tells true), hx, and_self, true_and]
  · replace hb0 := eq_false_of_ne_true hb0
    rw [if_f hb0] at hp
    have hp := Option.some.inj hp
    subst hp
    simp (maxSteps := 2000000) (disch := first|omega|(simp only[ls];first|done|omega)) only [hb0, gm]

noncomputable def p_impl_counterOK (x0 : TCounter) : Option Bool :=
  (p_impl_VecOK x0.plus).bind fun v0 =>
  if (v0) = true then
    (p_impl_VecOK x0.minus).bind fun v2 =>
    some v2
  else
    some false
def c_impl_counterOK (f_impl_VecOK : Nat) : AFn := ⟨11, (.seq (.ops [(qS 1 (.box (.tmp 0))), (qS 2 (.mv (.const (.bool false))))]) (.seq (.ops [(qS 3 (.fieldA 0 (.tmp 1))), (qS 4 (.load 1 true (.tmp 3))), (qS 5 (.call (2 * f_impl_VecOK) [(.tmp 4)])), (qS 6 (.mv (.tmp 5))), ⟨(.some 7), (.fieldA 1 (.tmp 1)), (.some (6, true)), [], .none⟩, ⟨(.some 8), (.load 1 true (.tmp 7)), (.some (6, true)), [], .none⟩, ⟨(.some 9), (.call (2 * f_impl_VecOK) [(.tmp 8)]), (.some (6, true)), [], .none⟩, (qS 10 (.pick (.tmp 6) (.tmp 9) (.const (.bool false)))), (qS 2 (.mv (.tmp 10)))]) .ret)), [(.tmp 2)]⟩
set_option maxHeartbeats 10000000 in
theorem d_impl_counterOK {P : Program} {env : Env} {f_impl_VecOK : Nat}  (ep_impl_VecOK : env (2 * f_impl_VecOK) = pureFn true (FA fun a : TVec => p_impl_VecOK a)) (x0 : TCounter) {b : Bool} (hp : p_impl_counterOK x0 = some b) : R P env (c_impl_counterOK f_impl_VecOK) ((encA (x0)).map ofI) [] (Tells true b) := by
  refine R_of (by simp [c_impl_counterOK, encA]) ?_
  have E := ep_impl_VecOK
  unfold c_impl_counterOK
  unfold p_impl_counterOK at hp
  obtain ⟨v0, hv0, hp⟩ := bind_eq hp
  by_cases hb1 : (v0) = true
  · rw [if_t hb1] at hp
    obtain ⟨v2, hv2, hp⟩ := bind_eq hp
    have hp := Option.some.inj hp
    subst hp
    simp (maxSteps := 2000000) (disch := first|omega|(simp only[ls];first|done|omega)) only [E, hv0, hb1, hv2, gm]
  · replace hb1 := eq_false_of_ne_true hb1
    rw [if_f hb1] at hp
    have hp := Option.some.inj hp
    subst hp
    simp (maxSteps := 2000000) (disch := first|omega|(simp only[ls];first|done|omega)) only [E, hv0, hb1, gm]

noncomputable def p_impl_isActor (x0 : Int) : Option Bool :=
  if (decide (0 ≤ x0)) = true then
    some (decide (x0 < 16))
  else
    some false
def c_impl_isActor : AFn := ⟨9, (.seq (.ops [(qS 2 (.mv (.const (.bool false))))]) (.seq (.ops [(qS 3 (.mv (.tmp 0))), (qS 4 (.pu (.n (.ar .geq)) [(.tmp 3), (ic 0)])), (qS 5 (.mv (.tmp 4))), ⟨(.some 6), (.mv (.tmp 0)), (.some (5, true)), [], .none⟩, ⟨(.some 7), (.pu (.n (.ar .lss)) [(.tmp 6), (ic 16)]), (.some (5, true)), [], .none⟩, (qS 8 (.pick (.tmp 5) (.tmp 7) (.const (.bool false)))), (qS 2 (.mv (.tmp 8)))]) .ret)), [(.tmp 2)]⟩
set_option maxHeartbeats 10000000 in
theorem d_impl_isActor {P : Program} {env : Env}  (x0 : Int) {b : Bool} (hp : p_impl_isActor x0 = some b) : R P env (c_impl_isActor) ((encA (x0)).map ofI) [] (Tells true b) := by
  refine R_of (by simp [c_impl_isActor, encA]) ?_
  unfold c_impl_isActor
  unfold p_impl_isActor at hp
  by_cases hb0 : (decide (0 ≤ x0)) = true
  · rw [if_t hb0] at hp
    have hp := Option.some.inj hp
    subst hp
    simp (maxSteps := 2000000) (disch := first|omega|(simp only[ls];first|done|omega)) only [hb0, gm]
  · replace hb0 := eq_false_of_ne_true hb0
    rw [if_f hb0] at hp
    have hp := Option.some.inj hp
    subst hp
    simp (maxSteps := 2000000) (disch := first|omega|(simp only[ls];first|done|omega)) only [hb0, gm]

noncomputable def p_impl_vecCopy (x0 : TVec) : Option TVec :=
  (app? 8 ([] : List Int) x0.counts).bind fun v0 =>
  some (TVec.mk v0)
def c_impl_vecCopy : AFn := ⟨7, (.seq (.ops [(qS 1 (.box (.tmp 0))), (qS 2 (.allocV [(1, false)] [(.slice .none 0 0)]))]) (.seq (.ops [(qS 3 (.fieldA 0 (.tmp 1))), (qS 4 (.load 1 false (.tmp 3))), (qS 5 (.appendV 1 false 8 (.tmp 4))), (qS 6 (.build [(.slice .none 0 0)] [(0, (1, (.tmp 5)))])), ⟨.none, (.storeV [(1, false)] 1 (.tmp 2) (.tmp 6)), .none, [], .none⟩]) .ret)), [(.cell 2 1 true)]⟩
def o_impl_vecCopy (b : TVec) (v : V) (h : Heap) : Prop := ∃ n0 : Nat, v = .agg [.hsl n0 b.counts.length 0 1 false b.counts.length] ∧ getCells h n0 b.counts.length = some (rows b.counts)
def oo_impl_vecCopy (b : TVec) (h : Heap) (v : V) (h2 : Heap) : Prop := Keep [] h h2 ∧ ∃ n0 : Nat, v = .agg [.hsl n0 b.counts.length 0 1 false b.counts.length] ∧ n0 < h2.length ∧ h.length ≤ n0 ∧ getCells h2 n0 b.counts.length = some (rows b.counts)
def k_impl_vecCopy (F : Fun) : Prop := ∀ (x0 : TVec) (b : TVec), p_impl_vecCopy x0 = some b → ∀ (h : Heap) (args : List V), snapA 9 false h args = some (encA (x0)) → ∃ p, F none args h = some p ∧ oo_impl_vecCopy b h p.1 p.2
set_option maxHeartbeats 10000000 in
theorem w_impl_vecCopy {P : Program} {env : Env}  (x0 : TVec) {b : TVec} (hp : p_impl_vecCopy x0 = some b) : R P env (c_impl_vecCopy) ((encA (x0)).map ofI) [] (o_impl_vecCopy b) := by
  refine R_of (by simp [c_impl_vecCopy, encA]) ?_
  unfold c_impl_vecCopy
  unfold p_impl_vecCopy at hp
  obtain ⟨v0, hv0, hp⟩ := bind_eq hp
  simp (maxSteps := 2000000) (disch := first|omega|(simp only[ls];first|done|omega)) only [gm]
  refine app_f (b := 3) (xs := ([] : List Int)) (ys := x0.counts) (fun h => getCells h 0 1 = some [.i (.sl 1 (x0.counts.map enc))] ∧ 0 < h.length ∧ getCells h 1 0 = some [] ∧ 1 < h.length ∧ getCells h 2 1 = some [.hsl 1 0 0 1 false 0] ∧ 2 < h.length ∧ getCells h 3 0 = some [] ∧ 3 < h.length) ?_ ?_ hv0 rfl (by first | rfl | omega | (simp; omega)) (by first | rfl | omega | (simp; omega)) (by first | rfl | omega | (simp; omega)) ?_
  · simp (maxSteps := 2000000) (disch := first|omega|(simp only[ls];first|done|omega)) only [hv0, gm] <;> omega
  · rintro h ⟨c0_0, c0_1, c0_2, c0_3, c0_4, c0_5, c0_6, c0_7⟩
    exact gc_eq c0_6 (by omega)
  · rintro h hh0 ⟨c0_0, c0_1, c0_2, c0_3, c0_4, c0_5, c0_6, c0_7⟩ kk0 w0
    have d0_0 : getCells hh0 0 1 = some [.i (.sl 1 (x0.counts.map enc))] := (keep_get kk0 c0_1 (by first | (simp; done) | (simp; omega))).trans c0_0
    have d0_0l := keep_lt kk0 c0_1
    have d0_1 : getCells hh0 1 0 = some [] := (keep_get kk0 c0_3 (by first | (simp; done) | (simp; omega))).trans c0_2
    have d0_1l := keep_lt kk0 c0_3
    have d0_2 : getCells hh0 2 1 = some [.hsl 1 0 0 1 false 0] := (keep_get kk0 c0_5 (by first | (simp; done) | (simp; omega))).trans c0_4
    have d0_2l := keep_lt kk0 c0_5
    have d0_3 : getCells hh0 3 v0.length = some (rows (v0 : List Int)) := by simpa only [Nat.mul_one] using w0
    have d0_3l := keep_lt kk0 c0_7
    have hp := Option.some.inj hp
    subst hp
    simp (maxSteps := 2000000) (disch := first|omega|(simp only[ls];first|done|omega)) only [hv0, d0_0, d0_1, d0_2, d0_3, gm]
    refine ⟨3, ?_⟩
    simp (maxSteps := 2000000) (disch := first|omega|(simp only[ls];first|done|omega)) only [hv0, d0_0, d0_1, d0_2, d0_3, o_impl_vecCopy, gm] <;> omega
theorem ko_impl_vecCopy {P : Program} {env : Env}  : k_impl_vecCopy (ownFn P env (c_impl_vecCopy)) := by
  intro x0 b hp h args has
  obtain ⟨⟨v, H2⟩, hr, n0, rfl, wn0⟩ := w_impl_vecCopy x0 hp
  exact ⟨_, own_call has hr rfl, keep_moved, n0 + h.length, rfl, (moved_lt wn0).2, (moved_lt wn0).1, moved_rows wn0⟩

noncomputable def p_impl_CounterAdd (x0 : TCounter) (x1 : Int) (x2 : Int) : Option (T2 TCounter Int) :=
  (p_impl_counterOK x0).bind fun v0 =>
  if (v0) = true then
    (p_impl_isActor x1).bind fun v2 =>
    if (v2) = true then
      if (decide (x2 < (-1000000000000))) = true then
        some ⟨(TCounter.mk (TVec.mk ([])) (TVec.mk ([]))), 4⟩
      else
        if (decide (1000000000000 < x2)) = true then
          some ⟨(TCounter.mk (TVec.mk ([])) (TVec.mk ([]))), 4⟩
        else
          (p_impl_vecCopy x0.plus).bind fun v6 =>
          (p_impl_vecCopy x0.minus).bind fun v7 =>
          if (decide (x2 < 0)) = true then
            (get? v7.counts x1).bind fun v9 =>
            if (decide (1000000000000 < w64 (v9 + (w64 (0 - x2))))) = true then
              some ⟨(TCounter.mk (TVec.mk ([])) (TVec.mk ([]))), 11⟩
            else
              some ⟨(TCounter.mk v6 (TVec.mk (v7.counts.set x1.toNat (w64 (v9 + (w64 (0 - x2))))))), 0⟩
          else
            (get? v6.counts x1).bind fun v14 =>
            if (decide (1000000000000 < w64 (v14 + x2))) = true then
              some ⟨(TCounter.mk (TVec.mk ([])) (TVec.mk ([]))), 11⟩
            else
              some ⟨(TCounter.mk (TVec.mk (v6.counts.set x1.toNat (w64 (v14 + x2)))) v7), 0⟩
    else
      some ⟨(TCounter.mk (TVec.mk ([])) (TVec.mk ([]))), 4⟩
  else
    some ⟨(TCounter.mk (TVec.mk ([])) (TVec.mk ([]))), 1⟩
def c_impl_CounterAdd (f_impl_counterOK : Nat) (f_impl_isActor : Nat) (f_impl_vecCopy : Nat) : AFn := ⟨59, (.seq (.ops [(qS 3 (.box (.tmp 0))), (qS 6 (.allocV [(1, false), (1, false)] [(.slice .none 0 0), (.slice .none 0 0)])), (qS 7 (.mv (ic 0)))]) (.seq (.seq (.ops [(qS 10 (.load 2 true (.tmp 3))), (qS 11 (.call (2 * f_impl_counterOK) [(.tmp 10)])), (qS 12 (.pu (.n (.un .not)) [(.tmp 11)]))]) (.cond (.tmp 12) (.seq (.ops [(qS 13 (.build [(.slice .none 0 0), (.slice .none 0 0)] [])), ⟨.none, (.storeV [(1, false), (1, false)] 2 (.tmp 6) (.tmp 13)), .none, [], .none⟩, (qS 7 (.mv (ic 1)))]) .ret) .skip)) (.seq (.seq (.ops [(qS 14 (.mv (.tmp 1))), (qS 15 (.call (2 * f_impl_isActor) [(.tmp 14)])), (qS 16 (.pu (.n (.un .not)) [(.tmp 15)])), (qS 17 (.mv (.tmp 16))), ⟨(.some 18), (.mv (.tmp 2)), (.some (17, false)), [], .none⟩, ⟨(.some 19), (.pu (.n (.ar .lss)) [(.tmp 18), (ic (-1000000000000))]), (.some (17, false)), [], .none⟩, (qS 20 (.pick (.tmp 17) (.const (.bool true)) (.tmp 19))), (qS 21 (.mv (.tmp 20))), ⟨(.some 22), (.mv (.tmp 2)), (.some (21, false)), [], .none⟩, ⟨(.some 23), (.pu (.n (.ar .gtr)) [(.tmp 22), (ic 1000000000000)]), (.some (21, false)), [], .none⟩, (qS 24 (.pick (.tmp 21) (.const (.bool true)) (.tmp 23)))]) (.cond (.tmp 24) (.seq (.ops [(qS 25 (.build [(.slice .none 0 0), (.slice .none 0 0)] [])), ⟨.none, (.storeV [(1, false), (1, false)] 2 (.tmp 6) (.tmp 25)), .none, [], .none⟩, (qS 7 (.mv (ic 4)))]) .ret) .skip)) (.seq (.opsR 1 [(qS 26 (.fieldA 0 (.tmp 3))), (qS 27 (.load 1 true (.tmp 26))), (qS 28 (.call (2 * f_impl_vecCopy + 1) [(.tmp 27)])), (qS 29 (.fieldA 1 (.tmp 3))), (qS 30 (.load 1 true (.tmp 29))), (qS 31 (.call (2 * f_impl_vecCopy + 1) [(.tmp 30)])), (qS 32 (.build [(.slice .none 0 0), (.slice .none 0 0)] [(0, (1, (.tmp 28))), (1, (1, (.tmp 31)))])), ⟨(.some 8), (.alloc [(.slice .none 0 0), (.slice .none 0 0)]), .none, [], (.some 0)⟩, ⟨.none, (.store 2 (.tmp 8) (.tmp 32)), .none, [], .none⟩]) (.seq (.ops [(qS 33 (.fieldA 0 (.tmp 8))), (qS 34 (.fieldA 0 (.tmp 33))), (qS 35 (.load 1 false (.tmp 34))), (qS 9 (.mv (.tmp 35)))]) (.seq (.seq (.ops [(qS 36 (.mv (.tmp 2))), (qS 37 (.pu (.n (.ar .lss)) [(.tmp 36), (ic 0)]))]) (.cond (.tmp 37) (.ops [(qS 38 (.fieldA 1 (.tmp 8))), (qS 39 (.fieldA 0 (.tmp 38))), (qS 40 (.load 1 false (.tmp 39))), (qS 41 (.mv (.tmp 2))), (qS 42 (.pu (.n (.un .neg)) [(.tmp 41)])), (qS 9 (.mv (.tmp 40))), (qS 2 (.mv (.tmp 42)))]) .skip)) (.seq (.seq (.ops [(qS 43 (.mv (.tmp 9))), (qS 44 (.mv (.tmp 1))), (qS 45 (.idxS 1 (.tmp 43) (.tmp 44))), (qS 46 (.load 1 false (.tmp 45))), (qS 47 (.mv (.tmp 2))), (qS 48 (.pu (.n (.ar .add)) [(.tmp 46), (.tmp 47)])), (qS 49 (.pu (.n (.ar .gtr)) [(.tmp 48), (ic 1000000000000)]))]) (.cond (.tmp 49) (.seq (.ops [(qS 50 (.build [(.slice .none 0 0), (.slice .none 0 0)] [])), ⟨.none, (.storeV [(1, false), (1, false)] 2 (.tmp 6) (.tmp 50)), .none, [], .none⟩, (qS 7 (.mv (ic 11)))]) .ret) .skip)) (.seq (.ops [(qS 51 (.mv (.tmp 9))), (qS 52 (.mv (.tmp 1))), (qS 53 (.idxS 1 (.tmp 51) (.tmp 52))), (qS 54 (.load 1 false (.tmp 53))), (qS 55 (.mv (.tmp 2))), (qS 56 (.pu (.n (.ar .add)) [(.tmp 54), (.tmp 55)])), (qS 57 (.idxS 1 (.tmp 51) (.tmp 52))), ⟨.none, (.storeV [(0, false)] 1 (.tmp 57) (.tmp 56)), .none, [], .none⟩]) (.seq (.ops [(qS 58 (.load 2 true (.tmp 8))), ⟨.none, (.storeV [(1, false), (1, false)] 2 (.tmp 6) (.tmp 58)), .none, [], .none⟩, (qS 7 (.mv (ic 0)))]) .ret))))))))), [(.cell 6 2 true), (.tmp 7)]⟩
def o_impl_CounterAdd (b : T2 TCounter Int) (v : V) (h : Heap) : Prop := ∃ n0 : Nat, ∃ n1 : Nat, v = .tup [.agg [.hsl n0 b.a.plus.counts.length 0 1 false b.a.plus.counts.length, .hsl n1 b.a.minus.counts.length 0 1 false b.a.minus.counts.length], .i (.s (.int .i64 b.b))] ∧ getCells h n0 b.a.plus.counts.length = some (rows b.a.plus.counts) ∧ getCells h n1 b.a.minus.counts.length = some (rows b.a.minus.counts) ∧ n1 ≠ n0
def oo_impl_CounterAdd (b : T2 TCounter Int) (h : Heap) (v : V) (h2 : Heap) : Prop := Keep [] h h2 ∧ ∃ n0 : Nat, ∃ n1 : Nat, v = .tup [.agg [.hsl n0 b.a.plus.counts.length 0 1 false b.a.plus.counts.length, .hsl n1 b.a.minus.counts.length 0 1 false b.a.minus.counts.length], .i (.s (.int .i64 b.b))] ∧ n0 < h2.length ∧ h.length ≤ n0 ∧ getCells h2 n0 b.a.plus.counts.length = some (rows b.a.plus.counts) ∧ n1 < h2.length ∧ h.length ≤ n1 ∧ getCells h2 n1 b.a.minus.counts.length = some (rows b.a.minus.counts) ∧ n1 ≠ n0
def k_impl_CounterAdd (F : Fun) : Prop := ∀ (x0 : TCounter) (x1 : Int) (x2 : Int) (b : T2 TCounter Int), p_impl_CounterAdd x0 x1 x2 = some b → ∀ (h : Heap) (args : List V), snapA 9 false h args = some (encA (x0, x1, x2)) → ∃ p, F none args h = some p ∧ oo_impl_CounterAdd b h p.1 p.2
set_option maxHeartbeats 10000000 in
theorem w_impl_CounterAdd {P : Program} {env : Env} {f_impl_counterOK : Nat} {f_impl_isActor : Nat} {f_impl_vecCopy : Nat}  (ep_impl_counterOK : env (2 * f_impl_counterOK) = pureFn true (FA fun a : TCounter => p_impl_counterOK a)) (ep_impl_isActor : env (2 * f_impl_isActor) = pureFn true (FA fun a : Int => p_impl_isActor a)) (e_impl_vecCopy : k_impl_vecCopy (env (2 * f_impl_vecCopy + 1))) (x0 : TCounter) (x1 : Int) (x2 : Int) {b : T2 TCounter Int} (hp : p_impl_CounterAdd x0 x1 x2 = some b) : R P env (c_impl_CounterAdd f_impl_counterOK f_impl_isActor f_impl_vecCopy) ((encA (x0, x1, x2)).map ofI) [] (o_impl_CounterAdd b) := by
  refine R_of (by simp [c_impl_CounterAdd, encA]) ?_
  have E := And.intro ep_impl_counterOK ep_impl_isActor
  unfold c_impl_CounterAdd
  unfold p_impl_CounterAdd at hp
  obtain ⟨v0, hv0, hp⟩ := bind_eq hp
  by_cases hb1 : (v0) = true
  · rw [if_t hb1] at hp
    obtain ⟨v2, hv2, hp⟩ := bind_eq hp
    by_cases hb3 : (v2) = true
    · rw [if_t hb3] at hp
      by_cases hb4 : (decide (x2 < (-1000000000000))) = true
      · rw [if_t hb4] at hp
        have hp := Option.some.inj hp
        subst hp
        simp (maxSteps := 2000000) (disch := first|omega|(simp only[ls];first|done|omega)) only [E, hv0, hb1, hv2, hb3, hb4, gm]
        refine ⟨4, 5, ?_⟩
        simp (maxSteps := 2000000) (disch := first|omega|(simp only[ls];first|done|omega)) only [E, hv0, hb1, hv2, hb3, hb4, o_impl_CounterAdd, gm] <;> omega
      · replace hb4 := eq_false_of_ne_true hb4
        rw [if_f hb4] at hp
        by_cases hb5 : (decide (1000000000000 < x2)) = true
        · rw [if_t hb5] at hp
          have hp := Option.some.inj hp
          subst hp
          simp (maxSteps := 2000000) (disch := first|omega|(simp only[ls];first|done|omega)) only [E, hv0, hb1, hv2, hb3, hb4, hb5, gm]
          refine ⟨4, 5, ?_⟩
          simp (maxSteps := 2000000) (disch := first|omega|(simp only[ls];first|done|omega)) only [E, hv0, hb1, hv2, hb3, hb4, hb5, o_impl_CounterAdd, gm] <;> omega
        · replace hb5 := eq_false_of_ne_true hb5
          rw [if_f hb5] at hp
          obtain ⟨v6, hv6, hp⟩ := bind_eq hp
          simp (maxSteps := 2000000) (disch := first|omega|(simp only[ls];first|done|omega)) only [E, hv0, hb1, hv2, hb3, hb4, hb5, gm]
          refine call_f (fun h => getCells h 0 2 = some [.i (.sl 1 (x0.plus.counts.map enc)), .i (.sl 1 (x0.minus.counts.map enc))] ∧ 0 < h.length ∧ getCells h 1 0 = some [] ∧ 1 < h.length ∧ getCells h 2 0 = some [] ∧ 2 < h.length ∧ getCells h 3 2 = some [.hsl 1 0 0 1 false 0, .hsl 2 0 0 1 false 0] ∧ 3 < h.length ∧ h[4]? = some .free ∧ 4 < h.length) (fun h v h2 => oo_impl_vecCopy v6 h v h2) ?_ ?_ ?_
          · simp (maxSteps := 2000000) (disch := first|omega|(simp only[ls];first|done|omega)) only [E, hv0, hb1, hv2, hb3, hb4, hb5, hv6, gm] <;> omega
          · rintro h ⟨c0_0, c0_1, c0_2, c0_3, c0_4, c0_5, c0_6, c0_7, c0_8, c0_9⟩
            exact e_impl_vecCopy _ _ hv6 h _ (by simp (maxSteps := 2000000) (disch := first|omega|(simp only[ls];first|done|omega)) only [E, hv0, hb1, hv2, hb3, hb4, hb5, hv6, c0_0, c0_1, c0_2, c0_3, c0_4, c0_5, c0_6, c0_7, c0_8, c0_9, gm])
          · rintro hc0 v hh0 ⟨c0_0, c0_1, c0_2, c0_3, c0_4, c0_5, c0_6, c0_7, c0_8, c0_9⟩ hpost
            obtain ⟨kk0, nb0_0, rfl, lnb0_0, gnb0_0, wnb0_0⟩ := hpost
            have d0_0 : getCells hh0 0 2 = some [.i (.sl 1 (x0.plus.counts.map enc)), .i (.sl 1 (x0.minus.counts.map enc))] := (keep_get kk0 c0_1 (by first | (simp; done) | (simp; omega))).trans c0_0
            have d0_0l := keep_lt kk0 c0_1
            have d0_1 : getCells hh0 1 0 = some [] := (keep_get kk0 c0_3 (by first | (simp; done) | (simp; omega))).trans c0_2
            have d0_1l := keep_lt kk0 c0_3
            have d0_2 : getCells hh0 2 0 = some [] := (keep_get kk0 c0_5 (by first | (simp; done) | (simp; omega))).trans c0_4
            have d0_2l := keep_lt kk0 c0_5
            have d0_3 : getCells hh0 3 2 = some [.hsl 1 0 0 1 false 0, .hsl 2 0 0 1 false 0] := (keep_get kk0 c0_7 (by first | (simp; done) | (simp; omega))).trans c0_6
            have d0_3l := keep_lt kk0 c0_7
            have d0_4 : hh0[4]? = some .free := free_keep2 kk0 c0_8 (by first | (simp; done) | (simp; omega))
            have d0_4l := free_lt d0_4
            have d0_5 := wnb0_0
            obtain ⟨v7, hv7, hp⟩ := bind_eq hp
            simp (maxSteps := 2000000) (disch := first|omega|(simp only[ls];first|done|omega)) only [E, hv0, hb1, hv2, hb3, hb4, hb5, hv6, d0_0, d0_1, d0_2, d0_3, d0_4, d0_5, gm]
            refine call_f (fun h => getCells h 0 2 = some [.i (.sl 1 (x0.plus.counts.map enc)), .i (.sl 1 (x0.minus.counts.map enc))] ∧ 0 < h.length ∧ getCells h 1 0 = some [] ∧ 1 < h.length ∧ getCells h 2 0 = some [] ∧ 2 < h.length ∧ getCells h 3 2 = some [.hsl 1 0 0 1 false 0, .hsl 2 0 0 1 false 0] ∧ 3 < h.length ∧ h[4]? = some .free ∧ 4 < h.length ∧ getCells h nb0_0 v6.counts.length = some (rows (v6.counts : List Int)) ∧ nb0_0 < h.length) (fun h v h2 => oo_impl_vecCopy v7 h v h2) ?_ ?_ ?_
            · simp (maxSteps := 2000000) (disch := first|omega|(simp only[ls];first|done|omega)) only [E, hv0, hb1, hv2, hb3, hb4, hb5, hv6, d0_0, d0_1, d0_2, d0_3, d0_4, d0_5, hv7, gm] <;> omega
            · rintro h ⟨c1_0, c1_1, c1_2, c1_3, c1_4, c1_5, c1_6, c1_7, c1_8, c1_9, c1_10, c1_11⟩
              exact e_impl_vecCopy _ _ hv7 h _ (by simp (maxSteps := 2000000) (disch := first|omega|(simp only[ls];first|done|omega)) only [E, hv0, hb1, hv2, hb3, hb4, hb5, hv6, d0_0, d0_1, d0_2, d0_3, d0_4, d0_5, hv7, c1_0, c1_1, c1_2, c1_3, c1_4, c1_5, c1_6, c1_7, c1_8, c1_9, c1_10, c1_11, gm])
            · rintro hc1 v hh1 ⟨c1_0, c1_1, c1_2, c1_3, c1_4, c1_5, c1_6, c1_7, c1_8, c1_9, c1_10, c1_11⟩ hpost
              obtain ⟨kk1, nb1_0, rfl, lnb1_0, gnb1_0, wnb1_0⟩ := hpost
              have d1_0 : getCells hh1 0 2 = some [.i (.sl 1 (x0.plus.counts.map enc)), .i (.sl 1 (x0.minus.counts.map enc))] := (keep_get kk1 c1_1 (by first | (simp; done) | (simp; omega))).trans c1_0
              have d1_0l := keep_lt kk1 c1_1
              have d1_1 : getCells hh1 1 0 = some [] := (keep_get kk1 c1_3 (by first | (simp; done) | (simp; omega))).trans c1_2
              have d1_1l := keep_lt kk1 c1_3
              have d1_2 : getCells hh1 2 0 = some [] := (keep_get kk1 c1_5 (by first | (simp; done) | (simp; omega))).trans c1_4
              have d1_2l := keep_lt kk1 c1_5
              have d1_3 : getCells hh1 3 2 = some [.hsl 1 0 0 1 false 0, .hsl 2 0 0 1 false 0] := (keep_get kk1 c1_7 (by first | (simp; done) | (simp; omega))).trans c1_6
              have d1_3l := keep_lt kk1 c1_7
              have d1_4 : hh1[4]? = some .free := free_keep2 kk1 c1_8 (by first | (simp; done) | (simp; omega))
              have d1_4l := free_lt d1_4
              have d1_5 : getCells hh1 nb0_0 v6.counts.length = some (rows (v6.counts : List Int)) := (keep_get kk1 c1_11 (by first | (simp; done) | (simp; omega))).trans c1_10
              have d1_5l := keep_lt kk1 c1_11
              have d1_6 := wnb1_0
              by_cases hb8 : (decide (x2 < 0)) = true
              · rw [if_t hb8] at hp
                obtain ⟨v9, hv9, hp⟩ := bind_eq hp
                have gv9 := get_some hv9
                have hl10 : List.take 1 (List.drop x1.toNat (rows v7.counts)) = [.i (.s (.int .i64 v9))] := by simpa [zs, cellsV, I.cells, enc_int] using rows_get_off (k := 0) (m := 1) gv9.2.2 (Nat.le_of_ble_eq_true rfl)
                by_cases hb11 : (decide (1000000000000 < w64 (v9 + (w64 (0 - x2))))) = true
                · rw [if_t hb11] at hp
                  have hp := Option.some.inj hp
                  subst hp
                  simp (maxSteps := 2000000) (disch := first|omega|(simp only[ls];first|done|omega)) only [E, hv0, hb1, hv2, hb3, hb4, hb5, hv6, d0_0, d0_1, d0_2, d0_3, d0_4, d0_5, hv7, d1_0, d1_1, d1_2, d1_3, d1_4, d1_5, d1_6, hb8, hv9, (gv9).1, (gv9).2.1, hl10, hb11, gm]
                  refine ⟨hh1.length, hh1.length + 1, ?_⟩
                  simp (maxSteps := 2000000) (disch := first|omega|(simp only[ls];first|done|omega)) only [E, hv0, hb1, hv2, hb3, hb4, hb5, hv6, d0_0, d0_1, d0_2, d0_3, d0_4, d0_5, hv7, d1_0, d1_1, d1_2, d1_3, d1_4, d1_5, d1_6, hb8, hv9, (gv9).1, (gv9).2.1, hl10, hb11, o_impl_CounterAdd, gm] <;> omega
                · replace hb11 := eq_false_of_ne_true hb11
                  rw [if_f hb11] at hp
                  have hl12 : List.take 1 (List.drop x1.toNat (rows v7.counts)) = [.i (.s (.int .i64 v9))] := by simpa [zs, cellsV, I.cells, enc_int] using rows_get_off (k := 0) (m := 1) gv9.2.2 (Nat.le_of_ble_eq_true rfl)
                  have hs13 : List.take x1.toNat (rows v7.counts) ++ .i (.s (.int .i64 (w64 (v9 + (w64 (0 - x2)))))) :: List.drop (x1.toNat + 1) (rows v7.counts) = rows (v7.counts.set x1.toNat (w64 (v9 + (w64 (0 - x2))))) := by simpa [splice, zs, cellsV, I.cells, enc_int] using rows_set_off (y := w64 (v9 + (w64 (0 - x2)))) (ys := [.i (.s (.int .i64 (w64 (v9 + (w64 (0 - x2))))))]) (k := 0) gv9.2.2 (Nat.le_of_ble_eq_true rfl) (by rfl)
                  have hp := Option.some.inj hp
                  subst hp
                  simp (maxSteps := 2000000) (disch := first|omega|(simp only[ls];first|done|omega)) only [E, hv0, hb1, hv2, hb3, hb4, hb5, hv6, d0_0, d0_1, d0_2, d0_3, d0_4, d0_5, hv7, d1_0, d1_1, d1_2, d1_3, d1_4, d1_5, d1_6, hb8, hv9, (gv9).1, (gv9).2.1, hl10, hb11, hl12, hs13, gm]
                  refine ⟨nb0_0, nb1_0, ?_⟩
                  simp (maxSteps := 2000000) (disch := first|omega|(simp only[ls];first|done|omega)) only [E, hv0, hb1, hv2, hb3, hb4, hb5, hv6, d0_0, d0_1, d0_2, d0_3, d0_4, d0_5, hv7, d1_0, d1_1, d1_2, d1_3, d1_4, d1_5, d1_6, hb8, hv9, (gv9).1, (gv9).2.1, hl10, hb11, hl12, hs13, o_impl_CounterAdd, (show ((v7.counts.set x1.toNat (w64 (v9 + (w64 (0 - x2)))))).length = v7.counts.length from by first | omega | rfl | (simp; done) | (simp; omega)), gm] <;> omega
              · replace hb8 := eq_false_of_ne_true hb8
                rw [if_f hb8] at hp
                obtain ⟨v14, hv14, hp⟩ := bind_eq hp
                have gv14 := get_some hv14
                have hl15 : List.take 1 (List.drop x1.toNat (rows v6.counts)) = [.i (.s (.int .i64 v14))] := by simpa [zs, cellsV, I.cells, enc_int] using rows_get_off (k := 0) (m := 1) gv14.2.2 (Nat.le_of_ble_eq_true rfl)
                by_cases hb16 : (decide (1000000000000 < w64 (v14 + x2))) = true
                · rw [if_t hb16] at hp
                  have hp := Option.some.inj hp
                  subst hp
                  simp (maxSteps := 2000000) (disch := first|omega|(simp only[ls];first|done|omega)) only [E, hv0, hb1, hv2, hb3, hb4, hb5, hv6, d0_0, d0_1, d0_2, d0_3, d0_4, d0_5, hv7, d1_0, d1_1, d1_2, d1_3, d1_4, d1_5, d1_6, hb8, hv14, (gv14).1, (gv14).2.1, hl15, hb16, gm]
                  refine ⟨hh1.length, hh1.length + 1, ?_⟩
                  simp (maxSteps := 2000000) (disch := first|omega|(simp only[ls];first|done|omega)) only [E, hv0, hb1, hv2, hb3, hb4, hb5, hv6, d0_0, d0_1, d0_2, d0_3, d0_4, d0_5, hv7, d1_0, d1_1, d1_2, d1_3, d1_4, d1_5, d1_6, hb8, hv14, (gv14).1, (gv14).2.1, hl15, hb16, o_impl_CounterAdd, gm] <;> omega
                · replace hb16 := eq_false_of_ne_true hb16
                  rw [if_f hb16] at hp
                  have hl17 : List.take 1 (List.drop x1.toNat (rows v6.counts)) = [.i (.s (.int .i64 v14))] := by simpa [zs, cellsV, I.cells, enc_int] using rows_get_off (k := 0) (m := 1) gv14.2.2 (Nat.le_of_ble_eq_true rfl)
                  have hs18 : List.take x1.toNat (rows v6.counts) ++ .i (.s (.int .i64 (w64 (v14 + x2)))) :: List.drop (x1.toNat + 1) (rows v6.counts) = rows (v6.counts.set x1.toNat (w64 (v14 + x2))) := by simpa [splice, zs, cellsV, I.cells, enc_int] using rows_set_off (y := w64 (v14 + x2)) (ys := [.i (.s (.int .i64 (w64 (v14 + x2))))]) (k := 0) gv14.2.2 (Nat.le_of_ble_eq_true rfl) (by rfl)
                  have hp := Option.some.inj hp
                  subst hp
                  simp (maxSteps := 2000000) (disch := first|omega|(simp only[ls];first|done|omega)) only [E, hv0, hb1, hv2, hb3, hb4, hb5, hv6, d0_0, d0_1, d0_2, d0_3, d0_4, d0_5, hv7, d1_0, d1_1, d1_2, d1_3, d1_4, d1_5, d1_6, hb8, hv14, (gv14).1, (gv14).2.1, hl15, hb16, hl17, hs18, gm]
                  refine ⟨nb0_0, nb1_0, ?_⟩
                  simp (maxSteps := 2000000) (disch := first|omega|(simp only[ls];first|done|omega)) only [E, hv0, hb1, hv2, hb3, hb4, hb5, hv6, d0_0, d0_1, d0_2, d0_3, d0_4, d0_5, hv7, d1_0, d1_1, d1_2, d1_3, d1_4, d1_5, d1_6, hb8, hv14, (gv14).1, (gv14).2.1, hl15, hb16, hl17, hs18, o_impl_CounterAdd, (show ((v6.counts.set x1.toNat (w64 (v14 + x2)))).length = v6.counts.length from by first | omega | rfl | (simp; done) | (simp; omega)), gm] <;> omega
    · replace hb3 := eq_false_of_ne_true hb3
      rw [if_f hb3] at hp
      have hp := Option.some.inj hp
      subst hp
      simp (maxSteps := 2000000) (disch := first|omega|(simp only[ls];first|done|omega)) only [E, hv0, hb1, hv2, hb3, gm]
      refine ⟨4, 5, ?_⟩
      simp (maxSteps := 2000000) (disch := first|omega|(simp only[ls];first|done|omega)) only [E, hv0, hb1, hv2, hb3, o_impl_CounterAdd, gm] <;> omega
  · replace hb1 := eq_false_of_ne_true hb1
    rw [if_f hb1] at hp
    have hp := Option.some.inj hp
    subst hp
    simp (maxSteps := 2000000) (disch := first|omega|(simp only[ls];first|done|omega)) only [E, hv0, hb1, gm]
    refine ⟨4, 5, ?_⟩
    simp (maxSteps := 2000000) (disch := first|omega|(simp only[ls];first|done|omega)) only [E, hv0, hb1, o_impl_CounterAdd, gm] <;> omega
theorem ko_impl_CounterAdd {P : Program} {env : Env} {f_impl_counterOK : Nat} {f_impl_isActor : Nat} {f_impl_vecCopy : Nat}  (ep_impl_counterOK : env (2 * f_impl_counterOK) = pureFn true (FA fun a : TCounter => p_impl_counterOK a)) (ep_impl_isActor : env (2 * f_impl_isActor) = pureFn true (FA fun a : Int => p_impl_isActor a)) (e_impl_vecCopy : k_impl_vecCopy (env (2 * f_impl_vecCopy + 1))) : k_impl_CounterAdd (ownFn P env (c_impl_CounterAdd f_impl_counterOK f_impl_isActor f_impl_vecCopy)) := by
  intro x0 x1 x2 b hp h args has
  obtain ⟨⟨v, H2⟩, hr, n0, n1, rfl, wn0, wn1, ne1_0⟩ := w_impl_CounterAdd ep_impl_counterOK ep_impl_isActor e_impl_vecCopy x0 x1 x2 hp
  exact ⟨_, own_call has hr rfl, keep_moved, n0 + h.length, n1 + h.length, rfl, (moved_lt wn0).2, (moved_lt wn0).1, moved_rows wn0, (moved_lt wn1).2, (moved_lt wn1).1, moved_rows wn1, by omega⟩

noncomputable def p_laws_eqIntS_l0 (x0 : List Int) (x1 : List Int) : Int → Option (Lp (Int) Bool)
  | s1 =>
    if (decide (s1 < (x0.length : Int))) = true then
      (get? x0 s1).bind fun v3 =>
      (get? x1 s1).bind fun v4 =>
      if (decide (v3 = v4)) = true then
        some (.go (w64 (s1 + 1)))
      else
        some (.ret false)
    else
      some (.out s1)
noncomputable def p_laws_eqIntS (x0 : List Int) (x1 : List Int) : Option Bool :=
  if (decide ((x0.length : Int) = (x1.length : Int))) = true then
    (loopP (p_laws_eqIntS_l0 x0 x1) 0).bind fun ee0 => match ee0 with
    | .ret r => some r
    | .out o6 =>
      some true
  else
    some false
def c_laws_eqIntS : AFn := ⟨26, (.seq (.ops [(qS 4 (.mv (.const (.bool false))))]) (.seq (.seq (.ops [(qS 6 (.mv (.tmp 0))), (qS 7 (.len (.tmp 6))), (qS 8 (.mv (.tmp 1))), (qS 9 (.len (.tmp 8))), (qS 10 (.pu (.n (.ar .neq)) [(.tmp 7), (.tmp 9)]))]) (.cond (.tmp 10) (.seq (.ops [(qS 4 (.mv (.const (.bool false))))]) .ret) .skip)) (.seq (.seq (.ops [(qS 5 (.mv (ic 0)))]) (.block 0 (.loop (.seq (.seq (.ops [(qS 11 (.mv (.tmp 5))), (qS 12 (.mv (.tmp 0))), (qS 13 (.len (.tmp 12))), (qS 14 (.pu (.n (.ar .lss)) [(.tmp 11), (.tmp 13)]))]) (.cond (.tmp 14) .skip (.exit 0))) (.seq (.block 1 (.seq (.ops [(qS 17 (.mv (.tmp 0))), (qS 18 (.mv (.tmp 5))), (qS 19 (.idxS 1 (.tmp 17) (.tmp 18))), (qS 20 (.load 1 false (.tmp 19))), (qS 21 (.mv (.tmp 1))), (qS 22 (.mv (.tmp 5))), (qS 23 (.idxS 1 (.tmp 21) (.tmp 22))), (qS 24 (.load 1 false (.tmp 23))), (qS 25 (.pu (.n (.ar .neq)) [(.tmp 20), (.tmp 24)]))]) (.cond (.tmp 25) (.seq (.ops [(qS 4 (.mv (.const (.bool false))))]) .ret) .skip))) (.ops [(qS 15 (.mv (.tmp 5))), (qS 16 (.pu (.n (.ar .add)) [(.tmp 15), (ic 1)])), (qS 5 (.mv (.tmp 16)))])))))) (.seq (.ops [(qS 4 (.mv (.const (.bool true))))]) .ret)))), [(.tmp 4)]⟩
set_option maxHeartbeats 10000000 in
theorem d_laws_eqIntS {P : Program} {env : Env}  (x0 : List Int) (x1 : List Int) {b : Bool} (hp : p_laws_eqIntS x0 x1 = some b) : R P env (c_laws_eqIntS) ((encA (x0, x1)).map ofI) [] (Tells true b) := by
  refine R_of (by simp [c_laws_eqIntS, encA]) ?_
  unfold c_laws_eqIntS
  unfold p_laws_eqIntS at hp
  by_cases hb0 : (decide ((x0.length : Int) = (x1.length : Int))) = true
  · rw [if_t hb0] at hp
    obtain ⟨ee0, hee0, hp⟩ := bind_eq hp
    simp (maxSteps := 2000000) (disch := first|omega|(simp only[ls];first|done|omega)) only [hb0, gm]
    refine W_loopP 0 (fun s t h => match s with | s1 => t 0 = .i (.sl 1 (x0.map enc)) ∧ t 1 = .i (.sl 1 (x1.map enc)) ∧ t 5 = .i (.s (.int .i64 s1))) (RK [.tmp 4] (Tells true)) ?_ hee0 ?_ ?_
    · rintro s1 ee tt0 hh0 ⟨ftt0_0, ftt0_1, ftt0_2⟩ hp
      rw [p_laws_eqIntS_l0] at hp
      by_cases hb2 : (decide (s1 < (x0.length : Int))) = true
      · rw [if_t hb2] at hp
        obtain ⟨v3, hv3, hp⟩ := bind_eq hp
        obtain ⟨v4, hv4, hp⟩ := bind_eq hp
        by_cases hb5 : (decide (v3 = v4)) = true
        · rw [if_t hb5] at hp
          have hp := Option.some.inj hp
          subst hp
          simp (maxSteps := 2000000) (disch := first|omega|(simp only[ls];first|done|omega)) only [hb0, ftt0_0, ftt0_1, ftt0_2, hb2, hv3, hv4, hb5, gm] <;> omega
        · replace hb5 := eq_false_of_ne_true hb5
          rw [if_f hb5] at hp
          have hp := Option.some.inj hp
          subst hp
          simp (maxSteps := 2000000) (disch := first|omega|(simp only[ls];first|done|omega)) only [hb0, ftt0_0, ftt0_1, ftt0_2, hb2, hv3, hv4, hb5, gm]
      · replace hb2 := eq_false_of_ne_true hb2
        rw [if_f hb2] at hp
        have hp := Option.some.inj hp
        subst hp
        simp (maxSteps := 2000000) (disch := first|omega|(simp only[ls];first|done|omega)) only [hb0, ftt0_0, ftt0_1, ftt0_2, hb2, gm] <;> omega
    · simp (maxSteps := 2000000) (disch := first|omega|(simp only[ls];first|done|omega)) only [hb0, gm] <;> omega
    · intro x tt1 hh1 hx
      rcases ee0 with o6 | r
      · obtain ⟨rfl, ftt1_0, ftt1_1, ftt1_2⟩ := hx
        dsimp only at hp
        have hp := Option.some.inj hp
        subst hp
        simp (maxSteps := 2000000) (disch := first|omega|(simp only[ls];first|done|omega)) only [hb0, ftt1_0, ftt1_1, ftt1_2, gm]
      · obtain ⟨rfl, hx⟩ := hx
        dsimp only at hp
        cases hp
        simp only [seqK_ret, blockK_ret, retK_RK (K := Tells true), hx, and_self, true_and]
  · replace hb0 := eq_false_of_ne_true hb0
    rw [if_f hb0] at hp
    have hp := Option.some.inj hp
    subst hp
    simp (maxSteps := 2000000) (disch := first|omega|(simp only[ls];first|done|omega)) only [hb0, gm]

noncomputable def p_laws_eqVector (x0 : TVec) (x1 : TVec) : Option Bool :=
  (p_laws_eqIntS x0.counts x1.counts).bind fun v0 =>
  if (v0) = true then
    some true
  else
    some false
def c_laws_eqVector (f_laws_eqIntS : Nat) : AFn := ⟨11, (.seq (.ops [(qS 2 (.box (.tmp 0))), (qS 3 (.box (.tmp 1))), (qS 4 (.mv (.const (.bool false))))]) (.seq (.seq (.ops [(qS 5 (.fieldA 0 (.tmp 2))), (qS 6 (.load 1 false (.tmp 5))), (qS 7 (.fieldA 0 (.tmp 3))), (qS 8 (.load 1 false (.tmp 7))), (qS 9 (.call (2 * f_laws_eqIntS) [(.tmp 6), (.tmp 8)])), (qS 10 (.pu (.n (.un .not)) [(.tmp 9)]))]) (.cond (.tmp 10) (.seq (.ops [(qS 4 (.mv (.const (.bool false))))]) .ret) .skip)) (.seq (.ops [(qS 4 (.mv (.const (.bool true))))]) .ret))), [(.tmp 4)]⟩
set_option maxHeartbeats 10000000 in
theorem d_laws_eqVector {P : Program} {env : Env} {f_laws_eqIntS : Nat}  (ep_laws_eqIntS : env (2 * f_laws_eqIntS) = pureFn true (FA fun a : List Int × List Int => p_laws_eqIntS a.1 a.2)) (x0 : TVec) (x1 : TVec) {b : Bool} (hp : p_laws_eqVector x0 x1 = some b) : R P env (c_laws_eqVector f_laws_eqIntS) ((encA (x0, x1)).map ofI) [] (Tells true b) := by
  refine R_of (by simp [c_laws_eqVector, encA]) ?_
  have E := ep_laws_eqIntS
  unfold c_laws_eqVector
  unfold p_laws_eqVector at hp
  obtain ⟨v0, hv0, hp⟩ := bind_eq hp
  by_cases hb1 : (v0) = true
  · rw [if_t hb1] at hp
    have hp := Option.some.inj hp
    subst hp
    simp (maxSteps := 2000000) (disch := first|omega|(simp only[ls];first|done|omega)) only [E, hv0, hb1, gm]
  · replace hb1 := eq_false_of_ne_true hb1
    rw [if_f hb1] at hp
    have hp := Option.some.inj hp
    subst hp
    simp (maxSteps := 2000000) (disch := first|omega|(simp only[ls];first|done|omega)) only [E, hv0, hb1, gm]

noncomputable def p_laws_eqCounter (x0 : TCounter) (x1 : TCounter) : Option Bool :=
  (p_laws_eqVector x0.plus x1.plus).bind fun v0 =>
  if (v0) = true then
    (p_laws_eqVector x0.minus x1.minus).bind fun v2 =>
    if (v2) = true then
      some true
    else
      some false
  else
    some false
def c_laws_eqCounter (f_laws_eqVector : Nat) : AFn := ⟨17, (.seq (.ops [(qS 2 (.box (.tmp 0))), (qS 3 (.box (.tmp 1))), (qS 4 (.mv (.const (.bool false))))]) (.seq (.seq (.ops [(qS 5 (.fieldA 0 (.tmp 2))), (qS 6 (.load 1 true (.tmp 5))), (qS 7 (.fieldA 0 (.tmp 3))), (qS 8 (.load 1 true (.tmp 7))), (qS 9 (.call (2 * f_laws_eqVector) [(.tmp 6), (.tmp 8)])), (qS 10 (.pu (.n (.un .not)) [(.tmp 9)]))]) (.cond (.tmp 10) (.seq (.ops [(qS 4 (.mv (.const (.bool false))))]) .ret) .skip)) (.seq (.seq (.ops [(qS 11 (.fieldA 1 (.tmp 2))), (qS 12 (.load 1 true (.tmp 11))), (qS 13 (.fieldA 1 (.tmp 3))), (qS 14 (.load 1 true (.tmp 13))), (qS 15 (.call (2 * f_laws_eqVector) [(.tmp 12), (.tmp 14)])), (qS 16 (.pu (.n (.un .not)) [(.tmp 15)]))]) (.cond (.tmp 16) (.seq (.ops [(qS 4 (.mv (.const (.bool false))))]) .ret) .skip)) (.seq (.ops [(qS 4 (.mv (.const (.bool true))))]) .ret)))), [(.tmp 4)]⟩
set_option maxHeartbeats 10000000 in
theorem d_laws_eqCounter {P : Program} {env : Env} {f_laws_eqVector : Nat}  (ep_laws_eqVector : env (2 * f_laws_eqVector) = pureFn true (FA fun a : TVec × TVec => p_laws_eqVector a.1 a.2)) (x0 : TCounter) (x1 : TCounter) {b : Bool} (hp : p_laws_eqCounter x0 x1 = some b) : R P env (c_laws_eqCounter f_laws_eqVector) ((encA (x0, x1)).map ofI) [] (Tells true b) := by
  refine R_of (by simp [c_laws_eqCounter, encA]) ?_
  have E := ep_laws_eqVector
  unfold c_laws_eqCounter
  unfold p_laws_eqCounter at hp
  obtain ⟨v0, hv0, hp⟩ := bind_eq hp
  by_cases hb1 : (v0) = true
  · rw [if_t hb1] at hp
    obtain ⟨v2, hv2, hp⟩ := bind_eq hp
    by_cases hb3 : (v2) = true
    · rw [if_t hb3] at hp
      have hp := Option.some.inj hp
      subst hp
      simp (maxSteps := 2000000) (disch := first|omega|(simp only[ls];first|done|omega)) only [E, hv0, hb1, hv2, hb3, gm]
    · replace hb3 := eq_false_of_ne_true hb3
      rw [if_f hb3] at hp
      have hp := Option.some.inj hp
      subst hp
      simp (maxSteps := 2000000) (disch := first|omega|(simp only[ls];first|done|omega)) only [E, hv0, hb1, hv2, hb3, gm]
  · replace hb1 := eq_false_of_ne_true hb1
    rw [if_f hb1] at hp
    have hp := Option.some.inj hp
    subst hp
    simp (maxSteps := 2000000) (disch := first|omega|(simp only[ls];first|done|omega)) only [E, hv0, hb1, gm]

noncomputable def p_laws_markIntS_l0 : List Int × Int × Int → Option (Lp (List Int × Int × Int) (T2 Int (List Int)))
  | (s0, s1, s2) =>
    if (decide (s2 < (s0.length : Int))) = true then
      (get? s0 s2).bind fun v5 =>
      some (.go ((s0.set s2.toNat s1), w64 (s1 + 1), w64 (s2 + 1)))
    else
      some (.out (s0, s1, s2))
noncomputable def p_laws_markIntS (x0 : List Int) (x1 : Int) : Option (T2 Int (List Int)) :=
  (loopP (p_laws_markIntS_l0) (x0, x1, 0)).bind fun ee0 => match ee0 with
  | .ret r => some r
  | .out (o7, o8, o9) =>
    some ⟨o8, o7⟩
def c_laws_markIntS : AFn := ⟨19, (.seq (.ops [(qS 4 (.mv (ic 0)))]) (.seq (.seq (.ops [(qS 5 (.mv (ic 0)))]) (.block 0 (.loop (.seq (.seq (.ops [(qS 6 (.mv (.tmp 5))), (qS 7 (.mv (.tmp 0))), (qS 8 (.len (.tmp 7))), (qS 9 (.pu (.n (.ar .lss)) [(.tmp 6), (.tmp 8)]))]) (.cond (.tmp 9) .skip (.exit 0))) (.seq (.block 1 (.seq (.ops [(qS 12 (.mv (.tmp 0))), (qS 13 (.mv (.tmp 5))), (qS 14 (.mv (.tmp 1))), (qS 15 (.idxS 1 (.tmp 12) (.tmp 13))), ⟨.none, (.storeV [(0, false)] 1 (.tmp 15) (.tmp 14)), .none, [], .none⟩]) (.ops [(qS 16 (.mv (.tmp 1))), (qS 17 (.pu (.n (.ar .add)) [(.tmp 16), (ic 1)])), (qS 1 (.mv (.tmp 17)))]))) (.ops [(qS 10 (.mv (.tmp 5))), (qS 11 (.pu (.n (.ar .add)) [(.tmp 10), (ic 1)])), (qS 5 (.mv (.tmp 11)))])))))) (.seq (.ops [(qS 18 (.mv (.tmp 1))), (qS 4 (.mv (.tmp 18)))]) .ret))), [(.tmp 4)]⟩
def i_laws_markIntS (pb0 pn0 : Nat) (h : Heap) (b : T2 Int (List Int)) (v : V) (h2 : Heap) : Prop := Keep [pb0] h h2 ∧ v = .i (.s (.int .i64 b.a)) ∧ getCells h2 pb0 pn0 = some (rows b.b)
def k_laws_markIntS (F : Fun) : Prop := ∀ (x0 : List Int) (x1 : Int) (b : T2 Int (List Int)), p_laws_markIntS x0 x1 = some b → ∀ (pb0 pn0 : Nat) (h : Heap), pn0 = (x0).length → getCells h pb0 pn0 = some (rows x0) → ∃ p, F none [.hsl pb0 pn0 0 1 false pn0, .i (.s (.int .i64 x1))] h = some p ∧ i_laws_markIntS pb0 pn0 h b p.1 p.2
set_option maxHeartbeats 10000000 in
theorem w_laws_markIntS {P : Program} {env : Env}  (x0 : List Int) (x1 : Int) {b : T2 Int (List Int)} (hp : p_laws_markIntS x0 x1 = some b) (pb0 pn0 : Nat) (hh : Heap) (pm0 : pn0 = (x0).length) (pf0 : getCells hh pb0 pn0 = some (rows x0)) : R P env (c_laws_markIntS) [.hsl pb0 pn0 0 1 false pn0, .i (.s (.int .i64 x1))] hh (i_laws_markIntS pb0 pn0 hh b) := by
  have pl0 := gc_lt pf0
  have pg0 : getCells hh pb0 x0.length = some (rows x0) := by rw [← pm0]; exact pf0
  refine R_of (by simp [c_laws_markIntS, encA]) ?_
  unfold c_laws_markIntS
  unfold p_laws_markIntS at hp
  obtain ⟨ee0, hee0, hp⟩ := bind_eq hp
  simp (maxSteps := 2000000) (disch := first|omega|(simp only[ls];first|done|omega)) only [pf0, pg0, gm]
  refine W_loopP 0 (fun s t h => match s with | (s0, s1, s2) => t 0 = .hsl pb0 pn0 0 1 false pn0 ∧ t 1 = .i (.s (.int .i64 s1)) ∧ t 5 = .i (.s (.int .i64 s2)) ∧ getCells h pb0 pn0 = some (rows (s0 : List Int)) ∧ pb0 < h.length ∧ Keep [pb0] hh h) (RK [.tmp 4] (i_laws_markIntS pb0 pn0 hh)) ?_ hee0 ?_ ?_
  · rintro ⟨s0, s1, s2⟩ ee tt0 hh0 ⟨ftt0_0, ftt0_1, ftt0_2, ftt0_3, ftt0_4, ftt0_5⟩ hp
    have ztt0_3 := len_rows ftt0_3
    simp only [zs] at ztt0_3
    rw [p_laws_markIntS_l0] at hp
    have hz3 : ((pn0 : Nat) : Int) = (s0.length : Int) := by omega
    by_cases hb4 : (decide (s2 < (s0.length : Int))) = true
    · rw [if_t hb4] at hp
      obtain ⟨v5, hv5, hp⟩ := bind_eq hp
      have gv5 := get_some hv5
      have hs6 : List.take s2.toNat (rows s0) ++ .i (.s (.int .i64 s1)) :: List.drop (s2.toNat + 1) (rows s0) = rows (s0.set s2.toNat s1) := by simpa [splice, zs, cellsV, I.cells, enc_int] using rows_set_off (y := s1) (ys := [.i (.s (.int .i64 s1))]) (k := 0) gv5.2.2 (Nat.le_of_ble_eq_true rfl) (by rfl)
      have hp := Option.some.inj hp
      subst hp
      simp (maxSteps := 2000000) (disch := first|omega|(simp only[ls];first|done|omega)) only [i_laws_markIntS, pf0, pg0, ftt0_0, ftt0_1, ftt0_2, ftt0_3, ftt0_4, ftt0_5, hz3, hb4, hv5, (gv5).1, (gv5).2.1, hs6, gm] <;> (repeat (first | omega | assumption | rfl | exact keep_refl | refine keep_app ?_ | (refine keep_set (by first | (left; simp; done) | (right; simp; omega)) ?_) | refine And.intro ?_ ?_))
    · replace hb4 := eq_false_of_ne_true hb4
      rw [if_f hb4] at hp
      have hp := Option.some.inj hp
      subst hp
      simp (maxSteps := 2000000) (disch := first|omega|(simp only[ls];first|done|omega)) only [i_laws_markIntS, pf0, pg0, ftt0_0, ftt0_1, ftt0_2, ftt0_3, ftt0_4, ftt0_5, hz3, hb4, gm] <;> (repeat (first | omega | assumption | rfl | exact keep_refl | refine keep_app ?_ | (refine keep_set (by first | (left; simp; done) | (right; simp; omega)) ?_) | refine And.intro ?_ ?_))
  · simp (maxSteps := 2000000) (disch := first|omega|(simp only[ls];first|done|omega)) only [i_laws_markIntS, pf0, pg0, gm] <;> (repeat (first | omega | assumption | rfl | exact keep_refl | refine keep_app ?_ | (refine keep_set (by first | (left; simp; done) | (right; simp; omega)) ?_) | refine And.intro ?_ ?_))
  · intro x tt1 hh1 hx
    rcases ee0 with ⟨o7, o8, o9⟩ | r
    · obtain ⟨rfl, ftt1_0, ftt1_1, ftt1_2, ftt1_3, ftt1_4, ftt1_5⟩ := hx
      have ztt1_3 := len_rows ftt1_3
      simp only [zs] at ztt1_3
      dsimp only at hp
      have hp := Option.some.inj hp
      subst hp
      simp (maxSteps := 2000000) (disch := first|omega|(simp only[ls];first|done|omega)) only [i_laws_markIntS, pf0, pg0, ftt1_0, ftt1_1, ftt1_2, ftt1_3, ftt1_4, ftt1_5, gm] <;> (repeat (first | omega | assumption | rfl | exact keep_refl | refine keep_app ?_ | (refine keep_set (by first | (left; simp; done) | (right; simp; omega)) ?_) | refine And.intro ?_ ?_))
    · obtain ⟨rfl, hx⟩ := hx
      dsimp only at hp
      cases hp
      simp only [seqK_ret, blockK_ret, retK_RK (K := i_laws_markIntS pb0 pn0 hh), hx, and_self, true_and]
theorem ko_laws_markIntS {P : Program} {env : Env}  : k_laws_markIntS (runIn P env (c_laws_markIntS)) := by
  intro x0 x1 b hp pb0 pn0 h a0 a1
  exact w_laws_markIntS x0 x1 hp pb0 pn0 h a0 a1

noncomputable def p_laws_markVector (x0 : TVec) (x1 : Int) : Option (T2 Int TVec) :=
  (p_laws_markIntS x0.counts x1).bind fun v0 =>
  some ⟨v0.a, (TVec.mk v0.b)⟩
def c_laws_markVector (f_laws_markIntS : Nat) : AFn := ⟨10, (.seq (.ops [(qS 2 (.box (.tmp 0))), (qS 4 (.mv (ic 0)))]) (.seq (.ops [(qS 5 (.fieldA 0 (.tmp 2))), (qS 6 (.load 1 false (.tmp 5))), (qS 7 (.mv (.tmp 1))), (qS 8 (.call (2 * f_laws_markIntS + 1) [(.tmp 6), (.tmp 7)])), (qS 1 (.mv (.tmp 8)))]) (.seq (.ops [(qS 9 (.mv (.tmp 1))), (qS 4 (.mv (.tmp 9)))]) .ret))), [(.tmp 4)]⟩
def i_laws_markVector (pb0 pn0 : Nat) (h : Heap) (b : T2 Int TVec) (v : V) (h2 : Heap) : Prop := Keep [pb0] h h2 ∧ v = .i (.s (.int .i64 b.a)) ∧ getCells h2 pb0 pn0 = some (rows b.b.counts)
def k_laws_markVector (F : Fun) : Prop := ∀ (x0 : TVec) (x1 : Int) (b : T2 Int TVec), p_laws_markVector x0 x1 = some b → ∀ (pb0 pn0 : Nat) (h : Heap), pn0 = (x0.counts).length → getCells h pb0 pn0 = some (rows x0.counts) → ∃ p, F none [.agg [.hsl pb0 pn0 0 1 false pn0], .i (.s (.int .i64 x1))] h = some p ∧ i_laws_markVector pb0 pn0 h b p.1 p.2
set_option maxHeartbeats 10000000 in
theorem w_laws_markVector {P : Program} {env : Env} {f_laws_markIntS : Nat}  (e_laws_markIntS : k_laws_markIntS (env (2 * f_laws_markIntS + 1))) (x0 : TVec) (x1 : Int) {b : T2 Int TVec} (hp : p_laws_markVector x0 x1 = some b) (pb0 pn0 : Nat) (hh : Heap) (pm0 : pn0 = (x0.counts).length) (pf0 : getCells hh pb0 pn0 = some (rows x0.counts)) : R P env (c_laws_markVector f_laws_markIntS) [.agg [.hsl pb0 pn0 0 1 false pn0], .i (.s (.int .i64 x1))] hh (i_laws_markVector pb0 pn0 hh b) := by
  have pl0 := gc_lt pf0
  have pg0 : getCells hh pb0 x0.counts.length = some (rows x0.counts) := by rw [← pm0]; exact pf0
  refine R_of (by simp [c_laws_markVector, encA]) ?_
  unfold c_laws_markVector
  unfold p_laws_markVector at hp
  obtain ⟨v0, hv0, hp⟩ := bind_eq hp
  simp (maxSteps := 2000000) (disch := first|omega|(simp only[ls];first|done|omega)) only [pf0, pg0, gm]
  refine call_f (fun h => getCells h pb0 pn0 = some (rows (x0.counts : List Int)) ∧ pb0 < h.length ∧ getCells h hh.length 1 = some [.hsl pb0 pn0 0 1 false pn0] ∧ hh.length < h.length ∧ Keep [pb0] hh h) (fun h v h2 => i_laws_markIntS pb0 pn0 h v0 v h2) ?_ ?_ ?_
  · simp (maxSteps := 2000000) (disch := first|omega|(simp only[ls];first|done|omega)) only [i_laws_markVector, pf0, pg0, hv0, gm] <;> (repeat (first | omega | assumption | rfl | exact keep_refl | refine keep_app ?_ | (refine keep_set (by first | (left; simp; done) | (right; simp; omega)) ?_) | refine And.intro ?_ ?_))
  · rintro h ⟨c0_0, c0_1, c0_2, c0_3, c0_4⟩
    exact e_laws_markIntS _ _ _ hv0 pb0 pn0 h (by first | omega | rfl) c0_0
  · rintro hc0 v hh0 ⟨c0_0, c0_1, c0_2, c0_3, c0_4⟩ hpost
    obtain ⟨kk0, rfl, w0_0⟩ := hpost
    have d0_0 : getCells hh0 pb0 pn0 = some (rows (v0.b : List Int)) := w0_0
    have mm0_0 := len_rows w0_0
    simp only [zs] at mm0_0
    have d0_0l := keep_lt kk0 c0_1
    have d0_1 : getCells hh0 hh.length 1 = some [.hsl pb0 pn0 0 1 false pn0] := (keep_get kk0 c0_3 (by first | (simp; done) | (simp; omega))).trans c0_2
    have d0_1l := keep_lt kk0 c0_3
    have kp0 : Keep [pb0] hh hh0 := keep_trans c0_4 kk0 (by intro b hb; first | (simp at hb; done) | (simp at hb ⊢; omega))
    have hp := Option.some.inj hp
    subst hp
    simp (maxSteps := 2000000) (disch := first|omega|(simp only[ls];first|done|omega)) only [i_laws_markVector, pf0, pg0, hv0, d0_0, d0_1, gm] <;> (repeat (first | omega | assumption | rfl | exact keep_refl | refine keep_app ?_ | (refine keep_set (by first | (left; simp; done) | (right; simp; omega)) ?_) | refine And.intro ?_ ?_))
theorem ko_laws_markVector {P : Program} {env : Env} {f_laws_markIntS : Nat}  (e_laws_markIntS : k_laws_markIntS (env (2 * f_laws_markIntS + 1))) : k_laws_markVector (runIn P env (c_laws_markVector f_laws_markIntS)) := by
  intro x0 x1 b hp pb0 pn0 h a0 a1
  exact w_laws_markVector e_laws_markIntS x0 x1 hp pb0 pn0 h a0 a1

noncomputable def p_laws_markCounter (x0 : TCounter) (x1 : Int) : Option (T2 Int TCounter) :=
  (p_laws_markVector x0.plus x1).bind fun v0 =>
  (p_laws_markVector x0.minus v0.a).bind fun v1 =>
  some ⟨v1.a, (TCounter.mk v0.b v1.b)⟩
def c_laws_markCounter (f_laws_markVector : Nat) : AFn := ⟨14, (.seq (.ops [(qS 2 (.box (.tmp 0))), (qS 4 (.mv (ic 0)))]) (.seq (.ops [(qS 5 (.fieldA 0 (.tmp 2))), (qS 6 (.load 1 true (.tmp 5))), (qS 7 (.mv (.tmp 1))), (qS 8 (.call (2 * f_laws_markVector + 1) [(.tmp 6), (.tmp 7)])), (qS 1 (.mv (.tmp 8)))]) (.seq (.ops [(qS 9 (.fieldA 1 (.tmp 2))), (qS 10 (.load 1 true (.tmp 9))), (qS 11 (.mv (.tmp 1))), (qS 12 (.call (2 * f_laws_markVector + 1) [(.tmp 10), (.tmp 11)])), (qS 1 (.mv (.tmp 12)))]) (.seq (.ops [(qS 13 (.mv (.tmp 1))), (qS 4 (.mv (.tmp 13)))]) .ret)))), [(.tmp 4)]⟩
def i_laws_markCounter (pb0 pb1 pn0 pn1 : Nat) (h : Heap) (b : T2 Int TCounter) (v : V) (h2 : Heap) : Prop := Keep [pb0, pb1] h h2 ∧ v = .i (.s (.int .i64 b.a)) ∧ getCells h2 pb0 pn0 = some (rows b.b.plus.counts) ∧ getCells h2 pb1 pn1 = some (rows b.b.minus.counts)
def k_laws_markCounter (F : Fun) : Prop := ∀ (x0 : TCounter) (x1 : Int) (b : T2 Int TCounter), p_laws_markCounter x0 x1 = some b → ∀ (pb0 pb1 pn0 pn1 : Nat) (h : Heap), pn0 = (x0.plus.counts).length → pn1 = (x0.minus.counts).length → getCells h pb0 pn0 = some (rows x0.plus.counts) → getCells h pb1 pn1 = some (rows x0.minus.counts) → pb1 ≠ pb0 → ∃ p, F none [.agg [.hsl pb0 pn0 0 1 false pn0, .hsl pb1 pn1 0 1 false pn1], .i (.s (.int .i64 x1))] h = some p ∧ i_laws_markCounter pb0 pb1 pn0 pn1 h b p.1 p.2
set_option maxHeartbeats 10000000 in
theorem w_laws_markCounter {P : Program} {env : Env} {f_laws_markVector : Nat}  (e_laws_markVector : k_laws_markVector (env (2 * f_laws_markVector + 1))) (x0 : TCounter) (x1 : Int) {b : T2 Int TCounter} (hp : p_laws_markCounter x0 x1 = some b) (pb0 pb1 pn0 pn1 : Nat) (hh : Heap) (pm0 : pn0 = (x0.plus.counts).length) (pm1 : pn1 = (x0.minus.counts).length) (pf0 : getCells hh pb0 pn0 = some (rows x0.plus.counts)) (pf1 : getCells hh pb1 pn1 = some (rows x0.minus.counts)) (pe0 : pb1 ≠ pb0) : R P env (c_laws_markCounter f_laws_markVector) [.agg [.hsl pb0 pn0 0 1 false pn0, .hsl pb1 pn1 0 1 false pn1], .i (.s (.int .i64 x1))] hh (i_laws_markCounter pb0 pb1 pn0 pn1 hh b) := by
  have pl0 := gc_lt pf0
  have pl1 := gc_lt pf1
  have pg0 : getCells hh pb0 x0.plus.counts.length = some (rows x0.plus.counts) := by rw [← pm0]; exact pf0
  have pg1 : getCells hh pb1 x0.minus.counts.length = some (rows x0.minus.counts) := by rw [← pm1]; exact pf1
  refine R_of (by simp [c_laws_markCounter, encA]) ?_
  unfold c_laws_markCounter
  unfold p_laws_markCounter at hp
  obtain ⟨v0, hv0, hp⟩ := bind_eq hp
  simp (maxSteps := 2000000) (disch := first|omega|(simp only[ls];first|done|omega)) only [pf0, pf1, pg0, pg1, gm]
  refine call_f (fun h => getCells h pb0 pn0 = some (rows (x0.plus.counts : List Int)) ∧ pb0 < h.length ∧ getCells h pb1 pn1 = some (rows (x0.minus.counts : List Int)) ∧ pb1 < h.length ∧ getCells h hh.length 2 = some [.hsl pb0 pn0 0 1 false pn0, .hsl pb1 pn1 0 1 false pn1] ∧ hh.length < h.length ∧ Keep [pb0, pb1] hh h) (fun h v h2 => i_laws_markVector pb0 pn0 h v0 v h2) ?_ ?_ ?_
  · simp (maxSteps := 2000000) (disch := first|omega|(simp only[ls];first|done|omega)) only [i_laws_markCounter, pf0, pf1, pg0, pg1, hv0, gm] <;> (repeat (first | omega | assumption | rfl | exact keep_refl | refine keep_app ?_ | (refine keep_set (by first | (left; simp; done) | (right; simp; omega)) ?_) | refine And.intro ?_ ?_))
  · rintro h ⟨c0_0, c0_1, c0_2, c0_3, c0_4, c0_5, c0_6⟩
    exact e_laws_markVector _ _ _ hv0 pb0 pn0 h (by first | omega | rfl) c0_0
  · rintro hc0 v hh0 ⟨c0_0, c0_1, c0_2, c0_3, c0_4, c0_5, c0_6⟩ hpost
    obtain ⟨kk0, rfl, w0_0⟩ := hpost
    have d0_0 : getCells hh0 pb0 pn0 = some (rows (v0.b.counts : List Int)) := w0_0
    have mm0_0 := len_rows w0_0
    simp only [zs] at mm0_0
    have d0_0l := keep_lt kk0 c0_1
    have d0_1 : getCells hh0 pb1 pn1 = some (rows (x0.minus.counts : List Int)) := (keep_get kk0 c0_3 (by first | (simp; done) | (simp; omega))).trans c0_2
    have d0_1l := keep_lt kk0 c0_3
    have d0_2 : getCells hh0 hh.length 2 = some [.hsl pb0 pn0 0 1 false pn0, .hsl pb1 pn1 0 1 false pn1] := (keep_get kk0 c0_5 (by first | (simp; done) | (simp; omega))).trans c0_4
    have d0_2l := keep_lt kk0 c0_5
    have kp0 : Keep [pb0, pb1] hh hh0 := keep_trans c0_6 kk0 (by intro b hb; first | (simp at hb; done) | (simp at hb ⊢; omega))
    obtain ⟨v1, hv1, hp⟩ := bind_eq hp
    simp (maxSteps := 2000000) (disch := first|omega|(simp only[ls];first|done|omega)) only [pf0, pf1, pg0, pg1, hv0, d0_0, d0_1, d0_2, gm]
    refine call_f (fun h => getCells h pb0 pn0 = some (rows (v0.b.counts : List Int)) ∧ pb0 < h.length ∧ getCells h pb1 pn1 = some (rows (x0.minus.counts : List Int)) ∧ pb1 < h.length ∧ getCells h hh.length 2 = some [.hsl pb0 pn0 0 1 false pn0, .hsl pb1 pn1 0 1 false pn1] ∧ hh.length < h.length ∧ Keep [pb0, pb1] hh h) (fun h v h2 => i_laws_markVector pb1 pn1 h v1 v h2) ?_ ?_ ?_
    · simp (maxSteps := 2000000) (disch := first|omega|(simp only[ls];first|done|omega)) only [i_laws_markCounter, pf0, pf1, pg0, pg1, hv0, d0_0, d0_1, d0_2, hv1, gm] <;> (repeat (first | omega | assumption | rfl | exact keep_refl | refine keep_app ?_ | (refine keep_set (by first | (left; simp; done) | (right; simp; omega)) ?_) | refine And.intro ?_ ?_))
    · rintro h ⟨c1_0, c1_1, c1_2, c1_3, c1_4, c1_5, c1_6⟩
      exact e_laws_markVector _ _ _ hv1 pb1 pn1 h (by first | omega | rfl) c1_2
    · rintro hc1 v hh1 ⟨c1_0, c1_1, c1_2, c1_3, c1_4, c1_5, c1_6⟩ hpost
      obtain ⟨kk1, rfl, w1_0⟩ := hpost
      have d1_0 : getCells hh1 pb0 pn0 = some (rows (v0.b.counts : List Int)) := (keep_get kk1 c1_1 (by first | (simp; done) | (simp; omega))).trans c1_0
      have d1_0l := keep_lt kk1 c1_1
      have d1_1 : getCells hh1 pb1 pn1 = some (rows (v1.b.counts : List Int)) := w1_0
      have mm1_0 := len_rows w1_0
      simp only [zs] at mm1_0
      have d1_1l := keep_lt kk1 c1_3
      have d1_2 : getCells hh1 hh.length 2 = some [.hsl pb0 pn0 0 1 false pn0, .hsl pb1 pn1 0 1 false pn1] := (keep_get kk1 c1_5 (by first | (simp; done) | (simp; omega))).trans c1_4
      have d1_2l := keep_lt kk1 c1_5
      have kp1 : Keep [pb0, pb1] hh hh1 := keep_trans c1_6 kk1 (by intro b hb; first | (simp at hb; done) | (simp at hb ⊢; omega))
      have hp := Option.some.inj hp
      subst hp
      simp (maxSteps := 2000000) (disch := first|omega|(simp only[ls];first|done|omega)) only [i_laws_markCounter, pf0, pf1, pg0, pg1, hv0, d0_0, d0_1, d0_2, hv1, d1_0, d1_1, d1_2, gm] <;> (repeat (first | omega | assumption | rfl | exact keep_refl | refine keep_app ?_ | (refine keep_set (by first | (left; simp; done) | (right; simp; omega)) ?_) | refine And.intro ?_ ?_))
theorem ko_laws_markCounter {P : Program} {env : Env} {f_laws_markVector : Nat}  (e_laws_markVector : k_laws_markVector (env (2 * f_laws_markVector + 1))) : k_laws_markCounter (runIn P env (c_laws_markCounter f_laws_markVector)) := by
  intro x0 x1 b hp pb0 pb1 pn0 pn1 h a0 a1 a2 a3 a4
  exact w_laws_markCounter e_laws_markVector x0 x1 hp pb0 pb1 pn0 pn1 h a0 a1 a2 a3 a4

noncomputable def p_laws_heldIntS_l0 (x0 : List Int) : Int × Int → Option (Lp (Int × Int) Int)
  | (s0, s1) =>
    if (decide (s1 < (x0.length : Int))) = true then
      (get? x0 s1).bind fun v3 =>
      if (decide (v3 = s0)) = true then
        some (.go (w64 (s0 + 1), w64 (s1 + 1)))
      else
        some (.ret (-1))
    else
      some (.out (s0, s1))
noncomputable def p_laws_heldIntS (x0 : List Int) (x1 : Int) : Option Int :=
  (loopP (p_laws_heldIntS_l0 x0) (x1, 0)).bind fun ee0 => match ee0 with
  | .ret r => some r
  | .out (o5, o6) =>
    some o5
def c_laws_heldIntS : AFn := ⟨21, (.seq (.ops [(qS 4 (.mv (ic 0)))]) (.seq (.seq (.ops [(qS 5 (.mv (ic 0)))]) (.block 0 (.loop (.seq (.seq (.ops [(qS 6 (.mv (.tmp 5))), (qS 7 (.mv (.tmp 0))), (qS 8 (.len (.tmp 7))), (qS 9 (.pu (.n (.ar .lss)) [(.tmp 6), (.tmp 8)]))]) (.cond (.tmp 9) .skip (.exit 0))) (.seq (.block 1 (.seq (.seq (.ops [(qS 12 (.mv (.tmp 0))), (qS 13 (.mv (.tmp 5))), (qS 14 (.idxS 1 (.tmp 12) (.tmp 13))), (qS 15 (.load 1 false (.tmp 14))), (qS 16 (.mv (.tmp 1))), (qS 17 (.pu (.n (.ar .neq)) [(.tmp 15), (.tmp 16)]))]) (.cond (.tmp 17) (.seq (.ops [(qS 4 (.mv (ic (-1))))]) .ret) .skip)) (.ops [(qS 18 (.mv (.tmp 1))), (qS 19 (.pu (.n (.ar .add)) [(.tmp 18), (ic 1)])), (qS 1 (.mv (.tmp 19)))]))) (.ops [(qS 10 (.mv (.tmp 5))), (qS 11 (.pu (.n (.ar .add)) [(.tmp 10), (ic 1)])), (qS 5 (.mv (.tmp 11)))])))))) (.seq (.ops [(qS 20 (.mv (.tmp 1))), (qS 4 (.mv (.tmp 20)))]) .ret))), [(.tmp 4)]⟩
set_option maxHeartbeats 10000000 in
theorem d_laws_heldIntS {P : Program} {env : Env}  (x0 : List Int) (x1 : Int) {b : Int} (hp : p_laws_heldIntS x0 x1 = some b) : R P env (c_laws_heldIntS) ((encA (x0, x1)).map ofI) [] (Tells true b) := by
  refine R_of (by simp [c_laws_heldIntS, encA]) ?_
  unfold c_laws_heldIntS
  unfold p_laws_heldIntS at hp
  obtain ⟨ee0, hee0, hp⟩ := bind_eq hp
  simp (maxSteps := 2000000) (disch := first|omega|(simp only[ls];first|done|omega)) only [gm]
  refine W_loopP 0 (fun s t h => match s with | (s0, s1) => t 0 = .i (.sl 1 (x0.map enc)) ∧ t 1 = .i (.s (.int .i64 s0)) ∧ t 5 = .i (.s (.int .i64 s1))) (RK [.tmp 4] (Tells true)) ?_ hee0 ?_ ?_
  · rintro ⟨s0, s1⟩ ee tt0 hh0 ⟨ftt0_0, ftt0_1, ftt0_2⟩ hp
    rw [p_laws_heldIntS_l0] at hp
    by_cases hb2 : (decide (s1 < (x0.length : Int))) = true
    · rw [if_t hb2] at hp
      obtain ⟨v3, hv3, hp⟩ := bind_eq hp
      by_cases hb4 : (decide (v3 = s0)) = true
      · rw [if_t hb4] at hp
        have hp := Option.some.inj hp
        subst hp
        simp (maxSteps := 2000000) (disch := first|omega|(simp only[ls];first|done|omega)) only [ftt0_0, ftt0_1, ftt0_2, hb2, hv3, hb4, gm] <;> omega
      · replace hb4 := eq_false_of_ne_true hb4
        rw [if_f hb4] at hp
        have hp := Option.some.inj hp
        subst hp
        simp (maxSteps := 2000000) (disch := first|omega|(simp only[ls];first|done|omega)) only [ftt0_0, ftt0_1, ftt0_2, hb2, hv3, hb4, gm]
    · replace hb2 := eq_false_of_ne_true hb2
      rw [if_f hb2] at hp
      have hp := Option.some.inj hp
      subst hp
      simp (maxSteps := 2000000) (disch := first|omega|(simp only[ls];first|done|omega)) only [ftt0_0, ftt0_1, ftt0_2, hb2, gm] <;> omega
  · simp (maxSteps := 2000000) (disch := first|omega|(simp only[ls];first|done|omega)) only [gm] <;> omega
  · intro x tt1 hh1 hx
    rcases ee0 with ⟨o5, o6⟩ | r
    · obtain ⟨rfl, ftt1_0, ftt1_1, ftt1_2⟩ := hx
      dsimp only at hp
      have hp := Option.some.inj hp
      subst hp
      simp (maxSteps := 2000000) (disch := first|omega|(simp only[ls];first|done|omega)) only [ftt1_0, ftt1_1, ftt1_2, gm]
    · obtain ⟨rfl, hx⟩ := hx
      dsimp only at hp
      cases hp
      simp only [seqK_ret, blockK_ret, retK_RK (K := Tells true), hx, and_self, true_and]

noncomputable def p_laws_heldVector (x0 : TVec) (x1 : Int) : Option Int :=
  (p_laws_heldIntS x0.counts x1).bind fun v0 =>
  if (decide (v0 < 0)) = true then
    some (-1)
  else
    some v0
def c_laws_heldVector (f_laws_heldIntS : Nat) : AFn := ⟨12, (.seq (.ops [(qS 2 (.box (.tmp 0))), (qS 4 (.mv (ic 0)))]) (.seq (.ops [(qS 5 (.fieldA 0 (.tmp 2))), (qS 6 (.load 1 false (.tmp 5))), (qS 7 (.mv (.tmp 1))), (qS 8 (.call (2 * f_laws_heldIntS) [(.tmp 6), (.tmp 7)])), (qS 1 (.mv (.tmp 8)))]) (.seq (.seq (.ops [(qS 9 (.mv (.tmp 1))), (qS 10 (.pu (.n (.ar .lss)) [(.tmp 9), (ic 0)]))]) (.cond (.tmp 10) (.seq (.ops [(qS 4 (.mv (ic (-1))))]) .ret) .skip)) (.seq (.ops [(qS 11 (.mv (.tmp 1))), (qS 4 (.mv (.tmp 11)))]) .ret)))), [(.tmp 4)]⟩
set_option maxHeartbeats 10000000 in
theorem d_laws_heldVector {P : Program} {env : Env} {f_laws_heldIntS : Nat}  (ep_laws_heldIntS : env (2 * f_laws_heldIntS) = pureFn true (FA fun a : List Int × Int => p_laws_heldIntS a.1 a.2)) (x0 : TVec) (x1 : Int) {b : Int} (hp : p_laws_heldVector x0 x1 = some b) : R P env (c_laws_heldVector f_laws_heldIntS) ((encA (x0, x1)).map ofI) [] (Tells true b) := by
  refine R_of (by simp [c_laws_heldVector, encA]) ?_
  have E := ep_laws_heldIntS
  unfold c_laws_heldVector
  unfold p_laws_heldVector at hp
  obtain ⟨v0, hv0, hp⟩ := bind_eq hp
  by_cases hb1 : (decide (v0 < 0)) = true
  · rw [if_t hb1] at hp
    have hp := Option.some.inj hp
    subst hp
    simp (maxSteps := 2000000) (disch := first|omega|(simp only[ls];first|done|omega)) only [E, hv0, hb1, gm]
  · replace hb1 := eq_false_of_ne_true hb1
    rw [if_f hb1] at hp
    have hp := Option.some.inj hp
    subst hp
    simp (maxSteps := 2000000) (disch := first|omega|(simp only[ls];first|done|omega)) only [E, hv0, hb1, gm]

noncomputable def p_laws_heldCounter (x0 : TCounter) (x1 : Int) : Option Int :=
  (p_laws_heldVector x0.plus x1).bind fun v0 =>
  if (decide (v0 < 0)) = true then
    some (-1)
  else
    (p_laws_heldVector x0.minus v0).bind fun v2 =>
    if (decide (v2 < 0)) = true then
      some (-1)
    else
      some v2
def c_laws_heldCounter (f_laws_heldVector : Nat) : AFn := ⟨18, (.seq (.ops [(qS 2 (.box (.tmp 0))), (qS 4 (.mv (ic 0)))]) (.seq (.ops [(qS 5 (.fieldA 0 (.tmp 2))), (qS 6 (.load 1 true (.tmp 5))), (qS 7 (.mv (.tmp 1))), (qS 8 (.call (2 * f_laws_heldVector) [(.tmp 6), (.tmp 7)])), (qS 1 (.mv (.tmp 8)))]) (.seq (.seq (.ops [(qS 9 (.mv (.tmp 1))), (qS 10 (.pu (.n (.ar .lss)) [(.tmp 9), (ic 0)]))]) (.cond (.tmp 10) (.seq (.ops [(qS 4 (.mv (ic (-1))))]) .ret) .skip)) (.seq (.ops [(qS 11 (.fieldA 1 (.tmp 2))), (qS 12 (.load 1 true (.tmp 11))), (qS 13 (.mv (.tmp 1))), (qS 14 (.call (2 * f_laws_heldVector) [(.tmp 12), (.tmp 13)])), (qS 1 (.mv (.tmp 14)))]) (.seq (.seq (.ops [(qS 15 (.mv (.tmp 1))), (qS 16 (.pu (.n (.ar .lss)) [(.tmp 15), (ic 0)]))]) (.cond (.tmp 16) (.seq (.ops [(qS 4 (.mv (ic (-1))))]) .ret) .skip)) (.seq (.ops [(qS 17 (.mv (.tmp 1))), (qS 4 (.mv (.tmp 17)))]) .ret)))))), [(.tmp 4)]⟩
set_option maxHeartbeats 10000000 in
theorem d_laws_heldCounter {P : Program} {env : Env} {f_laws_heldVector : Nat}  (ep_laws_heldVector : env (2 * f_laws_heldVector) = pureFn true (FA fun a : TVec × Int => p_laws_heldVector a.1 a.2)) (x0 : TCounter) (x1 : Int) {b : Int} (hp : p_laws_heldCounter x0 x1 = some b) : R P env (c_laws_heldCounter f_laws_heldVector) ((encA (x0, x1)).map ofI) [] (Tells true b) := by
  refine R_of (by simp [c_laws_heldCounter, encA]) ?_
  have E := ep_laws_heldVector
  unfold c_laws_heldCounter
  unfold p_laws_heldCounter at hp
  obtain ⟨v0, hv0, hp⟩ := bind_eq hp
  by_cases hb1 : (decide (v0 < 0)) = true
  · rw [if_t hb1] at hp
    have hp := Option.some.inj hp
    subst hp
    simp (maxSteps := 2000000) (disch := first|omega|(simp only[ls];first|done|omega)) only [E, hv0, hb1, gm]
  · replace hb1 := eq_false_of_ne_true hb1
    rw [if_f hb1] at hp
    obtain ⟨v2, hv2, hp⟩ := bind_eq hp
    by_cases hb3 : (decide (v2 < 0)) = true
    · rw [if_t hb3] at hp
      have hp := Option.some.inj hp
      subst hp
      simp (maxSteps := 2000000) (disch := first|omega|(simp only[ls];first|done|omega)) only [E, hv0, hb1, hv2, hb3, gm]
    · replace hb3 := eq_false_of_ne_true hb3
      rw [if_f hb3] at hp
      have hp := Option.some.inj hp
      subst hp
      simp (maxSteps := 2000000) (disch := first|omega|(simp only[ls];first|done|omega)) only [E, hv0, hb1, hv2, hb3, gm]

noncomputable def p_laws_FnExactCounterAdd (x0 : TCounter) (x1 : Int) (x2 : Int) : Option Bool :=
  (p_laws_szCounter x0 1048576).bind fun v0 =>
  if (decide (v0 < 0)) = true then
    some true
  else
    (p_laws_toCounter x0).bind fun v2 =>
    (p_spec_CounterAdd v2 x1 x2).bind fun v3 =>
    (p_impl_CounterAdd v2 x1 x2).bind fun v4 =>
    (p_laws_eqCounter v4.a v3.a).bind fun v5 =>
    if (v5) = true then
      if (decide (v4.b = v3.b)) = true then
        (p_laws_eqCounter v2 v2).bind fun v8 =>
        if (v8) = true then
          (p_laws_markCounter v2 1).bind fun v10 =>
          if (decide (v10.a < 0)) = true then
            some false
          else
            (p_laws_markCounter v4.a 1).bind fun v12 =>
            (p_laws_heldCounter v12.b 1).bind fun v13 =>
            if (decide (v13 < 0)) = true then
              some false
            else
              if (decide (v13 = v12.a)) = true then
                some true
              else
                some false
        else
          some false
      else
        some false
    else
      some false
def c_laws_FnExactCounterAdd (f_laws_szCounter : Nat) (f_laws_toCounter : Nat) (f_spec_CounterAdd : Nat) (f_impl_CounterAdd : Nat) (f_laws_eqCounter : Nat) (f_laws_markCounter : Nat) (f_laws_heldCounter : Nat) : AFn := ⟨106, (.seq (.ops [(qS 3 (.box (.tmp 0))), (qS 6 (.mv (.const (.bool false))))]) (.seq (.ops [(qS 7 (.mv (ic 1048576)))]) (.seq (.ops [(qS 18 (.load 2 true (.tmp 3))), (qS 19 (.mv (.tmp 7))), (qS 20 (.call (2 * f_laws_szCounter) [(.tmp 18), (.tmp 19)])), (qS 7 (.mv (.tmp 20)))]) (.seq (.seq (.ops [(qS 21 (.mv (.tmp 7))), (qS 22 (.pu (.n (.ar .lss)) [(.tmp 21), (ic 0)]))]) (.cond (.tmp 22) (.seq (.ops [(qS 6 (.mv (.const (.bool true))))]) .ret) .skip)) (.seq (.ops [(qS 24 (.load 2 true (.tmp 3))), (qS 25 (.call (2 * f_laws_toCounter) [(.tmp 24)])), (qS 26 (.mv (.tmp 1))), (qS 27 (.mv (.tmp 2))), (qS 28 (.call (2 * f_spec_CounterAdd) [(.tmp 25), (.tmp 26), (.tmp 27)])), (qS 23 (.mv (.tmp 28))), (qS 29 (.extract 0 (.tmp 23))), (qS 30 (.extract 1 (.tmp 23))), (qS 8 (.allocV [(1, false), (1, false)] [(.slice .none 0 0), (.slice .none 0 0)])), ⟨.none, (.storeV [(1, false), (1, false)] 2 (.tmp 8) (.tmp 29)), .none, [], .none⟩, (qS 9 (.mv (.tmp 30)))]) (.seq (.ops [(qS 31 (.load 2 true (.tmp 3))), (qS 32 (.call (2 * f_laws_toCounter + 1) [(.tmp 31)])), (qS 10 (.allocV [(1, false), (1, false)] [(.slice .none 0 0), (.slice .none 0 0)])), ⟨.none, (.storeV [(1, false), (1, false)] 2 (.tmp 10) (.tmp 32)), .none, [], .none⟩]) (.seq (.ops [(qS 34 (.load 2 true (.tmp 10))), (qS 35 (.mv (.tmp 1))), (qS 36 (.mv (.tmp 2))), (qS 37 (.call (2 * f_impl_CounterAdd + 1) [(.tmp 34), (.tmp 35), (.tmp 36)])), (qS 33 (.mv (.tmp 37))), (qS 38 (.extract 0 (.tmp 33))), (qS 39 (.extract 1 (.tmp 33))), (qS 11 (.allocV [(1, false), (1, false)] [(.slice .none 0 0), (.slice .none 0 0)])), ⟨.none, (.storeV [(1, false), (1, false)] 2 (.tmp 11) (.tmp 38)), .none, [], .none⟩, (qS 12 (.mv (.tmp 39)))]) (.seq (.seq (.ops [(qS 40 (.load 2 true (.tmp 11))), (qS 41 (.load 2 true (.tmp 8))), (qS 42 (.call (2 * f_laws_eqCounter) [(.tmp 40), (.tmp 41)])), (qS 43 (.pu (.n (.un .not)) [(.tmp 42)])), (qS 44 (.mv (.tmp 43))), ⟨(.some 45), (.mv (.tmp 12)), (.some (44, false)), [], .none⟩, ⟨(.some 46), (.mv (.tmp 9)), (.some (44, false)), [], .none⟩, ⟨(.some 47), (.pu (.n (.ar .neq)) [(.tmp 45), (.tmp 46)]), (.some (44, false)), [], .none⟩, (qS 48 (.pick (.tmp 44) (.const (.bool true)) (.tmp 47)))]) (.cond (.tmp 48) (.seq (.ops [(qS 6 (.mv (.const (.bool false))))]) .ret) .skip)) (.seq (.seq (.ops [(qS 49 (.load 2 true (.tmp 10))), (qS 50 (.load 2 true (.tmp 3))), (qS 51 (.call (2 * f_laws_toCounter) [(.tmp 50)])), (qS 52 (.call (2 * f_laws_eqCounter) [(.tmp 49), (.tmp 51)])), (qS 53 (.pu (.n (.un .not)) [(.tmp 52)]))]) (.cond (.tmp 53) (.seq (.ops [(qS 6 (.mv (.const (.bool false))))]) .ret) .skip)) (.seq (.ops [(qS 13 (.mv (ic 1)))]) (.seq (.ops [(qS 54 (.load 2 true (.tmp 10))), (qS 55 (.mv (.tmp 13))), (qS 56 (.call (2 * f_laws_markCounter + 1) [(.tmp 54), (.tmp 55)])), (qS 13 (.mv (.tmp 56)))]) (.seq (.seq (.ops [(qS 57 (.mv (.tmp 13))), (qS 58 (.pu (.n (.ar .lss)) [(.tmp 57), (ic 0)])), (qS 59 (.mv (.tmp 58))), ⟨(.some 60), (.load 2 true (.tmp 11)), (.some (59, false)), [], .none⟩, ⟨(.some 61), (.load 2 true (.tmp 8)), (.some (59, false)), [], .none⟩, ⟨(.some 62), (.call (2 * f_laws_eqCounter) [(.tmp 60), (.tmp 61)]), (.some (59, false)), [], .none⟩, ⟨(.some 63), (.pu (.n (.un .not)) [(.tmp 62)]), (.some (59, false)), [], .none⟩, (qS 64 (.pick (.tmp 59) (.const (.bool true)) (.tmp 63))), (qS 65 (.mv (.tmp 64))), ⟨(.some 66), (.mv (.tmp 12)), (.some (65, false)), [], .none⟩, ⟨(.some 67), (.mv (.tmp 9)), (.some (65, false)), [], .none⟩, ⟨(.some 68), (.pu (.n (.ar .neq)) [(.tmp 66), (.tmp 67)]), (.some (65, false)), [], .none⟩, (qS 69 (.pick (.tmp 65) (.const (.bool true)) (.tmp 68)))]) (.cond (.tmp 69) (.seq (.ops [(qS 6 (.mv (.const (.bool false))))]) .ret) .skip)) (.seq (.ops [(qS 14 (.mv (ic 1)))]) (.seq (.ops [(qS 70 (.load 2 true (.tmp 11))), (qS 71 (.mv (.tmp 14))), (qS 72 (.call (2 * f_laws_markCounter + 1) [(.tmp 70), (.tmp 71)])), (qS 14 (.mv (.tmp 72)))]) (.seq (.ops [(qS 15 (.mv (ic 1)))]) (.seq (.ops [(qS 73 (.load 2 true (.tmp 11))), (qS 74 (.mv (.tmp 15))), (qS 75 (.call (2 * f_laws_heldCounter) [(.tmp 73), (.tmp 74)])), (qS 15 (.mv (.tmp 75)))]) (.seq (.seq (.ops [(qS 76 (.mv (.tmp 15))), (qS 77 (.pu (.n (.ar .lss)) [(.tmp 76), (ic 0)]))]) (.cond (.tmp 77) (.seq (.ops [(qS 6 (.mv (.const (.bool false))))]) .ret) .skip)) (.seq (.seq (.ops [(qS 78 (.mv (.tmp 15))), (qS 79 (.mv (.tmp 14))), (qS 80 (.pu (.n (.ar .neq)) [(.tmp 78), (.tmp 79)]))]) (.cond (.tmp 80) (.seq (.ops [(qS 6 (.mv (.const (.bool false))))]) .ret) .skip)) (.seq (.ops [(qS 82 (.load 2 true (.tmp 3))), (qS 83 (.call (2 * f_laws_toCounter + 1) [(.tmp 82)])), (qS 84 (.mv (.tmp 1))), (qS 85 (.mv (.tmp 2))), (qS 86 (.call (2 * f_impl_CounterAdd + 1) [(.tmp 83), (.tmp 84), (.tmp 85)])), (qS 81 (.mv (.tmp 86))), (qS 87 (.extract 0 (.tmp 81))), (qS 88 (.extract 1 (.tmp 81))), (qS 16 (.allocV [(1, false), (1, false)] [(.slice .none 0 0), (.slice .none 0 0)])), ⟨.none, (.storeV [(1, false), (1, false)] 2 (.tmp 16) (.tmp 87)), .none, [], .none⟩, (qS 17 (.mv (.tmp 88)))]) (.seq (.seq (.ops [(qS 89 (.load 2 true (.tmp 16))), (qS 90 (.load 2 true (.tmp 8))), (qS 91 (.call (2 * f_laws_eqCounter) [(.tmp 89), (.tmp 90)])), (qS 92 (.pu (.n (.un .not)) [(.tmp 91)])), (qS 93 (.mv (.tmp 92))), ⟨(.some 94), (.mv (.tmp 17)), (.some (93, false)), [], .none⟩, ⟨(.some 95), (.mv (.tmp 9)), (.some (93, false)), [], .none⟩, ⟨(.some 96), (.pu (.n (.ar .neq)) [(.tmp 94), (.tmp 95)]), (.some (93, false)), [], .none⟩, (qS 97 (.pick (.tmp 93) (.const (.bool true)) (.tmp 96)))]) (.cond (.tmp 97) (.seq (.ops [(qS 6 (.mv (.const (.bool false))))]) .ret) .skip)) (.seq (.ops [(qS 15 (.mv (ic 1)))]) (.seq (.ops [(qS 98 (.load 2 true (.tmp 11))), (qS 99 (.mv (.tmp 15))), (qS 100 (.call (2 * f_laws_heldCounter) [(.tmp 98), (.tmp 99)])), (qS 15 (.mv (.tmp 100)))]) (.seq (.seq (.ops [(qS 101 (.mv (.tmp 15))), (qS 102 (.pu (.n (.ar .lss)) [(.tmp 101), (ic 0)]))]) (.cond (.tmp 102) (.seq (.ops [(qS 6 (.mv (.const (.bool false))))]) .ret) .skip)) (.seq (.seq (.ops [(qS 103 (.mv (.tmp 15))), (qS 104 (.mv (.tmp 14))), (qS 105 (.pu (.n (.ar .neq)) [(.tmp 103), (.tmp 104)]))]) (.cond (.tmp 105) (.seq (.ops [(qS 6 (.mv (.const (.bool false))))]) .ret) .skip)) (.seq (.ops [(qS 6 (.mv (.const (.bool true))))]) .ret))))))))))))))))))))))))), [(.tmp 6)]⟩
set_option maxHeartbeats 10000000 in
theorem d_laws_FnExactCounterAdd {P : Program} {env : Env} {f_laws_szCounter : Nat} {f_laws_toCounter : Nat} {f_spec_CounterAdd : Nat} {f_impl_CounterAdd : Nat} {f_laws_eqCounter : Nat} {f_laws_markCounter : Nat} {f_laws_heldCounter : Nat}  (ep_laws_szCounter : env (2 * f_laws_szCounter) = pureFn true (FA fun a : TCounter × Int => p_laws_szCounter a.1 a.2)) (ep_laws_toCounter : env (2 * f_laws_toCounter) = pureFn true (FA fun a : TCounter => p_laws_toCounter a)) (ep_spec_CounterAdd : env (2 * f_spec_CounterAdd) = pureFn true (FA fun a : TCounter × Int × Int => p_spec_CounterAdd a.1 a.2.1 a.2.2)) (ep_laws_eqCounter : env (2 * f_laws_eqCounter) = pureFn true (FA fun a : TCounter × TCounter => p_laws_eqCounter a.1 a.2)) (ep_laws_heldCounter : env (2 * f_laws_heldCounter) = pureFn true (FA fun a : TCounter × Int => p_laws_heldCounter a.1 a.2)) (e_laws_toCounter : k_laws_toCounter (env (2 * f_laws_toCounter + 1))) (e_impl_CounterAdd : k_impl_CounterAdd (env (2 * f_impl_CounterAdd + 1))) (e_laws_markCounter : k_laws_markCounter (env (2 * f_laws_markCounter + 1))) (x0 : TCounter) (x1 : Int) (x2 : Int) (hp : p_laws_FnExactCounterAdd x0 x1 x2 = some true) : R P env (c_laws_FnExactCounterAdd f_laws_szCounter f_laws_toCounter f_spec_CounterAdd f_impl_CounterAdd f_laws_eqCounter f_laws_markCounter f_laws_heldCounter) ((encA (x0, x1, x2)).map ofI) [] (fun v _ => v = .i (iB true)) := by
  refine R_of (by simp [c_laws_FnExactCounterAdd, encA]) ?_
  have E := And.intro ep_laws_szCounter (And.intro ep_laws_toCounter (And.intro ep_spec_CounterAdd (And.intro ep_laws_eqCounter ep_laws_heldCounter)))
  unfold c_laws_FnExactCounterAdd
  unfold p_laws_FnExactCounterAdd at hp
  obtain ⟨v0, hv0, hp⟩ := bind_eq hp
  by_cases hb1 : (decide (v0 < 0)) = true
  · rw [if_t hb1] at hp
    cases hp
    simp (maxSteps := 2000000) (disch := first|omega|(simp only[ls];first|done|omega)) only [E, hv0, hb1, gm]
  · replace hb1 := eq_false_of_ne_true hb1
    rw [if_f hb1] at hp
    obtain ⟨v2, hv2, hp⟩ := bind_eq hp
    obtain ⟨v3, hv3, hp⟩ := bind_eq hp
    simp (maxSteps := 2000000) (disch := first|omega|(simp only[ls];first|done|omega)) only [E, hv0, hb1, hv2, hv3, gm]
    refine call_f (fun h => getCells h 0 2 = some [.i (.sl 1 (x0.plus.counts.map enc)), .i (.sl 1 (x0.minus.counts.map enc))] ∧ 0 < h.length ∧ getCells h 1 0 = some [] ∧ 1 < h.length ∧ getCells h 2 0 = some [] ∧ 2 < h.length ∧ getCells h 3 2 = some [.i (.sl 1 (v3.a.plus.counts.map enc)), .i (.sl 1 (v3.a.minus.counts.map enc))] ∧ 3 < h.length) (fun h v h2 => oo_laws_toCounter v2 h v h2) ?_ ?_ ?_
    · simp (maxSteps := 2000000) (disch := first|omega|(simp only[ls];first|done|omega)) only [E, hv0, hb1, hv2, hv3, gm] <;> omega
    · rintro h ⟨c0_0, c0_1, c0_2, c0_3, c0_4, c0_5, c0_6, c0_7⟩
      exact e_laws_toCounter _ _ hv2 h _ (by simp (maxSteps := 2000000) (disch := first|omega|(simp only[ls];first|done|omega)) only [E, hv0, hb1, hv2, hv3, c0_0, c0_1, c0_2, c0_3, c0_4, c0_5, c0_6, c0_7, gm])
    · rintro hc0 v hh0 ⟨c0_0, c0_1, c0_2, c0_3, c0_4, c0_5, c0_6, c0_7⟩ hpost
      obtain ⟨kk0, nb0_0, nb0_1, rfl, lnb0_0, gnb0_0, wnb0_0, lnb0_1, gnb0_1, wnb0_1, ne0_1_0⟩ := hpost
      have d0_0 : getCells hh0 0 2 = some [.i (.sl 1 (x0.plus.counts.map enc)), .i (.sl 1 (x0.minus.counts.map enc))] := (keep_get kk0 c0_1 (by first | (simp; done) | (simp; omega))).trans c0_0
      have d0_0l := keep_lt kk0 c0_1
      have d0_1 : getCells hh0 1 0 = some [] := (keep_get kk0 c0_3 (by first | (simp; done) | (simp; omega))).trans c0_2
      have d0_1l := keep_lt kk0 c0_3
      have d0_2 : getCells hh0 2 0 = some [] := (keep_get kk0 c0_5 (by first | (simp; done) | (simp; omega))).trans c0_4
      have d0_2l := keep_lt kk0 c0_5
      have d0_3 : getCells hh0 3 2 = some [.i (.sl 1 (v3.a.plus.counts.map enc)), .i (.sl 1 (v3.a.minus.counts.map enc))] := (keep_get kk0 c0_7 (by first | (simp; done) | (simp; omega))).trans c0_6
      have d0_3l := keep_lt kk0 c0_7
      have d0_4 := wnb0_0
      have d0_5 := wnb0_1
      obtain ⟨v4, hv4, hp⟩ := bind_eq hp
      simp (maxSteps := 2000000) (disch := first|omega|(simp only[ls];first|done|omega)) only [E, hv0, hb1, hv2, hv3, d0_0, d0_1, d0_2, d0_3, d0_4, d0_5, gm]
      refine call_f (fun h => getCells h 0 2 = some [.i (.sl 1 (x0.plus.counts.map enc)), .i (.sl 1 (x0.minus.counts.map enc))] ∧ 0 < h.length ∧ getCells h 1 0 = some [] ∧ 1 < h.length ∧ getCells h 2 0 = some [] ∧ 2 < h.length ∧ getCells h 3 2 = some [.i (.sl 1 (v3.a.plus.counts.map enc)), .i (.sl 1 (v3.a.minus.counts.map enc))] ∧ 3 < h.length ∧ getCells h nb0_0 v2.plus.counts.length = some (rows (v2.plus.counts : List Int)) ∧ nb0_0 < h.length ∧ getCells h nb0_1 v2.minus.counts.length = some (rows (v2.minus.counts : List Int)) ∧ nb0_1 < h.length ∧ getCells h hh0.length 0 = some [] ∧ hh0.length < h.length ∧ getCells h (hh0.length + 1) 0 = some [] ∧ hh0.length + 1 < h.length ∧ getCells h (hh0.length + 2) 2 = some [.hsl nb0_0 v2.plus.counts.length 0 1 false v2.plus.counts.length, .hsl nb0_1 v2.minus.counts.length 0 1 false v2.minus.counts.length] ∧ hh0.length + 2 < h.length) (fun h v h2 => oo_impl_CounterAdd v4 h v h2) ?_ ?_ ?_
      · simp (maxSteps := 2000000) (disch := first|omega|(simp only[ls];first|done|omega)) only [E, hv0, hb1, hv2, hv3, d0_0, d0_1, d0_2, d0_3, d0_4, d0_5, hv4, gm] <;> omega
      · rintro h ⟨c1_0, c1_1, c1_2, c1_3, c1_4, c1_5, c1_6, c1_7, c1_8, c1_9, c1_10, c1_11, c1_12, c1_13, c1_14, c1_15, c1_16, c1_17⟩
        exact e_impl_CounterAdd _ _ _ _ hv4 h _ (by simp (maxSteps := 2000000) (disch := first|omega|(simp only[ls];first|done|omega)) only [E, hv0, hb1, hv2, hv3, d0_0, d0_1, d0_2, d0_3, d0_4, d0_5, hv4, c1_0, c1_1, c1_2, c1_3, c1_4, c1_5, c1_6, c1_7, c1_8, c1_9, c1_10, c1_11, c1_12, c1_13, c1_14, c1_15, c1_16, c1_17, gm])
      · rintro hc1 v hh1 ⟨c1_0, c1_1, c1_2, c1_3, c1_4, c1_5, c1_6, c1_7, c1_8, c1_9, c1_10, c1_11, c1_12, c1_13, c1_14, c1_15, c1_16, c1_17⟩ hpost
        obtain ⟨kk1, nb1_0, nb1_1, rfl, lnb1_0, gnb1_0, wnb1_0, lnb1_1, gnb1_1, wnb1_1, ne1_1_0⟩ := hpost
        have d1_0 : getCells hh1 0 2 = some [.i (.sl 1 (x0.plus.counts.map enc)), .i (.sl 1 (x0.minus.counts.map enc))] := (keep_get kk1 c1_1 (by first | (simp; done) | (simp; omega))).trans c1_0
        have d1_0l := keep_lt kk1 c1_1
        have d1_1 : getCells hh1 1 0 = some [] := (keep_get kk1 c1_3 (by first | (simp; done) | (simp; omega))).trans c1_2
        have d1_1l := keep_lt kk1 c1_3
        have d1_2 : getCells hh1 2 0 = some [] := (keep_get kk1 c1_5 (by first | (simp; done) | (simp; omega))).trans c1_4
        have d1_2l := keep_lt kk1 c1_5
        have d1_3 : getCells hh1 3 2 = some [.i (.sl 1 (v3.a.plus.counts.map enc)), .i (.sl 1 (v3.a.minus.counts.map enc))] := (keep_get kk1 c1_7 (by first | (simp; done) | (simp; omega))).trans c1_6
        have d1_3l := keep_lt kk1 c1_7
        have d1_4 : getCells hh1 nb0_0 v2.plus.counts.length = some (rows (v2.plus.counts : List Int)) := (keep_get kk1 c1_9 (by first | (simp; done) | (simp; omega))).trans c1_8
        have d1_4l := keep_lt kk1 c1_9
        have d1_5 : getCells hh1 nb0_1 v2.minus.counts.length = some (rows (v2.minus.counts : List Int)) := (keep_get kk1 c1_11 (by first | (simp; done) | (simp; omega))).trans c1_10
        have d1_5l := keep_lt kk1 c1_11
        have d1_6 : getCells hh1 hh0.length 0 = some [] := (keep_get kk1 c1_13 (by first | (simp; done) | (simp; omega))).trans c1_12
        have d1_6l := keep_lt kk1 c1_13
        have d1_7 : getCells hh1 (hh0.length + 1) 0 = some [] := (keep_get kk1 c1_15 (by first | (simp; done) | (simp; omega))).trans c1_14
        have d1_7l := keep_lt kk1 c1_15
        have d1_8 : getCells hh1 (hh0.length + 2) 2 = some [.hsl nb0_0 v2.plus.counts.length 0 1 false v2.plus.counts.length, .hsl nb0_1 v2.minus.counts.length 0 1 false v2.minus.counts.length] := (keep_get kk1 c1_17 (by first | (simp; done) | (simp; omega))).trans c1_16
        have d1_8l := keep_lt kk1 c1_17
        have d1_9 := wnb1_0
        have d1_10 := wnb1_1
        obtain ⟨v5, hv5, hp⟩ := bind_eq hp
        by_cases hb6 : (v5) = true
        · rw [if_t hb6] at hp
          by_cases hb7 : (decide (v4.b = v3.b)) = true
          · rw [if_t hb7] at hp
            obtain ⟨v8, hv8, hp⟩ := bind_eq hp
            by_cases hb9 : (v8) = true
            · rw [if_t hb9] at hp
              obtain ⟨v10, hv10, hp⟩ := bind_eq hp
              simp (maxSteps := 2000000) (disch := first|omega|(simp only[ls];first|done|omega)) only [E, hv0, hb1, hv2, hv3, d0_0, d0_1, d0_2, d0_3, d0_4, d0_5, hv4, d1_0, d1_1, d1_2, d1_3, d1_4, d1_5, d1_6, d1_7, d1_8, d1_9, d1_10, hv5, hb6, hb7, hv8, hb9, gm]
              refine call_f (fun h => getCells h 0 2 = some [.i (.sl 1 (x0.plus.counts.map enc)), .i (.sl 1 (x0.minus.counts.map enc))] ∧ 0 < h.length ∧ getCells h 1 0 = some [] ∧ 1 < h.length ∧ getCells h 2 0 = some [] ∧ 2 < h.length ∧ getCells h 3 2 = some [.i (.sl 1 (v3.a.plus.counts.map enc)), .i (.sl 1 (v3.a.minus.counts.map enc))] ∧ 3 < h.length ∧ getCells h nb0_0 v2.plus.counts.length = some (rows (v2.plus.counts : List Int)) ∧ nb0_0 < h.length ∧ getCells h nb0_1 v2.minus.counts.length = some (rows (v2.minus.counts : List Int)) ∧ nb0_1 < h.length ∧ getCells h hh0.length 0 = some [] ∧ hh0.length < h.length ∧ getCells h (hh0.length + 1) 0 = some [] ∧ hh0.length + 1 < h.length ∧ getCells h (hh0.length + 2) 2 = some [.hsl nb0_0 v2.plus.counts.length 0 1 false v2.plus.counts.length, .hsl nb0_1 v2.minus.counts.length 0 1 false v2.minus.counts.length] ∧ hh0.length + 2 < h.length ∧ getCells h nb1_0 v4.a.plus.counts.length = some (rows (v4.a.plus.counts : List Int)) ∧ nb1_0 < h.length ∧ getCells h nb1_1 v4.a.minus.counts.length = some (rows (v4.a.minus.counts : List Int)) ∧ nb1_1 < h.length ∧ getCells h hh1.length 0 = some [] ∧ hh1.length < h.length ∧ getCells h (hh1.length + 1) 0 = some [] ∧ hh1.length + 1 < h.length ∧ getCells h (hh1.length + 2) 2 = some [.hsl nb1_0 v4.a.plus.counts.length 0 1 false v4.a.plus.counts.length, .hsl nb1_1 v4.a.minus.counts.length 0 1 false v4.a.minus.counts.length] ∧ hh1.length + 2 < h.length) (fun h v h2 => i_laws_markCounter nb0_0 nb0_1 v2.plus.counts.length v2.minus.counts.length h v10 v h2) ?_ ?_ ?_
              · simp (maxSteps := 2000000) (disch := first|omega|(simp only[ls];first|done|omega)) only [E, hv0, hb1, hv2, hv3, d0_0, d0_1, d0_2, d0_3, d0_4, d0_5, hv4, d1_0, d1_1, d1_2, d1_3, d1_4, d1_5, d1_6, d1_7, d1_8, d1_9, d1_10, hv5, hb6, hb7, hv8, hb9, hv10, gm] <;> omega
              · rintro h ⟨c2_0, c2_1, c2_2, c2_3, c2_4, c2_5, c2_6, c2_7, c2_8, c2_9, c2_10, c2_11, c2_12, c2_13, c2_14, c2_15, c2_16, c2_17, c2_18, c2_19, c2_20, c2_21, c2_22, c2_23, c2_24, c2_25, c2_26, c2_27⟩
                exact e_laws_markCounter _ _ _ hv10 nb0_0 nb0_1 v2.plus.counts.length v2.minus.counts.length h (by first | omega | rfl) (by first | omega | rfl) c2_8 c2_10 (by omega)
              · rintro hc2 v hh2 ⟨c2_0, c2_1, c2_2, c2_3, c2_4, c2_5, c2_6, c2_7, c2_8, c2_9, c2_10, c2_11, c2_12, c2_13, c2_14, c2_15, c2_16, c2_17, c2_18, c2_19, c2_20, c2_21, c2_22, c2_23, c2_24, c2_25, c2_26, c2_27⟩ hpost
                obtain ⟨kk2, rfl, w2_0, w2_1⟩ := hpost
                have d2_0 : getCells hh2 0 2 = some [.i (.sl 1 (x0.plus.counts.map enc)), .i (.sl 1 (x0.minus.counts.map enc))] := (keep_get kk2 c2_1 (by first | (simp; done) | (simp; omega))).trans c2_0
                have d2_0l := keep_lt kk2 c2_1
                have d2_1 : getCells hh2 1 0 = some [] := (keep_get kk2 c2_3 (by first | (simp; done) | (simp; omega))).trans c2_2
                have d2_1l := keep_lt kk2 c2_3
                have d2_2 : getCells hh2 2 0 = some [] := (keep_get kk2 c2_5 (by first | (simp; done) | (simp; omega))).trans c2_4
                have d2_2l := keep_lt kk2 c2_5
                have d2_3 : getCells hh2 3 2 = some [.i (.sl 1 (v3.a.plus.counts.map enc)), .i (.sl 1 (v3.a.minus.counts.map enc))] := (keep_get kk2 c2_7 (by first | (simp; done) | (simp; omega))).trans c2_6
                have d2_3l := keep_lt kk2 c2_7
                have d2_4 : getCells hh2 nb0_0 v2.plus.counts.length = some (rows (v10.b.plus.counts : List Int)) := w2_0
                have mm2_0 := len_rows w2_0
                simp only [zs] at mm2_0
                have d2_4l := keep_lt kk2 c2_9
                have d2_5 : getCells hh2 nb0_1 v2.minus.counts.length = some (rows (v10.b.minus.counts : List Int)) := w2_1
                have mm2_1 := len_rows w2_1
                simp only [zs] at mm2_1
                have d2_5l := keep_lt kk2 c2_11
                have d2_6 : getCells hh2 hh0.length 0 = some [] := (keep_get kk2 c2_13 (by first | (simp; done) | (simp; omega))).trans c2_12
                have d2_6l := keep_lt kk2 c2_13
                have d2_7 : getCells hh2 (hh0.length + 1) 0 = some [] := (keep_get kk2 c2_15 (by first | (simp; done) | (simp; omega))).trans c2_14
                have d2_7l := keep_lt kk2 c2_15
                have d2_8 : getCells hh2 (hh0.length + 2) 2 = some [.hsl nb0_0 v2.plus.counts.length 0 1 false v2.plus.counts.length, .hsl nb0_1 v2.minus.counts.length 0 1 false v2.minus.counts.length] := (keep_get kk2 c2_17 (by first | (simp; done) | (simp; omega))).trans c2_16
                have d2_8l := keep_lt kk2 c2_17
                have d2_9 : getCells hh2 nb1_0 v4.a.plus.counts.length = some (rows (v4.a.plus.counts : List Int)) := (keep_get kk2 c2_19 (by first | (simp; done) | (simp; omega))).trans c2_18
                have d2_9l := keep_lt kk2 c2_19
                have d2_10 : getCells hh2 nb1_1 v4.a.minus.counts.length = some (rows (v4.a.minus.counts : List Int)) := (keep_get kk2 c2_21 (by first | (simp; done) | (simp; omega))).trans c2_20
                have d2_10l := keep_lt kk2 c2_21
                have d2_11 : getCells hh2 hh1.length 0 = some [] := (keep_get kk2 c2_23 (by first | (simp; done) | (simp; omega))).trans c2_22
                have d2_11l := keep_lt kk2 c2_23
                have d2_12 : getCells hh2 (hh1.length + 1) 0 = some [] := (keep_get kk2 c2_25 (by first | (simp; done) | (simp; omega))).trans c2_24
                have d2_12l := keep_lt kk2 c2_25
                have d2_13 : getCells hh2 (hh1.length + 2) 2 = some [.hsl nb1_0 v4.a.plus.counts.length 0 1 false v4.a.plus.counts.length, .hsl nb1_1 v4.a.minus.counts.length 0 1 false v4.a.minus.counts.length] := (keep_get kk2 c2_27 (by first | (simp; done) | (simp; omega))).trans c2_26
                have d2_13l := keep_lt kk2 c2_27
                by_cases hb11 : (decide (v10.a < 0)) = true
                · rw [if_t hb11] at hp
                  cases hp
                · replace hb11 := eq_false_of_ne_true hb11
                  rw [if_f hb11] at hp
                  obtain ⟨v12, hv12, hp⟩ := bind_eq hp
                  simp (maxSteps := 2000000) (disch := first|omega|(simp only[ls];first|done|omega)) only [E, hv0, hb1, hv2, hv3, d0_0, d0_1, d0_2, d0_3, d0_4, d0_5, hv4, d1_0, d1_1, d1_2, d1_3, d1_4, d1_5, d1_6, d1_7, d1_8, d1_9, d1_10, hv5, hb6, hb7, hv8, hb9, hv10, d2_0, d2_1, d2_2, d2_3, d2_4, d2_5, d2_6, d2_7, d2_8, d2_9, d2_10, d2_11, d2_12, d2_13, hb11, gm]
                  refine call_f (fun h => getCells h 0 2 = some [.i (.sl 1 (x0.plus.counts.map enc)), .i (.sl 1 (x0.minus.counts.map enc))] ∧ 0 < h.length ∧ getCells h 1 0 = some [] ∧ 1 < h.length ∧ getCells h 2 0 = some [] ∧ 2 < h.length ∧ getCells h 3 2 = some [.i (.sl 1 (v3.a.plus.counts.map enc)), .i (.sl 1 (v3.a.minus.counts.map enc))] ∧ 3 < h.length ∧ getCells h nb0_0 v2.plus.counts.length = some (rows (v10.b.plus.counts : List Int)) ∧ nb0_0 < h.length ∧ getCells h nb0_1 v2.minus.counts.length = some (rows (v10.b.minus.counts : List Int)) ∧ nb0_1 < h.length ∧ getCells h hh0.length 0 = some [] ∧ hh0.length < h.length ∧ getCells h (hh0.length + 1) 0 = some [] ∧ hh0.length + 1 < h.length ∧ getCells h (hh0.length + 2) 2 = some [.hsl nb0_0 v2.plus.counts.length 0 1 false v2.plus.counts.length, .hsl nb0_1 v2.minus.counts.length 0 1 false v2.minus.counts.length] ∧ hh0.length + 2 < h.length ∧ getCells h nb1_0 v4.a.plus.counts.length = some (rows (v4.a.plus.counts : List Int)) ∧ nb1_0 < h.length ∧ getCells h nb1_1 v4.a.minus.counts.length = some (rows (v4.a.minus.counts : List Int)) ∧ nb1_1 < h.length ∧ getCells h hh1.length 0 = some [] ∧ hh1.length < h.length ∧ getCells h (hh1.length + 1) 0 = some [] ∧ hh1.length + 1 < h.length ∧ getCells h (hh1.length + 2) 2 = some [.hsl nb1_0 v4.a.plus.counts.length 0 1 false v4.a.plus.counts.length, .hsl nb1_1 v4.a.minus.counts.length 0 1 false v4.a.minus.counts.length] ∧ hh1.length + 2 < h.length) (fun h v h2 => i_laws_markCounter nb1_0 nb1_1 v4.a.plus.counts.length v4.a.minus.counts.length h v12 v h2) ?_ ?_ ?_
                  · simp (maxSteps := 2000000) (disch := first|omega|(simp only[ls];first|done|omega)) only [E, hv0, hb1, hv2, hv3, d0_0, d0_1, d0_2, d0_3, d0_4, d0_5, hv4, d1_0, d1_1, d1_2, d1_3, d1_4, d1_5, d1_6, d1_7, d1_8, d1_9, d1_10, hv5, hb6, hb7, hv8, hb9, hv10, d2_0, d2_1, d2_2, d2_3, d2_4, d2_5, d2_6, d2_7, d2_8, d2_9, d2_10, d2_11, d2_12, d2_13, hb11, hv12, gm] <;> omega
                  · rintro h ⟨c3_0, c3_1, c3_2, c3_3, c3_4, c3_5, c3_6, c3_7, c3_8, c3_9, c3_10, c3_11, c3_12, c3_13, c3_14, c3_15, c3_16, c3_17, c3_18, c3_19, c3_20, c3_21, c3_22, c3_23, c3_24, c3_25, c3_26, c3_27⟩
                    exact e_laws_markCounter _ _ _ hv12 nb1_0 nb1_1 v4.a.plus.counts.length v4.a.minus.counts.length h (by first | omega | rfl) (by first | omega | rfl) c3_18 c3_20 (by omega)
                  · rintro hc3 v hh3 ⟨c3_0, c3_1, c3_2, c3_3, c3_4, c3_5, c3_6, c3_7, c3_8, c3_9, c3_10, c3_11, c3_12, c3_13, c3_14, c3_15, c3_16, c3_17, c3_18, c3_19, c3_20, c3_21, c3_22, c3_23, c3_24, c3_25, c3_26, c3_27⟩ hpost
                    obtain ⟨kk3, rfl, w3_0, w3_1⟩ := hpost
                    have d3_0 : getCells hh3 0 2 = some [.i (.sl 1 (x0.plus.counts.map enc)), .i (.sl 1 (x0.minus.counts.map enc))] := (keep_get kk3 c3_1 (by first | (simp; done) | (simp; omega))).trans c3_0
                    have d3_0l := keep_lt kk3 c3_1
                    have d3_1 : getCells hh3 1 0 = some [] := (keep_get kk3 c3_3 (by first | (simp; done) | (simp; omega))).trans c3_2
                    have d3_1l := keep_lt kk3 c3_3
                    have d3_2 : getCells hh3 2 0 = some [] := (keep_get kk3 c3_5 (by first | (simp; done) | (simp; omega))).trans c3_4
                    have d3_2l := keep_lt kk3 c3_5
                    have d3_3 : getCells hh3 3 2 = some [.i (.sl 1 (v3.a.plus.counts.map enc)), .i (.sl 1 (v3.a.minus.counts.map enc))] := (keep_get kk3 c3_7 (by first | (simp; done) | (simp; omega))).trans c3_6
                    have d3_3l := keep_lt kk3 c3_7
                    have d3_4 : getCells hh3 nb0_0 v2.plus.counts.length = some (rows (v10.b.plus.counts : List Int)) := (keep_get kk3 c3_9 (by first | (simp; done) | (simp; omega))).trans c3_8
                    have d3_4l := keep_lt kk3 c3_9
                    have d3_5 : getCells hh3 nb0_1 v2.minus.counts.length = some (rows (v10.b.minus.counts : List Int)) := (keep_get kk3 c3_11 (by first | (simp; done) | (simp; omega))).trans c3_10
                    have d3_5l := keep_lt kk3 c3_11
                    have d3_6 : getCells hh3 hh0.length 0 = some [] := (keep_get kk3 c3_13 (by first | (simp; done) | (simp; omega))).trans c3_12
                    have d3_6l := keep_lt kk3 c3_13
                    have d3_7 : getCells hh3 (hh0.length + 1) 0 = some [] := (keep_get kk3 c3_15 (by first | (simp; done) | (simp; omega))).trans c3_14
                    have d3_7l := keep_lt kk3 c3_15
                    have d3_8 : getCells hh3 (hh0.length + 2) 2 = some [.hsl nb0_0 v2.plus.counts.length 0 1 false v2.plus.counts.length, .hsl nb0_1 v2.minus.counts.length 0 1 false v2.minus.counts.length] := (keep_get kk3 c3_17 (by first | (simp; done) | (simp; omega))).trans c3_16
                    have d3_8l := keep_lt kk3 c3_17
                    have d3_9 : getCells hh3 nb1_0 v4.a.plus.counts.length = some (rows (v12.b.plus.counts : List Int)) := w3_0
                    have mm3_0 := len_rows w3_0
                    simp only [zs] at mm3_0
                    have d3_9l := keep_lt kk3 c3_19
                    have d3_10 : getCells hh3 nb1_1 v4.a.minus.counts.length = some (rows (v12.b.minus.counts : List Int)) := w3_1
                    have mm3_1 := len_rows w3_1
                    simp only [zs] at mm3_1
                    have d3_10l := keep_lt kk3 c3_21
                    have d3_11 : getCells hh3 hh1.length 0 = some [] := (keep_get kk3 c3_23 (by first | (simp; done) | (simp; omega))).trans c3_22
                    have d3_11l := keep_lt kk3 c3_23
                    have d3_12 : getCells hh3 (hh1.length + 1) 0 = some [] := (keep_get kk3 c3_25 (by first | (simp; done) | (simp; omega))).trans c3_24
                    have d3_12l := keep_lt kk3 c3_25
                    have d3_13 : getCells hh3 (hh1.length + 2) 2 = some [.hsl nb1_0 v4.a.plus.counts.length 0 1 false v4.a.plus.counts.length, .hsl nb1_1 v4.a.minus.counts.length 0 1 false v4.a.minus.counts.length] := (keep_get kk3 c3_27 (by first | (simp; done) | (simp; omega))).trans c3_26
                    have d3_13l := keep_lt kk3 c3_27
                    obtain ⟨v13, hv13, hp⟩ := bind_eq hp
                    by_cases hb14 : (decide (v13 < 0)) = true
                    · rw [if_t hb14] at hp
                      cases hp
                    · replace hb14 := eq_false_of_ne_true hb14
                      rw [if_f hb14] at hp
                      by_cases hb15 : (decide (v13 = v12.a)) = true
                      · rw [if_t hb15] at hp
                        simp (maxSteps := 2000000) (disch := first|omega|(simp only[ls];first|done|omega)) only [E, hv0, hb1, hv2, hv3, d0_0, d0_1, d0_2, d0_3, d0_4, d0_5, hv4, d1_0, d1_1, d1_2, d1_3, d1_4, d1_5, d1_6, d1_7, d1_8, d1_9, d1_10, hv5, hb6, hb7, hv8, hb9, hv10, d2_0, d2_1, d2_2, d2_3, d2_4, d2_5, d2_6, d2_7, d2_8, d2_9, d2_10, d2_11, d2_12, d2_13, hb11, hv12, d3_0, d3_1, d3_2, d3_3, d3_4, d3_5, d3_6, d3_7, d3_8, d3_9, d3_10, d3_11, d3_12, d3_13, hv13, hb14, hb15, gm]
                        refine call_f (fun h => getCells h 0 2 = some [.i (.sl 1 (x0.plus.counts.map enc)), .i (.sl 1 (x0.minus.counts.map enc))] ∧ 0 < h.length ∧ getCells h 1 0 = some [] ∧ 1 < h.length ∧ getCells h 2 0 = some [] ∧ 2 < h.length ∧ getCells h 3 2 = some [.i (.sl 1 (v3.a.plus.counts.map enc)), .i (.sl 1 (v3.a.minus.counts.map enc))] ∧ 3 < h.length ∧ getCells h nb0_0 v2.plus.counts.length = some (rows (v10.b.plus.counts : List Int)) ∧ nb0_0 < h.length ∧ getCells h nb0_1 v2.minus.counts.length = some (rows (v10.b.minus.counts : List Int)) ∧ nb0_1 < h.length ∧ getCells h hh0.length 0 = some [] ∧ hh0.length < h.length ∧ getCells h (hh0.length + 1) 0 = some [] ∧ hh0.length + 1 < h.length ∧ getCells h (hh0.length + 2) 2 = some [.hsl nb0_0 v2.plus.counts.length 0 1 false v2.plus.counts.length, .hsl nb0_1 v2.minus.counts.length 0 1 false v2.minus.counts.length] ∧ hh0.length + 2 < h.length ∧ getCells h nb1_0 v4.a.plus.counts.length = some (rows (v12.b.plus.counts : List Int)) ∧ nb1_0 < h.length ∧ getCells h nb1_1 v4.a.minus.counts.length = some (rows (v12.b.minus.counts : List Int)) ∧ nb1_1 < h.length ∧ getCells h hh1.length 0 = some [] ∧ hh1.length < h.length ∧ getCells h (hh1.length + 1) 0 = some [] ∧ hh1.length + 1 < h.length ∧ getCells h (hh1.length + 2) 2 = some [.hsl nb1_0 v4.a.plus.counts.length 0 1 false v4.a.plus.counts.length, .hsl nb1_1 v4.a.minus.counts.length 0 1 false v4.a.minus.counts.length] ∧ hh1.length + 2 < h.length) (fun h v h2 => oo_laws_toCounter v2 h v h2) ?_ ?_ ?_
                        · simp (maxSteps := 2000000) (disch := first|omega|(simp only[ls];first|done|omega)) only [E, hv0, hb1, hv2, hv3, d0_0, d0_1, d0_2, d0_3, d0_4, d0_5, hv4, d1_0, d1_1, d1_2, d1_3, d1_4, d1_5, d1_6, d1_7, d1_8, d1_9, d1_10, hv5, hb6, hb7, hv8, hb9, hv10, d2_0, d2_1, d2_2, d2_3, d2_4, d2_5, d2_6, d2_7, d2_8, d2_9, d2_10, d2_11, d2_12, d2_13, hb11, hv12, d3_0, d3_1, d3_2, d3_3, d3_4, d3_5, d3_6, d3_7, d3_8, d3_9, d3_10, d3_11, d3_12, d3_13, hv13, hb14, hb15, gm] <;> omega
                        · rintro h ⟨c4_0, c4_1, c4_2, c4_3, c4_4, c4_5, c4_6, c4_7, c4_8, c4_9, c4_10, c4_11, c4_12, c4_13, c4_14, c4_15, c4_16, c4_17, c4_18, c4_19, c4_20, c4_21, c4_22, c4_23, c4_24, c4_25, c4_26, c4_27⟩
                          exact e_laws_toCounter _ _ hv2 h _ (by simp (maxSteps := 2000000) (disch := first|omega|(simp only[ls];first|done|omega)) only [E, hv0, hb1, hv2, hv3, d0_0, d0_1, d0_2, d0_3, d0_4, d0_5, hv4, d1_0, d1_1, d1_2, d1_3, d1_4, d1_5, d1_6, d1_7, d1_8, d1_9, d1_10, hv5, hb6, hb7, hv8, hb9, hv10, d2_0, d2_1, d2_2, d2_3, d2_4, d2_5, d2_6, d2_7, d2_8, d2_9, d2_10, d2_11, d2_12, d2_13, hb11, hv12, d3_0, d3_1, d3_2, d3_3, d3_4, d3_5, d3_6, d3_7, d3_8, d3_9, d3_10, d3_11, d3_12, d3_13, hv13, hb14, hb15, c4_0, c4_1, c4_2, c4_3, c4_4, c4_5, c4_6, c4_7, c4_8, c4_9, c4_10, c4_11, c4_12, c4_13, c4_14, c4_15, c4_16, c4_17, c4_18, c4_19, c4_20, c4_21, c4_22, c4_23, c4_24, c4_25, c4_26, c4_27, gm])
                        · rintro hc4 v hh4 ⟨c4_0, c4_1, c4_2, c4_3, c4_4, c4_5, c4_6, c4_7, c4_8, c4_9, c4_10, c4_11, c4_12, c4_13, c4_14, c4_15, c4_16, c4_17, c4_18, c4_19, c4_20, c4_21, c4_22, c4_23, c4_24, c4_25, c4_26, c4_27⟩ hpost
                          obtain ⟨kk4, nb4_0, nb4_1, rfl, lnb4_0, gnb4_0, wnb4_0, lnb4_1, gnb4_1, wnb4_1, ne4_1_0⟩ := hpost
                          have d4_0 : getCells hh4 0 2 = some [.i (.sl 1 (x0.plus.counts.map enc)), .i (.sl 1 (x0.minus.counts.map enc))] := (keep_get kk4 c4_1 (by first | (simp; done) | (simp; omega))).trans c4_0
                          have d4_0l := keep_lt kk4 c4_1
                          have d4_1 : getCells hh4 1 0 = some [] := (keep_get kk4 c4_3 (by first | (simp; done) | (simp; omega))).trans c4_2
                          have d4_1l := keep_lt kk4 c4_3
                          have d4_2 : getCells hh4 2 0 = some [] := (keep_get kk4 c4_5 (by first | (simp; done) | (simp; omega))).trans c4_4
                          have d4_2l := keep_lt kk4 c4_5
                          have d4_3 : getCells hh4 3 2 = some [.i (.sl 1 (v3.a.plus.counts.map enc)), .i (.sl 1 (v3.a.minus.counts.map enc))] := (keep_get kk4 c4_7 (by first | (simp; done) | (simp; omega))).trans c4_6
                          have d4_3l := keep_lt kk4 c4_7
                          have d4_4 : getCells hh4 nb0_0 v2.plus.counts.length = some (rows (v10.b.plus.counts : List Int)) := (keep_get kk4 c4_9 (by first | (simp; done) | (simp; omega))).trans c4_8
                          have d4_4l := keep_lt kk4 c4_9
                          have d4_5 : getCells hh4 nb0_1 v2.minus.counts.length = some (rows (v10.b.minus.counts : List Int)) := (keep_get kk4 c4_11 (by first | (simp; done) | (simp; omega))).trans c4_10
                          have d4_5l := keep_lt kk4 c4_11
                          have d4_6 : getCells hh4 hh0.length 0 = some [] := (keep_get kk4 c4_13 (by first | (simp; done) | (simp; omega))).trans c4_12
                          have d4_6l := keep_lt kk4 c4_13
                          have d4_7 : getCells hh4 (hh0.length + 1) 0 = some [] := (keep_get kk4 c4_15 (by first | (simp; done) | (simp; omega))).trans c4_14
                          have d4_7l := keep_lt kk4 c4_15
                          have d4_8 : getCells hh4 (hh0.length + 2) 2 = some [.hsl nb0_0 v2.plus.counts.length 0 1 false v2.plus.counts.length, .hsl nb0_1 v2.minus.counts.length 0 1 false v2.minus.counts.length] := (keep_get kk4 c4_17 (by first | (simp; done) | (simp; omega))).trans c4_16
                          have d4_8l := keep_lt kk4 c4_17
                          have d4_9 : getCells hh4 nb1_0 v4.a.plus.counts.length = some (rows (v12.b.plus.counts : List Int)) := (keep_get kk4 c4_19 (by first | (simp; done) | (simp; omega))).trans c4_18
                          have d4_9l := keep_lt kk4 c4_19
                          have d4_10 : getCells hh4 nb1_1 v4.a.minus.counts.length = some (rows (v12.b.minus.counts : List Int)) := (keep_get kk4 c4_21 (by first | (simp; done) | (simp; omega))).trans c4_20
                          have d4_10l := keep_lt kk4 c4_21
                          have d4_11 : getCells hh4 hh1.length 0 = some [] := (keep_get kk4 c4_23 (by first | (simp; done) | (simp; omega))).trans c4_22
                          have d4_11l := keep_lt kk4 c4_23
                          have d4_12 : getCells hh4 (hh1.length + 1) 0 = some [] := (keep_get kk4 c4_25 (by first | (simp; done) | (simp; omega))).trans c4_24
                          have d4_12l := keep_lt kk4 c4_25
                          have d4_13 : getCells hh4 (hh1.length + 2) 2 = some [.hsl nb1_0 v4.a.plus.counts.length 0 1 false v4.a.plus.counts.length, .hsl nb1_1 v4.a.minus.counts.length 0 1 false v4.a.minus.counts.length] := (keep_get kk4 c4_27 (by first | (simp; done) | (simp; omega))).trans c4_26
                          have d4_13l := keep_lt kk4 c4_27
                          have d4_14 := wnb4_0
                          have d4_15 := wnb4_1
                          simp (maxSteps := 2000000) (disch := first|omega|(simp only[ls];first|done|omega)) only [E, hv0, hb1, hv2, hv3, d0_0, d0_1, d0_2, d0_3, d0_4, d0_5, hv4, d1_0, d1_1, d1_2, d1_3, d1_4, d1_5, d1_6, d1_7, d1_8, d1_9, d1_10, hv5, hb6, hb7, hv8, hb9, hv10, d2_0, d2_1, d2_2, d2_3, d2_4, d2_5, d2_6, d2_7, d2_8, d2_9, d2_10, d2_11, d2_12, d2_13, hb11, hv12, d3_0, d3_1, d3_2, d3_3, d3_4, d3_5, d3_6, d3_7, d3_8, d3_9, d3_10, d3_11, d3_12, d3_13, hv13, hb14, hb15, d4_0, d4_1, d4_2, d4_3, d4_4, d4_5, d4_6, d4_7, d4_8, d4_9, d4_10, d4_11, d4_12, d4_13, d4_14, d4_15, gm]
                          refine call_f (fun h => getCells h 0 2 = some [.i (.sl 1 (x0.plus.counts.map enc)), .i (.sl 1 (x0.minus.counts.map enc))] ∧ 0 < h.length ∧ getCells h 1 0 = some [] ∧ 1 < h.length ∧ getCells h 2 0 = some [] ∧ 2 < h.length ∧ getCells h 3 2 = some [.i (.sl 1 (v3.a.plus.counts.map enc)), .i (.sl 1 (v3.a.minus.counts.map enc))] ∧ 3 < h.length ∧ getCells h nb0_0 v2.plus.counts.length = some (rows (v10.b.plus.counts : List Int)) ∧ nb0_0 < h.length ∧ getCells h nb0_1 v2.minus.counts.length = some (rows (v10.b.minus.counts : List Int)) ∧ nb0_1 < h.length ∧ getCells h hh0.length 0 = some [] ∧ hh0.length < h.length ∧ getCells h (hh0.length + 1) 0 = some [] ∧ hh0.length + 1 < h.length ∧ getCells h (hh0.length + 2) 2 = some [.hsl nb0_0 v2.plus.counts.length 0 1 false v2.plus.counts.length, .hsl nb0_1 v2.minus.counts.length 0 1 false v2.minus.counts.length] ∧ hh0.length + 2 < h.length ∧ getCells h nb1_0 v4.a.plus.counts.length = some (rows (v12.b.plus.counts : List Int)) ∧ nb1_0 < h.length ∧ getCells h nb1_1 v4.a.minus.counts.length = some (rows (v12.b.minus.counts : List Int)) ∧ nb1_1 < h.length ∧ getCells h hh1.length 0 = some [] ∧ hh1.length < h.length ∧ getCells h (hh1.length + 1) 0 = some [] ∧ hh1.length + 1 < h.length ∧ getCells h (hh1.length + 2) 2 = some [.hsl nb1_0 v4.a.plus.counts.length 0 1 false v4.a.plus.counts.length, .hsl nb1_1 v4.a.minus.counts.length 0 1 false v4.a.minus.counts.length] ∧ hh1.length + 2 < h.length ∧ getCells h nb4_0 v2.plus.counts.length = some (rows (v2.plus.counts : List Int)) ∧ nb4_0 < h.length ∧ getCells h nb4_1 v2.minus.counts.length = some (rows (v2.minus.counts : List Int)) ∧ nb4_1 < h.length) (fun h v h2 => oo_impl_CounterAdd v4 h v h2) ?_ ?_ ?_
                          · simp (maxSteps := 2000000) (disch := first|omega|(simp only[ls];first|done|omega)) only [E, hv0, hb1, hv2, hv3, d0_0, d0_1, d0_2, d0_3, d0_4, d0_5, hv4, d1_0, d1_1, d1_2, d1_3, d1_4, d1_5, d1_6, d1_7, d1_8, d1_9, d1_10, hv5, hb6, hb7, hv8, hb9, hv10, d2_0, d2_1, d2_2, d2_3, d2_4, d2_5, d2_6, d2_7, d2_8, d2_9, d2_10, d2_11, d2_12, d2_13, hb11, hv12, d3_0, d3_1, d3_2, d3_3, d3_4, d3_5, d3_6, d3_7, d3_8, d3_9, d3_10, d3_11, d3_12, d3_13, hv13, hb14, hb15, d4_0, d4_1, d4_2, d4_3, d4_4, d4_5, d4_6, d4_7, d4_8, d4_9, d4_10, d4_11, d4_12, d4_13, d4_14, d4_15, gm] <;> omega
                          · rintro h ⟨c5_0, c5_1, c5_2, c5_3, c5_4, c5_5, c5_6, c5_7, c5_8, c5_9, c5_10, c5_11, c5_12, c5_13, c5_14, c5_15, c5_16, c5_17, c5_18, c5_19, c5_20, c5_21, c5_22, c5_23, c5_24, c5_25, c5_26, c5_27, c5_28, c5_29, c5_30, c5_31⟩
                            exact e_impl_CounterAdd _ _ _ _ hv4 h _ (by simp (maxSteps := 2000000) (disch := first|omega|(simp only[ls];first|done|omega)) only [E, hv0, hb1, hv2, hv3, d0_0, d0_1, d0_2, d0_3, d0_4, d0_5, hv4, d1_0, d1_1, d1_2, d1_3, d1_4, d1_5, d1_6, d1_7, d1_8, d1_9, d1_10, hv5, hb6, hb7, hv8, hb9, hv10, d2_0, d2_1, d2_2, d2_3, d2_4, d2_5, d2_6, d2_7, d2_8, d2_9, d2_10, d2_11, d2_12, d2_13, hb11, hv12, d3_0, d3_1, d3_2, d3_3, d3_4, d3_5, d3_6, d3_7, d3_8, d3_9, d3_10, d3_11, d3_12, d3_13, hv13, hb14, hb15, d4_0, d4_1, d4_2, d4_3, d4_4, d4_5, d4_6, d4_7, d4_8, d4_9, d4_10, d4_11, d4_12, d4_13, d4_14, d4_15, c5_0, c5_1, c5_2, c5_3, c5_4, c5_5, c5_6, c5_7, c5_8, c5_9, c5_10, c5_11, c5_12, c5_13, c5_14, c5_15, c5_16, c5_17, c5_18, c5_19, c5_20, c5_21, c5_22, c5_23, c5_24, c5_25, c5_26, c5_27, c5_28, c5_29, c5_30, c5_31, gm])
                          · rintro hc5 v hh5 ⟨c5_0, c5_1, c5_2, c5_3, c5_4, c5_5, c5_6, c5_7, c5_8, c5_9, c5_10, c5_11, c5_12, c5_13, c5_14, c5_15, c5_16, c5_17, c5_18, c5_19, c5_20, c5_21, c5_22, c5_23, c5_24, c5_25, c5_26, c5_27, c5_28, c5_29, c5_30, c5_31⟩ hpost
                            obtain ⟨kk5, nb5_0, nb5_1, rfl, lnb5_0, gnb5_0, wnb5_0, lnb5_1, gnb5_1, wnb5_1, ne5_1_0⟩ := hpost
                            have d5_0 : getCells hh5 0 2 = some [.i (.sl 1 (x0.plus.counts.map enc)), .i (.sl 1 (x0.minus.counts.map enc))] := (keep_get kk5 c5_1 (by first | (simp; done) | (simp; omega))).trans c5_0
                            have d5_0l := keep_lt kk5 c5_1
                            have d5_1 : getCells hh5 1 0 = some [] := (keep_get kk5 c5_3 (by first | (simp; done) | (simp; omega))).trans c5_2
                            have d5_1l := keep_lt kk5 c5_3
                            have d5_2 : getCells hh5 2 0 = some [] := (keep_get kk5 c5_5 (by first | (simp; done) | (simp; omega))).trans c5_4
                            have d5_2l := keep_lt kk5 c5_5
                            have d5_3 : getCells hh5 3 2 = some [.i (.sl 1 (v3.a.plus.counts.map enc)), .i (.sl 1 (v3.a.minus.counts.map enc))] := (keep_get kk5 c5_7 (by first | (simp; done) | (simp; omega))).trans c5_6
                            have d5_3l := keep_lt kk5 c5_7
                            have d5_4 : getCells hh5 nb0_0 v2.plus.counts.length = some (rows (v10.b.plus.counts : List Int)) := (keep_get kk5 c5_9 (by first | (simp; done) | (simp; omega))).trans c5_8
                            have d5_4l := keep_lt kk5 c5_9
                            have d5_5 : getCells hh5 nb0_1 v2.minus.counts.length = some (rows (v10.b.minus.counts : List Int)) := (keep_get kk5 c5_11 (by first | (simp; done) | (simp; omega))).trans c5_10
                            have d5_5l := keep_lt kk5 c5_11
                            have d5_6 : getCells hh5 hh0.length 0 = some [] := (keep_get kk5 c5_13 (by first | (simp; done) | (simp; omega))).trans c5_12
                            have d5_6l := keep_lt kk5 c5_13
                            have d5_7 : getCells hh5 (hh0.length + 1) 0 = some [] := (keep_get kk5 c5_15 (by first | (simp; done) | (simp; omega))).trans c5_14
                            have d5_7l := keep_lt kk5 c5_15
                            have d5_8 : getCells hh5 (hh0.length + 2) 2 = some [.hsl nb0_0 v2.plus.counts.length 0 1 false v2.plus.counts.length, .hsl nb0_1 v2.minus.counts.length 0 1 false v2.minus.counts.length] := (keep_get kk5 c5_17 (by first | (simp; done) | (simp; omega))).trans c5_16
                            have d5_8l := keep_lt kk5 c5_17
                            have d5_9 : getCells hh5 nb1_0 v4.a.plus.counts.length = some (rows (v12.b.plus.counts : List Int)) := (keep_get kk5 c5_19 (by first | (simp; done) | (simp; omega))).trans c5_18
                            have d5_9l := keep_lt kk5 c5_19
                            have d5_10 : getCells hh5 nb1_1 v4.a.minus.counts.length = some (rows (v12.b.minus.counts : List Int)) := (keep_get kk5 c5_21 (by first | (simp; done) | (simp; omega))).trans c5_20
                            have d5_10l := keep_lt kk5 c5_21
                            have d5_11 : getCells hh5 hh1.length 0 = some [] := (keep_get kk5 c5_23 (by first | (simp; done) | (simp; omega))).trans c5_22
                            have d5_11l := keep_lt kk5 c5_23
                            have d5_12 : getCells hh5 (hh1.length + 1) 0 = some [] := (keep_get kk5 c5_25 (by first | (simp; done) | (simp; omega))).trans c5_24
                            have d5_12l := keep_lt kk5 c5_25
                            have d5_13 : getCells hh5 (hh1.length + 2) 2 = some [.hsl nb1_0 v4.a.plus.counts.length 0 1 false v4.a.plus.counts.length, .hsl nb1_1 v4.a.minus.counts.length 0 1 false v4.a.minus.counts.length] := (keep_get kk5 c5_27 (by first | (simp; done) | (simp; omega))).trans c5_26
                            have d5_13l := keep_lt kk5 c5_27
                            have d5_14 : getCells hh5 nb4_0 v2.plus.counts.length = some (rows (v2.plus.counts : List Int)) := (keep_get kk5 c5_29 (by first | (simp; done) | (simp; omega))).trans c5_28
                            have d5_14l := keep_lt kk5 c5_29
                            have d5_15 : getCells hh5 nb4_1 v2.minus.counts.length = some (rows (v2.minus.counts : List Int)) := (keep_get kk5 c5_31 (by first | (simp; done) | (simp; omega))).trans c5_30
                            have d5_15l := keep_lt kk5 c5_31
                            have d5_16 := wnb5_0
                            have d5_17 := wnb5_1
                            cases hp
                            simp (maxSteps := 2000000) (disch := first|omega|(simp only[ls];first|done|omega)) only [E, hv0, hb1, hv2, hv3, d0_0, d0_1, d0_2, d0_3, d0_4, d0_5, hv4, d1_0, d1_1, d1_2, d1_3, d1_4, d1_5, d1_6, d1_7, d1_8, d1_9, d1_10, hv5, hb6, hb7, hv8, hb9, hv10, d2_0, d2_1, d2_2, d2_3, d2_4, d2_5, d2_6, d2_7, d2_8, d2_9, d2_10, d2_11, d2_12, d2_13, hb11, hv12, d3_0, d3_1, d3_2, d3_3, d3_4, d3_5, d3_6, d3_7, d3_8, d3_9, d3_10, d3_11, d3_12, d3_13, hv13, hb14, hb15, d4_0, d4_1, d4_2, d4_3, d4_4, d4_5, d4_6, d4_7, d4_8, d4_9, d4_10, d4_11, d4_12, d4_13, d4_14, d4_15, d5_0, d5_1, d5_2, d5_3, d5_4, d5_5, d5_6, d5_7, d5_8, d5_9, d5_10, d5_11, d5_12, d5_13, d5_14, d5_15, d5_16, d5_17, gm]
                      · replace hb15 := eq_false_of_ne_true hb15
                        rw [if_f hb15] at hp
                        cases hp
            · replace hb9 := eq_false_of_ne_true hb9
              rw [if_f hb9] at hp
              cases hp
          · replace hb7 := eq_false_of_ne_true hb7
            rw [if_f hb7] at hp
            cases hp
        · replace hb6 := eq_false_of_ne_true hb6
          rw [if_f hb6] at hp
          cases hp

end Go.AM
