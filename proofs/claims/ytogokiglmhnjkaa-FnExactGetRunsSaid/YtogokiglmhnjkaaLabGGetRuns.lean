/- Plain functions of GetRuns and their walks. No condition. -/
import Derived.Test.YtogokiglmhnjkaaLabPackD
set_option linter.unusedVariables false
set_option linter.unusedSimpArgs false
set_option maxRecDepth 20000
namespace Go.AM
open Pic (enc dec dec_enc dec_sub)
open PicA (encA decA decA_encA decA_sub)
noncomputable def p_laws_toByteS_l0 (x0 : List U8) : List U8 × Int → Option (Lp (List U8 × Int) (List U8))
  | (s1, s2) =>
    if (decide (s2 < (x0.length : Int))) = true then
      (get? x0 s2).bind fun v4 =>
      (get? s1 s2).bind fun v5 =>
      some (.go ((s1.set s2.toNat v4), w64 (s2 + 1)))
    else
      some (.out (s1, s2))
noncomputable def p_laws_toByteS (x0 : List U8) : Option (List U8) :=
  ((mkL (x0.length : Int) 1 (x0.length : Int) (U8.mk 0) : Option (List U8))).bind fun v0 =>
  (loopP (p_laws_toByteS_l0 x0) (v0, 0)).bind fun ee0 => match ee0 with
  | .ret r => some r
  | .out (o7, o8) =>
    some o7
def c_laws_toByteS : AFn := ⟨22, (.seq (.ops [(qS 2 (.vnil 1 false))]) (.seq (.ops [(qS 5 (.mv (.tmp 0))), (qS 6 (.len (.tmp 5))), (qS 7 (.makeSl 1 false 1 [(.int .u8 0)] (.tmp 6) (.tmp 6))), (qS 3 (.mv (.tmp 7)))]) (.seq (.seq (.ops [(qS 4 (.mv (ic 0)))]) (.block 0 (.loop (.seq (.seq (.ops [(qS 8 (.mv (.tmp 4))), (qS 9 (.mv (.tmp 0))), (qS 10 (.len (.tmp 9))), (qS 11 (.pu (.n (.ar .lss)) [(.tmp 8), (.tmp 10)]))]) (.cond (.tmp 11) .skip (.exit 0))) (.seq (.block 1 (.ops [(qS 14 (.mv (.tmp 3))), (qS 15 (.mv (.tmp 4))), (qS 16 (.mv (.tmp 0))), (qS 17 (.mv (.tmp 4))), (qS 18 (.idxS 1 (.tmp 16) (.tmp 17))), (qS 19 (.load 1 false (.tmp 18))), (qS 20 (.idxS 1 (.tmp 14) (.tmp 15))), ⟨.none, (.storeV [(0, false)] 1 (.tmp 20) (.tmp 19)), .none, [], .none⟩])) (.ops [(qS 12 (.mv (.tmp 4))), (qS 13 (.pu (.n (.ar .add)) [(.tmp 12), (ic 1)])), (qS 4 (.mv (.tmp 13)))])))))) (.seq (.ops [(qS 21 (.mv (.tmp 3))), (qS 2 (.mv (.tmp 21)))]) .ret)))), [(.tmp 2)]⟩
set_option maxHeartbeats 10000000 in
theorem d_laws_toByteS {P : Program} {env : Env}  (x0 : List U8) {b : List U8} (hp : p_laws_toByteS x0 = some b) : R P env (c_laws_toByteS) ((encA (x0)).map ofI) [] (Tells true b) := by
  refine R_of (by simp [c_laws_toByteS, encA]) ?_
  unfold c_laws_toByteS
  unfold p_laws_toByteS at hp
  obtain ⟨v0, hv0, hp⟩ := bind_eq hp
  obtain ⟨kv0, qv0, lv0⟩ := mkL_some hv0
  have rv0 : (List.replicate x0.length [.i (.s (.int .u8 0))]).flatten = rows v0 := by rw [qv0]; exact rows_rep (x := ((U8.mk 0) : U8)) rfl
  have mv0 : x0.length = v0.length := by rw [lv0]; simp
  obtain ⟨ee0, hee0, hp⟩ := bind_eq hp
  simp (maxSteps := 2000000) (disch := first|omega|(simp only[ls];first|done|omega)) only [hv0, rv0, kv0.1, kv0.2.1, kv0.2.2.1, kv0.2.2.2, gm]
  refine W_loopP 0 (fun s t h => match s with | (s1, s2) => t 0 = .i (.sl 1 (x0.map enc)) ∧ t 3 = .hsl 1 x0.length 0 1 false x0.length ∧ t 4 = .i (.s (.int .i64 s2)) ∧ getCells h 1 x0.length = some (rows (s1 : List U8)) ∧ 1 < h.length) (RK [.tmp 2] (Tells true)) ?_ hee0 ?_ ?_
  · rintro ⟨s1, s2⟩ ee tt0 hh0 ⟨ftt0_0, ftt0_1, ftt0_2, ftt0_3, ftt0_4⟩ hp
    have ztt0_3 := len_rows ftt0_3
    simp only [zs] at ztt0_3
    rw [p_laws_toByteS_l0] at hp
    by_cases hb3 : (decide (s2 < (x0.length : Int))) = true
    · rw [if_t hb3] at hp
      obtain ⟨v4, hv4, hp⟩ := bind_eq hp
      obtain ⟨v5, hv5, hp⟩ := bind_eq hp
      have gv5 := get_some hv5
      have hs6 : List.take s2.toNat (rows s1) ++ .i (.s (.int .u8 v4.v)) :: List.drop (s2.toNat + 1) (rows s1) = rows (s1.set s2.toNat v4) := by simpa [splice, zs, cellsV, I.cells, enc_u8] using rows_set_off (y := v4) (ys := [.i (.s (.int .u8 v4.v))]) (k := 0) gv5.2.2 (Nat.le_of_ble_eq_true rfl) (by rfl)
      have hp := Option.some.inj hp
      subst hp
      simp (maxSteps := 2000000) (disch := first|omega|(simp only[ls];first|done|omega)) only [hv0, rv0, kv0.1, kv0.2.1, kv0.2.2.1, kv0.2.2.2, ftt0_0, ftt0_1, ftt0_2, ftt0_3, ftt0_4, hb3, hv4, hv5, (gv5).1, (gv5).2.1, hs6, gm] <;> omega
    · replace hb3 := eq_false_of_ne_true hb3
      rw [if_f hb3] at hp
      have hp := Option.some.inj hp
      subst hp
      simp (maxSteps := 2000000) (disch := first|omega|(simp only[ls];first|done|omega)) only [hv0, rv0, kv0.1, kv0.2.1, kv0.2.2.1, kv0.2.2.2, ftt0_0, ftt0_1, ftt0_2, ftt0_3, ftt0_4, hb3, gm] <;> omega
  · simp (maxSteps := 2000000) (disch := first|omega|(simp only[ls];first|done|omega)) only [hv0, rv0, kv0.1, kv0.2.1, kv0.2.2.1, kv0.2.2.2, gm] <;> omega
  · intro x tt1 hh1 hx
    rcases ee0 with ⟨o7, o8⟩ | r
    · obtain ⟨rfl, ftt1_0, ftt1_1, ftt1_2, ftt1_3, ftt1_4⟩ := hx
      have ztt1_3 := len_rows ftt1_3
      simp only [zs] at ztt1_3
      dsimp only at hp
      have hp := Option.some.inj hp
      subst hp
      simp (maxSteps := 2000000) (disch := first|omega|(simp only[ls];first|done|omega)) only [hv0, rv0, kv0.1, kv0.2.1, kv0.2.2.1, kv0.2.2.2, ftt1_0, ftt1_1, ftt1_2, ftt1_3, ftt1_4, gm]
    · obtain ⟨rfl, hx⟩ := hx
      dsimp only at hp
      cases hp
      simp only [seqK_ret, blockK_ret, retK_RK (K := Tells true), hx, and_self, true_and]

def o_laws_toByteS (b : List U8) (v : V) (h : Heap) : Prop := ∃ n0 : Nat, v = .hsl n0 b.length 0 1 false b.length ∧ getCells h n0 b.length = some (rows b)
def oo_laws_toByteS (b : List U8) (h : Heap) (v : V) (h2 : Heap) : Prop := Keep [] h h2 ∧ ∃ n0 : Nat, v = .hsl n0 b.length 0 1 false b.length ∧ n0 < h2.length ∧ h.length ≤ n0 ∧ getCells h2 n0 b.length = some (rows b)
def k_laws_toByteS (F : Fun) : Prop := ∀ (x0 : List U8) (b : List U8), p_laws_toByteS x0 = some b → ∀ (h : Heap) (args : List V), snapA 9 false h args = some (encA (x0)) → ∃ p, F none args h = some p ∧ oo_laws_toByteS b h p.1 p.2
set_option maxHeartbeats 10000000 in
theorem w_laws_toByteS {P : Program} {env : Env}  (x0 : List U8) {b : List U8} (hp : p_laws_toByteS x0 = some b) : R P env (c_laws_toByteS) ((encA (x0)).map ofI) [] (o_laws_toByteS b) := by
  refine R_of (by simp [c_laws_toByteS, encA]) ?_
  unfold c_laws_toByteS
  unfold p_laws_toByteS at hp
  obtain ⟨v0, hv0, hp⟩ := bind_eq hp
  obtain ⟨kv0, qv0, lv0⟩ := mkL_some hv0
  have rv0 : (List.replicate x0.length [.i (.s (.int .u8 0))]).flatten = rows v0 := by rw [qv0]; exact rows_rep (x := ((U8.mk 0) : U8)) rfl
  have mv0 : x0.length = v0.length := by rw [lv0]; simp
  obtain ⟨ee0, hee0, hp⟩ := bind_eq hp
  simp (maxSteps := 2000000) (disch := first|omega|(simp only[ls];first|done|omega)) only [hv0, rv0, kv0.1, kv0.2.1, kv0.2.2.1, kv0.2.2.2, gm]
  refine W_loopP 0 (fun s t h => match s with | (s1, s2) => t 0 = .i (.sl 1 (x0.map enc)) ∧ t 3 = .hsl 1 x0.length 0 1 false x0.length ∧ t 4 = .i (.s (.int .i64 s2)) ∧ getCells h 1 x0.length = some (rows (s1 : List U8)) ∧ 1 < h.length) (RK [.tmp 2] (o_laws_toByteS)) ?_ hee0 ?_ ?_
  · rintro ⟨s1, s2⟩ ee tt0 hh0 ⟨ftt0_0, ftt0_1, ftt0_2, ftt0_3, ftt0_4⟩ hp
    have ztt0_3 := len_rows ftt0_3
    simp only [zs] at ztt0_3
    rw [p_laws_toByteS_l0] at hp
    by_cases hb3 : (decide (s2 < (x0.length : Int))) = true
    · rw [if_t hb3] at hp
      obtain ⟨v4, hv4, hp⟩ := bind_eq hp
      obtain ⟨v5, hv5, hp⟩ := bind_eq hp
      have gv5 := get_some hv5
      have hs6 : List.take s2.toNat (rows s1) ++ .i (.s (.int .u8 v4.v)) :: List.drop (s2.toNat + 1) (rows s1) = rows (s1.set s2.toNat v4) := by simpa [splice, zs, cellsV, I.cells, enc_u8] using rows_set_off (y := v4) (ys := [.i (.s (.int .u8 v4.v))]) (k := 0) gv5.2.2 (Nat.le_of_ble_eq_true rfl) (by rfl)
      have hp := Option.some.inj hp
      subst hp
      simp (maxSteps := 2000000) (disch := first|omega|(simp only[ls];first|done|omega)) only [hv0, rv0, kv0.1, kv0.2.1, kv0.2.2.1, kv0.2.2.2, ftt0_0, ftt0_1, ftt0_2, ftt0_3, ftt0_4, hb3, hv4, hv5, (gv5).1, (gv5).2.1, hs6, gm] <;> omega
    · replace hb3 := eq_false_of_ne_true hb3
      rw [if_f hb3] at hp
      have hp := Option.some.inj hp
      subst hp
      simp (maxSteps := 2000000) (disch := first|omega|(simp only[ls];first|done|omega)) only [hv0, rv0, kv0.1, kv0.2.1, kv0.2.2.1, kv0.2.2.2, ftt0_0, ftt0_1, ftt0_2, ftt0_3, ftt0_4, hb3, gm] <;> omega
  · simp (maxSteps := 2000000) (disch := first|omega|(simp only[ls];first|done|omega)) only [hv0, rv0, kv0.1, kv0.2.1, kv0.2.2.1, kv0.2.2.2, gm] <;> omega
  · intro x tt1 hh1 hx
    rcases ee0 with ⟨o7, o8⟩ | r
    · obtain ⟨rfl, ftt1_0, ftt1_1, ftt1_2, ftt1_3, ftt1_4⟩ := hx
      have ztt1_3 := len_rows ftt1_3
      simp only [zs] at ztt1_3
      dsimp only at hp
      have hp := Option.some.inj hp
      subst hp
      simp (maxSteps := 2000000) (disch := first|omega|(simp only[ls];first|done|omega)) only [hv0, rv0, kv0.1, kv0.2.1, kv0.2.2.1, kv0.2.2.2, ftt1_0, ftt1_1, ftt1_2, ftt1_3, ftt1_4, gm]
      refine ⟨1, ?_⟩
      simp (maxSteps := 2000000) (disch := first|omega|(simp only[ls];first|done|omega)) only [hv0, rv0, kv0.1, kv0.2.1, kv0.2.2.1, kv0.2.2.2, ftt1_0, ftt1_1, ftt1_2, ftt1_3, ftt1_4, o_laws_toByteS, (show (o7).length = x0.length from by first | omega | rfl | (simp; done) | (simp; omega)), gm] <;> omega
    · obtain ⟨rfl, hx⟩ := hx
      dsimp only at hp
      cases hp
      simp only [seqK_ret, blockK_ret, retK_RK (K := o_laws_toByteS), hx, and_self, true_and]
theorem ko_laws_toByteS {P : Program} {env : Env}  : k_laws_toByteS (ownFn P env (c_laws_toByteS)) := by
  intro x0 b hp h args has
  obtain ⟨⟨v, H2⟩, hr, n0, rfl, wn0⟩ := w_laws_toByteS x0 hp
  exact ⟨_, own_call has hr rfl, keep_moved, n0 + h.length, rfl, (moved_lt wn0).2, (moved_lt wn0).1, moved_rows wn0⟩

noncomputable def p_laws_eqIntS_l0 (x0 : List Int) (x1 : List Int) : Int → Option (Lp (Int) Bool)
  | s1 =>
    if (decide (s1 < (x0.length : Int))) = true then
      (get? x0 s1).bind fun v3 =>
      (get? x1 s1).bind fun v4 =>
      if (decide (v3 = v4)) = true then
        some (.go (w64 (s1 + 1)))
      else
        some (.ret false)
    else
      some (.out s1)
noncomputable def p_laws_eqIntS (x0 : List Int) (x1 : List Int) : Option Bool :=
  if (decide ((x0.length : Int) = (x1.length : Int))) = true then
    (loopP (p_laws_eqIntS_l0 x0 x1) 0).bind fun ee0 => match ee0 with
    | .ret r => some r
    | .out o6 =>
      some true
  else
    some false
def c_laws_eqIntS : AFn := ⟨26, (.seq (.ops [(qS 4 (.mv (.const (.bool false))))]) (.seq (.seq (.ops [(qS 6 (.mv (.tmp 0))), (qS 7 (.len (.tmp 6))), (qS 8 (.mv (.tmp 1))), (qS 9 (.len (.tmp 8))), (qS 10 (.pu (.n (.ar .neq)) [(.tmp 7), (.tmp 9)]))]) (.cond (.tmp 10) (.seq (.ops [(qS 4 (.mv (.const (.bool false))))]) .ret) .skip)) (.seq (.seq (.ops [(qS 5 (.mv (ic 0)))]) (.block 0 (.loop (.seq (.seq (.ops [(qS 11 (.mv (.tmp 5))), (qS 12 (.mv (.tmp 0))), (qS 13 (.len (.tmp 12))), (qS 14 (.pu (.n (.ar .lss)) [(.tmp 11), (.tmp 13)]))]) (.cond (.tmp 14) .skip (.exit 0))) (.seq (.block 1 (.seq (.ops [(qS 17 (.mv (.tmp 0))), (qS 18 (.mv (.tmp 5))), (qS 19 (.idxS 1 (.tmp 17) (.tmp 18))), (qS 20 (.load 1 false (.tmp 19))), (qS 21 (.mv (.tmp 1))), (qS 22 (.mv (.tmp 5))), (qS 23 (.idxS 1 (.tmp 21) (.tmp 22))), (qS 24 (.load 1 false (.tmp 23))), (qS 25 (.pu (.n (.ar .neq)) [(.tmp 20), (.tmp 24)]))]) (.cond (.tmp 25) (.seq (.ops [(qS 4 (.mv (.const (.bool false))))]) .ret) .skip))) (.ops [(qS 15 (.mv (.tmp 5))), (qS 16 (.pu (.n (.ar .add)) [(.tmp 15), (ic 1)])), (qS 5 (.mv (.tmp 16)))])))))) (.seq (.ops [(qS 4 (.mv (.const (.bool true))))]) .ret)))), [(.tmp 4)]⟩
set_option maxHeartbeats 10000000 in
theorem d_laws_eqIntS {P : Program} {env : Env}  (x0 : List Int) (x1 : List Int) {b : Bool} (hp : p_laws_eqIntS x0 x1 = some b) : R P env (c_laws_eqIntS) ((encA (x0, x1)).map ofI) [] (Tells true b) := by
  refine R_of (by simp [c_laws_eqIntS, encA]) ?_
  unfold c_laws_eqIntS
  unfold p_laws_eqIntS at hp
  by_cases hb0 : (decide ((x0.length : Int) = (x1.length : Int))) = true
  · rw [if_t hb0] at hp
    obtain ⟨ee0, hee0, hp⟩ := bind_eq hp
    simp (maxSteps := 2000000) (disch := first|omega|(simp only[ls];first|done|omega)) only [hb0, gm]
    refine W_loopP 0 (fun s t h => match s with | s1 => t 0 = .i (.sl 1 (x0.map enc)) ∧ t 1 = .i (.sl 1 (x1.map enc)) ∧ t 5 = .i (.s (.int .i64 s1))) (RK [.tmp 4] (Tells true)) ?_ hee0 ?_ ?_
    · rintro s1 ee tt0 hh0 ⟨ftt0_0, ftt0_1, ftt0_2⟩ hp
      rw [p_laws_eqIntS_l0] at hp
      by_cases hb2 : (decide (s1 < (x0.length : Int))) = true
      · rw [if_t hb2] at hp
        obtain ⟨v3, hv3, hp⟩ := bind_eq hp
        obtain ⟨v4, hv4, hp⟩ := bind_eq hp
        by_cases hb5 : (decide (v3 = v4)) = true
        · rw [if_t hb5] at hp
          have hp := Option.some.inj hp
          subst hp
          simp (maxSteps := 2000000) (disch := first|omega|(simp only[ls];first|done|omega)) only [hb0, ftt0_0, ftt0_1, ftt0_2, hb2, hv3, hv4, hb5, gm] <;> omega
        · replace hb5 := eq_false_of_ne_true hb5
          rw [if_f hb5] at hp
          have hp := Option.some.inj hp
          subst hp
          simp (maxSteps := 2000000) (disch := first|omega|(simp only[ls];first|done|omega)) only [hb0, ftt0_0, ftt0_1, ftt0_2, hb2, hv3, hv4, hb5, gm]
      · replace hb2 := eq_false_of_ne_true hb2
        rw [if_f hb2] at hp
        have hp := Option.some.inj hp
        subst hp
        simp (maxSteps := 2000000) (disch := first|omega|(simp only[ls];first|done|omega)) only [hb0, ftt0_0, ftt0_1, ftt0_2, hb2, gm] <;> omega
    · simp (maxSteps := 2000000) (disch := first|omega|(simp only[ls];first|done|omega)) only [hb0, gm] <;> omega
    · intro x tt1 hh1 hx
      rcases ee0 with o6 | r
      · obtain ⟨rfl, ftt1_0, ftt1_1, ftt1_2⟩ := hx
        dsimp only at hp
        have hp := Option.some.inj hp
        subst hp
        simp (maxSteps := 2000000) (disch := first|omega|(simp only[ls];first|done|omega)) only [hb0, ftt1_0, ftt1_1, ftt1_2, gm]
      · obtain ⟨rfl, hx⟩ := hx
        dsimp only at hp
        cases hp
        simp only [seqK_ret, blockK_ret, retK_RK (K := Tells true), hx, and_self, true_and]
  · replace hb0 := eq_false_of_ne_true hb0
    rw [if_f hb0] at hp
    have hp := Option.some.inj hp
    subst hp
    simp (maxSteps := 2000000) (disch := first|omega|(simp only[ls];first|done|omega)) only [hb0, gm]

noncomputable def p_laws_eqByteS_l0 (x0 : List U8) (x1 : List U8) : Int → Option (Lp (Int) Bool)
  | s1 =>
    if (decide (s1 < (x0.length : Int))) = true then
      (get? x0 s1).bind fun v3 =>
      (get? x1 s1).bind fun v4 =>
      if (decide (v3.v = v4.v)) = true then
        some (.go (w64 (s1 + 1)))
      else
        some (.ret false)
    else
      some (.out s1)
noncomputable def p_laws_eqByteS (x0 : List U8) (x1 : List U8) : Option Bool :=
  if (decide ((x0.length : Int) = (x1.length : Int))) = true then
    (loopP (p_laws_eqByteS_l0 x0 x1) 0).bind fun ee0 => match ee0 with
    | .ret r => some r
    | .out o6 =>
      some true
  else
    some false
def c_laws_eqByteS : AFn := ⟨26, (.seq (.ops [(qS 4 (.mv (.const (.bool false))))]) (.seq (.seq (.ops [(qS 6 (.mv (.tmp 0))), (qS 7 (.len (.tmp 6))), (qS 8 (.mv (.tmp 1))), (qS 9 (.len (.tmp 8))), (qS 10 (.pu (.n (.ar .neq)) [(.tmp 7), (.tmp 9)]))]) (.cond (.tmp 10) (.seq (.ops [(qS 4 (.mv (.const (.bool false))))]) .ret) .skip)) (.seq (.seq (.ops [(qS 5 (.mv (ic 0)))]) (.block 0 (.loop (.seq (.seq (.ops [(qS 11 (.mv (.tmp 5))), (qS 12 (.mv (.tmp 0))), (qS 13 (.len (.tmp 12))), (qS 14 (.pu (.n (.ar .lss)) [(.tmp 11), (.tmp 13)]))]) (.cond (.tmp 14) .skip (.exit 0))) (.seq (.block 1 (.seq (.ops [(qS 17 (.mv (.tmp 0))), (qS 18 (.mv (.tmp 5))), (qS 19 (.idxS 1 (.tmp 17) (.tmp 18))), (qS 20 (.load 1 false (.tmp 19))), (qS 21 (.mv (.tmp 1))), (qS 22 (.mv (.tmp 5))), (qS 23 (.idxS 1 (.tmp 21) (.tmp 22))), (qS 24 (.load 1 false (.tmp 23))), (qS 25 (.pu (.n (.ar .neq)) [(.tmp 20), (.tmp 24)]))]) (.cond (.tmp 25) (.seq (.ops [(qS 4 (.mv (.const (.bool false))))]) .ret) .skip))) (.ops [(qS 15 (.mv (.tmp 5))), (qS 16 (.pu (.n (.ar .add)) [(.tmp 15), (ic 1)])), (qS 5 (.mv (.tmp 16)))])))))) (.seq (.ops [(qS 4 (.mv (.const (.bool true))))]) .ret)))), [(.tmp 4)]⟩
set_option maxHeartbeats 10000000 in
theorem d_laws_eqByteS {P : Program} {env : Env}  (x0 : List U8) (x1 : List U8) {b : Bool} (hp : p_laws_eqByteS x0 x1 = some b) : R P env (c_laws_eqByteS) ((encA (x0, x1)).map ofI) [] (Tells true b) := by
  refine R_of (by simp [c_laws_eqByteS, encA]) ?_
  unfold c_laws_eqByteS
  unfold p_laws_eqByteS at hp
  by_cases hb0 : (decide ((x0.length : Int) = (x1.length : Int))) = true
  · rw [if_t hb0] at hp
    obtain ⟨ee0, hee0, hp⟩ := bind_eq hp
    simp (maxSteps := 2000000) (disch := first|omega|(simp only[ls];first|done|omega)) only [hb0, gm]
    refine W_loopP 0 (fun s t h => match s with | s1 => t 0 = .i (.sl 1 (x0.map enc)) ∧ t 1 = .i (.sl 1 (x1.map enc)) ∧ t 5 = .i (.s (.int .i64 s1))) (RK [.tmp 4] (Tells true)) ?_ hee0 ?_ ?_
    · rintro s1 ee tt0 hh0 ⟨ftt0_0, ftt0_1, ftt0_2⟩ hp
      rw [p_laws_eqByteS_l0] at hp
      by_cases hb2 : (decide (s1 < (x0.length : Int))) = true
      · rw [if_t hb2] at hp
        obtain ⟨v3, hv3, hp⟩ := bind_eq hp
        obtain ⟨v4, hv4, hp⟩ := bind_eq hp
        by_cases hb5 : (decide (v3.v = v4.v)) = true
        · rw [if_t hb5] at hp
          have hp := Option.some.inj hp
          subst hp
          simp (maxSteps := 2000000) (disch := first|omega|(simp only[ls];first|done|omega)) only [hb0, ftt0_0, ftt0_1, ftt0_2, hb2, hv3, hv4, hb5, gm] <;> omega
        · replace hb5 := eq_false_of_ne_true hb5
          rw [if_f hb5] at hp
          have hp := Option.some.inj hp
          subst hp
          simp (maxSteps := 2000000) (disch := first|omega|(simp only[ls];first|done|omega)) only [hb0, ftt0_0, ftt0_1, ftt0_2, hb2, hv3, hv4, hb5, gm]
      · replace hb2 := eq_false_of_ne_true hb2
        rw [if_f hb2] at hp
        have hp := Option.some.inj hp
        subst hp
        simp (maxSteps := 2000000) (disch := first|omega|(simp only[ls];first|done|omega)) only [hb0, ftt0_0, ftt0_1, ftt0_2, hb2, gm] <;> omega
    · simp (maxSteps := 2000000) (disch := first|omega|(simp only[ls];first|done|omega)) only [hb0, gm] <;> omega
    · intro x tt1 hh1 hx
      rcases ee0 with o6 | r
      · obtain ⟨rfl, ftt1_0, ftt1_1, ftt1_2⟩ := hx
        dsimp only at hp
        have hp := Option.some.inj hp
        subst hp
        simp (maxSteps := 2000000) (disch := first|omega|(simp only[ls];first|done|omega)) only [hb0, ftt1_0, ftt1_1, ftt1_2, gm]
      · obtain ⟨rfl, hx⟩ := hx
        dsimp only at hp
        cases hp
        simp only [seqK_ret, blockK_ret, retK_RK (K := Tells true), hx, and_self, true_and]
  · replace hb0 := eq_false_of_ne_true hb0
    rw [if_f hb0] at hp
    have hp := Option.some.inj hp
    subst hp
    simp (maxSteps := 2000000) (disch := first|omega|(simp only[ls];first|done|omega)) only [hb0, gm]

noncomputable def p_laws_markByteS_l0 : List U8 × Int × Int → Option (Lp (List U8 × Int × Int) (T2 Int (List U8)))
  | (s0, s1, s2) =>
    if (decide (s2 < (s0.length : Int))) = true then
      (get? s0 s2).bind fun v5 =>
      some (.go ((s0.set s2.toNat (U8.mk (IntKind.wrap .u8 s1))), w64 (s1 + 1), w64 (s2 + 1)))
    else
      some (.out (s0, s1, s2))
noncomputable def p_laws_markByteS (x0 : List U8) (x1 : Int) : Option (T2 Int (List U8)) :=
  (loopP (p_laws_markByteS_l0) (x0, x1, 0)).bind fun ee0 => match ee0 with
  | .ret r => some r
  | .out (o7, o8, o9) =>
    some ⟨o8, o7⟩
def c_laws_markByteS : AFn := ⟨20, (.seq (.ops [(qS 4 (.mv (ic 0)))]) (.seq (.seq (.ops [(qS 5 (.mv (ic 0)))]) (.block 0 (.loop (.seq (.seq (.ops [(qS 6 (.mv (.tmp 5))), (qS 7 (.mv (.tmp 0))), (qS 8 (.len (.tmp 7))), (qS 9 (.pu (.n (.ar .lss)) [(.tmp 6), (.tmp 8)]))]) (.cond (.tmp 9) .skip (.exit 0))) (.seq (.block 1 (.seq (.ops [(qS 12 (.mv (.tmp 0))), (qS 13 (.mv (.tmp 5))), (qS 14 (.mv (.tmp 1))), (qS 15 (.pu (.n (.conv .u8)) [(.tmp 14)])), (qS 16 (.idxS 1 (.tmp 12) (.tmp 13))), ⟨.none, (.storeV [(0, false)] 1 (.tmp 16) (.tmp 15)), .none, [], .none⟩]) (.ops [(qS 17 (.mv (.tmp 1))), (qS 18 (.pu (.n (.ar .add)) [(.tmp 17), (ic 1)])), (qS 1 (.mv (.tmp 18)))]))) (.ops [(qS 10 (.mv (.tmp 5))), (qS 11 (.pu (.n (.ar .add)) [(.tmp 10), (ic 1)])), (qS 5 (.mv (.tmp 11)))])))))) (.seq (.ops [(qS 19 (.mv (.tmp 1))), (qS 4 (.mv (.tmp 19)))]) .ret))), [(.tmp 4)]⟩
def i_laws_markByteS (pb0 pn0 : Nat) (h : Heap) (b : T2 Int (List U8)) (v : V) (h2 : Heap) : Prop := Keep [pb0] h h2 ∧ v = .i (.s (.int .i64 b.a)) ∧ getCells h2 pb0 pn0 = some (rows b.b)
def k_laws_markByteS (F : Fun) : Prop := ∀ (x0 : List U8) (x1 : Int) (b : T2 Int (List U8)), p_laws_markByteS x0 x1 = some b → ∀ (pb0 pn0 : Nat) (h : Heap), pn0 = (x0).length → getCells h pb0 pn0 = some (rows x0) → ∃ p, F none [.hsl pb0 pn0 0 1 false pn0, .i (.s (.int .i64 x1))] h = some p ∧ i_laws_markByteS pb0 pn0 h b p.1 p.2
set_option maxHeartbeats 10000000 in
theorem w_laws_markByteS {P : Program} {env : Env}  (x0 : List U8) (x1 : Int) {b : T2 Int (List U8)} (hp : p_laws_markByteS x0 x1 = some b) (pb0 pn0 : Nat) (hh : Heap) (pm0 : pn0 = (x0).length) (pf0 : getCells hh pb0 pn0 = some (rows x0)) : R P env (c_laws_markByteS) [.hsl pb0 pn0 0 1 false pn0, .i (.s (.int .i64 x1))] hh (i_laws_markByteS pb0 pn0 hh b) := by
  have pl0 := gc_lt pf0
  have pg0 : getCells hh pb0 x0.length = some (rows x0) := by rw [← pm0]; exact pf0
  refine R_of (by simp [c_laws_markByteS, encA]) ?_
  unfold c_laws_markByteS
  unfold p_laws_markByteS at hp
  obtain ⟨ee0, hee0, hp⟩ := bind_eq hp
  simp (maxSteps := 2000000) (disch := first|omega|(simp only[ls];first|done|omega)) only [pf0, pg0, gm]
  refine W_loopP 0 (fun s t h => match s with | (s0, s1, s2) => t 0 = .hsl pb0 pn0 0 1 false pn0 ∧ t 1 = .i (.s (.int .i64 s1)) ∧ t 5 = .i (.s (.int .i64 s2)) ∧ getCells h pb0 pn0 = some (rows (s0 : List U8)) ∧ pb0 < h.length ∧ Keep [pb0] hh h) (RK [.tmp 4] (i_laws_markByteS pb0 pn0 hh)) ?_ hee0 ?_ ?_
  · rintro ⟨s0, s1, s2⟩ ee tt0 hh0 ⟨ftt0_0, ftt0_1, ftt0_2, ftt0_3, ftt0_4, ftt0_5⟩ hp
    have ztt0_3 := len_rows ftt0_3
    simp only [zs] at ztt0_3
    rw [p_laws_markByteS_l0] at hp
    have hz3 : ((pn0 : Nat) : Int) = (s0.length : Int) := by omega
    by_cases hb4 : (decide (s2 < (s0.length : Int))) = true
    · rw [if_t hb4] at hp
      obtain ⟨v5, hv5, hp⟩ := bind_eq hp
      have gv5 := get_some hv5
      have hs6 : List.take s2.toNat (rows s0) ++ .i (.s (.int .u8 (IntKind.wrap .u8 s1))) :: List.drop (s2.toNat + 1) (rows s0) = rows (s0.set s2.toNat (U8.mk (IntKind.wrap .u8 s1))) := by simpa [splice, zs, cellsV, I.cells, enc_u8] using rows_set_off (y := (U8.mk (IntKind.wrap .u8 s1))) (ys := [.i (.s (.int .u8 (IntKind.wrap .u8 s1)))]) (k := 0) gv5.2.2 (Nat.le_of_ble_eq_true rfl) (by rfl)
      have hp := Option.some.inj hp
      subst hp
      simp (maxSteps := 2000000) (disch := first|omega|(simp only[ls];first|done|omega)) only [i_laws_markByteS, pf0, pg0, ftt0_0, ftt0_1, ftt0_2, ftt0_3, ftt0_4, ftt0_5, hz3, hb4, hv5, (gv5).1, (gv5).2.1, hs6, gm] <;> (repeat (first | omega | assumption | rfl | exact keep_refl | refine keep_app ?_ | (refine keep_set (by first | (left; simp; done) | (right; simp; omega)) ?_) | refine And.intro ?_ ?_))
    · replace hb4 := eq_false_of_ne_true hb4
      rw [if_f hb4] at hp
      have hp := Option.some.inj hp
      subst hp
      simp (maxSteps := 2000000) (disch := first|omega|(simp only[ls];first|done|omega)) only [i_laws_markByteS, pf0, pg0, ftt0_0, ftt0_1, ftt0_2, ftt0_3, ftt0_4, ftt0_5, hz3, hb4, gm] <;> (repeat (first | omega | assumption | rfl | exact keep_refl | refine keep_app ?_ | (refine keep_set (by first | (left; simp; done) | (right; simp; omega)) ?_) | refine And.intro ?_ ?_))
  · simp (maxSteps := 2000000) (disch := first|omega|(simp only[ls];first|done|omega)) only [i_laws_markByteS, pf0, pg0, gm] <;> (repeat (first | omega | assumption | rfl | exact keep_refl | refine keep_app ?_ | (refine keep_set (by first | (left; simp; done) | (right; simp; omega)) ?_) | refine And.intro ?_ ?_))
  · intro x tt1 hh1 hx
    rcases ee0 with ⟨o7, o8, o9⟩ | r
    · obtain ⟨rfl, ftt1_0, ftt1_1, ftt1_2, ftt1_3, ftt1_4, ftt1_5⟩ := hx
      have ztt1_3 := len_rows ftt1_3
      simp only [zs] at ztt1_3
      dsimp only at hp
      have hp := Option.some.inj hp
      subst hp
      simp (maxSteps := 2000000) (disch := first|omega|(simp only[ls];first|done|omega)) only [i_laws_markByteS, pf0, pg0, ftt1_0, ftt1_1, ftt1_2, ftt1_3, ftt1_4, ftt1_5, gm] <;> (repeat (first | omega | assumption | rfl | exact keep_refl | refine keep_app ?_ | (refine keep_set (by first | (left; simp; done) | (right; simp; omega)) ?_) | refine And.intro ?_ ?_))
    · obtain ⟨rfl, hx⟩ := hx
      dsimp only at hp
      cases hp
      simp only [seqK_ret, blockK_ret, retK_RK (K := i_laws_markByteS pb0 pn0 hh), hx, and_self, true_and]
theorem ko_laws_markByteS {P : Program} {env : Env}  : k_laws_markByteS (runIn P env (c_laws_markByteS)) := by
  intro x0 x1 b hp pb0 pn0 h a0 a1
  exact w_laws_markByteS x0 x1 hp pb0 pn0 h a0 a1

noncomputable def p_laws_markIntS_l0 : List Int × Int × Int → Option (Lp (List Int × Int × Int) (T2 Int (List Int)))
  | (s0, s1, s2) =>
    if (decide (s2 < (s0.length : Int))) = true then
      (get? s0 s2).bind fun v5 =>
      some (.go ((s0.set s2.toNat s1), w64 (s1 + 1), w64 (s2 + 1)))
    else
      some (.out (s0, s1, s2))
noncomputable def p_laws_markIntS (x0 : List Int) (x1 : Int) : Option (T2 Int (List Int)) :=
  (loopP (p_laws_markIntS_l0) (x0, x1, 0)).bind fun ee0 => match ee0 with
  | .ret r => some r
  | .out (o7, o8, o9) =>
    some ⟨o8, o7⟩
def c_laws_markIntS : AFn := ⟨19, (.seq (.ops [(qS 4 (.mv (ic 0)))]) (.seq (.seq (.ops [(qS 5 (.mv (ic 0)))]) (.block 0 (.loop (.seq (.seq (.ops [(qS 6 (.mv (.tmp 5))), (qS 7 (.mv (.tmp 0))), (qS 8 (.len (.tmp 7))), (qS 9 (.pu (.n (.ar .lss)) [(.tmp 6), (.tmp 8)]))]) (.cond (.tmp 9) .skip (.exit 0))) (.seq (.block 1 (.seq (.ops [(qS 12 (.mv (.tmp 0))), (qS 13 (.mv (.tmp 5))), (qS 14 (.mv (.tmp 1))), (qS 15 (.idxS 1 (.tmp 12) (.tmp 13))), ⟨.none, (.storeV [(0, false)] 1 (.tmp 15) (.tmp 14)), .none, [], .none⟩]) (.ops [(qS 16 (.mv (.tmp 1))), (qS 17 (.pu (.n (.ar .add)) [(.tmp 16), (ic 1)])), (qS 1 (.mv (.tmp 17)))]))) (.ops [(qS 10 (.mv (.tmp 5))), (qS 11 (.pu (.n (.ar .add)) [(.tmp 10), (ic 1)])), (qS 5 (.mv (.tmp 11)))])))))) (.seq (.ops [(qS 18 (.mv (.tmp 1))), (qS 4 (.mv (.tmp 18)))]) .ret))), [(.tmp 4)]⟩
def i_laws_markIntS (pb0 pn0 : Nat) (h : Heap) (b : T2 Int (List Int)) (v : V) (h2 : Heap) : Prop := Keep [pb0] h h2 ∧ v = .i (.s (.int .i64 b.a)) ∧ getCells h2 pb0 pn0 = some (rows b.b)
def k_laws_markIntS (F : Fun) : Prop := ∀ (x0 : List Int) (x1 : Int) (b : T2 Int (List Int)), p_laws_markIntS x0 x1 = some b → ∀ (pb0 pn0 : Nat) (h : Heap), pn0 = (x0).length → getCells h pb0 pn0 = some (rows x0) → ∃ p, F none [.hsl pb0 pn0 0 1 false pn0, .i (.s (.int .i64 x1))] h = some p ∧ i_laws_markIntS pb0 pn0 h b p.1 p.2
set_option maxHeartbeats 10000000 in
theorem w_laws_markIntS {P : Program} {env : Env}  (x0 : List Int) (x1 : Int) {b : T2 Int (List Int)} (hp : p_laws_markIntS x0 x1 = some b) (pb0 pn0 : Nat) (hh : Heap) (pm0 : pn0 = (x0).length) (pf0 : getCells hh pb0 pn0 = some (rows x0)) : R P env (c_laws_markIntS) [.hsl pb0 pn0 0 1 false pn0, .i (.s (.int .i64 x1))] hh (i_laws_markIntS pb0 pn0 hh b) := by
  have pl0 := gc_lt pf0
  have pg0 : getCells hh pb0 x0.length = some (rows x0) := by rw [← pm0]; exact pf0
  refine R_of (by simp [c_laws_markIntS, encA]) ?_
  unfold c_laws_markIntS
  unfold p_laws_markIntS at hp
  obtain ⟨ee0, hee0, hp⟩ := bind_eq hp
  simp (maxSteps := 2000000) (disch := first|omega|(simp only[ls];first|done|omega)) only [pf0, pg0, gm]
  refine W_loopP 0 (fun s t h => match s with | (s0, s1, s2) => t 0 = .hsl pb0 pn0 0 1 false pn0 ∧ t 1 = .i (.s (.int .i64 s1)) ∧ t 5 = .i (.s (.int .i64 s2)) ∧ getCells h pb0 pn0 = some (rows (s0 : List Int)) ∧ pb0 < h.length ∧ Keep [pb0] hh h) (RK [.tmp 4] (i_laws_markIntS pb0 pn0 hh)) ?_ hee0 ?_ ?_
  · rintro ⟨s0, s1, s2⟩ ee tt0 hh0 ⟨ftt0_0, ftt0_1, ftt0_2, ftt0_3, ftt0_4, ftt0_5⟩ hp
    have ztt0_3 := len_rows ftt0_3
    simp only [zs] at ztt0_3
    rw [p_laws_markIntS_l0] at hp
    have hz3 : ((pn0 : Nat) : Int) = (s0.length : Int) := by omega
    by_cases hb4 : (decide (s2 < (s0.length : Int))) = true
    · rw [if_t hb4] at hp
      obtain ⟨v5, hv5, hp⟩ := bind_eq hp
      have gv5 := get_some hv5
      have hs6 : List.take s2.toNat (rows s0) ++ .i (.s (.int .i64 s1)) :: List.drop (s2.toNat + 1) (rows s0) = rows (s0.set s2.toNat s1) := by simpa [splice, zs, cellsV, I.cells, enc_int] using rows_set_off (y := s1) (ys := [.i (.s (.int .i64 s1))]) (k := 0) gv5.2.2 (Nat.le_of_ble_eq_true rfl) (by rfl)
      have hp := Option.some.inj hp
      subst hp
      simp (maxSteps := 2000000) (disch := first|omega|(simp only[ls];first|done|omega)) only [i_laws_markIntS, pf0, pg0, ftt0_0, ftt0_1, ftt0_2, ftt0_3, ftt0_4, ftt0_5, hz3, hb4, hv5, (gv5).1, (gv5).2.1, hs6, gm] <;> (repeat (first | omega | assumption | rfl | exact keep_refl | refine keep_app ?_ | (refine keep_set (by first | (left; simp; done) | (right; simp; omega)) ?_) | refine And.intro ?_ ?_))
    · replace hb4 := eq_false_of_ne_true hb4
      rw [if_f hb4] at hp
      have hp := Option.some.inj hp
      subst hp
      simp (maxSteps := 2000000) (disch := first|omega|(simp only[ls];first|done|omega)) only [i_laws_markIntS, pf0, pg0, ftt0_0, ftt0_1, ftt0_2, ftt0_3, ftt0_4, ftt0_5, hz3, hb4, gm] <;> (repeat (first | omega | assumption | rfl | exact keep_refl | refine keep_app ?_ | (refine keep_set (by first | (left; simp; done) | (right; simp; omega)) ?_) | refine And.intro ?_ ?_))
  · simp (maxSteps := 2000000) (disch := first|omega|(simp only[ls];first|done|omega)) only [i_laws_markIntS, pf0, pg0, gm] <;> (repeat (first | omega | assumption | rfl | exact keep_refl | refine keep_app ?_ | (refine keep_set (by first | (left; simp; done) | (right; simp; omega)) ?_) | refine And.intro ?_ ?_))
  · intro x tt1 hh1 hx
    rcases ee0 with ⟨o7, o8, o9⟩ | r
    · obtain ⟨rfl, ftt1_0, ftt1_1, ftt1_2, ftt1_3, ftt1_4, ftt1_5⟩ := hx
      have ztt1_3 := len_rows ftt1_3
      simp only [zs] at ztt1_3
      dsimp only at hp
      have hp := Option.some.inj hp
      subst hp
      simp (maxSteps := 2000000) (disch := first|omega|(simp only[ls];first|done|omega)) only [i_laws_markIntS, pf0, pg0, ftt1_0, ftt1_1, ftt1_2, ftt1_3, ftt1_4, ftt1_5, gm] <;> (repeat (first | omega | assumption | rfl | exact keep_refl | refine keep_app ?_ | (refine keep_set (by first | (left; simp; done) | (right; simp; omega)) ?_) | refine And.intro ?_ ?_))
    · obtain ⟨rfl, hx⟩ := hx
      dsimp only at hp
      cases hp
      simp only [seqK_ret, blockK_ret, retK_RK (K := i_laws_markIntS pb0 pn0 hh), hx, and_self, true_and]
theorem ko_laws_markIntS {P : Program} {env : Env}  : k_laws_markIntS (runIn P env (c_laws_markIntS)) := by
  intro x0 x1 b hp pb0 pn0 h a0 a1
  exact w_laws_markIntS x0 x1 hp pb0 pn0 h a0 a1

noncomputable def p_laws_heldIntS_l0 (x0 : List Int) : Int × Int → Option (Lp (Int × Int) Int)
  | (s0, s1) =>
    if (decide (s1 < (x0.length : Int))) = true then
      (get? x0 s1).bind fun v3 =>
      if (decide (v3 = s0)) = true then
        some (.go (w64 (s0 + 1), w64 (s1 + 1)))
      else
        some (.ret (-1))
    else
      some (.out (s0, s1))
noncomputable def p_laws_heldIntS (x0 : List Int) (x1 : Int) : Option Int :=
  (loopP (p_laws_heldIntS_l0 x0) (x1, 0)).bind fun ee0 => match ee0 with
  | .ret r => some r
  | .out (o5, o6) =>
    some o5
def c_laws_heldIntS : AFn := ⟨21, (.seq (.ops [(qS 4 (.mv (ic 0)))]) (.seq (.seq (.ops [(qS 5 (.mv (ic 0)))]) (.block 0 (.loop (.seq (.seq (.ops [(qS 6 (.mv (.tmp 5))), (qS 7 (.mv (.tmp 0))), (qS 8 (.len (.tmp 7))), (qS 9 (.pu (.n (.ar .lss)) [(.tmp 6), (.tmp 8)]))]) (.cond (.tmp 9) .skip (.exit 0))) (.seq (.block 1 (.seq (.seq (.ops [(qS 12 (.mv (.tmp 0))), (qS 13 (.mv (.tmp 5))), (qS 14 (.idxS 1 (.tmp 12) (.tmp 13))), (qS 15 (.load 1 false (.tmp 14))), (qS 16 (.mv (.tmp 1))), (qS 17 (.pu (.n (.ar .neq)) [(.tmp 15), (.tmp 16)]))]) (.cond (.tmp 17) (.seq (.ops [(qS 4 (.mv (ic (-1))))]) .ret) .skip)) (.ops [(qS 18 (.mv (.tmp 1))), (qS 19 (.pu (.n (.ar .add)) [(.tmp 18), (ic 1)])), (qS 1 (.mv (.tmp 19)))]))) (.ops [(qS 10 (.mv (.tmp 5))), (qS 11 (.pu (.n (.ar .add)) [(.tmp 10), (ic 1)])), (qS 5 (.mv (.tmp 11)))])))))) (.seq (.ops [(qS 20 (.mv (.tmp 1))), (qS 4 (.mv (.tmp 20)))]) .ret))), [(.tmp 4)]⟩
set_option maxHeartbeats 10000000 in
theorem d_laws_heldIntS {P : Program} {env : Env}  (x0 : List Int) (x1 : Int) {b : Int} (hp : p_laws_heldIntS x0 x1 = some b) : R P env (c_laws_heldIntS) ((encA (x0, x1)).map ofI) [] (Tells true b) := by
  refine R_of (by simp [c_laws_heldIntS, encA]) ?_
  unfold c_laws_heldIntS
  unfold p_laws_heldIntS at hp
  obtain ⟨ee0, hee0, hp⟩ := bind_eq hp
  simp (maxSteps := 2000000) (disch := first|omega|(simp only[ls];first|done|omega)) only [gm]
  refine W_loopP 0 (fun s t h => match s with | (s0, s1) => t 0 = .i (.sl 1 (x0.map enc)) ∧ t 1 = .i (.s (.int .i64 s0)) ∧ t 5 = .i (.s (.int .i64 s1))) (RK [.tmp 4] (Tells true)) ?_ hee0 ?_ ?_
  · rintro ⟨s0, s1⟩ ee tt0 hh0 ⟨ftt0_0, ftt0_1, ftt0_2⟩ hp
    rw [p_laws_heldIntS_l0] at hp
    by_cases hb2 : (decide (s1 < (x0.length : Int))) = true
    · rw [if_t hb2] at hp
      obtain ⟨v3, hv3, hp⟩ := bind_eq hp
      by_cases hb4 : (decide (v3 = s0)) = true
      · rw [if_t hb4] at hp
        have hp := Option.some.inj hp
        subst hp
        simp (maxSteps := 2000000) (disch := first|omega|(simp only[ls];first|done|omega)) only [ftt0_0, ftt0_1, ftt0_2, hb2, hv3, hb4, gm] <;> omega
      · replace hb4 := eq_false_of_ne_true hb4
        rw [if_f hb4] at hp
        have hp := Option.some.inj hp
        subst hp
        simp (maxSteps := 2000000) (disch := first|omega|(simp only[ls];first|done|omega)) only [ftt0_0, ftt0_1, ftt0_2, hb2, hv3, hb4, gm]
    · replace hb2 := eq_false_of_ne_true hb2
      rw [if_f hb2] at hp
      have hp := Option.some.inj hp
      subst hp
      simp (maxSteps := 2000000) (disch := first|omega|(simp only[ls];first|done|omega)) only [ftt0_0, ftt0_1, ftt0_2, hb2, gm] <;> omega
  · simp (maxSteps := 2000000) (disch := first|omega|(simp only[ls];first|done|omega)) only [gm] <;> omega
  · intro x tt1 hh1 hx
    rcases ee0 with ⟨o5, o6⟩ | r
    · obtain ⟨rfl, ftt1_0, ftt1_1, ftt1_2⟩ := hx
      dsimp only at hp
      have hp := Option.some.inj hp
      subst hp
      simp (maxSteps := 2000000) (disch := first|omega|(simp only[ls];first|done|omega)) only [ftt1_0, ftt1_1, ftt1_2, gm]
    · obtain ⟨rfl, hx⟩ := hx
      dsimp only at hp
      cases hp
      simp only [seqK_ret, blockK_ret, retK_RK (K := Tells true), hx, and_self, true_and]

noncomputable def p_laws_FnExactGetRuns (x0 : List U8) : Option Bool :=
  if (decide (1048576 < (x0.length : Int))) = true then
    some true
  else
    (p_laws_toByteS x0).bind fun v1 =>
    (p_spec_GetRuns v1).bind fun v2 =>
    (p_impl_GetRuns v1).bind fun v3 =>
    (p_laws_eqIntS v3.a v2.a).bind fun v4 =>
    if (v4) = true then
      if (decide (v3.b = v2.b)) = true then
        (p_laws_eqByteS v1 v1).bind fun v7 =>
        if (v7) = true then
          (p_laws_markByteS v1 1).bind fun v9 =>
          if (decide (v9.a < 0)) = true then
            some false
          else
            (p_laws_markIntS v3.a 1).bind fun v11 =>
            (p_laws_heldIntS v11.b 1).bind fun v12 =>
            if (decide (v12 < 0)) = true then
              some false
            else
              if (decide (v12 = v11.a)) = true then
                some true
              else
                some false
        else
          some false
      else
        some false
    else
      some false
def c_laws_FnExactGetRuns (f_laws_toByteS : Nat) (f_spec_GetRuns : Nat) (f_impl_GetRuns : Nat) (f_laws_eqIntS : Nat) (f_laws_eqByteS : Nat) (f_laws_markByteS : Nat) (f_laws_markIntS : Nat) (f_laws_heldIntS : Nat) : AFn := ⟨93, (.seq (.ops [(qS 2 (.mv (.const (.bool false))))]) (.seq (.seq (.ops [(qS 13 (.mv (.tmp 0))), (qS 14 (.len (.tmp 13))), (qS 15 (.pu (.n (.ar .gtr)) [(.tmp 14), (ic 1048576)]))]) (.cond (.tmp 15) (.seq (.ops [(qS 2 (.mv (.const (.bool true))))]) .ret) .skip)) (.seq (.ops [(qS 17 (.mv (.tmp 0))), (qS 18 (.call (2 * f_laws_toByteS) [(.tmp 17)])), (qS 19 (.call (2 * f_spec_GetRuns) [(.tmp 18)])), (qS 16 (.mv (.tmp 19))), (qS 20 (.extract 0 (.tmp 16))), (qS 21 (.extract 1 (.tmp 16))), (qS 3 (.mv (.tmp 20))), (qS 4 (.mv (.tmp 21)))]) (.seq (.ops [(qS 22 (.mv (.tmp 0))), (qS 23 (.call (2 * f_laws_toByteS + 1) [(.tmp 22)])), (qS 5 (.mv (.tmp 23)))]) (.seq (.ops [(qS 25 (.mv (.tmp 5))), (qS 26 (.call (2 * f_impl_GetRuns + 1) [(.tmp 25)])), (qS 24 (.mv (.tmp 26))), (qS 27 (.extract 0 (.tmp 24))), (qS 28 (.extract 1 (.tmp 24))), (qS 6 (.mv (.tmp 27))), (qS 7 (.mv (.tmp 28)))]) (.seq (.seq (.ops [(qS 29 (.mv (.tmp 6))), (qS 30 (.mv (.tmp 3))), (qS 31 (.call (2 * f_laws_eqIntS) [(.tmp 29), (.tmp 30)])), (qS 32 (.pu (.n (.un .not)) [(.tmp 31)])), (qS 33 (.mv (.tmp 32))), ⟨(.some 34), (.mv (.tmp 7)), (.some (33, false)), [], .none⟩, ⟨(.some 35), (.mv (.tmp 4)), (.some (33, false)), [], .none⟩, ⟨(.some 36), (.pu (.n (.ar .neq)) [(.tmp 34), (.tmp 35)]), (.some (33, false)), [], .none⟩, (qS 37 (.pick (.tmp 33) (.const (.bool true)) (.tmp 36)))]) (.cond (.tmp 37) (.seq (.ops [(qS 2 (.mv (.const (.bool false))))]) .ret) .skip)) (.seq (.seq (.ops [(qS 38 (.mv (.tmp 5))), (qS 39 (.mv (.tmp 0))), (qS 40 (.call (2 * f_laws_toByteS + 1) [(.tmp 39)])), (qS 41 (.call (2 * f_laws_eqByteS) [(.tmp 38), (.tmp 40)])), (qS 42 (.pu (.n (.un .not)) [(.tmp 41)]))]) (.cond (.tmp 42) (.seq (.ops [(qS 2 (.mv (.const (.bool false))))]) .ret) .skip)) (.seq (.ops [(qS 8 (.mv (ic 1)))]) (.seq (.ops [(qS 43 (.mv (.tmp 5))), (qS 44 (.mv (.tmp 8))), (qS 45 (.call (2 * f_laws_markByteS + 1) [(.tmp 43), (.tmp 44)])), (qS 8 (.mv (.tmp 45)))]) (.seq (.seq (.ops [(qS 46 (.mv (.tmp 8))), (qS 47 (.pu (.n (.ar .lss)) [(.tmp 46), (ic 0)])), (qS 48 (.mv (.tmp 47))), ⟨(.some 49), (.mv (.tmp 6)), (.some (48, false)), [], .none⟩, ⟨(.some 50), (.mv (.tmp 3)), (.some (48, false)), [], .none⟩, ⟨(.some 51), (.call (2 * f_laws_eqIntS) [(.tmp 49), (.tmp 50)]), (.some (48, false)), [], .none⟩, ⟨(.some 52), (.pu (.n (.un .not)) [(.tmp 51)]), (.some (48, false)), [], .none⟩, (qS 53 (.pick (.tmp 48) (.const (.bool true)) (.tmp 52))), (qS 54 (.mv (.tmp 53))), ⟨(.some 55), (.mv (.tmp 7)), (.some (54, false)), [], .none⟩, ⟨(.some 56), (.mv (.tmp 4)), (.some (54, false)), [], .none⟩, ⟨(.some 57), (.pu (.n (.ar .neq)) [(.tmp 55), (.tmp 56)]), (.some (54, false)), [], .none⟩, (qS 58 (.pick (.tmp 54) (.const (.bool true)) (.tmp 57)))]) (.cond (.tmp 58) (.seq (.ops [(qS 2 (.mv (.const (.bool false))))]) .ret) .skip)) (.seq (.ops [(qS 9 (.mv (ic 1)))]) (.seq (.ops [(qS 59 (.mv (.tmp 6))), (qS 60 (.mv (.tmp 9))), (qS 61 (.call (2 * f_laws_markIntS + 1) [(.tmp 59), (.tmp 60)])), (qS 9 (.mv (.tmp 61)))]) (.seq (.ops [(qS 10 (.mv (ic 1)))]) (.seq (.ops [(qS 62 (.mv (.tmp 6))), (qS 63 (.mv (.tmp 10))), (qS 64 (.call (2 * f_laws_heldIntS) [(.tmp 62), (.tmp 63)])), (qS 10 (.mv (.tmp 64)))]) (.seq (.seq (.ops [(qS 65 (.mv (.tmp 10))), (qS 66 (.pu (.n (.ar .lss)) [(.tmp 65), (ic 0)]))]) (.cond (.tmp 66) (.seq (.ops [(qS 2 (.mv (.const (.bool false))))]) .ret) .skip)) (.seq (.seq (.ops [(qS 67 (.mv (.tmp 10))), (qS 68 (.mv (.tmp 9))), (qS 69 (.pu (.n (.ar .neq)) [(.tmp 67), (.tmp 68)]))]) (.cond (.tmp 69) (.seq (.ops [(qS 2 (.mv (.const (.bool false))))]) .ret) .skip)) (.seq (.ops [(qS 71 (.mv (.tmp 0))), (qS 72 (.call (2 * f_laws_toByteS + 1) [(.tmp 71)])), (qS 73 (.call (2 * f_impl_GetRuns + 1) [(.tmp 72)])), (qS 70 (.mv (.tmp 73))), (qS 74 (.extract 0 (.tmp 70))), (qS 75 (.extract 1 (.tmp 70))), (qS 11 (.mv (.tmp 74))), (qS 12 (.mv (.tmp 75)))]) (.seq (.seq (.ops [(qS 76 (.mv (.tmp 11))), (qS 77 (.mv (.tmp 3))), (qS 78 (.call (2 * f_laws_eqIntS) [(.tmp 76), (.tmp 77)])), (qS 79 (.pu (.n (.un .not)) [(.tmp 78)])), (qS 80 (.mv (.tmp 79))), ⟨(.some 81), (.mv (.tmp 12)), (.some (80, false)), [], .none⟩, ⟨(.some 82), (.mv (.tmp 4)), (.some (80, false)), [], .none⟩, ⟨(.some 83), (.pu (.n (.ar .neq)) [(.tmp 81), (.tmp 82)]), (.some (80, false)), [], .none⟩, (qS 84 (.pick (.tmp 80) (.const (.bool true)) (.tmp 83)))]) (.cond (.tmp 84) (.seq (.ops [(qS 2 (.mv (.const (.bool false))))]) .ret) .skip)) (.seq (.ops [(qS 10 (.mv (ic 1)))]) (.seq (.ops [(qS 85 (.mv (.tmp 6))), (qS 86 (.mv (.tmp 10))), (qS 87 (.call (2 * f_laws_heldIntS) [(.tmp 85), (.tmp 86)])), (qS 10 (.mv (.tmp 87)))]) (.seq (.seq (.ops [(qS 88 (.mv (.tmp 10))), (qS 89 (.pu (.n (.ar .lss)) [(.tmp 88), (ic 0)]))]) (.cond (.tmp 89) (.seq (.ops [(qS 2 (.mv (.const (.bool false))))]) .ret) .skip)) (.seq (.seq (.ops [(qS 90 (.mv (.tmp 10))), (qS 91 (.mv (.tmp 9))), (qS 92 (.pu (.n (.ar .neq)) [(.tmp 90), (.tmp 91)]))]) (.cond (.tmp 92) (.seq (.ops [(qS 2 (.mv (.const (.bool false))))]) .ret) .skip)) (.seq (.ops [(qS 2 (.mv (.const (.bool true))))]) .ret))))))))))))))))))))))), [(.tmp 2)]⟩
set_option maxHeartbeats 10000000 in
theorem d_laws_FnExactGetRuns {P : Program} {env : Env} {f_laws_toByteS : Nat} {f_spec_GetRuns : Nat} {f_impl_GetRuns : Nat} {f_laws_eqIntS : Nat} {f_laws_eqByteS : Nat} {f_laws_markByteS : Nat} {f_laws_markIntS : Nat} {f_laws_heldIntS : Nat}  (ep_laws_toByteS : env (2 * f_laws_toByteS) = pureFn true (FA fun a : List U8 => p_laws_toByteS a)) (ep_spec_GetRuns : env (2 * f_spec_GetRuns) = pureFn true (FA fun a : List U8 => p_spec_GetRuns a)) (ep_laws_eqIntS : env (2 * f_laws_eqIntS) = pureFn true (FA fun a : List Int × List Int => p_laws_eqIntS a.1 a.2)) (ep_laws_eqByteS : env (2 * f_laws_eqByteS) = pureFn true (FA fun a : List U8 × List U8 => p_laws_eqByteS a.1 a.2)) (ep_laws_heldIntS : env (2 * f_laws_heldIntS) = pureFn true (FA fun a : List Int × Int => p_laws_heldIntS a.1 a.2)) (e_laws_toByteS : k_laws_toByteS (env (2 * f_laws_toByteS + 1))) (e_impl_GetRuns : k_impl_GetRuns (env (2 * f_impl_GetRuns + 1))) (e_laws_markByteS : k_laws_markByteS (env (2 * f_laws_markByteS + 1))) (e_laws_markIntS : k_laws_markIntS (env (2 * f_laws_markIntS + 1))) (x0 : List U8) (hp : p_laws_FnExactGetRuns x0 = some true) : R P env (c_laws_FnExactGetRuns f_laws_toByteS f_spec_GetRuns f_impl_GetRuns f_laws_eqIntS f_laws_eqByteS f_laws_markByteS f_laws_markIntS f_laws_heldIntS) ((encA (x0)).map ofI) [] (fun v _ => v = .i (iB true)) := by
  refine R_of (by simp [c_laws_FnExactGetRuns, encA]) ?_
  have E := And.intro ep_laws_toByteS (And.intro ep_spec_GetRuns (And.intro ep_laws_eqIntS (And.intro ep_laws_eqByteS ep_laws_heldIntS)))
  unfold c_laws_FnExactGetRuns
  unfold p_laws_FnExactGetRuns at hp
  by_cases hb0 : (decide (1048576 < (x0.length : Int))) = true
  · rw [if_t hb0] at hp
    cases hp
    simp (maxSteps := 2000000) (disch := first|omega|(simp only[ls];first|done|omega)) only [E, hb0, gm]
  · replace hb0 := eq_false_of_ne_true hb0
    rw [if_f hb0] at hp
    obtain ⟨v1, hv1, hp⟩ := bind_eq hp
    obtain ⟨v2, hv2, hp⟩ := bind_eq hp
    simp (maxSteps := 2000000) (disch := first|omega|(simp only[ls];first|done|omega)) only [E, hb0, hv1, hv2, gm]
    refine call_f (fun h => True) (fun h v h2 => oo_laws_toByteS v1 h v h2) ?_ ?_ ?_
    · simp (maxSteps := 2000000) (disch := first|omega|(simp only[ls];first|done|omega)) only [E, hb0, hv1, hv2, gm] <;> omega
    · rintro h _
      exact e_laws_toByteS _ _ hv1 h _ (by simp (maxSteps := 2000000) (disch := first|omega|(simp only[ls];first|done|omega)) only [E, hb0, hv1, hv2, gm])
    · rintro hc0 v hh0 _ hpost
      obtain ⟨kk0, nb0_0, rfl, lnb0_0, gnb0_0, wnb0_0⟩ := hpost
      have d0_0 := wnb0_0
      obtain ⟨v3, hv3, hp⟩ := bind_eq hp
      simp (maxSteps := 2000000) (disch := first|omega|(simp only[ls];first|done|omega)) only [E, hb0, hv1, hv2, d0_0, gm]
      refine call_f (fun h => getCells h nb0_0 v1.length = some (rows (v1 : List U8)) ∧ nb0_0 < h.length) (fun h v h2 => oo_impl_GetRuns v3 h v h2) ?_ ?_ ?_
      · simp (maxSteps := 2000000) (disch := first|omega|(simp only[ls];first|done|omega)) only [E, hb0, hv1, hv2, d0_0, hv3, gm] <;> omega
      · rintro h ⟨c1_0, c1_1⟩
        exact e_impl_GetRuns _ _ hv3 h _ (by simp (maxSteps := 2000000) (disch := first|omega|(simp only[ls];first|done|omega)) only [E, hb0, hv1, hv2, d0_0, hv3, c1_0, c1_1, gm])
      · rintro hc1 v hh1 ⟨c1_0, c1_1⟩ hpost
        obtain ⟨kk1, nb1_0, rfl, lnb1_0, gnb1_0, wnb1_0⟩ := hpost
        have d1_0 : getCells hh1 nb0_0 v1.length = some (rows (v1 : List U8)) := (keep_get kk1 c1_1 (by first | (simp; done) | (simp; omega))).trans c1_0
        have d1_0l := keep_lt kk1 c1_1
        have d1_1 := wnb1_0
        obtain ⟨v4, hv4, hp⟩ := bind_eq hp
        by_cases hb5 : (v4) = true
        · rw [if_t hb5] at hp
          by_cases hb6 : (decide (v3.b = v2.b)) = true
          · rw [if_t hb6] at hp
            simp (maxSteps := 2000000) (disch := first|omega|(simp only[ls];first|done|omega)) only [E, hb0, hv1, hv2, d0_0, hv3, d1_0, d1_1, hv4, hb5, hb6, gm]
            refine call_f (fun h => getCells h nb0_0 v1.length = some (rows (v1 : List U8)) ∧ nb0_0 < h.length ∧ getCells h nb1_0 v3.a.length = some (rows (v3.a : List Int)) ∧ nb1_0 < h.length) (fun h v h2 => oo_laws_toByteS v1 h v h2) ?_ ?_ ?_
            · simp (maxSteps := 2000000) (disch := first|omega|(simp only[ls];first|done|omega)) only [E, hb0, hv1, hv2, d0_0, hv3, d1_0, d1_1, hv4, hb5, hb6, gm] <;> omega
            · rintro h ⟨c2_0, c2_1, c2_2, c2_3⟩
              exact e_laws_toByteS _ _ hv1 h _ (by simp (maxSteps := 2000000) (disch := first|omega|(simp only[ls];first|done|omega)) only [E, hb0, hv1, hv2, d0_0, hv3, d1_0, d1_1, hv4, hb5, hb6, c2_0, c2_1, c2_2, c2_3, gm])
            · rintro hc2 v hh2 ⟨c2_0, c2_1, c2_2, c2_3⟩ hpost
              obtain ⟨kk2, nb2_0, rfl, lnb2_0, gnb2_0, wnb2_0⟩ := hpost
              have d2_0 : getCells hh2 nb0_0 v1.length = some (rows (v1 : List U8)) := (keep_get kk2 c2_1 (by first | (simp; done) | (simp; omega))).trans c2_0
              have d2_0l := keep_lt kk2 c2_1
              have d2_1 : getCells hh2 nb1_0 v3.a.length = some (rows (v3.a : List Int)) := (keep_get kk2 c2_3 (by first | (simp; done) | (simp; omega))).trans c2_2
              have d2_1l := keep_lt kk2 c2_3
              have d2_2 := wnb2_0
              obtain ⟨v7, hv7, hp⟩ := bind_eq hp
              by_cases hb8 : (v7) = true
              · rw [if_t hb8] at hp
                obtain ⟨v9, hv9, hp⟩ := bind_eq hp
                simp (maxSteps := 2000000) (disch := first|omega|(simp only[ls];first|done|omega)) only [E, hb0, hv1, hv2, d0_0, hv3, d1_0, d1_1, hv4, hb5, hb6, d2_0, d2_1, d2_2, hv7, hb8, gm]
                refine call_f (fun h => getCells h nb0_0 v1.length = some (rows (v1 : List U8)) ∧ nb0_0 < h.length ∧ getCells h nb1_0 v3.a.length = some (rows (v3.a : List Int)) ∧ nb1_0 < h.length ∧ getCells h nb2_0 v1.length = some (rows (v1 : List U8)) ∧ nb2_0 < h.length) (fun h v h2 => i_laws_markByteS nb0_0 v1.length h v9 v h2) ?_ ?_ ?_
                · simp (maxSteps := 2000000) (disch := first|omega|(simp only[ls];first|done|omega)) only [E, hb0, hv1, hv2, d0_0, hv3, d1_0, d1_1, hv4, hb5, hb6, d2_0, d2_1, d2_2, hv7, hb8, hv9, gm] <;> omega
                · rintro h ⟨c3_0, c3_1, c3_2, c3_3, c3_4, c3_5⟩
                  exact e_laws_markByteS _ _ _ hv9 nb0_0 v1.length h (by first | omega | rfl) c3_0
                · rintro hc3 v hh3 ⟨c3_0, c3_1, c3_2, c3_3, c3_4, c3_5⟩ hpost
                  obtain ⟨kk3, rfl, w3_0⟩ := hpost
                  have d3_0 : getCells hh3 nb0_0 v1.length = some (rows (v9.b : List U8)) := w3_0
                  have mm3_0 := len_rows w3_0
                  simp only [zs] at mm3_0
                  have d3_0l := keep_lt kk3 c3_1
                  have d3_1 : getCells hh3 nb1_0 v3.a.length = some (rows (v3.a : List Int)) := (keep_get kk3 c3_3 (by first | (simp; done) | (simp; omega))).trans c3_2
                  have d3_1l := keep_lt kk3 c3_3
                  have d3_2 : getCells hh3 nb2_0 v1.length = some (rows (v1 : List U8)) := (keep_get kk3 c3_5 (by first | (simp; done) | (simp; omega))).trans c3_4
                  have d3_2l := keep_lt kk3 c3_5
                  by_cases hb10 : (decide (v9.a < 0)) = true
                  · rw [if_t hb10] at hp
                    cases hp
                  · replace hb10 := eq_false_of_ne_true hb10
                    rw [if_f hb10] at hp
                    obtain ⟨v11, hv11, hp⟩ := bind_eq hp
                    simp (maxSteps := 2000000) (disch := first|omega|(simp only[ls];first|done|omega)) only [E, hb0, hv1, hv2, d0_0, hv3, d1_0, d1_1, hv4, hb5, hb6, d2_0, d2_1, d2_2, hv7, hb8, hv9, d3_0, d3_1, d3_2, hb10, gm]
                    refine call_f (fun h => getCells h nb0_0 v1.length = some (rows (v9.b : List U8)) ∧ nb0_0 < h.length ∧ getCells h nb1_0 v3.a.length = some (rows (v3.a : List Int)) ∧ nb1_0 < h.length ∧ getCells h nb2_0 v1.length = some (rows (v1 : List U8)) ∧ nb2_0 < h.length) (fun h v h2 => i_laws_markIntS nb1_0 v3.a.length h v11 v h2) ?_ ?_ ?_
                    · simp (maxSteps := 2000000) (disch := first|omega|(simp only[ls];first|done|omega)) only [E, hb0, hv1, hv2, d0_0, hv3, d1_0, d1_1, hv4, hb5, hb6, d2_0, d2_1, d2_2, hv7, hb8, hv9, d3_0, d3_1, d3_2, hb10, hv11, gm] <;> omega
                    · rintro h ⟨c4_0, c4_1, c4_2, c4_3, c4_4, c4_5⟩
                      exact e_laws_markIntS _ _ _ hv11 nb1_0 v3.a.length h (by first | omega | rfl) c4_2
                    · rintro hc4 v hh4 ⟨c4_0, c4_1, c4_2, c4_3, c4_4, c4_5⟩ hpost
                      obtain ⟨kk4, rfl, w4_0⟩ := hpost
                      have d4_0 : getCells hh4 nb0_0 v1.length = some (rows (v9.b : List U8)) := (keep_get kk4 c4_1 (by first | (simp; done) | (simp; omega))).trans c4_0
                      have d4_0l := keep_lt kk4 c4_1
                      have d4_1 : getCells hh4 nb1_0 v3.a.length = some (rows (v11.b : List Int)) := w4_0
                      have mm4_0 := len_rows w4_0
                      simp only [zs] at mm4_0
                      have d4_1l := keep_lt kk4 c4_3
                      have d4_2 : getCells hh4 nb2_0 v1.length = some (rows (v1 : List U8)) := (keep_get kk4 c4_5 (by first | (simp; done) | (simp; omega))).trans c4_4
                      have d4_2l := keep_lt kk4 c4_5
                      obtain ⟨v12, hv12, hp⟩ := bind_eq hp
                      by_cases hb13 : (decide (v12 < 0)) = true
                      · rw [if_t hb13] at hp
                        cases hp
                      · replace hb13 := eq_false_of_ne_true hb13
                        rw [if_f hb13] at hp
                        by_cases hb14 : (decide (v12 = v11.a)) = true
                        · rw [if_t hb14] at hp
                          simp (maxSteps := 2000000) (disch := first|omega|(simp only[ls];first|done|omega)) only [E, hb0, hv1, hv2, d0_0, hv3, d1_0, d1_1, hv4, hb5, hb6, d2_0, d2_1, d2_2, hv7, hb8, hv9, d3_0, d3_1, d3_2, hb10, hv11, d4_0, d4_1, d4_2, hv12, hb13, hb14, gm]
                          refine call_f (fun h => getCells h nb0_0 v1.length = some (rows (v9.b : List U8)) ∧ nb0_0 < h.length ∧ getCells h nb1_0 v3.a.length = some (rows (v11.b : List Int)) ∧ nb1_0 < h.length ∧ getCells h nb2_0 v1.length = some (rows (v1 : List U8)) ∧ nb2_0 < h.length) (fun h v h2 => oo_laws_toByteS v1 h v h2) ?_ ?_ ?_
                          · simp (maxSteps := 2000000) (disch := first|omega|(simp only[ls];first|done|omega)) only [E, hb0, hv1, hv2, d0_0, hv3, d1_0, d1_1, hv4, hb5, hb6, d2_0, d2_1, d2_2, hv7, hb8, hv9, d3_0, d3_1, d3_2, hb10, hv11, d4_0, d4_1, d4_2, hv12, hb13, hb14, gm] <;> omega
                          · rintro h ⟨c5_0, c5_1, c5_2, c5_3, c5_4, c5_5⟩
                            exact e_laws_toByteS _ _ hv1 h _ (by simp (maxSteps := 2000000) (disch := first|omega|(simp only[ls];first|done|omega)) only [E, hb0, hv1, hv2, d0_0, hv3, d1_0, d1_1, hv4, hb5, hb6, d2_0, d2_1, d2_2, hv7, hb8, hv9, d3_0, d3_1, d3_2, hb10, hv11, d4_0, d4_1, d4_2, hv12, hb13, hb14, c5_0, c5_1, c5_2, c5_3, c5_4, c5_5, gm])
                          · rintro hc5 v hh5 ⟨c5_0, c5_1, c5_2, c5_3, c5_4, c5_5⟩ hpost
                            obtain ⟨kk5, nb5_0, rfl, lnb5_0, gnb5_0, wnb5_0⟩ := hpost
                            have d5_0 : getCells hh5 nb0_0 v1.length = some (rows (v9.b : List U8)) := (keep_get kk5 c5_1 (by first | (simp; done) | (simp; omega))).trans c5_0
                            have d5_0l := keep_lt kk5 c5_1
                            have d5_1 : getCells hh5 nb1_0 v3.a.length = some (rows (v11.b : List Int)) := (keep_get kk5 c5_3 (by first | (simp; done) | (simp; omega))).trans c5_2
                            have d5_1l := keep_lt kk5 c5_3
                            have d5_2 : getCells hh5 nb2_0 v1.length = some (rows (v1 : List U8)) := (keep_get kk5 c5_5 (by first | (simp; done) | (simp; omega))).trans c5_4
                            have d5_2l := keep_lt kk5 c5_5
                            have d5_3 := wnb5_0
                            simp (maxSteps := 2000000) (disch := first|omega|(simp only[ls];first|done|omega)) only [E, hb0, hv1, hv2, d0_0, hv3, d1_0, d1_1, hv4, hb5, hb6, d2_0, d2_1, d2_2, hv7, hb8, hv9, d3_0, d3_1, d3_2, hb10, hv11, d4_0, d4_1, d4_2, hv12, hb13, hb14, d5_0, d5_1, d5_2, d5_3, gm]
                            refine call_f (fun h => getCells h nb0_0 v1.length = some (rows (v9.b : List U8)) ∧ nb0_0 < h.length ∧ getCells h nb1_0 v3.a.length = some (rows (v11.b : List Int)) ∧ nb1_0 < h.length ∧ getCells h nb2_0 v1.length = some (rows (v1 : List U8)) ∧ nb2_0 < h.length ∧ getCells h nb5_0 v1.length = some (rows (v1 : List U8)) ∧ nb5_0 < h.length) (fun h v h2 => oo_impl_GetRuns v3 h v h2) ?_ ?_ ?_
                            · simp (maxSteps := 2000000) (disch := first|omega|(simp only[ls];first|done|omega)) only [E, hb0, hv1, hv2, d0_0, hv3, d1_0, d1_1, hv4, hb5, hb6, d2_0, d2_1, d2_2, hv7, hb8, hv9, d3_0, d3_1, d3_2, hb10, hv11, d4_0, d4_1, d4_2, hv12, hb13, hb14, d5_0, d5_1, d5_2, d5_3, gm] <;> omega
                            · rintro h ⟨c6_0, c6_1, c6_2, c6_3, c6_4, c6_5, c6_6, c6_7⟩
                              exact e_impl_GetRuns _ _ hv3 h _ (by simp (maxSteps := 2000000) (disch := first|omega|(simp only[ls];first|done|omega)) only [E, hb0, hv1, hv2, d0_0, hv3, d1_0, d1_1, hv4, hb5, hb6, d2_0, d2_1, d2_2, hv7, hb8, hv9, d3_0, d3_1, d3_2, hb10, hv11, d4_0, d4_1, d4_2, hv12, hb13, hb14, d5_0, d5_1, d5_2, d5_3, c6_0, c6_1, c6_2, c6_3, c6_4, c6_5, c6_6, c6_7, gm])
                            · rintro hc6 v hh6 ⟨c6_0, c6_1, c6_2, c6_3, c6_4, c6_5, c6_6, c6_7⟩ hpost
                              obtain ⟨kk6, nb6_0, rfl, lnb6_0, gnb6_0, wnb6_0⟩ := hpost
                              have d6_0 : getCells hh6 nb0_0 v1.length = some (rows (v9.b : List U8)) := (keep_get kk6 c6_1 (by first | (simp; done) | (simp; omega))).trans c6_0
                              have d6_0l := keep_lt kk6 c6_1
                              have d6_1 : getCells hh6 nb1_0 v3.a.length = some (rows (v11.b : List Int)) := (keep_get kk6 c6_3 (by first | (simp; done) | (simp; omega))).trans c6_2
                              have d6_1l := keep_lt kk6 c6_3
                              have d6_2 : getCells hh6 nb2_0 v1.length = some (rows (v1 : List U8)) := (keep_get kk6 c6_5 (by first | (simp; done) | (simp; omega))).trans c6_4
                              have d6_2l := keep_lt kk6 c6_5
                              have d6_3 : getCells hh6 nb5_0 v1.length = some (rows (v1 : List U8)) := (keep_get kk6 c6_7 (by first | (simp; done) | (simp; omega))).trans c6_6
                              have d6_3l := keep_lt kk6 c6_7
                              have d6_4 := wnb6_0
                              cases hp
                              simp (maxSteps := 2000000) (disch := first|omega|(simp only[ls];first|done|omega)) only [E, hb0, hv1, hv2, d0_0, hv3, d1_0, d1_1, hv4, hb5, hb6, d2_0, d2_1, d2_2, hv7, hb8, hv9, d3_0, d3_1, d3_2, hb10, hv11, d4_0, d4_1, d4_2, hv12, hb13, hb14, d5_0, d5_1, d5_2, d5_3, d6_0, d6_1, d6_2, d6_3, d6_4, gm]
                        · replace hb14 := eq_false_of_ne_true hb14
                          rw [if_f hb14] at hp
                          cases hp
              · replace hb8 := eq_false_of_ne_true hb8
                rw [if_f hb8] at hp
                cases hp
          · replace hb6 := eq_false_of_ne_true hb6
            rw [if_f hb6] at hp
            cases hp
        · replace hb5 := eq_false_of_ne_true hb5
          rw [if_f hb5] at hp
          cases hp

end Go.AM
