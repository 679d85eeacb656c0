/- Plain functions of LogOK and their walks. No condition. -/
import Derived.Test.YtiabacjkejkbgaaLabB37
set_option linter.unusedVariables false
set_option linter.unusedSimpArgs false
set_option maxRecDepth 20000
namespace Go.AM
open Pic (enc dec dec_enc dec_sub)
open PicA (encA decA decA_encA decA_sub)
noncomputable def p_laws_szIntS (x0 : List Int) (x1 : Int) : Option Int :=
  if (decide (w64 (x1 - (x0.length : Int)) < 0)) = true then
    some (-1)
  else
    some (w64 (x1 - (x0.length : Int)))
def c_laws_szIntS : AFn := ⟨12, (.seq (.ops [(qS 4 (.mv (ic 0)))]) (.seq (.ops [(qS 5 (.mv (.tmp 1))), (qS 6 (.mv (.tmp 0))), (qS 7 (.len (.tmp 6))), (qS 8 (.pu (.n (.ar .sub)) [(.tmp 5), (.tmp 7)])), (qS 1 (.mv (.tmp 8)))]) (.seq (.seq (.ops [(qS 9 (.mv (.tmp 1))), (qS 10 (.pu (.n (.ar .lss)) [(.tmp 9), (ic 0)]))]) (.cond (.tmp 10) (.seq (.ops [(qS 4 (.mv (ic (-1))))]) .ret) .skip)) (.seq (.ops [(qS 11 (.mv (.tmp 1))), (qS 4 (.mv (.tmp 11)))]) .ret)))), [(.tmp 4)]⟩
set_option maxHeartbeats 10000000 in
theorem d_laws_szIntS {P : Program} {env : Env}  (x0 : List Int) (x1 : Int) {b : Int} (hp : p_laws_szIntS x0 x1 = some b) : R P env (c_laws_szIntS) ((encA (x0, x1)).map ofI) [] (Tells true b) := by
  refine R_of (by simp [c_laws_szIntS, encA]) ?_
  unfold c_laws_szIntS
  unfold p_laws_szIntS at hp
  by_cases hb0 : (decide (w64 (x1 - (x0.length : Int)) < 0)) = true
  · rw [if_t hb0] at hp
    have hp := Option.some.inj hp
    subst hp
    simp (maxSteps := 2000000) (disch := first|omega|(simp only[ls];first|done|omega)) only [hb0, gx]
  · replace hb0 := eq_false_of_ne_true hb0
    rw [if_f hb0] at hp
    have hp := Option.some.inj hp
    subst hp
    simp (maxSteps := 2000000) (disch := first|omega|(simp only[ls];first|done|omega)) only [hb0, gx]

noncomputable def p_laws_szVector (x0 : TVec) (x1 : Int) : Option Int :=
  (p_laws_szIntS x0.counts x1).bind fun v0 =>
  if (decide (v0 < 0)) = true then
    some (-1)
  else
    some v0
def c_laws_szVector (f_laws_szIntS : Nat) : AFn := ⟨12, (.seq (.ops [(qS 2 (.box (.tmp 0))), (qS 4 (.mv (ic 0)))]) (.seq (.ops [(qS 5 (.fieldA 0 (.tmp 2))), (qS 6 (.load 1 false (.tmp 5))), (qS 7 (.mv (.tmp 1))), (qS 8 (.call (2 * f_laws_szIntS) [(.tmp 6), (.tmp 7)])), (qS 1 (.mv (.tmp 8)))]) (.seq (.seq (.ops [(qS 9 (.mv (.tmp 1))), (qS 10 (.pu (.n (.ar .lss)) [(.tmp 9), (ic 0)]))]) (.cond (.tmp 10) (.seq (.ops [(qS 4 (.mv (ic (-1))))]) .ret) .skip)) (.seq (.ops [(qS 11 (.mv (.tmp 1))), (qS 4 (.mv (.tmp 11)))]) .ret)))), [(.tmp 4)]⟩
set_option maxHeartbeats 10000000 in
theorem d_laws_szVector {P : Program} {env : Env} {f_laws_szIntS : Nat}  (ep_laws_szIntS : env (2 * f_laws_szIntS) = pureFn true (FA fun a : List Int × Int => p_laws_szIntS a.1 a.2)) (x0 : TVec) (x1 : Int) {b : Int} (hp : p_laws_szVector x0 x1 = some b) : R P env (c_laws_szVector f_laws_szIntS) ((encA (x0, x1)).map ofI) [] (Tells true b) := by
  refine R_of (by simp [c_laws_szVector, encA]) ?_
  have E := ep_laws_szIntS
  unfold c_laws_szVector
  unfold p_laws_szVector at hp
  obtain ⟨v0, hv0, hp⟩ := bind_eq hp
  by_cases hb1 : (decide (v0 < 0)) = true
  · rw [if_t hb1] at hp
    have hp := Option.some.inj hp
    subst hp
    simp (maxSteps := 2000000) (disch := first|omega|(simp only[ls];first|done|omega)) only [E, hv0, hb1, gx]
  · replace hb1 := eq_false_of_ne_true hb1
    rw [if_f hb1] at hp
    have hp := Option.some.inj hp
    subst hp
    simp (maxSteps := 2000000) (disch := first|omega|(simp only[ls];first|done|omega)) only [E, hv0, hb1, gx]

noncomputable def p_laws_szOp (x0 : TOp) (x1 : Int) : Option Int :=
  (p_laws_szVector x0.deps x1).bind fun v0 =>
  if (decide (v0 < 0)) = true then
    some (-1)
  else
    if (decide (w64 (v0 - (x0.key.size : Int)) < 0)) = true then
      some (-1)
    else
      if (decide (w64 ((w64 (v0 - (x0.key.size : Int))) - (x0.text.size : Int)) < 0)) = true then
        some (-1)
      else
        some (w64 ((w64 (v0 - (x0.key.size : Int))) - (x0.text.size : Int)))
def c_laws_szOp (f_laws_szVector : Nat) : AFn := ⟨26, (.seq (.ops [(qS 2 (.box (.tmp 0))), (qS 4 (.mv (ic 0)))]) (.seq (.ops [(qS 5 (.fieldA 3 (.tmp 2))), (qS 6 (.load 1 true (.tmp 5))), (qS 7 (.mv (.tmp 1))), (qS 8 (.call (2 * f_laws_szVector) [(.tmp 6), (.tmp 7)])), (qS 1 (.mv (.tmp 8)))]) (.seq (.seq (.ops [(qS 9 (.mv (.tmp 1))), (qS 10 (.pu (.n (.ar .lss)) [(.tmp 9), (ic 0)]))]) (.cond (.tmp 10) (.seq (.ops [(qS 4 (.mv (ic (-1))))]) .ret) .skip)) (.seq (.ops [(qS 11 (.mv (.tmp 1))), (qS 12 (.fieldA 10 (.tmp 2))), (qS 13 (.load 1 false (.tmp 12))), (qS 14 (.pu (.n .len) [(.tmp 13)])), (qS 15 (.pu (.n (.ar .sub)) [(.tmp 11), (.tmp 14)])), (qS 1 (.mv (.tmp 15)))]) (.seq (.seq (.ops [(qS 16 (.mv (.tmp 1))), (qS 17 (.pu (.n (.ar .lss)) [(.tmp 16), (ic 0)]))]) (.cond (.tmp 17) (.seq (.ops [(qS 4 (.mv (ic (-1))))]) .ret) .skip)) (.seq (.ops [(qS 18 (.mv (.tmp 1))), (qS 19 (.fieldA 11 (.tmp 2))), (qS 20 (.load 1 false (.tmp 19))), (qS 21 (.pu (.n .len) [(.tmp 20)])), (qS 22 (.pu (.n (.ar .sub)) [(.tmp 18), (.tmp 21)])), (qS 1 (.mv (.tmp 22)))]) (.seq (.seq (.ops [(qS 23 (.mv (.tmp 1))), (qS 24 (.pu (.n (.ar .lss)) [(.tmp 23), (ic 0)]))]) (.cond (.tmp 24) (.seq (.ops [(qS 4 (.mv (ic (-1))))]) .ret) .skip)) (.seq (.ops [(qS 25 (.mv (.tmp 1))), (qS 4 (.mv (.tmp 25)))]) .ret)))))))), [(.tmp 4)]⟩
set_option maxHeartbeats 10000000 in
theorem d_laws_szOp {P : Program} {env : Env} {f_laws_szVector : Nat}  (ep_laws_szVector : env (2 * f_laws_szVector) = pureFn true (FA fun a : TVec × Int => p_laws_szVector a.1 a.2)) (x0 : TOp) (x1 : Int) {b : Int} (hp : p_laws_szOp x0 x1 = some b) : R P env (c_laws_szOp f_laws_szVector) ((encA (x0, x1)).map ofI) [] (Tells true b) := by
  refine R_of (by simp [c_laws_szOp, encA]) ?_
  have E := ep_laws_szVector
  unfold c_laws_szOp
  unfold p_laws_szOp at hp
  obtain ⟨v0, hv0, hp⟩ := bind_eq hp
  by_cases hb1 : (decide (v0 < 0)) = true
  · rw [if_t hb1] at hp
    have hp := Option.some.inj hp
    subst hp
    simp (maxSteps := 2000000) (disch := first|omega|(simp only[ls];first|done|omega)) only [E, hv0, hb1, gx]
  · replace hb1 := eq_false_of_ne_true hb1
    rw [if_f hb1] at hp
    by_cases hb2 : (decide (w64 (v0 - (x0.key.size : Int)) < 0)) = true
    · rw [if_t hb2] at hp
      have hp := Option.some.inj hp
      subst hp
      simp (maxSteps := 2000000) (disch := first|omega|(simp only[ls];first|done|omega)) only [E, hv0, hb1, hb2, gx]
    · replace hb2 := eq_false_of_ne_true hb2
      rw [if_f hb2] at hp
      by_cases hb3 : (decide (w64 ((w64 (v0 - (x0.key.size : Int))) - (x0.text.size : Int)) < 0)) = true
      · rw [if_t hb3] at hp
        have hp := Option.some.inj hp
        subst hp
        simp (maxSteps := 2000000) (disch := first|omega|(simp only[ls];first|done|omega)) only [E, hv0, hb1, hb2, hb3, gx]
      · replace hb3 := eq_false_of_ne_true hb3
        rw [if_f hb3] at hp
        have hp := Option.some.inj hp
        subst hp
        simp (maxSteps := 2000000) (disch := first|omega|(simp only[ls];first|done|omega)) only [E, hv0, hb1, hb2, hb3, gx]

noncomputable def p_laws_szOpS_l0 (x0 : List TOp) : Int × Int → Option (Lp (Int × Int) Int)
  | (s1, s2) =>
    if (decide (s2 < (x0.length : Int))) = true then
      (get? x0 s2).bind fun v4 =>
      (p_laws_szOp v4 s1).bind fun v5 =>
      if (decide (v5 < 0)) = true then
        some (.ret (-1))
      else
        some (.go (v5, w64 (s2 + 1)))
    else
      some (.out (s1, s2))
noncomputable def p_laws_szOpS (x0 : List TOp) (x1 : Int) : Option Int :=
  if (decide (w64 (x1 - (x0.length : Int)) < 0)) = true then
    some (-1)
  else
    (loopP (p_laws_szOpS_l0 x0) (w64 (x1 - (x0.length : Int)), 0)).bind fun ee0 => match ee0 with
    | .ret r => some r
    | .out (o7, o8) =>
      some o7
def c_laws_szOpS (f_laws_szOp : Nat) : AFn := ⟨27, (.seq (.ops [(qS 4 (.mv (ic 0)))]) (.seq (.ops [(qS 6 (.mv (.tmp 1))), (qS 7 (.mv (.tmp 0))), (qS 8 (.len (.tmp 7))), (qS 9 (.pu (.n (.ar .sub)) [(.tmp 6), (.tmp 8)])), (qS 1 (.mv (.tmp 9)))]) (.seq (.seq (.ops [(qS 10 (.mv (.tmp 1))), (qS 11 (.pu (.n (.ar .lss)) [(.tmp 10), (ic 0)]))]) (.cond (.tmp 11) (.seq (.ops [(qS 4 (.mv (ic (-1))))]) .ret) .skip)) (.seq (.seq (.ops [(qS 5 (.mv (ic 0)))]) (.block 0 (.loop (.seq (.seq (.ops [(qS 12 (.mv (.tmp 5))), (qS 13 (.mv (.tmp 0))), (qS 14 (.len (.tmp 13))), (qS 15 (.pu (.n (.ar .lss)) [(.tmp 12), (.tmp 14)]))]) (.cond (.tmp 15) .skip (.exit 0))) (.seq (.block 1 (.seq (.ops [(qS 18 (.mv (.tmp 0))), (qS 19 (.mv (.tmp 5))), (qS 20 (.idxS 12 (.tmp 18) (.tmp 19))), (qS 21 (.load 12 true (.tmp 20))), (qS 22 (.mv (.tmp 1))), (qS 23 (.call (2 * f_laws_szOp) [(.tmp 21), (.tmp 22)])), (qS 1 (.mv (.tmp 23)))]) (.seq (.ops [(qS 24 (.mv (.tmp 1))), (qS 25 (.pu (.n (.ar .lss)) [(.tmp 24), (ic 0)]))]) (.cond (.tmp 25) (.seq (.ops [(qS 4 (.mv (ic (-1))))]) .ret) .skip)))) (.ops [(qS 16 (.mv (.tmp 5))), (qS 17 (.pu (.n (.ar .add)) [(.tmp 16), (ic 1)])), (qS 5 (.mv (.tmp 17)))])))))) (.seq (.ops [(qS 26 (.mv (.tmp 1))), (qS 4 (.mv (.tmp 26)))]) .ret))))), [(.tmp 4)]⟩
set_option maxHeartbeats 10000000 in
theorem d_laws_szOpS {P : Program} {env : Env} {f_laws_szOp : Nat}  (ep_laws_szOp : env (2 * f_laws_szOp) = pureFn true (FA fun a : TOp × Int => p_laws_szOp a.1 a.2)) (x0 : List TOp) (x1 : Int) {b : Int} (hp : p_laws_szOpS x0 x1 = some b) : R P env (c_laws_szOpS f_laws_szOp) ((encA (x0, x1)).map ofI) [] (Tells true b) := by
  refine R_of (by simp [c_laws_szOpS, encA]) ?_
  have E := And.intro opc ep_laws_szOp
  unfold c_laws_szOpS
  unfold p_laws_szOpS at hp
  by_cases hb0 : (decide (w64 (x1 - (x0.length : Int)) < 0)) = true
  · rw [if_t hb0] at hp
    have hp := Option.some.inj hp
    subst hp
    simp (maxSteps := 2000000) (disch := first|omega|(simp only[ls];first|done|omega)) only [E, hb0, gx]
  · replace hb0 := eq_false_of_ne_true hb0
    rw [if_f hb0] at hp
    obtain ⟨ee0, hee0, hp⟩ := bind_eq hp
    simp (maxSteps := 2000000) (disch := first|omega|(simp only[ls];first|done|omega)) only [E, hb0, gx]
    refine W_loopP 0 (fun s t h => match s with | (s1, s2) => t 0 = .i (.sl 12 (x0.map enc)) ∧ t 1 = .i (.s (.int .i64 s1)) ∧ t 5 = .i (.s (.int .i64 s2))) (RK [.tmp 4] (Tells true)) ?_ hee0 ?_ ?_
    · rintro ⟨s1, s2⟩ ee tt0 hh0 ⟨ftt0_0, ftt0_1, ftt0_2⟩ hp
      rw [p_laws_szOpS_l0] at hp
      by_cases hb3 : (decide (s2 < (x0.length : Int))) = true
      · rw [if_t hb3] at hp
        obtain ⟨v4, hv4, hp⟩ := bind_eq hp
        obtain ⟨v5, hv5, hp⟩ := bind_eq hp
        by_cases hb6 : (decide (v5 < 0)) = true
        · rw [if_t hb6] at hp
          have hp := Option.some.inj hp
          subst hp
          simp (maxSteps := 2000000) (disch := first|omega|(simp only[ls];first|done|omega)) only [E, hb0, ftt0_0, ftt0_1, ftt0_2, hb3, hv4, hv5, hb6, gx]
        · replace hb6 := eq_false_of_ne_true hb6
          rw [if_f hb6] at hp
          have hp := Option.some.inj hp
          subst hp
          simp (maxSteps := 2000000) (disch := first|omega|(simp only[ls];first|done|omega)) only [E, hb0, ftt0_0, ftt0_1, ftt0_2, hb3, hv4, hv5, hb6, gx] <;> omega
      · replace hb3 := eq_false_of_ne_true hb3
        rw [if_f hb3] at hp
        have hp := Option.some.inj hp
        subst hp
        simp (maxSteps := 2000000) (disch := first|omega|(simp only[ls];first|done|omega)) only [E, hb0, ftt0_0, ftt0_1, ftt0_2, hb3, gx] <;> omega
    · simp (maxSteps := 2000000) (disch := first|omega|(simp only[ls];first|done|omega)) only [E, hb0, gx] <;> omega
    · intro x tt1 hh1 hx
      rcases ee0 with ⟨o7, o8⟩ | r
      · obtain ⟨rfl, ftt1_0, ftt1_1, ftt1_2⟩ := hx
        dsimp only at hp
        have hp := Option.some.inj hp
        subst hp
        simp (maxSteps := 2000000) (disch := first|omega|(simp only[ls];first|done|omega)) only [E, hb0, ftt1_0, ftt1_1, ftt1_2, gx]
      · obtain ⟨rfl, hx⟩ := hx
        dsimp only at hp
        cases hp
        simp only [seqK_ret, blockK_ret, retK_RK (K := Tells true), hx, and_self, true_and]

noncomputable def p_laws_toIntS_l0 (x0 : List Int) : List Int × Int → Option (Lp (List Int × Int) (List Int))
  | (s1, s2) =>
    if (decide (s2 < (x0.length : Int))) = true then
      (get? x0 s2).bind fun v4 =>
      (get? s1 s2).bind fun v5 =>
      some (.go ((s1.set s2.toNat v4), w64 (s2 + 1)))
    else
      some (.out (s1, s2))
noncomputable def p_laws_toIntS (x0 : List Int) : Option (List Int) :=
  ((mkL (x0.length : Int) 8 (x0.length : Int) 0 : Option (List Int))).bind fun v0 =>
  (loopP (p_laws_toIntS_l0 x0) (v0, 0)).bind fun ee0 => match ee0 with
  | .ret r => some r
  | .out (o7, o8) =>
    some o7
def c_laws_toIntS : AFn := ⟨22, (.seq (.ops [(qS 2 (.vnil 1 false))]) (.seq (.ops [(qS 5 (.mv (.tmp 0))), (qS 6 (.len (.tmp 5))), (qS 7 (.makeSl 1 false 8 [(.int .i64 0)] (.tmp 6) (.tmp 6))), (qS 3 (.mv (.tmp 7)))]) (.seq (.seq (.ops [(qS 4 (.mv (ic 0)))]) (.block 0 (.loop (.seq (.seq (.ops [(qS 8 (.mv (.tmp 4))), (qS 9 (.mv (.tmp 0))), (qS 10 (.len (.tmp 9))), (qS 11 (.pu (.n (.ar .lss)) [(.tmp 8), (.tmp 10)]))]) (.cond (.tmp 11) .skip (.exit 0))) (.seq (.block 1 (.ops [(qS 14 (.mv (.tmp 3))), (qS 15 (.mv (.tmp 4))), (qS 16 (.mv (.tmp 0))), (qS 17 (.mv (.tmp 4))), (qS 18 (.idxS 1 (.tmp 16) (.tmp 17))), (qS 19 (.load 1 false (.tmp 18))), (qS 20 (.idxS 1 (.tmp 14) (.tmp 15))), ⟨.none, (.storeV [(0, false)] 1 (.tmp 20) (.tmp 19)), .none, []⟩])) (.ops [(qS 12 (.mv (.tmp 4))), (qS 13 (.pu (.n (.ar .add)) [(.tmp 12), (ic 1)])), (qS 4 (.mv (.tmp 13)))])))))) (.seq (.ops [(qS 21 (.mv (.tmp 3))), (qS 2 (.mv (.tmp 21)))]) .ret)))), [(.tmp 2)]⟩
def o_laws_toIntS (b : List Int) (v : V) (h : Heap) : Prop := ∃ n0 : Nat, v = .hsl n0 b.length 0 1 false b.length ∧ getCells h n0 b.length = some (rows b)
def oo_laws_toIntS (b : List Int) (h : Heap) (v : V) (h2 : Heap) : Prop := Keep [] h h2 ∧ ∃ n0 : Nat, v = .hsl n0 b.length 0 1 false b.length ∧ n0 < h2.length ∧ h.length ≤ n0 ∧ getCells h2 n0 b.length = some (rows b)
def k_laws_toIntS (F : Fun) : Prop := ∀ (x0 : List Int) (b : List Int), p_laws_toIntS x0 = some b → ∀ (h : Heap) (args : List V), snapA 9 false h args = some (encA (x0)) → ∃ p, F none args h = some p ∧ oo_laws_toIntS b h p.1 p.2
set_option maxHeartbeats 10000000 in
theorem w_laws_toIntS {P : Program} {env : Env}  (x0 : List Int) {b : List Int} (hp : p_laws_toIntS x0 = some b) : R P env (c_laws_toIntS) ((encA (x0)).map ofI) [] (o_laws_toIntS b) := by
  refine R_of (by simp [c_laws_toIntS, encA]) ?_
  unfold c_laws_toIntS
  unfold p_laws_toIntS at hp
  obtain ⟨v0, hv0, hp⟩ := bind_eq hp
  obtain ⟨kv0, qv0, lv0⟩ := mkL_some hv0
  have rv0 : (List.replicate x0.length [.i (.s (.int .i64 0))]).flatten = rows v0 := by rw [qv0]; exact rows_rep (x := (0 : Int)) rfl
  have mv0 : x0.length = v0.length := by rw [lv0]; simp
  obtain ⟨ee0, hee0, hp⟩ := bind_eq hp
  simp (maxSteps := 2000000) (disch := first|omega|(simp only[ls];first|done|omega)) only [hv0, rv0, kv0.1, kv0.2.1, kv0.2.2.1, kv0.2.2.2, gx]
  refine W_loopP 0 (fun s t h => match s with | (s1, s2) => t 0 = .i (.sl 1 (x0.map enc)) ∧ t 3 = .hsl 1 x0.length 0 1 false x0.length ∧ t 4 = .i (.s (.int .i64 s2)) ∧ getCells h 1 x0.length = some (rows (s1 : List Int)) ∧ 1 < h.length) (RK [.tmp 2] (o_laws_toIntS)) ?_ hee0 ?_ ?_
  · rintro ⟨s1, s2⟩ ee tt0 hh0 ⟨ftt0_0, ftt0_1, ftt0_2, ftt0_3, ftt0_4⟩ hp
    have ztt0_3 := len_rows ftt0_3
    simp only [zs] at ztt0_3
    rw [p_laws_toIntS_l0] at hp
    by_cases hb3 : (decide (s2 < (x0.length : Int))) = true
    · rw [if_t hb3] at hp
      obtain ⟨v4, hv4, hp⟩ := bind_eq hp
      obtain ⟨v5, hv5, hp⟩ := bind_eq hp
      have gv5 := get_some hv5
      have hs6 : List.take s2.toNat (rows s1) ++ .i (.s (.int .i64 v4)) :: List.drop (s2.toNat + 1) (rows s1) = rows (s1.set s2.toNat v4) := by simpa [splice, zs, cellsV, I.cells, enc_int] using rows_set_off (y := v4) (ys := [.i (.s (.int .i64 v4))]) (k := 0) gv5.2.2 (Nat.le_of_ble_eq_true rfl) (by rfl)
      have hp := Option.some.inj hp
      subst hp
      simp (maxSteps := 2000000) (disch := first|omega|(simp only[ls];first|done|omega)) only [hv0, rv0, kv0.1, kv0.2.1, kv0.2.2.1, kv0.2.2.2, ftt0_0, ftt0_1, ftt0_2, ftt0_3, ftt0_4, hb3, hv4, hv5, (gv5).1, (gv5).2.1, hs6, gx] <;> omega
    · replace hb3 := eq_false_of_ne_true hb3
      rw [if_f hb3] at hp
      have hp := Option.some.inj hp
      subst hp
      simp (maxSteps := 2000000) (disch := first|omega|(simp only[ls];first|done|omega)) only [hv0, rv0, kv0.1, kv0.2.1, kv0.2.2.1, kv0.2.2.2, ftt0_0, ftt0_1, ftt0_2, ftt0_3, ftt0_4, hb3, gx] <;> omega
  · simp (maxSteps := 2000000) (disch := first|omega|(simp only[ls];first|done|omega)) only [hv0, rv0, kv0.1, kv0.2.1, kv0.2.2.1, kv0.2.2.2, gx] <;> omega
  · intro x tt1 hh1 hx
    rcases ee0 with ⟨o7, o8⟩ | r
    · obtain ⟨rfl, ftt1_0, ftt1_1, ftt1_2, ftt1_3, ftt1_4⟩ := hx
      have ztt1_3 := len_rows ftt1_3
      simp only [zs] at ztt1_3
      dsimp only at hp
      have hp := Option.some.inj hp
      subst hp
      simp (maxSteps := 2000000) (disch := first|omega|(simp only[ls];first|done|omega)) only [hv0, rv0, kv0.1, kv0.2.1, kv0.2.2.1, kv0.2.2.2, ftt1_0, ftt1_1, ftt1_2, ftt1_3, ftt1_4, gx]
      refine ⟨1, ?_⟩
      simp (maxSteps := 2000000) (disch := first|omega|(simp only[ls];first|done|omega)) only [hv0, rv0, kv0.1, kv0.2.1, kv0.2.2.1, kv0.2.2.2, ftt1_0, ftt1_1, ftt1_2, ftt1_3, ftt1_4, o_laws_toIntS, (show (o7).length = x0.length from by first | omega | rfl), gx] <;> omega
    · obtain ⟨rfl, hx⟩ := hx
      dsimp only at hp
      cases hp
      simp only [seqK_ret, blockK_ret, retK_RK (K := o_laws_toIntS), hx, and_self, true_and]
theorem ko_laws_toIntS {P : Program} {env : Env}  : k_laws_toIntS (ownFn P env (c_laws_toIntS)) := by
  intro x0 b hp h args has
  obtain ⟨⟨v, H2⟩, hr, n0, rfl, wn0⟩ := w_laws_toIntS x0 hp
  exact ⟨_, own_call has hr rfl, keep_moved, n0 + h.length, rfl, (moved_lt wn0).2, (moved_lt wn0).1, moved_rows wn0⟩

noncomputable def p_laws_toVector (x0 : TVec) : Option TVec :=
  (p_laws_toIntS x0.counts).bind fun v0 =>
  some (TVec.mk v0)
def c_laws_toVector (f_laws_toIntS : Nat) : AFn := ⟨9, (.seq (.ops [(qS 1 (.box (.tmp 0))), (qS 2 (.allocV [(1, false)] [(.slice .none 0 0)]))]) (.seq (.ops [(qS 3 (.allocV [(1, false)] [(.slice .none 0 0)]))]) (.seq (.ops [(qS 4 (.fieldA 0 (.tmp 1))), (qS 5 (.load 1 false (.tmp 4))), (qS 6 (.call (2 * f_laws_toIntS + 1) [(.tmp 5)])), (qS 7 (.fieldA 0 (.tmp 3))), ⟨.none, (.storeV [(1, false)] 1 (.tmp 7) (.tmp 6)), .none, []⟩]) (.seq (.ops [(qS 8 (.load 1 true (.tmp 3))), ⟨.none, (.storeV [(1, false)] 1 (.tmp 2) (.tmp 8)), .none, []⟩]) .ret)))), [(.cell 2 1 true)]⟩
def o_laws_toVector (b : TVec) (v : V) (h : Heap) : Prop := ∃ n0 : Nat, v = .agg [.hsl n0 b.counts.length 0 1 false b.counts.length] ∧ getCells h n0 b.counts.length = some (rows b.counts)
def oo_laws_toVector (b : TVec) (h : Heap) (v : V) (h2 : Heap) : Prop := Keep [] h h2 ∧ ∃ n0 : Nat, v = .agg [.hsl n0 b.counts.length 0 1 false b.counts.length] ∧ n0 < h2.length ∧ h.length ≤ n0 ∧ getCells h2 n0 b.counts.length = some (rows b.counts)
def k_laws_toVector (F : Fun) : Prop := ∀ (x0 : TVec) (b : TVec), p_laws_toVector x0 = some b → ∀ (h : Heap) (args : List V), snapA 9 false h args = some (encA (x0)) → ∃ p, F none args h = some p ∧ oo_laws_toVector b h p.1 p.2
set_option maxHeartbeats 10000000 in
theorem w_laws_toVector {P : Program} {env : Env} {f_laws_toIntS : Nat}  (e_laws_toIntS : k_laws_toIntS (env (2 * f_laws_toIntS + 1))) (x0 : TVec) {b : TVec} (hp : p_laws_toVector x0 = some b) : R P env (c_laws_toVector f_laws_toIntS) ((encA (x0)).map ofI) [] (o_laws_toVector b) := by
  refine R_of (by simp [c_laws_toVector, encA]) ?_
  unfold c_laws_toVector
  unfold p_laws_toVector at hp
  obtain ⟨v0, hv0, hp⟩ := bind_eq hp
  simp (maxSteps := 2000000) (disch := first|omega|(simp only[ls];first|done|omega)) only [gx]
  refine call_f (fun h => getCells h 0 1 = some [.i (.sl 1 (x0.counts.map enc))] ∧ 0 < h.length ∧ getCells h 1 0 = some [] ∧ 1 < h.length ∧ getCells h 2 1 = some [.hsl 1 0 0 1 false 0] ∧ 2 < h.length ∧ getCells h 3 0 = some [] ∧ 3 < h.length ∧ getCells h 4 1 = some [.hsl 3 0 0 1 false 0] ∧ 4 < h.length) (fun h v h2 => oo_laws_toIntS v0 h v h2) ?_ ?_ ?_
  · simp (maxSteps := 2000000) (disch := first|omega|(simp only[ls];first|done|omega)) only [hv0, gx] <;> omega
  · rintro h ⟨c0_0, c0_1, c0_2, c0_3, c0_4, c0_5, c0_6, c0_7, c0_8, c0_9⟩
    exact e_laws_toIntS _ _ hv0 h _ (by simp (maxSteps := 2000000) (disch := first|omega|(simp only[ls];first|done|omega)) only [hv0, c0_0, c0_1, c0_2, c0_3, c0_4, c0_5, c0_6, c0_7, c0_8, c0_9, gx])
  · rintro hc0 v hh0 ⟨c0_0, c0_1, c0_2, c0_3, c0_4, c0_5, c0_6, c0_7, c0_8, c0_9⟩ hpost
    obtain ⟨kk0, nb0_0, rfl, lnb0_0, gnb0_0, wnb0_0⟩ := hpost
    have d0_0 : getCells hh0 0 1 = some [.i (.sl 1 (x0.counts.map enc))] := (keep_get kk0 c0_1 (by first | (simp; done) | (simp; omega))).trans c0_0
    have d0_0l := keep_lt kk0 c0_1
    have d0_1 : getCells hh0 1 0 = some [] := (keep_get kk0 c0_3 (by first | (simp; done) | (simp; omega))).trans c0_2
    have d0_1l := keep_lt kk0 c0_3
    have d0_2 : getCells hh0 2 1 = some [.hsl 1 0 0 1 false 0] := (keep_get kk0 c0_5 (by first | (simp; done) | (simp; omega))).trans c0_4
    have d0_2l := keep_lt kk0 c0_5
    have d0_3 : getCells hh0 3 0 = some [] := (keep_get kk0 c0_7 (by first | (simp; done) | (simp; omega))).trans c0_6
    have d0_3l := keep_lt kk0 c0_7
    have d0_4 : getCells hh0 4 1 = some [.hsl 3 0 0 1 false 0] := (keep_get kk0 c0_9 (by first | (simp; done) | (simp; omega))).trans c0_8
    have d0_4l := keep_lt kk0 c0_9
    have d0_5 := wnb0_0
    have hp := Option.some.inj hp
    subst hp
    simp (maxSteps := 2000000) (disch := first|omega|(simp only[ls];first|done|omega)) only [hv0, d0_0, d0_1, d0_2, d0_3, d0_4, d0_5, gx]
    refine ⟨nb0_0, ?_⟩
    simp (maxSteps := 2000000) (disch := first|omega|(simp only[ls];first|done|omega)) only [hv0, d0_0, d0_1, d0_2, d0_3, d0_4, d0_5, o_laws_toVector, gx] <;> omega
theorem ko_laws_toVector {P : Program} {env : Env} {f_laws_toIntS : Nat}  (e_laws_toIntS : k_laws_toIntS (env (2 * f_laws_toIntS + 1))) : k_laws_toVector (ownFn P env (c_laws_toVector f_laws_toIntS)) := by
  intro x0 b hp h args has
  obtain ⟨⟨v, H2⟩, hr, n0, rfl, wn0⟩ := w_laws_toVector e_laws_toIntS x0 hp
  exact ⟨_, own_call has hr rfl, keep_moved, n0 + h.length, rfl, (moved_lt wn0).2, (moved_lt wn0).1, moved_rows wn0⟩

noncomputable def p_laws_toStamp (x0 : TStamp) : Option TStamp :=
  some x0
def c_laws_toStamp : AFn := ⟨11, (.seq (.ops [(qS 1 (.box (.tmp 0))), (qS 2 (.allocV [(0, false), (0, false)] [(.int .i64 0), (.int .i64 0)]))]) (.seq (.ops [(qS 3 (.allocV [(0, false), (0, false)] [(.int .i64 0), (.int .i64 0)]))]) (.seq (.ops [(qS 4 (.fieldA 0 (.tmp 1))), (qS 5 (.load 1 false (.tmp 4))), (qS 6 (.fieldA 0 (.tmp 3))), ⟨.none, (.storeV [(0, false)] 1 (.tmp 6) (.tmp 5)), .none, []⟩]) (.seq (.ops [(qS 7 (.fieldA 1 (.tmp 1))), (qS 8 (.load 1 false (.tmp 7))), (qS 9 (.fieldA 1 (.tmp 3))), ⟨.none, (.storeV [(0, false)] 1 (.tmp 9) (.tmp 8)), .none, []⟩]) (.seq (.ops [(qS 10 (.load 2 true (.tmp 3))), ⟨.none, (.storeV [(0, false), (0, false)] 2 (.tmp 2) (.tmp 10)), .none, []⟩]) .ret))))), [(.cell 2 2 true)]⟩
set_option maxHeartbeats 10000000 in
theorem d_laws_toStamp {P : Program} {env : Env}  (x0 : TStamp) {b : TStamp} (hp : p_laws_toStamp x0 = some b) : R P env (c_laws_toStamp) ((encA (x0)).map ofI) [] (Tells true b) := by
  refine R_of (by simp [c_laws_toStamp, encA]) ?_
  unfold c_laws_toStamp
  unfold p_laws_toStamp at hp
  have hp := Option.some.inj hp
  subst hp
  simp (maxSteps := 2000000) (disch := first|omega|(simp only[ls];first|done|omega)) only [gx]

noncomputable def p_laws_toOp (x0 : TOp) : Option TOp :=
  (p_laws_toVector x0.deps).bind fun v0 =>
  (p_laws_toStamp x0.at_).bind fun v1 =>
  some (TOp.mk x0.actor x0.seq x0.time v0 x0.kind x0.obj x0.n x0.undo v1 x0.key x0.text)
def c_laws_toOp (f_laws_toVector : Nat) (f_laws_toStamp : Nat) : AFn := ⟨40, (.seq (.ops [(qS 1 (.box (.tmp 0))), (qS 2 (.allocV [(0, false), (0, false), (0, false), (1, false), (0, false), (0, false), (0, false), (0, false), (0, false), (0, false), (0, false), (0, false)] [(.int .i64 0), (.int .i64 0), (.int .i64 0), (.slice .none 0 0), (.int .i64 0), (.int .i64 0), (.int .i64 0), (.int .i64 0), (.int .i64 0), (.int .i64 0), (.string ⟨#[]⟩), (.string ⟨#[]⟩)]))]) (.seq (.ops [(qS 3 (.allocV [(0, false), (0, false), (0, false), (1, false), (0, false), (0, false), (0, false), (0, false), (0, false), (0, false), (0, false), (0, false)] [(.int .i64 0), (.int .i64 0), (.int .i64 0), (.slice .none 0 0), (.int .i64 0), (.int .i64 0), (.int .i64 0), (.int .i64 0), (.int .i64 0), (.int .i64 0), (.string ⟨#[]⟩), (.string ⟨#[]⟩)]))]) (.seq (.ops [(qS 4 (.fieldA 0 (.tmp 1))), (qS 5 (.load 1 false (.tmp 4))), (qS 6 (.fieldA 0 (.tmp 3))), ⟨.none, (.storeV [(0, false)] 1 (.tmp 6) (.tmp 5)), .none, []⟩]) (.seq (.ops [(qS 7 (.fieldA 1 (.tmp 1))), (qS 8 (.load 1 false (.tmp 7))), (qS 9 (.fieldA 1 (.tmp 3))), ⟨.none, (.storeV [(0, false)] 1 (.tmp 9) (.tmp 8)), .none, []⟩]) (.seq (.ops [(qS 10 (.fieldA 2 (.tmp 1))), (qS 11 (.load 1 false (.tmp 10))), (qS 12 (.fieldA 2 (.tmp 3))), ⟨.none, (.storeV [(0, false)] 1 (.tmp 12) (.tmp 11)), .none, []⟩]) (.seq (.ops [(qS 13 (.fieldA 3 (.tmp 1))), (qS 14 (.load 1 true (.tmp 13))), (qS 15 (.call (2 * f_laws_toVector + 1) [(.tmp 14)])), (qS 16 (.fieldA 3 (.tmp 3))), ⟨.none, (.storeV [(1, false)] 1 (.tmp 16) (.tmp 15)), .none, []⟩]) (.seq (.ops [(qS 17 (.fieldA 4 (.tmp 1))), (qS 18 (.load 1 false (.tmp 17))), (qS 19 (.fieldA 4 (.tmp 3))), ⟨.none, (.storeV [(0, false)] 1 (.tmp 19) (.tmp 18)), .none, []⟩]) (.seq (.ops [(qS 20 (.fieldA 5 (.tmp 1))), (qS 21 (.load 1 false (.tmp 20))), (qS 22 (.fieldA 5 (.tmp 3))), ⟨.none, (.storeV [(0, false)] 1 (.tmp 22) (.tmp 21)), .none, []⟩]) (.seq (.ops [(qS 23 (.fieldA 6 (.tmp 1))), (qS 24 (.load 1 false (.tmp 23))), (qS 25 (.fieldA 6 (.tmp 3))), ⟨.none, (.storeV [(0, false)] 1 (.tmp 25) (.tmp 24)), .none, []⟩]) (.seq (.ops [(qS 26 (.fieldA 7 (.tmp 1))), (qS 27 (.load 1 false (.tmp 26))), (qS 28 (.fieldA 7 (.tmp 3))), ⟨.none, (.storeV [(0, false)] 1 (.tmp 28) (.tmp 27)), .none, []⟩]) (.seq (.ops [(qS 29 (.fieldA 8 (.tmp 1))), (qS 30 (.load 2 true (.tmp 29))), (qS 31 (.call (2 * f_laws_toStamp) [(.tmp 30)])), (qS 32 (.fieldA 8 (.tmp 3))), ⟨.none, (.storeV [(0, false), (0, false)] 2 (.tmp 32) (.tmp 31)), .none, []⟩]) (.seq (.ops [(qS 33 (.fieldA 10 (.tmp 1))), (qS 34 (.load 1 false (.tmp 33))), (qS 35 (.fieldA 10 (.tmp 3))), ⟨.none, (.storeV [(0, false)] 1 (.tmp 35) (.tmp 34)), .none, []⟩]) (.seq (.ops [(qS 36 (.fieldA 11 (.tmp 1))), (qS 37 (.load 1 false (.tmp 36))), (qS 38 (.fieldA 11 (.tmp 3))), ⟨.none, (.storeV [(0, false)] 1 (.tmp 38) (.tmp 37)), .none, []⟩]) (.seq (.ops [(qS 39 (.load 12 true (.tmp 3))), ⟨.none, (.storeV [(0, false), (0, false), (0, false), (1, false), (0, false), (0, false), (0, false), (0, false), (0, false), (0, false), (0, false), (0, false)] 12 (.tmp 2) (.tmp 39)), .none, []⟩]) .ret)))))))))))))), [(.cell 2 12 true)]⟩
def o_laws_toOp (b : TOp) (v : V) (h : Heap) : Prop := ∃ n0 : Nat, v = .agg [.i (.s (.int .i64 b.actor)), .i (.s (.int .i64 b.seq)), .i (.s (.int .i64 b.time)), .hsl n0 b.deps.counts.length 0 1 false b.deps.counts.length, .i (.s (.int .i64 b.kind)), .i (.s (.int .i64 b.obj)), .i (.s (.int .i64 b.n)), .i (.s (.int .i64 b.undo)), .i (.s (.int .i64 b.at_.time)), .i (.s (.int .i64 b.at_.actor)), .i (.s (.string b.key)), .i (.s (.string b.text))] ∧ getCells h n0 b.deps.counts.length = some (rows b.deps.counts)
def oo_laws_toOp (b : TOp) (h : Heap) (v : V) (h2 : Heap) : Prop := Keep [] h h2 ∧ ∃ n0 : Nat, v = .agg [.i (.s (.int .i64 b.actor)), .i (.s (.int .i64 b.seq)), .i (.s (.int .i64 b.time)), .hsl n0 b.deps.counts.length 0 1 false b.deps.counts.length, .i (.s (.int .i64 b.kind)), .i (.s (.int .i64 b.obj)), .i (.s (.int .i64 b.n)), .i (.s (.int .i64 b.undo)), .i (.s (.int .i64 b.at_.time)), .i (.s (.int .i64 b.at_.actor)), .i (.s (.string b.key)), .i (.s (.string b.text))] ∧ n0 < h2.length ∧ h.length ≤ n0 ∧ getCells h2 n0 b.deps.counts.length = some (rows b.deps.counts)
def k_laws_toOp (F : Fun) : Prop := ∀ (x0 : TOp) (b : TOp), p_laws_toOp x0 = some b → ∀ (h : Heap) (args : List V), snapA 9 false h args = some (encA (x0)) → ∃ p, F none args h = some p ∧ oo_laws_toOp b h p.1 p.2
set_option maxHeartbeats 10000000 in
theorem w_laws_toOp {P : Program} {env : Env} {f_laws_toVector : Nat} {f_laws_toStamp : Nat}  (ep_laws_toStamp : env (2 * f_laws_toStamp) = pureFn true (FA fun a : TStamp => p_laws_toStamp a)) (e_laws_toVector : k_laws_toVector (env (2 * f_laws_toVector + 1))) (x0 : TOp) {b : TOp} (hp : p_laws_toOp x0 = some b) : R P env (c_laws_toOp f_laws_toVector f_laws_toStamp) ((encA (x0)).map ofI) [] (o_laws_toOp b) := by
  refine R_of (by simp [c_laws_toOp, encA]) ?_
  have E := And.intro opc ep_laws_toStamp
  unfold c_laws_toOp
  unfold p_laws_toOp at hp
  obtain ⟨v0, hv0, hp⟩ := bind_eq hp
  simp (maxSteps := 2000000) (disch := first|omega|(simp only[ls];first|done|omega)) only [E, gx]
  refine call_f (fun h => getCells h 0 12 = some [.i (.s (.int .i64 x0.actor)), .i (.s (.int .i64 x0.seq)), .i (.s (.int .i64 x0.time)), .i (.sl 1 (x0.deps.counts.map enc)), .i (.s (.int .i64 x0.kind)), .i (.s (.int .i64 x0.obj)), .i (.s (.int .i64 x0.n)), .i (.s (.int .i64 x0.undo)), .i (.s (.int .i64 x0.at_.time)), .i (.s (.int .i64 x0.at_.actor)), .i (.s (.string x0.key)), .i (.s (.string x0.text))] ∧ 0 < h.length ∧ getCells h 1 0 = some [] ∧ 1 < h.length ∧ getCells h 2 12 = some [.i (.s (.int .i64 0)), .i (.s (.int .i64 0)), .i (.s (.int .i64 0)), .hsl 1 0 0 1 false 0, .i (.s (.int .i64 0)), .i (.s (.int .i64 0)), .i (.s (.int .i64 0)), .i (.s (.int .i64 0)), .i (.s (.int .i64 0)), .i (.s (.int .i64 0)), .i (.s (.string (ByteArray.mk #[]))), .i (.s (.string (ByteArray.mk #[])))] ∧ 2 < h.length ∧ getCells h 3 0 = some [] ∧ 3 < h.length ∧ getCells h 4 12 = some [.i (.s (.int .i64 x0.actor)), .i (.s (.int .i64 x0.seq)), .i (.s (.int .i64 x0.time)), .hsl 3 0 0 1 false 0, .i (.s (.int .i64 0)), .i (.s (.int .i64 0)), .i (.s (.int .i64 0)), .i (.s (.int .i64 0)), .i (.s (.int .i64 0)), .i (.s (.int .i64 0)), .i (.s (.string (ByteArray.mk #[]))), .i (.s (.string (ByteArray.mk #[])))] ∧ 4 < h.length) (fun h v h2 => oo_laws_toVector v0 h v h2) ?_ ?_ ?_
  · simp (maxSteps := 2000000) (disch := first|omega|(simp only[ls];first|done|omega)) only [E, hv0, gx] <;> omega
  · rintro h ⟨c0_0, c0_1, c0_2, c0_3, c0_4, c0_5, c0_6, c0_7, c0_8, c0_9⟩
    exact e_laws_toVector _ _ hv0 h _ (by simp (maxSteps := 2000000) (disch := first|omega|(simp only[ls];first|done|omega)) only [E, hv0, c0_0, c0_1, c0_2, c0_3, c0_4, c0_5, c0_6, c0_7, c0_8, c0_9, gx])
  · rintro hc0 v hh0 ⟨c0_0, c0_1, c0_2, c0_3, c0_4, c0_5, c0_6, c0_7, c0_8, c0_9⟩ hpost
    obtain ⟨kk0, nb0_0, rfl, lnb0_0, gnb0_0, wnb0_0⟩ := hpost
    have d0_0 : getCells hh0 0 12 = some [.i (.s (.int .i64 x0.actor)), .i (.s (.int .i64 x0.seq)), .i (.s (.int .i64 x0.time)), .i (.sl 1 (x0.deps.counts.map enc)), .i (.s (.int .i64 x0.kind)), .i (.s (.int .i64 x0.obj)), .i (.s (.int .i64 x0.n)), .i (.s (.int .i64 x0.undo)), .i (.s (.int .i64 x0.at_.time)), .i (.s (.int .i64 x0.at_.actor)), .i (.s (.string x0.key)), .i (.s (.string x0.text))] := (keep_get kk0 c0_1 (by first | (simp; done) | (simp; omega))).trans c0_0
    have d0_0l := keep_lt kk0 c0_1
    have d0_1 : getCells hh0 1 0 = some [] := (keep_get kk0 c0_3 (by first | (simp; done) | (simp; omega))).trans c0_2
    have d0_1l := keep_lt kk0 c0_3
    have d0_2 : getCells hh0 2 12 = some [.i (.s (.int .i64 0)), .i (.s (.int .i64 0)), .i (.s (.int .i64 0)), .hsl 1 0 0 1 false 0, .i (.s (.int .i64 0)), .i (.s (.int .i64 0)), .i (.s (.int .i64 0)), .i (.s (.int .i64 0)), .i (.s (.int .i64 0)), .i (.s (.int .i64 0)), .i (.s (.string (ByteArray.mk #[]))), .i (.s (.string (ByteArray.mk #[])))] := (keep_get kk0 c0_5 (by first | (simp; done) | (simp; omega))).trans c0_4
    have d0_2l := keep_lt kk0 c0_5
    have d0_3 : getCells hh0 3 0 = some [] := (keep_get kk0 c0_7 (by first | (simp; done) | (simp; omega))).trans c0_6
    have d0_3l := keep_lt kk0 c0_7
    have d0_4 : getCells hh0 4 12 = some [.i (.s (.int .i64 x0.actor)), .i (.s (.int .i64 x0.seq)), .i (.s (.int .i64 x0.time)), .hsl 3 0 0 1 false 0, .i (.s (.int .i64 0)), .i (.s (.int .i64 0)), .i (.s (.int .i64 0)), .i (.s (.int .i64 0)), .i (.s (.int .i64 0)), .i (.s (.int .i64 0)), .i (.s (.string (ByteArray.mk #[]))), .i (.s (.string (ByteArray.mk #[])))] := (keep_get kk0 c0_9 (by first | (simp; done) | (simp; omega))).trans c0_8
    have d0_4l := keep_lt kk0 c0_9
    have d0_5 := wnb0_0
    obtain ⟨v1, hv1, hp⟩ := bind_eq hp
    have hp := Option.some.inj hp
    subst hp
    simp (maxSteps := 2000000) (disch := first|omega|(simp only[ls];first|done|omega)) only [E, hv0, d0_0, d0_1, d0_2, d0_3, d0_4, d0_5, hv1, gx]
    refine ⟨nb0_0, ?_⟩
    simp (maxSteps := 2000000) (disch := first|omega|(simp only[ls];first|done|omega)) only [E, hv0, d0_0, d0_1, d0_2, d0_3, d0_4, d0_5, hv1, o_laws_toOp, gx] <;> omega
theorem ko_laws_toOp {P : Program} {env : Env} {f_laws_toVector : Nat} {f_laws_toStamp : Nat}  (ep_laws_toStamp : env (2 * f_laws_toStamp) = pureFn true (FA fun a : TStamp => p_laws_toStamp a)) (e_laws_toVector : k_laws_toVector (env (2 * f_laws_toVector + 1))) : k_laws_toOp (ownFn P env (c_laws_toOp f_laws_toVector f_laws_toStamp)) := by
  intro x0 b hp h args has
  obtain ⟨⟨v, H2⟩, hr, n0, rfl, wn0⟩ := w_laws_toOp ep_laws_toStamp e_laws_toVector x0 hp
  exact ⟨_, own_call has hr rfl, keep_moved, n0 + h.length, rfl, (moved_lt wn0).2, (moved_lt wn0).1, moved_rows wn0⟩

section
open NestC (kid rowN)
noncomputable def p_laws_toOpS_l0 (x0 : List TOp) : List TOp → Option (Lp (List TOp) (List TOp))
  | s1 =>
    if s1.length < x0.length then
      (get? x0 (s1.length : Int)).bind fun v4 =>
      (p_laws_toOp v4).bind fun v5 =>
      some (.go (s1 ++ [v5]))
    else
      some (.out s1)
noncomputable def p_laws_toOpS (x0 : List TOp) : Option (List TOp) :=
  if (x0.length : Int) * 128 ≤ 281474976710656 then
    (loopP (p_laws_toOpS_l0 x0) []).bind fun ee0 => match ee0 with
    | .ret r => some r
    | .out o8 => some o8
  else none
def c_laws_toOpS (f_laws_toOp : Nat) : AFn := ⟨23, (.seq (.ops [(qS 2 (.vnil 12 true))]) (.seq (.ops [(qS 5 (.mv (.tmp 0))), (qS 6 (.len (.tmp 5))), (qS 7 (.makeSl 12 true 128 [(.int .i64 0), (.int .i64 0), (.int .i64 0), (.slice .none 0 0), (.int .i64 0), (.int .i64 0), (.int .i64 0), (.int .i64 0), (.int .i64 0), (.int .i64 0), (.string ⟨#[]⟩), (.string ⟨#[]⟩)] (.tmp 6) (.tmp 6))), (qS 3 (.mv (.tmp 7)))]) (.seq (.seq (.ops [(qS 4 (.mv (ic 0)))]) (.block 0 (.loop (.seq (.seq (.ops [(qS 8 (.mv (.tmp 4))), (qS 9 (.mv (.tmp 0))), (qS 10 (.len (.tmp 9))), (qS 11 (.pu (.n (.ar .lss)) [(.tmp 8), (.tmp 10)]))]) (.cond (.tmp 11) .skip (.exit 0))) (.seq (.block 1 (.ops [(qS 14 (.mv (.tmp 3))), (qS 15 (.mv (.tmp 4))), (qS 16 (.mv (.tmp 0))), (qS 17 (.mv (.tmp 4))), (qS 18 (.idxS 12 (.tmp 16) (.tmp 17))), (qS 19 (.load 12 true (.tmp 18))), (qS 20 (.call (2 * f_laws_toOp + 1) [(.tmp 19)])), (qS 21 (.idxS 12 (.tmp 14) (.tmp 15))), ⟨.none, (.storeV [(0, false), (0, false), (0, false), (1, false), (0, false), (0, false), (0, false), (0, false), (0, false), (0, false), (0, false), (0, false)] 12 (.tmp 21) (.tmp 20)), .none, []⟩])) (.ops [(qS 12 (.mv (.tmp 4))), (qS 13 (.pu (.n (.ar .add)) [(.tmp 12), (ic 1)])), (qS 4 (.mv (.tmp 13)))])))))) (.seq (.ops [(qS 22 (.mv (.tmp 3))), (qS 2 (.mv (.tmp 22)))]) .ret)))), [(.tmp 2)]⟩
def zOp : List V := [.i (.s (.int .i64 0)), .i (.s (.int .i64 0)), .i (.s (.int .i64 0)), .i (.s (.slice none 0 0)), .i (.s (.int .i64 0)), .i (.s (.int .i64 0)), .i (.s (.int .i64 0)), .i (.s (.int .i64 0)), .i (.s (.int .i64 0)), .i (.s (.int .i64 0)), .i (.s (.string ⟨#[]⟩)), .i (.s (.string ⟨#[]⟩))]
def o_laws_toOpS (b : List TOp) (v : V) (h : Heap) : Prop := ∃ n0 : V, v = n0 ∧ NestV h 0 h.length n0 b
def oo_laws_toOpS (b : List TOp) (h : Heap) (v : V) (h2 : Heap) : Prop := Keep [] h h2 ∧ ∃ n0 : V, v = n0 ∧ NestV h2 h.length h2.length n0 b
def k_laws_toOpS (F : Fun) : Prop := ∀ (x0 : List TOp) (b : List TOp), p_laws_toOpS x0 = some b → ∀ (h : Heap) (args : List V), snapA 9 false h args = some (encA (x0)) → ∃ p, F none args h = some p ∧ oo_laws_toOpS b h p.1 p.2
set_option maxHeartbeats 10000000 in
theorem w_laws_toOpS {P : Program} {env : Env} {f_laws_toOp : Nat} (e_laws_toOp : k_laws_toOp (env (2 * f_laws_toOp + 1))) (x0 : List TOp) {b : List TOp} (hp : p_laws_toOpS x0 = some b) : R P env (c_laws_toOpS f_laws_toOp) ((encA (x0)).map ofI) [] (o_laws_toOpS b) := by
  refine R_of (by simp [c_laws_toOpS, encA]) ?_
  unfold c_laws_toOpS
  unfold p_laws_toOpS at hp
  split at hp
  case isFalse => cases hp
  rename_i hb0
  obtain ⟨ee0, hee0, hp⟩ := bind_eq hp
  have hl1 : (0 : Int) ≤ (x0.length : Int) := by omega
  have hl3 : (x0.length : Int) ≤ (x0.length : Int) := Int.le_refl _
  have hl2 : (x0.length : Int) ≤ 9223372036854775807 := by omega
  have hz0 : (List.replicate x0.length [V.i (.s (.int .i64 0)), .i (.s (.int .i64 0)), .i (.s (.int .i64 0)), .i (.s (.slice none 0 0)), .i (.s (.int .i64 0)), .i (.s (.int .i64 0)), .i (.s (.int .i64 0)), .i (.s (.int .i64 0)), .i (.s (.int .i64 0)), .i (.s (.int .i64 0)), .i (.s (.string ⟨#[]⟩)), .i (.s (.string ⟨#[]⟩))]).flatten = ZR zOp x0.length := rfl
  simp (maxSteps := 2000000) (disch := first|omega|(simp only[ls];first|done|omega)) only [hb0, hl1, hl2, hl3, hz0, gx]
  refine W_loopP 0 (fun s1 t h => t 0 = .i (.sl 12 (x0.map enc)) ∧ t 3 = .hsl 1 (x0.length * 12) 0 12 true x0.length ∧ t 4 = .i (.s (.int .i64 (s1.length : Int))) ∧ s1.length ≤ x0.length ∧ NZ zOp (x0.length - s1.length) h 1 s1) (RK [.tmp 2] (o_laws_toOpS)) ?_ hee0 ?_ ?_
  · rintro s1 ee tt0 hh0 ⟨f0, f1, f2, f3, f4⟩ hp
    rw [p_laws_toOpS_l0] at hp
    by_cases hb3 : s1.length < x0.length
    · rw [if_pos hb3] at hp
      obtain ⟨v4, hv4, hp⟩ := bind_eq hp
      obtain ⟨v5, hv5, hp⟩ := bind_eq hp
      have hb4 : decide ((s1.length : Int) < (x0.length : Int)) = true := by simpa using hb3
      have hp := Option.some.inj hp
      subst hp
      simp (maxSteps := 2000000) (disch := first|omega|(simp only[ls];first|done|omega)) only [hv4, hb4, f0, f1, f2, gx]
      refine call_f (fun h => NZ zOp (x0.length - s1.length) h 1 s1) (fun h v h2 => oo_laws_toOp v5 h v h2) ?_ ?_ ?_
      · exact f4
      · rintro h c0
        exact e_laws_toOp _ _ hv5 h _ (by simp (maxSteps := 2000000) (disch := first|omega|(simp only[ls];first|done|omega)) only [hv4, hb4, f0, f1, f2, gx])
      · rintro hc v hh1 c0 hpost
        obtain ⟨kk0, nb, rfl, lnb, gnb, wnb⟩ := hpost
        obtain ⟨k, hk⟩ : ∃ k, x0.length - s1.length = k + 1 := ⟨x0.length - s1.length - 1, by omega⟩
        rw [hk] at c0
        obtain ⟨qs, hN⟩ := c0
        have hlt : ∀ g, g ∈ qs → g < nb := fun g hg => by have := (hN.bd g hg).2; omega
        have hN2 : NestZ zOp (k + 1) hh1 1 qs s1 := ⟨hN.len, by rw [keep_get kk0 (gc_lt hN.row) (by simp)]; exact hN.row, fun i g x h1 h2 => by rw [keep_get kk0 (hN.bd g (List.mem_of_getElem? h1)).2 (by simp)]; exact hN.kids i g x h1 h2, hN.nd, fun g hg => ⟨(hN.bd g hg).1, keep_lt kk0 (hN.bd g hg).2⟩⟩
        have hr : getCells hh1 1 (x0.length * 12) = some (rowsN qs s1 ++ ZR zOp (k + 1)) := by
          have := hN2.row
          rw [show (s1.length + (k + 1)) * Pic.z TOp = x0.length * 12 from by rw [z_TOp]; congr 1; omega] at this
          exact this
        have hb1 : 1 < nb := by have := gc_lt hN.row; omega
        have hput := nz_put (x := v5) (g := nb) rfl hN2 wnb hb1 (fun hm => by have := hlt nb hm; omega) rfl
        have hw : w64 ((s1.length : Int) + 1) = (s1.length : Int) + 1 := wrap_s (by omega) (by omega)
        have hx : x0.length - (s1.length + 1) = k := by omega
        have hle : s1.length + 1 ≤ x0.length := hb3
        have hcl : ((s1.length : Int) + 1).toNat = s1.length + 1 := by omega
        have hlr : (rowsN qs s1 ++ ZR zOp (k + 1)).length = x0.length * 12 := getCells_len hr
        have hnn : (0:Int) ≤ (s1.length : Int) := by omega
        simp only [z_TOp, rowN, List.cons_append, List.nil_append, iN, iS] at hput
        simp (maxSteps := 2000000) (disch := first|omega|(simp only[ls];first|done|omega)) only [f0, f1, f2, hr, hw, hx, hle, hput, hlr, Int.toNat_natCast, hb3, hnn, Int.natCast_add, gx]
    · rw [if_neg hb3] at hp
      have hb4 : decide ((s1.length : Int) < (x0.length : Int)) = false := by simpa using hb3
      have hp := Option.some.inj hp
      subst hp
      simp (maxSteps := 2000000) (disch := first|omega|(simp only[ls];first|done|omega)) only [hb4, f0, f1, f2, f3, f4, gx]
  · have : NZ zOp x0.length ([Slot.virt, .cells (ZR zOp x0.length)]) 1 ([] : List TOp) := nz_new rfl (by simp [getCells, ZR_len, z_TOp, zOp])
    simp (maxSteps := 2000000) (disch := first|omega|(simp only[ls];first|done|omega)) only [this, Nat.zero_le, gx]
  · intro x tt1 hh1 hx
    rcases ee0 with o8 | r
    · obtain ⟨rfl, f0, f1, f2, f3, f4⟩ := hx
      dsimp only at hp
      have hp := Option.some.inj hp
      subst hp
      have hq : x0.length ≤ o8.length := loopP_outQ (Q := fun o : List TOp => x0.length ≤ o.length) hee0 (fun s o h => by
        rw [p_laws_toOpS_l0] at h
        split at h
        · obtain ⟨_, _, h⟩ := bind_eq h
          obtain ⟨_, _, h⟩ := bind_eq h
          cases h
        · cases h
          omega)
      have he : x0.length = o8.length := by omega
      rw [← he, Nat.sub_self] at f4
      have hd := nz_done f4
      rw [z_TOp, ← he] at hd
      have hd2 : o_laws_toOpS o8 (.hsl 1 (x0.length * 12) 0 12 true x0.length) hh1 := ⟨_, rfl, nest_wide hd (Nat.zero_le _) (Nat.le_refl _) (Nat.le_refl _)⟩
      simp (maxSteps := 2000000) (disch := first|omega|(simp only[ls];first|done|omega)) only [f0, f1, f2, hd2, gx]
    · obtain ⟨rfl, hx⟩ := hx
      dsimp only at hp
      cases hp
      simp only [seqK_ret, blockK_ret, retK_RK, hx, and_self, true_and]
theorem ko_laws_toOpS {P : Program} {env : Env} {f_laws_toOp : Nat} (e_laws_toOp : k_laws_toOp (env (2 * f_laws_toOp + 1))) : k_laws_toOpS (ownFn P env (c_laws_toOpS f_laws_toOp)) := by
  intro x0 b hp h args has
  obtain ⟨⟨v, H2⟩, hr, n0, rfl, hn⟩ := w_laws_toOpS e_laws_toOp x0 hp
  exact ⟨_, own_call has hr (nest_hand hn), keep_moved, _, rfl, nest_movedO hn⟩
theorem d_laws_toOpS {P : Program} {env : Env} {f_laws_toOp : Nat} (e_laws_toOp : k_laws_toOp (env (2 * f_laws_toOp + 1))) (x0 : List TOp) {b : List TOp} (hp : p_laws_toOpS x0 = some b) : R P env (c_laws_toOpS f_laws_toOp) ((encA (x0)).map ofI) [] (Tells false b) := by
  obtain ⟨⟨v, H2⟩, h1, n0, rfl, h2⟩ := w_laws_toOpS e_laws_toOp x0 hp
  exact ⟨(v, H2), h1, nest_tells h2⟩
end

noncomputable def p_spec_l08Stamp (x0 : TOp) : Option TStamp :=
  some (TStamp.mk x0.time x0.actor)
def c_spec_l08Stamp : AFn := ⟨8, (.seq (.ops [(qS 1 (.box (.tmp 0))), (qS 2 (.allocV [(0, false), (0, false)] [(.int .i64 0), (.int .i64 0)]))]) (.seq (.ops [(qS 3 (.fieldA 2 (.tmp 1))), (qS 4 (.load 1 false (.tmp 3))), (qS 5 (.fieldA 0 (.tmp 1))), (qS 6 (.load 1 false (.tmp 5))), (qS 7 (.build [(.int .i64 0), (.int .i64 0)] [(0, (1, (.tmp 4))), (1, (1, (.tmp 6)))])), ⟨.none, (.storeV [(0, false), (0, false)] 2 (.tmp 2) (.tmp 7)), .none, []⟩]) .ret)), [(.cell 2 2 true)]⟩
set_option maxHeartbeats 10000000 in
theorem d_spec_l08Stamp {P : Program} {env : Env}  (x0 : TOp) {b : TStamp} (hp : p_spec_l08Stamp x0 = some b) : R P env (c_spec_l08Stamp) ((encA (x0)).map ofI) [] (Tells true b) := by
  refine R_of (by simp [c_spec_l08Stamp, encA]) ?_
  unfold c_spec_l08Stamp
  unfold p_spec_l08Stamp at hp
  have hp := Option.some.inj hp
  subst hp
  simp (maxSteps := 2000000) (disch := first|omega|(simp only[ls];first|done|omega)) only [gx]

noncomputable def p_spec_StampOK (x0 : TStamp) : Option Bool :=
  if (decide (1 ≤ x0.time)) = true then
    if (decide (x0.time ≤ 1000000000000)) = true then
      if (decide (0 ≤ x0.actor)) = true then
        some (decide (x0.actor < 16))
      else
        some false
    else
      some false
  else
    some false
def c_spec_StampOK : AFn := ⟨21, (.seq (.ops [(qS 1 (.box (.tmp 0))), (qS 2 (.mv (.const (.bool false))))]) (.seq (.ops [(qS 3 (.fieldA 0 (.tmp 1))), (qS 4 (.load 1 false (.tmp 3))), (qS 5 (.pu (.n (.ar .geq)) [(.tmp 4), (ic 1)])), (qS 6 (.mv (.tmp 5))), ⟨(.some 7), (.fieldA 0 (.tmp 1)), (.some (6, true)), []⟩, ⟨(.some 8), (.load 1 false (.tmp 7)), (.some (6, true)), []⟩, ⟨(.some 9), (.pu (.n (.ar .leq)) [(.tmp 8), (ic 1000000000000)]), (.some (6, true)), []⟩, (qS 10 (.pick (.tmp 6) (.tmp 9) (.const (.bool false)))), (qS 11 (.mv (.tmp 10))), ⟨(.some 12), (.fieldA 1 (.tmp 1)), (.some (11, true)), []⟩, ⟨(.some 13), (.load 1 false (.tmp 12)), (.some (11, true)), []⟩, ⟨(.some 14), (.pu (.n (.ar .geq)) [(.tmp 13), (ic 0)]), (.some (11, true)), []⟩, (qS 15 (.pick (.tmp 11) (.tmp 14) (.const (.bool false)))), (qS 16 (.mv (.tmp 15))), ⟨(.some 17), (.fieldA 1 (.tmp 1)), (.some (16, true)), []⟩, ⟨(.some 18), (.load 1 false (.tmp 17)), (.some (16, true)), []⟩, ⟨(.some 19), (.pu (.n (.ar .lss)) [(.tmp 18), (ic 16)]), (.some (16, true)), []⟩, (qS 20 (.pick (.tmp 16) (.tmp 19) (.const (.bool false)))), (qS 2 (.mv (.tmp 20)))]) .ret)), [(.tmp 2)]⟩
set_option maxHeartbeats 10000000 in
theorem d_spec_StampOK {P : Program} {env : Env}  (x0 : TStamp) {b : Bool} (hp : p_spec_StampOK x0 = some b) : R P env (c_spec_StampOK) ((encA (x0)).map ofI) [] (Tells true b) := by
  refine R_of (by simp [c_spec_StampOK, encA]) ?_
  unfold c_spec_StampOK
  unfold p_spec_StampOK at hp
  by_cases hb0 : (decide (1 ≤ x0.time)) = true
  · rw [if_t hb0] at hp
    by_cases hb1 : (decide (x0.time ≤ 1000000000000)) = true
    · rw [if_t hb1] at hp
      by_cases hb2 : (decide (0 ≤ x0.actor)) = true
      · rw [if_t hb2] at hp
        have hp := Option.some.inj hp
        subst hp
        simp (maxSteps := 2000000) (disch := first|omega|(simp only[ls];first|done|omega)) only [hb0, hb1, hb2, gx]
      · replace hb2 := eq_false_of_ne_true hb2
        rw [if_f hb2] at hp
        have hp := Option.some.inj hp
        subst hp
        simp (maxSteps := 2000000) (disch := first|omega|(simp only[ls];first|done|omega)) only [hb0, hb1, hb2, gx]
    · replace hb1 := eq_false_of_ne_true hb1
      rw [if_f hb1] at hp
      have hp := Option.some.inj hp
      subst hp
      simp (maxSteps := 2000000) (disch := first|omega|(simp only[ls];first|done|omega)) only [hb0, hb1, gx]
  · replace hb0 := eq_false_of_ne_true hb0
    rw [if_f hb0] at hp
    have hp := Option.some.inj hp
    subst hp
    simp (maxSteps := 2000000) (disch := first|omega|(simp only[ls];first|done|omega)) only [hb0, gx]

noncomputable def p_spec_VecOK_l0 (x0 : TVec) : Int → Option (Lp (Int) Bool)
  | s1 =>
    if (decide (s1 < 16)) = true then
      (get? x0.counts s1).bind fun v3 =>
      if (decide (v3 < 0)) = true then
        some (.ret false)
      else
        if (decide (1000000000000 < v3)) = true then
          some (.ret false)
        else
          some (.go (w64 (s1 + 1)))
    else
      some (.out s1)
noncomputable def p_spec_VecOK (x0 : TVec) : Option Bool :=
  if (decide ((x0.counts.length : Int) = 16)) = true then
    (loopP (p_spec_VecOK_l0 x0) 0).bind fun ee0 => match ee0 with
    | .ret r => some r
    | .out o6 =>
      some true
  else
    some false
def c_spec_VecOK : AFn := ⟨26, (.seq (.ops [(qS 1 (.box (.tmp 0))), (qS 2 (.mv (.const (.bool false))))]) (.seq (.seq (.ops [(qS 4 (.fieldA 0 (.tmp 1))), (qS 5 (.load 1 false (.tmp 4))), (qS 6 (.len (.tmp 5))), (qS 7 (.pu (.n (.ar .neq)) [(.tmp 6), (ic 16)]))]) (.cond (.tmp 7) (.seq (.ops [(qS 2 (.mv (.const (.bool false))))]) .ret) .skip)) (.seq (.seq (.ops [(qS 3 (.mv (ic 0)))]) (.block 0 (.loop (.seq (.seq (.ops [(qS 8 (.mv (.tmp 3))), (qS 9 (.pu (.n (.ar .lss)) [(.tmp 8), (ic 16)]))]) (.cond (.tmp 9) .skip (.exit 0))) (.seq (.block 1 (.seq (.ops [(qS 12 (.fieldA 0 (.tmp 1))), (qS 13 (.load 1 false (.tmp 12))), (qS 14 (.mv (.tmp 3))), (qS 15 (.idxS 1 (.tmp 13) (.tmp 14))), (qS 16 (.load 1 false (.tmp 15))), (qS 17 (.pu (.n (.ar .lss)) [(.tmp 16), (ic 0)])), (qS 18 (.mv (.tmp 17))), ⟨(.some 19), (.fieldA 0 (.tmp 1)), (.some (18, false)), []⟩, ⟨(.some 20), (.load 1 false (.tmp 19)), (.some (18, false)), []⟩, ⟨(.some 21), (.mv (.tmp 3)), (.some (18, false)), []⟩, ⟨(.some 22), (.idxS 1 (.tmp 20) (.tmp 21)), (.some (18, false)), []⟩, ⟨(.some 23), (.load 1 false (.tmp 22)), (.some (18, false)), []⟩, ⟨(.some 24), (.pu (.n (.ar .gtr)) [(.tmp 23), (ic 1000000000000)]), (.some (18, false)), []⟩, (qS 25 (.pick (.tmp 18) (.const (.bool true)) (.tmp 24)))]) (.cond (.tmp 25) (.seq (.ops [(qS 2 (.mv (.const (.bool false))))]) .ret) .skip))) (.ops [(qS 10 (.mv (.tmp 3))), (qS 11 (.pu (.n (.ar .add)) [(.tmp 10), (ic 1)])), (qS 3 (.mv (.tmp 11)))])))))) (.seq (.ops [(qS 2 (.mv (.const (.bool true))))]) .ret)))), [(.tmp 2)]⟩
set_option maxHeartbeats 10000000 in
theorem d_spec_VecOK {P : Program} {env : Env}  (x0 : TVec) {b : Bool} (hp : p_spec_VecOK x0 = some b) : R P env (c_spec_VecOK) ((encA (x0)).map ofI) [] (Tells true b) := by
  refine R_of (by simp [c_spec_VecOK, encA]) ?_
  unfold c_spec_VecOK
  unfold p_spec_VecOK at hp
  by_cases hb0 : (decide ((x0.counts.length : Int) = 16)) = true
  · rw [if_t hb0] at hp
    obtain ⟨ee0, hee0, hp⟩ := bind_eq hp
    simp (maxSteps := 2000000) (disch := first|omega|(simp only[ls];first|done|omega)) only [hb0, gx]
    refine W_loopP 0 (fun s t h => match s with | s1 => t 1 = .ptr 0 1 0 ∧ t 3 = .i (.s (.int .i64 s1)) ∧ getCells h 0 1 = some [.i (.sl 1 (x0.counts.map enc))] ∧ 0 < h.length) (RK [.tmp 2] (Tells true)) ?_ hee0 ?_ ?_
    · rintro s1 ee tt0 hh0 ⟨ftt0_0, ftt0_1, ftt0_2, ftt0_3⟩ hp
      rw [p_spec_VecOK_l0] at hp
      by_cases hb2 : (decide (s1 < 16)) = true
      · rw [if_t hb2] at hp
        obtain ⟨v3, hv3, hp⟩ := bind_eq hp
        by_cases hb4 : (decide (v3 < 0)) = true
        · rw [if_t hb4] at hp
          have hp := Option.some.inj hp
          subst hp
          simp (maxSteps := 2000000) (disch := first|omega|(simp only[ls];first|done|omega)) only [hb0, ftt0_0, ftt0_1, ftt0_2, ftt0_3, hb2, hv3, hb4, gx]
        · replace hb4 := eq_false_of_ne_true hb4
          rw [if_f hb4] at hp
          by_cases hb5 : (decide (1000000000000 < v3)) = true
          · rw [if_t hb5] at hp
            have hp := Option.some.inj hp
            subst hp
            simp (maxSteps := 2000000) (disch := first|omega|(simp only[ls];first|done|omega)) only [hb0, ftt0_0, ftt0_1, ftt0_2, ftt0_3, hb2, hv3, hb4, hb5, gx]
          · replace hb5 := eq_false_of_ne_true hb5
            rw [if_f hb5] at hp
            have hp := Option.some.inj hp
            subst hp
            simp (maxSteps := 2000000) (disch := first|omega|(simp only[ls];first|done|omega)) only [hb0, ftt0_0, ftt0_1, ftt0_2, ftt0_3, hb2, hv3, hb4, hb5, gx] <;> omega
      · replace hb2 := eq_false_of_ne_true hb2
        rw [if_f hb2] at hp
        have hp := Option.some.inj hp
        subst hp
        simp (maxSteps := 2000000) (disch := first|omega|(simp only[ls];first|done|omega)) only [hb0, ftt0_0, ftt0_1, ftt0_2, ftt0_3, hb2, gx] <;> omega
    · simp (maxSteps := 2000000) (disch := first|omega|(simp only[ls];first|done|omega)) only [hb0, gx] <;> omega
    · intro x tt1 hh1 hx
      rcases ee0 with o6 | r
      · obtain ⟨rfl, ftt1_0, ftt1_1, ftt1_2, ftt1_3⟩ := hx
        dsimp only at hp
        have hp := Option.some.inj hp
        subst hp
        simp (maxSteps := 2000000) (disch := first|omega|(simp only[ls];first|done|omega)) only [hb0, ftt1_0, ftt1_1, ftt1_2, ftt1_3, gx]
      · obtain ⟨rfl, hx⟩ := hx
        dsimp only at hp
        cases hp
        simp only [seqK_ret, blockK_ret, retK_RK (K := Tells true), hx, and_self, true_and]
  · replace hb0 := eq_false_of_ne_true hb0
    rw [if_f hb0] at hp
    have hp := Option.some.inj hp
    subst hp
    simp (maxSteps := 2000000) (disch := first|omega|(simp only[ls];first|done|omega)) only [hb0, gx]

noncomputable def p_spec_l02None (x0 : TStamp) : Option Bool :=
  if (decide (x0.time = 0)) = true then
    some (decide (x0.actor = 0))
  else
    some false
def c_spec_l02None : AFn := ⟨11, (.seq (.ops [(qS 1 (.box (.tmp 0))), (qS 2 (.mv (.const (.bool false))))]) (.seq (.ops [(qS 3 (.fieldA 0 (.tmp 1))), (qS 4 (.load 1 false (.tmp 3))), (qS 5 (.pu (.n (.ar .eql)) [(.tmp 4), (ic 0)])), (qS 6 (.mv (.tmp 5))), ⟨(.some 7), (.fieldA 1 (.tmp 1)), (.some (6, true)), []⟩, ⟨(.some 8), (.load 1 false (.tmp 7)), (.some (6, true)), []⟩, ⟨(.some 9), (.pu (.n (.ar .eql)) [(.tmp 8), (ic 0)]), (.some (6, true)), []⟩, (qS 10 (.pick (.tmp 6) (.tmp 9) (.const (.bool false)))), (qS 2 (.mv (.tmp 10)))]) .ret)), [(.tmp 2)]⟩
set_option maxHeartbeats 10000000 in
theorem d_spec_l02None {P : Program} {env : Env}  (x0 : TStamp) {b : Bool} (hp : p_spec_l02None x0 = some b) : R P env (c_spec_l02None) ((encA (x0)).map ofI) [] (Tells true b) := by
  refine R_of (by simp [c_spec_l02None, encA]) ?_
  unfold c_spec_l02None
  unfold p_spec_l02None at hp
  by_cases hb0 : (decide (x0.time = 0)) = true
  · rw [if_t hb0] at hp
    have hp := Option.some.inj hp
    subst hp
    simp (maxSteps := 2000000) (disch := first|omega|(simp only[ls];first|done|omega)) only [hb0, gx]
  · replace hb0 := eq_false_of_ne_true hb0
    rw [if_f hb0] at hp
    have hp := Option.some.inj hp
    subst hp
    simp (maxSteps := 2000000) (disch := first|omega|(simp only[ls];first|done|omega)) only [hb0, gx]

noncomputable def p_spec_StampLess (x0 : TStamp) (x1 : TStamp) : Option Bool :=
  if (decide (x0.time < x1.time)) = true then
    some true
  else
    if (decide (x0.time = x1.time)) = true then
      some (decide (x0.actor < x1.actor))
    else
      some false
def c_spec_StampLess : AFn := ⟨24, (.seq (.ops [(qS 2 (.box (.tmp 0))), (qS 3 (.box (.tmp 1))), (qS 4 (.mv (.const (.bool false))))]) (.seq (.ops [(qS 5 (.fieldA 0 (.tmp 2))), (qS 6 (.load 1 false (.tmp 5))), (qS 7 (.fieldA 0 (.tmp 3))), (qS 8 (.load 1 false (.tmp 7))), (qS 9 (.pu (.n (.ar .lss)) [(.tmp 6), (.tmp 8)])), (qS 10 (.mv (.tmp 9))), ⟨(.some 11), (.fieldA 0 (.tmp 2)), (.some (10, false)), []⟩, ⟨(.some 12), (.load 1 false (.tmp 11)), (.some (10, false)), []⟩, ⟨(.some 13), (.fieldA 0 (.tmp 3)), (.some (10, false)), []⟩, ⟨(.some 14), (.load 1 false (.tmp 13)), (.some (10, false)), []⟩, ⟨(.some 15), (.pu (.n (.ar .eql)) [(.tmp 12), (.tmp 14)]), (.some (10, false)), []⟩, ⟨(.some 16), (.mv (.tmp 15)), (.some (10, false)), []⟩, ⟨(.some 17), (.fieldA 1 (.tmp 2)), (.some (16, true)), []⟩, ⟨(.some 18), (.load 1 false (.tmp 17)), (.some (16, true)), []⟩, ⟨(.some 19), (.fieldA 1 (.tmp 3)), (.some (16, true)), []⟩, ⟨(.some 20), (.load 1 false (.tmp 19)), (.some (16, true)), []⟩, ⟨(.some 21), (.pu (.n (.ar .lss)) [(.tmp 18), (.tmp 20)]), (.some (16, true)), []⟩, ⟨(.some 22), (.pick (.tmp 16) (.tmp 21) (.const (.bool false))), (.some (10, false)), []⟩, (qS 23 (.pick (.tmp 10) (.const (.bool true)) (.tmp 22))), (qS 4 (.mv (.tmp 23)))]) .ret)), [(.tmp 4)]⟩
set_option maxHeartbeats 10000000 in
theorem d_spec_StampLess {P : Program} {env : Env}  (x0 : TStamp) (x1 : TStamp) {b : Bool} (hp : p_spec_StampLess x0 x1 = some b) : R P env (c_spec_StampLess) ((encA (x0, x1)).map ofI) [] (Tells true b) := by
  refine R_of (by simp [c_spec_StampLess, encA]) ?_
  unfold c_spec_StampLess
  unfold p_spec_StampLess at hp
  by_cases hb0 : (decide (x0.time < x1.time)) = true
  · rw [if_t hb0] at hp
    have hp := Option.some.inj hp
    subst hp
    simp (maxSteps := 2000000) (disch := first|omega|(simp only[ls];first|done|omega)) only [hb0, gx]
  · replace hb0 := eq_false_of_ne_true hb0
    rw [if_f hb0] at hp
    by_cases hb1 : (decide (x0.time = x1.time)) = true
    · rw [if_t hb1] at hp
      have hp := Option.some.inj hp
      subst hp
      simp (maxSteps := 2000000) (disch := first|omega|(simp only[ls];first|done|omega)) only [hb0, hb1, gx]
    · replace hb1 := eq_false_of_ne_true hb1
      rw [if_f hb1] at hp
      have hp := Option.some.inj hp
      subst hp
      simp (maxSteps := 2000000) (disch := first|omega|(simp only[ls];first|done|omega)) only [hb0, hb1, gx]

noncomputable def p_spec_l04Char (x0 : Int) : Option Bool :=
  if (decide (0 ≤ x0)) = true then
    if (decide (x0 ≤ 1114111)) = true then
      if (decide (x0 < 55296)) = true then
        some true
      else
        some (decide (57343 < x0))
    else
      some false
  else
    some false
def c_spec_l04Char : AFn := ⟨17, (.seq (.ops [(qS 2 (.mv (.const (.bool false))))]) (.seq (.ops [(qS 3 (.mv (.tmp 0))), (qS 4 (.pu (.n (.ar .geq)) [(.tmp 3), (ic 0)])), (qS 5 (.mv (.tmp 4))), ⟨(.some 6), (.mv (.tmp 0)), (.some (5, true)), []⟩, ⟨(.some 7), (.pu (.n (.ar .leq)) [(.tmp 6), (ic 1114111)]), (.some (5, true)), []⟩, (qS 8 (.pick (.tmp 5) (.tmp 7) (.const (.bool false)))), (qS 9 (.mv (.tmp 8))), ⟨(.some 10), (.mv (.tmp 0)), (.some (9, true)), []⟩, ⟨(.some 11), (.pu (.n (.ar .lss)) [(.tmp 10), (ic 55296)]), (.some (9, true)), []⟩, ⟨(.some 12), (.mv (.tmp 11)), (.some (9, true)), []⟩, ⟨(.some 13), (.mv (.tmp 0)), (.some (12, false)), []⟩, ⟨(.some 14), (.pu (.n (.ar .gtr)) [(.tmp 13), (ic 57343)]), (.some (12, false)), []⟩, ⟨(.some 15), (.pick (.tmp 12) (.const (.bool true)) (.tmp 14)), (.some (9, true)), []⟩, (qS 16 (.pick (.tmp 9) (.tmp 15) (.const (.bool false)))), (qS 2 (.mv (.tmp 16)))]) .ret)), [(.tmp 2)]⟩
set_option maxHeartbeats 10000000 in
theorem d_spec_l04Char {P : Program} {env : Env}  (x0 : Int) {b : Bool} (hp : p_spec_l04Char x0 = some b) : R P env (c_spec_l04Char) ((encA (x0)).map ofI) [] (Tells true b) := by
  refine R_of (by simp [c_spec_l04Char, encA]) ?_
  unfold c_spec_l04Char
  unfold p_spec_l04Char at hp
  by_cases hb0 : (decide (0 ≤ x0)) = true
  · rw [if_t hb0] at hp
    by_cases hb1 : (decide (x0 ≤ 1114111)) = true
    · rw [if_t hb1] at hp
      by_cases hb2 : (decide (x0 < 55296)) = true
      · rw [if_t hb2] at hp
        have hp := Option.some.inj hp
        subst hp
        simp (maxSteps := 2000000) (disch := first|omega|(simp only[ls];first|done|omega)) only [hb0, hb1, hb2, gx]
      · replace hb2 := eq_false_of_ne_true hb2
        rw [if_f hb2] at hp
        have hp := Option.some.inj hp
        subst hp
        simp (maxSteps := 2000000) (disch := first|omega|(simp only[ls];first|done|omega)) only [hb0, hb1, hb2, gx]
    · replace hb1 := eq_false_of_ne_true hb1
      rw [if_f hb1] at hp
      have hp := Option.some.inj hp
      subst hp
      simp (maxSteps := 2000000) (disch := first|omega|(simp only[ls];first|done|omega)) only [hb0, hb1, gx]
  · replace hb0 := eq_false_of_ne_true hb0
    rw [if_f hb0] at hp
    have hp := Option.some.inj hp
    subst hp
    simp (maxSteps := 2000000) (disch := first|omega|(simp only[ls];first|done|omega)) only [hb0, gx]

noncomputable def p_spec_l08OpOK (x0 : TOp) : Option Bool :=
  (p_spec_l08Stamp x0).bind fun v0 =>
  (p_spec_StampOK v0).bind fun v1 =>
  if (v1) = true then
    if (decide (x0.seq < 1)) = true then
      some false
    else
      if (decide (1000000000000 < x0.seq)) = true then
        some false
      else
        (p_spec_VecOK x0.deps).bind fun v5 =>
        if (v5) = true then
          (get? x0.deps.counts x0.actor).bind fun v7 =>
          if (decide (v7 = w64 (x0.seq - 1))) = true then
            if (decide (x0.obj < 1)) = true then
              some false
            else
              if (decide (100 < x0.obj)) = true then
                some false
              else
                if (decide (x0.n < (-1000000000000))) = true then
                  some false
                else
                  if (decide (1000000000000 < x0.n)) = true then
                    some false
                  else
                    if (decide (x0.undo < 0)) = true then
                      some false
                    else
                      if (decide (x0.seq ≤ x0.undo)) = true then
                        some false
                      else
                        if (decide (200 < (x0.key.size : Int))) = true then
                          some false
                        else
                          if (decide (200 < (x0.text.size : Int))) = true then
                            some false
                          else
                            (p_spec_l02None x0.at_).bind fun v17 =>
                            if (v17) = true then
                              if (decide (x0.key = (ByteArray.mk #[]))) = true then
                                if (decide (x0.kind = 1)) = true then
                                  if (decide (x0.n = 0)) = true then
                                    some v17
                                  else
                                    some false
                                else
                                  if (decide (x0.kind = 2)) = true then
                                    if (decide (x0.text = (ByteArray.mk #[]))) = true then
                                      (p_spec_l04Char x0.n).bind fun v24 =>
                                      some v24
                                    else
                                      some false
                                  else
                                    if (decide (x0.kind = 3)) = true then
                                      if (decide (x0.text = (ByteArray.mk #[]))) = true then
                                        if (decide (x0.n = 0)) = true then
                                          some (!v17)
                                        else
                                          some false
                                      else
                                        some false
                                    else
                                      if (decide (x0.kind = 4)) = true then
                                        if (decide (x0.text = (ByteArray.mk #[]))) = true then
                                          some v17
                                        else
                                          some false
                                      else
                                        some false
                              else
                                if (decide (x0.kind = 1)) = true then
                                  if (decide (x0.n = 0)) = true then
                                    some v17
                                  else
                                    some false
                                else
                                  if (decide (x0.kind = 2)) = true then
                                    some false
                                  else
                                    if (decide (x0.kind = 3)) = true then
                                      some false
                                    else
                                      if (decide (x0.kind = 4)) = true then
                                        some false
                                      else
                                        some false
                            else
                              (p_spec_StampOK x0.at_).bind fun v35 =>
                              if (v35) = true then
                                (p_spec_StampLess x0.at_ v0).bind fun v37 =>
                                if (v37) = true then
                                  if (decide (x0.key = (ByteArray.mk #[]))) = true then
                                    if (decide (x0.kind = 1)) = true then
                                      if (decide (x0.n = 0)) = true then
                                        some v17
                                      else
                                        some false
                                    else
                                      if (decide (x0.kind = 2)) = true then
                                        if (decide (x0.text = (ByteArray.mk #[]))) = true then
                                          (p_spec_l04Char x0.n).bind fun v44 =>
                                          some v44
                                        else
                                          some false
                                      else
                                        if (decide (x0.kind = 3)) = true then
                                          if (decide (x0.text = (ByteArray.mk #[]))) = true then
                                            if (decide (x0.n = 0)) = true then
                                              some (!v17)
                                            else
                                              some false
                                          else
                                            some false
                                        else
                                          if (decide (x0.kind = 4)) = true then
                                            if (decide (x0.text = (ByteArray.mk #[]))) = true then
                                              some v17
                                            else
                                              some false
                                          else
                                            some false
                                  else
                                    if (decide (x0.kind = 1)) = true then
                                      if (decide (x0.n = 0)) = true then
                                        some v17
                                      else
                                        some false
                                    else
                                      if (decide (x0.kind = 2)) = true then
                                        some false
                                      else
                                        if (decide (x0.kind = 3)) = true then
                                          some false
                                        else
                                          if (decide (x0.kind = 4)) = true then
                                            some false
                                          else
                                            some false
                                else
                                  some false
                              else
                                some false
          else
            some false
        else
          some false
  else
    some false
def c_spec_l08OpOK (f_spec_l08Stamp : Nat) (f_spec_StampOK : Nat) (f_spec_VecOK : Nat) (f_spec_l02None : Nat) (f_spec_StampLess : Nat) (f_spec_l04Char : Nat) : AFn := ⟨150, (.seq (.ops [(qS 1 (.box (.tmp 0))), (qS 2 (.mv (.const (.bool false))))]) (.seq (.ops [(qS 5 (.load 12 true (.tmp 1))), (qS 6 (.call (2 * f_spec_l08Stamp) [(.tmp 5)])), (qS 3 (.allocV [(0, false), (0, false)] [(.int .i64 0), (.int .i64 0)])), ⟨.none, (.storeV [(0, false), (0, false)] 2 (.tmp 3) (.tmp 6)), .none, []⟩]) (.seq (.seq (.ops [(qS 7 (.load 2 true (.tmp 3))), (qS 8 (.call (2 * f_spec_StampOK) [(.tmp 7)])), (qS 9 (.pu (.n (.un .not)) [(.tmp 8)])), (qS 10 (.mv (.tmp 9))), ⟨(.some 11), (.fieldA 1 (.tmp 1)), (.some (10, false)), []⟩, ⟨(.some 12), (.load 1 false (.tmp 11)), (.some (10, false)), []⟩, ⟨(.some 13), (.pu (.n (.ar .lss)) [(.tmp 12), (ic 1)]), (.some (10, false)), []⟩, (qS 14 (.pick (.tmp 10) (.const (.bool true)) (.tmp 13))), (qS 15 (.mv (.tmp 14))), ⟨(.some 16), (.fieldA 1 (.tmp 1)), (.some (15, false)), []⟩, ⟨(.some 17), (.load 1 false (.tmp 16)), (.some (15, false)), []⟩, ⟨(.some 18), (.pu (.n (.ar .gtr)) [(.tmp 17), (ic 1000000000000)]), (.some (15, false)), []⟩, (qS 19 (.pick (.tmp 15) (.const (.bool true)) (.tmp 18))), (qS 20 (.mv (.tmp 19))), ⟨(.some 21), (.fieldA 3 (.tmp 1)), (.some (20, false)), []⟩, ⟨(.some 22), (.load 1 true (.tmp 21)), (.some (20, false)), []⟩, ⟨(.some 23), (.call (2 * f_spec_VecOK) [(.tmp 22)]), (.some (20, false)), []⟩, ⟨(.some 24), (.pu (.n (.un .not)) [(.tmp 23)]), (.some (20, false)), []⟩, (qS 25 (.pick (.tmp 20) (.const (.bool true)) (.tmp 24))), (qS 26 (.mv (.tmp 25))), ⟨(.some 27), (.fieldA 3 (.tmp 1)), (.some (26, false)), []⟩, ⟨(.some 28), (.fieldA 0 (.tmp 27)), (.some (26, false)), []⟩, ⟨(.some 29), (.load 1 false (.tmp 28)), (.some (26, false)), []⟩, ⟨(.some 30), (.fieldA 0 (.tmp 1)), (.some (26, false)), []⟩, ⟨(.some 31), (.load 1 false (.tmp 30)), (.some (26, false)), []⟩, ⟨(.some 32), (.idxS 1 (.tmp 29) (.tmp 31)), (.some (26, false)), []⟩, ⟨(.some 33), (.load 1 false (.tmp 32)), (.some (26, false)), []⟩, ⟨(.some 34), (.fieldA 1 (.tmp 1)), (.some (26, false)), []⟩, ⟨(.some 35), (.load 1 false (.tmp 34)), (.some (26, false)), []⟩, ⟨(.some 36), (.pu (.n (.ar .sub)) [(.tmp 35), (ic 1)]), (.some (26, false)), []⟩, ⟨(.some 37), (.pu (.n (.ar .neq)) [(.tmp 33), (.tmp 36)]), (.some (26, false)), []⟩, (qS 38 (.pick (.tmp 26) (.const (.bool true)) (.tmp 37))), (qS 39 (.mv (.tmp 38))), ⟨(.some 40), (.fieldA 5 (.tmp 1)), (.some (39, false)), []⟩, ⟨(.some 41), (.load 1 false (.tmp 40)), (.some (39, false)), []⟩, ⟨(.some 42), (.pu (.n (.ar .lss)) [(.tmp 41), (ic 1)]), (.some (39, false)), []⟩, (qS 43 (.pick (.tmp 39) (.const (.bool true)) (.tmp 42))), (qS 44 (.mv (.tmp 43))), ⟨(.some 45), (.fieldA 5 (.tmp 1)), (.some (44, false)), []⟩, ⟨(.some 46), (.load 1 false (.tmp 45)), (.some (44, false)), []⟩, ⟨(.some 47), (.pu (.n (.ar .gtr)) [(.tmp 46), (ic 100)]), (.some (44, false)), []⟩, (qS 48 (.pick (.tmp 44) (.const (.bool true)) (.tmp 47))), (qS 49 (.mv (.tmp 48))), ⟨(.some 50), (.fieldA 6 (.tmp 1)), (.some (49, false)), []⟩, ⟨(.some 51), (.load 1 false (.tmp 50)), (.some (49, false)), []⟩, ⟨(.some 52), (.pu (.n (.ar .lss)) [(.tmp 51), (ic (-1000000000000))]), (.some (49, false)), []⟩, (qS 53 (.pick (.tmp 49) (.const (.bool true)) (.tmp 52))), (qS 54 (.mv (.tmp 53))), ⟨(.some 55), (.fieldA 6 (.tmp 1)), (.some (54, false)), []⟩, ⟨(.some 56), (.load 1 false (.tmp 55)), (.some (54, false)), []⟩, ⟨(.some 57), (.pu (.n (.ar .gtr)) [(.tmp 56), (ic 1000000000000)]), (.some (54, false)), []⟩, (qS 58 (.pick (.tmp 54) (.const (.bool true)) (.tmp 57))), (qS 59 (.mv (.tmp 58))), ⟨(.some 60), (.fieldA 7 (.tmp 1)), (.some (59, false)), []⟩, ⟨(.some 61), (.load 1 false (.tmp 60)), (.some (59, false)), []⟩, ⟨(.some 62), (.pu (.n (.ar .lss)) [(.tmp 61), (ic 0)]), (.some (59, false)), []⟩, (qS 63 (.pick (.tmp 59) (.const (.bool true)) (.tmp 62))), (qS 64 (.mv (.tmp 63))), ⟨(.some 65), (.fieldA 7 (.tmp 1)), (.some (64, false)), []⟩, ⟨(.some 66), (.load 1 false (.tmp 65)), (.some (64, false)), []⟩, ⟨(.some 67), (.fieldA 1 (.tmp 1)), (.some (64, false)), []⟩, ⟨(.some 68), (.load 1 false (.tmp 67)), (.some (64, false)), []⟩, ⟨(.some 69), (.pu (.n (.ar .geq)) [(.tmp 66), (.tmp 68)]), (.some (64, false)), []⟩, (qS 70 (.pick (.tmp 64) (.const (.bool true)) (.tmp 69))), (qS 71 (.mv (.tmp 70))), ⟨(.some 72), (.fieldA 10 (.tmp 1)), (.some (71, false)), []⟩, ⟨(.some 73), (.load 1 false (.tmp 72)), (.some (71, false)), []⟩, ⟨(.some 74), (.pu (.n .len) [(.tmp 73)]), (.some (71, false)), []⟩, ⟨(.some 75), (.pu (.n (.ar .gtr)) [(.tmp 74), (ic 200)]), (.some (71, false)), []⟩, (qS 76 (.pick (.tmp 71) (.const (.bool true)) (.tmp 75))), (qS 77 (.mv (.tmp 76))), ⟨(.some 78), (.fieldA 11 (.tmp 1)), (.some (77, false)), []⟩, ⟨(.some 79), (.load 1 false (.tmp 78)), (.some (77, false)), []⟩, ⟨(.some 80), (.pu (.n .len) [(.tmp 79)]), (.some (77, false)), []⟩, ⟨(.some 81), (.pu (.n (.ar .gtr)) [(.tmp 80), (ic 200)]), (.some (77, false)), []⟩, (qS 82 (.pick (.tmp 77) (.const (.bool true)) (.tmp 81)))]) (.cond (.tmp 82) (.seq (.ops [(qS 2 (.mv (.const (.bool false))))]) .ret) .skip)) (.seq (.seq (.ops [(qS 83 (.fieldA 8 (.tmp 1))), (qS 84 (.load 2 true (.tmp 83))), (qS 85 (.call (2 * f_spec_l02None) [(.tmp 84)])), (qS 86 (.pu (.n (.un .not)) [(.tmp 85)])), (qS 87 (.mv (.tmp 86))), ⟨(.some 88), (.fieldA 8 (.tmp 1)), (.some (87, true)), []⟩, ⟨(.some 89), (.load 2 true (.tmp 88)), (.some (87, true)), []⟩, ⟨(.some 90), (.call (2 * f_spec_StampOK) [(.tmp 89)]), (.some (87, true)), []⟩, ⟨(.some 91), (.pu (.n (.un .not)) [(.tmp 90)]), (.some (87, true)), []⟩, ⟨(.some 92), (.mv (.tmp 91)), (.some (87, true)), []⟩, ⟨(.some 93), (.fieldA 8 (.tmp 1)), (.some (92, false)), []⟩, ⟨(.some 94), (.load 2 true (.tmp 93)), (.some (92, false)), []⟩, ⟨(.some 95), (.load 2 true (.tmp 3)), (.some (92, false)), []⟩, ⟨(.some 96), (.call (2 * f_spec_StampLess) [(.tmp 94), (.tmp 95)]), (.some (92, false)), []⟩, ⟨(.some 97), (.pu (.n (.un .not)) [(.tmp 96)]), (.some (92, false)), []⟩, ⟨(.some 98), (.pick (.tmp 92) (.const (.bool true)) (.tmp 97)), (.some (87, true)), []⟩, (qS 99 (.pick (.tmp 87) (.tmp 98) (.const (.bool false))))]) (.cond (.tmp 99) (.seq (.ops [(qS 2 (.mv (.const (.bool false))))]) .ret) .skip)) (.seq (.ops [(qS 100 (.fieldA 10 (.tmp 1))), (qS 101 (.load 1 false (.tmp 100))), (qS 102 (.pu (.n (.ar .eql)) [(.tmp 101), (.const (.string ⟨#[]⟩))])), (qS 103 (.mv (.tmp 102))), ⟨(.some 104), (.fieldA 11 (.tmp 1)), (.some (103, true)), []⟩, ⟨(.some 105), (.load 1 false (.tmp 104)), (.some (103, true)), []⟩, ⟨(.some 106), (.pu (.n (.ar .eql)) [(.tmp 105), (.const (.string ⟨#[]⟩))]), (.some (103, true)), []⟩, (qS 107 (.pick (.tmp 103) (.tmp 106) (.const (.bool false)))), (qS 4 (.mv (.tmp 107)))]) (.seq (.seq (.ops [(qS 108 (.fieldA 4 (.tmp 1))), (qS 109 (.load 1 false (.tmp 108)))]) (.block 0 (.seq (.ops [(qS 111 (.pu (.n (.ar .eql)) [(.tmp 109), (ic 1)])), (qS 110 (.mv (.tmp 111)))]) (.cond (.tmp 110) (.seq (.ops [(qS 112 (.fieldA 6 (.tmp 1))), (qS 113 (.load 1 false (.tmp 112))), (qS 114 (.pu (.n (.ar .eql)) [(.tmp 113), (ic 0)])), (qS 115 (.mv (.tmp 114))), ⟨(.some 116), (.fieldA 8 (.tmp 1)), (.some (115, true)), []⟩, ⟨(.some 117), (.load 2 true (.tmp 116)), (.some (115, true)), []⟩, ⟨(.some 118), (.call (2 * f_spec_l02None) [(.tmp 117)]), (.some (115, true)), []⟩, (qS 119 (.pick (.tmp 115) (.tmp 118) (.const (.bool false)))), (qS 2 (.mv (.tmp 119)))]) .ret) (.seq (.ops [(qS 121 (.pu (.n (.ar .eql)) [(.tmp 109), (ic 2)])), (qS 120 (.mv (.tmp 121)))]) (.cond (.tmp 120) (.seq (.ops [(qS 122 (.mv (.tmp 4))), (qS 123 (.mv (.tmp 122))), ⟨(.some 124), (.fieldA 6 (.tmp 1)), (.some (123, true)), []⟩, ⟨(.some 125), (.load 1 false (.tmp 124)), (.some (123, true)), []⟩, ⟨(.some 126), (.call (2 * f_spec_l04Char) [(.tmp 125)]), (.some (123, true)), []⟩, (qS 127 (.pick (.tmp 123) (.tmp 126) (.const (.bool false)))), (qS 2 (.mv (.tmp 127)))]) .ret) (.seq (.ops [(qS 129 (.pu (.n (.ar .eql)) [(.tmp 109), (ic 3)])), (qS 128 (.mv (.tmp 129)))]) (.cond (.tmp 128) (.seq (.ops [(qS 130 (.mv (.tmp 4))), (qS 131 (.mv (.tmp 130))), ⟨(.some 132), (.fieldA 6 (.tmp 1)), (.some (131, true)), []⟩, ⟨(.some 133), (.load 1 false (.tmp 132)), (.some (131, true)), []⟩, ⟨(.some 134), (.pu (.n (.ar .eql)) [(.tmp 133), (ic 0)]), (.some (131, true)), []⟩, (qS 135 (.pick (.tmp 131) (.tmp 134) (.const (.bool false)))), (qS 136 (.mv (.tmp 135))), ⟨(.some 137), (.fieldA 8 (.tmp 1)), (.some (136, true)), []⟩, ⟨(.some 138), (.load 2 true (.tmp 137)), (.some (136, true)), []⟩, ⟨(.some 139), (.call (2 * f_spec_l02None) [(.tmp 138)]), (.some (136, true)), []⟩, ⟨(.some 140), (.pu (.n (.un .not)) [(.tmp 139)]), (.some (136, true)), []⟩, (qS 141 (.pick (.tmp 136) (.tmp 140) (.const (.bool false)))), (qS 2 (.mv (.tmp 141)))]) .ret) (.seq (.ops [(qS 143 (.pu (.n (.ar .eql)) [(.tmp 109), (ic 4)])), (qS 142 (.mv (.tmp 143)))]) (.cond (.tmp 142) (.seq (.ops [(qS 144 (.mv (.tmp 4))), (qS 145 (.mv (.tmp 144))), ⟨(.some 146), (.fieldA 8 (.tmp 1)), (.some (145, true)), []⟩, ⟨(.some 147), (.load 2 true (.tmp 146)), (.some (145, true)), []⟩, ⟨(.some 148), (.call (2 * f_spec_l02None) [(.tmp 147)]), (.some (145, true)), []⟩, (qS 149 (.pick (.tmp 145) (.tmp 148) (.const (.bool false)))), (qS 2 (.mv (.tmp 149)))]) .ret) .skip)))))))))) (.seq (.ops [(qS 2 (.mv (.const (.bool false))))]) .ret))))))), [(.tmp 2)]⟩
set_option maxHeartbeats 10000000 in
theorem d_spec_l08OpOK {P : Program} {env : Env} {f_spec_l08Stamp : Nat} {f_spec_StampOK : Nat} {f_spec_VecOK : Nat} {f_spec_l02None : Nat} {f_spec_StampLess : Nat} {f_spec_l04Char : Nat}  (ep_spec_l08Stamp : env (2 * f_spec_l08Stamp) = pureFn true (FA fun a : TOp => p_spec_l08Stamp a)) (ep_spec_StampOK : env (2 * f_spec_StampOK) = pureFn true (FA fun a : TStamp => p_spec_StampOK a)) (ep_spec_VecOK : env (2 * f_spec_VecOK) = pureFn true (FA fun a : TVec => p_spec_VecOK a)) (ep_spec_l02None : env (2 * f_spec_l02None) = pureFn true (FA fun a : TStamp => p_spec_l02None a)) (ep_spec_l04Char : env (2 * f_spec_l04Char) = pureFn true (FA fun a : Int => p_spec_l04Char a)) (ep_spec_StampLess : env (2 * f_spec_StampLess) = pureFn true (FA fun a : TStamp × TStamp => p_spec_StampLess a.1 a.2)) (x0 : TOp) {b : Bool} (hp : p_spec_l08OpOK x0 = some b) : R P env (c_spec_l08OpOK f_spec_l08Stamp f_spec_StampOK f_spec_VecOK f_spec_l02None f_spec_StampLess f_spec_l04Char) ((encA (x0)).map ofI) [] (Tells true b) := by
  refine R_of (by simp [c_spec_l08OpOK, encA]) ?_
  have E := And.intro opc (And.intro ep_spec_l08Stamp (And.intro ep_spec_StampOK (And.intro ep_spec_VecOK (And.intro ep_spec_l02None (And.intro ep_spec_l04Char ep_spec_StampLess)))))
  unfold c_spec_l08OpOK
  unfold p_spec_l08OpOK at hp
  obtain ⟨v0, hv0, hp⟩ := bind_eq hp
  obtain ⟨v1, hv1, hp⟩ := bind_eq hp
  by_cases hb2 : (v1) = true
  · rw [if_t hb2] at hp
    by_cases hb3 : (decide (x0.seq < 1)) = true
    · rw [if_t hb3] at hp
      have hp := Option.some.inj hp
      subst hp
      simp (maxSteps := 2000000) (disch := first|omega|(simp only[ls];first|done|omega)) only [E, hv0, hv1, hb2, hb3, gx]
    · replace hb3 := eq_false_of_ne_true hb3
      rw [if_f hb3] at hp
      by_cases hb4 : (decide (1000000000000 < x0.seq)) = true
      · rw [if_t hb4] at hp
        have hp := Option.some.inj hp
        subst hp
        simp (maxSteps := 2000000) (disch := first|omega|(simp only[ls];first|done|omega)) only [E, hv0, hv1, hb2, hb3, hb4, gx]
      · replace hb4 := eq_false_of_ne_true hb4
        rw [if_f hb4] at hp
        obtain ⟨v5, hv5, hp⟩ := bind_eq hp
        by_cases hb6 : (v5) = true
        · rw [if_t hb6] at hp
          obtain ⟨v7, hv7, hp⟩ := bind_eq hp
          by_cases hb8 : (decide (v7 = w64 (x0.seq - 1))) = true
          · rw [if_t hb8] at hp
            by_cases hb9 : (decide (x0.obj < 1)) = true
            · rw [if_t hb9] at hp
              have hp := Option.some.inj hp
              subst hp
              simp (maxSteps := 2000000) (disch := first|omega|(simp only[ls];first|done|omega)) only [E, hv0, hv1, hb2, hb3, hb4, hv5, hb6, hv7, hb8, hb9, gx]
            · replace hb9 := eq_false_of_ne_true hb9
              rw [if_f hb9] at hp
              by_cases hb10 : (decide (100 < x0.obj)) = true
              · rw [if_t hb10] at hp
                have hp := Option.some.inj hp
                subst hp
                simp (maxSteps := 2000000) (disch := first|omega|(simp only[ls];first|done|omega)) only [E, hv0, hv1, hb2, hb3, hb4, hv5, hb6, hv7, hb8, hb9, hb10, gx]
              · replace hb10 := eq_false_of_ne_true hb10
                rw [if_f hb10] at hp
                by_cases hb11 : (decide (x0.n < (-1000000000000))) = true
                · rw [if_t hb11] at hp
                  have hp := Option.some.inj hp
                  subst hp
                  simp (maxSteps := 2000000) (disch := first|omega|(simp only[ls];first|done|omega)) only [E, hv0, hv1, hb2, hb3, hb4, hv5, hb6, hv7, hb8, hb9, hb10, hb11, gx]
                · replace hb11 := eq_false_of_ne_true hb11
                  rw [if_f hb11] at hp
                  by_cases hb12 : (decide (1000000000000 < x0.n)) = true
                  · rw [if_t hb12] at hp
                    have hp := Option.some.inj hp
                    subst hp
                    simp (maxSteps := 2000000) (disch := first|omega|(simp only[ls];first|done|omega)) only [E, hv0, hv1, hb2, hb3, hb4, hv5, hb6, hv7, hb8, hb9, hb10, hb11, hb12, gx]
                  · replace hb12 := eq_false_of_ne_true hb12
                    rw [if_f hb12] at hp
                    by_cases hb13 : (decide (x0.undo < 0)) = true
                    · rw [if_t hb13] at hp
                      have hp := Option.some.inj hp
                      subst hp
                      simp (maxSteps := 2000000) (disch := first|omega|(simp only[ls];first|done|omega)) only [E, hv0, hv1, hb2, hb3, hb4, hv5, hb6, hv7, hb8, hb9, hb10, hb11, hb12, hb13, gx]
                    · replace hb13 := eq_false_of_ne_true hb13
                      rw [if_f hb13] at hp
                      by_cases hb14 : (decide (x0.seq ≤ x0.undo)) = true
                      · rw [if_t hb14] at hp
                        have hp := Option.some.inj hp
                        subst hp
                        simp (maxSteps := 2000000) (disch := first|omega|(simp only[ls];first|done|omega)) only [E, hv0, hv1, hb2, hb3, hb4, hv5, hb6, hv7, hb8, hb9, hb10, hb11, hb12, hb13, hb14, gx]
                      · replace hb14 := eq_false_of_ne_true hb14
                        rw [if_f hb14] at hp
                        by_cases hb15 : (decide (200 < (x0.key.size : Int))) = true
                        · rw [if_t hb15] at hp
                          have hp := Option.some.inj hp
                          subst hp
                          simp (maxSteps := 2000000) (disch := first|omega|(simp only[ls];first|done|omega)) only [E, hv0, hv1, hb2, hb3, hb4, hv5, hb6, hv7, hb8, hb9, hb10, hb11, hb12, hb13, hb14, hb15, gx]
                        · replace hb15 := eq_false_of_ne_true hb15
                          rw [if_f hb15] at hp
                          by_cases hb16 : (decide (200 < (x0.text.size : Int))) = true
                          · rw [if_t hb16] at hp
                            have hp := Option.some.inj hp
                            subst hp
                            simp (maxSteps := 2000000) (disch := first|omega|(simp only[ls];first|done|omega)) only [E, hv0, hv1, hb2, hb3, hb4, hv5, hb6, hv7, hb8, hb9, hb10, hb11, hb12, hb13, hb14, hb15, hb16, gx]
                          · replace hb16 := eq_false_of_ne_true hb16
                            rw [if_f hb16] at hp
                            obtain ⟨v17, hv17, hp⟩ := bind_eq hp
                            by_cases hb18 : (v17) = true
                            · rw [if_t hb18] at hp
                              by_cases hb19 : (decide (x0.key = (ByteArray.mk #[]))) = true
                              · rw [if_t hb19] at hp
                                by_cases hb20 : (decide (x0.kind = 1)) = true
                                · rw [if_t hb20] at hp
                                  by_cases hb21 : (decide (x0.n = 0)) = true
                                  · rw [if_t hb21] at hp
                                    have hp := Option.some.inj hp
                                    subst hp
                                    simp (maxSteps := 2000000) (disch := first|omega|(simp only[ls];first|done|omega)) only [E, hv0, hv1, hb2, hb3, hb4, hv5, hb6, hv7, hb8, hb9, hb10, hb11, hb12, hb13, hb14, hb15, hb16, hv17, hb18, hb19, hb20, hb21, gx]
                                  · replace hb21 := eq_false_of_ne_true hb21
                                    rw [if_f hb21] at hp
                                    have hp := Option.some.inj hp
                                    subst hp
                                    simp (maxSteps := 2000000) (disch := first|omega|(simp only[ls];first|done|omega)) only [E, hv0, hv1, hb2, hb3, hb4, hv5, hb6, hv7, hb8, hb9, hb10, hb11, hb12, hb13, hb14, hb15, hb16, hv17, hb18, hb19, hb20, hb21, gx]
                                · replace hb20 := eq_false_of_ne_true hb20
                                  rw [if_f hb20] at hp
                                  by_cases hb22 : (decide (x0.kind = 2)) = true
                                  · rw [if_t hb22] at hp
                                    by_cases hb23 : (decide (x0.text = (ByteArray.mk #[]))) = true
                                    · rw [if_t hb23] at hp
                                      obtain ⟨v24, hv24, hp⟩ := bind_eq hp
                                      have hp := Option.some.inj hp
                                      subst hp
                                      simp (maxSteps := 2000000) (disch := first|omega|(simp only[ls];first|done|omega)) only [E, hv0, hv1, hb2, hb3, hb4, hv5, hb6, hv7, hb8, hb9, hb10, hb11, hb12, hb13, hb14, hb15, hb16, hv17, hb18, hb19, hb20, hb22, hb23, hv24, gx]
                                    · replace hb23 := eq_false_of_ne_true hb23
                                      rw [if_f hb23] at hp
                                      have hp := Option.some.inj hp
                                      subst hp
                                      simp (maxSteps := 2000000) (disch := first|omega|(simp only[ls];first|done|omega)) only [E, hv0, hv1, hb2, hb3, hb4, hv5, hb6, hv7, hb8, hb9, hb10, hb11, hb12, hb13, hb14, hb15, hb16, hv17, hb18, hb19, hb20, hb22, hb23, gx]
                                  · replace hb22 := eq_false_of_ne_true hb22
                                    rw [if_f hb22] at hp
                                    by_cases hb25 : (decide (x0.kind = 3)) = true
                                    · rw [if_t hb25] at hp
                                      by_cases hb26 : (decide (x0.text = (ByteArray.mk #[]))) = true
                                      · rw [if_t hb26] at hp
                                        by_cases hb27 : (decide (x0.n = 0)) = true
                                        · rw [if_t hb27] at hp
                                          have hp := Option.some.inj hp
                                          subst hp
                                          simp (maxSteps := 2000000) (disch := first|omega|(simp only[ls];first|done|omega)) only [E, hv0, hv1, hb2, hb3, hb4, hv5, hb6, hv7, hb8, hb9, hb10, hb11, hb12, hb13, hb14, hb15, hb16, hv17, hb18, hb19, hb20, hb22, hb25, hb26, hb27, gx]
                                        · replace hb27 := eq_false_of_ne_true hb27
                                          rw [if_f hb27] at hp
                                          have hp := Option.some.inj hp
                                          subst hp
                                          simp (maxSteps := 2000000) (disch := first|omega|(simp only[ls];first|done|omega)) only [E, hv0, hv1, hb2, hb3, hb4, hv5, hb6, hv7, hb8, hb9, hb10, hb11, hb12, hb13, hb14, hb15, hb16, hv17, hb18, hb19, hb20, hb22, hb25, hb26, hb27, gx]
                                      · replace hb26 := eq_false_of_ne_true hb26
                                        rw [if_f hb26] at hp
                                        have hp := Option.some.inj hp
                                        subst hp
                                        simp (maxSteps := 2000000) (disch := first|omega|(simp only[ls];first|done|omega)) only [E, hv0, hv1, hb2, hb3, hb4, hv5, hb6, hv7, hb8, hb9, hb10, hb11, hb12, hb13, hb14, hb15, hb16, hv17, hb18, hb19, hb20, hb22, hb25, hb26, gx]
                                    · replace hb25 := eq_false_of_ne_true hb25
                                      rw [if_f hb25] at hp
                                      by_cases hb28 : (decide (x0.kind = 4)) = true
                                      · rw [if_t hb28] at hp
                                        by_cases hb29 : (decide (x0.text = (ByteArray.mk #[]))) = true
                                        · rw [if_t hb29] at hp
                                          have hp := Option.some.inj hp
                                          subst hp
                                          simp (maxSteps := 2000000) (disch := first|omega|(simp only[ls];first|done|omega)) only [E, hv0, hv1, hb2, hb3, hb4, hv5, hb6, hv7, hb8, hb9, hb10, hb11, hb12, hb13, hb14, hb15, hb16, hv17, hb18, hb19, hb20, hb22, hb25, hb28, hb29, gx]
                                        · replace hb29 := eq_false_of_ne_true hb29
                                          rw [if_f hb29] at hp
                                          have hp := Option.some.inj hp
                                          subst hp
                                          simp (maxSteps := 2000000) (disch := first|omega|(simp only[ls];first|done|omega)) only [E, hv0, hv1, hb2, hb3, hb4, hv5, hb6, hv7, hb8, hb9, hb10, hb11, hb12, hb13, hb14, hb15, hb16, hv17, hb18, hb19, hb20, hb22, hb25, hb28, hb29, gx]
                                      · replace hb28 := eq_false_of_ne_true hb28
                                        rw [if_f hb28] at hp
                                        have hp := Option.some.inj hp
                                        subst hp
                                        simp (maxSteps := 2000000) (disch := first|omega|(simp only[ls];first|done|omega)) only [E, hv0, hv1, hb2, hb3, hb4, hv5, hb6, hv7, hb8, hb9, hb10, hb11, hb12, hb13, hb14, hb15, hb16, hv17, hb18, hb19, hb20, hb22, hb25, hb28, gx]
                              · replace hb19 := eq_false_of_ne_true hb19
                                rw [if_f hb19] at hp
                                by_cases hb30 : (decide (x0.kind = 1)) = true
                                · rw [if_t hb30] at hp
                                  by_cases hb31 : (decide (x0.n = 0)) = true
                                  · rw [if_t hb31] at hp
                                    have hp := Option.some.inj hp
                                    subst hp
                                    simp (maxSteps := 2000000) (disch := first|omega|(simp only[ls];first|done|omega)) only [E, hv0, hv1, hb2, hb3, hb4, hv5, hb6, hv7, hb8, hb9, hb10, hb11, hb12, hb13, hb14, hb15, hb16, hv17, hb18, hb19, hb30, hb31, gx]
                                  · replace hb31 := eq_false_of_ne_true hb31
                                    rw [if_f hb31] at hp
                                    have hp := Option.some.inj hp
                                    subst hp
                                    simp (maxSteps := 2000000) (disch := first|omega|(simp only[ls];first|done|omega)) only [E, hv0, hv1, hb2, hb3, hb4, hv5, hb6, hv7, hb8, hb9, hb10, hb11, hb12, hb13, hb14, hb15, hb16, hv17, hb18, hb19, hb30, hb31, gx]
                                · replace hb30 := eq_false_of_ne_true hb30
                                  rw [if_f hb30] at hp
                                  by_cases hb32 : (decide (x0.kind = 2)) = true
                                  · rw [if_t hb32] at hp
                                    have hp := Option.some.inj hp
                                    subst hp
                                    simp (maxSteps := 2000000) (disch := first|omega|(simp only[ls];first|done|omega)) only [E, hv0, hv1, hb2, hb3, hb4, hv5, hb6, hv7, hb8, hb9, hb10, hb11, hb12, hb13, hb14, hb15, hb16, hv17, hb18, hb19, hb30, hb32, gx]
                                  · replace hb32 := eq_false_of_ne_true hb32
                                    rw [if_f hb32] at hp
                                    by_cases hb33 : (decide (x0.kind = 3)) = true
                                    · rw [if_t hb33] at hp
                                      have hp := Option.some.inj hp
                                      subst hp
                                      simp (maxSteps := 2000000) (disch := first|omega|(simp only[ls];first|done|omega)) only [E, hv0, hv1, hb2, hb3, hb4, hv5, hb6, hv7, hb8, hb9, hb10, hb11, hb12, hb13, hb14, hb15, hb16, hv17, hb18, hb19, hb30, hb32, hb33, gx]
                                    · replace hb33 := eq_false_of_ne_true hb33
                                      rw [if_f hb33] at hp
                                      by_cases hb34 : (decide (x0.kind = 4)) = true
                                      · rw [if_t hb34] at hp
                                        have hp := Option.some.inj hp
                                        subst hp
                                        simp (maxSteps := 2000000) (disch := first|omega|(simp only[ls];first|done|omega)) only [E, hv0, hv1, hb2, hb3, hb4, hv5, hb6, hv7, hb8, hb9, hb10, hb11, hb12, hb13, hb14, hb15, hb16, hv17, hb18, hb19, hb30, hb32, hb33, hb34, gx]
                                      · replace hb34 := eq_false_of_ne_true hb34
                                        rw [if_f hb34] at hp
                                        have hp := Option.some.inj hp
                                        subst hp
                                        simp (maxSteps := 2000000) (disch := first|omega|(simp only[ls];first|done|omega)) only [E, hv0, hv1, hb2, hb3, hb4, hv5, hb6, hv7, hb8, hb9, hb10, hb11, hb12, hb13, hb14, hb15, hb16, hv17, hb18, hb19, hb30, hb32, hb33, hb34, gx]
                            · replace hb18 := eq_false_of_ne_true hb18
                              rw [if_f hb18] at hp
                              obtain ⟨v35, hv35, hp⟩ := bind_eq hp
                              by_cases hb36 : (v35) = true
                              · rw [if_t hb36] at hp
                                obtain ⟨v37, hv37, hp⟩ := bind_eq hp
                                by_cases hb38 : (v37) = true
                                · rw [if_t hb38] at hp
                                  by_cases hb39 : (decide (x0.key = (ByteArray.mk #[]))) = true
                                  · rw [if_t hb39] at hp
                                    by_cases hb40 : (decide (x0.kind = 1)) = true
                                    · rw [if_t hb40] at hp
                                      by_cases hb41 : (decide (x0.n = 0)) = true
                                      · rw [if_t hb41] at hp
                                        have hp := Option.some.inj hp
                                        subst hp
                                        simp (maxSteps := 2000000) (disch := first|omega|(simp only[ls];first|done|omega)) only [E, hv0, hv1, hb2, hb3, hb4, hv5, hb6, hv7, hb8, hb9, hb10, hb11, hb12, hb13, hb14, hb15, hb16, hv17, hb18, hv35, hb36, hv37, hb38, hb39, hb40, hb41, gx]
                                      · replace hb41 := eq_false_of_ne_true hb41
                                        rw [if_f hb41] at hp
                                        have hp := Option.some.inj hp
                                        subst hp
                                        simp (maxSteps := 2000000) (disch := first|omega|(simp only[ls];first|done|omega)) only [E, hv0, hv1, hb2, hb3, hb4, hv5, hb6, hv7, hb8, hb9, hb10, hb11, hb12, hb13, hb14, hb15, hb16, hv17, hb18, hv35, hb36, hv37, hb38, hb39, hb40, hb41, gx]
                                    · replace hb40 := eq_false_of_ne_true hb40
                                      rw [if_f hb40] at hp
                                      by_cases hb42 : (decide (x0.kind = 2)) = true
                                      · rw [if_t hb42] at hp
                                        by_cases hb43 : (decide (x0.text = (ByteArray.mk #[]))) = true
                                        · rw [if_t hb43] at hp
                                          obtain ⟨v44, hv44, hp⟩ := bind_eq hp
                                          have hp := Option.some.inj hp
                                          subst hp
                                          simp (maxSteps := 2000000) (disch := first|omega|(simp only[ls];first|done|omega)) only [E, hv0, hv1, hb2, hb3, hb4, hv5, hb6, hv7, hb8, hb9, hb10, hb11, hb12, hb13, hb14, hb15, hb16, hv17, hb18, hv35, hb36, hv37, hb38, hb39, hb40, hb42, hb43, hv44, gx]
                                        · replace hb43 := eq_false_of_ne_true hb43
                                          rw [if_f hb43] at hp
                                          have hp := Option.some.inj hp
                                          subst hp
                                          simp (maxSteps := 2000000) (disch := first|omega|(simp only[ls];first|done|omega)) only [E, hv0, hv1, hb2, hb3, hb4, hv5, hb6, hv7, hb8, hb9, hb10, hb11, hb12, hb13, hb14, hb15, hb16, hv17, hb18, hv35, hb36, hv37, hb38, hb39, hb40, hb42, hb43, gx]
                                      · replace hb42 := eq_false_of_ne_true hb42
                                        rw [if_f hb42] at hp
                                        by_cases hb45 : (decide (x0.kind = 3)) = true
                                        · rw [if_t hb45] at hp
                                          by_cases hb46 : (decide (x0.text = (ByteArray.mk #[]))) = true
                                          · rw [if_t hb46] at hp
                                            by_cases hb47 : (decide (x0.n = 0)) = true
                                            · rw [if_t hb47] at hp
                                              have hp := Option.some.inj hp
                                              subst hp
                                              simp (maxSteps := 2000000) (disch := first|omega|(simp only[ls];first|done|omega)) only [E, hv0, hv1, hb2, hb3, hb4, hv5, hb6, hv7, hb8, hb9, hb10, hb11, hb12, hb13, hb14, hb15, hb16, hv17, hb18, hv35, hb36, hv37, hb38, hb39, hb40, hb42, hb45, hb46, hb47, gx]
                                            · replace hb47 := eq_false_of_ne_true hb47
                                              rw [if_f hb47] at hp
                                              have hp := Option.some.inj hp
                                              subst hp
                                              simp (maxSteps := 2000000) (disch := first|omega|(simp only[ls];first|done|omega)) only [E, hv0, hv1, hb2, hb3, hb4, hv5, hb6, hv7, hb8, hb9, hb10, hb11, hb12, hb13, hb14, hb15, hb16, hv17, hb18, hv35, hb36, hv37, hb38, hb39, hb40, hb42, hb45, hb46, hb47, gx]
                                          · replace hb46 := eq_false_of_ne_true hb46
                                            rw [if_f hb46] at hp
                                            have hp := Option.some.inj hp
                                            subst hp
                                            simp (maxSteps := 2000000) (disch := first|omega|(simp only[ls];first|done|omega)) only [E, hv0, hv1, hb2, hb3, hb4, hv5, hb6, hv7, hb8, hb9, hb10, hb11, hb12, hb13, hb14, hb15, hb16, hv17, hb18, hv35, hb36, hv37, hb38, hb39, hb40, hb42, hb45, hb46, gx]
                                        · replace hb45 := eq_false_of_ne_true hb45
                                          rw [if_f hb45] at hp
                                          by_cases hb48 : (decide (x0.kind = 4)) = true
                                          · rw [if_t hb48] at hp
                                            by_cases hb49 : (decide (x0.text = (ByteArray.mk #[]))) = true
                                            · rw [if_t hb49] at hp
                                              have hp := Option.some.inj hp
                                              subst hp
                                              simp (maxSteps := 2000000) (disch := first|omega|(simp only[ls];first|done|omega)) only [E, hv0, hv1, hb2, hb3, hb4, hv5, hb6, hv7, hb8, hb9, hb10, hb11, hb12, hb13, hb14, hb15, hb16, hv17, hb18, hv35, hb36, hv37, hb38, hb39, hb40, hb42, hb45, hb48, hb49, gx]
                                            · replace hb49 := eq_false_of_ne_true hb49
                                              rw [if_f hb49] at hp
                                              have hp := Option.some.inj hp
                                              subst hp
                                              simp (maxSteps := 2000000) (disch := first|omega|(simp only[ls];first|done|omega)) only [E, hv0, hv1, hb2, hb3, hb4, hv5, hb6, hv7, hb8, hb9, hb10, hb11, hb12, hb13, hb14, hb15, hb16, hv17, hb18, hv35, hb36, hv37, hb38, hb39, hb40, hb42, hb45, hb48, hb49, gx]
                                          · replace hb48 := eq_false_of_ne_true hb48
                                            rw [if_f hb48] at hp
                                            have hp := Option.some.inj hp
                                            subst hp
                                            simp (maxSteps := 2000000) (disch := first|omega|(simp only[ls];first|done|omega)) only [E, hv0, hv1, hb2, hb3, hb4, hv5, hb6, hv7, hb8, hb9, hb10, hb11, hb12, hb13, hb14, hb15, hb16, hv17, hb18, hv35, hb36, hv37, hb38, hb39, hb40, hb42, hb45, hb48, gx]
                                  · replace hb39 := eq_false_of_ne_true hb39
                                    rw [if_f hb39] at hp
                                    by_cases hb50 : (decide (x0.kind = 1)) = true
                                    · rw [if_t hb50] at hp
                                      by_cases hb51 : (decide (x0.n = 0)) = true
                                      · rw [if_t hb51] at hp
                                        have hp := Option.some.inj hp
                                        subst hp
                                        simp (maxSteps := 2000000) (disch := first|omega|(simp only[ls];first|done|omega)) only [E, hv0, hv1, hb2, hb3, hb4, hv5, hb6, hv7, hb8, hb9, hb10, hb11, hb12, hb13, hb14, hb15, hb16, hv17, hb18, hv35, hb36, hv37, hb38, hb39, hb50, hb51, gx]
                                      · replace hb51 := eq_false_of_ne_true hb51
                                        rw [if_f hb51] at hp
                                        have hp := Option.some.inj hp
                                        subst hp
                                        simp (maxSteps := 2000000) (disch := first|omega|(simp only[ls];first|done|omega)) only [E, hv0, hv1, hb2, hb3, hb4, hv5, hb6, hv7, hb8, hb9, hb10, hb11, hb12, hb13, hb14, hb15, hb16, hv17, hb18, hv35, hb36, hv37, hb38, hb39, hb50, hb51, gx]
                                    · replace hb50 := eq_false_of_ne_true hb50
                                      rw [if_f hb50] at hp
                                      by_cases hb52 : (decide (x0.kind = 2)) = true
                                      · rw [if_t hb52] at hp
                                        have hp := Option.some.inj hp
                                        subst hp
                                        simp (maxSteps := 2000000) (disch := first|omega|(simp only[ls];first|done|omega)) only [E, hv0, hv1, hb2, hb3, hb4, hv5, hb6, hv7, hb8, hb9, hb10, hb11, hb12, hb13, hb14, hb15, hb16, hv17, hb18, hv35, hb36, hv37, hb38, hb39, hb50, hb52, gx]
                                      · replace hb52 := eq_false_of_ne_true hb52
                                        rw [if_f hb52] at hp
                                        by_cases hb53 : (decide (x0.kind = 3)) = true
                                        · rw [if_t hb53] at hp
                                          have hp := Option.some.inj hp
                                          subst hp
                                          simp (maxSteps := 2000000) (disch := first|omega|(simp only[ls];first|done|omega)) only [E, hv0, hv1, hb2, hb3, hb4, hv5, hb6, hv7, hb8, hb9, hb10, hb11, hb12, hb13, hb14, hb15, hb16, hv17, hb18, hv35, hb36, hv37, hb38, hb39, hb50, hb52, hb53, gx]
                                        · replace hb53 := eq_false_of_ne_true hb53
                                          rw [if_f hb53] at hp
                                          by_cases hb54 : (decide (x0.kind = 4)) = true
                                          · rw [if_t hb54] at hp
                                            have hp := Option.some.inj hp
                                            subst hp
                                            simp (maxSteps := 2000000) (disch := first|omega|(simp only[ls];first|done|omega)) only [E, hv0, hv1, hb2, hb3, hb4, hv5, hb6, hv7, hb8, hb9, hb10, hb11, hb12, hb13, hb14, hb15, hb16, hv17, hb18, hv35, hb36, hv37, hb38, hb39, hb50, hb52, hb53, hb54, gx]
                                          · replace hb54 := eq_false_of_ne_true hb54
                                            rw [if_f hb54] at hp
                                            have hp := Option.some.inj hp
                                            subst hp
                                            simp (maxSteps := 2000000) (disch := first|omega|(simp only[ls];first|done|omega)) only [E, hv0, hv1, hb2, hb3, hb4, hv5, hb6, hv7, hb8, hb9, hb10, hb11, hb12, hb13, hb14, hb15, hb16, hv17, hb18, hv35, hb36, hv37, hb38, hb39, hb50, hb52, hb53, hb54, gx]
                                · replace hb38 := eq_false_of_ne_true hb38
                                  rw [if_f hb38] at hp
                                  have hp := Option.some.inj hp
                                  subst hp
                                  simp (maxSteps := 2000000) (disch := first|omega|(simp only[ls];first|done|omega)) only [E, hv0, hv1, hb2, hb3, hb4, hv5, hb6, hv7, hb8, hb9, hb10, hb11, hb12, hb13, hb14, hb15, hb16, hv17, hb18, hv35, hb36, hv37, hb38, gx]
                              · replace hb36 := eq_false_of_ne_true hb36
                                rw [if_f hb36] at hp
                                have hp := Option.some.inj hp
                                subst hp
                                simp (maxSteps := 2000000) (disch := first|omega|(simp only[ls];first|done|omega)) only [E, hv0, hv1, hb2, hb3, hb4, hv5, hb6, hv7, hb8, hb9, hb10, hb11, hb12, hb13, hb14, hb15, hb16, hv17, hb18, hv35, hb36, gx]
          · replace hb8 := eq_false_of_ne_true hb8
            rw [if_f hb8] at hp
            have hp := Option.some.inj hp
            subst hp
            simp (maxSteps := 2000000) (disch := first|omega|(simp only[ls];first|done|omega)) only [E, hv0, hv1, hb2, hb3, hb4, hv5, hb6, hv7, hb8, gx]
        · replace hb6 := eq_false_of_ne_true hb6
          rw [if_f hb6] at hp
          have hp := Option.some.inj hp
          subst hp
          simp (maxSteps := 2000000) (disch := first|omega|(simp only[ls];first|done|omega)) only [E, hv0, hv1, hb2, hb3, hb4, hv5, hb6, gx]
  · replace hb2 := eq_false_of_ne_true hb2
    rw [if_f hb2] at hp
    have hp := Option.some.inj hp
    subst hp
    simp (maxSteps := 2000000) (disch := first|omega|(simp only[ls];first|done|omega)) only [E, hv0, hv1, hb2, gx]

noncomputable def p_spec_l02New  : Option TVec :=
  ((mkL 16 8 16 0 : Option (List Int))).bind fun v0 =>
  some (TVec.mk v0)
def c_spec_l02New : AFn := ⟨3, (.seq (.ops [(qS 0 (.allocV [(1, false)] [(.slice .none 0 0)]))]) (.seq (.ops [(qS 1 (.makeSl 1 false 8 [(.int .i64 0)] (ic 16) (ic 16))), (qS 2 (.build [(.slice .none 0 0)] [(0, (1, (.tmp 1)))])), ⟨.none, (.storeV [(1, false)] 1 (.tmp 0) (.tmp 2)), .none, []⟩]) .ret)), [(.cell 0 1 true)]⟩
def o_spec_l02New (b : TVec) (v : V) (h : Heap) : Prop := ∃ n0 : Nat, v = .agg [.hsl n0 b.counts.length 0 1 false b.counts.length] ∧ getCells h n0 b.counts.length = some (rows b.counts)
def oo_spec_l02New (b : TVec) (h : Heap) (v : V) (h2 : Heap) : Prop := Keep [] h h2 ∧ ∃ n0 : Nat, v = .agg [.hsl n0 b.counts.length 0 1 false b.counts.length] ∧ n0 < h2.length ∧ h.length ≤ n0 ∧ getCells h2 n0 b.counts.length = some (rows b.counts)
def k_spec_l02New (F : Fun) : Prop := ∀  (b : TVec), p_spec_l02New  = some b → ∀ (h : Heap) (args : List V), snapA 9 false h args = some (encA ()) → ∃ p, F none args h = some p ∧ oo_spec_l02New b h p.1 p.2
set_option maxHeartbeats 10000000 in
theorem w_spec_l02New {P : Program} {env : Env}   {b : TVec} (hp : p_spec_l02New  = some b) : R P env (c_spec_l02New) ((encA ()).map ofI) [] (o_spec_l02New b) := by
  refine R_of (by simp [c_spec_l02New, encA]) ?_
  unfold c_spec_l02New
  unfold p_spec_l02New at hp
  obtain ⟨v0, hv0, hp⟩ := bind_eq hp
  obtain ⟨kv0, qv0, lv0⟩ := mkL_some hv0
  have rv0 : [.i (.s (.int .i64 0)), .i (.s (.int .i64 0)), .i (.s (.int .i64 0)), .i (.s (.int .i64 0)), .i (.s (.int .i64 0)), .i (.s (.int .i64 0)), .i (.s (.int .i64 0)), .i (.s (.int .i64 0)), .i (.s (.int .i64 0)), .i (.s (.int .i64 0)), .i (.s (.int .i64 0)), .i (.s (.int .i64 0)), .i (.s (.int .i64 0)), .i (.s (.int .i64 0)), .i (.s (.int .i64 0)), .i (.s (.int .i64 0))] = rows v0 := by rw [qv0]; rfl
  have mv0 : 16 = v0.length := by rw [lv0]; simp
  have hp := Option.some.inj hp
  subst hp
  simp (maxSteps := 2000000) (disch := first|omega|(simp only[ls];first|done|omega)) only [hv0, rv0, kv0.1, kv0.2.1, kv0.2.2.1, kv0.2.2.2, gx]
  refine ⟨2, ?_⟩
  simp (maxSteps := 2000000) (disch := first|omega|(simp only[ls];first|done|omega)) only [hv0, rv0, kv0.1, kv0.2.1, kv0.2.2.1, kv0.2.2.2, o_spec_l02New, (show (v0).length = 16 from by first | omega | rfl), gx] <;> omega
theorem ko_spec_l02New {P : Program} {env : Env}  : k_spec_l02New (ownFn P env (c_spec_l02New)) := by
  intro  b hp h args has
  obtain ⟨⟨v, H2⟩, hr, n0, rfl, wn0⟩ := w_spec_l02New  hp
  exact ⟨_, own_call has hr rfl, keep_moved, n0 + h.length, rfl, (moved_lt wn0).2, (moved_lt wn0).1, moved_rows wn0⟩

noncomputable def p_spec_l08Counts_l0 (x0 : List TOp) : List Int × Int → Option (Lp (List Int × Int) TVec)
  | (s1, s2) =>
    if (decide (s2 < (x0.length : Int))) = true then
      (get? x0 s2).bind fun v4 =>
      (get? s1 v4.actor).bind fun v5 =>
      some (.go ((s1.set v4.actor.toNat (w64 (v5 + 1))), w64 (s2 + 1)))
    else
      some (.out (s1, s2))
noncomputable def p_spec_l08Counts (x0 : List TOp) : Option TVec :=
  (p_spec_l02New ).bind fun v0 =>
  (loopP (p_spec_l08Counts_l0 x0) (v0.counts, 0)).bind fun ee0 => match ee0 with
  | .ret r => some r
  | .out (o8, o9) =>
    some (TVec.mk o8)
def c_spec_l08Counts (f_spec_l02New : Nat) : AFn := ⟨24, (.seq (.ops [(qS 2 (.allocV [(1, false)] [(.slice .none 0 0)]))]) (.seq (.ops [(qS 5 (.call (2 * f_spec_l02New + 1) [])), (qS 3 (.allocV [(1, false)] [(.slice .none 0 0)])), ⟨.none, (.storeV [(1, false)] 1 (.tmp 3) (.tmp 5)), .none, []⟩]) (.seq (.seq (.ops [(qS 4 (.mv (ic 0)))]) (.block 0 (.loop (.seq (.seq (.ops [(qS 6 (.mv (.tmp 4))), (qS 7 (.mv (.tmp 0))), (qS 8 (.len (.tmp 7))), (qS 9 (.pu (.n (.ar .lss)) [(.tmp 6), (.tmp 8)]))]) (.cond (.tmp 9) .skip (.exit 0))) (.seq (.block 1 (.ops [(qS 12 (.fieldA 0 (.tmp 3))), (qS 13 (.load 1 false (.tmp 12))), (qS 14 (.mv (.tmp 0))), (qS 15 (.mv (.tmp 4))), (qS 16 (.idxS 12 (.tmp 14) (.tmp 15))), (qS 17 (.fieldA 0 (.tmp 16))), (qS 18 (.load 1 false (.tmp 17))), (qS 19 (.idxS 1 (.tmp 13) (.tmp 18))), (qS 20 (.load 1 false (.tmp 19))), (qS 21 (.pu (.n (.ar .add)) [(.tmp 20), (ic 1)])), (qS 22 (.idxS 1 (.tmp 13) (.tmp 18))), ⟨.none, (.store 1 (.tmp 22) (.tmp 21)), .none, []⟩])) (.ops [(qS 10 (.mv (.tmp 4))), (qS 11 (.pu (.n (.ar .add)) [(.tmp 10), (ic 1)])), (qS 4 (.mv (.tmp 11)))])))))) (.seq (.ops [(qS 23 (.load 1 true (.tmp 3))), ⟨.none, (.storeV [(1, false)] 1 (.tmp 2) (.tmp 23)), .none, []⟩]) .ret)))), [(.cell 2 1 true)]⟩
set_option maxHeartbeats 10000000 in
theorem d_spec_l08Counts {P : Program} {env : Env} {f_spec_l02New : Nat}  (e_spec_l02New : k_spec_l02New (env (2 * f_spec_l02New + 1))) (x0 : List TOp) {b : TVec} (hp : p_spec_l08Counts x0 = some b) : R P env (c_spec_l08Counts f_spec_l02New) ((encA (x0)).map ofI) [] (Tells true b) := by
  refine R_of (by simp [c_spec_l08Counts, encA]) ?_
  unfold c_spec_l08Counts
  unfold p_spec_l08Counts at hp
  obtain ⟨v0, hv0, hp⟩ := bind_eq hp
  simp (maxSteps := 2000000) (disch := first|omega|(simp only[ls];first|done|omega)) only [gx]
  refine call_f (fun h => getCells h 0 0 = some [] ∧ 0 < h.length ∧ getCells h 1 1 = some [.hsl 0 0 0 1 false 0] ∧ 1 < h.length) (fun h v h2 => oo_spec_l02New v0 h v h2) ?_ ?_ ?_
  · simp (maxSteps := 2000000) (disch := first|omega|(simp only[ls];first|done|omega)) only [hv0, gx] <;> omega
  · rintro h ⟨c0_0, c0_1, c0_2, c0_3⟩
    exact e_spec_l02New  _ hv0 h _ (by simp (maxSteps := 2000000) (disch := first|omega|(simp only[ls];first|done|omega)) only [hv0, c0_0, c0_1, c0_2, c0_3, gx])
  · rintro hc0 v hh0 ⟨c0_0, c0_1, c0_2, c0_3⟩ hpost
    obtain ⟨kk0, nb0_0, rfl, lnb0_0, gnb0_0, wnb0_0⟩ := hpost
    have d0_0 : getCells hh0 0 0 = some [] := (keep_get kk0 c0_1 (by first | (simp; done) | (simp; omega))).trans c0_0
    have d0_0l := keep_lt kk0 c0_1
    have d0_1 : getCells hh0 1 1 = some [.hsl 0 0 0 1 false 0] := (keep_get kk0 c0_3 (by first | (simp; done) | (simp; omega))).trans c0_2
    have d0_1l := keep_lt kk0 c0_3
    have d0_2 := wnb0_0
    obtain ⟨ee0, hee0, hp⟩ := bind_eq hp
    simp (maxSteps := 2000000) (disch := first|omega|(simp only[ls];first|done|omega)) only [hv0, d0_0, d0_1, d0_2, gx]
    refine W_loopP 0 (fun s t h => match s with | (s1, s2) => t 0 = .i (.sl 12 (x0.map enc)) ∧ t 2 = .ptr 1 1 0 ∧ t 3 = .ptr (hh0.length + 1) 1 0 ∧ t 4 = .i (.s (.int .i64 s2)) ∧ getCells h 0 0 = some (rows ([] : List Int)) ∧ 0 < h.length ∧ getCells h 1 1 = some [.hsl 0 0 0 1 false 0] ∧ 1 < h.length ∧ getCells h nb0_0 v0.counts.length = some (rows (s1 : List Int)) ∧ nb0_0 < h.length ∧ getCells h (hh0.length + 1) 1 = some [.hsl nb0_0 v0.counts.length 0 1 false v0.counts.length] ∧ hh0.length + 1 < h.length) (RK [.cell 2 1 true] (Tells true)) ?_ hee0 ?_ ?_
    · rintro ⟨s1, s2⟩ ee tt1 hh1 ⟨ftt1_0, ftt1_1, ftt1_2, ftt1_3, ftt1_4, ftt1_5, ftt1_6, ftt1_7, ftt1_8, ftt1_9, ftt1_10, ftt1_11⟩ hp
      have ztt1_4 := len_rows ftt1_4
      simp only [zs] at ztt1_4
      have ztt1_8 := len_rows ftt1_8
      simp only [zs] at ztt1_8
      rw [p_spec_l08Counts_l0] at hp
      by_cases hb3 : (decide (s2 < (x0.length : Int))) = true
      · rw [if_t hb3] at hp
        obtain ⟨v4, hv4, hp⟩ := bind_eq hp
        obtain ⟨v5, hv5, hp⟩ := bind_eq hp
        have gv5 := get_some hv5
        have hl6 : List.take 1 (List.drop v4.actor.toNat (rows s1)) = [.i (.s (.int .i64 v5))] := by simpa [zs, cellsV, I.cells, enc_int] using rows_get_off (k := 0) (m := 1) gv5.2.2 (Nat.le_of_ble_eq_true rfl)
        have hs7 : List.take v4.actor.toNat (rows s1) ++ .i (.s (.int .i64 (w64 (v5 + 1)))) :: List.drop (v4.actor.toNat + 1) (rows s1) = rows (s1.set v4.actor.toNat (w64 (v5 + 1))) := by simpa [splice, zs, cellsV, I.cells, enc_int] using rows_set_off (y := w64 (v5 + 1)) (ys := [.i (.s (.int .i64 (w64 (v5 + 1))))]) (k := 0) gv5.2.2 (Nat.le_of_ble_eq_true rfl) (by rfl)
        have hp := Option.some.inj hp
        subst hp
        simp (maxSteps := 2000000) (disch := first|omega|(simp only[ls];first|done|omega)) only [hv0, d0_0, d0_1, d0_2, ftt1_0, ftt1_1, ftt1_2, ftt1_3, ftt1_4, ftt1_5, ftt1_6, ftt1_7, ftt1_8, ftt1_9, ftt1_10, ftt1_11, hb3, hv4, hv5, (gv5).1, (gv5).2.1, hl6, hs7, gx] <;> omega
      · replace hb3 := eq_false_of_ne_true hb3
        rw [if_f hb3] at hp
        have hp := Option.some.inj hp
        subst hp
        simp (maxSteps := 2000000) (disch := first|omega|(simp only[ls];first|done|omega)) only [hv0, d0_0, d0_1, d0_2, ftt1_0, ftt1_1, ftt1_2, ftt1_3, ftt1_4, ftt1_5, ftt1_6, ftt1_7, ftt1_8, ftt1_9, ftt1_10, ftt1_11, hb3, gx] <;> omega
    · simp (maxSteps := 2000000) (disch := first|omega|(simp only[ls];first|done|omega)) only [hv0, d0_0, d0_1, d0_2, gx] <;> omega
    · intro x tt2 hh2 hx
      rcases ee0 with ⟨o8, o9⟩ | r
      · obtain ⟨rfl, ftt2_0, ftt2_1, ftt2_2, ftt2_3, ftt2_4, ftt2_5, ftt2_6, ftt2_7, ftt2_8, ftt2_9, ftt2_10, ftt2_11⟩ := hx
        have ztt2_4 := len_rows ftt2_4
        simp only [zs] at ztt2_4
        have ztt2_8 := len_rows ftt2_8
        simp only [zs] at ztt2_8
        dsimp only at hp
        have hp := Option.some.inj hp
        subst hp
        simp (maxSteps := 2000000) (disch := first|omega|(simp only[ls];first|done|omega)) only [hv0, d0_0, d0_1, d0_2, ftt2_0, ftt2_1, ftt2_2, ftt2_3, ftt2_4, ftt2_5, ftt2_6, ftt2_7, ftt2_8, ftt2_9, ftt2_10, ftt2_11, gx]
      · obtain ⟨rfl, hx⟩ := hx
        dsimp only at hp
        cases hp
        simp only [seqK_ret, blockK_ret, retK_RK (K := Tells true), hx, and_self, true_and]

noncomputable def p_spec_l08Find_l0 (x0 : List TOp) (x1 : Int) (x2 : Int) : Int → Option (Lp (Int) Int)
  | s0 =>
    if (decide (s0 < (x0.length : Int))) = true then
      (get? x0 s0).bind fun v2 =>
      if (decide (v2.actor = x1)) = true then
        if (decide (x2 < 1)) = true then
          some (.ret (-1))
        else
          if (decide (w64 ((x0.length : Int) - s0) < x2)) = true then
            some (.ret (-1))
          else
            (get? x0 (w64 ((w64 (s0 + x2)) - 1))).bind fun v6 =>
            if (decide (v6.actor = x1)) = true then
              some (.ret (w64 ((w64 (s0 + x2)) - 1)))
            else
              some (.ret (-1))
      else
        some (.go (w64 (s0 + 1)))
    else
      some (.out s0)
noncomputable def p_spec_l08Find (x0 : List TOp) (x1 : Int) (x2 : Int) : Option Int :=
  (loopP (p_spec_l08Find_l0 x0 x1 x2) 0).bind fun ee0 => match ee0 with
  | .ret r => some r
  | .out o8 =>
    some (-1)
def c_spec_l08Find : AFn := ⟨47, (.seq (.ops [(qS 6 (.mv (ic 0)))]) (.seq (.seq (.ops [(qS 7 (.mv (ic 0)))]) (.block 0 (.loop (.seq (.seq (.ops [(qS 8 (.mv (.tmp 7))), (qS 9 (.mv (.tmp 0))), (qS 10 (.len (.tmp 9))), (qS 11 (.pu (.n (.ar .lss)) [(.tmp 8), (.tmp 10)]))]) (.cond (.tmp 11) .skip (.exit 0))) (.seq (.block 1 (.seq (.ops [(qS 14 (.mv (.tmp 0))), (qS 15 (.mv (.tmp 7))), (qS 16 (.idxS 12 (.tmp 14) (.tmp 15))), (qS 17 (.fieldA 0 (.tmp 16))), (qS 18 (.load 1 false (.tmp 17))), (qS 19 (.mv (.tmp 1))), (qS 20 (.pu (.n (.ar .eql)) [(.tmp 18), (.tmp 19)]))]) (.cond (.tmp 20) (.seq (.seq (.ops [(qS 21 (.mv (.tmp 2))), (qS 22 (.pu (.n (.ar .lss)) [(.tmp 21), (ic 1)])), (qS 23 (.mv (.tmp 22))), ⟨(.some 24), (.mv (.tmp 2)), (.some (23, false)), []⟩, ⟨(.some 25), (.mv (.tmp 0)), (.some (23, false)), []⟩, ⟨(.some 26), (.len (.tmp 25)), (.some (23, false)), []⟩, ⟨(.some 27), (.mv (.tmp 7)), (.some (23, false)), []⟩, ⟨(.some 28), (.pu (.n (.ar .sub)) [(.tmp 26), (.tmp 27)]), (.some (23, false)), []⟩, ⟨(.some 29), (.pu (.n (.ar .gtr)) [(.tmp 24), (.tmp 28)]), (.some (23, false)), []⟩, (qS 30 (.pick (.tmp 23) (.const (.bool true)) (.tmp 29))), (qS 31 (.mv (.tmp 30))), ⟨(.some 32), (.mv (.tmp 0)), (.some (31, false)), []⟩, ⟨(.some 33), (.mv (.tmp 7)), (.some (31, false)), []⟩, ⟨(.some 34), (.mv (.tmp 2)), (.some (31, false)), []⟩, ⟨(.some 35), (.pu (.n (.ar .add)) [(.tmp 33), (.tmp 34)]), (.some (31, false)), []⟩, ⟨(.some 36), (.pu (.n (.ar .sub)) [(.tmp 35), (ic 1)]), (.some (31, false)), []⟩, ⟨(.some 37), (.idxS 12 (.tmp 32) (.tmp 36)), (.some (31, false)), []⟩, ⟨(.some 38), (.fieldA 0 (.tmp 37)), (.some (31, false)), []⟩, ⟨(.some 39), (.load 1 false (.tmp 38)), (.some (31, false)), []⟩, ⟨(.some 40), (.mv (.tmp 1)), (.some (31, false)), []⟩, ⟨(.some 41), (.pu (.n (.ar .neq)) [(.tmp 39), (.tmp 40)]), (.some (31, false)), []⟩, (qS 42 (.pick (.tmp 31) (.const (.bool true)) (.tmp 41)))]) (.cond (.tmp 42) (.seq (.ops [(qS 6 (.mv (ic (-1))))]) .ret) .skip)) (.seq (.ops [(qS 43 (.mv (.tmp 7))), (qS 44 (.mv (.tmp 2))), (qS 45 (.pu (.n (.ar .add)) [(.tmp 43), (.tmp 44)])), (qS 46 (.pu (.n (.ar .sub)) [(.tmp 45), (ic 1)])), (qS 6 (.mv (.tmp 46)))]) .ret)) .skip))) (.ops [(qS 12 (.mv (.tmp 7))), (qS 13 (.pu (.n (.ar .add)) [(.tmp 12), (ic 1)])), (qS 7 (.mv (.tmp 13)))])))))) (.seq (.ops [(qS 6 (.mv (ic (-1))))]) .ret))), [(.tmp 6)]⟩
set_option maxHeartbeats 10000000 in
theorem d_spec_l08Find {P : Program} {env : Env}  (x0 : List TOp) (x1 : Int) (x2 : Int) {b : Int} (hp : p_spec_l08Find x0 x1 x2 = some b) : R P env (c_spec_l08Find) ((encA (x0, x1, x2)).map ofI) [] (Tells true b) := by
  refine R_of (by simp [c_spec_l08Find, encA]) ?_
  unfold c_spec_l08Find
  unfold p_spec_l08Find at hp
  obtain ⟨ee0, hee0, hp⟩ := bind_eq hp
  simp (maxSteps := 2000000) (disch := first|omega|(simp only[ls];first|done|omega)) only [gx]
  refine W_loopP 0 (fun s t h => match s with | s0 => t 0 = .i (.sl 12 (x0.map enc)) ∧ t 1 = .i (.s (.int .i64 x1)) ∧ t 2 = .i (.s (.int .i64 x2)) ∧ t 7 = .i (.s (.int .i64 s0))) (RK [.tmp 6] (Tells true)) ?_ hee0 ?_ ?_
  · rintro s0 ee tt0 hh0 ⟨ftt0_0, ftt0_1, ftt0_2, ftt0_3⟩ hp
    rw [p_spec_l08Find_l0] at hp
    by_cases hb1 : (decide (s0 < (x0.length : Int))) = true
    · rw [if_t hb1] at hp
      obtain ⟨v2, hv2, hp⟩ := bind_eq hp
      by_cases hb3 : (decide (v2.actor = x1)) = true
      · rw [if_t hb3] at hp
        by_cases hb4 : (decide (x2 < 1)) = true
        · rw [if_t hb4] at hp
          have hp := Option.some.inj hp
          subst hp
          simp (maxSteps := 2000000) (disch := first|omega|(simp only[ls];first|done|omega)) only [ftt0_0, ftt0_1, ftt0_2, ftt0_3, hb1, hv2, hb3, hb4, gx]
        · replace hb4 := eq_false_of_ne_true hb4
          rw [if_f hb4] at hp
          by_cases hb5 : (decide (w64 ((x0.length : Int) - s0) < x2)) = true
          · rw [if_t hb5] at hp
            have hp := Option.some.inj hp
            subst hp
            simp (maxSteps := 2000000) (disch := first|omega|(simp only[ls];first|done|omega)) only [ftt0_0, ftt0_1, ftt0_2, ftt0_3, hb1, hv2, hb3, hb4, hb5, gx]
          · replace hb5 := eq_false_of_ne_true hb5
            rw [if_f hb5] at hp
            obtain ⟨v6, hv6, hp⟩ := bind_eq hp
            by_cases hb7 : (decide (v6.actor = x1)) = true
            · rw [if_t hb7] at hp
              have hp := Option.some.inj hp
              subst hp
              simp (maxSteps := 2000000) (disch := first|omega|(simp only[ls];first|done|omega)) only [ftt0_0, ftt0_1, ftt0_2, ftt0_3, hb1, hv2, hb3, hb4, hb5, hv6, hb7, gx]
            · replace hb7 := eq_false_of_ne_true hb7
              rw [if_f hb7] at hp
              have hp := Option.some.inj hp
              subst hp
              simp (maxSteps := 2000000) (disch := first|omega|(simp only[ls];first|done|omega)) only [ftt0_0, ftt0_1, ftt0_2, ftt0_3, hb1, hv2, hb3, hb4, hb5, hv6, hb7, gx]
      · replace hb3 := eq_false_of_ne_true hb3
        rw [if_f hb3] at hp
        have hp := Option.some.inj hp
        subst hp
        simp (maxSteps := 2000000) (disch := first|omega|(simp only[ls];first|done|omega)) only [ftt0_0, ftt0_1, ftt0_2, ftt0_3, hb1, hv2, hb3, gx] <;> omega
    · replace hb1 := eq_false_of_ne_true hb1
      rw [if_f hb1] at hp
      have hp := Option.some.inj hp
      subst hp
      simp (maxSteps := 2000000) (disch := first|omega|(simp only[ls];first|done|omega)) only [ftt0_0, ftt0_1, ftt0_2, ftt0_3, hb1, gx] <;> omega
  · simp (maxSteps := 2000000) (disch := first|omega|(simp only[ls];first|done|omega)) only [gx] <;> omega
  · intro x tt1 hh1 hx
    rcases ee0 with o8 | r
    · obtain ⟨rfl, ftt1_0, ftt1_1, ftt1_2, ftt1_3⟩ := hx
      dsimp only at hp
      have hp := Option.some.inj hp
      subst hp
      simp (maxSteps := 2000000) (disch := first|omega|(simp only[ls];first|done|omega)) only [ftt1_0, ftt1_1, ftt1_2, ftt1_3, gx]
    · obtain ⟨rfl, hx⟩ := hx
      dsimp only at hp
      cases hp
      simp only [seqK_ret, blockK_ret, retK_RK (K := Tells true), hx, and_self, true_and]

noncomputable def p_spec_l08Causes_l0 (x0 : List TOp) (x1 : TVec) (x2 : TOp) : Int → Option (Lp (Int) Bool)
  | s0 =>
    if (decide (s0 < 16)) = true then
      (get? x2.deps.counts s0).bind fun v2 =>
      (get? x1.counts s0).bind fun v3 =>
      if (decide (v3 < v2)) = true then
        some (.ret false)
      else
        if (decide (0 < v2)) = true then
          (p_spec_l08Find x0 s0 v2).bind fun v6 =>
          (get? x0 v6).bind fun v7 =>
          (p_spec_l08Stamp v7).bind fun v8 =>
          (p_spec_l08Stamp x2).bind fun v9 =>
          (p_spec_StampLess v8 v9).bind fun v10 =>
          if (v10) = true then
            some (.go (w64 (s0 + 1)))
          else
            some (.ret false)
        else
          some (.go (w64 (s0 + 1)))
    else
      some (.out s0)
noncomputable def p_spec_l08Causes (x0 : List TOp) (x1 : TVec) (x2 : TOp) : Option Bool :=
  (loopP (p_spec_l08Causes_l0 x0 x1 x2) 0).bind fun ee0 => match ee0 with
  | .ret r => some r
  | .out o12 =>
    some true
def c_spec_l08Causes (f_spec_l08Find : Nat) (f_spec_l08Stamp : Nat) (f_spec_StampLess : Nat) : AFn := ⟨42, (.seq (.ops [(qS 4 (.box (.tmp 1))), (qS 5 (.box (.tmp 2))), (qS 6 (.mv (.const (.bool false))))]) (.seq (.seq (.ops [(qS 7 (.mv (ic 0)))]) (.block 0 (.loop (.seq (.seq (.ops [(qS 9 (.mv (.tmp 7))), (qS 10 (.pu (.n (.ar .lss)) [(.tmp 9), (ic 16)]))]) (.cond (.tmp 10) .skip (.exit 0))) (.seq (.block 1 (.seq (.ops [(qS 13 (.fieldA 3 (.tmp 5))), (qS 14 (.fieldA 0 (.tmp 13))), (qS 15 (.load 1 false (.tmp 14))), (qS 16 (.mv (.tmp 7))), (qS 17 (.idxS 1 (.tmp 15) (.tmp 16))), (qS 18 (.load 1 false (.tmp 17))), (qS 8 (.mv (.tmp 18)))]) (.seq (.seq (.ops [(qS 19 (.mv (.tmp 8))), (qS 20 (.fieldA 0 (.tmp 4))), (qS 21 (.load 1 false (.tmp 20))), (qS 22 (.mv (.tmp 7))), (qS 23 (.idxS 1 (.tmp 21) (.tmp 22))), (qS 24 (.load 1 false (.tmp 23))), (qS 25 (.pu (.n (.ar .gtr)) [(.tmp 19), (.tmp 24)]))]) (.cond (.tmp 25) (.seq (.ops [(qS 6 (.mv (.const (.bool false))))]) .ret) .skip)) (.seq (.ops [(qS 26 (.mv (.tmp 8))), (qS 27 (.pu (.n (.ar .gtr)) [(.tmp 26), (ic 0)])), (qS 28 (.mv (.tmp 27))), ⟨(.some 29), (.mv (.tmp 0)), (.some (28, true)), []⟩, ⟨(.some 30), (.mv (.tmp 0)), (.some (28, true)), []⟩, ⟨(.some 31), (.mv (.tmp 7)), (.some (28, true)), []⟩, ⟨(.some 32), (.mv (.tmp 8)), (.some (28, true)), []⟩, ⟨(.some 33), (.call (2 * f_spec_l08Find) [(.tmp 30), (.tmp 31), (.tmp 32)]), (.some (28, true)), []⟩, ⟨(.some 34), (.idxS 12 (.tmp 29) (.tmp 33)), (.some (28, true)), []⟩, ⟨(.some 35), (.load 12 true (.tmp 34)), (.some (28, true)), []⟩, ⟨(.some 36), (.call (2 * f_spec_l08Stamp) [(.tmp 35)]), (.some (28, true)), []⟩, ⟨(.some 37), (.load 12 true (.tmp 5)), (.some (28, true)), []⟩, ⟨(.some 38), (.call (2 * f_spec_l08Stamp) [(.tmp 37)]), (.some (28, true)), []⟩, ⟨(.some 39), (.call (2 * f_spec_StampLess) [(.tmp 36), (.tmp 38)]), (.some (28, true)), []⟩, ⟨(.some 40), (.pu (.n (.un .not)) [(.tmp 39)]), (.some (28, true)), []⟩, (qS 41 (.pick (.tmp 28) (.tmp 40) (.const (.bool false))))]) (.cond (.tmp 41) (.seq (.ops [(qS 6 (.mv (.const (.bool false))))]) .ret) .skip))))) (.ops [(qS 11 (.mv (.tmp 7))), (qS 12 (.pu (.n (.ar .add)) [(.tmp 11), (ic 1)])), (qS 7 (.mv (.tmp 12)))])))))) (.seq (.ops [(qS 6 (.mv (.const (.bool true))))]) .ret))), [(.tmp 6)]⟩
set_option maxHeartbeats 10000000 in
theorem d_spec_l08Causes {P : Program} {env : Env} {f_spec_l08Find : Nat} {f_spec_l08Stamp : Nat} {f_spec_StampLess : Nat}  (ep_spec_l08Find : env (2 * f_spec_l08Find) = pureFn true (FA fun a : List TOp × Int × Int => p_spec_l08Find a.1 a.2.1 a.2.2)) (ep_spec_l08Stamp : env (2 * f_spec_l08Stamp) = pureFn true (FA fun a : TOp => p_spec_l08Stamp a)) (ep_spec_StampLess : env (2 * f_spec_StampLess) = pureFn true (FA fun a : TStamp × TStamp => p_spec_StampLess a.1 a.2)) (x0 : List TOp) (x1 : TVec) (x2 : TOp) {b : Bool} (hp : p_spec_l08Causes x0 x1 x2 = some b) : R P env (c_spec_l08Causes f_spec_l08Find f_spec_l08Stamp f_spec_StampLess) ((encA (x0, x1, x2)).map ofI) [] (Tells true b) := by
  refine R_of (by simp [c_spec_l08Causes, encA]) ?_
  have E := And.intro opc (And.intro ep_spec_l08Find (And.intro ep_spec_l08Stamp ep_spec_StampLess))
  unfold c_spec_l08Causes
  unfold p_spec_l08Causes at hp
  obtain ⟨ee0, hee0, hp⟩ := bind_eq hp
  simp (maxSteps := 2000000) (disch := first|omega|(simp only[ls];first|done|omega)) only [E, gx]
  refine W_loopP 0 (fun s t h => match s with | s0 => t 0 = .i (.sl 12 (x0.map enc)) ∧ t 4 = .ptr 0 1 0 ∧ t 5 = .ptr 1 12 0 ∧ t 7 = .i (.s (.int .i64 s0)) ∧ getCells h 0 1 = some [.i (.sl 1 (x1.counts.map enc))] ∧ 0 < h.length ∧ getCells h 1 12 = some [.i (.s (.int .i64 x2.actor)), .i (.s (.int .i64 x2.seq)), .i (.s (.int .i64 x2.time)), .i (.sl 1 (x2.deps.counts.map enc)), .i (.s (.int .i64 x2.kind)), .i (.s (.int .i64 x2.obj)), .i (.s (.int .i64 x2.n)), .i (.s (.int .i64 x2.undo)), .i (.s (.int .i64 x2.at_.time)), .i (.s (.int .i64 x2.at_.actor)), .i (.s (.string x2.key)), .i (.s (.string x2.text))] ∧ 1 < h.length) (RK [.tmp 6] (Tells true)) ?_ hee0 ?_ ?_
  · rintro s0 ee tt0 hh0 ⟨ftt0_0, ftt0_1, ftt0_2, ftt0_3, ftt0_4, ftt0_5, ftt0_6, ftt0_7⟩ hp
    rw [p_spec_l08Causes_l0] at hp
    by_cases hb1 : (decide (s0 < 16)) = true
    · rw [if_t hb1] at hp
      obtain ⟨v2, hv2, hp⟩ := bind_eq hp
      obtain ⟨v3, hv3, hp⟩ := bind_eq hp
      by_cases hb4 : (decide (v3 < v2)) = true
      · rw [if_t hb4] at hp
        have hp := Option.some.inj hp
        subst hp
        simp (maxSteps := 2000000) (disch := first|omega|(simp only[ls];first|done|omega)) only [E, ftt0_0, ftt0_1, ftt0_2, ftt0_3, ftt0_4, ftt0_5, ftt0_6, ftt0_7, hb1, hv2, hv3, hb4, gx]
      · replace hb4 := eq_false_of_ne_true hb4
        rw [if_f hb4] at hp
        by_cases hb5 : (decide (0 < v2)) = true
        · rw [if_t hb5] at hp
          obtain ⟨v6, hv6, hp⟩ := bind_eq hp
          obtain ⟨v7, hv7, hp⟩ := bind_eq hp
          obtain ⟨v8, hv8, hp⟩ := bind_eq hp
          obtain ⟨v9, hv9, hp⟩ := bind_eq hp
          obtain ⟨v10, hv10, hp⟩ := bind_eq hp
          by_cases hb11 : (v10) = true
          · rw [if_t hb11] at hp
            have hp := Option.some.inj hp
            subst hp
            simp (maxSteps := 2000000) (disch := first|omega|(simp only[ls];first|done|omega)) only [E, ftt0_0, ftt0_1, ftt0_2, ftt0_3, ftt0_4, ftt0_5, ftt0_6, ftt0_7, hb1, hv2, hv3, hb4, hb5, hv6, hv7, hv8, hv9, hv10, hb11, gx] <;> omega
          · replace hb11 := eq_false_of_ne_true hb11
            rw [if_f hb11] at hp
            have hp := Option.some.inj hp
            subst hp
            simp (maxSteps := 2000000) (disch := first|omega|(simp only[ls];first|done|omega)) only [E, ftt0_0, ftt0_1, ftt0_2, ftt0_3, ftt0_4, ftt0_5, ftt0_6, ftt0_7, hb1, hv2, hv3, hb4, hb5, hv6, hv7, hv8, hv9, hv10, hb11, gx]
        · replace hb5 := eq_false_of_ne_true hb5
          rw [if_f hb5] at hp
          have hp := Option.some.inj hp
          subst hp
          simp (maxSteps := 2000000) (disch := first|omega|(simp only[ls];first|done|omega)) only [E, ftt0_0, ftt0_1, ftt0_2, ftt0_3, ftt0_4, ftt0_5, ftt0_6, ftt0_7, hb1, hv2, hv3, hb4, hb5, gx] <;> omega
    · replace hb1 := eq_false_of_ne_true hb1
      rw [if_f hb1] at hp
      have hp := Option.some.inj hp
      subst hp
      simp (maxSteps := 2000000) (disch := first|omega|(simp only[ls];first|done|omega)) only [E, ftt0_0, ftt0_1, ftt0_2, ftt0_3, ftt0_4, ftt0_5, ftt0_6, ftt0_7, hb1, gx] <;> omega
  · simp (maxSteps := 2000000) (disch := first|omega|(simp only[ls];first|done|omega)) only [E, gx] <;> omega
  · intro x tt1 hh1 hx
    rcases ee0 with o12 | r
    · obtain ⟨rfl, ftt1_0, ftt1_1, ftt1_2, ftt1_3, ftt1_4, ftt1_5, ftt1_6, ftt1_7⟩ := hx
      dsimp only at hp
      have hp := Option.some.inj hp
      subst hp
      simp (maxSteps := 2000000) (disch := first|omega|(simp only[ls];first|done|omega)) only [E, ftt1_0, ftt1_1, ftt1_2, ftt1_3, ftt1_4, ftt1_5, ftt1_6, ftt1_7, gx]
    · obtain ⟨rfl, hx⟩ := hx
      dsimp only at hp
      cases hp
      simp only [seqK_ret, blockK_ret, retK_RK (K := Tells true), hx, and_self, true_and]

noncomputable def p_spec_l08Thing (x0 : Int) : Option Int :=
  if (decide (x0 = 1)) = true then
    some 1
  else
    if (decide (x0 = 2)) = true then
      some 2
    else
      if (decide (x0 = 3)) = true then
        some 2
      else
        some 3
def c_spec_l08Thing : AFn := ⟨9, (.seq (.ops [(qS 2 (.mv (ic 0)))]) (.seq (.seq (.ops [(qS 3 (.mv (.tmp 0)))]) (.block 0 (.seq (.ops [(qS 5 (.pu (.n (.ar .eql)) [(.tmp 3), (ic 1)])), (qS 4 (.mv (.tmp 5)))]) (.cond (.tmp 4) (.seq (.ops [(qS 2 (.mv (ic 1)))]) .ret) (.seq (.seq (.ops [(qS 7 (.pu (.n (.ar .eql)) [(.tmp 3), (ic 2)])), (qS 6 (.mv (.tmp 7)))]) (.cond (.tmp 6) .skip (.ops [(qS 8 (.pu (.n (.ar .eql)) [(.tmp 3), (ic 3)])), (qS 6 (.mv (.tmp 8)))]))) (.cond (.tmp 6) (.seq (.ops [(qS 2 (.mv (ic 2)))]) .ret) .skip)))))) (.seq (.ops [(qS 2 (.mv (ic 3)))]) .ret))), [(.tmp 2)]⟩
set_option maxHeartbeats 10000000 in
theorem d_spec_l08Thing {P : Program} {env : Env}  (x0 : Int) {b : Int} (hp : p_spec_l08Thing x0 = some b) : R P env (c_spec_l08Thing) ((encA (x0)).map ofI) [] (Tells true b) := by
  refine R_of (by simp [c_spec_l08Thing, encA]) ?_
  unfold c_spec_l08Thing
  unfold p_spec_l08Thing at hp
  by_cases hb0 : (decide (x0 = 1)) = true
  · rw [if_t hb0] at hp
    have hp := Option.some.inj hp
    subst hp
    simp (maxSteps := 2000000) (disch := first|omega|(simp only[ls];first|done|omega)) only [hb0, gx]
  · replace hb0 := eq_false_of_ne_true hb0
    rw [if_f hb0] at hp
    by_cases hb1 : (decide (x0 = 2)) = true
    · rw [if_t hb1] at hp
      have hp := Option.some.inj hp
      subst hp
      simp (maxSteps := 2000000) (disch := first|omega|(simp only[ls];first|done|omega)) only [hb0, hb1, gx]
    · replace hb1 := eq_false_of_ne_true hb1
      rw [if_f hb1] at hp
      by_cases hb2 : (decide (x0 = 3)) = true
      · rw [if_t hb2] at hp
        have hp := Option.some.inj hp
        subst hp
        simp (maxSteps := 2000000) (disch := first|omega|(simp only[ls];first|done|omega)) only [hb0, hb1, hb2, gx]
      · replace hb2 := eq_false_of_ne_true hb2
        rw [if_f hb2] at hp
        have hp := Option.some.inj hp
        subst hp
        simp (maxSteps := 2000000) (disch := first|omega|(simp only[ls];first|done|omega)) only [hb0, hb1, hb2, gx]

noncomputable def p_spec_LogOK_l0 (x0 : List TOp) : Int → Option (Lp (Int) Bool)
  | s1 =>
    if (decide (s1 < (x0.length : Int))) = true then
      (get? x0 s1).bind fun v3 =>
      (p_spec_l08OpOK v3).bind fun v4 =>
      if (v4) = true then
        if (decide (s1 = 0)) = true then
          if (decide (v3.seq = 1)) = true then
            if (decide (0 < s1)) = true then
              (get? x0 (w64 (s1 - 1))).bind fun v9 =>
              if (decide (v3.actor < v9.actor)) = true then
                some (.ret false)
              else
                some (.go (w64 (s1 + 1)))
            else
              some (.go (w64 (s1 + 1)))
          else
            some (.ret false)
        else
          (get? x0 (w64 (s1 - 1))).bind fun v11 =>
          if (decide (v3.actor = v11.actor)) = true then
            if (decide (v3.seq = w64 (v11.seq + 1))) = true then
              some (.go (w64 (s1 + 1)))
            else
              some (.ret false)
          else
            if (decide (v3.seq = 1)) = true then
              if (decide (0 < s1)) = true then
                if (decide (v3.actor < v11.actor)) = true then
                  some (.ret false)
                else
                  some (.go (w64 (s1 + 1)))
              else
                some (.go (w64 (s1 + 1)))
            else
              some (.ret false)
      else
        some (.ret false)
    else
      some (.out s1)
noncomputable def p_spec_LogOK_l1 (x0 : List TOp) (v18 : TVec) : List Int × Int → Option (Lp (List Int × Int) Bool)
  | (s20, s21) =>
    if (decide (s21 < (x0.length : Int))) = true then
      (get? x0 s21).bind fun v23 =>
      (p_spec_l08Causes x0 v18 v23).bind fun v24 =>
      if (v24) = true then
        (p_spec_l08Thing v23.kind).bind fun v26 =>
        (get? s20 v23.obj).bind fun v27 =>
        if (decide (v27 = 0)) = true then
          some (.go ((s20.set v23.obj.toNat v26), w64 (s21 + 1)))
        else
          if (decide (v27 = v26)) = true then
            some (.go ((s20.set v23.obj.toNat v26), w64 (s21 + 1)))
          else
            some (.ret false)
      else
        some (.ret false)
    else
      some (.out (s20, s21))
noncomputable def p_spec_LogOK (x0 : List TOp) : Option Bool :=
  if (decide (1024 < (x0.length : Int))) = true then
    some false
  else
    (loopP (p_spec_LogOK_l0 x0) 0).bind fun ee0 => match ee0 with
    | .ret r => some r
    | .out o17 =>
      (p_spec_l08Counts x0).bind fun v18 =>
      ((mkL 101 8 101 0 : Option (List Int))).bind fun v19 =>
      (loopP (p_spec_LogOK_l1 x0 v18) (v19, 0)).bind fun ee1 => match ee1 with
      | .ret r => some r
      | .out (o34, o35) =>
        some true
def c_spec_LogOK (f_spec_l08OpOK : Nat) (f_spec_l08Counts : Nat) (f_spec_l08Causes : Nat) (f_spec_l08Thing : Nat) : AFn := ⟨138, (.seq (.ops [(qS 2 (.mv (.const (.bool false))))]) (.seq (.seq (.ops [(qS 9 (.mv (.tmp 0))), (qS 10 (.len (.tmp 9))), (qS 11 (.pu (.n (.ar .gtr)) [(.tmp 10), (ic 1024)]))]) (.cond (.tmp 11) (.seq (.ops [(qS 2 (.mv (.const (.bool false))))]) .ret) .skip)) (.seq (.seq (.ops [(qS 3 (.mv (ic 0)))]) (.block 0 (.loop (.seq (.seq (.ops [(qS 12 (.mv (.tmp 3))), (qS 13 (.mv (.tmp 0))), (qS 14 (.len (.tmp 13))), (qS 15 (.pu (.n (.ar .lss)) [(.tmp 12), (.tmp 14)]))]) (.cond (.tmp 15) .skip (.exit 0))) (.seq (.block 1 (.seq (.seq (.ops [(qS 18 (.mv (.tmp 0))), (qS 19 (.mv (.tmp 3))), (qS 20 (.idxS 12 (.tmp 18) (.tmp 19))), (qS 21 (.load 12 true (.tmp 20))), (qS 22 (.call (2 * f_spec_l08OpOK) [(.tmp 21)])), (qS 23 (.pu (.n (.un .not)) [(.tmp 22)]))]) (.cond (.tmp 23) (.seq (.ops [(qS 2 (.mv (.const (.bool false))))]) .ret) .skip)) (.seq (.ops [(qS 24 (.mv (.tmp 3))), (qS 25 (.pu (.n (.ar .eql)) [(.tmp 24), (ic 0)])), (qS 26 (.mv (.tmp 25))), ⟨(.some 27), (.mv (.tmp 0)), (.some (26, false)), []⟩, ⟨(.some 28), (.mv (.tmp 3)), (.some (26, false)), []⟩, ⟨(.some 29), (.idxS 12 (.tmp 27) (.tmp 28)), (.some (26, false)), []⟩, ⟨(.some 30), (.fieldA 0 (.tmp 29)), (.some (26, false)), []⟩, ⟨(.some 31), (.load 1 false (.tmp 30)), (.some (26, false)), []⟩, ⟨(.some 32), (.mv (.tmp 0)), (.some (26, false)), []⟩, ⟨(.some 33), (.mv (.tmp 3)), (.some (26, false)), []⟩, ⟨(.some 34), (.pu (.n (.ar .sub)) [(.tmp 33), (ic 1)]), (.some (26, false)), []⟩, ⟨(.some 35), (.idxS 12 (.tmp 32) (.tmp 34)), (.some (26, false)), []⟩, ⟨(.some 36), (.fieldA 0 (.tmp 35)), (.some (26, false)), []⟩, ⟨(.some 37), (.load 1 false (.tmp 36)), (.some (26, false)), []⟩, ⟨(.some 38), (.pu (.n (.ar .neq)) [(.tmp 31), (.tmp 37)]), (.some (26, false)), []⟩, (qS 39 (.pick (.tmp 26) (.const (.bool true)) (.tmp 38))), (qS 4 (.mv (.tmp 39)))]) (.seq (.ops [(qS 40 (.mv (.tmp 4))), (qS 41 (.mv (.tmp 40))), ⟨(.some 42), (.mv (.tmp 0)), (.some (41, true)), []⟩, ⟨(.some 43), (.mv (.tmp 3)), (.some (41, true)), []⟩, ⟨(.some 44), (.idxS 12 (.tmp 42) (.tmp 43)), (.some (41, true)), []⟩, ⟨(.some 45), (.fieldA 1 (.tmp 44)), (.some (41, true)), []⟩, ⟨(.some 46), (.load 1 false (.tmp 45)), (.some (41, true)), []⟩, ⟨(.some 47), (.pu (.n (.ar .neq)) [(.tmp 46), (ic 1)]), (.some (41, true)), []⟩, ⟨(.some 48), (.mv (.tmp 47)), (.some (41, true)), []⟩, ⟨(.some 49), (.mv (.tmp 3)), (.some (48, false)), []⟩, ⟨(.some 50), (.pu (.n (.ar .gtr)) [(.tmp 49), (ic 0)]), (.some (48, false)), []⟩, ⟨(.some 51), (.mv (.tmp 50)), (.some (48, false)), []⟩, ⟨(.some 52), (.mv (.tmp 0)), (.some (51, true)), []⟩, ⟨(.some 53), (.mv (.tmp 3)), (.some (51, true)), []⟩, ⟨(.some 54), (.idxS 12 (.tmp 52) (.tmp 53)), (.some (51, true)), []⟩, ⟨(.some 55), (.fieldA 0 (.tmp 54)), (.some (51, true)), []⟩, ⟨(.some 56), (.load 1 false (.tmp 55)), (.some (51, true)), []⟩, ⟨(.some 57), (.mv (.tmp 0)), (.some (51, true)), []⟩, ⟨(.some 58), (.mv (.tmp 3)), (.some (51, true)), []⟩, ⟨(.some 59), (.pu (.n (.ar .sub)) [(.tmp 58), (ic 1)]), (.some (51, true)), []⟩, ⟨(.some 60), (.idxS 12 (.tmp 57) (.tmp 59)), (.some (51, true)), []⟩, ⟨(.some 61), (.fieldA 0 (.tmp 60)), (.some (51, true)), []⟩, ⟨(.some 62), (.load 1 false (.tmp 61)), (.some (51, true)), []⟩, ⟨(.some 63), (.pu (.n (.ar .lss)) [(.tmp 56), (.tmp 62)]), (.some (51, true)), []⟩, ⟨(.some 64), (.pick (.tmp 51) (.tmp 63) (.const (.bool false))), (.some (48, false)), []⟩, ⟨(.some 65), (.pick (.tmp 48) (.const (.bool true)) (.tmp 64)), (.some (41, true)), []⟩, (qS 66 (.pick (.tmp 41) (.tmp 65) (.const (.bool false)))), (qS 67 (.mv (.tmp 66))), ⟨(.some 68), (.mv (.tmp 4)), (.some (67, false)), []⟩, ⟨(.some 69), (.pu (.n (.un .not)) [(.tmp 68)]), (.some (67, false)), []⟩, ⟨(.some 70), (.mv (.tmp 69)), (.some (67, false)), []⟩, ⟨(.some 71), (.mv (.tmp 0)), (.some (70, true)), []⟩, ⟨(.some 72), (.mv (.tmp 3)), (.some (70, true)), []⟩, ⟨(.some 73), (.idxS 12 (.tmp 71) (.tmp 72)), (.some (70, true)), []⟩, ⟨(.some 74), (.fieldA 1 (.tmp 73)), (.some (70, true)), []⟩, ⟨(.some 75), (.load 1 false (.tmp 74)), (.some (70, true)), []⟩, ⟨(.some 76), (.mv (.tmp 0)), (.some (70, true)), []⟩, ⟨(.some 77), (.mv (.tmp 3)), (.some (70, true)), []⟩, ⟨(.some 78), (.pu (.n (.ar .sub)) [(.tmp 77), (ic 1)]), (.some (70, true)), []⟩, ⟨(.some 79), (.idxS 12 (.tmp 76) (.tmp 78)), (.some (70, true)), []⟩, ⟨(.some 80), (.fieldA 1 (.tmp 79)), (.some (70, true)), []⟩, ⟨(.some 81), (.load 1 false (.tmp 80)), (.some (70, true)), []⟩, ⟨(.some 82), (.pu (.n (.ar .add)) [(.tmp 81), (ic 1)]), (.some (70, true)), []⟩, ⟨(.some 83), (.pu (.n (.ar .neq)) [(.tmp 75), (.tmp 82)]), (.some (70, true)), []⟩, ⟨(.some 84), (.pick (.tmp 70) (.tmp 83) (.const (.bool false))), (.some (67, false)), []⟩, (qS 85 (.pick (.tmp 67) (.const (.bool true)) (.tmp 84)))]) (.cond (.tmp 85) (.seq (.ops [(qS 2 (.mv (.const (.bool false))))]) .ret) .skip))))) (.ops [(qS 16 (.mv (.tmp 3))), (qS 17 (.pu (.n (.ar .add)) [(.tmp 16), (ic 1)])), (qS 3 (.mv (.tmp 17)))])))))) (.seq (.ops [(qS 86 (.mv (.tmp 0))), (qS 87 (.call (2 * f_spec_l08Counts) [(.tmp 86)])), (qS 5 (.allocV [(1, false)] [(.slice .none 0 0)])), ⟨.none, (.storeV [(1, false)] 1 (.tmp 5) (.tmp 87)), .none, []⟩]) (.seq (.ops [(qS 88 (.makeSl 1 false 8 [(.int .i64 0)] (ic 101) (ic 101))), (qS 6 (.mv (.tmp 88)))]) (.seq (.seq (.ops [(qS 7 (.mv (ic 0)))]) (.block 2 (.loop (.seq (.seq (.ops [(qS 89 (.mv (.tmp 7))), (qS 90 (.mv (.tmp 0))), (qS 91 (.len (.tmp 90))), (qS 92 (.pu (.n (.ar .lss)) [(.tmp 89), (.tmp 91)]))]) (.cond (.tmp 92) .skip (.exit 2))) (.seq (.block 3 (.seq (.seq (.ops [(qS 95 (.mv (.tmp 0))), (qS 96 (.load 1 true (.tmp 5))), (qS 97 (.mv (.tmp 0))), (qS 98 (.mv (.tmp 7))), (qS 99 (.idxS 12 (.tmp 97) (.tmp 98))), (qS 100 (.load 12 true (.tmp 99))), (qS 101 (.call (2 * f_spec_l08Causes) [(.tmp 95), (.tmp 96), (.tmp 100)])), (qS 102 (.pu (.n (.un .not)) [(.tmp 101)]))]) (.cond (.tmp 102) (.seq (.ops [(qS 2 (.mv (.const (.bool false))))]) .ret) .skip)) (.seq (.ops [(qS 103 (.mv (.tmp 0))), (qS 104 (.mv (.tmp 7))), (qS 105 (.idxS 12 (.tmp 103) (.tmp 104))), (qS 106 (.fieldA 4 (.tmp 105))), (qS 107 (.load 1 false (.tmp 106))), (qS 108 (.call (2 * f_spec_l08Thing) [(.tmp 107)])), (qS 8 (.mv (.tmp 108)))]) (.seq (.seq (.ops [(qS 109 (.mv (.tmp 6))), (qS 110 (.mv (.tmp 0))), (qS 111 (.mv (.tmp 7))), (qS 112 (.idxS 12 (.tmp 110) (.tmp 111))), (qS 113 (.fieldA 5 (.tmp 112))), (qS 114 (.load 1 false (.tmp 113))), (qS 115 (.idxS 1 (.tmp 109) (.tmp 114))), (qS 116 (.load 1 false (.tmp 115))), (qS 117 (.pu (.n (.ar .neq)) [(.tmp 116), (ic 0)])), (qS 118 (.mv (.tmp 117))), ⟨(.some 119), (.mv (.tmp 6)), (.some (118, true)), []⟩, ⟨(.some 120), (.mv (.tmp 0)), (.some (118, true)), []⟩, ⟨(.some 121), (.mv (.tmp 7)), (.some (118, true)), []⟩, ⟨(.some 122), (.idxS 12 (.tmp 120) (.tmp 121)), (.some (118, true)), []⟩, ⟨(.some 123), (.fieldA 5 (.tmp 122)), (.some (118, true)), []⟩, ⟨(.some 124), (.load 1 false (.tmp 123)), (.some (118, true)), []⟩, ⟨(.some 125), (.idxS 1 (.tmp 119) (.tmp 124)), (.some (118, true)), []⟩, ⟨(.some 126), (.load 1 false (.tmp 125)), (.some (118, true)), []⟩, ⟨(.some 127), (.mv (.tmp 8)), (.some (118, true)), []⟩, ⟨(.some 128), (.pu (.n (.ar .neq)) [(.tmp 126), (.tmp 127)]), (.some (118, true)), []⟩, (qS 129 (.pick (.tmp 118) (.tmp 128) (.const (.bool false))))]) (.cond (.tmp 129) (.seq (.ops [(qS 2 (.mv (.const (.bool false))))]) .ret) .skip)) (.ops [(qS 130 (.mv (.tmp 6))), (qS 131 (.mv (.tmp 0))), (qS 132 (.mv (.tmp 7))), (qS 133 (.idxS 12 (.tmp 131) (.tmp 132))), (qS 134 (.fieldA 5 (.tmp 133))), (qS 135 (.load 1 false (.tmp 134))), (qS 136 (.mv (.tmp 8))), (qS 137 (.idxS 1 (.tmp 130) (.tmp 135))), ⟨.none, (.storeV [(0, false)] 1 (.tmp 137) (.tmp 136)), .none, []⟩]))))) (.ops [(qS 93 (.mv (.tmp 7))), (qS 94 (.pu (.n (.ar .add)) [(.tmp 93), (ic 1)])), (qS 7 (.mv (.tmp 94)))])))))) (.seq (.ops [(qS 2 (.mv (.const (.bool true))))]) .ret))))))), [(.tmp 2)]⟩
set_option maxHeartbeats 10000000 in
theorem d_spec_LogOK {P : Program} {env : Env} {f_spec_l08OpOK : Nat} {f_spec_l08Counts : Nat} {f_spec_l08Causes : Nat} {f_spec_l08Thing : Nat}  (ep_spec_l08OpOK : env (2 * f_spec_l08OpOK) = pureFn true (FA fun a : TOp => p_spec_l08OpOK a)) (ep_spec_l08Counts : env (2 * f_spec_l08Counts) = pureFn true (FA fun a : List TOp => p_spec_l08Counts a)) (ep_spec_l08Causes : env (2 * f_spec_l08Causes) = pureFn true (FA fun a : List TOp × TVec × TOp => p_spec_l08Causes a.1 a.2.1 a.2.2)) (ep_spec_l08Thing : env (2 * f_spec_l08Thing) = pureFn true (FA fun a : Int => p_spec_l08Thing a)) (x0 : List TOp) {b : Bool} (hp : p_spec_LogOK x0 = some b) : R P env (c_spec_LogOK f_spec_l08OpOK f_spec_l08Counts f_spec_l08Causes f_spec_l08Thing) ((encA (x0)).map ofI) [] (Tells true b) := by
  refine R_of (by simp [c_spec_LogOK, encA]) ?_
  have E := And.intro opc (And.intro ep_spec_l08OpOK (And.intro ep_spec_l08Counts (And.intro ep_spec_l08Causes ep_spec_l08Thing)))
  unfold c_spec_LogOK
  unfold p_spec_LogOK at hp
  by_cases hb0 : (decide (1024 < (x0.length : Int))) = true
  · rw [if_t hb0] at hp
    have hp := Option.some.inj hp
    subst hp
    simp (maxSteps := 2000000) (disch := first|omega|(simp only[ls];first|done|omega)) only [E, hb0, gx]
  · replace hb0 := eq_false_of_ne_true hb0
    rw [if_f hb0] at hp
    obtain ⟨ee0, hee0, hp⟩ := bind_eq hp
    simp (maxSteps := 2000000) (disch := first|omega|(simp only[ls];first|done|omega)) only [E, hb0, gx]
    refine W_loopP 0 (fun s t h => match s with | s1 => t 0 = .i (.sl 12 (x0.map enc)) ∧ t 3 = .i (.s (.int .i64 s1))) (RK [.tmp 2] (Tells true)) ?_ hee0 ?_ ?_
    · rintro s1 ee tt0 hh0 ⟨ftt0_0, ftt0_1⟩ hp
      rw [p_spec_LogOK_l0] at hp
      by_cases hb2 : (decide (s1 < (x0.length : Int))) = true
      · rw [if_t hb2] at hp
        obtain ⟨v3, hv3, hp⟩ := bind_eq hp
        obtain ⟨v4, hv4, hp⟩ := bind_eq hp
        by_cases hb5 : (v4) = true
        · rw [if_t hb5] at hp
          by_cases hb6 : (decide (s1 = 0)) = true
          · rw [if_t hb6] at hp
            by_cases hb7 : (decide (v3.seq = 1)) = true
            · rw [if_t hb7] at hp
              by_cases hb8 : (decide (0 < s1)) = true
              · rw [if_t hb8] at hp
                obtain ⟨v9, hv9, hp⟩ := bind_eq hp
                by_cases hb10 : (decide (v3.actor < v9.actor)) = true
                · rw [if_t hb10] at hp
                  have hp := Option.some.inj hp
                  subst hp
                  simp (maxSteps := 2000000) (disch := first|omega|(simp only[ls];first|done|omega)) only [E, hb0, ftt0_0, ftt0_1, hb2, hv3, hv4, hb5, hb6, hb7, hb8, hv9, hb10, gx]
                · replace hb10 := eq_false_of_ne_true hb10
                  rw [if_f hb10] at hp
                  have hp := Option.some.inj hp
                  subst hp
                  simp (maxSteps := 2000000) (disch := first|omega|(simp only[ls];first|done|omega)) only [E, hb0, ftt0_0, ftt0_1, hb2, hv3, hv4, hb5, hb6, hb7, hb8, hv9, hb10, gx] <;> omega
              · replace hb8 := eq_false_of_ne_true hb8
                rw [if_f hb8] at hp
                have hp := Option.some.inj hp
                subst hp
                simp (maxSteps := 2000000) (disch := first|omega|(simp only[ls];first|done|omega)) only [E, hb0, ftt0_0, ftt0_1, hb2, hv3, hv4, hb5, hb6, hb7, hb8, gx] <;> omega
            · replace hb7 := eq_false_of_ne_true hb7
              rw [if_f hb7] at hp
              have hp := Option.some.inj hp
              subst hp
              simp (maxSteps := 2000000) (disch := first|omega|(simp only[ls];first|done|omega)) only [E, hb0, ftt0_0, ftt0_1, hb2, hv3, hv4, hb5, hb6, hb7, gx]
          · replace hb6 := eq_false_of_ne_true hb6
            rw [if_f hb6] at hp
            obtain ⟨v11, hv11, hp⟩ := bind_eq hp
            by_cases hb12 : (decide (v3.actor = v11.actor)) = true
            · rw [if_t hb12] at hp
              by_cases hb13 : (decide (v3.seq = w64 (v11.seq + 1))) = true
              · rw [if_t hb13] at hp
                have hp := Option.some.inj hp
                subst hp
                simp (maxSteps := 2000000) (disch := first|omega|(simp only[ls];first|done|omega)) only [E, hb0, ftt0_0, ftt0_1, hb2, hv3, hv4, hb5, hb6, hv11, hb12, hb13, gx] <;> omega
              · replace hb13 := eq_false_of_ne_true hb13
                rw [if_f hb13] at hp
                have hp := Option.some.inj hp
                subst hp
                simp (maxSteps := 2000000) (disch := first|omega|(simp only[ls];first|done|omega)) only [E, hb0, ftt0_0, ftt0_1, hb2, hv3, hv4, hb5, hb6, hv11, hb12, hb13, gx]
            · replace hb12 := eq_false_of_ne_true hb12
              rw [if_f hb12] at hp
              by_cases hb14 : (decide (v3.seq = 1)) = true
              · rw [if_t hb14] at hp
                by_cases hb15 : (decide (0 < s1)) = true
                · rw [if_t hb15] at hp
                  by_cases hb16 : (decide (v3.actor < v11.actor)) = true
                  · rw [if_t hb16] at hp
                    have hp := Option.some.inj hp
                    subst hp
                    simp (maxSteps := 2000000) (disch := first|omega|(simp only[ls];first|done|omega)) only [E, hb0, ftt0_0, ftt0_1, hb2, hv3, hv4, hb5, hb6, hv11, hb12, hb14, hb15, hb16, gx]
                  · replace hb16 := eq_false_of_ne_true hb16
                    rw [if_f hb16] at hp
                    have hp := Option.some.inj hp
                    subst hp
                    simp (maxSteps := 2000000) (disch := first|omega|(simp only[ls];first|done|omega)) only [E, hb0, ftt0_0, ftt0_1, hb2, hv3, hv4, hb5, hb6, hv11, hb12, hb14, hb15, hb16, gx] <;> omega
                · replace hb15 := eq_false_of_ne_true hb15
                  rw [if_f hb15] at hp
                  have hp := Option.some.inj hp
                  subst hp
                  simp (maxSteps := 2000000) (disch := first|omega|(simp only[ls];first|done|omega)) only [E, hb0, ftt0_0, ftt0_1, hb2, hv3, hv4, hb5, hb6, hv11, hb12, hb14, hb15, gx] <;> omega
              · replace hb14 := eq_false_of_ne_true hb14
                rw [if_f hb14] at hp
                have hp := Option.some.inj hp
                subst hp
                simp (maxSteps := 2000000) (disch := first|omega|(simp only[ls];first|done|omega)) only [E, hb0, ftt0_0, ftt0_1, hb2, hv3, hv4, hb5, hb6, hv11, hb12, hb14, gx]
        · replace hb5 := eq_false_of_ne_true hb5
          rw [if_f hb5] at hp
          have hp := Option.some.inj hp
          subst hp
          simp (maxSteps := 2000000) (disch := first|omega|(simp only[ls];first|done|omega)) only [E, hb0, ftt0_0, ftt0_1, hb2, hv3, hv4, hb5, gx]
      · replace hb2 := eq_false_of_ne_true hb2
        rw [if_f hb2] at hp
        have hp := Option.some.inj hp
        subst hp
        simp (maxSteps := 2000000) (disch := first|omega|(simp only[ls];first|done|omega)) only [E, hb0, ftt0_0, ftt0_1, hb2, gx] <;> omega
    · simp (maxSteps := 2000000) (disch := first|omega|(simp only[ls];first|done|omega)) only [E, hb0, gx] <;> omega
    · intro x tt1 hh1 hx
      rcases ee0 with o17 | r
      · obtain ⟨rfl, ftt1_0, ftt1_1⟩ := hx
        dsimp only at hp
        obtain ⟨v18, hv18, hp⟩ := bind_eq hp
        obtain ⟨v19, hv19, hp⟩ := bind_eq hp
        obtain ⟨kv19, qv19, lv19⟩ := mkL_some hv19
        have rv19 : [.i (.s (.int .i64 0)), .i (.s (.int .i64 0)), .i (.s (.int .i64 0)), .i (.s (.int .i64 0)), .i (.s (.int .i64 0)), .i (.s (.int .i64 0)), .i (.s (.int .i64 0)), .i (.s (.int .i64 0)), .i (.s (.int .i64 0)), .i (.s (.int .i64 0)), .i (.s (.int .i64 0)), .i (.s (.int .i64 0)), .i (.s (.int .i64 0)), .i (.s (.int .i64 0)), .i (.s (.int .i64 0)), .i (.s (.int .i64 0)), .i (.s (.int .i64 0)), .i (.s (.int .i64 0)), .i (.s (.int .i64 0)), .i (.s (.int .i64 0)), .i (.s (.int .i64 0)), .i (.s (.int .i64 0)), .i (.s (.int .i64 0)), .i (.s (.int .i64 0)), .i (.s (.int .i64 0)), .i (.s (.int .i64 0)), .i (.s (.int .i64 0)), .i (.s (.int .i64 0)), .i (.s (.int .i64 0)), .i (.s (.int .i64 0)), .i (.s (.int .i64 0)), .i (.s (.int .i64 0)), .i (.s (.int .i64 0)), .i (.s (.int .i64 0)), .i (.s (.int .i64 0)), .i (.s (.int .i64 0)), .i (.s (.int .i64 0)), .i (.s (.int .i64 0)), .i (.s (.int .i64 0)), .i (.s (.int .i64 0)), .i (.s (.int .i64 0)), .i (.s (.int .i64 0)), .i (.s (.int .i64 0)), .i (.s (.int .i64 0)), .i (.s (.int .i64 0)), .i (.s (.int .i64 0)), .i (.s (.int .i64 0)), .i (.s (.int .i64 0)), .i (.s (.int .i64 0)), .i (.s (.int .i64 0)), .i (.s (.int .i64 0)), .i (.s (.int .i64 0)), .i (.s (.int .i64 0)), .i (.s (.int .i64 0)), .i (.s (.int .i64 0)), .i (.s (.int .i64 0)), .i (.s (.int .i64 0)), .i (.s (.int .i64 0)), .i (.s (.int .i64 0)), .i (.s (.int .i64 0)), .i (.s (.int .i64 0)), .i (.s (.int .i64 0)), .i (.s (.int .i64 0)), .i (.s (.int .i64 0)), .i (.s (.int .i64 0)), .i (.s (.int .i64 0)), .i (.s (.int .i64 0)), .i (.s (.int .i64 0)), .i (.s (.int .i64 0)), .i (.s (.int .i64 0)), .i (.s (.int .i64 0)), .i (.s (.int .i64 0)), .i (.s (.int .i64 0)), .i (.s (.int .i64 0)), .i (.s (.int .i64 0)), .i (.s (.int .i64 0)), .i (.s (.int .i64 0)), .i (.s (.int .i64 0)), .i (.s (.int .i64 0)), .i (.s (.int .i64 0)), .i (.s (.int .i64 0)), .i (.s (.int .i64 0)), .i (.s (.int .i64 0)), .i (.s (.int .i64 0)), .i (.s (.int .i64 0)), .i (.s (.int .i64 0)), .i (.s (.int .i64 0)), .i (.s (.int .i64 0)), .i (.s (.int .i64 0)), .i (.s (.int .i64 0)), .i (.s (.int .i64 0)), .i (.s (.int .i64 0)), .i (.s (.int .i64 0)), .i (.s (.int .i64 0)), .i (.s (.int .i64 0)), .i (.s (.int .i64 0)), .i (.s (.int .i64 0)), .i (.s (.int .i64 0)), .i (.s (.int .i64 0)), .i (.s (.int .i64 0)), .i (.s (.int .i64 0))] = rows v19 := by rw [qv19]; rfl
        have mv19 : 101 = v19.length := by rw [lv19]; simp
        obtain ⟨ee1, hee1, hp⟩ := bind_eq hp
        simp (maxSteps := 2000000) (disch := first|omega|(simp only[ls];first|done|omega)) only [E, hb0, ftt1_0, ftt1_1, hv18, hv19, rv19, kv19.1, kv19.2.1, kv19.2.2.1, kv19.2.2.2, gx]
        refine W_loopP 2 (fun s t h => match s with | (s20, s21) => t 0 = .i (.sl 12 (x0.map enc)) ∧ t 5 = .ptr (hh1.length + 1) 1 0 ∧ t 6 = .hsl (hh1.length + 2) 101 0 1 false 101 ∧ t 7 = .i (.s (.int .i64 s21)) ∧ getCells h (hh1.length + 1) 1 = some [.i (.sl 1 (v18.counts.map enc))] ∧ hh1.length + 1 < h.length ∧ getCells h (hh1.length + 2) 101 = some (rows (s20 : List Int)) ∧ hh1.length + 2 < h.length) (RK [.tmp 2] (Tells true)) ?_ hee1 ?_ ?_
        · rintro ⟨s20, s21⟩ ee tt2 hh2 ⟨ftt2_0, ftt2_1, ftt2_2, ftt2_3, ftt2_4, ftt2_5, ftt2_6, ftt2_7⟩ hp
          have ztt2_6 := len_rows ftt2_6
          simp only [zs] at ztt2_6
          rw [p_spec_LogOK_l1] at hp
          by_cases hb22 : (decide (s21 < (x0.length : Int))) = true
          · rw [if_t hb22] at hp
            obtain ⟨v23, hv23, hp⟩ := bind_eq hp
            obtain ⟨v24, hv24, hp⟩ := bind_eq hp
            by_cases hb25 : (v24) = true
            · rw [if_t hb25] at hp
              obtain ⟨v26, hv26, hp⟩ := bind_eq hp
              obtain ⟨v27, hv27, hp⟩ := bind_eq hp
              have gv27 := get_some hv27
              have hl28 : List.take 1 (List.drop v23.obj.toNat (rows s20)) = [.i (.s (.int .i64 v27))] := by simpa [zs, cellsV, I.cells, enc_int] using rows_get_off (k := 0) (m := 1) gv27.2.2 (Nat.le_of_ble_eq_true rfl)
              by_cases hb29 : (decide (v27 = 0)) = true
              · rw [if_t hb29] at hp
                have hs30 : List.take v23.obj.toNat (rows s20) ++ .i (.s (.int .i64 v26)) :: List.drop (v23.obj.toNat + 1) (rows s20) = rows (s20.set v23.obj.toNat v26) := by simpa [splice, zs, cellsV, I.cells, enc_int] using rows_set_off (y := v26) (ys := [.i (.s (.int .i64 v26))]) (k := 0) gv27.2.2 (Nat.le_of_ble_eq_true rfl) (by rfl)
                have hp := Option.some.inj hp
                subst hp
                simp (maxSteps := 2000000) (disch := first|omega|(simp only[ls];first|done|omega)) only [E, hb0, ftt1_0, ftt1_1, hv18, hv19, rv19, kv19.1, kv19.2.1, kv19.2.2.1, kv19.2.2.2, ftt2_0, ftt2_1, ftt2_2, ftt2_3, ftt2_4, ftt2_5, ftt2_6, ftt2_7, hb22, hv23, hv24, hb25, hv26, hv27, (gv27).1, (gv27).2.1, hl28, hb29, hs30, gx] <;> omega
              · replace hb29 := eq_false_of_ne_true hb29
                rw [if_f hb29] at hp
                have hl31 : List.take 1 (List.drop v23.obj.toNat (rows s20)) = [.i (.s (.int .i64 v27))] := by simpa [zs, cellsV, I.cells, enc_int] using rows_get_off (k := 0) (m := 1) gv27.2.2 (Nat.le_of_ble_eq_true rfl)
                by_cases hb32 : (decide (v27 = v26)) = true
                · rw [if_t hb32] at hp
                  have hs33 : List.take v23.obj.toNat (rows s20) ++ .i (.s (.int .i64 v26)) :: List.drop (v23.obj.toNat + 1) (rows s20) = rows (s20.set v23.obj.toNat v26) := by simpa [splice, zs, cellsV, I.cells, enc_int] using rows_set_off (y := v26) (ys := [.i (.s (.int .i64 v26))]) (k := 0) gv27.2.2 (Nat.le_of_ble_eq_true rfl) (by rfl)
                  have hp := Option.some.inj hp
                  subst hp
                  simp (maxSteps := 2000000) (disch := first|omega|(simp only[ls];first|done|omega)) only [E, hb0, ftt1_0, ftt1_1, hv18, hv19, rv19, kv19.1, kv19.2.1, kv19.2.2.1, kv19.2.2.2, ftt2_0, ftt2_1, ftt2_2, ftt2_3, ftt2_4, ftt2_5, ftt2_6, ftt2_7, hb22, hv23, hv24, hb25, hv26, hv27, (gv27).1, (gv27).2.1, hl28, hb29, hl31, hb32, hs33, gx] <;> omega
                · replace hb32 := eq_false_of_ne_true hb32
                  rw [if_f hb32] at hp
                  have hp := Option.some.inj hp
                  subst hp
                  simp (maxSteps := 2000000) (disch := first|omega|(simp only[ls];first|done|omega)) only [E, hb0, ftt1_0, ftt1_1, hv18, hv19, rv19, kv19.1, kv19.2.1, kv19.2.2.1, kv19.2.2.2, ftt2_0, ftt2_1, ftt2_2, ftt2_3, ftt2_4, ftt2_5, ftt2_6, ftt2_7, hb22, hv23, hv24, hb25, hv26, hv27, (gv27).1, (gv27).2.1, hl28, hb29, hl31, hb32, gx]
            · replace hb25 := eq_false_of_ne_true hb25
              rw [if_f hb25] at hp
              have hp := Option.some.inj hp
              subst hp
              simp (maxSteps := 2000000) (disch := first|omega|(simp only[ls];first|done|omega)) only [E, hb0, ftt1_0, ftt1_1, hv18, hv19, rv19, kv19.1, kv19.2.1, kv19.2.2.1, kv19.2.2.2, ftt2_0, ftt2_1, ftt2_2, ftt2_3, ftt2_4, ftt2_5, ftt2_6, ftt2_7, hb22, hv23, hv24, hb25, gx]
          · replace hb22 := eq_false_of_ne_true hb22
            rw [if_f hb22] at hp
            have hp := Option.some.inj hp
            subst hp
            simp (maxSteps := 2000000) (disch := first|omega|(simp only[ls];first|done|omega)) only [E, hb0, ftt1_0, ftt1_1, hv18, hv19, rv19, kv19.1, kv19.2.1, kv19.2.2.1, kv19.2.2.2, ftt2_0, ftt2_1, ftt2_2, ftt2_3, ftt2_4, ftt2_5, ftt2_6, ftt2_7, hb22, gx] <;> omega
        · simp (maxSteps := 2000000) (disch := first|omega|(simp only[ls];first|done|omega)) only [E, hb0, ftt1_0, ftt1_1, hv18, hv19, rv19, kv19.1, kv19.2.1, kv19.2.2.1, kv19.2.2.2, gx] <;> omega
        · intro x tt3 hh3 hx
          rcases ee1 with ⟨o34, o35⟩ | r
          · obtain ⟨rfl, ftt3_0, ftt3_1, ftt3_2, ftt3_3, ftt3_4, ftt3_5, ftt3_6, ftt3_7⟩ := hx
            have ztt3_6 := len_rows ftt3_6
            simp only [zs] at ztt3_6
            dsimp only at hp
            have hp := Option.some.inj hp
            subst hp
            simp (maxSteps := 2000000) (disch := first|omega|(simp only[ls];first|done|omega)) only [E, hb0, ftt1_0, ftt1_1, hv18, hv19, rv19, kv19.1, kv19.2.1, kv19.2.2.1, kv19.2.2.2, ftt3_0, ftt3_1, ftt3_2, ftt3_3, ftt3_4, ftt3_5, ftt3_6, ftt3_7, gx]
          · obtain ⟨rfl, hx⟩ := hx
            dsimp only at hp
            cases hp
            simp only [seqK_ret, blockK_ret, retK_RK (K := Tells true), hx, and_self, true_and]
      · obtain ⟨rfl, hx⟩ := hx
        dsimp only at hp
        cases hp
        simp only [seqK_ret, blockK_ret, retK_RK (K := Tells true), hx, and_self, true_and]

noncomputable def p_impl_Op_stamp (x0 : TOp) : Option TStamp :=
  some (TStamp.mk x0.time x0.actor)
def c_impl_Op_stamp : AFn := ⟨8, (.seq (.ops [(qS 1 (.box (.tmp 0))), (qS 2 (.allocV [(0, false), (0, false)] [(.int .i64 0), (.int .i64 0)]))]) (.seq (.ops [(qS 3 (.fieldA 2 (.tmp 1))), (qS 4 (.load 1 false (.tmp 3))), (qS 5 (.fieldA 0 (.tmp 1))), (qS 6 (.load 1 false (.tmp 5))), (qS 7 (.build [(.int .i64 0), (.int .i64 0)] [(0, (1, (.tmp 4))), (1, (1, (.tmp 6)))])), ⟨.none, (.storeV [(0, false), (0, false)] 2 (.tmp 2) (.tmp 7)), .none, []⟩]) .ret)), [(.cell 2 2 true)]⟩
set_option maxHeartbeats 10000000 in
theorem d_impl_Op_stamp {P : Program} {env : Env}  (x0 : TOp) {b : TStamp} (hp : p_impl_Op_stamp x0 = some b) : R P env (c_impl_Op_stamp) ((encA (x0)).map ofI) [] (Tells true b) := by
  refine R_of (by simp [c_impl_Op_stamp, encA]) ?_
  unfold c_impl_Op_stamp
  unfold p_impl_Op_stamp at hp
  have hp := Option.some.inj hp
  subst hp
  simp (maxSteps := 2000000) (disch := first|omega|(simp only[ls];first|done|omega)) only [gx]

noncomputable def p_impl_isActor (x0 : Int) : Option Bool :=
  if (decide (0 ≤ x0)) = true then
    some (decide (x0 < 16))
  else
    some false
def c_impl_isActor : AFn := ⟨9, (.seq (.ops [(qS 2 (.mv (.const (.bool false))))]) (.seq (.ops [(qS 3 (.mv (.tmp 0))), (qS 4 (.pu (.n (.ar .geq)) [(.tmp 3), (ic 0)])), (qS 5 (.mv (.tmp 4))), ⟨(.some 6), (.mv (.tmp 0)), (.some (5, true)), []⟩, ⟨(.some 7), (.pu (.n (.ar .lss)) [(.tmp 6), (ic 16)]), (.some (5, true)), []⟩, (qS 8 (.pick (.tmp 5) (.tmp 7) (.const (.bool false)))), (qS 2 (.mv (.tmp 8)))]) .ret)), [(.tmp 2)]⟩
set_option maxHeartbeats 10000000 in
theorem d_impl_isActor {P : Program} {env : Env}  (x0 : Int) {b : Bool} (hp : p_impl_isActor x0 = some b) : R P env (c_impl_isActor) ((encA (x0)).map ofI) [] (Tells true b) := by
  refine R_of (by simp [c_impl_isActor, encA]) ?_
  unfold c_impl_isActor
  unfold p_impl_isActor at hp
  by_cases hb0 : (decide (0 ≤ x0)) = true
  · rw [if_t hb0] at hp
    have hp := Option.some.inj hp
    subst hp
    simp (maxSteps := 2000000) (disch := first|omega|(simp only[ls];first|done|omega)) only [hb0, gx]
  · replace hb0 := eq_false_of_ne_true hb0
    rw [if_f hb0] at hp
    have hp := Option.some.inj hp
    subst hp
    simp (maxSteps := 2000000) (disch := first|omega|(simp only[ls];first|done|omega)) only [hb0, gx]

noncomputable def p_impl_StampOK (x0 : TStamp) : Option Bool :=
  if (decide (1 ≤ x0.time)) = true then
    if (decide (x0.time ≤ 1000000000000)) = true then
      (p_impl_isActor x0.actor).bind fun v2 =>
      some v2
    else
      some false
  else
    some false
def c_impl_StampOK (f_impl_isActor : Nat) : AFn := ⟨16, (.seq (.ops [(qS 1 (.box (.tmp 0))), (qS 2 (.mv (.const (.bool false))))]) (.seq (.ops [(qS 3 (.fieldA 0 (.tmp 1))), (qS 4 (.load 1 false (.tmp 3))), (qS 5 (.pu (.n (.ar .geq)) [(.tmp 4), (ic 1)])), (qS 6 (.mv (.tmp 5))), ⟨(.some 7), (.fieldA 0 (.tmp 1)), (.some (6, true)), []⟩, ⟨(.some 8), (.load 1 false (.tmp 7)), (.some (6, true)), []⟩, ⟨(.some 9), (.pu (.n (.ar .leq)) [(.tmp 8), (ic 1000000000000)]), (.some (6, true)), []⟩, (qS 10 (.pick (.tmp 6) (.tmp 9) (.const (.bool false)))), (qS 11 (.mv (.tmp 10))), ⟨(.some 12), (.fieldA 1 (.tmp 1)), (.some (11, true)), []⟩, ⟨(.some 13), (.load 1 false (.tmp 12)), (.some (11, true)), []⟩, ⟨(.some 14), (.call (2 * f_impl_isActor) [(.tmp 13)]), (.some (11, true)), []⟩, (qS 15 (.pick (.tmp 11) (.tmp 14) (.const (.bool false)))), (qS 2 (.mv (.tmp 15)))]) .ret)), [(.tmp 2)]⟩
set_option maxHeartbeats 10000000 in
theorem d_impl_StampOK {P : Program} {env : Env} {f_impl_isActor : Nat}  (ep_impl_isActor : env (2 * f_impl_isActor) = pureFn true (FA fun a : Int => p_impl_isActor a)) (x0 : TStamp) {b : Bool} (hp : p_impl_StampOK x0 = some b) : R P env (c_impl_StampOK f_impl_isActor) ((encA (x0)).map ofI) [] (Tells true b) := by
  refine R_of (by simp [c_impl_StampOK, encA]) ?_
  have E := ep_impl_isActor
  unfold c_impl_StampOK
  unfold p_impl_StampOK at hp
  by_cases hb0 : (decide (1 ≤ x0.time)) = true
  · rw [if_t hb0] at hp
    by_cases hb1 : (decide (x0.time ≤ 1000000000000)) = true
    · rw [if_t hb1] at hp
      obtain ⟨v2, hv2, hp⟩ := bind_eq hp
      have hp := Option.some.inj hp
      subst hp
      simp (maxSteps := 2000000) (disch := first|omega|(simp only[ls];first|done|omega)) only [E, hb0, hb1, hv2, gx]
    · replace hb1 := eq_false_of_ne_true hb1
      rw [if_f hb1] at hp
      have hp := Option.some.inj hp
      subst hp
      simp (maxSteps := 2000000) (disch := first|omega|(simp only[ls];first|done|omega)) only [E, hb0, hb1, gx]
  · replace hb0 := eq_false_of_ne_true hb0
    rw [if_f hb0] at hp
    have hp := Option.some.inj hp
    subst hp
    simp (maxSteps := 2000000) (disch := first|omega|(simp only[ls];first|done|omega)) only [E, hb0, gx]

noncomputable def p_impl_VecOK_l0 (x0 : TVec) : Int → Option (Lp (Int) Bool)
  | s1 =>
    if (decide (s1 < (x0.counts.length : Int))) = true then
      (get? x0.counts s1).bind fun v3 =>
      if (decide (v3 < 0)) = true then
        some (.ret false)
      else
        if (decide (1000000000000 < v3)) = true then
          some (.ret false)
        else
          some (.go (w64 (s1 + 1)))
    else
      some (.out s1)
noncomputable def p_impl_VecOK (x0 : TVec) : Option Bool :=
  if (decide ((x0.counts.length : Int) = 16)) = true then
    (loopP (p_impl_VecOK_l0 x0) 0).bind fun ee0 => match ee0 with
    | .ret r => some r
    | .out o6 =>
      some true
  else
    some false
def c_impl_VecOK : AFn := ⟨23, (.seq (.ops [(qS 1 (.box (.tmp 0))), (qS 2 (.mv (.const (.bool false))))]) (.seq (.seq (.ops [(qS 5 (.fieldA 0 (.tmp 1))), (qS 6 (.load 1 false (.tmp 5))), (qS 7 (.len (.tmp 6))), (qS 8 (.pu (.n (.ar .neq)) [(.tmp 7), (ic 16)]))]) (.cond (.tmp 8) (.seq (.ops [(qS 2 (.mv (.const (.bool false))))]) .ret) .skip)) (.seq (.seq (.ops [(qS 9 (.fieldA 0 (.tmp 1))), (qS 10 (.load 1 false (.tmp 9))), (qS 11 (.len (.tmp 10))), (qS 12 (.mv (ic 0)))]) (.block 0 (.loop (.seq (.ops [(qS 13 (.pu (.n (.ar .lss)) [(.tmp 12), (.tmp 11)]))]) (.seq (.cond (.tmp 13) .skip (.exit 0)) (.seq (.block 1 (.seq (.ops [(qS 14 (.idxS 1 (.tmp 10) (.tmp 12))), (qS 15 (.load 1 false (.tmp 14))), (qS 4 (.mv (.tmp 15)))]) (.seq (.ops [(qS 16 (.mv (.tmp 4))), (qS 17 (.pu (.n (.ar .lss)) [(.tmp 16), (ic 0)])), (qS 18 (.mv (.tmp 17))), ⟨(.some 19), (.mv (.tmp 4)), (.some (18, false)), []⟩, ⟨(.some 20), (.pu (.n (.ar .gtr)) [(.tmp 19), (ic 1000000000000)]), (.some (18, false)), []⟩, (qS 21 (.pick (.tmp 18) (.const (.bool true)) (.tmp 20)))]) (.cond (.tmp 21) (.seq (.ops [(qS 2 (.mv (.const (.bool false))))]) .ret) .skip)))) (.ops [(qS 22 (.pu (.n (.ar .add)) [(.tmp 12), (ic 1)])), (qS 12 (.mv (.tmp 22)))]))))))) (.seq (.ops [(qS 2 (.mv (.const (.bool true))))]) .ret)))), [(.tmp 2)]⟩
set_option maxHeartbeats 10000000 in
theorem d_impl_VecOK {P : Program} {env : Env}  (x0 : TVec) {b : Bool} (hp : p_impl_VecOK x0 = some b) : R P env (c_impl_VecOK) ((encA (x0)).map ofI) [] (Tells true b) := by
  refine R_of (by simp [c_impl_VecOK, encA]) ?_
  unfold c_impl_VecOK
  unfold p_impl_VecOK at hp
  by_cases hb0 : (decide ((x0.counts.length : Int) = 16)) = true
  · rw [if_t hb0] at hp
    obtain ⟨ee0, hee0, hp⟩ := bind_eq hp
    simp (maxSteps := 2000000) (disch := first|omega|(simp only[ls];first|done|omega)) only [hb0, gx]
    refine W_loopP 0 (fun s t h => match s with | s1 => t 10 = .i (.sl 1 (x0.counts.map enc)) ∧ t 11 = .i (.s (.int .i64 (x0.counts.length : Int))) ∧ t 12 = .i (.s (.int .i64 s1))) (RK [.tmp 2] (Tells true)) ?_ hee0 ?_ ?_
    · rintro s1 ee tt0 hh0 ⟨ftt0_0, ftt0_1, ftt0_2⟩ hp
      rw [p_impl_VecOK_l0] at hp
      by_cases hb2 : (decide (s1 < (x0.counts.length : Int))) = true
      · rw [if_t hb2] at hp
        obtain ⟨v3, hv3, hp⟩ := bind_eq hp
        by_cases hb4 : (decide (v3 < 0)) = true
        · rw [if_t hb4] at hp
          have hp := Option.some.inj hp
          subst hp
          simp (maxSteps := 2000000) (disch := first|omega|(simp only[ls];first|done|omega)) only [hb0, ftt0_0, ftt0_1, ftt0_2, hb2, hv3, hb4, gx]
        · replace hb4 := eq_false_of_ne_true hb4
          rw [if_f hb4] at hp
          by_cases hb5 : (decide (1000000000000 < v3)) = true
          · rw [if_t hb5] at hp
            have hp := Option.some.inj hp
            subst hp
            simp (maxSteps := 2000000) (disch := first|omega|(simp only[ls];first|done|omega)) only [hb0, ftt0_0, ftt0_1, ftt0_2, hb2, hv3, hb4, hb5, gx]
          · replace hb5 := eq_false_of_ne_true hb5
            rw [if_f hb5] at hp
            have hp := Option.some.inj hp
            subst hp
            simp (maxSteps := 2000000) (disch := first|omega|(simp only[ls];first|done|omega)) only [hb0, ftt0_0, ftt0_1, ftt0_2, hb2, hv3, hb4, hb5, gx] <;> omega
      · replace hb2 := eq_false_of_ne_true hb2
        rw [if_f hb2] at hp
        have hp := Option.some.inj hp
        subst hp
        simp (maxSteps := 2000000) (disch := first|omega|(simp only[ls];first|done|omega)) only [hb0, ftt0_0, ftt0_1, ftt0_2, hb2, gx] <;> omega
    · simp (maxSteps := 2000000) (disch := first|omega|(simp only[ls];first|done|omega)) only [hb0, gx] <;> omega
    · intro x tt1 hh1 hx
      rcases ee0 with o6 | r
      · obtain ⟨rfl, ftt1_0, ftt1_1, ftt1_2⟩ := hx
        dsimp only at hp
        have hp := Option.some.inj hp
        subst hp
        simp (maxSteps := 2000000) (disch := first|omega|(simp only[ls];first|done|omega)) only [hb0, ftt1_0, ftt1_1, ftt1_2, gx]
      · obtain ⟨rfl, hx⟩ := hx
        dsimp only at hp
        cases hp
        simp only [seqK_ret, blockK_ret, retK_RK (K := Tells true), hx, and_self, true_and]
  · replace hb0 := eq_false_of_ne_true hb0
    rw [if_f hb0] at hp
    have hp := Option.some.inj hp
    subst hp
    simp (maxSteps := 2000000) (disch := first|omega|(simp only[ls];first|done|omega)) only [hb0, gx]

noncomputable def p_impl_StampLess (x0 : TStamp) (x1 : TStamp) : Option Bool :=
  if (decide (x0.time = x1.time)) = true then
    some (decide (x0.actor < x1.actor))
  else
    some (decide (x0.time < x1.time))
def c_impl_StampLess : AFn := ⟨20, (.seq (.ops [(qS 2 (.box (.tmp 0))), (qS 3 (.box (.tmp 1))), (qS 4 (.mv (.const (.bool false))))]) (.seq (.seq (.ops [(qS 5 (.fieldA 0 (.tmp 2))), (qS 6 (.load 1 false (.tmp 5))), (qS 7 (.fieldA 0 (.tmp 3))), (qS 8 (.load 1 false (.tmp 7))), (qS 9 (.pu (.n (.ar .neq)) [(.tmp 6), (.tmp 8)]))]) (.cond (.tmp 9) (.seq (.ops [(qS 10 (.fieldA 0 (.tmp 2))), (qS 11 (.load 1 false (.tmp 10))), (qS 12 (.fieldA 0 (.tmp 3))), (qS 13 (.load 1 false (.tmp 12))), (qS 14 (.pu (.n (.ar .lss)) [(.tmp 11), (.tmp 13)])), (qS 4 (.mv (.tmp 14)))]) .ret) .skip)) (.seq (.ops [(qS 15 (.fieldA 1 (.tmp 2))), (qS 16 (.load 1 false (.tmp 15))), (qS 17 (.fieldA 1 (.tmp 3))), (qS 18 (.load 1 false (.tmp 17))), (qS 19 (.pu (.n (.ar .lss)) [(.tmp 16), (.tmp 18)])), (qS 4 (.mv (.tmp 19)))]) .ret))), [(.tmp 4)]⟩
set_option maxHeartbeats 10000000 in
theorem d_impl_StampLess {P : Program} {env : Env}  (x0 : TStamp) (x1 : TStamp) {b : Bool} (hp : p_impl_StampLess x0 x1 = some b) : R P env (c_impl_StampLess) ((encA (x0, x1)).map ofI) [] (Tells true b) := by
  refine R_of (by simp [c_impl_StampLess, encA]) ?_
  unfold c_impl_StampLess
  unfold p_impl_StampLess at hp
  by_cases hb0 : (decide (x0.time = x1.time)) = true
  · rw [if_t hb0] at hp
    have hp := Option.some.inj hp
    subst hp
    simp (maxSteps := 2000000) (disch := first|omega|(simp only[ls];first|done|omega)) only [hb0, gx]
  · replace hb0 := eq_false_of_ne_true hb0
    rw [if_f hb0] at hp
    have hp := Option.some.inj hp
    subst hp
    simp (maxSteps := 2000000) (disch := first|omega|(simp only[ls];first|done|omega)) only [hb0, gx]

noncomputable def p_impl_charOK (x0 : Int) : Option Bool :=
  if (decide (0 ≤ x0)) = true then
    if (decide (x0 ≤ 1114111)) = true then
      if (decide (x0 < 55296)) = true then
        some true
      else
        some (decide (57343 < x0))
    else
      some false
  else
    some false
def c_impl_charOK : AFn := ⟨17, (.seq (.ops [(qS 2 (.mv (.const (.bool false))))]) (.seq (.ops [(qS 3 (.mv (.tmp 0))), (qS 4 (.pu (.n (.ar .geq)) [(.tmp 3), (ic 0)])), (qS 5 (.mv (.tmp 4))), ⟨(.some 6), (.mv (.tmp 0)), (.some (5, true)), []⟩, ⟨(.some 7), (.pu (.n (.ar .leq)) [(.tmp 6), (ic 1114111)]), (.some (5, true)), []⟩, (qS 8 (.pick (.tmp 5) (.tmp 7) (.const (.bool false)))), (qS 9 (.mv (.tmp 8))), ⟨(.some 10), (.mv (.tmp 0)), (.some (9, true)), []⟩, ⟨(.some 11), (.pu (.n (.ar .lss)) [(.tmp 10), (ic 55296)]), (.some (9, true)), []⟩, ⟨(.some 12), (.mv (.tmp 11)), (.some (9, true)), []⟩, ⟨(.some 13), (.mv (.tmp 0)), (.some (12, false)), []⟩, ⟨(.some 14), (.pu (.n (.ar .gtr)) [(.tmp 13), (ic 57343)]), (.some (12, false)), []⟩, ⟨(.some 15), (.pick (.tmp 12) (.const (.bool true)) (.tmp 14)), (.some (9, true)), []⟩, (qS 16 (.pick (.tmp 9) (.tmp 15) (.const (.bool false)))), (qS 2 (.mv (.tmp 16)))]) .ret)), [(.tmp 2)]⟩
set_option maxHeartbeats 10000000 in
theorem d_impl_charOK {P : Program} {env : Env}  (x0 : Int) {b : Bool} (hp : p_impl_charOK x0 = some b) : R P env (c_impl_charOK) ((encA (x0)).map ofI) [] (Tells true b) := by
  refine R_of (by simp [c_impl_charOK, encA]) ?_
  unfold c_impl_charOK
  unfold p_impl_charOK at hp
  by_cases hb0 : (decide (0 ≤ x0)) = true
  · rw [if_t hb0] at hp
    by_cases hb1 : (decide (x0 ≤ 1114111)) = true
    · rw [if_t hb1] at hp
      by_cases hb2 : (decide (x0 < 55296)) = true
      · rw [if_t hb2] at hp
        have hp := Option.some.inj hp
        subst hp
        simp (maxSteps := 2000000) (disch := first|omega|(simp only[ls];first|done|omega)) only [hb0, hb1, hb2, gx]
      · replace hb2 := eq_false_of_ne_true hb2
        rw [if_f hb2] at hp
        have hp := Option.some.inj hp
        subst hp
        simp (maxSteps := 2000000) (disch := first|omega|(simp only[ls];first|done|omega)) only [hb0, hb1, hb2, gx]
    · replace hb1 := eq_false_of_ne_true hb1
      rw [if_f hb1] at hp
      have hp := Option.some.inj hp
      subst hp
      simp (maxSteps := 2000000) (disch := first|omega|(simp only[ls];first|done|omega)) only [hb0, hb1, gx]
  · replace hb0 := eq_false_of_ne_true hb0
    rw [if_f hb0] at hp
    have hp := Option.some.inj hp
    subst hp
    simp (maxSteps := 2000000) (disch := first|omega|(simp only[ls];first|done|omega)) only [hb0, gx]

noncomputable def p_impl_opOK (x0 : TOp) : Option Bool :=
  (p_impl_Op_stamp x0).bind fun v0 =>
  (p_impl_StampOK v0).bind fun v1 =>
  if (v1) = true then
    if (decide (x0.seq < 1)) = true then
      some false
    else
      if (decide (1000000000000 < x0.seq)) = true then
        some false
      else
        (p_impl_VecOK x0.deps).bind fun v5 =>
        if (v5) = true then
          (get? x0.deps.counts x0.actor).bind fun v7 =>
          if (decide (v7 = w64 (x0.seq - 1))) = true then
            if (decide (x0.obj < 1)) = true then
              some false
            else
              if (decide (100 < x0.obj)) = true then
                some false
              else
                if (decide (x0.n < (-1000000000000))) = true then
                  some false
                else
                  if (decide (1000000000000 < x0.n)) = true then
                    some false
                  else
                    if (decide (x0.undo < 0)) = true then
                      some false
                    else
                      if (decide (x0.seq ≤ x0.undo)) = true then
                        some false
                      else
                        if (decide (200 < (x0.key.size : Int))) = true then
                          some false
                        else
                          if (decide (200 < (x0.text.size : Int))) = true then
                            some false
                          else
                            if ((decide (x0.at_.time = 0) && decide (x0.at_.actor = 0))) = true then
                              if (decide (x0.key = (ByteArray.mk #[]))) = true then
                                if (decide (x0.kind = 1)) = true then
                                  if (decide (x0.n = 0)) = true then
                                    some (decide (x0.at_.time = 0) && decide (x0.at_.actor = 0))
                                  else
                                    some false
                                else
                                  if (decide (x0.kind = 2)) = true then
                                    if (decide (x0.text = (ByteArray.mk #[]))) = true then
                                      (p_impl_charOK x0.n).bind fun v23 =>
                                      some v23
                                    else
                                      some false
                                  else
                                    if (decide (x0.kind = 3)) = true then
                                      if (decide (x0.text = (ByteArray.mk #[]))) = true then
                                        if (decide (x0.n = 0)) = true then
                                          some (!(decide (x0.at_.time = 0) && decide (x0.at_.actor = 0)))
                                        else
                                          some false
                                      else
                                        some false
                                    else
                                      if (decide (x0.kind = 4)) = true then
                                        if (decide (x0.text = (ByteArray.mk #[]))) = true then
                                          some (decide (x0.at_.time = 0) && decide (x0.at_.actor = 0))
                                        else
                                          some false
                                      else
                                        some false
                              else
                                if (decide (x0.kind = 1)) = true then
                                  if (decide (x0.n = 0)) = true then
                                    some (decide (x0.at_.time = 0) && decide (x0.at_.actor = 0))
                                  else
                                    some false
                                else
                                  if (decide (x0.kind = 2)) = true then
                                    some false
                                  else
                                    if (decide (x0.kind = 3)) = true then
                                      some false
                                    else
                                      if (decide (x0.kind = 4)) = true then
                                        some false
                                      else
                                        some false
                            else
                              (p_impl_StampOK x0.at_).bind fun v34 =>
                              if (v34) = true then
                                (p_impl_StampLess x0.at_ v0).bind fun v36 =>
                                if (v36) = true then
                                  if (decide (x0.key = (ByteArray.mk #[]))) = true then
                                    if (decide (x0.kind = 1)) = true then
                                      if (decide (x0.n = 0)) = true then
                                        some (decide (x0.at_.time = 0) && decide (x0.at_.actor = 0))
                                      else
                                        some false
                                    else
                                      if (decide (x0.kind = 2)) = true then
                                        if (decide (x0.text = (ByteArray.mk #[]))) = true then
                                          (p_impl_charOK x0.n).bind fun v43 =>
                                          some v43
                                        else
                                          some false
                                      else
                                        if (decide (x0.kind = 3)) = true then
                                          if (decide (x0.text = (ByteArray.mk #[]))) = true then
                                            if (decide (x0.n = 0)) = true then
                                              some (!(decide (x0.at_.time = 0) && decide (x0.at_.actor = 0)))
                                            else
                                              some false
                                          else
                                            some false
                                        else
                                          if (decide (x0.kind = 4)) = true then
                                            if (decide (x0.text = (ByteArray.mk #[]))) = true then
                                              some (decide (x0.at_.time = 0) && decide (x0.at_.actor = 0))
                                            else
                                              some false
                                          else
                                            some false
                                  else
                                    if (decide (x0.kind = 1)) = true then
                                      if (decide (x0.n = 0)) = true then
                                        some (decide (x0.at_.time = 0) && decide (x0.at_.actor = 0))
                                      else
                                        some false
                                    else
                                      if (decide (x0.kind = 2)) = true then
                                        some false
                                      else
                                        if (decide (x0.kind = 3)) = true then
                                          some false
                                        else
                                          if (decide (x0.kind = 4)) = true then
                                            some false
                                          else
                                            some false
                                else
                                  some false
                              else
                                some false
          else
            some false
        else
          some false
  else
    some false
def c_impl_opOK (f_impl_Op_stamp : Nat) (f_impl_StampOK : Nat) (f_impl_VecOK : Nat) (f_impl_StampLess : Nat) (f_impl_charOK : Nat) : AFn := ⟨145, (.seq (.ops [(qS 1 (.box (.tmp 0))), (qS 2 (.mv (.const (.bool false))))]) (.seq (.seq (.ops [(qS 5 (.load 12 true (.tmp 1))), (qS 6 (.call (2 * f_impl_Op_stamp) [(.tmp 5)])), (qS 7 (.call (2 * f_impl_StampOK) [(.tmp 6)])), (qS 8 (.pu (.n (.un .not)) [(.tmp 7)])), (qS 9 (.mv (.tmp 8))), ⟨(.some 10), (.fieldA 1 (.tmp 1)), (.some (9, false)), []⟩, ⟨(.some 11), (.load 1 false (.tmp 10)), (.some (9, false)), []⟩, ⟨(.some 12), (.pu (.n (.ar .lss)) [(.tmp 11), (ic 1)]), (.some (9, false)), []⟩, (qS 13 (.pick (.tmp 9) (.const (.bool true)) (.tmp 12))), (qS 14 (.mv (.tmp 13))), ⟨(.some 15), (.fieldA 1 (.tmp 1)), (.some (14, false)), []⟩, ⟨(.some 16), (.load 1 false (.tmp 15)), (.some (14, false)), []⟩, ⟨(.some 17), (.pu (.n (.ar .gtr)) [(.tmp 16), (ic 1000000000000)]), (.some (14, false)), []⟩, (qS 18 (.pick (.tmp 14) (.const (.bool true)) (.tmp 17))), (qS 19 (.mv (.tmp 18))), ⟨(.some 20), (.fieldA 3 (.tmp 1)), (.some (19, false)), []⟩, ⟨(.some 21), (.load 1 true (.tmp 20)), (.some (19, false)), []⟩, ⟨(.some 22), (.call (2 * f_impl_VecOK) [(.tmp 21)]), (.some (19, false)), []⟩, ⟨(.some 23), (.pu (.n (.un .not)) [(.tmp 22)]), (.some (19, false)), []⟩, (qS 24 (.pick (.tmp 19) (.const (.bool true)) (.tmp 23))), (qS 25 (.mv (.tmp 24))), ⟨(.some 26), (.fieldA 3 (.tmp 1)), (.some (25, false)), []⟩, ⟨(.some 27), (.fieldA 0 (.tmp 26)), (.some (25, false)), []⟩, ⟨(.some 28), (.load 1 false (.tmp 27)), (.some (25, false)), []⟩, ⟨(.some 29), (.fieldA 0 (.tmp 1)), (.some (25, false)), []⟩, ⟨(.some 30), (.load 1 false (.tmp 29)), (.some (25, false)), []⟩, ⟨(.some 31), (.idxS 1 (.tmp 28) (.tmp 30)), (.some (25, false)), []⟩, ⟨(.some 32), (.load 1 false (.tmp 31)), (.some (25, false)), []⟩, ⟨(.some 33), (.fieldA 1 (.tmp 1)), (.some (25, false)), []⟩, ⟨(.some 34), (.load 1 false (.tmp 33)), (.some (25, false)), []⟩, ⟨(.some 35), (.pu (.n (.ar .sub)) [(.tmp 34), (ic 1)]), (.some (25, false)), []⟩, ⟨(.some 36), (.pu (.n (.ar .neq)) [(.tmp 32), (.tmp 35)]), (.some (25, false)), []⟩, (qS 37 (.pick (.tmp 25) (.const (.bool true)) (.tmp 36)))]) (.cond (.tmp 37) (.seq (.ops [(qS 2 (.mv (.const (.bool false))))]) .ret) .skip)) (.seq (.seq (.ops [(qS 38 (.fieldA 5 (.tmp 1))), (qS 39 (.load 1 false (.tmp 38))), (qS 40 (.pu (.n (.ar .lss)) [(.tmp 39), (ic 1)])), (qS 41 (.mv (.tmp 40))), ⟨(.some 42), (.fieldA 5 (.tmp 1)), (.some (41, false)), []⟩, ⟨(.some 43), (.load 1 false (.tmp 42)), (.some (41, false)), []⟩, ⟨(.some 44), (.pu (.n (.ar .gtr)) [(.tmp 43), (ic 100)]), (.some (41, false)), []⟩, (qS 45 (.pick (.tmp 41) (.const (.bool true)) (.tmp 44))), (qS 46 (.mv (.tmp 45))), ⟨(.some 47), (.fieldA 6 (.tmp 1)), (.some (46, false)), []⟩, ⟨(.some 48), (.load 1 false (.tmp 47)), (.some (46, false)), []⟩, ⟨(.some 49), (.pu (.n (.ar .lss)) [(.tmp 48), (ic (-1000000000000))]), (.some (46, false)), []⟩, (qS 50 (.pick (.tmp 46) (.const (.bool true)) (.tmp 49))), (qS 51 (.mv (.tmp 50))), ⟨(.some 52), (.fieldA 6 (.tmp 1)), (.some (51, false)), []⟩, ⟨(.some 53), (.load 1 false (.tmp 52)), (.some (51, false)), []⟩, ⟨(.some 54), (.pu (.n (.ar .gtr)) [(.tmp 53), (ic 1000000000000)]), (.some (51, false)), []⟩, (qS 55 (.pick (.tmp 51) (.const (.bool true)) (.tmp 54))), (qS 56 (.mv (.tmp 55))), ⟨(.some 57), (.fieldA 7 (.tmp 1)), (.some (56, false)), []⟩, ⟨(.some 58), (.load 1 false (.tmp 57)), (.some (56, false)), []⟩, ⟨(.some 59), (.pu (.n (.ar .lss)) [(.tmp 58), (ic 0)]), (.some (56, false)), []⟩, (qS 60 (.pick (.tmp 56) (.const (.bool true)) (.tmp 59))), (qS 61 (.mv (.tmp 60))), ⟨(.some 62), (.fieldA 7 (.tmp 1)), (.some (61, false)), []⟩, ⟨(.some 63), (.load 1 false (.tmp 62)), (.some (61, false)), []⟩, ⟨(.some 64), (.fieldA 1 (.tmp 1)), (.some (61, false)), []⟩, ⟨(.some 65), (.load 1 false (.tmp 64)), (.some (61, false)), []⟩, ⟨(.some 66), (.pu (.n (.ar .geq)) [(.tmp 63), (.tmp 65)]), (.some (61, false)), []⟩, (qS 67 (.pick (.tmp 61) (.const (.bool true)) (.tmp 66)))]) (.cond (.tmp 67) (.seq (.ops [(qS 2 (.mv (.const (.bool false))))]) .ret) .skip)) (.seq (.seq (.ops [(qS 68 (.fieldA 10 (.tmp 1))), (qS 69 (.load 1 false (.tmp 68))), (qS 70 (.pu (.n .len) [(.tmp 69)])), (qS 71 (.pu (.n (.ar .gtr)) [(.tmp 70), (ic 200)])), (qS 72 (.mv (.tmp 71))), ⟨(.some 73), (.fieldA 11 (.tmp 1)), (.some (72, false)), []⟩, ⟨(.some 74), (.load 1 false (.tmp 73)), (.some (72, false)), []⟩, ⟨(.some 75), (.pu (.n .len) [(.tmp 74)]), (.some (72, false)), []⟩, ⟨(.some 76), (.pu (.n (.ar .gtr)) [(.tmp 75), (ic 200)]), (.some (72, false)), []⟩, (qS 77 (.pick (.tmp 72) (.const (.bool true)) (.tmp 76)))]) (.cond (.tmp 77) (.seq (.ops [(qS 2 (.mv (.const (.bool false))))]) .ret) .skip)) (.seq (.ops [(qS 78 (.fieldA 8 (.tmp 1))), (qS 79 (.load 2 true (.tmp 78))), (qS 80 (.build [(.int .i64 0), (.int .i64 0)] [])), (qS 81 (.aeq false [(.int .i64), (.int .i64)] (.tmp 79) (.tmp 80))), (qS 3 (.mv (.tmp 81)))]) (.seq (.seq (.ops [(qS 82 (.mv (.tmp 3))), (qS 83 (.pu (.n (.un .not)) [(.tmp 82)])), (qS 84 (.mv (.tmp 83))), ⟨(.some 85), (.fieldA 8 (.tmp 1)), (.some (84, true)), []⟩, ⟨(.some 86), (.load 2 true (.tmp 85)), (.some (84, true)), []⟩, ⟨(.some 87), (.call (2 * f_impl_StampOK) [(.tmp 86)]), (.some (84, true)), []⟩, ⟨(.some 88), (.pu (.n (.un .not)) [(.tmp 87)]), (.some (84, true)), []⟩, ⟨(.some 89), (.mv (.tmp 88)), (.some (84, true)), []⟩, ⟨(.some 90), (.fieldA 8 (.tmp 1)), (.some (89, false)), []⟩, ⟨(.some 91), (.load 2 true (.tmp 90)), (.some (89, false)), []⟩, ⟨(.some 92), (.load 12 true (.tmp 1)), (.some (89, false)), []⟩, ⟨(.some 93), (.call (2 * f_impl_Op_stamp) [(.tmp 92)]), (.some (89, false)), []⟩, ⟨(.some 94), (.call (2 * f_impl_StampLess) [(.tmp 91), (.tmp 93)]), (.some (89, false)), []⟩, ⟨(.some 95), (.pu (.n (.un .not)) [(.tmp 94)]), (.some (89, false)), []⟩, ⟨(.some 96), (.pick (.tmp 89) (.const (.bool true)) (.tmp 95)), (.some (84, true)), []⟩, (qS 97 (.pick (.tmp 84) (.tmp 96) (.const (.bool false))))]) (.cond (.tmp 97) (.seq (.ops [(qS 2 (.mv (.const (.bool false))))]) .ret) .skip)) (.seq (.ops [(qS 98 (.fieldA 10 (.tmp 1))), (qS 99 (.load 1 false (.tmp 98))), (qS 100 (.pu (.n (.ar .neq)) [(.tmp 99), (.const (.string ⟨#[]⟩))])), (qS 101 (.mv (.tmp 100))), ⟨(.some 102), (.fieldA 11 (.tmp 1)), (.some (101, false)), []⟩, ⟨(.some 103), (.load 1 false (.tmp 102)), (.some (101, false)), []⟩, ⟨(.some 104), (.pu (.n (.ar .neq)) [(.tmp 103), (.const (.string ⟨#[]⟩))]), (.some (101, false)), []⟩, (qS 105 (.pick (.tmp 101) (.const (.bool true)) (.tmp 104))), (qS 4 (.mv (.tmp 105)))]) (.seq (.seq (.ops [(qS 106 (.fieldA 4 (.tmp 1))), (qS 107 (.load 1 false (.tmp 106)))]) (.block 0 (.seq (.ops [(qS 109 (.pu (.n (.ar .eql)) [(.tmp 107), (ic 1)])), (qS 108 (.mv (.tmp 109)))]) (.cond (.tmp 108) (.seq (.ops [(qS 110 (.fieldA 6 (.tmp 1))), (qS 111 (.load 1 false (.tmp 110))), (qS 112 (.pu (.n (.ar .eql)) [(.tmp 111), (ic 0)])), (qS 113 (.mv (.tmp 112))), ⟨(.some 114), (.mv (.tmp 3)), (.some (113, true)), []⟩, (qS 115 (.pick (.tmp 113) (.tmp 114) (.const (.bool false)))), (qS 2 (.mv (.tmp 115)))]) .ret) (.seq (.ops [(qS 117 (.pu (.n (.ar .eql)) [(.tmp 107), (ic 2)])), (qS 116 (.mv (.tmp 117)))]) (.cond (.tmp 116) (.seq (.ops [(qS 118 (.mv (.tmp 4))), (qS 119 (.pu (.n (.un .not)) [(.tmp 118)])), (qS 120 (.mv (.tmp 119))), ⟨(.some 121), (.fieldA 6 (.tmp 1)), (.some (120, true)), []⟩, ⟨(.some 122), (.load 1 false (.tmp 121)), (.some (120, true)), []⟩, ⟨(.some 123), (.call (2 * f_impl_charOK) [(.tmp 122)]), (.some (120, true)), []⟩, (qS 124 (.pick (.tmp 120) (.tmp 123) (.const (.bool false)))), (qS 2 (.mv (.tmp 124)))]) .ret) (.seq (.ops [(qS 126 (.pu (.n (.ar .eql)) [(.tmp 107), (ic 3)])), (qS 125 (.mv (.tmp 126)))]) (.cond (.tmp 125) (.seq (.ops [(qS 127 (.mv (.tmp 4))), (qS 128 (.pu (.n (.un .not)) [(.tmp 127)])), (qS 129 (.mv (.tmp 128))), ⟨(.some 130), (.fieldA 6 (.tmp 1)), (.some (129, true)), []⟩, ⟨(.some 131), (.load 1 false (.tmp 130)), (.some (129, true)), []⟩, ⟨(.some 132), (.pu (.n (.ar .eql)) [(.tmp 131), (ic 0)]), (.some (129, true)), []⟩, (qS 133 (.pick (.tmp 129) (.tmp 132) (.const (.bool false)))), (qS 134 (.mv (.tmp 133))), ⟨(.some 135), (.mv (.tmp 3)), (.some (134, true)), []⟩, ⟨(.some 136), (.pu (.n (.un .not)) [(.tmp 135)]), (.some (134, true)), []⟩, (qS 137 (.pick (.tmp 134) (.tmp 136) (.const (.bool false)))), (qS 2 (.mv (.tmp 137)))]) .ret) (.seq (.ops [(qS 139 (.pu (.n (.ar .eql)) [(.tmp 107), (ic 4)])), (qS 138 (.mv (.tmp 139)))]) (.cond (.tmp 138) (.seq (.ops [(qS 140 (.mv (.tmp 4))), (qS 141 (.pu (.n (.un .not)) [(.tmp 140)])), (qS 142 (.mv (.tmp 141))), ⟨(.some 143), (.mv (.tmp 3)), (.some (142, true)), []⟩, (qS 144 (.pick (.tmp 142) (.tmp 143) (.const (.bool false)))), (qS 2 (.mv (.tmp 144)))]) .ret) .skip)))))))))) (.seq (.ops [(qS 2 (.mv (.const (.bool false))))]) .ret))))))))), [(.tmp 2)]⟩
set_option maxHeartbeats 10000000 in
theorem d_impl_opOK {P : Program} {env : Env} {f_impl_Op_stamp : Nat} {f_impl_StampOK : Nat} {f_impl_VecOK : Nat} {f_impl_StampLess : Nat} {f_impl_charOK : Nat}  (ep_impl_Op_stamp : env (2 * f_impl_Op_stamp) = pureFn true (FA fun a : TOp => p_impl_Op_stamp a)) (ep_impl_StampOK : env (2 * f_impl_StampOK) = pureFn true (FA fun a : TStamp => p_impl_StampOK a)) (ep_impl_VecOK : env (2 * f_impl_VecOK) = pureFn true (FA fun a : TVec => p_impl_VecOK a)) (ep_impl_charOK : env (2 * f_impl_charOK) = pureFn true (FA fun a : Int => p_impl_charOK a)) (ep_impl_StampLess : env (2 * f_impl_StampLess) = pureFn true (FA fun a : TStamp × TStamp => p_impl_StampLess a.1 a.2)) (x0 : TOp) {b : Bool} (hp : p_impl_opOK x0 = some b) : R P env (c_impl_opOK f_impl_Op_stamp f_impl_StampOK f_impl_VecOK f_impl_StampLess f_impl_charOK) ((encA (x0)).map ofI) [] (Tells true b) := by
  refine R_of (by simp [c_impl_opOK, encA]) ?_
  have E := And.intro opc (And.intro ep_impl_Op_stamp (And.intro ep_impl_StampOK (And.intro ep_impl_VecOK (And.intro ep_impl_charOK ep_impl_StampLess))))
  unfold c_impl_opOK
  unfold p_impl_opOK at hp
  obtain ⟨v0, hv0, hp⟩ := bind_eq hp
  obtain ⟨v1, hv1, hp⟩ := bind_eq hp
  by_cases hb2 : (v1) = true
  · rw [if_t hb2] at hp
    by_cases hb3 : (decide (x0.seq < 1)) = true
    · rw [if_t hb3] at hp
      have hp := Option.some.inj hp
      subst hp
      simp (maxSteps := 2000000) (disch := first|omega|(simp only[ls];first|done|omega)) only [E, hv0, hv1, hb2, hb3, gx]
    · replace hb3 := eq_false_of_ne_true hb3
      rw [if_f hb3] at hp
      by_cases hb4 : (decide (1000000000000 < x0.seq)) = true
      · rw [if_t hb4] at hp
        have hp := Option.some.inj hp
        subst hp
        simp (maxSteps := 2000000) (disch := first|omega|(simp only[ls];first|done|omega)) only [E, hv0, hv1, hb2, hb3, hb4, gx]
      · replace hb4 := eq_false_of_ne_true hb4
        rw [if_f hb4] at hp
        obtain ⟨v5, hv5, hp⟩ := bind_eq hp
        by_cases hb6 : (v5) = true
        · rw [if_t hb6] at hp
          obtain ⟨v7, hv7, hp⟩ := bind_eq hp
          by_cases hb8 : (decide (v7 = w64 (x0.seq - 1))) = true
          · rw [if_t hb8] at hp
            by_cases hb9 : (decide (x0.obj < 1)) = true
            · rw [if_t hb9] at hp
              have hp := Option.some.inj hp
              subst hp
              simp (maxSteps := 2000000) (disch := first|omega|(simp only[ls];first|done|omega)) only [E, hv0, hv1, hb2, hb3, hb4, hv5, hb6, hv7, hb8, hb9, gx]
            · replace hb9 := eq_false_of_ne_true hb9
              rw [if_f hb9] at hp
              by_cases hb10 : (decide (100 < x0.obj)) = true
              · rw [if_t hb10] at hp
                have hp := Option.some.inj hp
                subst hp
                simp (maxSteps := 2000000) (disch := first|omega|(simp only[ls];first|done|omega)) only [E, hv0, hv1, hb2, hb3, hb4, hv5, hb6, hv7, hb8, hb9, hb10, gx]
              · replace hb10 := eq_false_of_ne_true hb10
                rw [if_f hb10] at hp
                by_cases hb11 : (decide (x0.n < (-1000000000000))) = true
                · rw [if_t hb11] at hp
                  have hp := Option.some.inj hp
                  subst hp
                  simp (maxSteps := 2000000) (disch := first|omega|(simp only[ls];first|done|omega)) only [E, hv0, hv1, hb2, hb3, hb4, hv5, hb6, hv7, hb8, hb9, hb10, hb11, gx]
                · replace hb11 := eq_false_of_ne_true hb11
                  rw [if_f hb11] at hp
                  by_cases hb12 : (decide (1000000000000 < x0.n)) = true
                  · rw [if_t hb12] at hp
                    have hp := Option.some.inj hp
                    subst hp
                    simp (maxSteps := 2000000) (disch := first|omega|(simp only[ls];first|done|omega)) only [E, hv0, hv1, hb2, hb3, hb4, hv5, hb6, hv7, hb8, hb9, hb10, hb11, hb12, gx]
                  · replace hb12 := eq_false_of_ne_true hb12
                    rw [if_f hb12] at hp
                    by_cases hb13 : (decide (x0.undo < 0)) = true
                    · rw [if_t hb13] at hp
                      have hp := Option.some.inj hp
                      subst hp
                      simp (maxSteps := 2000000) (disch := first|omega|(simp only[ls];first|done|omega)) only [E, hv0, hv1, hb2, hb3, hb4, hv5, hb6, hv7, hb8, hb9, hb10, hb11, hb12, hb13, gx]
                    · replace hb13 := eq_false_of_ne_true hb13
                      rw [if_f hb13] at hp
                      by_cases hb14 : (decide (x0.seq ≤ x0.undo)) = true
                      · rw [if_t hb14] at hp
                        have hp := Option.some.inj hp
                        subst hp
                        simp (maxSteps := 2000000) (disch := first|omega|(simp only[ls];first|done|omega)) only [E, hv0, hv1, hb2, hb3, hb4, hv5, hb6, hv7, hb8, hb9, hb10, hb11, hb12, hb13, hb14, gx]
                      · replace hb14 := eq_false_of_ne_true hb14
                        rw [if_f hb14] at hp
                        by_cases hb15 : (decide (200 < (x0.key.size : Int))) = true
                        · rw [if_t hb15] at hp
                          have hp := Option.some.inj hp
                          subst hp
                          simp (maxSteps := 2000000) (disch := first|omega|(simp only[ls];first|done|omega)) only [E, hv0, hv1, hb2, hb3, hb4, hv5, hb6, hv7, hb8, hb9, hb10, hb11, hb12, hb13, hb14, hb15, gx]
                        · replace hb15 := eq_false_of_ne_true hb15
                          rw [if_f hb15] at hp
                          by_cases hb16 : (decide (200 < (x0.text.size : Int))) = true
                          · rw [if_t hb16] at hp
                            have hp := Option.some.inj hp
                            subst hp
                            simp (maxSteps := 2000000) (disch := first|omega|(simp only[ls];first|done|omega)) only [E, hv0, hv1, hb2, hb3, hb4, hv5, hb6, hv7, hb8, hb9, hb10, hb11, hb12, hb13, hb14, hb15, hb16, gx]
                          · replace hb16 := eq_false_of_ne_true hb16
                            rw [if_f hb16] at hp
                            by_cases hb17 : ((decide (x0.at_.time = 0) && decide (x0.at_.actor = 0))) = true
                            · rw [if_t hb17] at hp
                              by_cases hb18 : (decide (x0.key = (ByteArray.mk #[]))) = true
                              · rw [if_t hb18] at hp
                                by_cases hb19 : (decide (x0.kind = 1)) = true
                                · rw [if_t hb19] at hp
                                  by_cases hb20 : (decide (x0.n = 0)) = true
                                  · rw [if_t hb20] at hp
                                    have hp := Option.some.inj hp
                                    subst hp
                                    simp (maxSteps := 2000000) (disch := first|omega|(simp only[ls];first|done|omega)) only [E, hv0, hv1, hb2, hb3, hb4, hv5, hb6, hv7, hb8, hb9, hb10, hb11, hb12, hb13, hb14, hb15, hb16, hb17, hb18, hb19, hb20, gx]
                                  · replace hb20 := eq_false_of_ne_true hb20
                                    rw [if_f hb20] at hp
                                    have hp := Option.some.inj hp
                                    subst hp
                                    simp (maxSteps := 2000000) (disch := first|omega|(simp only[ls];first|done|omega)) only [E, hv0, hv1, hb2, hb3, hb4, hv5, hb6, hv7, hb8, hb9, hb10, hb11, hb12, hb13, hb14, hb15, hb16, hb17, hb18, hb19, hb20, gx]
                                · replace hb19 := eq_false_of_ne_true hb19
                                  rw [if_f hb19] at hp
                                  by_cases hb21 : (decide (x0.kind = 2)) = true
                                  · rw [if_t hb21] at hp
                                    by_cases hb22 : (decide (x0.text = (ByteArray.mk #[]))) = true
                                    · rw [if_t hb22] at hp
                                      obtain ⟨v23, hv23, hp⟩ := bind_eq hp
                                      have hp := Option.some.inj hp
                                      subst hp
                                      simp (maxSteps := 2000000) (disch := first|omega|(simp only[ls];first|done|omega)) only [E, hv0, hv1, hb2, hb3, hb4, hv5, hb6, hv7, hb8, hb9, hb10, hb11, hb12, hb13, hb14, hb15, hb16, hb17, hb18, hb19, hb21, hb22, hv23, gx]
                                    · replace hb22 := eq_false_of_ne_true hb22
                                      rw [if_f hb22] at hp
                                      have hp := Option.some.inj hp
                                      subst hp
                                      simp (maxSteps := 2000000) (disch := first|omega|(simp only[ls];first|done|omega)) only [E, hv0, hv1, hb2, hb3, hb4, hv5, hb6, hv7, hb8, hb9, hb10, hb11, hb12, hb13, hb14, hb15, hb16, hb17, hb18, hb19, hb21, hb22, gx]
                                  · replace hb21 := eq_false_of_ne_true hb21
                                    rw [if_f hb21] at hp
                                    by_cases hb24 : (decide (x0.kind = 3)) = true
                                    · rw [if_t hb24] at hp
                                      by_cases hb25 : (decide (x0.text = (ByteArray.mk #[]))) = true
                                      · rw [if_t hb25] at hp
                                        by_cases hb26 : (decide (x0.n = 0)) = true
                                        · rw [if_t hb26] at hp
                                          have hp := Option.some.inj hp
                                          subst hp
                                          simp (maxSteps := 2000000) (disch := first|omega|(simp only[ls];first|done|omega)) only [E, hv0, hv1, hb2, hb3, hb4, hv5, hb6, hv7, hb8, hb9, hb10, hb11, hb12, hb13, hb14, hb15, hb16, hb17, hb18, hb19, hb21, hb24, hb25, hb26, gx]
                                        · replace hb26 := eq_false_of_ne_true hb26
                                          rw [if_f hb26] at hp
                                          have hp := Option.some.inj hp
                                          subst hp
                                          simp (maxSteps := 2000000) (disch := first|omega|(simp only[ls];first|done|omega)) only [E, hv0, hv1, hb2, hb3, hb4, hv5, hb6, hv7, hb8, hb9, hb10, hb11, hb12, hb13, hb14, hb15, hb16, hb17, hb18, hb19, hb21, hb24, hb25, hb26, gx]
                                      · replace hb25 := eq_false_of_ne_true hb25
                                        rw [if_f hb25] at hp
                                        have hp := Option.some.inj hp
                                        subst hp
                                        simp (maxSteps := 2000000) (disch := first|omega|(simp only[ls];first|done|omega)) only [E, hv0, hv1, hb2, hb3, hb4, hv5, hb6, hv7, hb8, hb9, hb10, hb11, hb12, hb13, hb14, hb15, hb16, hb17, hb18, hb19, hb21, hb24, hb25, gx]
                                    · replace hb24 := eq_false_of_ne_true hb24
                                      rw [if_f hb24] at hp
                                      by_cases hb27 : (decide (x0.kind = 4)) = true
                                      · rw [if_t hb27] at hp
                                        by_cases hb28 : (decide (x0.text = (ByteArray.mk #[]))) = true
                                        · rw [if_t hb28] at hp
                                          have hp := Option.some.inj hp
                                          subst hp
                                          simp (maxSteps := 2000000) (disch := first|omega|(simp only[ls];first|done|omega)) only [E, hv0, hv1, hb2, hb3, hb4, hv5, hb6, hv7, hb8, hb9, hb10, hb11, hb12, hb13, hb14, hb15, hb16, hb17, hb18, hb19, hb21, hb24, hb27, hb28, gx]
                                        · replace hb28 := eq_false_of_ne_true hb28
                                          rw [if_f hb28] at hp
                                          have hp := Option.some.inj hp
                                          subst hp
                                          simp (maxSteps := 2000000) (disch := first|omega|(simp only[ls];first|done|omega)) only [E, hv0, hv1, hb2, hb3, hb4, hv5, hb6, hv7, hb8, hb9, hb10, hb11, hb12, hb13, hb14, hb15, hb16, hb17, hb18, hb19, hb21, hb24, hb27, hb28, gx]
                                      · replace hb27 := eq_false_of_ne_true hb27
                                        rw [if_f hb27] at hp
                                        have hp := Option.some.inj hp
                                        subst hp
                                        simp (maxSteps := 2000000) (disch := first|omega|(simp only[ls];first|done|omega)) only [E, hv0, hv1, hb2, hb3, hb4, hv5, hb6, hv7, hb8, hb9, hb10, hb11, hb12, hb13, hb14, hb15, hb16, hb17, hb18, hb19, hb21, hb24, hb27, gx]
                              · replace hb18 := eq_false_of_ne_true hb18
                                rw [if_f hb18] at hp
                                by_cases hb29 : (decide (x0.kind = 1)) = true
                                · rw [if_t hb29] at hp
                                  by_cases hb30 : (decide (x0.n = 0)) = true
                                  · rw [if_t hb30] at hp
                                    have hp := Option.some.inj hp
                                    subst hp
                                    simp (maxSteps := 2000000) (disch := first|omega|(simp only[ls];first|done|omega)) only [E, hv0, hv1, hb2, hb3, hb4, hv5, hb6, hv7, hb8, hb9, hb10, hb11, hb12, hb13, hb14, hb15, hb16, hb17, hb18, hb29, hb30, gx]
                                  · replace hb30 := eq_false_of_ne_true hb30
                                    rw [if_f hb30] at hp
                                    have hp := Option.some.inj hp
                                    subst hp
                                    simp (maxSteps := 2000000) (disch := first|omega|(simp only[ls];first|done|omega)) only [E, hv0, hv1, hb2, hb3, hb4, hv5, hb6, hv7, hb8, hb9, hb10, hb11, hb12, hb13, hb14, hb15, hb16, hb17, hb18, hb29, hb30, gx]
                                · replace hb29 := eq_false_of_ne_true hb29
                                  rw [if_f hb29] at hp
                                  by_cases hb31 : (decide (x0.kind = 2)) = true
                                  · rw [if_t hb31] at hp
                                    have hp := Option.some.inj hp
                                    subst hp
                                    simp (maxSteps := 2000000) (disch := first|omega|(simp only[ls];first|done|omega)) only [E, hv0, hv1, hb2, hb3, hb4, hv5, hb6, hv7, hb8, hb9, hb10, hb11, hb12, hb13, hb14, hb15, hb16, hb17, hb18, hb29, hb31, gx]
                                  · replace hb31 := eq_false_of_ne_true hb31
                                    rw [if_f hb31] at hp
                                    by_cases hb32 : (decide (x0.kind = 3)) = true
                                    · rw [if_t hb32] at hp
                                      have hp := Option.some.inj hp
                                      subst hp
                                      simp (maxSteps := 2000000) (disch := first|omega|(simp only[ls];first|done|omega)) only [E, hv0, hv1, hb2, hb3, hb4, hv5, hb6, hv7, hb8, hb9, hb10, hb11, hb12, hb13, hb14, hb15, hb16, hb17, hb18, hb29, hb31, hb32, gx]
                                    · replace hb32 := eq_false_of_ne_true hb32
                                      rw [if_f hb32] at hp
                                      by_cases hb33 : (decide (x0.kind = 4)) = true
                                      · rw [if_t hb33] at hp
                                        have hp := Option.some.inj hp
                                        subst hp
                                        simp (maxSteps := 2000000) (disch := first|omega|(simp only[ls];first|done|omega)) only [E, hv0, hv1, hb2, hb3, hb4, hv5, hb6, hv7, hb8, hb9, hb10, hb11, hb12, hb13, hb14, hb15, hb16, hb17, hb18, hb29, hb31, hb32, hb33, gx]
                                      · replace hb33 := eq_false_of_ne_true hb33
                                        rw [if_f hb33] at hp
                                        have hp := Option.some.inj hp
                                        subst hp
                                        simp (maxSteps := 2000000) (disch := first|omega|(simp only[ls];first|done|omega)) only [E, hv0, hv1, hb2, hb3, hb4, hv5, hb6, hv7, hb8, hb9, hb10, hb11, hb12, hb13, hb14, hb15, hb16, hb17, hb18, hb29, hb31, hb32, hb33, gx]
                            · replace hb17 := eq_false_of_ne_true hb17
                              rw [if_f hb17] at hp
                              obtain ⟨v34, hv34, hp⟩ := bind_eq hp
                              by_cases hb35 : (v34) = true
                              · rw [if_t hb35] at hp
                                obtain ⟨v36, hv36, hp⟩ := bind_eq hp
                                by_cases hb37 : (v36) = true
                                · rw [if_t hb37] at hp
                                  by_cases hb38 : (decide (x0.key = (ByteArray.mk #[]))) = true
                                  · rw [if_t hb38] at hp
                                    by_cases hb39 : (decide (x0.kind = 1)) = true
                                    · rw [if_t hb39] at hp
                                      by_cases hb40 : (decide (x0.n = 0)) = true
                                      · rw [if_t hb40] at hp
                                        have hp := Option.some.inj hp
                                        subst hp
                                        simp (maxSteps := 2000000) (disch := first|omega|(simp only[ls];first|done|omega)) only [E, hv0, hv1, hb2, hb3, hb4, hv5, hb6, hv7, hb8, hb9, hb10, hb11, hb12, hb13, hb14, hb15, hb16, hb17, hv34, hb35, hv36, hb37, hb38, hb39, hb40, gx]
                                      · replace hb40 := eq_false_of_ne_true hb40
                                        rw [if_f hb40] at hp
                                        have hp := Option.some.inj hp
                                        subst hp
                                        simp (maxSteps := 2000000) (disch := first|omega|(simp only[ls];first|done|omega)) only [E, hv0, hv1, hb2, hb3, hb4, hv5, hb6, hv7, hb8, hb9, hb10, hb11, hb12, hb13, hb14, hb15, hb16, hb17, hv34, hb35, hv36, hb37, hb38, hb39, hb40, gx]
                                    · replace hb39 := eq_false_of_ne_true hb39
                                      rw [if_f hb39] at hp
                                      by_cases hb41 : (decide (x0.kind = 2)) = true
                                      · rw [if_t hb41] at hp
                                        by_cases hb42 : (decide (x0.text = (ByteArray.mk #[]))) = true
                                        · rw [if_t hb42] at hp
                                          obtain ⟨v43, hv43, hp⟩ := bind_eq hp
                                          have hp := Option.some.inj hp
                                          subst hp
                                          simp (maxSteps := 2000000) (disch := first|omega|(simp only[ls];first|done|omega)) only [E, hv0, hv1, hb2, hb3, hb4, hv5, hb6, hv7, hb8, hb9, hb10, hb11, hb12, hb13, hb14, hb15, hb16, hb17, hv34, hb35, hv36, hb37, hb38, hb39, hb41, hb42, hv43, gx]
                                        · replace hb42 := eq_false_of_ne_true hb42
                                          rw [if_f hb42] at hp
                                          have hp := Option.some.inj hp
                                          subst hp
                                          simp (maxSteps := 2000000) (disch := first|omega|(simp only[ls];first|done|omega)) only [E, hv0, hv1, hb2, hb3, hb4, hv5, hb6, hv7, hb8, hb9, hb10, hb11, hb12, hb13, hb14, hb15, hb16, hb17, hv34, hb35, hv36, hb37, hb38, hb39, hb41, hb42, gx]
                                      · replace hb41 := eq_false_of_ne_true hb41
                                        rw [if_f hb41] at hp
                                        by_cases hb44 : (decide (x0.kind = 3)) = true
                                        · rw [if_t hb44] at hp
                                          by_cases hb45 : (decide (x0.text = (ByteArray.mk #[]))) = true
                                          · rw [if_t hb45] at hp
                                            by_cases hb46 : (decide (x0.n = 0)) = true
                                            · rw [if_t hb46] at hp
                                              have hp := Option.some.inj hp
                                              subst hp
                                              simp (maxSteps := 2000000) (disch := first|omega|(simp only[ls];first|done|omega)) only [E, hv0, hv1, hb2, hb3, hb4, hv5, hb6, hv7, hb8, hb9, hb10, hb11, hb12, hb13, hb14, hb15, hb16, hb17, hv34, hb35, hv36, hb37, hb38, hb39, hb41, hb44, hb45, hb46, gx]
                                            · replace hb46 := eq_false_of_ne_true hb46
                                              rw [if_f hb46] at hp
                                              have hp := Option.some.inj hp
                                              subst hp
                                              simp (maxSteps := 2000000) (disch := first|omega|(simp only[ls];first|done|omega)) only [E, hv0, hv1, hb2, hb3, hb4, hv5, hb6, hv7, hb8, hb9, hb10, hb11, hb12, hb13, hb14, hb15, hb16, hb17, hv34, hb35, hv36, hb37, hb38, hb39, hb41, hb44, hb45, hb46, gx]
                                          · replace hb45 := eq_false_of_ne_true hb45
                                            rw [if_f hb45] at hp
                                            have hp := Option.some.inj hp
                                            subst hp
                                            simp (maxSteps := 2000000) (disch := first|omega|(simp only[ls];first|done|omega)) only [E, hv0, hv1, hb2, hb3, hb4, hv5, hb6, hv7, hb8, hb9, hb10, hb11, hb12, hb13, hb14, hb15, hb16, hb17, hv34, hb35, hv36, hb37, hb38, hb39, hb41, hb44, hb45, gx]
                                        · replace hb44 := eq_false_of_ne_true hb44
                                          rw [if_f hb44] at hp
                                          by_cases hb47 : (decide (x0.kind = 4)) = true
                                          · rw [if_t hb47] at hp
                                            by_cases hb48 : (decide (x0.text = (ByteArray.mk #[]))) = true
                                            · rw [if_t hb48] at hp
                                              have hp := Option.some.inj hp
                                              subst hp
                                              simp (maxSteps := 2000000) (disch := first|omega|(simp only[ls];first|done|omega)) only [E, hv0, hv1, hb2, hb3, hb4, hv5, hb6, hv7, hb8, hb9, hb10, hb11, hb12, hb13, hb14, hb15, hb16, hb17, hv34, hb35, hv36, hb37, hb38, hb39, hb41, hb44, hb47, hb48, gx]
                                            · replace hb48 := eq_false_of_ne_true hb48
                                              rw [if_f hb48] at hp
                                              have hp := Option.some.inj hp
                                              subst hp
                                              simp (maxSteps := 2000000) (disch := first|omega|(simp only[ls];first|done|omega)) only [E, hv0, hv1, hb2, hb3, hb4, hv5, hb6, hv7, hb8, hb9, hb10, hb11, hb12, hb13, hb14, hb15, hb16, hb17, hv34, hb35, hv36, hb37, hb38, hb39, hb41, hb44, hb47, hb48, gx]
                                          · replace hb47 := eq_false_of_ne_true hb47
                                            rw [if_f hb47] at hp
                                            have hp := Option.some.inj hp
                                            subst hp
                                            simp (maxSteps := 2000000) (disch := first|omega|(simp only[ls];first|done|omega)) only [E, hv0, hv1, hb2, hb3, hb4, hv5, hb6, hv7, hb8, hb9, hb10, hb11, hb12, hb13, hb14, hb15, hb16, hb17, hv34, hb35, hv36, hb37, hb38, hb39, hb41, hb44, hb47, gx]
                                  · replace hb38 := eq_false_of_ne_true hb38
                                    rw [if_f hb38] at hp
                                    by_cases hb49 : (decide (x0.kind = 1)) = true
                                    · rw [if_t hb49] at hp
                                      by_cases hb50 : (decide (x0.n = 0)) = true
                                      · rw [if_t hb50] at hp
                                        have hp := Option.some.inj hp
                                        subst hp
                                        simp (maxSteps := 2000000) (disch := first|omega|(simp only[ls];first|done|omega)) only [E, hv0, hv1, hb2, hb3, hb4, hv5, hb6, hv7, hb8, hb9, hb10, hb11, hb12, hb13, hb14, hb15, hb16, hb17, hv34, hb35, hv36, hb37, hb38, hb49, hb50, gx]
                                      · replace hb50 := eq_false_of_ne_true hb50
                                        rw [if_f hb50] at hp
                                        have hp := Option.some.inj hp
                                        subst hp
                                        simp (maxSteps := 2000000) (disch := first|omega|(simp only[ls];first|done|omega)) only [E, hv0, hv1, hb2, hb3, hb4, hv5, hb6, hv7, hb8, hb9, hb10, hb11, hb12, hb13, hb14, hb15, hb16, hb17, hv34, hb35, hv36, hb37, hb38, hb49, hb50, gx]
                                    · replace hb49 := eq_false_of_ne_true hb49
                                      rw [if_f hb49] at hp
                                      by_cases hb51 : (decide (x0.kind = 2)) = true
                                      · rw [if_t hb51] at hp
                                        have hp := Option.some.inj hp
                                        subst hp
                                        simp (maxSteps := 2000000) (disch := first|omega|(simp only[ls];first|done|omega)) only [E, hv0, hv1, hb2, hb3, hb4, hv5, hb6, hv7, hb8, hb9, hb10, hb11, hb12, hb13, hb14, hb15, hb16, hb17, hv34, hb35, hv36, hb37, hb38, hb49, hb51, gx]
                                      · replace hb51 := eq_false_of_ne_true hb51
                                        rw [if_f hb51] at hp
                                        by_cases hb52 : (decide (x0.kind = 3)) = true
                                        · rw [if_t hb52] at hp
                                          have hp := Option.some.inj hp
                                          subst hp
                                          simp (maxSteps := 2000000) (disch := first|omega|(simp only[ls];first|done|omega)) only [E, hv0, hv1, hb2, hb3, hb4, hv5, hb6, hv7, hb8, hb9, hb10, hb11, hb12, hb13, hb14, hb15, hb16, hb17, hv34, hb35, hv36, hb37, hb38, hb49, hb51, hb52, gx]
                                        · replace hb52 := eq_false_of_ne_true hb52
                                          rw [if_f hb52] at hp
                                          by_cases hb53 : (decide (x0.kind = 4)) = true
                                          · rw [if_t hb53] at hp
                                            have hp := Option.some.inj hp
                                            subst hp
                                            simp (maxSteps := 2000000) (disch := first|omega|(simp only[ls];first|done|omega)) only [E, hv0, hv1, hb2, hb3, hb4, hv5, hb6, hv7, hb8, hb9, hb10, hb11, hb12, hb13, hb14, hb15, hb16, hb17, hv34, hb35, hv36, hb37, hb38, hb49, hb51, hb52, hb53, gx]
                                          · replace hb53 := eq_false_of_ne_true hb53
                                            rw [if_f hb53] at hp
                                            have hp := Option.some.inj hp
                                            subst hp
                                            simp (maxSteps := 2000000) (disch := first|omega|(simp only[ls];first|done|omega)) only [E, hv0, hv1, hb2, hb3, hb4, hv5, hb6, hv7, hb8, hb9, hb10, hb11, hb12, hb13, hb14, hb15, hb16, hb17, hv34, hb35, hv36, hb37, hb38, hb49, hb51, hb52, hb53, gx]
                                · replace hb37 := eq_false_of_ne_true hb37
                                  rw [if_f hb37] at hp
                                  have hp := Option.some.inj hp
                                  subst hp
                                  simp (maxSteps := 2000000) (disch := first|omega|(simp only[ls];first|done|omega)) only [E, hv0, hv1, hb2, hb3, hb4, hv5, hb6, hv7, hb8, hb9, hb10, hb11, hb12, hb13, hb14, hb15, hb16, hb17, hv34, hb35, hv36, hb37, gx]
                              · replace hb35 := eq_false_of_ne_true hb35
                                rw [if_f hb35] at hp
                                have hp := Option.some.inj hp
                                subst hp
                                simp (maxSteps := 2000000) (disch := first|omega|(simp only[ls];first|done|omega)) only [E, hv0, hv1, hb2, hb3, hb4, hv5, hb6, hv7, hb8, hb9, hb10, hb11, hb12, hb13, hb14, hb15, hb16, hb17, hv34, hb35, gx]
          · replace hb8 := eq_false_of_ne_true hb8
            rw [if_f hb8] at hp
            have hp := Option.some.inj hp
            subst hp
            simp (maxSteps := 2000000) (disch := first|omega|(simp only[ls];first|done|omega)) only [E, hv0, hv1, hb2, hb3, hb4, hv5, hb6, hv7, hb8, gx]
        · replace hb6 := eq_false_of_ne_true hb6
          rw [if_f hb6] at hp
          have hp := Option.some.inj hp
          subst hp
          simp (maxSteps := 2000000) (disch := first|omega|(simp only[ls];first|done|omega)) only [E, hv0, hv1, hb2, hb3, hb4, hv5, hb6, gx]
  · replace hb2 := eq_false_of_ne_true hb2
    rw [if_f hb2] at hp
    have hp := Option.some.inj hp
    subst hp
    simp (maxSteps := 2000000) (disch := first|omega|(simp only[ls];first|done|omega)) only [E, hv0, hv1, hb2, gx]

noncomputable def p_impl_Op_thing (x0 : TOp) : Option Int :=
  if (decide (x0.kind = 3)) = true then
    some 2
  else
    some x0.kind
def c_impl_Op_thing : AFn := ⟨8, (.seq (.ops [(qS 1 (.box (.tmp 0))), (qS 2 (.mv (ic 0)))]) (.seq (.seq (.ops [(qS 3 (.fieldA 4 (.tmp 1))), (qS 4 (.load 1 false (.tmp 3))), (qS 5 (.pu (.n (.ar .eql)) [(.tmp 4), (ic 3)]))]) (.cond (.tmp 5) (.seq (.ops [(qS 2 (.mv (ic 2)))]) .ret) .skip)) (.seq (.ops [(qS 6 (.fieldA 4 (.tmp 1))), (qS 7 (.load 1 false (.tmp 6))), (qS 2 (.mv (.tmp 7)))]) .ret))), [(.tmp 2)]⟩
set_option maxHeartbeats 10000000 in
theorem d_impl_Op_thing {P : Program} {env : Env}  (x0 : TOp) {b : Int} (hp : p_impl_Op_thing x0 = some b) : R P env (c_impl_Op_thing) ((encA (x0)).map ofI) [] (Tells true b) := by
  refine R_of (by simp [c_impl_Op_thing, encA]) ?_
  unfold c_impl_Op_thing
  unfold p_impl_Op_thing at hp
  by_cases hb0 : (decide (x0.kind = 3)) = true
  · rw [if_t hb0] at hp
    have hp := Option.some.inj hp
    subst hp
    simp (maxSteps := 2000000) (disch := first|omega|(simp only[ls];first|done|omega)) only [hb0, gx]
  · replace hb0 := eq_false_of_ne_true hb0
    rw [if_f hb0] at hp
    have hp := Option.some.inj hp
    subst hp
    simp (maxSteps := 2000000) (disch := first|omega|(simp only[ls];first|done|omega)) only [hb0, gx]

section
open NestC (kid rowN)
noncomputable def p_impl_book_put (x0 : TBook) (x1 : TOp) : Option TBook :=
  (get? x0.of_ x1.actor).bind fun v0 =>
  (app? 128 v0 [x1]).bind fun v1 =>
  (p_impl_Op_thing x1).bind fun v2 =>
  (get? x0.kind x1.obj).bind fun _ =>
  (p_impl_Op_stamp x1).bind fun v4 =>
  (p_impl_StampLess x0.top v4).bind fun v5 =>
  if v5 = true then some ((((x0.setOf x1.actor.toNat v1).setKind x1.obj.toNat v2).setSize (w64 (x0.size + 1))).setTop v4)
  else some (((x0.setOf x1.actor.toNat v1).setKind x1.obj.toNat v2).setSize (w64 (x0.size + 1)))
def c_impl_book_put (f_impl_Op_thing : Nat) (f_impl_Op_stamp : Nat) (f_impl_StampLess : Nat) : AFn := ⟨47, (.seq (.ops [(qS 3 (.box (.tmp 1)))]) (.seq (.ops [(qS 4 (.mv (.tmp 0))), (qS 5 (.fieldA 0 (.tmp 3))), (qS 6 (.load 1 false (.tmp 5))), (qS 7 (.mv (.tmp 0))), (qS 8 (.fieldA 0 (.tmp 3))), (qS 9 (.load 1 false (.tmp 8))), (qS 10 (.nilChk (.tmp 7))), (qS 11 (.fieldA 0 (.tmp 10))), (qS 12 (.idxA 16 1 (.tmp 11) (.tmp 9))), (qS 13 (.load 1 false (.tmp 12))), (qS 14 (.load 12 true (.tmp 3))), (qS 15 (.buildSl 12 true 1 [(.int .i64 0), (.int .i64 0), (.int .i64 0), (.slice .none 0 0), (.int .i64 0), (.int .i64 0), (.int .i64 0), (.int .i64 0), (.int .i64 0), (.int .i64 0), (.string ⟨#[]⟩), (.string ⟨#[]⟩)] [(0, (.tmp 14))])), ⟨(.some 16), (.append 12 true 128 (.tmp 13) (.tmp 15)), .none, [(.tmp 5)]⟩, (qS 17 (.nilChk (.tmp 4))), (qS 18 (.fieldA 0 (.tmp 17))), (qS 19 (.idxA 16 1 (.tmp 18) (.tmp 6))), ⟨.none, (.store 1 (.tmp 19) (.tmp 16)), .none, []⟩]) (.seq (.ops [(qS 20 (.mv (.tmp 0))), (qS 21 (.fieldA 5 (.tmp 3))), (qS 22 (.load 1 false (.tmp 21))), (qS 23 (.load 12 true (.tmp 3))), (qS 24 (.call (2 * f_impl_Op_thing) [(.tmp 23)])), (qS 25 (.nilChk (.tmp 20))), (qS 26 (.fieldA 16 (.tmp 25))), (qS 27 (.idxA 101 1 (.tmp 26) (.tmp 22))), ⟨.none, (.store 1 (.tmp 27) (.tmp 24)), .none, []⟩]) (.seq (.ops [(qS 28 (.mv (.tmp 0))), (qS 29 (.nilChk (.tmp 28))), (qS 30 (.fieldA 117 (.tmp 29))), (qS 31 (.load 1 false (.tmp 30))), (qS 32 (.pu (.n (.ar .add)) [(.tmp 31), (ic 1)])), (qS 33 (.nilChk (.tmp 28))), (qS 34 (.fieldA 117 (.tmp 33))), ⟨.none, (.storeV [(0, false)] 1 (.tmp 34) (.tmp 32)), .none, []⟩]) (.seq (.ops [(qS 35 (.mv (.tmp 0))), (qS 36 (.nilChk (.tmp 35))), (qS 37 (.fieldA 118 (.tmp 36))), (qS 38 (.load 2 true (.tmp 37))), (qS 39 (.load 12 true (.tmp 3))), (qS 40 (.call (2 * f_impl_Op_stamp) [(.tmp 39)])), (qS 41 (.call (2 * f_impl_StampLess) [(.tmp 38), (.tmp 40)]))]) (.cond (.tmp 41) (.ops [(qS 42 (.mv (.tmp 0))), (qS 43 (.load 12 true (.tmp 3))), (qS 44 (.call (2 * f_impl_Op_stamp) [(.tmp 43)])), (qS 45 (.nilChk (.tmp 42))), (qS 46 (.fieldA 118 (.tmp 45))), ⟨.none, (.storeV [(0, false), (0, false)] 2 (.tmp 46) (.tmp 44)), .none, []⟩]) .skip)))))), []⟩
def i_impl_book_put (pb : Nat) (h : Heap) (b : TBook) (v : V) (h2 : Heap) : Prop := h.length ≤ h2.length ∧ v = .tup [] ∧ BookAt h2 pb b ∧ ∀ c, c < h.length → Free h c pb → h2[c]? = h[c]? ∧ Free h2 c pb
def k_impl_book_put (F : Fun) : Prop := ∀ (x0 : TBook) (x1 : TOp) (b : TBook), p_impl_book_put x0 x1 = some b → ∀ (pb : Nat) (h : Heap), BookAt h pb x0 → ∃ p, F none [.ptr pb 120 0, .agg [.i (.s (.int .i64 x1.actor)), .i (.s (.int .i64 x1.seq)), .i (.s (.int .i64 x1.time)), .i (.sl 1 (x1.deps.counts.map enc)), .i (.s (.int .i64 x1.kind)), .i (.s (.int .i64 x1.obj)), .i (.s (.int .i64 x1.n)), .i (.s (.int .i64 x1.undo)), .i (.s (.int .i64 x1.at_.time)), .i (.s (.int .i64 x1.at_.actor)), .i (.s (.string x1.key)), .i (.s (.string x1.text))]] h = some p ∧ i_impl_book_put pb h b p.1 p.2
set_option maxHeartbeats 10000000 in
theorem w_impl_book_put {P : Program} {env : Env} {f_impl_Op_thing f_impl_Op_stamp f_impl_StampLess : Nat} (ep_impl_Op_thing : env (2 * f_impl_Op_thing) = pureFn true (FA fun a : TOp => p_impl_Op_thing a)) (ep_impl_Op_stamp : env (2 * f_impl_Op_stamp) = pureFn true (FA fun a : TOp => p_impl_Op_stamp a)) (ep_impl_StampLess : env (2 * f_impl_StampLess) = pureFn true (FA fun a : TStamp × TStamp => p_impl_StampLess a.1 a.2))
    (x0 : TBook) (x1 : TOp) {b : TBook} (hp : p_impl_book_put x0 x1 = some b) (pb : Nat) (hh : Heap) (pf0 : BookAt hh pb x0) : R P env (c_impl_book_put f_impl_Op_thing f_impl_Op_stamp f_impl_StampLess) [.ptr pb 120 0, .agg [.i (.s (.int .i64 x1.actor)), .i (.s (.int .i64 x1.seq)), .i (.s (.int .i64 x1.time)), .i (.sl 1 (x1.deps.counts.map enc)), .i (.s (.int .i64 x1.kind)), .i (.s (.int .i64 x1.obj)), .i (.s (.int .i64 x1.n)), .i (.s (.int .i64 x1.undo)), .i (.s (.int .i64 x1.at_.time)), .i (.s (.int .i64 x1.at_.actor)), .i (.s (.string x1.key)), .i (.s (.string x1.text))]] hh (i_impl_book_put pb hh b) := by
  refine R_of (by simp [c_impl_book_put]) ?_
  unfold c_impl_book_put
  unfold p_impl_book_put at hp
  obtain ⟨vs, hv⟩ := pf0
  obtain ⟨v0, hv0, hp⟩ := bind_eq hp
  obtain ⟨v1, hv1, hp⟩ := bind_eq hp
  obtain ⟨v2, hv2, hp⟩ := bind_eq hp
  obtain ⟨v3, hv3, hp⟩ := bind_eq hp
  obtain ⟨v4, hv4, hp⟩ := bind_eq hp
  obtain ⟨v5, hv5, hp⟩ := bind_eq hp
  have g0 := get_some hv0
  have g3 := get_some hv3
  have ha1 : x1.actor < 16 := by have := g0.2.1; rw [x0.h1] at this; exact this
  have ho1 : x1.obj < 101 := by have := g3.2.1; rw [x0.h2] at this; exact this
  have ha0 := g0.1
  have ho0 := g3.1
  obtain ⟨u, hu⟩ : ∃ u, vs[x1.actor.toNat]? = some u := ⟨_, List.getElem?_eq_getElem (by rw [hv.len]; omega)⟩
  obtain ⟨k1, q1, l1⟩ := app_some hv1
  have hown := hv.own _ _ _ hu g0.2.2
  have hpl := gc_lt hv.row
  have hrow := hv.row
  have hl120 := getCells_len hrow
  have e1 := ld_of (R := BR x0) hu
  have e2 : ∀ u', List.take x1.actor.toNat (vs ++ BR x0) ++ u' :: List.drop (x1.actor.toNat + 1) (vs ++ BR x0) = vs.set x1.actor.toNat u' ++ BR (x0.setOf x1.actor.toNat v1) := fun u' => st_of (by rw [hv.len]; omega)
  have hvl : ∀ u', (vs.set x1.actor.toNat u').length = 16 := fun u' => by rw [List.length_set]; exact hv.len
  have e3 : ∀ u', List.take (16 + x1.obj.toNat) (vs.set x1.actor.toNat u' ++ BR (x0.setOf x1.actor.toNat v1)) ++ .i (.s (.int .i64 v2)) :: List.drop (16 + x1.obj.toNat + 1) (vs.set x1.actor.toNat u' ++ BR (x0.setOf x1.actor.toNat v1)) = vs.set x1.actor.toNat u' ++ BR ((x0.setOf x1.actor.toNat v1).setKind x1.obj.toNat v2) := fun u' => st_kind (hvl u') (by omega)
  have e4 : ∀ u', List.take 1 (List.drop 117 (vs.set x1.actor.toNat u' ++ BR ((x0.setOf x1.actor.toNat v1).setKind x1.obj.toNat v2))) = [.i (.s (.int .i64 x0.size))] := fun u' => ld_size (hvl u')
  have e5 : ∀ u', List.take 117 (vs.set x1.actor.toNat u' ++ BR ((x0.setOf x1.actor.toNat v1).setKind x1.obj.toNat v2)) ++ .i (.s (.int .i64 (w64 (x0.size + 1)))) :: List.drop 118 (vs.set x1.actor.toNat u' ++ BR ((x0.setOf x1.actor.toNat v1).setKind x1.obj.toNat v2)) = vs.set x1.actor.toNat u' ++ BR (((x0.setOf x1.actor.toNat v1).setKind x1.obj.toNat v2).setSize (w64 (x0.size + 1))) := fun u' => st_size (hvl u')
  have e6 : ∀ u', List.take 2 (List.drop 118 (vs.set x1.actor.toNat u' ++ BR (((x0.setOf x1.actor.toNat v1).setKind x1.obj.toNat v2).setSize (w64 (x0.size + 1))))) = [.i (.s (.int .i64 x0.top.time)), .i (.s (.int .i64 x0.top.actor))] := fun u' => ld_top (hvl u')
  have e7 : ∀ u', List.take 118 (vs.set x1.actor.toNat u' ++ BR (((x0.setOf x1.actor.toNat v1).setKind x1.obj.toNat v2).setSize (w64 (x0.size + 1)))) ++ .i (.s (.int .i64 v4.time)) :: .i (.s (.int .i64 v4.actor)) :: List.drop 120 (vs.set x1.actor.toNat u' ++ BR (((x0.setOf x1.actor.toNat v1).setKind x1.obj.toNat v2).setSize (w64 (x0.size + 1)))) = vs.set x1.actor.toNat u' ++ BR ((((x0.setOf x1.actor.toNat v1).setKind x1.obj.toNat v2).setSize (w64 (x0.size + 1))).setTop v4) := fun u' => st_top (hvl u')
  have hl2 : ∀ u' k, (vs.set x1.actor.toNat u' ++ BR k).length = 120 := fun u' k => by rw [List.length_append, hvl, BR_len]
  rcases hown with ⟨rfl, rfl⟩ | ⟨c, rfl, hc⟩
  · have k2 : 1 * 128 ≤ 140737488355328 := by omega
    have q2 : v1 = [x1] := q1
    cases v5 <;> (have hp := Option.some.inj hp; subst hp)
    all_goals
      simp (maxSteps := 2000000) (disch := first|omega|(simp only[ls];first|done|omega)) only [idxA_ptr, retV_nil, at_app, at_app_set, ep_impl_Op_thing, ep_impl_Op_stamp, ep_impl_StampLess, hv2, hv4, hv5, hrow, hpl, hl120, hl2, e1, e2, e3, e4, e5, e6, e7, ha0, ha1, ho0, ho1, k2, gx]
      simp only [List.set_set]
      refine ⟨by simp, rfl, (fun hB : BookV _ pb _ _ => ⟨⟨_, hB⟩, fun c hc1 hf => ⟨?_, free_put hf hrow hB.row rfl ?_⟩⟩) (book_put (h := hh) (c' := hh.length + 2) hv hu g0.2.2 rfl (fun c h1 h2 h3 => by rw [List.getElem?_append_left (by simpa using h1), List.getElem?_set_ne (Ne.symm h2)]) ?_ (by rw [q2]) ?_ (.inl (by omega)))⟩
      · rw [getCells_congr (List.getElem?_append_left (by simpa using hpl))]
        exact set_cells hrow (hl2 _ _)
      · unfold getCells
        rw [q2, List.getElem?_append_right (by simp), List.length_set, Nat.add_sub_cancel_left]
        rfl
      · rw [List.getElem?_append_left (by simpa using hc1), List.getElem?_set_ne (Ne.symm hf.ne)]
      · omega
  · have hne := hv.ne _ _ _ _ _ _ _ hu
    have hcl := gc_lt hc
    have hcl2 := getCells_len hc
    have k2 : (v0.length + 1) * 128 ≤ 140737488355328 := by simp at k1; omega
    have q2 : rows v0 ++ [.i (.s (.int .i64 x1.actor)), .i (.s (.int .i64 x1.seq)), .i (.s (.int .i64 x1.time)), .i (.sl 1 (x1.deps.counts.map enc)), .i (.s (.int .i64 x1.kind)), .i (.s (.int .i64 x1.obj)), .i (.s (.int .i64 x1.n)), .i (.s (.int .i64 x1.undo)), .i (.s (.int .i64 x1.at_.time)), .i (.s (.int .i64 x1.at_.actor)), .i (.s (.string x1.key)), .i (.s (.string x1.text))] = rows v1 := by rw [q1, rows_append]; rfl
    have q3 : v1.length = v0.length + 1 := by simpa using l1
    have q4 : v0.length * 12 + 12 = v1.length * 12 := by omega
    have hfne : ∀ c2, Free hh c2 pb → c2 ≠ c := fun c2 hf e => by
      subst e
      exact hf.no _ hrow x1.actor.toNat _ _ _ _ _ (by rw [List.getElem?_append_left (by rw [hv.len]; omega)]; exact hu)
    cases v5 <;> (have hp := Option.some.inj hp; subst hp)
    all_goals
      simp (maxSteps := 2000000) (disch := first|omega|(simp only[ls];first|done|omega)) only [idxA_ptr, retV_nil, at_app, at_app_set, ep_impl_Op_thing, ep_impl_Op_stamp, ep_impl_StampLess, hv2, hv4, hv5, hrow, hpl, hl120, hl2, e1, e2, e3, e4, e5, e6, e7, ha0, ha1, ho0, ho1, k2, hc, hcl, hcl2, hne, Ne.symm hne, q2, gx]
      simp only [List.set_set]
      refine ⟨by simp, rfl, (fun hB : BookV _ pb _ _ => ⟨⟨_, hB⟩, fun c2 hc1 hf => ⟨?_, free_put hf hrow hB.row rfl (hfne c2 hf)⟩⟩) (book_put (h := hh) (c' := c) hv hu g0.2.2 rfl (fun c2 h1 h2 h3 => by rw [List.getElem?_append_left (by simpa using h1), List.getElem?_set_ne (Ne.symm h2), List.getElem?_set_ne (fun e => h3 _ _ _ _ _ (by rw [e]))]) ?_ (by rw [← q4, q3]) ?_ (.inr ⟨_, _, _, _, _, rfl⟩))⟩
      · rw [getCells_congr (List.getElem?_append_left (by simpa using hpl))]
        exact set_cells ((getCells_congr (List.getElem?_set_ne hne)).trans hrow) (hl2 _ _)
      · rw [getCells_congr (List.getElem?_append_left (by simpa using hcl)), getCells_congr (List.getElem?_set_ne (Ne.symm hne))]
        exact set_cells hc (rows_len (α := TOp))
      · rw [List.getElem?_append_left (by simpa using hc1), List.getElem?_set_ne (Ne.symm hf.ne), List.getElem?_set_ne (Ne.symm (hfne c2 hf))]
theorem ko_impl_book_put {P : Program} {env : Env} {f_impl_Op_thing f_impl_Op_stamp f_impl_StampLess : Nat} (ep_impl_Op_thing : env (2 * f_impl_Op_thing) = pureFn true (FA fun a : TOp => p_impl_Op_thing a)) (ep_impl_Op_stamp : env (2 * f_impl_Op_stamp) = pureFn true (FA fun a : TOp => p_impl_Op_stamp a)) (ep_impl_StampLess : env (2 * f_impl_StampLess) = pureFn true (FA fun a : TStamp × TStamp => p_impl_StampLess a.1 a.2)) : k_impl_book_put (runIn P env (c_impl_book_put f_impl_Op_thing f_impl_Op_stamp f_impl_StampLess)) := by
  intro x0 x1 b hp pb h a0
  exact w_impl_book_put ep_impl_Op_thing ep_impl_Op_stamp ep_impl_StampLess x0 x1 hp pb h a0
end

end Go.AM
