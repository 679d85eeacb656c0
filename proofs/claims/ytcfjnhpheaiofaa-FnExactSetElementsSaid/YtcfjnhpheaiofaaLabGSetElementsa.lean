/- Plain functions of SetElements and their walks. No condition. -/
import Derived.Test.YtcfjnhpheaiofaaLabB37
import Derived.Test.YtcfjnhpheaiofaaLabB39
set_option linter.unusedVariables false
set_option linter.unusedSimpArgs false
set_option maxRecDepth 20000
namespace Go.AM
open Pic (enc dec dec_enc dec_sub)
open PicA (encA decA decA_encA decA_sub)
noncomputable def p_laws_szIntS (x0 : List Int) (x1 : Int) : Option Int :=
  if (decide (w64 (x1 - (x0.length : Int)) < 0)) = true then
    some (-1)
  else
    some (w64 (x1 - (x0.length : Int)))
def c_laws_szIntS : AFn := ⟨12, (.seq (.ops [(qS 4 (.mv (ic 0)))]) (.seq (.ops [(qS 5 (.mv (.tmp 1))), (qS 6 (.mv (.tmp 0))), (qS 7 (.len (.tmp 6))), (qS 8 (.pu (.n (.ar .sub)) [(.tmp 5), (.tmp 7)])), (qS 1 (.mv (.tmp 8)))]) (.seq (.seq (.ops [(qS 9 (.mv (.tmp 1))), (qS 10 (.pu (.n (.ar .lss)) [(.tmp 9), (ic 0)]))]) (.cond (.tmp 10) (.seq (.ops [(qS 4 (.mv (ic (-1))))]) .ret) .skip)) (.seq (.ops [(qS 11 (.mv (.tmp 1))), (qS 4 (.mv (.tmp 11)))]) .ret)))), [(.tmp 4)]⟩
set_option maxHeartbeats 10000000 in
theorem d_laws_szIntS {P : Program} {env : Env}  (x0 : List Int) (x1 : Int) {b : Int} (hp : p_laws_szIntS x0 x1 = some b) : R P env (c_laws_szIntS) ((encA (x0, x1)).map ofI) [] (Tells true b) := by
  refine R_of (by simp [c_laws_szIntS, encA]) ?_
  unfold c_laws_szIntS
  unfold p_laws_szIntS at hp
  by_cases hb0 : (decide (w64 (x1 - (x0.length : Int)) < 0)) = true
  · rw [if_t hb0] at hp
    have hp := Option.some.inj hp
    subst hp
    simp (maxSteps := 2000000) (disch := first|omega|(simp only[ls];first|done|omega)) only [hb0, gx]
  · replace hb0 := eq_false_of_ne_true hb0
    rw [if_f hb0] at hp
    have hp := Option.some.inj hp
    subst hp
    simp (maxSteps := 2000000) (disch := first|omega|(simp only[ls];first|done|omega)) only [hb0, gx]

noncomputable def p_laws_szVector (x0 : TVec) (x1 : Int) : Option Int :=
  (p_laws_szIntS x0.counts x1).bind fun v0 =>
  if (decide (v0 < 0)) = true then
    some (-1)
  else
    some v0
def c_laws_szVector (f_laws_szIntS : Nat) : AFn := ⟨12, (.seq (.ops [(qS 2 (.box (.tmp 0))), (qS 4 (.mv (ic 0)))]) (.seq (.ops [(qS 5 (.fieldA 0 (.tmp 2))), (qS 6 (.load 1 false (.tmp 5))), (qS 7 (.mv (.tmp 1))), (qS 8 (.call (2 * f_laws_szIntS) [(.tmp 6), (.tmp 7)])), (qS 1 (.mv (.tmp 8)))]) (.seq (.seq (.ops [(qS 9 (.mv (.tmp 1))), (qS 10 (.pu (.n (.ar .lss)) [(.tmp 9), (ic 0)]))]) (.cond (.tmp 10) (.seq (.ops [(qS 4 (.mv (ic (-1))))]) .ret) .skip)) (.seq (.ops [(qS 11 (.mv (.tmp 1))), (qS 4 (.mv (.tmp 11)))]) .ret)))), [(.tmp 4)]⟩
set_option maxHeartbeats 10000000 in
theorem d_laws_szVector {P : Program} {env : Env} {f_laws_szIntS : Nat}  (ep_laws_szIntS : env (2 * f_laws_szIntS) = pureFn true (FA fun a : List Int × Int => p_laws_szIntS a.1 a.2)) (x0 : TVec) (x1 : Int) {b : Int} (hp : p_laws_szVector x0 x1 = some b) : R P env (c_laws_szVector f_laws_szIntS) ((encA (x0, x1)).map ofI) [] (Tells true b) := by
  refine R_of (by simp [c_laws_szVector, encA]) ?_
  have E := ep_laws_szIntS
  unfold c_laws_szVector
  unfold p_laws_szVector at hp
  obtain ⟨v0, hv0, hp⟩ := bind_eq hp
  by_cases hb1 : (decide (v0 < 0)) = true
  · rw [if_t hb1] at hp
    have hp := Option.some.inj hp
    subst hp
    simp (maxSteps := 2000000) (disch := first|omega|(simp only[ls];first|done|omega)) only [E, hv0, hb1, gx]
  · replace hb1 := eq_false_of_ne_true hb1
    rw [if_f hb1] at hp
    have hp := Option.some.inj hp
    subst hp
    simp (maxSteps := 2000000) (disch := first|omega|(simp only[ls];first|done|omega)) only [E, hv0, hb1, gx]

noncomputable def p_laws_szEntry (x0 : TEntry) (x1 : Int) : Option Int :=
  if (decide (w64 (x1 - (x0.text.size : Int)) < 0)) = true then
    some (-1)
  else
    some (w64 (x1 - (x0.text.size : Int)))
def c_laws_szEntry : AFn := ⟨13, (.seq (.ops [(qS 2 (.box (.tmp 0))), (qS 4 (.mv (ic 0)))]) (.seq (.ops [(qS 5 (.mv (.tmp 1))), (qS 6 (.fieldA 2 (.tmp 2))), (qS 7 (.load 1 false (.tmp 6))), (qS 8 (.pu (.n .len) [(.tmp 7)])), (qS 9 (.pu (.n (.ar .sub)) [(.tmp 5), (.tmp 8)])), (qS 1 (.mv (.tmp 9)))]) (.seq (.seq (.ops [(qS 10 (.mv (.tmp 1))), (qS 11 (.pu (.n (.ar .lss)) [(.tmp 10), (ic 0)]))]) (.cond (.tmp 11) (.seq (.ops [(qS 4 (.mv (ic (-1))))]) .ret) .skip)) (.seq (.ops [(qS 12 (.mv (.tmp 1))), (qS 4 (.mv (.tmp 12)))]) .ret)))), [(.tmp 4)]⟩
set_option maxHeartbeats 10000000 in
theorem d_laws_szEntry {P : Program} {env : Env}  (x0 : TEntry) (x1 : Int) {b : Int} (hp : p_laws_szEntry x0 x1 = some b) : R P env (c_laws_szEntry) ((encA (x0, x1)).map ofI) [] (Tells true b) := by
  refine R_of (by simp [c_laws_szEntry, encA]) ?_
  unfold c_laws_szEntry
  unfold p_laws_szEntry at hp
  by_cases hb0 : (decide (w64 (x1 - (x0.text.size : Int)) < 0)) = true
  · rw [if_t hb0] at hp
    have hp := Option.some.inj hp
    subst hp
    simp (maxSteps := 2000000) (disch := first|omega|(simp only[ls];first|done|omega)) only [hb0, gx]
  · replace hb0 := eq_false_of_ne_true hb0
    rw [if_f hb0] at hp
    have hp := Option.some.inj hp
    subst hp
    simp (maxSteps := 2000000) (disch := first|omega|(simp only[ls];first|done|omega)) only [hb0, gx]

noncomputable def p_laws_szEntryS_l0 (x0 : List TEntry) : Int × Int → Option (Lp (Int × Int) Int)
  | (s1, s2) =>
    if (decide (s2 < (x0.length : Int))) = true then
      (get? x0 s2).bind fun v4 =>
      (p_laws_szEntry v4 s1).bind fun v5 =>
      if (decide (v5 < 0)) = true then
        some (.ret (-1))
      else
        some (.go (v5, w64 (s2 + 1)))
    else
      some (.out (s1, s2))
noncomputable def p_laws_szEntryS (x0 : List TEntry) (x1 : Int) : Option Int :=
  if (decide (w64 (x1 - (x0.length : Int)) < 0)) = true then
    some (-1)
  else
    (loopP (p_laws_szEntryS_l0 x0) (w64 (x1 - (x0.length : Int)), 0)).bind fun ee0 => match ee0 with
    | .ret r => some r
    | .out (o7, o8) =>
      some o7
def c_laws_szEntryS (f_laws_szEntry : Nat) : AFn := ⟨27, (.seq (.ops [(qS 4 (.mv (ic 0)))]) (.seq (.ops [(qS 6 (.mv (.tmp 1))), (qS 7 (.mv (.tmp 0))), (qS 8 (.len (.tmp 7))), (qS 9 (.pu (.n (.ar .sub)) [(.tmp 6), (.tmp 8)])), (qS 1 (.mv (.tmp 9)))]) (.seq (.seq (.ops [(qS 10 (.mv (.tmp 1))), (qS 11 (.pu (.n (.ar .lss)) [(.tmp 10), (ic 0)]))]) (.cond (.tmp 11) (.seq (.ops [(qS 4 (.mv (ic (-1))))]) .ret) .skip)) (.seq (.seq (.ops [(qS 5 (.mv (ic 0)))]) (.block 0 (.loop (.seq (.seq (.ops [(qS 12 (.mv (.tmp 5))), (qS 13 (.mv (.tmp 0))), (qS 14 (.len (.tmp 13))), (qS 15 (.pu (.n (.ar .lss)) [(.tmp 12), (.tmp 14)]))]) (.cond (.tmp 15) .skip (.exit 0))) (.seq (.block 1 (.seq (.ops [(qS 18 (.mv (.tmp 0))), (qS 19 (.mv (.tmp 5))), (qS 20 (.idxS 3 (.tmp 18) (.tmp 19))), (qS 21 (.load 3 true (.tmp 20))), (qS 22 (.mv (.tmp 1))), (qS 23 (.call (2 * f_laws_szEntry) [(.tmp 21), (.tmp 22)])), (qS 1 (.mv (.tmp 23)))]) (.seq (.ops [(qS 24 (.mv (.tmp 1))), (qS 25 (.pu (.n (.ar .lss)) [(.tmp 24), (ic 0)]))]) (.cond (.tmp 25) (.seq (.ops [(qS 4 (.mv (ic (-1))))]) .ret) .skip)))) (.ops [(qS 16 (.mv (.tmp 5))), (qS 17 (.pu (.n (.ar .add)) [(.tmp 16), (ic 1)])), (qS 5 (.mv (.tmp 17)))])))))) (.seq (.ops [(qS 26 (.mv (.tmp 1))), (qS 4 (.mv (.tmp 26)))]) .ret))))), [(.tmp 4)]⟩
set_option maxHeartbeats 10000000 in
theorem d_laws_szEntryS {P : Program} {env : Env} {f_laws_szEntry : Nat}  (ep_laws_szEntry : env (2 * f_laws_szEntry) = pureFn true (FA fun a : TEntry × Int => p_laws_szEntry a.1 a.2)) (x0 : List TEntry) (x1 : Int) {b : Int} (hp : p_laws_szEntryS x0 x1 = some b) : R P env (c_laws_szEntryS f_laws_szEntry) ((encA (x0, x1)).map ofI) [] (Tells true b) := by
  refine R_of (by simp [c_laws_szEntryS, encA]) ?_
  have E := ep_laws_szEntry
  unfold c_laws_szEntryS
  unfold p_laws_szEntryS at hp
  by_cases hb0 : (decide (w64 (x1 - (x0.length : Int)) < 0)) = true
  · rw [if_t hb0] at hp
    have hp := Option.some.inj hp
    subst hp
    simp (maxSteps := 2000000) (disch := first|omega|(simp only[ls];first|done|omega)) only [E, hb0, gx]
  · replace hb0 := eq_false_of_ne_true hb0
    rw [if_f hb0] at hp
    obtain ⟨ee0, hee0, hp⟩ := bind_eq hp
    simp (maxSteps := 2000000) (disch := first|omega|(simp only[ls];first|done|omega)) only [E, hb0, gx]
    refine W_loopP 0 (fun s t h => match s with | (s1, s2) => t 0 = .i (.sl 3 (x0.map enc)) ∧ t 1 = .i (.s (.int .i64 s1)) ∧ t 5 = .i (.s (.int .i64 s2))) (RK [.tmp 4] (Tells true)) ?_ hee0 ?_ ?_
    · rintro ⟨s1, s2⟩ ee tt0 hh0 ⟨ftt0_0, ftt0_1, ftt0_2⟩ hp
      rw [p_laws_szEntryS_l0] at hp
      by_cases hb3 : (decide (s2 < (x0.length : Int))) = true
      · rw [if_t hb3] at hp
        obtain ⟨v4, hv4, hp⟩ := bind_eq hp
        obtain ⟨v5, hv5, hp⟩ := bind_eq hp
        by_cases hb6 : (decide (v5 < 0)) = true
        · rw [if_t hb6] at hp
          have hp := Option.some.inj hp
          subst hp
          simp (maxSteps := 2000000) (disch := first|omega|(simp only[ls];first|done|omega)) only [E, hb0, ftt0_0, ftt0_1, ftt0_2, hb3, hv4, hv5, hb6, gx]
        · replace hb6 := eq_false_of_ne_true hb6
          rw [if_f hb6] at hp
          have hp := Option.some.inj hp
          subst hp
          simp (maxSteps := 2000000) (disch := first|omega|(simp only[ls];first|done|omega)) only [E, hb0, ftt0_0, ftt0_1, ftt0_2, hb3, hv4, hv5, hb6, gx] <;> omega
      · replace hb3 := eq_false_of_ne_true hb3
        rw [if_f hb3] at hp
        have hp := Option.some.inj hp
        subst hp
        simp (maxSteps := 2000000) (disch := first|omega|(simp only[ls];first|done|omega)) only [E, hb0, ftt0_0, ftt0_1, ftt0_2, hb3, gx] <;> omega
    · simp (maxSteps := 2000000) (disch := first|omega|(simp only[ls];first|done|omega)) only [E, hb0, gx] <;> omega
    · intro x tt1 hh1 hx
      rcases ee0 with ⟨o7, o8⟩ | r
      · obtain ⟨rfl, ftt1_0, ftt1_1, ftt1_2⟩ := hx
        dsimp only at hp
        have hp := Option.some.inj hp
        subst hp
        simp (maxSteps := 2000000) (disch := first|omega|(simp only[ls];first|done|omega)) only [E, hb0, ftt1_0, ftt1_1, ftt1_2, gx]
      · obtain ⟨rfl, hx⟩ := hx
        dsimp only at hp
        cases hp
        simp only [seqK_ret, blockK_ret, retK_RK (K := Tells true), hx, and_self, true_and]

noncomputable def p_laws_szSet (x0 : TMulti) (x1 : Int) : Option Int :=
  (p_laws_szVector x0.seen x1).bind fun v0 =>
  if (decide (v0 < 0)) = true then
    some (-1)
  else
    (p_laws_szEntryS x0.entries v0).bind fun v2 =>
    if (decide (v2 < 0)) = true then
      some (-1)
    else
      some v2
def c_laws_szSet (f_laws_szVector : Nat) (f_laws_szEntryS : Nat) : AFn := ⟨18, (.seq (.ops [(qS 2 (.box (.tmp 0))), (qS 4 (.mv (ic 0)))]) (.seq (.ops [(qS 5 (.fieldA 0 (.tmp 2))), (qS 6 (.load 1 true (.tmp 5))), (qS 7 (.mv (.tmp 1))), (qS 8 (.call (2 * f_laws_szVector) [(.tmp 6), (.tmp 7)])), (qS 1 (.mv (.tmp 8)))]) (.seq (.seq (.ops [(qS 9 (.mv (.tmp 1))), (qS 10 (.pu (.n (.ar .lss)) [(.tmp 9), (ic 0)]))]) (.cond (.tmp 10) (.seq (.ops [(qS 4 (.mv (ic (-1))))]) .ret) .skip)) (.seq (.ops [(qS 11 (.fieldA 1 (.tmp 2))), (qS 12 (.load 1 false (.tmp 11))), (qS 13 (.mv (.tmp 1))), (qS 14 (.call (2 * f_laws_szEntryS) [(.tmp 12), (.tmp 13)])), (qS 1 (.mv (.tmp 14)))]) (.seq (.seq (.ops [(qS 15 (.mv (.tmp 1))), (qS 16 (.pu (.n (.ar .lss)) [(.tmp 15), (ic 0)]))]) (.cond (.tmp 16) (.seq (.ops [(qS 4 (.mv (ic (-1))))]) .ret) .skip)) (.seq (.ops [(qS 17 (.mv (.tmp 1))), (qS 4 (.mv (.tmp 17)))]) .ret)))))), [(.tmp 4)]⟩
set_option maxHeartbeats 10000000 in
theorem d_laws_szSet {P : Program} {env : Env} {f_laws_szVector : Nat} {f_laws_szEntryS : Nat}  (ep_laws_szVector : env (2 * f_laws_szVector) = pureFn true (FA fun a : TVec × Int => p_laws_szVector a.1 a.2)) (ep_laws_szEntryS : env (2 * f_laws_szEntryS) = pureFn true (FA fun a : List TEntry × Int => p_laws_szEntryS a.1 a.2)) (x0 : TMulti) (x1 : Int) {b : Int} (hp : p_laws_szSet x0 x1 = some b) : R P env (c_laws_szSet f_laws_szVector f_laws_szEntryS) ((encA (x0, x1)).map ofI) [] (Tells true b) := by
  refine R_of (by simp [c_laws_szSet, encA]) ?_
  have E := And.intro ep_laws_szVector ep_laws_szEntryS
  unfold c_laws_szSet
  unfold p_laws_szSet at hp
  obtain ⟨v0, hv0, hp⟩ := bind_eq hp
  by_cases hb1 : (decide (v0 < 0)) = true
  · rw [if_t hb1] at hp
    have hp := Option.some.inj hp
    subst hp
    simp (maxSteps := 2000000) (disch := first|omega|(simp only[ls];first|done|omega)) only [E, hv0, hb1, gx]
  · replace hb1 := eq_false_of_ne_true hb1
    rw [if_f hb1] at hp
    obtain ⟨v2, hv2, hp⟩ := bind_eq hp
    by_cases hb3 : (decide (v2 < 0)) = true
    · rw [if_t hb3] at hp
      have hp := Option.some.inj hp
      subst hp
      simp (maxSteps := 2000000) (disch := first|omega|(simp only[ls];first|done|omega)) only [E, hv0, hb1, hv2, hb3, gx]
    · replace hb3 := eq_false_of_ne_true hb3
      rw [if_f hb3] at hp
      have hp := Option.some.inj hp
      subst hp
      simp (maxSteps := 2000000) (disch := first|omega|(simp only[ls];first|done|omega)) only [E, hv0, hb1, hv2, hb3, gx]

noncomputable def p_laws_toIntS_l0 (x0 : List Int) : List Int × Int → Option (Lp (List Int × Int) (List Int))
  | (s1, s2) =>
    if (decide (s2 < (x0.length : Int))) = true then
      (get? x0 s2).bind fun v4 =>
      (get? s1 s2).bind fun v5 =>
      some (.go ((s1.set s2.toNat v4), w64 (s2 + 1)))
    else
      some (.out (s1, s2))
noncomputable def p_laws_toIntS (x0 : List Int) : Option (List Int) :=
  ((mkL (x0.length : Int) 8 (x0.length : Int) 0 : Option (List Int))).bind fun v0 =>
  (loopP (p_laws_toIntS_l0 x0) (v0, 0)).bind fun ee0 => match ee0 with
  | .ret r => some r
  | .out (o7, o8) =>
    some o7
def c_laws_toIntS : AFn := ⟨22, (.seq (.ops [(qS 2 (.vnil 1 false))]) (.seq (.ops [(qS 5 (.mv (.tmp 0))), (qS 6 (.len (.tmp 5))), (qS 7 (.makeSl 1 false 8 [(.int .i64 0)] (.tmp 6) (.tmp 6))), (qS 3 (.mv (.tmp 7)))]) (.seq (.seq (.ops [(qS 4 (.mv (ic 0)))]) (.block 0 (.loop (.seq (.seq (.ops [(qS 8 (.mv (.tmp 4))), (qS 9 (.mv (.tmp 0))), (qS 10 (.len (.tmp 9))), (qS 11 (.pu (.n (.ar .lss)) [(.tmp 8), (.tmp 10)]))]) (.cond (.tmp 11) .skip (.exit 0))) (.seq (.block 1 (.ops [(qS 14 (.mv (.tmp 3))), (qS 15 (.mv (.tmp 4))), (qS 16 (.mv (.tmp 0))), (qS 17 (.mv (.tmp 4))), (qS 18 (.idxS 1 (.tmp 16) (.tmp 17))), (qS 19 (.load 1 false (.tmp 18))), (qS 20 (.idxS 1 (.tmp 14) (.tmp 15))), ⟨.none, (.storeV [(0, false)] 1 (.tmp 20) (.tmp 19)), .none, []⟩])) (.ops [(qS 12 (.mv (.tmp 4))), (qS 13 (.pu (.n (.ar .add)) [(.tmp 12), (ic 1)])), (qS 4 (.mv (.tmp 13)))])))))) (.seq (.ops [(qS 21 (.mv (.tmp 3))), (qS 2 (.mv (.tmp 21)))]) .ret)))), [(.tmp 2)]⟩
def o_laws_toIntS (b : List Int) (v : V) (h : Heap) : Prop := ∃ n0 : Nat, v = .hsl n0 b.length 0 1 false b.length ∧ getCells h n0 b.length = some (rows b)
def oo_laws_toIntS (b : List Int) (h : Heap) (v : V) (h2 : Heap) : Prop := Keep [] h h2 ∧ ∃ n0 : Nat, v = .hsl n0 b.length 0 1 false b.length ∧ n0 < h2.length ∧ h.length ≤ n0 ∧ getCells h2 n0 b.length = some (rows b)
def k_laws_toIntS (F : Fun) : Prop := ∀ (x0 : List Int) (b : List Int), p_laws_toIntS x0 = some b → ∀ (h : Heap) (args : List V), snapA 9 false h args = some (encA (x0)) → ∃ p, F none args h = some p ∧ oo_laws_toIntS b h p.1 p.2
set_option maxHeartbeats 10000000 in
theorem w_laws_toIntS {P : Program} {env : Env}  (x0 : List Int) {b : List Int} (hp : p_laws_toIntS x0 = some b) : R P env (c_laws_toIntS) ((encA (x0)).map ofI) [] (o_laws_toIntS b) := by
  refine R_of (by simp [c_laws_toIntS, encA]) ?_
  unfold c_laws_toIntS
  unfold p_laws_toIntS at hp
  obtain ⟨v0, hv0, hp⟩ := bind_eq hp
  obtain ⟨kv0, qv0, lv0⟩ := mkL_some hv0
  have rv0 : (List.replicate x0.length [.i (.s (.int .i64 0))]).flatten = rows v0 := by rw [qv0]; exact rows_rep (x := (0 : Int)) rfl
  have mv0 : x0.length = v0.length := by rw [lv0]; simp
  obtain ⟨ee0, hee0, hp⟩ := bind_eq hp
  simp (maxSteps := 2000000) (disch := first|omega|(simp only[ls];first|done|omega)) only [hv0, rv0, kv0.1, kv0.2.1, kv0.2.2.1, kv0.2.2.2, gx]
  refine W_loopP 0 (fun s t h => match s with | (s1, s2) => t 0 = .i (.sl 1 (x0.map enc)) ∧ t 3 = .hsl 1 x0.length 0 1 false x0.length ∧ t 4 = .i (.s (.int .i64 s2)) ∧ getCells h 1 x0.length = some (rows (s1 : List Int)) ∧ 1 < h.length) (RK [.tmp 2] (o_laws_toIntS)) ?_ hee0 ?_ ?_
  · rintro ⟨s1, s2⟩ ee tt0 hh0 ⟨ftt0_0, ftt0_1, ftt0_2, ftt0_3, ftt0_4⟩ hp
    have ztt0_3 := len_rows ftt0_3
    simp only [zs] at ztt0_3
    rw [p_laws_toIntS_l0] at hp
    by_cases hb3 : (decide (s2 < (x0.length : Int))) = true
    · rw [if_t hb3] at hp
      obtain ⟨v4, hv4, hp⟩ := bind_eq hp
      obtain ⟨v5, hv5, hp⟩ := bind_eq hp
      have gv5 := get_some hv5
      have hs6 : List.take s2.toNat (rows s1) ++ .i (.s (.int .i64 v4)) :: List.drop (s2.toNat + 1) (rows s1) = rows (s1.set s2.toNat v4) := by simpa [splice, zs, cellsV, I.cells, enc_int] using rows_set_off (y := v4) (ys := [.i (.s (.int .i64 v4))]) (k := 0) gv5.2.2 (Nat.le_of_ble_eq_true rfl) (by rfl)
      have hp := Option.some.inj hp
      subst hp
      simp (maxSteps := 2000000) (disch := first|omega|(simp only[ls];first|done|omega)) only [hv0, rv0, kv0.1, kv0.2.1, kv0.2.2.1, kv0.2.2.2, ftt0_0, ftt0_1, ftt0_2, ftt0_3, ftt0_4, hb3, hv4, hv5, (gv5).1, (gv5).2.1, hs6, gx] <;> omega
    · replace hb3 := eq_false_of_ne_true hb3
      rw [if_f hb3] at hp
      have hp := Option.some.inj hp
      subst hp
      simp (maxSteps := 2000000) (disch := first|omega|(simp only[ls];first|done|omega)) only [hv0, rv0, kv0.1, kv0.2.1, kv0.2.2.1, kv0.2.2.2, ftt0_0, ftt0_1, ftt0_2, ftt0_3, ftt0_4, hb3, gx] <;> omega
  · simp (maxSteps := 2000000) (disch := first|omega|(simp only[ls];first|done|omega)) only [hv0, rv0, kv0.1, kv0.2.1, kv0.2.2.1, kv0.2.2.2, gx] <;> omega
  · intro x tt1 hh1 hx
    rcases ee0 with ⟨o7, o8⟩ | r
    · obtain ⟨rfl, ftt1_0, ftt1_1, ftt1_2, ftt1_3, ftt1_4⟩ := hx
      have ztt1_3 := len_rows ftt1_3
      simp only [zs] at ztt1_3
      dsimp only at hp
      have hp := Option.some.inj hp
      subst hp
      simp (maxSteps := 2000000) (disch := first|omega|(simp only[ls];first|done|omega)) only [hv0, rv0, kv0.1, kv0.2.1, kv0.2.2.1, kv0.2.2.2, ftt1_0, ftt1_1, ftt1_2, ftt1_3, ftt1_4, gx]
      refine ⟨1, ?_⟩
      simp (maxSteps := 2000000) (disch := first|omega|(simp only[ls];first|done|omega)) only [hv0, rv0, kv0.1, kv0.2.1, kv0.2.2.1, kv0.2.2.2, ftt1_0, ftt1_1, ftt1_2, ftt1_3, ftt1_4, o_laws_toIntS, (show (o7).length = x0.length from by first | omega | rfl), gx] <;> omega
    · obtain ⟨rfl, hx⟩ := hx
      dsimp only at hp
      cases hp
      simp only [seqK_ret, blockK_ret, retK_RK (K := o_laws_toIntS), hx, and_self, true_and]
theorem ko_laws_toIntS {P : Program} {env : Env}  : k_laws_toIntS (ownFn P env (c_laws_toIntS)) := by
  intro x0 b hp h args has
  obtain ⟨⟨v, H2⟩, hr, n0, rfl, wn0⟩ := w_laws_toIntS x0 hp
  exact ⟨_, own_call has hr rfl, keep_moved, n0 + h.length, rfl, (moved_lt wn0).2, (moved_lt wn0).1, moved_rows wn0⟩

noncomputable def p_laws_toVector (x0 : TVec) : Option TVec :=
  (p_laws_toIntS x0.counts).bind fun v0 =>
  some (TVec.mk v0)
def c_laws_toVector (f_laws_toIntS : Nat) : AFn := ⟨9, (.seq (.ops [(qS 1 (.box (.tmp 0))), (qS 2 (.allocV [(1, false)] [(.slice .none 0 0)]))]) (.seq (.ops [(qS 3 (.allocV [(1, false)] [(.slice .none 0 0)]))]) (.seq (.ops [(qS 4 (.fieldA 0 (.tmp 1))), (qS 5 (.load 1 false (.tmp 4))), (qS 6 (.call (2 * f_laws_toIntS + 1) [(.tmp 5)])), (qS 7 (.fieldA 0 (.tmp 3))), ⟨.none, (.storeV [(1, false)] 1 (.tmp 7) (.tmp 6)), .none, []⟩]) (.seq (.ops [(qS 8 (.load 1 true (.tmp 3))), ⟨.none, (.storeV [(1, false)] 1 (.tmp 2) (.tmp 8)), .none, []⟩]) .ret)))), [(.cell 2 1 true)]⟩
def o_laws_toVector (b : TVec) (v : V) (h : Heap) : Prop := ∃ n0 : Nat, v = .agg [.hsl n0 b.counts.length 0 1 false b.counts.length] ∧ getCells h n0 b.counts.length = some (rows b.counts)
def oo_laws_toVector (b : TVec) (h : Heap) (v : V) (h2 : Heap) : Prop := Keep [] h h2 ∧ ∃ n0 : Nat, v = .agg [.hsl n0 b.counts.length 0 1 false b.counts.length] ∧ n0 < h2.length ∧ h.length ≤ n0 ∧ getCells h2 n0 b.counts.length = some (rows b.counts)
def k_laws_toVector (F : Fun) : Prop := ∀ (x0 : TVec) (b : TVec), p_laws_toVector x0 = some b → ∀ (h : Heap) (args : List V), snapA 9 false h args = some (encA (x0)) → ∃ p, F none args h = some p ∧ oo_laws_toVector b h p.1 p.2
set_option maxHeartbeats 10000000 in
theorem w_laws_toVector {P : Program} {env : Env} {f_laws_toIntS : Nat}  (e_laws_toIntS : k_laws_toIntS (env (2 * f_laws_toIntS + 1))) (x0 : TVec) {b : TVec} (hp : p_laws_toVector x0 = some b) : R P env (c_laws_toVector f_laws_toIntS) ((encA (x0)).map ofI) [] (o_laws_toVector b) := by
  refine R_of (by simp [c_laws_toVector, encA]) ?_
  unfold c_laws_toVector
  unfold p_laws_toVector at hp
  obtain ⟨v0, hv0, hp⟩ := bind_eq hp
  simp (maxSteps := 2000000) (disch := first|omega|(simp only[ls];first|done|omega)) only [gx]
  refine call_f (fun h => getCells h 0 1 = some [.i (.sl 1 (x0.counts.map enc))] ∧ 0 < h.length ∧ getCells h 1 0 = some [] ∧ 1 < h.length ∧ getCells h 2 1 = some [.hsl 1 0 0 1 false 0] ∧ 2 < h.length ∧ getCells h 3 0 = some [] ∧ 3 < h.length ∧ getCells h 4 1 = some [.hsl 3 0 0 1 false 0] ∧ 4 < h.length) (fun h v h2 => oo_laws_toIntS v0 h v h2) ?_ ?_ ?_
  · simp (maxSteps := 2000000) (disch := first|omega|(simp only[ls];first|done|omega)) only [hv0, gx] <;> omega
  · rintro h ⟨c0_0, c0_1, c0_2, c0_3, c0_4, c0_5, c0_6, c0_7, c0_8, c0_9⟩
    exact e_laws_toIntS _ _ hv0 h _ (by simp (maxSteps := 2000000) (disch := first|omega|(simp only[ls];first|done|omega)) only [hv0, c0_0, c0_1, c0_2, c0_3, c0_4, c0_5, c0_6, c0_7, c0_8, c0_9, gx])
  · rintro hc0 v hh0 ⟨c0_0, c0_1, c0_2, c0_3, c0_4, c0_5, c0_6, c0_7, c0_8, c0_9⟩ hpost
    obtain ⟨kk0, nb0_0, rfl, lnb0_0, gnb0_0, wnb0_0⟩ := hpost
    have d0_0 : getCells hh0 0 1 = some [.i (.sl 1 (x0.counts.map enc))] := (keep_get kk0 c0_1 (by first | (simp; done) | (simp; omega))).trans c0_0
    have d0_0l := keep_lt kk0 c0_1
    have d0_1 : getCells hh0 1 0 = some [] := (keep_get kk0 c0_3 (by first | (simp; done) | (simp; omega))).trans c0_2
    have d0_1l := keep_lt kk0 c0_3
    have d0_2 : getCells hh0 2 1 = some [.hsl 1 0 0 1 false 0] := (keep_get kk0 c0_5 (by first | (simp; done) | (simp; omega))).trans c0_4
    have d0_2l := keep_lt kk0 c0_5
    have d0_3 : getCells hh0 3 0 = some [] := (keep_get kk0 c0_7 (by first | (simp; done) | (simp; omega))).trans c0_6
    have d0_3l := keep_lt kk0 c0_7
    have d0_4 : getCells hh0 4 1 = some [.hsl 3 0 0 1 false 0] := (keep_get kk0 c0_9 (by first | (simp; done) | (simp; omega))).trans c0_8
    have d0_4l := keep_lt kk0 c0_9
    have d0_5 := wnb0_0
    have hp := Option.some.inj hp
    subst hp
    simp (maxSteps := 2000000) (disch := first|omega|(simp only[ls];first|done|omega)) only [hv0, d0_0, d0_1, d0_2, d0_3, d0_4, d0_5, gx]
    refine ⟨nb0_0, ?_⟩
    simp (maxSteps := 2000000) (disch := first|omega|(simp only[ls];first|done|omega)) only [hv0, d0_0, d0_1, d0_2, d0_3, d0_4, d0_5, o_laws_toVector, gx] <;> omega
theorem ko_laws_toVector {P : Program} {env : Env} {f_laws_toIntS : Nat}  (e_laws_toIntS : k_laws_toIntS (env (2 * f_laws_toIntS + 1))) : k_laws_toVector (ownFn P env (c_laws_toVector f_laws_toIntS)) := by
  intro x0 b hp h args has
  obtain ⟨⟨v, H2⟩, hr, n0, rfl, wn0⟩ := w_laws_toVector e_laws_toIntS x0 hp
  exact ⟨_, own_call has hr rfl, keep_moved, n0 + h.length, rfl, (moved_lt wn0).2, (moved_lt wn0).1, moved_rows wn0⟩

noncomputable def p_laws_toStamp (x0 : TStamp) : Option TStamp :=
  some x0
def c_laws_toStamp : AFn := ⟨11, (.seq (.ops [(qS 1 (.box (.tmp 0))), (qS 2 (.allocV [(0, false), (0, false)] [(.int .i64 0), (.int .i64 0)]))]) (.seq (.ops [(qS 3 (.allocV [(0, false), (0, false)] [(.int .i64 0), (.int .i64 0)]))]) (.seq (.ops [(qS 4 (.fieldA 0 (.tmp 1))), (qS 5 (.load 1 false (.tmp 4))), (qS 6 (.fieldA 0 (.tmp 3))), ⟨.none, (.storeV [(0, false)] 1 (.tmp 6) (.tmp 5)), .none, []⟩]) (.seq (.ops [(qS 7 (.fieldA 1 (.tmp 1))), (qS 8 (.load 1 false (.tmp 7))), (qS 9 (.fieldA 1 (.tmp 3))), ⟨.none, (.storeV [(0, false)] 1 (.tmp 9) (.tmp 8)), .none, []⟩]) (.seq (.ops [(qS 10 (.load 2 true (.tmp 3))), ⟨.none, (.storeV [(0, false), (0, false)] 2 (.tmp 2) (.tmp 10)), .none, []⟩]) .ret))))), [(.cell 2 2 true)]⟩
set_option maxHeartbeats 10000000 in
theorem d_laws_toStamp {P : Program} {env : Env}  (x0 : TStamp) {b : TStamp} (hp : p_laws_toStamp x0 = some b) : R P env (c_laws_toStamp) ((encA (x0)).map ofI) [] (Tells true b) := by
  refine R_of (by simp [c_laws_toStamp, encA]) ?_
  unfold c_laws_toStamp
  unfold p_laws_toStamp at hp
  have hp := Option.some.inj hp
  subst hp
  simp (maxSteps := 2000000) (disch := first|omega|(simp only[ls];first|done|omega)) only [gx]

noncomputable def p_laws_toEntry (x0 : TEntry) : Option TEntry :=
  (p_laws_toStamp x0.stamp).bind fun v0 =>
  some (TEntry.mk v0 x0.text)
def c_laws_toEntry (f_laws_toStamp : Nat) : AFn := ⟨12, (.seq (.ops [(qS 1 (.box (.tmp 0))), (qS 2 (.allocV [(0, false), (0, false), (0, false)] [(.int .i64 0), (.int .i64 0), (.string ⟨#[]⟩)]))]) (.seq (.ops [(qS 3 (.allocV [(0, false), (0, false), (0, false)] [(.int .i64 0), (.int .i64 0), (.string ⟨#[]⟩)]))]) (.seq (.ops [(qS 4 (.fieldA 0 (.tmp 1))), (qS 5 (.load 2 true (.tmp 4))), (qS 6 (.call (2 * f_laws_toStamp) [(.tmp 5)])), (qS 7 (.fieldA 0 (.tmp 3))), ⟨.none, (.storeV [(0, false), (0, false)] 2 (.tmp 7) (.tmp 6)), .none, []⟩]) (.seq (.ops [(qS 8 (.fieldA 2 (.tmp 1))), (qS 9 (.load 1 false (.tmp 8))), (qS 10 (.fieldA 2 (.tmp 3))), ⟨.none, (.storeV [(0, false)] 1 (.tmp 10) (.tmp 9)), .none, []⟩]) (.seq (.ops [(qS 11 (.load 3 true (.tmp 3))), ⟨.none, (.storeV [(0, false), (0, false), (0, false)] 3 (.tmp 2) (.tmp 11)), .none, []⟩]) .ret))))), [(.cell 2 3 true)]⟩
set_option maxHeartbeats 10000000 in
theorem d_laws_toEntry {P : Program} {env : Env} {f_laws_toStamp : Nat}  (ep_laws_toStamp : env (2 * f_laws_toStamp) = pureFn true (FA fun a : TStamp => p_laws_toStamp a)) (x0 : TEntry) {b : TEntry} (hp : p_laws_toEntry x0 = some b) : R P env (c_laws_toEntry f_laws_toStamp) ((encA (x0)).map ofI) [] (Tells true b) := by
  refine R_of (by simp [c_laws_toEntry, encA]) ?_
  have E := ep_laws_toStamp
  unfold c_laws_toEntry
  unfold p_laws_toEntry at hp
  obtain ⟨v0, hv0, hp⟩ := bind_eq hp
  have hp := Option.some.inj hp
  subst hp
  simp (maxSteps := 2000000) (disch := first|omega|(simp only[ls];first|done|omega)) only [E, hv0, gx]

noncomputable def p_laws_toEntryS_l0 (x0 : List TEntry) : List TEntry × Int → Option (Lp (List TEntry × Int) (List TEntry))
  | (s1, s2) =>
    if (decide (s2 < (x0.length : Int))) = true then
      (get? x0 s2).bind fun v4 =>
      (p_laws_toEntry v4).bind fun v5 =>
      (get? s1 s2).bind fun v6 =>
      some (.go ((s1.set s2.toNat v5), w64 (s2 + 1)))
    else
      some (.out (s1, s2))
noncomputable def p_laws_toEntryS (x0 : List TEntry) : Option (List TEntry) :=
  ((mkL (x0.length : Int) 32 (x0.length : Int) (TEntry.mk (TStamp.mk 0 0) (ByteArray.mk #[])) : Option (List TEntry))).bind fun v0 =>
  (loopP (p_laws_toEntryS_l0 x0) (v0, 0)).bind fun ee0 => match ee0 with
  | .ret r => some r
  | .out (o8, o9) =>
    some o8
def c_laws_toEntryS (f_laws_toEntry : Nat) : AFn := ⟨23, (.seq (.ops [(qS 2 (.vnil 3 true))]) (.seq (.ops [(qS 5 (.mv (.tmp 0))), (qS 6 (.len (.tmp 5))), (qS 7 (.makeSl 3 true 32 [(.int .i64 0), (.int .i64 0), (.string ⟨#[]⟩)] (.tmp 6) (.tmp 6))), (qS 3 (.mv (.tmp 7)))]) (.seq (.seq (.ops [(qS 4 (.mv (ic 0)))]) (.block 0 (.loop (.seq (.seq (.ops [(qS 8 (.mv (.tmp 4))), (qS 9 (.mv (.tmp 0))), (qS 10 (.len (.tmp 9))), (qS 11 (.pu (.n (.ar .lss)) [(.tmp 8), (.tmp 10)]))]) (.cond (.tmp 11) .skip (.exit 0))) (.seq (.block 1 (.ops [(qS 14 (.mv (.tmp 3))), (qS 15 (.mv (.tmp 4))), (qS 16 (.mv (.tmp 0))), (qS 17 (.mv (.tmp 4))), (qS 18 (.idxS 3 (.tmp 16) (.tmp 17))), (qS 19 (.load 3 true (.tmp 18))), (qS 20 (.call (2 * f_laws_toEntry) [(.tmp 19)])), (qS 21 (.idxS 3 (.tmp 14) (.tmp 15))), ⟨.none, (.storeV [(0, false), (0, false), (0, false)] 3 (.tmp 21) (.tmp 20)), .none, []⟩])) (.ops [(qS 12 (.mv (.tmp 4))), (qS 13 (.pu (.n (.ar .add)) [(.tmp 12), (ic 1)])), (qS 4 (.mv (.tmp 13)))])))))) (.seq (.ops [(qS 22 (.mv (.tmp 3))), (qS 2 (.mv (.tmp 22)))]) .ret)))), [(.tmp 2)]⟩
def o_laws_toEntryS (b : List TEntry) (v : V) (h : Heap) : Prop := ∃ n0 : Nat, v = .hsl n0 (b.length * 3) 0 3 true b.length ∧ getCells h n0 (b.length * 3) = some (rows b)
def oo_laws_toEntryS (b : List TEntry) (h : Heap) (v : V) (h2 : Heap) : Prop := Keep [] h h2 ∧ ∃ n0 : Nat, v = .hsl n0 (b.length * 3) 0 3 true b.length ∧ n0 < h2.length ∧ h.length ≤ n0 ∧ getCells h2 n0 (b.length * 3) = some (rows b)
def k_laws_toEntryS (F : Fun) : Prop := ∀ (x0 : List TEntry) (b : List TEntry), p_laws_toEntryS x0 = some b → ∀ (h : Heap) (args : List V), snapA 9 false h args = some (encA (x0)) → ∃ p, F none args h = some p ∧ oo_laws_toEntryS b h p.1 p.2
set_option maxHeartbeats 10000000 in
theorem w_laws_toEntryS {P : Program} {env : Env} {f_laws_toEntry : Nat}  (ep_laws_toEntry : env (2 * f_laws_toEntry) = pureFn true (FA fun a : TEntry => p_laws_toEntry a)) (x0 : List TEntry) {b : List TEntry} (hp : p_laws_toEntryS x0 = some b) : R P env (c_laws_toEntryS f_laws_toEntry) ((encA (x0)).map ofI) [] (o_laws_toEntryS b) := by
  refine R_of (by simp [c_laws_toEntryS, encA]) ?_
  have E := ep_laws_toEntry
  unfold c_laws_toEntryS
  unfold p_laws_toEntryS at hp
  obtain ⟨v0, hv0, hp⟩ := bind_eq hp
  obtain ⟨kv0, qv0, lv0⟩ := mkL_some hv0
  have rv0 : (List.replicate x0.length [.i (.s (.int .i64 0)), .i (.s (.int .i64 0)), .i (.s (.string (ByteArray.mk #[])))]).flatten = rows v0 := by rw [qv0]; exact rows_rep (x := ((TEntry.mk (TStamp.mk 0 0) (ByteArray.mk #[])) : TEntry)) rfl
  have mv0 : x0.length = v0.length := by rw [lv0]; simp
  obtain ⟨ee0, hee0, hp⟩ := bind_eq hp
  simp (maxSteps := 2000000) (disch := first|omega|(simp only[ls];first|done|omega)) only [E, hv0, rv0, kv0.1, kv0.2.1, kv0.2.2.1, kv0.2.2.2, gx]
  refine W_loopP 0 (fun s t h => match s with | (s1, s2) => t 0 = .i (.sl 3 (x0.map enc)) ∧ t 3 = .hsl 1 (x0.length * 3) 0 3 true x0.length ∧ t 4 = .i (.s (.int .i64 s2)) ∧ getCells h 1 (x0.length * 3) = some (rows (s1 : List TEntry)) ∧ 1 < h.length) (RK [.tmp 2] (o_laws_toEntryS)) ?_ hee0 ?_ ?_
  · rintro ⟨s1, s2⟩ ee tt0 hh0 ⟨ftt0_0, ftt0_1, ftt0_2, ftt0_3, ftt0_4⟩ hp
    have ztt0_3 := len_rows ftt0_3
    simp only [zs] at ztt0_3
    rw [p_laws_toEntryS_l0] at hp
    by_cases hb3 : (decide (s2 < (x0.length : Int))) = true
    · rw [if_t hb3] at hp
      obtain ⟨v4, hv4, hp⟩ := bind_eq hp
      obtain ⟨v5, hv5, hp⟩ := bind_eq hp
      obtain ⟨v6, hv6, hp⟩ := bind_eq hp
      have gv6 := get_some hv6
      have hs7 : List.take (s2.toNat * 3) (rows s1) ++ .i (.s (.int .i64 v5.stamp.time)) :: .i (.s (.int .i64 v5.stamp.actor)) :: .i (.s (.string v5.text)) :: List.drop (s2.toNat * 3 + 3) (rows s1) = rows (s1.set s2.toNat v5) := by simpa [splice, zs, cellsV, I.cells, enc_TEntry] using rows_set_off (y := v5) (ys := [.i (.s (.int .i64 v5.stamp.time)), .i (.s (.int .i64 v5.stamp.actor)), .i (.s (.string v5.text))]) (k := 0) gv6.2.2 (Nat.le_of_ble_eq_true rfl) (by rfl)
      have hp := Option.some.inj hp
      subst hp
      simp (maxSteps := 2000000) (disch := first|omega|(simp only[ls];first|done|omega)) only [E, hv0, rv0, kv0.1, kv0.2.1, kv0.2.2.1, kv0.2.2.2, ftt0_0, ftt0_1, ftt0_2, ftt0_3, ftt0_4, hb3, hv4, hv5, hv6, (gv6).1, (gv6).2.1, hs7, gx] <;> omega
    · replace hb3 := eq_false_of_ne_true hb3
      rw [if_f hb3] at hp
      have hp := Option.some.inj hp
      subst hp
      simp (maxSteps := 2000000) (disch := first|omega|(simp only[ls];first|done|omega)) only [E, hv0, rv0, kv0.1, kv0.2.1, kv0.2.2.1, kv0.2.2.2, ftt0_0, ftt0_1, ftt0_2, ftt0_3, ftt0_4, hb3, gx] <;> omega
  · simp (maxSteps := 2000000) (disch := first|omega|(simp only[ls];first|done|omega)) only [E, hv0, rv0, kv0.1, kv0.2.1, kv0.2.2.1, kv0.2.2.2, gx] <;> omega
  · intro x tt1 hh1 hx
    rcases ee0 with ⟨o8, o9⟩ | r
    · obtain ⟨rfl, ftt1_0, ftt1_1, ftt1_2, ftt1_3, ftt1_4⟩ := hx
      have ztt1_3 := len_rows ftt1_3
      simp only [zs] at ztt1_3
      dsimp only at hp
      have hp := Option.some.inj hp
      subst hp
      simp (maxSteps := 2000000) (disch := first|omega|(simp only[ls];first|done|omega)) only [E, hv0, rv0, kv0.1, kv0.2.1, kv0.2.2.1, kv0.2.2.2, ftt1_0, ftt1_1, ftt1_2, ftt1_3, ftt1_4, gx]
      refine ⟨1, ?_⟩
      simp (maxSteps := 2000000) (disch := first|omega|(simp only[ls];first|done|omega)) only [E, hv0, rv0, kv0.1, kv0.2.1, kv0.2.2.1, kv0.2.2.2, ftt1_0, ftt1_1, ftt1_2, ftt1_3, ftt1_4, o_laws_toEntryS, (show (o8).length = x0.length from by first | omega | rfl), gx] <;> omega
    · obtain ⟨rfl, hx⟩ := hx
      dsimp only at hp
      cases hp
      simp only [seqK_ret, blockK_ret, retK_RK (K := o_laws_toEntryS), hx, and_self, true_and]
theorem ko_laws_toEntryS {P : Program} {env : Env} {f_laws_toEntry : Nat}  (ep_laws_toEntry : env (2 * f_laws_toEntry) = pureFn true (FA fun a : TEntry => p_laws_toEntry a)) : k_laws_toEntryS (ownFn P env (c_laws_toEntryS f_laws_toEntry)) := by
  intro x0 b hp h args has
  obtain ⟨⟨v, H2⟩, hr, n0, rfl, wn0⟩ := w_laws_toEntryS ep_laws_toEntry x0 hp
  exact ⟨_, own_call has hr rfl, keep_moved, n0 + h.length, rfl, (moved_lt wn0).2, (moved_lt wn0).1, moved_rows wn0⟩

noncomputable def p_laws_toSet (x0 : TMulti) : Option TMulti :=
  (p_laws_toVector x0.seen).bind fun v0 =>
  (p_laws_toEntryS x0.entries).bind fun v1 =>
  some (TMulti.mk v0 v1)
def c_laws_toSet (f_laws_toVector : Nat) (f_laws_toEntryS : Nat) : AFn := ⟨13, (.seq (.ops [(qS 1 (.box (.tmp 0))), (qS 2 (.allocV [(1, false), (3, true)] [(.slice .none 0 0), (.slice .none 0 0)]))]) (.seq (.ops [(qS 3 (.allocV [(1, false), (3, true)] [(.slice .none 0 0), (.slice .none 0 0)]))]) (.seq (.ops [(qS 4 (.fieldA 0 (.tmp 1))), (qS 5 (.load 1 true (.tmp 4))), (qS 6 (.call (2 * f_laws_toVector + 1) [(.tmp 5)])), (qS 7 (.fieldA 0 (.tmp 3))), ⟨.none, (.storeV [(1, false)] 1 (.tmp 7) (.tmp 6)), .none, []⟩]) (.seq (.ops [(qS 8 (.fieldA 1 (.tmp 1))), (qS 9 (.load 1 false (.tmp 8))), (qS 10 (.call (2 * f_laws_toEntryS + 1) [(.tmp 9)])), (qS 11 (.fieldA 1 (.tmp 3))), ⟨.none, (.storeV [(3, true)] 1 (.tmp 11) (.tmp 10)), .none, []⟩]) (.seq (.ops [(qS 12 (.load 2 true (.tmp 3))), ⟨.none, (.storeV [(1, false), (3, true)] 2 (.tmp 2) (.tmp 12)), .none, []⟩]) .ret))))), [(.cell 2 2 true)]⟩
set_option maxHeartbeats 10000000 in
theorem d_laws_toSet {P : Program} {env : Env} {f_laws_toVector : Nat} {f_laws_toEntryS : Nat}  (e_laws_toVector : k_laws_toVector (env (2 * f_laws_toVector + 1))) (e_laws_toEntryS : k_laws_toEntryS (env (2 * f_laws_toEntryS + 1))) (x0 : TMulti) {b : TMulti} (hp : p_laws_toSet x0 = some b) : R P env (c_laws_toSet f_laws_toVector f_laws_toEntryS) ((encA (x0)).map ofI) [] (Tells true b) := by
  refine R_of (by simp [c_laws_toSet, encA]) ?_
  unfold c_laws_toSet
  unfold p_laws_toSet at hp
  obtain ⟨v0, hv0, hp⟩ := bind_eq hp
  simp (maxSteps := 2000000) (disch := first|omega|(simp only[ls];first|done|omega)) only [gx]
  refine call_f (fun h => getCells h 0 2 = some [.i (.sl 1 (x0.seen.counts.map enc)), .i (.sl 3 (x0.entries.map enc))] ∧ 0 < h.length ∧ getCells h 1 0 = some [] ∧ 1 < h.length ∧ getCells h 2 0 = some [] ∧ 2 < h.length ∧ getCells h 3 2 = some [.hsl 1 0 0 1 false 0, .hsl 2 0 0 3 true 0] ∧ 3 < h.length ∧ getCells h 4 0 = some [] ∧ 4 < h.length ∧ getCells h 5 0 = some [] ∧ 5 < h.length ∧ getCells h 6 2 = some [.hsl 4 0 0 1 false 0, .hsl 5 0 0 3 true 0] ∧ 6 < h.length) (fun h v h2 => oo_laws_toVector v0 h v h2) ?_ ?_ ?_
  · simp (maxSteps := 2000000) (disch := first|omega|(simp only[ls];first|done|omega)) only [hv0, gx] <;> omega
  · rintro h ⟨c0_0, c0_1, c0_2, c0_3, c0_4, c0_5, c0_6, c0_7, c0_8, c0_9, c0_10, c0_11, c0_12, c0_13⟩
    exact e_laws_toVector _ _ hv0 h _ (by simp (maxSteps := 2000000) (disch := first|omega|(simp only[ls];first|done|omega)) only [hv0, c0_0, c0_1, c0_2, c0_3, c0_4, c0_5, c0_6, c0_7, c0_8, c0_9, c0_10, c0_11, c0_12, c0_13, gx])
  · rintro hc0 v hh0 ⟨c0_0, c0_1, c0_2, c0_3, c0_4, c0_5, c0_6, c0_7, c0_8, c0_9, c0_10, c0_11, c0_12, c0_13⟩ hpost
    obtain ⟨kk0, nb0_0, rfl, lnb0_0, gnb0_0, wnb0_0⟩ := hpost
    have d0_0 : getCells hh0 0 2 = some [.i (.sl 1 (x0.seen.counts.map enc)), .i (.sl 3 (x0.entries.map enc))] := (keep_get kk0 c0_1 (by first | (simp; done) | (simp; omega))).trans c0_0
    have d0_0l := keep_lt kk0 c0_1
    have d0_1 : getCells hh0 1 0 = some [] := (keep_get kk0 c0_3 (by first | (simp; done) | (simp; omega))).trans c0_2
    have d0_1l := keep_lt kk0 c0_3
    have d0_2 : getCells hh0 2 0 = some [] := (keep_get kk0 c0_5 (by first | (simp; done) | (simp; omega))).trans c0_4
    have d0_2l := keep_lt kk0 c0_5
    have d0_3 : getCells hh0 3 2 = some [.hsl 1 0 0 1 false 0, .hsl 2 0 0 3 true 0] := (keep_get kk0 c0_7 (by first | (simp; done) | (simp; omega))).trans c0_6
    have d0_3l := keep_lt kk0 c0_7
    have d0_4 : getCells hh0 4 0 = some [] := (keep_get kk0 c0_9 (by first | (simp; done) | (simp; omega))).trans c0_8
    have d0_4l := keep_lt kk0 c0_9
    have d0_5 : getCells hh0 5 0 = some [] := (keep_get kk0 c0_11 (by first | (simp; done) | (simp; omega))).trans c0_10
    have d0_5l := keep_lt kk0 c0_11
    have d0_6 : getCells hh0 6 2 = some [.hsl 4 0 0 1 false 0, .hsl 5 0 0 3 true 0] := (keep_get kk0 c0_13 (by first | (simp; done) | (simp; omega))).trans c0_12
    have d0_6l := keep_lt kk0 c0_13
    have d0_7 := wnb0_0
    obtain ⟨v1, hv1, hp⟩ := bind_eq hp
    simp (maxSteps := 2000000) (disch := first|omega|(simp only[ls];first|done|omega)) only [hv0, d0_0, d0_1, d0_2, d0_3, d0_4, d0_5, d0_6, d0_7, gx]
    refine call_f (fun h => getCells h 0 2 = some [.i (.sl 1 (x0.seen.counts.map enc)), .i (.sl 3 (x0.entries.map enc))] ∧ 0 < h.length ∧ getCells h 1 0 = some [] ∧ 1 < h.length ∧ getCells h 2 0 = some [] ∧ 2 < h.length ∧ getCells h 3 2 = some [.hsl 1 0 0 1 false 0, .hsl 2 0 0 3 true 0] ∧ 3 < h.length ∧ getCells h 4 0 = some [] ∧ 4 < h.length ∧ getCells h 5 0 = some [] ∧ 5 < h.length ∧ getCells h 6 2 = some [.hsl nb0_0 v0.counts.length 0 1 false v0.counts.length, .hsl 5 0 0 3 true 0] ∧ 6 < h.length ∧ getCells h nb0_0 v0.counts.length = some (rows (v0.counts : List Int)) ∧ nb0_0 < h.length) (fun h v h2 => oo_laws_toEntryS v1 h v h2) ?_ ?_ ?_
    · simp (maxSteps := 2000000) (disch := first|omega|(simp only[ls];first|done|omega)) only [hv0, d0_0, d0_1, d0_2, d0_3, d0_4, d0_5, d0_6, d0_7, hv1, gx] <;> omega
    · rintro h ⟨c1_0, c1_1, c1_2, c1_3, c1_4, c1_5, c1_6, c1_7, c1_8, c1_9, c1_10, c1_11, c1_12, c1_13, c1_14, c1_15⟩
      exact e_laws_toEntryS _ _ hv1 h _ (by simp (maxSteps := 2000000) (disch := first|omega|(simp only[ls];first|done|omega)) only [hv0, d0_0, d0_1, d0_2, d0_3, d0_4, d0_5, d0_6, d0_7, hv1, c1_0, c1_1, c1_2, c1_3, c1_4, c1_5, c1_6, c1_7, c1_8, c1_9, c1_10, c1_11, c1_12, c1_13, c1_14, c1_15, gx])
    · rintro hc1 v hh1 ⟨c1_0, c1_1, c1_2, c1_3, c1_4, c1_5, c1_6, c1_7, c1_8, c1_9, c1_10, c1_11, c1_12, c1_13, c1_14, c1_15⟩ hpost
      obtain ⟨kk1, nb1_0, rfl, lnb1_0, gnb1_0, wnb1_0⟩ := hpost
      have d1_0 : getCells hh1 0 2 = some [.i (.sl 1 (x0.seen.counts.map enc)), .i (.sl 3 (x0.entries.map enc))] := (keep_get kk1 c1_1 (by first | (simp; done) | (simp; omega))).trans c1_0
      have d1_0l := keep_lt kk1 c1_1
      have d1_1 : getCells hh1 1 0 = some [] := (keep_get kk1 c1_3 (by first | (simp; done) | (simp; omega))).trans c1_2
      have d1_1l := keep_lt kk1 c1_3
      have d1_2 : getCells hh1 2 0 = some [] := (keep_get kk1 c1_5 (by first | (simp; done) | (simp; omega))).trans c1_4
      have d1_2l := keep_lt kk1 c1_5
      have d1_3 : getCells hh1 3 2 = some [.hsl 1 0 0 1 false 0, .hsl 2 0 0 3 true 0] := (keep_get kk1 c1_7 (by first | (simp; done) | (simp; omega))).trans c1_6
      have d1_3l := keep_lt kk1 c1_7
      have d1_4 : getCells hh1 4 0 = some [] := (keep_get kk1 c1_9 (by first | (simp; done) | (simp; omega))).trans c1_8
      have d1_4l := keep_lt kk1 c1_9
      have d1_5 : getCells hh1 5 0 = some [] := (keep_get kk1 c1_11 (by first | (simp; done) | (simp; omega))).trans c1_10
      have d1_5l := keep_lt kk1 c1_11
      have d1_6 : getCells hh1 6 2 = some [.hsl nb0_0 v0.counts.length 0 1 false v0.counts.length, .hsl 5 0 0 3 true 0] := (keep_get kk1 c1_13 (by first | (simp; done) | (simp; omega))).trans c1_12
      have d1_6l := keep_lt kk1 c1_13
      have d1_7 : getCells hh1 nb0_0 v0.counts.length = some (rows (v0.counts : List Int)) := (keep_get kk1 c1_15 (by first | (simp; done) | (simp; omega))).trans c1_14
      have d1_7l := keep_lt kk1 c1_15
      have d1_8 := wnb1_0
      have hp := Option.some.inj hp
      subst hp
      simp (maxSteps := 2000000) (disch := first|omega|(simp only[ls];first|done|omega)) only [hv0, d0_0, d0_1, d0_2, d0_3, d0_4, d0_5, d0_6, d0_7, hv1, d1_0, d1_1, d1_2, d1_3, d1_4, d1_5, d1_6, d1_7, d1_8, gx]

def o_laws_toSet (b : TMulti) (v : V) (h : Heap) : Prop := ∃ n0 : Nat, ∃ n1 : Nat, v = .agg [.hsl n0 b.seen.counts.length 0 1 false b.seen.counts.length, .hsl n1 (b.entries.length * 3) 0 3 true b.entries.length] ∧ getCells h n0 b.seen.counts.length = some (rows b.seen.counts) ∧ getCells h n1 (b.entries.length * 3) = some (rows b.entries) ∧ n1 ≠ n0
def oo_laws_toSet (b : TMulti) (h : Heap) (v : V) (h2 : Heap) : Prop := Keep [] h h2 ∧ ∃ n0 : Nat, ∃ n1 : Nat, v = .agg [.hsl n0 b.seen.counts.length 0 1 false b.seen.counts.length, .hsl n1 (b.entries.length * 3) 0 3 true b.entries.length] ∧ n0 < h2.length ∧ h.length ≤ n0 ∧ getCells h2 n0 b.seen.counts.length = some (rows b.seen.counts) ∧ n1 < h2.length ∧ h.length ≤ n1 ∧ getCells h2 n1 (b.entries.length * 3) = some (rows b.entries) ∧ n1 ≠ n0
def k_laws_toSet (F : Fun) : Prop := ∀ (x0 : TMulti) (b : TMulti), p_laws_toSet x0 = some b → ∀ (h : Heap) (args : List V), snapA 9 false h args = some (encA (x0)) → ∃ p, F none args h = some p ∧ oo_laws_toSet b h p.1 p.2
set_option maxHeartbeats 10000000 in
theorem w_laws_toSet {P : Program} {env : Env} {f_laws_toVector : Nat} {f_laws_toEntryS : Nat}  (e_laws_toVector : k_laws_toVector (env (2 * f_laws_toVector + 1))) (e_laws_toEntryS : k_laws_toEntryS (env (2 * f_laws_toEntryS + 1))) (x0 : TMulti) {b : TMulti} (hp : p_laws_toSet x0 = some b) : R P env (c_laws_toSet f_laws_toVector f_laws_toEntryS) ((encA (x0)).map ofI) [] (o_laws_toSet b) := by
  refine R_of (by simp [c_laws_toSet, encA]) ?_
  unfold c_laws_toSet
  unfold p_laws_toSet at hp
  obtain ⟨v0, hv0, hp⟩ := bind_eq hp
  simp (maxSteps := 2000000) (disch := first|omega|(simp only[ls];first|done|omega)) only [gx]
  refine call_f (fun h => getCells h 0 2 = some [.i (.sl 1 (x0.seen.counts.map enc)), .i (.sl 3 (x0.entries.map enc))] ∧ 0 < h.length ∧ getCells h 1 0 = some [] ∧ 1 < h.length ∧ getCells h 2 0 = some [] ∧ 2 < h.length ∧ getCells h 3 2 = some [.hsl 1 0 0 1 false 0, .hsl 2 0 0 3 true 0] ∧ 3 < h.length ∧ getCells h 4 0 = some [] ∧ 4 < h.length ∧ getCells h 5 0 = some [] ∧ 5 < h.length ∧ getCells h 6 2 = some [.hsl 4 0 0 1 false 0, .hsl 5 0 0 3 true 0] ∧ 6 < h.length) (fun h v h2 => oo_laws_toVector v0 h v h2) ?_ ?_ ?_
  · simp (maxSteps := 2000000) (disch := first|omega|(simp only[ls];first|done|omega)) only [hv0, gx] <;> omega
  · rintro h ⟨c0_0, c0_1, c0_2, c0_3, c0_4, c0_5, c0_6, c0_7, c0_8, c0_9, c0_10, c0_11, c0_12, c0_13⟩
    exact e_laws_toVector _ _ hv0 h _ (by simp (maxSteps := 2000000) (disch := first|omega|(simp only[ls];first|done|omega)) only [hv0, c0_0, c0_1, c0_2, c0_3, c0_4, c0_5, c0_6, c0_7, c0_8, c0_9, c0_10, c0_11, c0_12, c0_13, gx])
  · rintro hc0 v hh0 ⟨c0_0, c0_1, c0_2, c0_3, c0_4, c0_5, c0_6, c0_7, c0_8, c0_9, c0_10, c0_11, c0_12, c0_13⟩ hpost
    obtain ⟨kk0, nb0_0, rfl, lnb0_0, gnb0_0, wnb0_0⟩ := hpost
    have d0_0 : getCells hh0 0 2 = some [.i (.sl 1 (x0.seen.counts.map enc)), .i (.sl 3 (x0.entries.map enc))] := (keep_get kk0 c0_1 (by first | (simp; done) | (simp; omega))).trans c0_0
    have d0_0l := keep_lt kk0 c0_1
    have d0_1 : getCells hh0 1 0 = some [] := (keep_get kk0 c0_3 (by first | (simp; done) | (simp; omega))).trans c0_2
    have d0_1l := keep_lt kk0 c0_3
    have d0_2 : getCells hh0 2 0 = some [] := (keep_get kk0 c0_5 (by first | (simp; done) | (simp; omega))).trans c0_4
    have d0_2l := keep_lt kk0 c0_5
    have d0_3 : getCells hh0 3 2 = some [.hsl 1 0 0 1 false 0, .hsl 2 0 0 3 true 0] := (keep_get kk0 c0_7 (by first | (simp; done) | (simp; omega))).trans c0_6
    have d0_3l := keep_lt kk0 c0_7
    have d0_4 : getCells hh0 4 0 = some [] := (keep_get kk0 c0_9 (by first | (simp; done) | (simp; omega))).trans c0_8
    have d0_4l := keep_lt kk0 c0_9
    have d0_5 : getCells hh0 5 0 = some [] := (keep_get kk0 c0_11 (by first | (simp; done) | (simp; omega))).trans c0_10
    have d0_5l := keep_lt kk0 c0_11
    have d0_6 : getCells hh0 6 2 = some [.hsl 4 0 0 1 false 0, .hsl 5 0 0 3 true 0] := (keep_get kk0 c0_13 (by first | (simp; done) | (simp; omega))).trans c0_12
    have d0_6l := keep_lt kk0 c0_13
    have d0_7 := wnb0_0
    obtain ⟨v1, hv1, hp⟩ := bind_eq hp
    simp (maxSteps := 2000000) (disch := first|omega|(simp only[ls];first|done|omega)) only [hv0, d0_0, d0_1, d0_2, d0_3, d0_4, d0_5, d0_6, d0_7, gx]
    refine call_f (fun h => getCells h 0 2 = some [.i (.sl 1 (x0.seen.counts.map enc)), .i (.sl 3 (x0.entries.map enc))] ∧ 0 < h.length ∧ getCells h 1 0 = some [] ∧ 1 < h.length ∧ getCells h 2 0 = some [] ∧ 2 < h.length ∧ getCells h 3 2 = some [.hsl 1 0 0 1 false 0, .hsl 2 0 0 3 true 0] ∧ 3 < h.length ∧ getCells h 4 0 = some [] ∧ 4 < h.length ∧ getCells h 5 0 = some [] ∧ 5 < h.length ∧ getCells h 6 2 = some [.hsl nb0_0 v0.counts.length 0 1 false v0.counts.length, .hsl 5 0 0 3 true 0] ∧ 6 < h.length ∧ getCells h nb0_0 v0.counts.length = some (rows (v0.counts : List Int)) ∧ nb0_0 < h.length) (fun h v h2 => oo_laws_toEntryS v1 h v h2) ?_ ?_ ?_
    · simp (maxSteps := 2000000) (disch := first|omega|(simp only[ls];first|done|omega)) only [hv0, d0_0, d0_1, d0_2, d0_3, d0_4, d0_5, d0_6, d0_7, hv1, gx] <;> omega
    · rintro h ⟨c1_0, c1_1, c1_2, c1_3, c1_4, c1_5, c1_6, c1_7, c1_8, c1_9, c1_10, c1_11, c1_12, c1_13, c1_14, c1_15⟩
      exact e_laws_toEntryS _ _ hv1 h _ (by simp (maxSteps := 2000000) (disch := first|omega|(simp only[ls];first|done|omega)) only [hv0, d0_0, d0_1, d0_2, d0_3, d0_4, d0_5, d0_6, d0_7, hv1, c1_0, c1_1, c1_2, c1_3, c1_4, c1_5, c1_6, c1_7, c1_8, c1_9, c1_10, c1_11, c1_12, c1_13, c1_14, c1_15, gx])
    · rintro hc1 v hh1 ⟨c1_0, c1_1, c1_2, c1_3, c1_4, c1_5, c1_6, c1_7, c1_8, c1_9, c1_10, c1_11, c1_12, c1_13, c1_14, c1_15⟩ hpost
      obtain ⟨kk1, nb1_0, rfl, lnb1_0, gnb1_0, wnb1_0⟩ := hpost
      have d1_0 : getCells hh1 0 2 = some [.i (.sl 1 (x0.seen.counts.map enc)), .i (.sl 3 (x0.entries.map enc))] := (keep_get kk1 c1_1 (by first | (simp; done) | (simp; omega))).trans c1_0
      have d1_0l := keep_lt kk1 c1_1
      have d1_1 : getCells hh1 1 0 = some [] := (keep_get kk1 c1_3 (by first | (simp; done) | (simp; omega))).trans c1_2
      have d1_1l := keep_lt kk1 c1_3
      have d1_2 : getCells hh1 2 0 = some [] := (keep_get kk1 c1_5 (by first | (simp; done) | (simp; omega))).trans c1_4
      have d1_2l := keep_lt kk1 c1_5
      have d1_3 : getCells hh1 3 2 = some [.hsl 1 0 0 1 false 0, .hsl 2 0 0 3 true 0] := (keep_get kk1 c1_7 (by first | (simp; done) | (simp; omega))).trans c1_6
      have d1_3l := keep_lt kk1 c1_7
      have d1_4 : getCells hh1 4 0 = some [] := (keep_get kk1 c1_9 (by first | (simp; done) | (simp; omega))).trans c1_8
      have d1_4l := keep_lt kk1 c1_9
      have d1_5 : getCells hh1 5 0 = some [] := (keep_get kk1 c1_11 (by first | (simp; done) | (simp; omega))).trans c1_10
      have d1_5l := keep_lt kk1 c1_11
      have d1_6 : getCells hh1 6 2 = some [.hsl nb0_0 v0.counts.length 0 1 false v0.counts.length, .hsl 5 0 0 3 true 0] := (keep_get kk1 c1_13 (by first | (simp; done) | (simp; omega))).trans c1_12
      have d1_6l := keep_lt kk1 c1_13
      have d1_7 : getCells hh1 nb0_0 v0.counts.length = some (rows (v0.counts : List Int)) := (keep_get kk1 c1_15 (by first | (simp; done) | (simp; omega))).trans c1_14
      have d1_7l := keep_lt kk1 c1_15
      have d1_8 := wnb1_0
      have hp := Option.some.inj hp
      subst hp
      simp (maxSteps := 2000000) (disch := first|omega|(simp only[ls];first|done|omega)) only [hv0, d0_0, d0_1, d0_2, d0_3, d0_4, d0_5, d0_6, d0_7, hv1, d1_0, d1_1, d1_2, d1_3, d1_4, d1_5, d1_6, d1_7, d1_8, gx]
      refine ⟨nb0_0, nb1_0, ?_⟩
      simp (maxSteps := 2000000) (disch := first|omega|(simp only[ls];first|done|omega)) only [hv0, d0_0, d0_1, d0_2, d0_3, d0_4, d0_5, d0_6, d0_7, hv1, d1_0, d1_1, d1_2, d1_3, d1_4, d1_5, d1_6, d1_7, d1_8, o_laws_toSet, gx] <;> omega
theorem ko_laws_toSet {P : Program} {env : Env} {f_laws_toVector : Nat} {f_laws_toEntryS : Nat}  (e_laws_toVector : k_laws_toVector (env (2 * f_laws_toVector + 1))) (e_laws_toEntryS : k_laws_toEntryS (env (2 * f_laws_toEntryS + 1))) : k_laws_toSet (ownFn P env (c_laws_toSet f_laws_toVector f_laws_toEntryS)) := by
  intro x0 b hp h args has
  obtain ⟨⟨v, H2⟩, hr, n0, n1, rfl, wn0, wn1, ne1_0⟩ := w_laws_toSet e_laws_toVector e_laws_toEntryS x0 hp
  exact ⟨_, own_call has hr rfl, keep_moved, n0 + h.length, n1 + h.length, rfl, (moved_lt wn0).2, (moved_lt wn0).1, moved_rows wn0, (moved_lt wn1).2, (moved_lt wn1).1, moved_rows wn1, by omega⟩

noncomputable def p_spec_VecOK_l0 (x0 : TVec) : Int → Option (Lp (Int) Bool)
  | s1 =>
    if (decide (s1 < 16)) = true then
      (get? x0.counts s1).bind fun v3 =>
      if (decide (v3 < 0)) = true then
        some (.ret false)
      else
        if (decide (1000000000000 < v3)) = true then
          some (.ret false)
        else
          some (.go (w64 (s1 + 1)))
    else
      some (.out s1)
noncomputable def p_spec_VecOK (x0 : TVec) : Option Bool :=
  if (decide ((x0.counts.length : Int) = 16)) = true then
    (loopP (p_spec_VecOK_l0 x0) 0).bind fun ee0 => match ee0 with
    | .ret r => some r
    | .out o6 =>
      some true
  else
    some false
def c_spec_VecOK : AFn := ⟨26, (.seq (.ops [(qS 1 (.box (.tmp 0))), (qS 2 (.mv (.const (.bool false))))]) (.seq (.seq (.ops [(qS 4 (.fieldA 0 (.tmp 1))), (qS 5 (.load 1 false (.tmp 4))), (qS 6 (.len (.tmp 5))), (qS 7 (.pu (.n (.ar .neq)) [(.tmp 6), (ic 16)]))]) (.cond (.tmp 7) (.seq (.ops [(qS 2 (.mv (.const (.bool false))))]) .ret) .skip)) (.seq (.seq (.ops [(qS 3 (.mv (ic 0)))]) (.block 0 (.loop (.seq (.seq (.ops [(qS 8 (.mv (.tmp 3))), (qS 9 (.pu (.n (.ar .lss)) [(.tmp 8), (ic 16)]))]) (.cond (.tmp 9) .skip (.exit 0))) (.seq (.block 1 (.seq (.ops [(qS 12 (.fieldA 0 (.tmp 1))), (qS 13 (.load 1 false (.tmp 12))), (qS 14 (.mv (.tmp 3))), (qS 15 (.idxS 1 (.tmp 13) (.tmp 14))), (qS 16 (.load 1 false (.tmp 15))), (qS 17 (.pu (.n (.ar .lss)) [(.tmp 16), (ic 0)])), (qS 18 (.mv (.tmp 17))), ⟨(.some 19), (.fieldA 0 (.tmp 1)), (.some (18, false)), []⟩, ⟨(.some 20), (.load 1 false (.tmp 19)), (.some (18, false)), []⟩, ⟨(.some 21), (.mv (.tmp 3)), (.some (18, false)), []⟩, ⟨(.some 22), (.idxS 1 (.tmp 20) (.tmp 21)), (.some (18, false)), []⟩, ⟨(.some 23), (.load 1 false (.tmp 22)), (.some (18, false)), []⟩, ⟨(.some 24), (.pu (.n (.ar .gtr)) [(.tmp 23), (ic 1000000000000)]), (.some (18, false)), []⟩, (qS 25 (.pick (.tmp 18) (.const (.bool true)) (.tmp 24)))]) (.cond (.tmp 25) (.seq (.ops [(qS 2 (.mv (.const (.bool false))))]) .ret) .skip))) (.ops [(qS 10 (.mv (.tmp 3))), (qS 11 (.pu (.n (.ar .add)) [(.tmp 10), (ic 1)])), (qS 3 (.mv (.tmp 11)))])))))) (.seq (.ops [(qS 2 (.mv (.const (.bool true))))]) .ret)))), [(.tmp 2)]⟩
set_option maxHeartbeats 10000000 in
theorem d_spec_VecOK {P : Program} {env : Env}  (x0 : TVec) {b : Bool} (hp : p_spec_VecOK x0 = some b) : R P env (c_spec_VecOK) ((encA (x0)).map ofI) [] (Tells true b) := by
  refine R_of (by simp [c_spec_VecOK, encA]) ?_
  unfold c_spec_VecOK
  unfold p_spec_VecOK at hp
  by_cases hb0 : (decide ((x0.counts.length : Int) = 16)) = true
  · rw [if_t hb0] at hp
    obtain ⟨ee0, hee0, hp⟩ := bind_eq hp
    simp (maxSteps := 2000000) (disch := first|omega|(simp only[ls];first|done|omega)) only [hb0, gx]
    refine W_loopP 0 (fun s t h => match s with | s1 => t 1 = .ptr 0 1 0 ∧ t 3 = .i (.s (.int .i64 s1)) ∧ getCells h 0 1 = some [.i (.sl 1 (x0.counts.map enc))] ∧ 0 < h.length) (RK [.tmp 2] (Tells true)) ?_ hee0 ?_ ?_
    · rintro s1 ee tt0 hh0 ⟨ftt0_0, ftt0_1, ftt0_2, ftt0_3⟩ hp
      rw [p_spec_VecOK_l0] at hp
      by_cases hb2 : (decide (s1 < 16)) = true
      · rw [if_t hb2] at hp
        obtain ⟨v3, hv3, hp⟩ := bind_eq hp
        by_cases hb4 : (decide (v3 < 0)) = true
        · rw [if_t hb4] at hp
          have hp := Option.some.inj hp
          subst hp
          simp (maxSteps := 2000000) (disch := first|omega|(simp only[ls];first|done|omega)) only [hb0, ftt0_0, ftt0_1, ftt0_2, ftt0_3, hb2, hv3, hb4, gx]
        · replace hb4 := eq_false_of_ne_true hb4
          rw [if_f hb4] at hp
          by_cases hb5 : (decide (1000000000000 < v3)) = true
          · rw [if_t hb5] at hp
            have hp := Option.some.inj hp
            subst hp
            simp (maxSteps := 2000000) (disch := first|omega|(simp only[ls];first|done|omega)) only [hb0, ftt0_0, ftt0_1, ftt0_2, ftt0_3, hb2, hv3, hb4, hb5, gx]
          · replace hb5 := eq_false_of_ne_true hb5
            rw [if_f hb5] at hp
            have hp := Option.some.inj hp
            subst hp
            simp (maxSteps := 2000000) (disch := first|omega|(simp only[ls];first|done|omega)) only [hb0, ftt0_0, ftt0_1, ftt0_2, ftt0_3, hb2, hv3, hb4, hb5, gx] <;> omega
      · replace hb2 := eq_false_of_ne_true hb2
        rw [if_f hb2] at hp
        have hp := Option.some.inj hp
        subst hp
        simp (maxSteps := 2000000) (disch := first|omega|(simp only[ls];first|done|omega)) only [hb0, ftt0_0, ftt0_1, ftt0_2, ftt0_3, hb2, gx] <;> omega
    · simp (maxSteps := 2000000) (disch := first|omega|(simp only[ls];first|done|omega)) only [hb0, gx] <;> omega
    · intro x tt1 hh1 hx
      rcases ee0 with o6 | r
      · obtain ⟨rfl, ftt1_0, ftt1_1, ftt1_2, ftt1_3⟩ := hx
        dsimp only at hp
        have hp := Option.some.inj hp
        subst hp
        simp (maxSteps := 2000000) (disch := first|omega|(simp only[ls];first|done|omega)) only [hb0, ftt1_0, ftt1_1, ftt1_2, ftt1_3, gx]
      · obtain ⟨rfl, hx⟩ := hx
        dsimp only at hp
        cases hp
        simp only [seqK_ret, blockK_ret, retK_RK (K := Tells true), hx, and_self, true_and]
  · replace hb0 := eq_false_of_ne_true hb0
    rw [if_f hb0] at hp
    have hp := Option.some.inj hp
    subst hp
    simp (maxSteps := 2000000) (disch := first|omega|(simp only[ls];first|done|omega)) only [hb0, gx]

noncomputable def p_spec_StampOK (x0 : TStamp) : Option Bool :=
  if (decide (1 ≤ x0.time)) = true then
    if (decide (x0.time ≤ 1000000000000)) = true then
      if (decide (0 ≤ x0.actor)) = true then
        some (decide (x0.actor < 16))
      else
        some false
    else
      some false
  else
    some false
def c_spec_StampOK : AFn := ⟨21, (.seq (.ops [(qS 1 (.box (.tmp 0))), (qS 2 (.mv (.const (.bool false))))]) (.seq (.ops [(qS 3 (.fieldA 0 (.tmp 1))), (qS 4 (.load 1 false (.tmp 3))), (qS 5 (.pu (.n (.ar .geq)) [(.tmp 4), (ic 1)])), (qS 6 (.mv (.tmp 5))), ⟨(.some 7), (.fieldA 0 (.tmp 1)), (.some (6, true)), []⟩, ⟨(.some 8), (.load 1 false (.tmp 7)), (.some (6, true)), []⟩, ⟨(.some 9), (.pu (.n (.ar .leq)) [(.tmp 8), (ic 1000000000000)]), (.some (6, true)), []⟩, (qS 10 (.pick (.tmp 6) (.tmp 9) (.const (.bool false)))), (qS 11 (.mv (.tmp 10))), ⟨(.some 12), (.fieldA 1 (.tmp 1)), (.some (11, true)), []⟩, ⟨(.some 13), (.load 1 false (.tmp 12)), (.some (11, true)), []⟩, ⟨(.some 14), (.pu (.n (.ar .geq)) [(.tmp 13), (ic 0)]), (.some (11, true)), []⟩, (qS 15 (.pick (.tmp 11) (.tmp 14) (.const (.bool false)))), (qS 16 (.mv (.tmp 15))), ⟨(.some 17), (.fieldA 1 (.tmp 1)), (.some (16, true)), []⟩, ⟨(.some 18), (.load 1 false (.tmp 17)), (.some (16, true)), []⟩, ⟨(.some 19), (.pu (.n (.ar .lss)) [(.tmp 18), (ic 16)]), (.some (16, true)), []⟩, (qS 20 (.pick (.tmp 16) (.tmp 19) (.const (.bool false)))), (qS 2 (.mv (.tmp 20)))]) .ret)), [(.tmp 2)]⟩
set_option maxHeartbeats 10000000 in
theorem d_spec_StampOK {P : Program} {env : Env}  (x0 : TStamp) {b : Bool} (hp : p_spec_StampOK x0 = some b) : R P env (c_spec_StampOK) ((encA (x0)).map ofI) [] (Tells true b) := by
  refine R_of (by simp [c_spec_StampOK, encA]) ?_
  unfold c_spec_StampOK
  unfold p_spec_StampOK at hp
  by_cases hb0 : (decide (1 ≤ x0.time)) = true
  · rw [if_t hb0] at hp
    by_cases hb1 : (decide (x0.time ≤ 1000000000000)) = true
    · rw [if_t hb1] at hp
      by_cases hb2 : (decide (0 ≤ x0.actor)) = true
      · rw [if_t hb2] at hp
        have hp := Option.some.inj hp
        subst hp
        simp (maxSteps := 2000000) (disch := first|omega|(simp only[ls];first|done|omega)) only [hb0, hb1, hb2, gx]
      · replace hb2 := eq_false_of_ne_true hb2
        rw [if_f hb2] at hp
        have hp := Option.some.inj hp
        subst hp
        simp (maxSteps := 2000000) (disch := first|omega|(simp only[ls];first|done|omega)) only [hb0, hb1, hb2, gx]
    · replace hb1 := eq_false_of_ne_true hb1
      rw [if_f hb1] at hp
      have hp := Option.some.inj hp
      subst hp
      simp (maxSteps := 2000000) (disch := first|omega|(simp only[ls];first|done|omega)) only [hb0, hb1, gx]
  · replace hb0 := eq_false_of_ne_true hb0
    rw [if_f hb0] at hp
    have hp := Option.some.inj hp
    subst hp
    simp (maxSteps := 2000000) (disch := first|omega|(simp only[ls];first|done|omega)) only [hb0, gx]

noncomputable def p_spec_StampLess (x0 : TStamp) (x1 : TStamp) : Option Bool :=
  if (decide (x0.time < x1.time)) = true then
    some true
  else
    if (decide (x0.time = x1.time)) = true then
      some (decide (x0.actor < x1.actor))
    else
      some false
def c_spec_StampLess : AFn := ⟨24, (.seq (.ops [(qS 2 (.box (.tmp 0))), (qS 3 (.box (.tmp 1))), (qS 4 (.mv (.const (.bool false))))]) (.seq (.ops [(qS 5 (.fieldA 0 (.tmp 2))), (qS 6 (.load 1 false (.tmp 5))), (qS 7 (.fieldA 0 (.tmp 3))), (qS 8 (.load 1 false (.tmp 7))), (qS 9 (.pu (.n (.ar .lss)) [(.tmp 6), (.tmp 8)])), (qS 10 (.mv (.tmp 9))), ⟨(.some 11), (.fieldA 0 (.tmp 2)), (.some (10, false)), []⟩, ⟨(.some 12), (.load 1 false (.tmp 11)), (.some (10, false)), []⟩, ⟨(.some 13), (.fieldA 0 (.tmp 3)), (.some (10, false)), []⟩, ⟨(.some 14), (.load 1 false (.tmp 13)), (.some (10, false)), []⟩, ⟨(.some 15), (.pu (.n (.ar .eql)) [(.tmp 12), (.tmp 14)]), (.some (10, false)), []⟩, ⟨(.some 16), (.mv (.tmp 15)), (.some (10, false)), []⟩, ⟨(.some 17), (.fieldA 1 (.tmp 2)), (.some (16, true)), []⟩, ⟨(.some 18), (.load 1 false (.tmp 17)), (.some (16, true)), []⟩, ⟨(.some 19), (.fieldA 1 (.tmp 3)), (.some (16, true)), []⟩, ⟨(.some 20), (.load 1 false (.tmp 19)), (.some (16, true)), []⟩, ⟨(.some 21), (.pu (.n (.ar .lss)) [(.tmp 18), (.tmp 20)]), (.some (16, true)), []⟩, ⟨(.some 22), (.pick (.tmp 16) (.tmp 21) (.const (.bool false))), (.some (10, false)), []⟩, (qS 23 (.pick (.tmp 10) (.const (.bool true)) (.tmp 22))), (qS 4 (.mv (.tmp 23)))]) .ret)), [(.tmp 4)]⟩
set_option maxHeartbeats 10000000 in
theorem d_spec_StampLess {P : Program} {env : Env}  (x0 : TStamp) (x1 : TStamp) {b : Bool} (hp : p_spec_StampLess x0 x1 = some b) : R P env (c_spec_StampLess) ((encA (x0, x1)).map ofI) [] (Tells true b) := by
  refine R_of (by simp [c_spec_StampLess, encA]) ?_
  unfold c_spec_StampLess
  unfold p_spec_StampLess at hp
  by_cases hb0 : (decide (x0.time < x1.time)) = true
  · rw [if_t hb0] at hp
    have hp := Option.some.inj hp
    subst hp
    simp (maxSteps := 2000000) (disch := first|omega|(simp only[ls];first|done|omega)) only [hb0, gx]
  · replace hb0 := eq_false_of_ne_true hb0
    rw [if_f hb0] at hp
    by_cases hb1 : (decide (x0.time = x1.time)) = true
    · rw [if_t hb1] at hp
      have hp := Option.some.inj hp
      subst hp
      simp (maxSteps := 2000000) (disch := first|omega|(simp only[ls];first|done|omega)) only [hb0, hb1, gx]
    · replace hb1 := eq_false_of_ne_true hb1
      rw [if_f hb1] at hp
      have hp := Option.some.inj hp
      subst hp
      simp (maxSteps := 2000000) (disch := first|omega|(simp only[ls];first|done|omega)) only [hb0, hb1, gx]

noncomputable def p_spec_l03EntriesOK_l0 (x0 : TVec) (x1 : List TEntry) : Int → Option (Lp (Int) Bool)
  | s3 =>
    if (decide (s3 < (x1.length : Int))) = true then
      (get? x1 s3).bind fun v5 =>
      (p_spec_StampOK v5.stamp).bind fun v6 =>
      if (v6) = true then
        if (decide (200 < (v5.text.size : Int))) = true then
          some (.ret false)
        else
          (get? x0.counts v5.stamp.actor).bind fun v9 =>
          if (decide (v9 < v5.stamp.time)) = true then
            some (.ret false)
          else
            if (decide (0 < s3)) = true then
              (get? x1 (w64 (s3 - 1))).bind fun v12 =>
              (p_spec_StampLess v12.stamp v5.stamp).bind fun v13 =>
              if (v13) = true then
                some (.go (w64 (s3 + 1)))
              else
                some (.ret false)
            else
              some (.go (w64 (s3 + 1)))
      else
        some (.ret false)
    else
      some (.out s3)
noncomputable def p_spec_l03EntriesOK (x0 : TVec) (x1 : List TEntry) : Option Bool :=
  (p_spec_VecOK x0).bind fun v0 =>
  if (v0) = true then
    if (decide (256 < (x1.length : Int))) = true then
      some false
    else
      (loopP (p_spec_l03EntriesOK_l0 x0 x1) 0).bind fun ee0 => match ee0 with
      | .ret r => some r
      | .out o15 =>
        some true
  else
    some false
def c_spec_l03EntriesOK (f_spec_VecOK : Nat) (f_spec_StampOK : Nat) (f_spec_StampLess : Nat) : AFn := ⟨64, (.seq (.ops [(qS 2 (.box (.tmp 0))), (qS 4 (.mv (.const (.bool false))))]) (.seq (.seq (.ops [(qS 7 (.load 1 true (.tmp 2))), (qS 8 (.call (2 * f_spec_VecOK) [(.tmp 7)])), (qS 9 (.pu (.n (.un .not)) [(.tmp 8)])), (qS 10 (.mv (.tmp 9))), ⟨(.some 11), (.mv (.tmp 1)), (.some (10, false)), []⟩, ⟨(.some 12), (.len (.tmp 11)), (.some (10, false)), []⟩, ⟨(.some 13), (.pu (.n (.ar .gtr)) [(.tmp 12), (ic 256)]), (.some (10, false)), []⟩, (qS 14 (.pick (.tmp 10) (.const (.bool true)) (.tmp 13)))]) (.cond (.tmp 14) (.seq (.ops [(qS 4 (.mv (.const (.bool false))))]) .ret) .skip)) (.seq (.seq (.ops [(qS 5 (.mv (ic 0)))]) (.block 0 (.loop (.seq (.seq (.ops [(qS 15 (.mv (.tmp 5))), (qS 16 (.mv (.tmp 1))), (qS 17 (.len (.tmp 16))), (qS 18 (.pu (.n (.ar .lss)) [(.tmp 15), (.tmp 17)]))]) (.cond (.tmp 18) .skip (.exit 0))) (.seq (.block 1 (.seq (.ops [(qS 21 (.mv (.tmp 1))), (qS 22 (.mv (.tmp 5))), (qS 23 (.idxS 3 (.tmp 21) (.tmp 22))), (qS 24 (.load 3 true (.tmp 23))), (qS 6 (.allocV [(0, false), (0, false), (0, false)] [(.int .i64 0), (.int .i64 0), (.string ⟨#[]⟩)])), ⟨.none, (.storeV [(0, false), (0, false), (0, false)] 3 (.tmp 6) (.tmp 24)), .none, []⟩]) (.seq (.ops [(qS 25 (.fieldA 0 (.tmp 6))), (qS 26 (.load 2 true (.tmp 25))), (qS 27 (.call (2 * f_spec_StampOK) [(.tmp 26)])), (qS 28 (.pu (.n (.un .not)) [(.tmp 27)])), (qS 29 (.mv (.tmp 28))), ⟨(.some 30), (.fieldA 2 (.tmp 6)), (.some (29, false)), []⟩, ⟨(.some 31), (.load 1 false (.tmp 30)), (.some (29, false)), []⟩, ⟨(.some 32), (.pu (.n .len) [(.tmp 31)]), (.some (29, false)), []⟩, ⟨(.some 33), (.pu (.n (.ar .gtr)) [(.tmp 32), (ic 200)]), (.some (29, false)), []⟩, (qS 34 (.pick (.tmp 29) (.const (.bool true)) (.tmp 33))), (qS 35 (.mv (.tmp 34))), ⟨(.some 36), (.fieldA 0 (.tmp 6)), (.some (35, false)), []⟩, ⟨(.some 37), (.fieldA 0 (.tmp 36)), (.some (35, false)), []⟩, ⟨(.some 38), (.load 1 false (.tmp 37)), (.some (35, false)), []⟩, ⟨(.some 39), (.fieldA 0 (.tmp 2)), (.some (35, false)), []⟩, ⟨(.some 40), (.load 1 false (.tmp 39)), (.some (35, false)), []⟩, ⟨(.some 41), (.fieldA 0 (.tmp 6)), (.some (35, false)), []⟩, ⟨(.some 42), (.fieldA 1 (.tmp 41)), (.some (35, false)), []⟩, ⟨(.some 43), (.load 1 false (.tmp 42)), (.some (35, false)), []⟩, ⟨(.some 44), (.idxS 1 (.tmp 40) (.tmp 43)), (.some (35, false)), []⟩, ⟨(.some 45), (.load 1 false (.tmp 44)), (.some (35, false)), []⟩, ⟨(.some 46), (.pu (.n (.ar .gtr)) [(.tmp 38), (.tmp 45)]), (.some (35, false)), []⟩, (qS 47 (.pick (.tmp 35) (.const (.bool true)) (.tmp 46))), (qS 48 (.mv (.tmp 47))), ⟨(.some 49), (.mv (.tmp 5)), (.some (48, false)), []⟩, ⟨(.some 50), (.pu (.n (.ar .gtr)) [(.tmp 49), (ic 0)]), (.some (48, false)), []⟩, ⟨(.some 51), (.mv (.tmp 50)), (.some (48, false)), []⟩, ⟨(.some 52), (.mv (.tmp 1)), (.some (51, true)), []⟩, ⟨(.some 53), (.mv (.tmp 5)), (.some (51, true)), []⟩, ⟨(.some 54), (.pu (.n (.ar .sub)) [(.tmp 53), (ic 1)]), (.some (51, true)), []⟩, ⟨(.some 55), (.idxS 3 (.tmp 52) (.tmp 54)), (.some (51, true)), []⟩, ⟨(.some 56), (.fieldA 0 (.tmp 55)), (.some (51, true)), []⟩, ⟨(.some 57), (.load 2 true (.tmp 56)), (.some (51, true)), []⟩, ⟨(.some 58), (.fieldA 0 (.tmp 6)), (.some (51, true)), []⟩, ⟨(.some 59), (.load 2 true (.tmp 58)), (.some (51, true)), []⟩, ⟨(.some 60), (.call (2 * f_spec_StampLess) [(.tmp 57), (.tmp 59)]), (.some (51, true)), []⟩, ⟨(.some 61), (.pu (.n (.un .not)) [(.tmp 60)]), (.some (51, true)), []⟩, ⟨(.some 62), (.pick (.tmp 51) (.tmp 61) (.const (.bool false))), (.some (48, false)), []⟩, (qS 63 (.pick (.tmp 48) (.const (.bool true)) (.tmp 62)))]) (.cond (.tmp 63) (.seq (.ops [(qS 4 (.mv (.const (.bool false))))]) .ret) .skip)))) (.ops [(qS 19 (.mv (.tmp 5))), (qS 20 (.pu (.n (.ar .add)) [(.tmp 19), (ic 1)])), (qS 5 (.mv (.tmp 20)))])))))) (.seq (.ops [(qS 4 (.mv (.const (.bool true))))]) .ret)))), [(.tmp 4)]⟩
set_option maxHeartbeats 10000000 in
theorem d_spec_l03EntriesOK {P : Program} {env : Env} {f_spec_VecOK : Nat} {f_spec_StampOK : Nat} {f_spec_StampLess : Nat}  (ep_spec_VecOK : env (2 * f_spec_VecOK) = pureFn true (FA fun a : TVec => p_spec_VecOK a)) (ep_spec_StampOK : env (2 * f_spec_StampOK) = pureFn true (FA fun a : TStamp => p_spec_StampOK a)) (ep_spec_StampLess : env (2 * f_spec_StampLess) = pureFn true (FA fun a : TStamp × TStamp => p_spec_StampLess a.1 a.2)) (x0 : TVec) (x1 : List TEntry) {b : Bool} (hp : p_spec_l03EntriesOK x0 x1 = some b) : R P env (c_spec_l03EntriesOK f_spec_VecOK f_spec_StampOK f_spec_StampLess) ((encA (x0, x1)).map ofI) [] (Tells true b) := by
  refine R_of (by simp [c_spec_l03EntriesOK, encA]) ?_
  have E := And.intro ep_spec_VecOK (And.intro ep_spec_StampOK ep_spec_StampLess)
  unfold c_spec_l03EntriesOK
  unfold p_spec_l03EntriesOK at hp
  obtain ⟨v0, hv0, hp⟩ := bind_eq hp
  by_cases hb1 : (v0) = true
  · rw [if_t hb1] at hp
    by_cases hb2 : (decide (256 < (x1.length : Int))) = true
    · rw [if_t hb2] at hp
      have hp := Option.some.inj hp
      subst hp
      simp (maxSteps := 2000000) (disch := first|omega|(simp only[ls];first|done|omega)) only [E, hv0, hb1, hb2, gx]
    · replace hb2 := eq_false_of_ne_true hb2
      rw [if_f hb2] at hp
      obtain ⟨ee0, hee0, hp⟩ := bind_eq hp
      simp (maxSteps := 2000000) (disch := first|omega|(simp only[ls];first|done|omega)) only [E, hv0, hb1, hb2, gx]
      refine W_loopP 0 (fun s t h => match s with | s3 => t 1 = .i (.sl 3 (x1.map enc)) ∧ t 2 = .ptr 0 1 0 ∧ t 5 = .i (.s (.int .i64 s3)) ∧ getCells h 0 1 = some [.i (.sl 1 (x0.counts.map enc))] ∧ 0 < h.length) (RK [.tmp 4] (Tells true)) ?_ hee0 ?_ ?_
      · rintro s3 ee tt0 hh0 ⟨ftt0_0, ftt0_1, ftt0_2, ftt0_3, ftt0_4⟩ hp
        rw [p_spec_l03EntriesOK_l0] at hp
        by_cases hb4 : (decide (s3 < (x1.length : Int))) = true
        · rw [if_t hb4] at hp
          obtain ⟨v5, hv5, hp⟩ := bind_eq hp
          obtain ⟨v6, hv6, hp⟩ := bind_eq hp
          by_cases hb7 : (v6) = true
          · rw [if_t hb7] at hp
            by_cases hb8 : (decide (200 < (v5.text.size : Int))) = true
            · rw [if_t hb8] at hp
              have hp := Option.some.inj hp
              subst hp
              simp (maxSteps := 2000000) (disch := first|omega|(simp only[ls];first|done|omega)) only [E, hv0, hb1, hb2, ftt0_0, ftt0_1, ftt0_2, ftt0_3, ftt0_4, hb4, hv5, hv6, hb7, hb8, gx]
            · replace hb8 := eq_false_of_ne_true hb8
              rw [if_f hb8] at hp
              obtain ⟨v9, hv9, hp⟩ := bind_eq hp
              by_cases hb10 : (decide (v9 < v5.stamp.time)) = true
              · rw [if_t hb10] at hp
                have hp := Option.some.inj hp
                subst hp
                simp (maxSteps := 2000000) (disch := first|omega|(simp only[ls];first|done|omega)) only [E, hv0, hb1, hb2, ftt0_0, ftt0_1, ftt0_2, ftt0_3, ftt0_4, hb4, hv5, hv6, hb7, hb8, hv9, hb10, gx]
              · replace hb10 := eq_false_of_ne_true hb10
                rw [if_f hb10] at hp
                by_cases hb11 : (decide (0 < s3)) = true
                · rw [if_t hb11] at hp
                  obtain ⟨v12, hv12, hp⟩ := bind_eq hp
                  obtain ⟨v13, hv13, hp⟩ := bind_eq hp
                  by_cases hb14 : (v13) = true
                  · rw [if_t hb14] at hp
                    have hp := Option.some.inj hp
                    subst hp
                    simp (maxSteps := 2000000) (disch := first|omega|(simp only[ls];first|done|omega)) only [E, hv0, hb1, hb2, ftt0_0, ftt0_1, ftt0_2, ftt0_3, ftt0_4, hb4, hv5, hv6, hb7, hb8, hv9, hb10, hb11, hv12, hv13, hb14, gx] <;> omega
                  · replace hb14 := eq_false_of_ne_true hb14
                    rw [if_f hb14] at hp
                    have hp := Option.some.inj hp
                    subst hp
                    simp (maxSteps := 2000000) (disch := first|omega|(simp only[ls];first|done|omega)) only [E, hv0, hb1, hb2, ftt0_0, ftt0_1, ftt0_2, ftt0_3, ftt0_4, hb4, hv5, hv6, hb7, hb8, hv9, hb10, hb11, hv12, hv13, hb14, gx]
                · replace hb11 := eq_false_of_ne_true hb11
                  rw [if_f hb11] at hp
                  have hp := Option.some.inj hp
                  subst hp
                  simp (maxSteps := 2000000) (disch := first|omega|(simp only[ls];first|done|omega)) only [E, hv0, hb1, hb2, ftt0_0, ftt0_1, ftt0_2, ftt0_3, ftt0_4, hb4, hv5, hv6, hb7, hb8, hv9, hb10, hb11, gx] <;> omega
          · replace hb7 := eq_false_of_ne_true hb7
            rw [if_f hb7] at hp
            have hp := Option.some.inj hp
            subst hp
            simp (maxSteps := 2000000) (disch := first|omega|(simp only[ls];first|done|omega)) only [E, hv0, hb1, hb2, ftt0_0, ftt0_1, ftt0_2, ftt0_3, ftt0_4, hb4, hv5, hv6, hb7, gx]
        · replace hb4 := eq_false_of_ne_true hb4
          rw [if_f hb4] at hp
          have hp := Option.some.inj hp
          subst hp
          simp (maxSteps := 2000000) (disch := first|omega|(simp only[ls];first|done|omega)) only [E, hv0, hb1, hb2, ftt0_0, ftt0_1, ftt0_2, ftt0_3, ftt0_4, hb4, gx] <;> omega
      · simp (maxSteps := 2000000) (disch := first|omega|(simp only[ls];first|done|omega)) only [E, hv0, hb1, hb2, gx] <;> omega
      · intro x tt1 hh1 hx
        rcases ee0 with o15 | r
        · obtain ⟨rfl, ftt1_0, ftt1_1, ftt1_2, ftt1_3, ftt1_4⟩ := hx
          dsimp only at hp
          have hp := Option.some.inj hp
          subst hp
          simp (maxSteps := 2000000) (disch := first|omega|(simp only[ls];first|done|omega)) only [E, hv0, hb1, hb2, ftt1_0, ftt1_1, ftt1_2, ftt1_3, ftt1_4, gx]
        · obtain ⟨rfl, hx⟩ := hx
          dsimp only at hp
          cases hp
          simp only [seqK_ret, blockK_ret, retK_RK (K := Tells true), hx, and_self, true_and]
  · replace hb1 := eq_false_of_ne_true hb1
    rw [if_f hb1] at hp
    have hp := Option.some.inj hp
    subst hp
    simp (maxSteps := 2000000) (disch := first|omega|(simp only[ls];first|done|omega)) only [E, hv0, hb1, gx]

noncomputable def p_spec_SetElements_l1 (x0 : TMulti) (s2 : List ByteArray) (s3 : Int) : Int → Option (Lp (Int) (T2 (List ByteArray) Int))
  | s5 =>
    if (decide (s5 < (s2.length : Int))) = true then
      (get? s2 s5).bind fun v7 =>
      (get? x0.entries s3).bind fun v9 =>
      if (Op.bytesLess v7.toList v9.text.toList) = true then
        some (.go (w64 (s5 + 1)))
      else
        some (.out s5)
    else
      some (.out s5)
noncomputable def p_spec_SetElements_l2 (x0 : TMulti) : List ByteArray × Int → Option (Lp (List ByteArray × Int) (T2 (List ByteArray) Int))
  | (s2, s3) =>
    if (decide (s3 < (x0.entries.length : Int))) = true then
      (loopP (p_spec_SetElements_l1 x0 s2 s3) 0).bind fun ee1 => match ee1 with
      | .ret r => some (.ret r)
      | .out o11 =>
        if (decide (o11 = (s2.length : Int))) = true then
          (cut? s2 0 o11).bind fun v13 =>
          (app? 16 ([] : List ByteArray) v13).bind fun v14 =>
          (get? x0.entries s3).bind fun v15 =>
          (app? 16 v14 ([v15.text])).bind fun v16 =>
          (cut? s2 o11 (s2.length : Int)).bind fun v17 =>
          (app? 16 v16 v17).bind fun v18 =>
          some (.go (v18, w64 (s3 + 1)))
        else
          (get? s2 o11).bind fun v19 =>
          (get? x0.entries s3).bind fun v21 =>
          if (decide (v19 = v21.text)) = true then
            some (.go (s2, w64 (s3 + 1)))
          else
            (cut? s2 0 o11).bind fun v23 =>
            (app? 16 ([] : List ByteArray) v23).bind fun v24 =>
            (app? 16 v24 ([v21.text])).bind fun v25 =>
            (cut? s2 o11 (s2.length : Int)).bind fun v26 =>
            (app? 16 v25 v26).bind fun v27 =>
            some (.go (v27, w64 (s3 + 1)))
    else
      some (.out (s2, s3))
noncomputable def p_spec_SetElements (x0 : TMulti) : Option (T2 (List ByteArray) Int) :=
  (p_spec_l03EntriesOK x0.seen x0.entries).bind fun v0 =>
  if (v0) = true then
    (loopP (p_spec_SetElements_l2 x0) (([] : List ByteArray), 0)).bind fun ee2 => match ee2 with
    | .ret r => some r
    | .out (o28, o29) =>
      some ⟨o28, 0⟩
  else
    some ⟨[], 1⟩
def c_spec_SetElements (f_spec_l03EntriesOK : Nat) : AFn := ⟨79, (.seq (.ops [(qS 1 (.box (.tmp 0))), (qS 2 (.vnil 1 false)), (qS 3 (.mv (ic 0)))]) (.seq (.seq (.ops [(qS 8 (.fieldA 0 (.tmp 1))), (qS 9 (.load 1 true (.tmp 8))), (qS 10 (.fieldA 1 (.tmp 1))), (qS 11 (.load 1 false (.tmp 10))), (qS 12 (.call (2 * f_spec_l03EntriesOK) [(.tmp 9), (.tmp 11)])), (qS 13 (.pu (.n (.un .not)) [(.tmp 12)]))]) (.cond (.tmp 13) (.seq (.ops [(qS 14 (.buildSl 1 false 0 [(.string ⟨#[]⟩)] [])), (qS 2 (.mv (.tmp 14))), (qS 3 (.mv (ic 1)))]) .ret) .skip)) (.seq (.ops [(qS 15 (.buildSl 1 false 0 [(.string ⟨#[]⟩)] [])), (qS 4 (.mv (.tmp 15)))]) (.seq (.seq (.ops [(qS 5 (.mv (ic 0)))]) (.block 0 (.loop (.seq (.seq (.ops [(qS 16 (.mv (.tmp 5))), (qS 17 (.fieldA 1 (.tmp 1))), (qS 18 (.load 1 false (.tmp 17))), (qS 19 (.len (.tmp 18))), (qS 20 (.pu (.n (.ar .lss)) [(.tmp 16), (.tmp 19)]))]) (.cond (.tmp 20) .skip (.exit 0))) (.seq (.block 1 (.seq (.ops [(qS 6 (.mv (ic 0)))]) (.seq (.block 2 (.loop (.seq (.seq (.ops [(qS 23 (.mv (.tmp 6))), (qS 24 (.mv (.tmp 4))), (qS 25 (.len (.tmp 24))), (qS 26 (.pu (.n (.ar .lss)) [(.tmp 23), (.tmp 25)])), (qS 27 (.mv (.tmp 26))), ⟨(.some 28), (.mv (.tmp 4)), (.some (27, true)), []⟩, ⟨(.some 29), (.mv (.tmp 6)), (.some (27, true)), []⟩, ⟨(.some 30), (.idxS 1 (.tmp 28) (.tmp 29)), (.some (27, true)), []⟩, ⟨(.some 31), (.load 1 false (.tmp 30)), (.some (27, true)), []⟩, ⟨(.some 32), (.fieldA 1 (.tmp 1)), (.some (27, true)), []⟩, ⟨(.some 33), (.load 1 false (.tmp 32)), (.some (27, true)), []⟩, ⟨(.some 34), (.mv (.tmp 5)), (.some (27, true)), []⟩, ⟨(.some 35), (.idxS 3 (.tmp 33) (.tmp 34)), (.some (27, true)), []⟩, ⟨(.some 36), (.fieldA 2 (.tmp 35)), (.some (27, true)), []⟩, ⟨(.some 37), (.load 1 false (.tmp 36)), (.some (27, true)), []⟩, ⟨(.some 38), (.pu (.n (.ar .lss)) [(.tmp 31), (.tmp 37)]), (.some (27, true)), []⟩, (qS 39 (.pick (.tmp 27) (.tmp 38) (.const (.bool false))))]) (.cond (.tmp 39) .skip (.exit 2))) (.block 3 (.ops [(qS 40 (.mv (.tmp 6))), (qS 41 (.pu (.n (.ar .add)) [(.tmp 40), (ic 1)])), (qS 6 (.mv (.tmp 41)))]))))) (.seq (.ops [(qS 42 (.mv (.tmp 6))), (qS 43 (.mv (.tmp 4))), (qS 44 (.len (.tmp 43))), (qS 45 (.pu (.n (.ar .eql)) [(.tmp 42), (.tmp 44)])), (qS 46 (.mv (.tmp 45))), ⟨(.some 47), (.mv (.tmp 4)), (.some (46, false)), []⟩, ⟨(.some 48), (.mv (.tmp 6)), (.some (46, false)), []⟩, ⟨(.some 49), (.idxS 1 (.tmp 47) (.tmp 48)), (.some (46, false)), []⟩, ⟨(.some 50), (.load 1 false (.tmp 49)), (.some (46, false)), []⟩, ⟨(.some 51), (.fieldA 1 (.tmp 1)), (.some (46, false)), []⟩, ⟨(.some 52), (.load 1 false (.tmp 51)), (.some (46, false)), []⟩, ⟨(.some 53), (.mv (.tmp 5)), (.some (46, false)), []⟩, ⟨(.some 54), (.idxS 3 (.tmp 52) (.tmp 53)), (.some (46, false)), []⟩, ⟨(.some 55), (.fieldA 2 (.tmp 54)), (.some (46, false)), []⟩, ⟨(.some 56), (.load 1 false (.tmp 55)), (.some (46, false)), []⟩, ⟨(.some 57), (.pu (.n (.ar .neq)) [(.tmp 50), (.tmp 56)]), (.some (46, false)), []⟩, (qS 58 (.pick (.tmp 46) (.const (.bool true)) (.tmp 57)))]) (.cond (.tmp 58) (.seq (.ops [(qS 59 (.buildSl 1 false 0 [(.string ⟨#[]⟩)] [])), (qS 60 (.mv (.tmp 4))), (qS 61 (.mv (.tmp 6))), (qS 62 (.slice 1 (.tmp 60) .none (.some (.tmp 61)))), (qS 63 (.append 1 false 16 (.tmp 59) (.tmp 62))), (qS 7 (.mv (.tmp 63)))]) (.seq (.ops [(qS 64 (.mv (.tmp 7))), (qS 65 (.fieldA 1 (.tmp 1))), (qS 66 (.load 1 false (.tmp 65))), (qS 67 (.mv (.tmp 5))), (qS 68 (.idxS 3 (.tmp 66) (.tmp 67))), (qS 69 (.fieldA 2 (.tmp 68))), (qS 70 (.load 1 false (.tmp 69))), (qS 71 (.buildSl 1 false 1 [(.string ⟨#[]⟩)] [(0, (.tmp 70))])), (qS 72 (.append 1 false 16 (.tmp 64) (.tmp 71))), (qS 7 (.mv (.tmp 72)))]) (.ops [(qS 73 (.mv (.tmp 7))), (qS 74 (.mv (.tmp 4))), (qS 75 (.mv (.tmp 6))), (qS 76 (.slice 1 (.tmp 74) (.some (.tmp 75)) .none)), (qS 77 (.append 1 false 16 (.tmp 73) (.tmp 76))), (qS 4 (.mv (.tmp 77)))]))) .skip))))) (.ops [(qS 21 (.mv (.tmp 5))), (qS 22 (.pu (.n (.ar .add)) [(.tmp 21), (ic 1)])), (qS 5 (.mv (.tmp 22)))])))))) (.seq (.ops [(qS 78 (.mv (.tmp 4))), (qS 2 (.mv (.tmp 78))), (qS 3 (.mv (ic 0)))]) .ret))))), [(.tmp 2), (.tmp 3)]⟩
set_option maxHeartbeats 10000000 in
theorem d_spec_SetElements {P : Program} {env : Env} {f_spec_l03EntriesOK : Nat}  (ep_spec_l03EntriesOK : env (2 * f_spec_l03EntriesOK) = pureFn true (FA fun a : TVec × List TEntry => p_spec_l03EntriesOK a.1 a.2)) (x0 : TMulti) {b : T2 (List ByteArray) Int} (hp : p_spec_SetElements x0 = some b) : R P env (c_spec_SetElements f_spec_l03EntriesOK) ((encA (x0)).map ofI) [] (Tells true b) := by
  refine R_of (by simp [c_spec_SetElements, encA]) ?_
  have E := ep_spec_l03EntriesOK
  unfold c_spec_SetElements
  unfold p_spec_SetElements at hp
  obtain ⟨v0, hv0, hp⟩ := bind_eq hp
  by_cases hb1 : (v0) = true
  · rw [if_t hb1] at hp
    obtain ⟨ee2, hee2, hp⟩ := bind_eq hp
    simp (maxSteps := 2000000) (disch := first|omega|(simp only[ls];first|done|omega)) only [E, hv0, hb1, gx]
    refine W_loopP 0 (fun s t h => match s with | (s2, s3) => ∃ bk0_4 : Nat, t 1 = .ptr 0 2 0 ∧ t 4 = .hsl bk0_4 s2.length 0 1 false s2.length ∧ t 5 = .i (.s (.int .i64 s3)) ∧ getCells h 0 2 = some [.i (.sl 1 (x0.seen.counts.map enc)), .i (.sl 3 (x0.entries.map enc))] ∧ 0 < h.length ∧ getCells h bk0_4 s2.length = some (rows (s2 : List ByteArray)) ∧ bk0_4 < h.length ∧ bk0_4 ≠ 0) (RK [.tmp 2, .tmp 3] (Tells true)) ?_ hee2 ?_ ?_
    · rintro ⟨s2, s3⟩ ee tt0 hh0 ⟨bk0_4, ftt0_0, ftt0_1, ftt0_2, ftt0_3, ftt0_4, ftt0_5, ftt0_6, ftt0_7⟩ hp
      rw [p_spec_SetElements_l2] at hp
      by_cases hb4 : (decide (s3 < (x0.entries.length : Int))) = true
      · rw [if_t hb4] at hp
        obtain ⟨ee1, hee1, hp⟩ := bind_eq hp
        simp (maxSteps := 2000000) (disch := first|omega|(simp only[ls];first|done|omega)) only [E, hv0, hb1, ftt0_0, ftt0_1, ftt0_2, ftt0_3, ftt0_4, ftt0_5, ftt0_6, ftt0_7, hb4, gx]
        refine W_loopP 2 (fun s t h => match s with | s5 => t 1 = .ptr 0 2 0 ∧ t 4 = .hsl bk0_4 s2.length 0 1 false s2.length ∧ t 5 = .i (.s (.int .i64 s3)) ∧ t 6 = .i (.s (.int .i64 s5)) ∧ getCells h 0 2 = some [.i (.sl 1 (x0.seen.counts.map enc)), .i (.sl 3 (x0.entries.map enc))] ∧ 0 < h.length ∧ getCells h bk0_4 s2.length = some (rows (s2 : List ByteArray)) ∧ bk0_4 < h.length) (RK [.tmp 2, .tmp 3] (Tells true)) ?_ hee1 ?_ ?_
        · rintro s5 ee tt1 hh1 ⟨ftt1_0, ftt1_1, ftt1_2, ftt1_3, ftt1_4, ftt1_5, ftt1_6, ftt1_7⟩ hp
          rw [p_spec_SetElements_l1] at hp
          by_cases hb6 : (decide (s5 < (s2.length : Int))) = true
          · rw [if_t hb6] at hp
            obtain ⟨v7, hv7, hp⟩ := bind_eq hp
            have gv7 := get_some hv7
            have hl8 : List.take 1 (List.drop s5.toNat (rows s2)) = [.i (.s (.string v7))] := by simpa [zs, cellsV, I.cells, enc_str] using rows_get_off (k := 0) (m := 1) gv7.2.2 (Nat.le_of_ble_eq_true rfl)
            obtain ⟨v9, hv9, hp⟩ := bind_eq hp
            by_cases hb10 : (Op.bytesLess v7.toList v9.text.toList) = true
            · rw [if_t hb10] at hp
              have hp := Option.some.inj hp
              subst hp
              simp (maxSteps := 2000000) (disch := first|omega|(simp only[ls];first|done|omega)) only [E, hv0, hb1, ftt0_0, ftt0_1, ftt0_2, ftt0_3, ftt0_4, ftt0_5, ftt0_6, ftt0_7, hb4, ftt1_0, ftt1_1, ftt1_2, ftt1_3, ftt1_4, ftt1_5, ftt1_6, ftt1_7, hb6, hv7, (gv7).1, (gv7).2.1, hl8, hv9, hb10, gx] <;> omega
            · replace hb10 := eq_false_of_ne_true hb10
              rw [if_f hb10] at hp
              have hp := Option.some.inj hp
              subst hp
              simp (maxSteps := 2000000) (disch := first|omega|(simp only[ls];first|done|omega)) only [E, hv0, hb1, ftt0_0, ftt0_1, ftt0_2, ftt0_3, ftt0_4, ftt0_5, ftt0_6, ftt0_7, hb4, ftt1_0, ftt1_1, ftt1_2, ftt1_3, ftt1_4, ftt1_5, ftt1_6, ftt1_7, hb6, hv7, (gv7).1, (gv7).2.1, hl8, hv9, hb10, gx] <;> omega
          · replace hb6 := eq_false_of_ne_true hb6
            rw [if_f hb6] at hp
            have hp := Option.some.inj hp
            subst hp
            simp (maxSteps := 2000000) (disch := first|omega|(simp only[ls];first|done|omega)) only [E, hv0, hb1, ftt0_0, ftt0_1, ftt0_2, ftt0_3, ftt0_4, ftt0_5, ftt0_6, ftt0_7, hb4, ftt1_0, ftt1_1, ftt1_2, ftt1_3, ftt1_4, ftt1_5, ftt1_6, ftt1_7, hb6, gx] <;> omega
        · simp (maxSteps := 2000000) (disch := first|omega|(simp only[ls];first|done|omega)) only [E, hv0, hb1, ftt0_0, ftt0_1, ftt0_2, ftt0_3, ftt0_4, ftt0_5, ftt0_6, ftt0_7, hb4, gx] <;> omega
        · intro x tt2 hh2 hx
          rcases ee1 with o11 | r
          · obtain ⟨rfl, ftt2_0, ftt2_1, ftt2_2, ftt2_3, ftt2_4, ftt2_5, ftt2_6, ftt2_7⟩ := hx
            dsimp only at hp
            by_cases hb12 : (decide (o11 = (s2.length : Int))) = true
            · rw [if_t hb12] at hp
              obtain ⟨v13, hv13, hp⟩ := bind_eq hp
              obtain ⟨kv13, qv13, lv13⟩ := cut_some hv13
              have rv13 : List.take o11.toNat (rows s2) = rows v13 := by have := cut_rows (z := 1) hv13 rfl; simpa using this
              have mv13 : v13.length = o11.toNat := by simp at lv13; omega
              obtain ⟨v14, hv14, hp⟩ := bind_eq hp
              simp (maxSteps := 2000000) (disch := first|omega|(simp only[ls];first|done|omega)) only [E, hv0, hb1, ftt0_0, ftt0_1, ftt0_2, ftt0_3, ftt0_4, ftt0_5, ftt0_6, ftt0_7, hb4, ftt2_0, ftt2_1, ftt2_2, ftt2_3, ftt2_4, ftt2_5, ftt2_6, ftt2_7, hb12, hv13, kv13.1, kv13.2.1, kv13.2.2, rv13, mv13, gx]
              refine app_f (b := hh2.length) (xs := ([] : List ByteArray)) (ys := v13) (fun h => getCells h 0 2 = some [.i (.sl 1 (x0.seen.counts.map enc)), .i (.sl 3 (x0.entries.map enc))] ∧ 0 < h.length ∧ getCells h bk0_4 s2.length = some (rows (s2 : List ByteArray)) ∧ bk0_4 < h.length ∧ getCells h hh2.length 0 = some [] ∧ hh2.length < h.length) ?_ ?_ hv14 rfl (by first | rfl | omega | (simp; omega)) (by first | rfl | omega | (simp; omega)) (by first | rfl | omega | (simp; omega)) ?_
              · simp (maxSteps := 2000000) (disch := first|omega|(simp only[ls];first|done|omega)) only [E, hv0, hb1, ftt0_0, ftt0_1, ftt0_2, ftt0_3, ftt0_4, ftt0_5, ftt0_6, ftt0_7, hb4, ftt2_0, ftt2_1, ftt2_2, ftt2_3, ftt2_4, ftt2_5, ftt2_6, ftt2_7, hb12, hv13, kv13.1, kv13.2.1, kv13.2.2, rv13, mv13, hv14, gx] <;> omega
              · rintro h ⟨c3_0, c3_1, c3_2, c3_3, c3_4, c3_5⟩
                exact gc_eq c3_4 (by omega)
              · rintro h hh3 ⟨c3_0, c3_1, c3_2, c3_3, c3_4, c3_5⟩ kk3 w3
                have d3_0 : getCells hh3 0 2 = some [.i (.sl 1 (x0.seen.counts.map enc)), .i (.sl 3 (x0.entries.map enc))] := (keep_get kk3 c3_1 (by first | (simp; done) | (simp; omega))).trans c3_0
                have d3_0l := keep_lt kk3 c3_1
                have d3_1 : getCells hh3 bk0_4 s2.length = some (rows (s2 : List ByteArray)) := (keep_get kk3 c3_3 (by first | (simp; done) | (simp; omega))).trans c3_2
                have d3_1l := keep_lt kk3 c3_3
                have d3_2 : getCells hh3 hh2.length v14.length = some (rows (v14 : List ByteArray)) := by simpa only [Nat.mul_one] using w3
                have d3_2l := keep_lt kk3 c3_5
                obtain ⟨v15, hv15, hp⟩ := bind_eq hp
                obtain ⟨v16, hv16, hp⟩ := bind_eq hp
                obtain ⟨kv16, qv16, lv16⟩ := app_some hv16
                have rv16 : rows v14 ++ [.i (.s (.string v15.text))] = rows v16 := by rw [qv16, rows_append]; rfl
                have mv16 : v14.length + 1 = v16.length := by simp at lv16; omega
                have nv16 : (v14.length + 1) * 16 ≤ 140737488355328 := by simp at kv16; omega
                obtain ⟨v17, hv17, hp⟩ := bind_eq hp
                obtain ⟨kv17, qv17, lv17⟩ := cut_some hv17
                have rv17 : List.take (s2.length - o11.toNat) (List.drop o11.toNat (rows s2)) = rows v17 := by have := cut_rows (z := 1) hv17 rfl; simpa using this
                have mv17 : v17.length = s2.length - o11.toNat := by simp at lv17; omega
                obtain ⟨v18, hv18, hp⟩ := bind_eq hp
                simp (maxSteps := 2000000) (disch := first|omega|(simp only[ls];first|done|omega)) only [E, hv0, hb1, ftt0_0, ftt0_1, ftt0_2, ftt0_3, ftt0_4, ftt0_5, ftt0_6, ftt0_7, hb4, ftt2_0, ftt2_1, ftt2_2, ftt2_3, ftt2_4, ftt2_5, ftt2_6, ftt2_7, hb12, hv13, kv13.1, kv13.2.1, kv13.2.2, rv13, mv13, hv14, d3_0, d3_1, d3_2, hv15, hv16, rv16, nv16, hv17, kv17.1, kv17.2.1, kv17.2.2, rv17, mv17, gx]
                refine app_f (b := hh2.length) (xs := v16) (ys := v17) (fun h => getCells h 0 2 = some [.i (.sl 1 (x0.seen.counts.map enc)), .i (.sl 3 (x0.entries.map enc))] ∧ 0 < h.length ∧ getCells h bk0_4 s2.length = some (rows (s2 : List ByteArray)) ∧ bk0_4 < h.length ∧ getCells h hh2.length (v14.length + 1) = some (rows (v16 : List ByteArray)) ∧ hh2.length < h.length ∧ getCells h hh3.length 1 = some (rows ([v15.text] : List ByteArray)) ∧ hh3.length < h.length) ?_ ?_ hv18 rfl (by first | rfl | omega | (simp; omega)) (by first | rfl | omega | (simp; omega)) (by first | rfl | omega | (simp; omega)) ?_
                · simp (maxSteps := 2000000) (disch := first|omega|(simp only[ls];first|done|omega)) only [E, hv0, hb1, ftt0_0, ftt0_1, ftt0_2, ftt0_3, ftt0_4, ftt0_5, ftt0_6, ftt0_7, hb4, ftt2_0, ftt2_1, ftt2_2, ftt2_3, ftt2_4, ftt2_5, ftt2_6, ftt2_7, hb12, hv13, kv13.1, kv13.2.1, kv13.2.2, rv13, mv13, hv14, d3_0, d3_1, d3_2, hv15, hv16, rv16, nv16, hv17, kv17.1, kv17.2.1, kv17.2.2, rv17, mv17, hv18, gx] <;> omega
                · rintro h ⟨c4_0, c4_1, c4_2, c4_3, c4_4, c4_5, c4_6, c4_7⟩
                  exact gc_eq c4_4 (by omega)
                · rintro h hh4 ⟨c4_0, c4_1, c4_2, c4_3, c4_4, c4_5, c4_6, c4_7⟩ kk4 w4
                  have d4_0 : getCells hh4 0 2 = some [.i (.sl 1 (x0.seen.counts.map enc)), .i (.sl 3 (x0.entries.map enc))] := (keep_get kk4 c4_1 (by first | (simp; done) | (simp; omega))).trans c4_0
                  have d4_0l := keep_lt kk4 c4_1
                  have d4_1 : getCells hh4 bk0_4 s2.length = some (rows (s2 : List ByteArray)) := (keep_get kk4 c4_3 (by first | (simp; done) | (simp; omega))).trans c4_2
                  have d4_1l := keep_lt kk4 c4_3
                  have d4_2 : getCells hh4 hh2.length v18.length = some (rows (v18 : List ByteArray)) := by simpa only [Nat.mul_one] using w4
                  have d4_2l := keep_lt kk4 c4_5
                  have d4_3 : getCells hh4 hh3.length 1 = some (rows ([v15.text] : List ByteArray)) := (keep_get kk4 c4_7 (by first | (simp; done) | (simp; omega))).trans c4_6
                  have d4_3l := keep_lt kk4 c4_7
                  have hp := Option.some.inj hp
                  subst hp
                  simp (maxSteps := 2000000) (disch := first|omega|(simp only[ls];first|done|omega)) only [E, hv0, hb1, ftt0_0, ftt0_1, ftt0_2, ftt0_3, ftt0_4, ftt0_5, ftt0_6, ftt0_7, hb4, ftt2_0, ftt2_1, ftt2_2, ftt2_3, ftt2_4, ftt2_5, ftt2_6, ftt2_7, hb12, hv13, kv13.1, kv13.2.1, kv13.2.2, rv13, mv13, hv14, d3_0, d3_1, d3_2, hv15, hv16, rv16, nv16, hv17, kv17.1, kv17.2.1, kv17.2.2, rv17, mv17, hv18, d4_0, d4_1, d4_2, d4_3, gx]
                  refine ⟨hh2.length, ?_⟩
                  simp (maxSteps := 2000000) (disch := first|omega|(simp only[ls];first|done|omega)) only [E, hv0, hb1, ftt0_0, ftt0_1, ftt0_2, ftt0_3, ftt0_4, ftt0_5, ftt0_6, ftt0_7, hb4, ftt2_0, ftt2_1, ftt2_2, ftt2_3, ftt2_4, ftt2_5, ftt2_6, ftt2_7, hb12, hv13, kv13.1, kv13.2.1, kv13.2.2, rv13, mv13, hv14, d3_0, d3_1, d3_2, hv15, hv16, rv16, nv16, hv17, kv17.1, kv17.2.1, kv17.2.2, rv17, mv17, hv18, d4_0, d4_1, d4_2, d4_3, gx] <;> omega
            · replace hb12 := eq_false_of_ne_true hb12
              rw [if_f hb12] at hp
              obtain ⟨v19, hv19, hp⟩ := bind_eq hp
              have gv19 := get_some hv19
              have hl20 : List.take 1 (List.drop o11.toNat (rows s2)) = [.i (.s (.string v19))] := by simpa [zs, cellsV, I.cells, enc_str] using rows_get_off (k := 0) (m := 1) gv19.2.2 (Nat.le_of_ble_eq_true rfl)
              obtain ⟨v21, hv21, hp⟩ := bind_eq hp
              by_cases hb22 : (decide (v19 = v21.text)) = true
              · rw [if_t hb22] at hp
                have hp := Option.some.inj hp
                subst hp
                simp (maxSteps := 2000000) (disch := first|omega|(simp only[ls];first|done|omega)) only [E, hv0, hb1, ftt0_0, ftt0_1, ftt0_2, ftt0_3, ftt0_4, ftt0_5, ftt0_6, ftt0_7, hb4, ftt2_0, ftt2_1, ftt2_2, ftt2_3, ftt2_4, ftt2_5, ftt2_6, ftt2_7, hb12, hv19, (gv19).1, (gv19).2.1, hl20, hv21, hb22, gx]
                refine ⟨bk0_4, ?_⟩
                simp (maxSteps := 2000000) (disch := first|omega|(simp only[ls];first|done|omega)) only [E, hv0, hb1, ftt0_0, ftt0_1, ftt0_2, ftt0_3, ftt0_4, ftt0_5, ftt0_6, ftt0_7, hb4, ftt2_0, ftt2_1, ftt2_2, ftt2_3, ftt2_4, ftt2_5, ftt2_6, ftt2_7, hb12, hv19, (gv19).1, (gv19).2.1, hl20, hv21, hb22, gx] <;> omega
              · replace hb22 := eq_false_of_ne_true hb22
                rw [if_f hb22] at hp
                obtain ⟨v23, hv23, hp⟩ := bind_eq hp
                obtain ⟨kv23, qv23, lv23⟩ := cut_some hv23
                have rv23 : List.take o11.toNat (rows s2) = rows v23 := by have := cut_rows (z := 1) hv23 rfl; simpa using this
                have mv23 : v23.length = o11.toNat := by simp at lv23; omega
                obtain ⟨v24, hv24, hp⟩ := bind_eq hp
                simp (maxSteps := 2000000) (disch := first|omega|(simp only[ls];first|done|omega)) only [E, hv0, hb1, ftt0_0, ftt0_1, ftt0_2, ftt0_3, ftt0_4, ftt0_5, ftt0_6, ftt0_7, hb4, ftt2_0, ftt2_1, ftt2_2, ftt2_3, ftt2_4, ftt2_5, ftt2_6, ftt2_7, hb12, hv19, (gv19).1, (gv19).2.1, hl20, hv21, hb22, hv23, kv23.1, kv23.2.1, kv23.2.2, rv23, mv23, gx]
                refine app_f (b := hh2.length) (xs := ([] : List ByteArray)) (ys := v23) (fun h => getCells h 0 2 = some [.i (.sl 1 (x0.seen.counts.map enc)), .i (.sl 3 (x0.entries.map enc))] ∧ 0 < h.length ∧ getCells h bk0_4 s2.length = some (rows (s2 : List ByteArray)) ∧ bk0_4 < h.length ∧ getCells h hh2.length 0 = some [] ∧ hh2.length < h.length) ?_ ?_ hv24 rfl (by first | rfl | omega | (simp; omega)) (by first | rfl | omega | (simp; omega)) (by first | rfl | omega | (simp; omega)) ?_
                · simp (maxSteps := 2000000) (disch := first|omega|(simp only[ls];first|done|omega)) only [E, hv0, hb1, ftt0_0, ftt0_1, ftt0_2, ftt0_3, ftt0_4, ftt0_5, ftt0_6, ftt0_7, hb4, ftt2_0, ftt2_1, ftt2_2, ftt2_3, ftt2_4, ftt2_5, ftt2_6, ftt2_7, hb12, hv19, (gv19).1, (gv19).2.1, hl20, hv21, hb22, hv23, kv23.1, kv23.2.1, kv23.2.2, rv23, mv23, hv24, gx] <;> omega
                · rintro h ⟨c5_0, c5_1, c5_2, c5_3, c5_4, c5_5⟩
                  exact gc_eq c5_4 (by omega)
                · rintro h hh5 ⟨c5_0, c5_1, c5_2, c5_3, c5_4, c5_5⟩ kk5 w5
                  have d5_0 : getCells hh5 0 2 = some [.i (.sl 1 (x0.seen.counts.map enc)), .i (.sl 3 (x0.entries.map enc))] := (keep_get kk5 c5_1 (by first | (simp; done) | (simp; omega))).trans c5_0
                  have d5_0l := keep_lt kk5 c5_1
                  have d5_1 : getCells hh5 bk0_4 s2.length = some (rows (s2 : List ByteArray)) := (keep_get kk5 c5_3 (by first | (simp; done) | (simp; omega))).trans c5_2
                  have d5_1l := keep_lt kk5 c5_3
                  have d5_2 : getCells hh5 hh2.length v24.length = some (rows (v24 : List ByteArray)) := by simpa only [Nat.mul_one] using w5
                  have d5_2l := keep_lt kk5 c5_5
                  obtain ⟨v25, hv25, hp⟩ := bind_eq hp
                  obtain ⟨kv25, qv25, lv25⟩ := app_some hv25
                  have rv25 : rows v24 ++ [.i (.s (.string v21.text))] = rows v25 := by rw [qv25, rows_append]; rfl
                  have mv25 : v24.length + 1 = v25.length := by simp at lv25; omega
                  have nv25 : (v24.length + 1) * 16 ≤ 140737488355328 := by simp at kv25; omega
                  obtain ⟨v26, hv26, hp⟩ := bind_eq hp
                  obtain ⟨kv26, qv26, lv26⟩ := cut_some hv26
                  have rv26 : List.take (s2.length - o11.toNat) (List.drop o11.toNat (rows s2)) = rows v26 := by have := cut_rows (z := 1) hv26 rfl; simpa using this
                  have mv26 : v26.length = s2.length - o11.toNat := by simp at lv26; omega
                  obtain ⟨v27, hv27, hp⟩ := bind_eq hp
                  simp (maxSteps := 2000000) (disch := first|omega|(simp only[ls];first|done|omega)) only [E, hv0, hb1, ftt0_0, ftt0_1, ftt0_2, ftt0_3, ftt0_4, ftt0_5, ftt0_6, ftt0_7, hb4, ftt2_0, ftt2_1, ftt2_2, ftt2_3, ftt2_4, ftt2_5, ftt2_6, ftt2_7, hb12, hv19, (gv19).1, (gv19).2.1, hl20, hv21, hb22, hv23, kv23.1, kv23.2.1, kv23.2.2, rv23, mv23, hv24, d5_0, d5_1, d5_2, hv25, rv25, nv25, hv26, kv26.1, kv26.2.1, kv26.2.2, rv26, mv26, gx]
                  refine app_f (b := hh2.length) (xs := v25) (ys := v26) (fun h => getCells h 0 2 = some [.i (.sl 1 (x0.seen.counts.map enc)), .i (.sl 3 (x0.entries.map enc))] ∧ 0 < h.length ∧ getCells h bk0_4 s2.length = some (rows (s2 : List ByteArray)) ∧ bk0_4 < h.length ∧ getCells h hh2.length (v24.length + 1) = some (rows (v25 : List ByteArray)) ∧ hh2.length < h.length ∧ getCells h hh5.length 1 = some (rows ([v21.text] : List ByteArray)) ∧ hh5.length < h.length) ?_ ?_ hv27 rfl (by first | rfl | omega | (simp; omega)) (by first | rfl | omega | (simp; omega)) (by first | rfl | omega | (simp; omega)) ?_
                  · simp (maxSteps := 2000000) (disch := first|omega|(simp only[ls];first|done|omega)) only [E, hv0, hb1, ftt0_0, ftt0_1, ftt0_2, ftt0_3, ftt0_4, ftt0_5, ftt0_6, ftt0_7, hb4, ftt2_0, ftt2_1, ftt2_2, ftt2_3, ftt2_4, ftt2_5, ftt2_6, ftt2_7, hb12, hv19, (gv19).1, (gv19).2.1, hl20, hv21, hb22, hv23, kv23.1, kv23.2.1, kv23.2.2, rv23, mv23, hv24, d5_0, d5_1, d5_2, hv25, rv25, nv25, hv26, kv26.1, kv26.2.1, kv26.2.2, rv26, mv26, hv27, gx] <;> omega
                  · rintro h ⟨c6_0, c6_1, c6_2, c6_3, c6_4, c6_5, c6_6, c6_7⟩
                    exact gc_eq c6_4 (by omega)
                  · rintro h hh6 ⟨c6_0, c6_1, c6_2, c6_3, c6_4, c6_5, c6_6, c6_7⟩ kk6 w6
                    have d6_0 : getCells hh6 0 2 = some [.i (.sl 1 (x0.seen.counts.map enc)), .i (.sl 3 (x0.entries.map enc))] := (keep_get kk6 c6_1 (by first | (simp; done) | (simp; omega))).trans c6_0
                    have d6_0l := keep_lt kk6 c6_1
                    have d6_1 : getCells hh6 bk0_4 s2.length = some (rows (s2 : List ByteArray)) := (keep_get kk6 c6_3 (by first | (simp; done) | (simp; omega))).trans c6_2
                    have d6_1l := keep_lt kk6 c6_3
                    have d6_2 : getCells hh6 hh2.length v27.length = some (rows (v27 : List ByteArray)) := by simpa only [Nat.mul_one] using w6
                    have d6_2l := keep_lt kk6 c6_5
                    have d6_3 : getCells hh6 hh5.length 1 = some (rows ([v21.text] : List ByteArray)) := (keep_get kk6 c6_7 (by first | (simp; done) | (simp; omega))).trans c6_6
                    have d6_3l := keep_lt kk6 c6_7
                    have hp := Option.some.inj hp
                    subst hp
                    simp (maxSteps := 2000000) (disch := first|omega|(simp only[ls];first|done|omega)) only [E, hv0, hb1, ftt0_0, ftt0_1, ftt0_2, ftt0_3, ftt0_4, ftt0_5, ftt0_6, ftt0_7, hb4, ftt2_0, ftt2_1, ftt2_2, ftt2_3, ftt2_4, ftt2_5, ftt2_6, ftt2_7, hb12, hv19, (gv19).1, (gv19).2.1, hl20, hv21, hb22, hv23, kv23.1, kv23.2.1, kv23.2.2, rv23, mv23, hv24, d5_0, d5_1, d5_2, hv25, rv25, nv25, hv26, kv26.1, kv26.2.1, kv26.2.2, rv26, mv26, hv27, d6_0, d6_1, d6_2, d6_3, gx]
                    refine ⟨hh2.length, ?_⟩
                    simp (maxSteps := 2000000) (disch := first|omega|(simp only[ls];first|done|omega)) only [E, hv0, hb1, ftt0_0, ftt0_1, ftt0_2, ftt0_3, ftt0_4, ftt0_5, ftt0_6, ftt0_7, hb4, ftt2_0, ftt2_1, ftt2_2, ftt2_3, ftt2_4, ftt2_5, ftt2_6, ftt2_7, hb12, hv19, (gv19).1, (gv19).2.1, hl20, hv21, hb22, hv23, kv23.1, kv23.2.1, kv23.2.2, rv23, mv23, hv24, d5_0, d5_1, d5_2, hv25, rv25, nv25, hv26, kv26.1, kv26.2.1, kv26.2.2, rv26, mv26, hv27, d6_0, d6_1, d6_2, d6_3, gx] <;> omega
          · obtain ⟨rfl, hx⟩ := hx
            dsimp only at hp
            cases hp
            simp only [seqK_ret, blockK_ret, retK_RK (K := Tells true), hx, and_self, true_and]
      · replace hb4 := eq_false_of_ne_true hb4
        rw [if_f hb4] at hp
        have hp := Option.some.inj hp
        subst hp
        simp (maxSteps := 2000000) (disch := first|omega|(simp only[ls];first|done|omega)) only [E, hv0, hb1, ftt0_0, ftt0_1, ftt0_2, ftt0_3, ftt0_4, ftt0_5, ftt0_6, ftt0_7, hb4, gx]
        refine ⟨bk0_4, ?_⟩
        simp (maxSteps := 2000000) (disch := first|omega|(simp only[ls];first|done|omega)) only [E, hv0, hb1, ftt0_0, ftt0_1, ftt0_2, ftt0_3, ftt0_4, ftt0_5, ftt0_6, ftt0_7, hb4, gx] <;> omega
    · refine ⟨2, ?_⟩
      simp (maxSteps := 2000000) (disch := first|omega|(simp only[ls];first|done|omega)) only [E, hv0, hb1, gx] <;> omega
    · intro x tt7 hh7 hx
      rcases ee2 with ⟨o28, o29⟩ | r
      · obtain ⟨rfl, bo0_4, ftt7_0, ftt7_1, ftt7_2, ftt7_3, ftt7_4, ftt7_5, ftt7_6, ftt7_7⟩ := hx
        dsimp only at hp
        have hp := Option.some.inj hp
        subst hp
        simp (maxSteps := 2000000) (disch := first|omega|(simp only[ls];first|done|omega)) only [E, hv0, hb1, ftt7_0, ftt7_1, ftt7_2, ftt7_3, ftt7_4, ftt7_5, ftt7_6, ftt7_7, gx]
      · obtain ⟨rfl, hx⟩ := hx
        dsimp only at hp
        cases hp
        simp only [seqK_ret, blockK_ret, retK_RK (K := Tells true), hx, and_self, true_and]
  · replace hb1 := eq_false_of_ne_true hb1
    rw [if_f hb1] at hp
    have hp := Option.some.inj hp
    subst hp
    simp (maxSteps := 2000000) (disch := first|omega|(simp only[ls];first|done|omega)) only [E, hv0, hb1, gx]

noncomputable def p_impl_VecOK_l0 (x0 : TVec) : Int → Option (Lp (Int) Bool)
  | s1 =>
    if (decide (s1 < (x0.counts.length : Int))) = true then
      (get? x0.counts s1).bind fun v3 =>
      if (decide (v3 < 0)) = true then
        some (.ret false)
      else
        if (decide (1000000000000 < v3)) = true then
          some (.ret false)
        else
          some (.go (w64 (s1 + 1)))
    else
      some (.out s1)
noncomputable def p_impl_VecOK (x0 : TVec) : Option Bool :=
  if (decide ((x0.counts.length : Int) = 16)) = true then
    (loopP (p_impl_VecOK_l0 x0) 0).bind fun ee0 => match ee0 with
    | .ret r => some r
    | .out o6 =>
      some true
  else
    some false
def c_impl_VecOK : AFn := ⟨23, (.seq (.ops [(qS 1 (.box (.tmp 0))), (qS 2 (.mv (.const (.bool false))))]) (.seq (.seq (.ops [(qS 5 (.fieldA 0 (.tmp 1))), (qS 6 (.load 1 false (.tmp 5))), (qS 7 (.len (.tmp 6))), (qS 8 (.pu (.n (.ar .neq)) [(.tmp 7), (ic 16)]))]) (.cond (.tmp 8) (.seq (.ops [(qS 2 (.mv (.const (.bool false))))]) .ret) .skip)) (.seq (.seq (.ops [(qS 9 (.fieldA 0 (.tmp 1))), (qS 10 (.load 1 false (.tmp 9))), (qS 11 (.len (.tmp 10))), (qS 12 (.mv (ic 0)))]) (.block 0 (.loop (.seq (.ops [(qS 13 (.pu (.n (.ar .lss)) [(.tmp 12), (.tmp 11)]))]) (.seq (.cond (.tmp 13) .skip (.exit 0)) (.seq (.block 1 (.seq (.ops [(qS 14 (.idxS 1 (.tmp 10) (.tmp 12))), (qS 15 (.load 1 false (.tmp 14))), (qS 4 (.mv (.tmp 15)))]) (.seq (.ops [(qS 16 (.mv (.tmp 4))), (qS 17 (.pu (.n (.ar .lss)) [(.tmp 16), (ic 0)])), (qS 18 (.mv (.tmp 17))), ⟨(.some 19), (.mv (.tmp 4)), (.some (18, false)), []⟩, ⟨(.some 20), (.pu (.n (.ar .gtr)) [(.tmp 19), (ic 1000000000000)]), (.some (18, false)), []⟩, (qS 21 (.pick (.tmp 18) (.const (.bool true)) (.tmp 20)))]) (.cond (.tmp 21) (.seq (.ops [(qS 2 (.mv (.const (.bool false))))]) .ret) .skip)))) (.ops [(qS 22 (.pu (.n (.ar .add)) [(.tmp 12), (ic 1)])), (qS 12 (.mv (.tmp 22)))]))))))) (.seq (.ops [(qS 2 (.mv (.const (.bool true))))]) .ret)))), [(.tmp 2)]⟩
set_option maxHeartbeats 10000000 in
theorem d_impl_VecOK {P : Program} {env : Env}  (x0 : TVec) {b : Bool} (hp : p_impl_VecOK x0 = some b) : R P env (c_impl_VecOK) ((encA (x0)).map ofI) [] (Tells true b) := by
  refine R_of (by simp [c_impl_VecOK, encA]) ?_
  unfold c_impl_VecOK
  unfold p_impl_VecOK at hp
  by_cases hb0 : (decide ((x0.counts.length : Int) = 16)) = true
  · rw [if_t hb0] at hp
    obtain ⟨ee0, hee0, hp⟩ := bind_eq hp
    simp (maxSteps := 2000000) (disch := first|omega|(simp only[ls];first|done|omega)) only [hb0, gx]
    refine W_loopP 0 (fun s t h => match s with | s1 => t 10 = .i (.sl 1 (x0.counts.map enc)) ∧ t 11 = .i (.s (.int .i64 (x0.counts.length : Int))) ∧ t 12 = .i (.s (.int .i64 s1))) (RK [.tmp 2] (Tells true)) ?_ hee0 ?_ ?_
    · rintro s1 ee tt0 hh0 ⟨ftt0_0, ftt0_1, ftt0_2⟩ hp
      rw [p_impl_VecOK_l0] at hp
      by_cases hb2 : (decide (s1 < (x0.counts.length : Int))) = true
      · rw [if_t hb2] at hp
        obtain ⟨v3, hv3, hp⟩ := bind_eq hp
        by_cases hb4 : (decide (v3 < 0)) = true
        · rw [if_t hb4] at hp
          have hp := Option.some.inj hp
          subst hp
          simp (maxSteps := 2000000) (disch := first|omega|(simp only[ls];first|done|omega)) only [hb0, ftt0_0, ftt0_1, ftt0_2, hb2, hv3, hb4, gx]
        · replace hb4 := eq_false_of_ne_true hb4
          rw [if_f hb4] at hp
          by_cases hb5 : (decide (1000000000000 < v3)) = true
          · rw [if_t hb5] at hp
            have hp := Option.some.inj hp
            subst hp
            simp (maxSteps := 2000000) (disch := first|omega|(simp only[ls];first|done|omega)) only [hb0, ftt0_0, ftt0_1, ftt0_2, hb2, hv3, hb4, hb5, gx]
          · replace hb5 := eq_false_of_ne_true hb5
            rw [if_f hb5] at hp
            have hp := Option.some.inj hp
            subst hp
            simp (maxSteps := 2000000) (disch := first|omega|(simp only[ls];first|done|omega)) only [hb0, ftt0_0, ftt0_1, ftt0_2, hb2, hv3, hb4, hb5, gx] <;> omega
      · replace hb2 := eq_false_of_ne_true hb2
        rw [if_f hb2] at hp
        have hp := Option.some.inj hp
        subst hp
        simp (maxSteps := 2000000) (disch := first|omega|(simp only[ls];first|done|omega)) only [hb0, ftt0_0, ftt0_1, ftt0_2, hb2, gx] <;> omega
    · simp (maxSteps := 2000000) (disch := first|omega|(simp only[ls];first|done|omega)) only [hb0, gx] <;> omega
    · intro x tt1 hh1 hx
      rcases ee0 with o6 | r
      · obtain ⟨rfl, ftt1_0, ftt1_1, ftt1_2⟩ := hx
        dsimp only at hp
        have hp := Option.some.inj hp
        subst hp
        simp (maxSteps := 2000000) (disch := first|omega|(simp only[ls];first|done|omega)) only [hb0, ftt1_0, ftt1_1, ftt1_2, gx]
      · obtain ⟨rfl, hx⟩ := hx
        dsimp only at hp
        cases hp
        simp only [seqK_ret, blockK_ret, retK_RK (K := Tells true), hx, and_self, true_and]
  · replace hb0 := eq_false_of_ne_true hb0
    rw [if_f hb0] at hp
    have hp := Option.some.inj hp
    subst hp
    simp (maxSteps := 2000000) (disch := first|omega|(simp only[ls];first|done|omega)) only [hb0, gx]

noncomputable def p_impl_isActor (x0 : Int) : Option Bool :=
  if (decide (0 ≤ x0)) = true then
    some (decide (x0 < 16))
  else
    some false
def c_impl_isActor : AFn := ⟨9, (.seq (.ops [(qS 2 (.mv (.const (.bool false))))]) (.seq (.ops [(qS 3 (.mv (.tmp 0))), (qS 4 (.pu (.n (.ar .geq)) [(.tmp 3), (ic 0)])), (qS 5 (.mv (.tmp 4))), ⟨(.some 6), (.mv (.tmp 0)), (.some (5, true)), []⟩, ⟨(.some 7), (.pu (.n (.ar .lss)) [(.tmp 6), (ic 16)]), (.some (5, true)), []⟩, (qS 8 (.pick (.tmp 5) (.tmp 7) (.const (.bool false)))), (qS 2 (.mv (.tmp 8)))]) .ret)), [(.tmp 2)]⟩
set_option maxHeartbeats 10000000 in
theorem d_impl_isActor {P : Program} {env : Env}  (x0 : Int) {b : Bool} (hp : p_impl_isActor x0 = some b) : R P env (c_impl_isActor) ((encA (x0)).map ofI) [] (Tells true b) := by
  refine R_of (by simp [c_impl_isActor, encA]) ?_
  unfold c_impl_isActor
  unfold p_impl_isActor at hp
  by_cases hb0 : (decide (0 ≤ x0)) = true
  · rw [if_t hb0] at hp
    have hp := Option.some.inj hp
    subst hp
    simp (maxSteps := 2000000) (disch := first|omega|(simp only[ls];first|done|omega)) only [hb0, gx]
  · replace hb0 := eq_false_of_ne_true hb0
    rw [if_f hb0] at hp
    have hp := Option.some.inj hp
    subst hp
    simp (maxSteps := 2000000) (disch := first|omega|(simp only[ls];first|done|omega)) only [hb0, gx]

noncomputable def p_impl_StampOK (x0 : TStamp) : Option Bool :=
  if (decide (1 ≤ x0.time)) = true then
    if (decide (x0.time ≤ 1000000000000)) = true then
      (p_impl_isActor x0.actor).bind fun v2 =>
      some v2
    else
      some false
  else
    some false
def c_impl_StampOK (f_impl_isActor : Nat) : AFn := ⟨16, (.seq (.ops [(qS 1 (.box (.tmp 0))), (qS 2 (.mv (.const (.bool false))))]) (.seq (.ops [(qS 3 (.fieldA 0 (.tmp 1))), (qS 4 (.load 1 false (.tmp 3))), (qS 5 (.pu (.n (.ar .geq)) [(.tmp 4), (ic 1)])), (qS 6 (.mv (.tmp 5))), ⟨(.some 7), (.fieldA 0 (.tmp 1)), (.some (6, true)), []⟩, ⟨(.some 8), (.load 1 false (.tmp 7)), (.some (6, true)), []⟩, ⟨(.some 9), (.pu (.n (.ar .leq)) [(.tmp 8), (ic 1000000000000)]), (.some (6, true)), []⟩, (qS 10 (.pick (.tmp 6) (.tmp 9) (.const (.bool false)))), (qS 11 (.mv (.tmp 10))), ⟨(.some 12), (.fieldA 1 (.tmp 1)), (.some (11, true)), []⟩, ⟨(.some 13), (.load 1 false (.tmp 12)), (.some (11, true)), []⟩, ⟨(.some 14), (.call (2 * f_impl_isActor) [(.tmp 13)]), (.some (11, true)), []⟩, (qS 15 (.pick (.tmp 11) (.tmp 14) (.const (.bool false)))), (qS 2 (.mv (.tmp 15)))]) .ret)), [(.tmp 2)]⟩
set_option maxHeartbeats 10000000 in
theorem d_impl_StampOK {P : Program} {env : Env} {f_impl_isActor : Nat}  (ep_impl_isActor : env (2 * f_impl_isActor) = pureFn true (FA fun a : Int => p_impl_isActor a)) (x0 : TStamp) {b : Bool} (hp : p_impl_StampOK x0 = some b) : R P env (c_impl_StampOK f_impl_isActor) ((encA (x0)).map ofI) [] (Tells true b) := by
  refine R_of (by simp [c_impl_StampOK, encA]) ?_
  have E := ep_impl_isActor
  unfold c_impl_StampOK
  unfold p_impl_StampOK at hp
  by_cases hb0 : (decide (1 ≤ x0.time)) = true
  · rw [if_t hb0] at hp
    by_cases hb1 : (decide (x0.time ≤ 1000000000000)) = true
    · rw [if_t hb1] at hp
      obtain ⟨v2, hv2, hp⟩ := bind_eq hp
      have hp := Option.some.inj hp
      subst hp
      simp (maxSteps := 2000000) (disch := first|omega|(simp only[ls];first|done|omega)) only [E, hb0, hb1, hv2, gx]
    · replace hb1 := eq_false_of_ne_true hb1
      rw [if_f hb1] at hp
      have hp := Option.some.inj hp
      subst hp
      simp (maxSteps := 2000000) (disch := first|omega|(simp only[ls];first|done|omega)) only [E, hb0, hb1, gx]
  · replace hb0 := eq_false_of_ne_true hb0
    rw [if_f hb0] at hp
    have hp := Option.some.inj hp
    subst hp
    simp (maxSteps := 2000000) (disch := first|omega|(simp only[ls];first|done|omega)) only [E, hb0, gx]

noncomputable def p_impl_StampLess (x0 : TStamp) (x1 : TStamp) : Option Bool :=
  if (decide (x0.time = x1.time)) = true then
    some (decide (x0.actor < x1.actor))
  else
    some (decide (x0.time < x1.time))
def c_impl_StampLess : AFn := ⟨20, (.seq (.ops [(qS 2 (.box (.tmp 0))), (qS 3 (.box (.tmp 1))), (qS 4 (.mv (.const (.bool false))))]) (.seq (.seq (.ops [(qS 5 (.fieldA 0 (.tmp 2))), (qS 6 (.load 1 false (.tmp 5))), (qS 7 (.fieldA 0 (.tmp 3))), (qS 8 (.load 1 false (.tmp 7))), (qS 9 (.pu (.n (.ar .neq)) [(.tmp 6), (.tmp 8)]))]) (.cond (.tmp 9) (.seq (.ops [(qS 10 (.fieldA 0 (.tmp 2))), (qS 11 (.load 1 false (.tmp 10))), (qS 12 (.fieldA 0 (.tmp 3))), (qS 13 (.load 1 false (.tmp 12))), (qS 14 (.pu (.n (.ar .lss)) [(.tmp 11), (.tmp 13)])), (qS 4 (.mv (.tmp 14)))]) .ret) .skip)) (.seq (.ops [(qS 15 (.fieldA 1 (.tmp 2))), (qS 16 (.load 1 false (.tmp 15))), (qS 17 (.fieldA 1 (.tmp 3))), (qS 18 (.load 1 false (.tmp 17))), (qS 19 (.pu (.n (.ar .lss)) [(.tmp 16), (.tmp 18)])), (qS 4 (.mv (.tmp 19)))]) .ret))), [(.tmp 4)]⟩
set_option maxHeartbeats 10000000 in
theorem d_impl_StampLess {P : Program} {env : Env}  (x0 : TStamp) (x1 : TStamp) {b : Bool} (hp : p_impl_StampLess x0 x1 = some b) : R P env (c_impl_StampLess) ((encA (x0, x1)).map ofI) [] (Tells true b) := by
  refine R_of (by simp [c_impl_StampLess, encA]) ?_
  unfold c_impl_StampLess
  unfold p_impl_StampLess at hp
  by_cases hb0 : (decide (x0.time = x1.time)) = true
  · rw [if_t hb0] at hp
    have hp := Option.some.inj hp
    subst hp
    simp (maxSteps := 2000000) (disch := first|omega|(simp only[ls];first|done|omega)) only [hb0, gx]
  · replace hb0 := eq_false_of_ne_true hb0
    rw [if_f hb0] at hp
    have hp := Option.some.inj hp
    subst hp
    simp (maxSteps := 2000000) (disch := first|omega|(simp only[ls];first|done|omega)) only [hb0, gx]

noncomputable def p_impl_stateOK_l0 (x0 : TVec) (x1 : List TEntry) : Int → Option (Lp (Int) Bool)
  | s3 =>
    if (decide (s3 < (x1.length : Int))) = true then
      (get? x1 s3).bind fun v5 =>
      (p_impl_StampOK v5.stamp).bind fun v6 =>
      if (v6) = true then
        if (decide (200 < (v5.text.size : Int))) = true then
          some (.ret false)
        else
          (get? x0.counts v5.stamp.actor).bind fun v9 =>
          if (decide (v9 < v5.stamp.time)) = true then
            some (.ret false)
          else
            if (decide (0 < s3)) = true then
              (get? x1 (w64 (s3 - 1))).bind fun v12 =>
              (p_impl_StampLess v12.stamp v5.stamp).bind fun v13 =>
              if (v13) = true then
                some (.go (w64 (s3 + 1)))
              else
                some (.ret false)
            else
              some (.go (w64 (s3 + 1)))
      else
        some (.ret false)
    else
      some (.out s3)
noncomputable def p_impl_stateOK (x0 : TVec) (x1 : List TEntry) : Option Bool :=
  (p_impl_VecOK x0).bind fun v0 =>
  if (v0) = true then
    if (decide (256 < (x1.length : Int))) = true then
      some false
    else
      (loopP (p_impl_stateOK_l0 x0 x1) 0).bind fun ee0 => match ee0 with
      | .ret r => some r
      | .out o15 =>
        some true
  else
    some false
def c_impl_stateOK (f_impl_VecOK : Nat) (f_impl_StampOK : Nat) (f_impl_StampLess : Nat) : AFn := ⟨60, (.seq (.ops [(qS 2 (.box (.tmp 0))), (qS 4 (.mv (.const (.bool false))))]) (.seq (.seq (.ops [(qS 7 (.load 1 true (.tmp 2))), (qS 8 (.call (2 * f_impl_VecOK) [(.tmp 7)])), (qS 9 (.pu (.n (.un .not)) [(.tmp 8)])), (qS 10 (.mv (.tmp 9))), ⟨(.some 11), (.mv (.tmp 1)), (.some (10, false)), []⟩, ⟨(.some 12), (.len (.tmp 11)), (.some (10, false)), []⟩, ⟨(.some 13), (.pu (.n (.ar .gtr)) [(.tmp 12), (ic 256)]), (.some (10, false)), []⟩, (qS 14 (.pick (.tmp 10) (.const (.bool true)) (.tmp 13)))]) (.cond (.tmp 14) (.seq (.ops [(qS 4 (.mv (.const (.bool false))))]) .ret) .skip)) (.seq (.seq (.ops [(qS 15 (.mv (.tmp 1))), (qS 16 (.len (.tmp 15))), (qS 17 (.mv (ic 0)))]) (.block 0 (.loop (.seq (.ops [(qS 18 (.pu (.n (.ar .lss)) [(.tmp 17), (.tmp 16)]))]) (.seq (.cond (.tmp 18) .skip (.exit 0)) (.seq (.block 1 (.seq (.ops [(qS 19 (.mv (.tmp 17))), (qS 20 (.idxS 3 (.tmp 15) (.tmp 17))), (qS 21 (.load 3 true (.tmp 20))), (qS 6 (.allocV [(0, false), (0, false), (0, false)] [(.int .i64 0), (.int .i64 0), (.string ⟨#[]⟩)])), (qS 5 (.mv (.tmp 19))), ⟨.none, (.storeV [(0, false), (0, false), (0, false)] 3 (.tmp 6) (.tmp 21)), .none, []⟩]) (.seq (.seq (.ops [(qS 22 (.fieldA 0 (.tmp 6))), (qS 23 (.load 2 true (.tmp 22))), (qS 24 (.call (2 * f_impl_StampOK) [(.tmp 23)])), (qS 25 (.pu (.n (.un .not)) [(.tmp 24)])), (qS 26 (.mv (.tmp 25))), ⟨(.some 27), (.fieldA 2 (.tmp 6)), (.some (26, false)), []⟩, ⟨(.some 28), (.load 1 false (.tmp 27)), (.some (26, false)), []⟩, ⟨(.some 29), (.pu (.n .len) [(.tmp 28)]), (.some (26, false)), []⟩, ⟨(.some 30), (.pu (.n (.ar .gtr)) [(.tmp 29), (ic 200)]), (.some (26, false)), []⟩, (qS 31 (.pick (.tmp 26) (.const (.bool true)) (.tmp 30))), (qS 32 (.mv (.tmp 31))), ⟨(.some 33), (.fieldA 0 (.tmp 6)), (.some (32, false)), []⟩, ⟨(.some 34), (.fieldA 0 (.tmp 33)), (.some (32, false)), []⟩, ⟨(.some 35), (.load 1 false (.tmp 34)), (.some (32, false)), []⟩, ⟨(.some 36), (.fieldA 0 (.tmp 2)), (.some (32, false)), []⟩, ⟨(.some 37), (.load 1 false (.tmp 36)), (.some (32, false)), []⟩, ⟨(.some 38), (.fieldA 0 (.tmp 6)), (.some (32, false)), []⟩, ⟨(.some 39), (.fieldA 1 (.tmp 38)), (.some (32, false)), []⟩, ⟨(.some 40), (.load 1 false (.tmp 39)), (.some (32, false)), []⟩, ⟨(.some 41), (.idxS 1 (.tmp 37) (.tmp 40)), (.some (32, false)), []⟩, ⟨(.some 42), (.load 1 false (.tmp 41)), (.some (32, false)), []⟩, ⟨(.some 43), (.pu (.n (.ar .gtr)) [(.tmp 35), (.tmp 42)]), (.some (32, false)), []⟩, (qS 44 (.pick (.tmp 32) (.const (.bool true)) (.tmp 43)))]) (.cond (.tmp 44) (.seq (.ops [(qS 4 (.mv (.const (.bool false))))]) .ret) .skip)) (.seq (.ops [(qS 45 (.mv (.tmp 5))), (qS 46 (.pu (.n (.ar .gtr)) [(.tmp 45), (ic 0)])), (qS 47 (.mv (.tmp 46))), ⟨(.some 48), (.mv (.tmp 1)), (.some (47, true)), []⟩, ⟨(.some 49), (.mv (.tmp 5)), (.some (47, true)), []⟩, ⟨(.some 50), (.pu (.n (.ar .sub)) [(.tmp 49), (ic 1)]), (.some (47, true)), []⟩, ⟨(.some 51), (.idxS 3 (.tmp 48) (.tmp 50)), (.some (47, true)), []⟩, ⟨(.some 52), (.fieldA 0 (.tmp 51)), (.some (47, true)), []⟩, ⟨(.some 53), (.load 2 true (.tmp 52)), (.some (47, true)), []⟩, ⟨(.some 54), (.fieldA 0 (.tmp 6)), (.some (47, true)), []⟩, ⟨(.some 55), (.load 2 true (.tmp 54)), (.some (47, true)), []⟩, ⟨(.some 56), (.call (2 * f_impl_StampLess) [(.tmp 53), (.tmp 55)]), (.some (47, true)), []⟩, ⟨(.some 57), (.pu (.n (.un .not)) [(.tmp 56)]), (.some (47, true)), []⟩, (qS 58 (.pick (.tmp 47) (.tmp 57) (.const (.bool false))))]) (.cond (.tmp 58) (.seq (.ops [(qS 4 (.mv (.const (.bool false))))]) .ret) .skip))))) (.ops [(qS 59 (.pu (.n (.ar .add)) [(.tmp 17), (ic 1)])), (qS 17 (.mv (.tmp 59)))]))))))) (.seq (.ops [(qS 4 (.mv (.const (.bool true))))]) .ret)))), [(.tmp 4)]⟩
set_option maxHeartbeats 10000000 in
theorem d_impl_stateOK {P : Program} {env : Env} {f_impl_VecOK : Nat} {f_impl_StampOK : Nat} {f_impl_StampLess : Nat}  (ep_impl_VecOK : env (2 * f_impl_VecOK) = pureFn true (FA fun a : TVec => p_impl_VecOK a)) (ep_impl_StampOK : env (2 * f_impl_StampOK) = pureFn true (FA fun a : TStamp => p_impl_StampOK a)) (ep_impl_StampLess : env (2 * f_impl_StampLess) = pureFn true (FA fun a : TStamp × TStamp => p_impl_StampLess a.1 a.2)) (x0 : TVec) (x1 : List TEntry) {b : Bool} (hp : p_impl_stateOK x0 x1 = some b) : R P env (c_impl_stateOK f_impl_VecOK f_impl_StampOK f_impl_StampLess) ((encA (x0, x1)).map ofI) [] (Tells true b) := by
  refine R_of (by simp [c_impl_stateOK, encA]) ?_
  have E := And.intro ep_impl_VecOK (And.intro ep_impl_StampOK ep_impl_StampLess)
  unfold c_impl_stateOK
  unfold p_impl_stateOK at hp
  obtain ⟨v0, hv0, hp⟩ := bind_eq hp
  by_cases hb1 : (v0) = true
  · rw [if_t hb1] at hp
    by_cases hb2 : (decide (256 < (x1.length : Int))) = true
    · rw [if_t hb2] at hp
      have hp := Option.some.inj hp
      subst hp
      simp (maxSteps := 2000000) (disch := first|omega|(simp only[ls];first|done|omega)) only [E, hv0, hb1, hb2, gx]
    · replace hb2 := eq_false_of_ne_true hb2
      rw [if_f hb2] at hp
      obtain ⟨ee0, hee0, hp⟩ := bind_eq hp
      simp (maxSteps := 2000000) (disch := first|omega|(simp only[ls];first|done|omega)) only [E, hv0, hb1, hb2, gx]
      refine W_loopP 0 (fun s t h => match s with | s3 => t 1 = .i (.sl 3 (x1.map enc)) ∧ t 2 = .ptr 0 1 0 ∧ t 15 = .i (.sl 3 (x1.map enc)) ∧ t 16 = .i (.s (.int .i64 (x1.length : Int))) ∧ t 17 = .i (.s (.int .i64 s3)) ∧ getCells h 0 1 = some [.i (.sl 1 (x0.counts.map enc))] ∧ 0 < h.length) (RK [.tmp 4] (Tells true)) ?_ hee0 ?_ ?_
      · rintro s3 ee tt0 hh0 ⟨ftt0_0, ftt0_1, ftt0_2, ftt0_3, ftt0_4, ftt0_5, ftt0_6⟩ hp
        rw [p_impl_stateOK_l0] at hp
        by_cases hb4 : (decide (s3 < (x1.length : Int))) = true
        · rw [if_t hb4] at hp
          obtain ⟨v5, hv5, hp⟩ := bind_eq hp
          obtain ⟨v6, hv6, hp⟩ := bind_eq hp
          by_cases hb7 : (v6) = true
          · rw [if_t hb7] at hp
            by_cases hb8 : (decide (200 < (v5.text.size : Int))) = true
            · rw [if_t hb8] at hp
              have hp := Option.some.inj hp
              subst hp
              simp (maxSteps := 2000000) (disch := first|omega|(simp only[ls];first|done|omega)) only [E, hv0, hb1, hb2, ftt0_0, ftt0_1, ftt0_2, ftt0_3, ftt0_4, ftt0_5, ftt0_6, hb4, hv5, hv6, hb7, hb8, gx]
            · replace hb8 := eq_false_of_ne_true hb8
              rw [if_f hb8] at hp
              obtain ⟨v9, hv9, hp⟩ := bind_eq hp
              by_cases hb10 : (decide (v9 < v5.stamp.time)) = true
              · rw [if_t hb10] at hp
                have hp := Option.some.inj hp
                subst hp
                simp (maxSteps := 2000000) (disch := first|omega|(simp only[ls];first|done|omega)) only [E, hv0, hb1, hb2, ftt0_0, ftt0_1, ftt0_2, ftt0_3, ftt0_4, ftt0_5, ftt0_6, hb4, hv5, hv6, hb7, hb8, hv9, hb10, gx]
              · replace hb10 := eq_false_of_ne_true hb10
                rw [if_f hb10] at hp
                by_cases hb11 : (decide (0 < s3)) = true
                · rw [if_t hb11] at hp
                  obtain ⟨v12, hv12, hp⟩ := bind_eq hp
                  obtain ⟨v13, hv13, hp⟩ := bind_eq hp
                  by_cases hb14 : (v13) = true
                  · rw [if_t hb14] at hp
                    have hp := Option.some.inj hp
                    subst hp
                    simp (maxSteps := 2000000) (disch := first|omega|(simp only[ls];first|done|omega)) only [E, hv0, hb1, hb2, ftt0_0, ftt0_1, ftt0_2, ftt0_3, ftt0_4, ftt0_5, ftt0_6, hb4, hv5, hv6, hb7, hb8, hv9, hb10, hb11, hv12, hv13, hb14, gx] <;> omega
                  · replace hb14 := eq_false_of_ne_true hb14
                    rw [if_f hb14] at hp
                    have hp := Option.some.inj hp
                    subst hp
                    simp (maxSteps := 2000000) (disch := first|omega|(simp only[ls];first|done|omega)) only [E, hv0, hb1, hb2, ftt0_0, ftt0_1, ftt0_2, ftt0_3, ftt0_4, ftt0_5, ftt0_6, hb4, hv5, hv6, hb7, hb8, hv9, hb10, hb11, hv12, hv13, hb14, gx]
                · replace hb11 := eq_false_of_ne_true hb11
                  rw [if_f hb11] at hp
                  have hp := Option.some.inj hp
                  subst hp
                  simp (maxSteps := 2000000) (disch := first|omega|(simp only[ls];first|done|omega)) only [E, hv0, hb1, hb2, ftt0_0, ftt0_1, ftt0_2, ftt0_3, ftt0_4, ftt0_5, ftt0_6, hb4, hv5, hv6, hb7, hb8, hv9, hb10, hb11, gx] <;> omega
          · replace hb7 := eq_false_of_ne_true hb7
            rw [if_f hb7] at hp
            have hp := Option.some.inj hp
            subst hp
            simp (maxSteps := 2000000) (disch := first|omega|(simp only[ls];first|done|omega)) only [E, hv0, hb1, hb2, ftt0_0, ftt0_1, ftt0_2, ftt0_3, ftt0_4, ftt0_5, ftt0_6, hb4, hv5, hv6, hb7, gx]
        · replace hb4 := eq_false_of_ne_true hb4
          rw [if_f hb4] at hp
          have hp := Option.some.inj hp
          subst hp
          simp (maxSteps := 2000000) (disch := first|omega|(simp only[ls];first|done|omega)) only [E, hv0, hb1, hb2, ftt0_0, ftt0_1, ftt0_2, ftt0_3, ftt0_4, ftt0_5, ftt0_6, hb4, gx] <;> omega
      · simp (maxSteps := 2000000) (disch := first|omega|(simp only[ls];first|done|omega)) only [E, hv0, hb1, hb2, gx] <;> omega
      · intro x tt1 hh1 hx
        rcases ee0 with o15 | r
        · obtain ⟨rfl, ftt1_0, ftt1_1, ftt1_2, ftt1_3, ftt1_4, ftt1_5, ftt1_6⟩ := hx
          dsimp only at hp
          have hp := Option.some.inj hp
          subst hp
          simp (maxSteps := 2000000) (disch := first|omega|(simp only[ls];first|done|omega)) only [E, hv0, hb1, hb2, ftt1_0, ftt1_1, ftt1_2, ftt1_3, ftt1_4, ftt1_5, ftt1_6, gx]
        · obtain ⟨rfl, hx⟩ := hx
          dsimp only at hp
          cases hp
          simp only [seqK_ret, blockK_ret, retK_RK (K := Tells true), hx, and_self, true_and]
  · replace hb1 := eq_false_of_ne_true hb1
    rw [if_f hb1] at hp
    have hp := Option.some.inj hp
    subst hp
    simp (maxSteps := 2000000) (disch := first|omega|(simp only[ls];first|done|omega)) only [E, hv0, hb1, gx]

noncomputable def p_sort_Strings (x0 : List ByteArray) : Option (List ByteArray) := if x0.length < 4611686018427387904 then some (sortB x0) else none
def i_sort_Strings (pb0 pn0 : Nat) (h : Heap) (b : List ByteArray) (v : V) (h2 : Heap) : Prop := Keep [pb0] h h2 ∧ v = .tup [] ∧ getCells h2 pb0 pn0 = some (rows b)
def k_sort_Strings (F : Fun) : Prop := ∀ (x0 : List ByteArray) (b : List ByteArray), p_sort_Strings x0 = some b → ∀ (pb0 pn0 : Nat) (h : Heap), pn0 = x0.length → getCells h pb0 pn0 = some (rows x0) → ∃ p, F none [.hsl pb0 pn0 0 1 false pn0] h = some p ∧ i_sort_Strings pb0 pn0 h b p.1 p.2
theorem strs_rows : ∀ xs : List ByteArray, strsOf (rows xs) = some xs
  | [] => rfl
  | x :: xs => by
    rw [rows_cons]
    show (strsOf (rows xs)).map (fun l => x :: l) = some (x :: xs)
    rw [strs_rows xs]
    rfl
theorem rows_strs : ∀ xs : List ByteArray, xs.map (fun s => V.i (.s (.string s))) = rows xs
  | [] => rfl
  | x :: xs => by
    rw [List.map_cons, rows_strs xs, rows_cons]
    rfl
theorem ko_sort_Strings : k_sort_Strings sortFn := by
  intro x0 b hp pb pn h hn hg
  unfold p_sort_Strings at hp
  split at hp
  · rename_i hl
    cases hp
    subst hn
    unfold sortFn
    simp only
    rw [hg, Option.bind_some, strs_rows, Option.bind_some]
    by_cases h0 : x0.length = 0
    · obtain rfl := List.eq_nil_of_length_eq_zero h0
      have hs : sortB [] = [] := List.eq_nil_of_length_eq_zero (by rw [sortB_len]; rfl)
      rw [if_pos (by simp)]
      exact ⟨_, rfl, keep_refl, rfl, by rw [hs]; exact hg⟩
    · rw [if_neg (by omega), if_pos ⟨trivial, by omega, hl⟩]
      refine ⟨_, rfl, keep_set (.inl (by simp)) keep_refl, rfl, ?_⟩
      rw [rows_strs]
      exact set_cells hg (by rw [rows_len, sortB_len]; simp [zs])
  · cases hp

noncomputable def p_impl_SetElements_l0 (x0 : TMulti) : List ByteArray × Int → Option (Lp (List ByteArray × Int) (T2 (List ByteArray) Int))
  | (s2, s3) =>
    if (decide (s3 < (x0.entries.length : Int))) = true then
      (get? x0.entries s3).bind fun v5 =>
      (app? 16 s2 ([v5.text])).bind fun v6 =>
      some (.go (v6, w64 (s3 + 1)))
    else
      some (.out (s2, s3))
noncomputable def p_impl_SetElements_l1 (o7 : List ByteArray) (v9 : List ByteArray) : List ByteArray × Int → Option (Lp (List ByteArray × Int) (T2 (List ByteArray) Int))
  | (s10, s11) =>
    if (decide (s11 < (o7.length : Int))) = true then
      (get? v9 s11).bind fun v13 =>
      if (decide (s11 = 0)) = true then
        (app? 16 s10 ([v13])).bind fun v16 =>
        some (.go (v16, w64 (s11 + 1)))
      else
        (get? v9 (w64 (s11 - 1))).bind fun v17 =>
        if (decide (v17 = v13)) = true then
          some (.go (s10, w64 (s11 + 1)))
        else
          (app? 16 s10 ([v13])).bind fun v20 =>
          some (.go (v20, w64 (s11 + 1)))
    else
      some (.out (s10, s11))
noncomputable def p_impl_SetElements (x0 : TMulti) : Option (T2 (List ByteArray) Int) :=
  (p_impl_stateOK x0.seen x0.entries).bind fun v0 =>
  if (v0) = true then
    (loopP (p_impl_SetElements_l0 x0) (([] : List ByteArray), 0)).bind fun ee0 => match ee0 with
    | .ret r => some r
    | .out (o7, o8) =>
      (p_sort_Strings o7).bind fun v9 =>
      (loopP (p_impl_SetElements_l1 o7 v9) (([] : List ByteArray), 0)).bind fun ee1 => match ee1 with
      | .ret r => some r
      | .out (o21, o22) =>
        some ⟨o21, 0⟩
  else
    some ⟨[], 1⟩
def c_impl_SetElements (f_impl_stateOK : Nat) (f_sort_Strings : Nat) : AFn := ⟨55, (.seq (.ops [(qS 1 (.box (.tmp 0))), (qS 2 (.vnil 1 false)), (qS 3 (.mv (ic 0)))]) (.seq (.seq (.ops [(qS 10 (.fieldA 0 (.tmp 1))), (qS 11 (.load 1 true (.tmp 10))), (qS 12 (.fieldA 1 (.tmp 1))), (qS 13 (.load 1 false (.tmp 12))), (qS 14 (.call (2 * f_impl_stateOK) [(.tmp 11), (.tmp 13)])), (qS 15 (.pu (.n (.un .not)) [(.tmp 14)]))]) (.cond (.tmp 15) (.seq (.ops [(qS 2 (.vnil 1 false)), (qS 3 (.mv (ic 1)))]) .ret) .skip)) (.seq (.ops [(qS 4 (.vnil 1 false))]) (.seq (.seq (.ops [(qS 16 (.fieldA 1 (.tmp 1))), (qS 17 (.load 1 false (.tmp 16))), (qS 18 (.len (.tmp 17))), (qS 19 (.mv (ic 0)))]) (.block 0 (.loop (.seq (.ops [(qS 20 (.pu (.n (.ar .lss)) [(.tmp 19), (.tmp 18)]))]) (.seq (.cond (.tmp 20) .skip (.exit 0)) (.seq (.block 1 (.seq (.ops [(qS 21 (.idxS 3 (.tmp 17) (.tmp 19))), (qS 22 (.load 3 true (.tmp 21))), (qS 6 (.allocV [(0, false), (0, false), (0, false)] [(.int .i64 0), (.int .i64 0), (.string ⟨#[]⟩)])), ⟨.none, (.storeV [(0, false), (0, false), (0, false)] 3 (.tmp 6) (.tmp 22)), .none, []⟩]) (.ops [(qS 23 (.mv (.tmp 4))), (qS 24 (.fieldA 2 (.tmp 6))), (qS 25 (.load 1 false (.tmp 24))), (qS 26 (.buildSl 1 false 1 [(.string ⟨#[]⟩)] [(0, (.tmp 25))])), (qS 27 (.append 1 false 16 (.tmp 23) (.tmp 26))), (qS 4 (.mv (.tmp 27)))]))) (.ops [(qS 28 (.pu (.n (.ar .add)) [(.tmp 19), (ic 1)])), (qS 19 (.mv (.tmp 28)))]))))))) (.seq (.ops [(qS 29 (.mv (.tmp 4))), (qS 30 (.call (2 * f_sort_Strings + 1) [(.tmp 29)]))]) (.seq (.ops [(qS 7 (.vnil 1 false))]) (.seq (.seq (.ops [(qS 31 (.mv (.tmp 4))), (qS 32 (.len (.tmp 31))), (qS 33 (.mv (ic 0)))]) (.block 2 (.loop (.seq (.ops [(qS 34 (.pu (.n (.ar .lss)) [(.tmp 33), (.tmp 32)]))]) (.seq (.cond (.tmp 34) .skip (.exit 2)) (.seq (.block 3 (.seq (.ops [(qS 35 (.mv (.tmp 33))), (qS 36 (.idxS 1 (.tmp 31) (.tmp 33))), (qS 37 (.load 1 false (.tmp 36))), (qS 8 (.mv (.tmp 35))), (qS 9 (.mv (.tmp 37)))]) (.seq (.ops [(qS 38 (.mv (.tmp 8))), (qS 39 (.pu (.n (.ar .eql)) [(.tmp 38), (ic 0)])), (qS 40 (.mv (.tmp 39))), ⟨(.some 41), (.mv (.tmp 4)), (.some (40, false)), []⟩, ⟨(.some 42), (.mv (.tmp 8)), (.some (40, false)), []⟩, ⟨(.some 43), (.pu (.n (.ar .sub)) [(.tmp 42), (ic 1)]), (.some (40, false)), []⟩, ⟨(.some 44), (.idxS 1 (.tmp 41) (.tmp 43)), (.some (40, false)), []⟩, ⟨(.some 45), (.load 1 false (.tmp 44)), (.some (40, false)), []⟩, ⟨(.some 46), (.mv (.tmp 9)), (.some (40, false)), []⟩, ⟨(.some 47), (.pu (.n (.ar .neq)) [(.tmp 45), (.tmp 46)]), (.some (40, false)), []⟩, (qS 48 (.pick (.tmp 40) (.const (.bool true)) (.tmp 47)))]) (.cond (.tmp 48) (.ops [(qS 49 (.mv (.tmp 7))), (qS 50 (.mv (.tmp 9))), (qS 51 (.buildSl 1 false 1 [(.string ⟨#[]⟩)] [(0, (.tmp 50))])), (qS 52 (.append 1 false 16 (.tmp 49) (.tmp 51))), (qS 7 (.mv (.tmp 52)))]) .skip)))) (.ops [(qS 53 (.pu (.n (.ar .add)) [(.tmp 33), (ic 1)])), (qS 33 (.mv (.tmp 53)))]))))))) (.seq (.ops [(qS 54 (.mv (.tmp 7))), (qS 2 (.mv (.tmp 54))), (qS 3 (.mv (ic 0)))]) .ret)))))))), [(.tmp 2), (.tmp 3)]⟩
def o_impl_SetElements (b : T2 (List ByteArray) Int) (v : V) (h : Heap) : Prop := ∃ n0 : Nat, v = .tup [.hsl n0 b.a.length 0 1 false b.a.length, .i (.s (.int .i64 b.b))] ∧ getCells h n0 b.a.length = some (rows b.a)
def oo_impl_SetElements (b : T2 (List ByteArray) Int) (h : Heap) (v : V) (h2 : Heap) : Prop := Keep [] h h2 ∧ ∃ n0 : Nat, v = .tup [.hsl n0 b.a.length 0 1 false b.a.length, .i (.s (.int .i64 b.b))] ∧ n0 < h2.length ∧ h.length ≤ n0 ∧ getCells h2 n0 b.a.length = some (rows b.a)
def k_impl_SetElements (F : Fun) : Prop := ∀ (x0 : TMulti) (b : T2 (List ByteArray) Int), p_impl_SetElements x0 = some b → ∀ (h : Heap) (args : List V), snapA 9 false h args = some (encA (x0)) → ∃ p, F none args h = some p ∧ oo_impl_SetElements b h p.1 p.2
set_option maxHeartbeats 10000000 in
theorem w_impl_SetElements {P : Program} {env : Env} {f_impl_stateOK : Nat} {f_sort_Strings : Nat}  (ep_impl_stateOK : env (2 * f_impl_stateOK) = pureFn true (FA fun a : TVec × List TEntry => p_impl_stateOK a.1 a.2)) (e_sort_Strings : k_sort_Strings (env (2 * f_sort_Strings + 1))) (x0 : TMulti) {b : T2 (List ByteArray) Int} (hp : p_impl_SetElements x0 = some b) : R P env (c_impl_SetElements f_impl_stateOK f_sort_Strings) ((encA (x0)).map ofI) [] (o_impl_SetElements b) := by
  refine R_of (by simp [c_impl_SetElements, encA]) ?_
  have E := ep_impl_stateOK
  unfold c_impl_SetElements
  unfold p_impl_SetElements at hp
  obtain ⟨v0, hv0, hp⟩ := bind_eq hp
  by_cases hb1 : (v0) = true
  · rw [if_t hb1] at hp
    obtain ⟨ee0, hee0, hp⟩ := bind_eq hp
    simp (maxSteps := 2000000) (disch := first|omega|(simp only[ls];first|done|omega)) only [E, hv0, hb1, gx]
    refine W_loopP 0 (fun s t h => match s with | (s2, s3) => t 4 = .hsl 2 s2.length 0 1 false s2.length ∧ t 17 = .i (.sl 3 (x0.entries.map enc)) ∧ t 18 = .i (.s (.int .i64 (x0.entries.length : Int))) ∧ t 19 = .i (.s (.int .i64 s3)) ∧ getCells h 2 s2.length = some (rows (s2 : List ByteArray)) ∧ 2 < h.length) (RK [.tmp 2, .tmp 3] (o_impl_SetElements)) ?_ hee0 ?_ ?_
    · rintro ⟨s2, s3⟩ ee tt0 hh0 ⟨ftt0_0, ftt0_1, ftt0_2, ftt0_3, ftt0_4, ftt0_5⟩ hp
      rw [p_impl_SetElements_l0] at hp
      by_cases hb4 : (decide (s3 < (x0.entries.length : Int))) = true
      · rw [if_t hb4] at hp
        obtain ⟨v5, hv5, hp⟩ := bind_eq hp
        obtain ⟨v6, hv6, hp⟩ := bind_eq hp
        obtain ⟨kv6, qv6, lv6⟩ := app_some hv6
        have rv6 : rows s2 ++ [.i (.s (.string v5.text))] = rows v6 := by rw [qv6, rows_append]; rfl
        have mv6 : s2.length + 1 = v6.length := by simp at lv6; omega
        have nv6 : (s2.length + 1) * 16 ≤ 140737488355328 := by simp at kv6; omega
        have hp := Option.some.inj hp
        subst hp
        simp (maxSteps := 2000000) (disch := first|omega|(simp only[ls];first|done|omega)) only [E, hv0, hb1, ftt0_0, ftt0_1, ftt0_2, ftt0_3, ftt0_4, ftt0_5, hb4, hv5, hv6, rv6, nv6, gx] <;> omega
      · replace hb4 := eq_false_of_ne_true hb4
        rw [if_f hb4] at hp
        have hp := Option.some.inj hp
        subst hp
        simp (maxSteps := 2000000) (disch := first|omega|(simp only[ls];first|done|omega)) only [E, hv0, hb1, ftt0_0, ftt0_1, ftt0_2, ftt0_3, ftt0_4, ftt0_5, hb4, gx] <;> omega
    · simp (maxSteps := 2000000) (disch := first|omega|(simp only[ls];first|done|omega)) only [E, hv0, hb1, gx] <;> omega
    · intro x tt1 hh1 hx
      rcases ee0 with ⟨o7, o8⟩ | r
      · obtain ⟨rfl, ftt1_0, ftt1_1, ftt1_2, ftt1_3, ftt1_4, ftt1_5⟩ := hx
        dsimp only at hp
        obtain ⟨v9, hv9, hp⟩ := bind_eq hp
        simp (maxSteps := 2000000) (disch := first|omega|(simp only[ls];first|done|omega)) only [E, hv0, hb1, ftt1_0, ftt1_1, ftt1_2, ftt1_3, ftt1_4, ftt1_5, gx]
        refine call_f (fun h => getCells h 2 o7.length = some (rows (o7 : List ByteArray)) ∧ 2 < h.length) (fun h v h2 => i_sort_Strings 2 o7.length h v9 v h2) ?_ ?_ ?_
        · simp (maxSteps := 2000000) (disch := first|omega|(simp only[ls];first|done|omega)) only [E, hv0, hb1, ftt1_0, ftt1_1, ftt1_2, ftt1_3, ftt1_4, ftt1_5, hv9, gx] <;> omega
        · rintro h ⟨c2_0, c2_1⟩
          exact e_sort_Strings _ _ hv9 2 o7.length h (by first | omega | rfl) c2_0
        · rintro hc2 v hh2 ⟨c2_0, c2_1⟩ hpost
          obtain ⟨kk2, rfl, w2_0⟩ := hpost
          have d2_0 : getCells hh2 2 o7.length = some (rows (v9 : List ByteArray)) := w2_0
          have mm2_0 := len_rows w2_0
          simp only [zs] at mm2_0
          have d2_0l := keep_lt kk2 c2_1
          obtain ⟨ee1, hee1, hp⟩ := bind_eq hp
          simp (maxSteps := 2000000) (disch := first|omega|(simp only[ls];first|done|omega)) only [E, hv0, hb1, ftt1_0, ftt1_1, ftt1_2, ftt1_3, ftt1_4, ftt1_5, hv9, d2_0, gx]
          refine W_loopP 2 (fun s t h => match s with | (s10, s11) => t 4 = .hsl 2 o7.length 0 1 false o7.length ∧ t 7 = .hsl hh2.length s10.length 0 1 false s10.length ∧ t 31 = .hsl 2 o7.length 0 1 false o7.length ∧ t 32 = .i (.s (.int .i64 (o7.length : Int))) ∧ t 33 = .i (.s (.int .i64 s11)) ∧ getCells h 2 o7.length = some (rows (v9 : List ByteArray)) ∧ 2 < h.length ∧ getCells h hh2.length s10.length = some (rows (s10 : List ByteArray)) ∧ hh2.length < h.length) (RK [.tmp 2, .tmp 3] (o_impl_SetElements)) ?_ hee1 ?_ ?_
          · rintro ⟨s10, s11⟩ ee tt3 hh3 ⟨ftt3_0, ftt3_1, ftt3_2, ftt3_3, ftt3_4, ftt3_5, ftt3_6, ftt3_7, ftt3_8⟩ hp
            have ztt3_5 := len_rows ftt3_5
            simp only [zs] at ztt3_5
            rw [p_impl_SetElements_l1] at hp
            by_cases hb12 : (decide (s11 < (o7.length : Int))) = true
            · rw [if_t hb12] at hp
              obtain ⟨v13, hv13, hp⟩ := bind_eq hp
              have gv13 := get_some hv13
              have hl14 : List.take 1 (List.drop s11.toNat (rows v9)) = [.i (.s (.string v13))] := by simpa [zs, cellsV, I.cells, enc_str] using rows_get_off (k := 0) (m := 1) gv13.2.2 (Nat.le_of_ble_eq_true rfl)
              by_cases hb15 : (decide (s11 = 0)) = true
              · rw [if_t hb15] at hp
                obtain ⟨v16, hv16, hp⟩ := bind_eq hp
                obtain ⟨kv16, qv16, lv16⟩ := app_some hv16
                have rv16 : rows s10 ++ [.i (.s (.string v13))] = rows v16 := by rw [qv16, rows_append]; rfl
                have mv16 : s10.length + 1 = v16.length := by simp at lv16; omega
                have nv16 : (s10.length + 1) * 16 ≤ 140737488355328 := by simp at kv16; omega
                have hp := Option.some.inj hp
                subst hp
                simp (maxSteps := 2000000) (disch := first|omega|(simp only[ls];first|done|omega)) only [E, hv0, hb1, ftt1_0, ftt1_1, ftt1_2, ftt1_3, ftt1_4, ftt1_5, hv9, d2_0, ftt3_0, ftt3_1, ftt3_2, ftt3_3, ftt3_4, ftt3_5, ftt3_6, ftt3_7, ftt3_8, hb12, hv13, (gv13).1, (gv13).2.1, hl14, hb15, hv16, rv16, nv16, gx] <;> omega
              · replace hb15 := eq_false_of_ne_true hb15
                rw [if_f hb15] at hp
                obtain ⟨v17, hv17, hp⟩ := bind_eq hp
                have gv17 := get_some hv17
                have hl18 : List.take 1 (List.drop ((w64 (s11 - 1)).toNat) (rows v9)) = [.i (.s (.string v17))] := by simpa [zs, cellsV, I.cells, enc_str] using rows_get_off (k := 0) (m := 1) gv17.2.2 (Nat.le_of_ble_eq_true rfl)
                by_cases hb19 : (decide (v17 = v13)) = true
                · rw [if_t hb19] at hp
                  have hp := Option.some.inj hp
                  subst hp
                  simp (maxSteps := 2000000) (disch := first|omega|(simp only[ls];first|done|omega)) only [E, hv0, hb1, ftt1_0, ftt1_1, ftt1_2, ftt1_3, ftt1_4, ftt1_5, hv9, d2_0, ftt3_0, ftt3_1, ftt3_2, ftt3_3, ftt3_4, ftt3_5, ftt3_6, ftt3_7, ftt3_8, hb12, hv13, (gv13).1, (gv13).2.1, hl14, hb15, hv17, (gv17).1, (gv17).2.1, hl18, hb19, gx] <;> omega
                · replace hb19 := eq_false_of_ne_true hb19
                  rw [if_f hb19] at hp
                  obtain ⟨v20, hv20, hp⟩ := bind_eq hp
                  obtain ⟨kv20, qv20, lv20⟩ := app_some hv20
                  have rv20 : rows s10 ++ [.i (.s (.string v13))] = rows v20 := by rw [qv20, rows_append]; rfl
                  have mv20 : s10.length + 1 = v20.length := by simp at lv20; omega
                  have nv20 : (s10.length + 1) * 16 ≤ 140737488355328 := by simp at kv20; omega
                  have hp := Option.some.inj hp
                  subst hp
                  simp (maxSteps := 2000000) (disch := first|omega|(simp only[ls];first|done|omega)) only [E, hv0, hb1, ftt1_0, ftt1_1, ftt1_2, ftt1_3, ftt1_4, ftt1_5, hv9, d2_0, ftt3_0, ftt3_1, ftt3_2, ftt3_3, ftt3_4, ftt3_5, ftt3_6, ftt3_7, ftt3_8, hb12, hv13, (gv13).1, (gv13).2.1, hl14, hb15, hv17, (gv17).1, (gv17).2.1, hl18, hb19, hv20, rv20, nv20, gx] <;> omega
            · replace hb12 := eq_false_of_ne_true hb12
              rw [if_f hb12] at hp
              have hp := Option.some.inj hp
              subst hp
              simp (maxSteps := 2000000) (disch := first|omega|(simp only[ls];first|done|omega)) only [E, hv0, hb1, ftt1_0, ftt1_1, ftt1_2, ftt1_3, ftt1_4, ftt1_5, hv9, d2_0, ftt3_0, ftt3_1, ftt3_2, ftt3_3, ftt3_4, ftt3_5, ftt3_6, ftt3_7, ftt3_8, hb12, gx] <;> omega
          · simp (maxSteps := 2000000) (disch := first|omega|(simp only[ls];first|done|omega)) only [E, hv0, hb1, ftt1_0, ftt1_1, ftt1_2, ftt1_3, ftt1_4, ftt1_5, hv9, d2_0, gx] <;> omega
          · intro x tt4 hh4 hx
            rcases ee1 with ⟨o21, o22⟩ | r
            · obtain ⟨rfl, ftt4_0, ftt4_1, ftt4_2, ftt4_3, ftt4_4, ftt4_5, ftt4_6, ftt4_7, ftt4_8⟩ := hx
              have ztt4_5 := len_rows ftt4_5
              simp only [zs] at ztt4_5
              dsimp only at hp
              have hp := Option.some.inj hp
              subst hp
              simp (maxSteps := 2000000) (disch := first|omega|(simp only[ls];first|done|omega)) only [E, hv0, hb1, ftt1_0, ftt1_1, ftt1_2, ftt1_3, ftt1_4, ftt1_5, hv9, d2_0, ftt4_0, ftt4_1, ftt4_2, ftt4_3, ftt4_4, ftt4_5, ftt4_6, ftt4_7, ftt4_8, gx]
              refine ⟨hh2.length, ?_⟩
              simp (maxSteps := 2000000) (disch := first|omega|(simp only[ls];first|done|omega)) only [E, hv0, hb1, ftt1_0, ftt1_1, ftt1_2, ftt1_3, ftt1_4, ftt1_5, hv9, d2_0, ftt4_0, ftt4_1, ftt4_2, ftt4_3, ftt4_4, ftt4_5, ftt4_6, ftt4_7, ftt4_8, o_impl_SetElements, gx] <;> omega
            · obtain ⟨rfl, hx⟩ := hx
              dsimp only at hp
              cases hp
              simp only [seqK_ret, blockK_ret, retK_RK (K := o_impl_SetElements), hx, and_self, true_and]
      · obtain ⟨rfl, hx⟩ := hx
        dsimp only at hp
        cases hp
        simp only [seqK_ret, blockK_ret, retK_RK (K := o_impl_SetElements), hx, and_self, true_and]
  · replace hb1 := eq_false_of_ne_true hb1
    rw [if_f hb1] at hp
    have hp := Option.some.inj hp
    subst hp
    simp (maxSteps := 2000000) (disch := first|omega|(simp only[ls];first|done|omega)) only [E, hv0, hb1, gx]
    refine ⟨2, ?_⟩
    simp (maxSteps := 2000000) (disch := first|omega|(simp only[ls];first|done|omega)) only [E, hv0, hb1, o_impl_SetElements, gx] <;> omega
theorem ko_impl_SetElements {P : Program} {env : Env} {f_impl_stateOK : Nat} {f_sort_Strings : Nat}  (ep_impl_stateOK : env (2 * f_impl_stateOK) = pureFn true (FA fun a : TVec × List TEntry => p_impl_stateOK a.1 a.2)) (e_sort_Strings : k_sort_Strings (env (2 * f_sort_Strings + 1))) : k_impl_SetElements (ownFn P env (c_impl_SetElements f_impl_stateOK f_sort_Strings)) := by
  intro x0 b hp h args has
  obtain ⟨⟨v, H2⟩, hr, n0, rfl, wn0⟩ := w_impl_SetElements ep_impl_stateOK e_sort_Strings x0 hp
  exact ⟨_, own_call has hr rfl, keep_moved, n0 + h.length, rfl, (moved_lt wn0).2, (moved_lt wn0).1, moved_rows wn0⟩

noncomputable def p_laws_eqStringS_l0 (x0 : List ByteArray) (x1 : List ByteArray) : Int → Option (Lp (Int) Bool)
  | s1 =>
    if (decide (s1 < (x0.length : Int))) = true then
      (get? x0 s1).bind fun v3 =>
      (get? x1 s1).bind fun v4 =>
      if (decide (v3 = v4)) = true then
        some (.go (w64 (s1 + 1)))
      else
        some (.ret false)
    else
      some (.out s1)
noncomputable def p_laws_eqStringS (x0 : List ByteArray) (x1 : List ByteArray) : Option Bool :=
  if (decide ((x0.length : Int) = (x1.length : Int))) = true then
    (loopP (p_laws_eqStringS_l0 x0 x1) 0).bind fun ee0 => match ee0 with
    | .ret r => some r
    | .out o6 =>
      some true
  else
    some false
def c_laws_eqStringS : AFn := ⟨26, (.seq (.ops [(qS 4 (.mv (.const (.bool false))))]) (.seq (.seq (.ops [(qS 6 (.mv (.tmp 0))), (qS 7 (.len (.tmp 6))), (qS 8 (.mv (.tmp 1))), (qS 9 (.len (.tmp 8))), (qS 10 (.pu (.n (.ar .neq)) [(.tmp 7), (.tmp 9)]))]) (.cond (.tmp 10) (.seq (.ops [(qS 4 (.mv (.const (.bool false))))]) .ret) .skip)) (.seq (.seq (.ops [(qS 5 (.mv (ic 0)))]) (.block 0 (.loop (.seq (.seq (.ops [(qS 11 (.mv (.tmp 5))), (qS 12 (.mv (.tmp 0))), (qS 13 (.len (.tmp 12))), (qS 14 (.pu (.n (.ar .lss)) [(.tmp 11), (.tmp 13)]))]) (.cond (.tmp 14) .skip (.exit 0))) (.seq (.block 1 (.seq (.ops [(qS 17 (.mv (.tmp 0))), (qS 18 (.mv (.tmp 5))), (qS 19 (.idxS 1 (.tmp 17) (.tmp 18))), (qS 20 (.load 1 false (.tmp 19))), (qS 21 (.mv (.tmp 1))), (qS 22 (.mv (.tmp 5))), (qS 23 (.idxS 1 (.tmp 21) (.tmp 22))), (qS 24 (.load 1 false (.tmp 23))), (qS 25 (.pu (.n (.ar .neq)) [(.tmp 20), (.tmp 24)]))]) (.cond (.tmp 25) (.seq (.ops [(qS 4 (.mv (.const (.bool false))))]) .ret) .skip))) (.ops [(qS 15 (.mv (.tmp 5))), (qS 16 (.pu (.n (.ar .add)) [(.tmp 15), (ic 1)])), (qS 5 (.mv (.tmp 16)))])))))) (.seq (.ops [(qS 4 (.mv (.const (.bool true))))]) .ret)))), [(.tmp 4)]⟩
set_option maxHeartbeats 10000000 in
theorem d_laws_eqStringS {P : Program} {env : Env}  (x0 : List ByteArray) (x1 : List ByteArray) {b : Bool} (hp : p_laws_eqStringS x0 x1 = some b) : R P env (c_laws_eqStringS) ((encA (x0, x1)).map ofI) [] (Tells true b) := by
  refine R_of (by simp [c_laws_eqStringS, encA]) ?_
  unfold c_laws_eqStringS
  unfold p_laws_eqStringS at hp
  by_cases hb0 : (decide ((x0.length : Int) = (x1.length : Int))) = true
  · rw [if_t hb0] at hp
    obtain ⟨ee0, hee0, hp⟩ := bind_eq hp
    simp (maxSteps := 2000000) (disch := first|omega|(simp only[ls];first|done|omega)) only [hb0, gx]
    refine W_loopP 0 (fun s t h => match s with | s1 => t 0 = .i (.sl 1 (x0.map enc)) ∧ t 1 = .i (.sl 1 (x1.map enc)) ∧ t 5 = .i (.s (.int .i64 s1))) (RK [.tmp 4] (Tells true)) ?_ hee0 ?_ ?_
    · rintro s1 ee tt0 hh0 ⟨ftt0_0, ftt0_1, ftt0_2⟩ hp
      rw [p_laws_eqStringS_l0] at hp
      by_cases hb2 : (decide (s1 < (x0.length : Int))) = true
      · rw [if_t hb2] at hp
        obtain ⟨v3, hv3, hp⟩ := bind_eq hp
        obtain ⟨v4, hv4, hp⟩ := bind_eq hp
        by_cases hb5 : (decide (v3 = v4)) = true
        · rw [if_t hb5] at hp
          have hp := Option.some.inj hp
          subst hp
          simp (maxSteps := 2000000) (disch := first|omega|(simp only[ls];first|done|omega)) only [hb0, ftt0_0, ftt0_1, ftt0_2, hb2, hv3, hv4, hb5, gx] <;> omega
        · replace hb5 := eq_false_of_ne_true hb5
          rw [if_f hb5] at hp
          have hp := Option.some.inj hp
          subst hp
          simp (maxSteps := 2000000) (disch := first|omega|(simp only[ls];first|done|omega)) only [hb0, ftt0_0, ftt0_1, ftt0_2, hb2, hv3, hv4, hb5, gx]
      · replace hb2 := eq_false_of_ne_true hb2
        rw [if_f hb2] at hp
        have hp := Option.some.inj hp
        subst hp
        simp (maxSteps := 2000000) (disch := first|omega|(simp only[ls];first|done|omega)) only [hb0, ftt0_0, ftt0_1, ftt0_2, hb2, gx] <;> omega
    · simp (maxSteps := 2000000) (disch := first|omega|(simp only[ls];first|done|omega)) only [hb0, gx] <;> omega
    · intro x tt1 hh1 hx
      rcases ee0 with o6 | r
      · obtain ⟨rfl, ftt1_0, ftt1_1, ftt1_2⟩ := hx
        dsimp only at hp
        have hp := Option.some.inj hp
        subst hp
        simp (maxSteps := 2000000) (disch := first|omega|(simp only[ls];first|done|omega)) only [hb0, ftt1_0, ftt1_1, ftt1_2, gx]
      · obtain ⟨rfl, hx⟩ := hx
        dsimp only at hp
        cases hp
        simp only [seqK_ret, blockK_ret, retK_RK (K := Tells true), hx, and_self, true_and]
  · replace hb0 := eq_false_of_ne_true hb0
    rw [if_f hb0] at hp
    have hp := Option.some.inj hp
    subst hp
    simp (maxSteps := 2000000) (disch := first|omega|(simp only[ls];first|done|omega)) only [hb0, gx]

noncomputable def p_laws_eqIntS_l0 (x0 : List Int) (x1 : List Int) : Int → Option (Lp (Int) Bool)
  | s1 =>
    if (decide (s1 < (x0.length : Int))) = true then
      (get? x0 s1).bind fun v3 =>
      (get? x1 s1).bind fun v4 =>
      if (decide (v3 = v4)) = true then
        some (.go (w64 (s1 + 1)))
      else
        some (.ret false)
    else
      some (.out s1)
noncomputable def p_laws_eqIntS (x0 : List Int) (x1 : List Int) : Option Bool :=
  if (decide ((x0.length : Int) = (x1.length : Int))) = true then
    (loopP (p_laws_eqIntS_l0 x0 x1) 0).bind fun ee0 => match ee0 with
    | .ret r => some r
    | .out o6 =>
      some true
  else
    some false
def c_laws_eqIntS : AFn := ⟨26, (.seq (.ops [(qS 4 (.mv (.const (.bool false))))]) (.seq (.seq (.ops [(qS 6 (.mv (.tmp 0))), (qS 7 (.len (.tmp 6))), (qS 8 (.mv (.tmp 1))), (qS 9 (.len (.tmp 8))), (qS 10 (.pu (.n (.ar .neq)) [(.tmp 7), (.tmp 9)]))]) (.cond (.tmp 10) (.seq (.ops [(qS 4 (.mv (.const (.bool false))))]) .ret) .skip)) (.seq (.seq (.ops [(qS 5 (.mv (ic 0)))]) (.block 0 (.loop (.seq (.seq (.ops [(qS 11 (.mv (.tmp 5))), (qS 12 (.mv (.tmp 0))), (qS 13 (.len (.tmp 12))), (qS 14 (.pu (.n (.ar .lss)) [(.tmp 11), (.tmp 13)]))]) (.cond (.tmp 14) .skip (.exit 0))) (.seq (.block 1 (.seq (.ops [(qS 17 (.mv (.tmp 0))), (qS 18 (.mv (.tmp 5))), (qS 19 (.idxS 1 (.tmp 17) (.tmp 18))), (qS 20 (.load 1 false (.tmp 19))), (qS 21 (.mv (.tmp 1))), (qS 22 (.mv (.tmp 5))), (qS 23 (.idxS 1 (.tmp 21) (.tmp 22))), (qS 24 (.load 1 false (.tmp 23))), (qS 25 (.pu (.n (.ar .neq)) [(.tmp 20), (.tmp 24)]))]) (.cond (.tmp 25) (.seq (.ops [(qS 4 (.mv (.const (.bool false))))]) .ret) .skip))) (.ops [(qS 15 (.mv (.tmp 5))), (qS 16 (.pu (.n (.ar .add)) [(.tmp 15), (ic 1)])), (qS 5 (.mv (.tmp 16)))])))))) (.seq (.ops [(qS 4 (.mv (.const (.bool true))))]) .ret)))), [(.tmp 4)]⟩
set_option maxHeartbeats 10000000 in
theorem d_laws_eqIntS {P : Program} {env : Env}  (x0 : List Int) (x1 : List Int) {b : Bool} (hp : p_laws_eqIntS x0 x1 = some b) : R P env (c_laws_eqIntS) ((encA (x0, x1)).map ofI) [] (Tells true b) := by
  refine R_of (by simp [c_laws_eqIntS, encA]) ?_
  unfold c_laws_eqIntS
  unfold p_laws_eqIntS at hp
  by_cases hb0 : (decide ((x0.length : Int) = (x1.length : Int))) = true
  · rw [if_t hb0] at hp
    obtain ⟨ee0, hee0, hp⟩ := bind_eq hp
    simp (maxSteps := 2000000) (disch := first|omega|(simp only[ls];first|done|omega)) only [hb0, gx]
    refine W_loopP 0 (fun s t h => match s with | s1 => t 0 = .i (.sl 1 (x0.map enc)) ∧ t 1 = .i (.sl 1 (x1.map enc)) ∧ t 5 = .i (.s (.int .i64 s1))) (RK [.tmp 4] (Tells true)) ?_ hee0 ?_ ?_
    · rintro s1 ee tt0 hh0 ⟨ftt0_0, ftt0_1, ftt0_2⟩ hp
      rw [p_laws_eqIntS_l0] at hp
      by_cases hb2 : (decide (s1 < (x0.length : Int))) = true
      · rw [if_t hb2] at hp
        obtain ⟨v3, hv3, hp⟩ := bind_eq hp
        obtain ⟨v4, hv4, hp⟩ := bind_eq hp
        by_cases hb5 : (decide (v3 = v4)) = true
        · rw [if_t hb5] at hp
          have hp := Option.some.inj hp
          subst hp
          simp (maxSteps := 2000000) (disch := first|omega|(simp only[ls];first|done|omega)) only [hb0, ftt0_0, ftt0_1, ftt0_2, hb2, hv3, hv4, hb5, gx] <;> omega
        · replace hb5 := eq_false_of_ne_true hb5
          rw [if_f hb5] at hp
          have hp := Option.some.inj hp
          subst hp
          simp (maxSteps := 2000000) (disch := first|omega|(simp only[ls];first|done|omega)) only [hb0, ftt0_0, ftt0_1, ftt0_2, hb2, hv3, hv4, hb5, gx]
      · replace hb2 := eq_false_of_ne_true hb2
        rw [if_f hb2] at hp
        have hp := Option.some.inj hp
        subst hp
        simp (maxSteps := 2000000) (disch := first|omega|(simp only[ls];first|done|omega)) only [hb0, ftt0_0, ftt0_1, ftt0_2, hb2, gx] <;> omega
    · simp (maxSteps := 2000000) (disch := first|omega|(simp only[ls];first|done|omega)) only [hb0, gx] <;> omega
    · intro x tt1 hh1 hx
      rcases ee0 with o6 | r
      · obtain ⟨rfl, ftt1_0, ftt1_1, ftt1_2⟩ := hx
        dsimp only at hp
        have hp := Option.some.inj hp
        subst hp
        simp (maxSteps := 2000000) (disch := first|omega|(simp only[ls];first|done|omega)) only [hb0, ftt1_0, ftt1_1, ftt1_2, gx]
      · obtain ⟨rfl, hx⟩ := hx
        dsimp only at hp
        cases hp
        simp only [seqK_ret, blockK_ret, retK_RK (K := Tells true), hx, and_self, true_and]
  · replace hb0 := eq_false_of_ne_true hb0
    rw [if_f hb0] at hp
    have hp := Option.some.inj hp
    subst hp
    simp (maxSteps := 2000000) (disch := first|omega|(simp only[ls];first|done|omega)) only [hb0, gx]

noncomputable def p_laws_eqVector (x0 : TVec) (x1 : TVec) : Option Bool :=
  (p_laws_eqIntS x0.counts x1.counts).bind fun v0 =>
  if (v0) = true then
    some true
  else
    some false
def c_laws_eqVector (f_laws_eqIntS : Nat) : AFn := ⟨11, (.seq (.ops [(qS 2 (.box (.tmp 0))), (qS 3 (.box (.tmp 1))), (qS 4 (.mv (.const (.bool false))))]) (.seq (.seq (.ops [(qS 5 (.fieldA 0 (.tmp 2))), (qS 6 (.load 1 false (.tmp 5))), (qS 7 (.fieldA 0 (.tmp 3))), (qS 8 (.load 1 false (.tmp 7))), (qS 9 (.call (2 * f_laws_eqIntS) [(.tmp 6), (.tmp 8)])), (qS 10 (.pu (.n (.un .not)) [(.tmp 9)]))]) (.cond (.tmp 10) (.seq (.ops [(qS 4 (.mv (.const (.bool false))))]) .ret) .skip)) (.seq (.ops [(qS 4 (.mv (.const (.bool true))))]) .ret))), [(.tmp 4)]⟩
set_option maxHeartbeats 10000000 in
theorem d_laws_eqVector {P : Program} {env : Env} {f_laws_eqIntS : Nat}  (ep_laws_eqIntS : env (2 * f_laws_eqIntS) = pureFn true (FA fun a : List Int × List Int => p_laws_eqIntS a.1 a.2)) (x0 : TVec) (x1 : TVec) {b : Bool} (hp : p_laws_eqVector x0 x1 = some b) : R P env (c_laws_eqVector f_laws_eqIntS) ((encA (x0, x1)).map ofI) [] (Tells true b) := by
  refine R_of (by simp [c_laws_eqVector, encA]) ?_
  have E := ep_laws_eqIntS
  unfold c_laws_eqVector
  unfold p_laws_eqVector at hp
  obtain ⟨v0, hv0, hp⟩ := bind_eq hp
  by_cases hb1 : (v0) = true
  · rw [if_t hb1] at hp
    have hp := Option.some.inj hp
    subst hp
    simp (maxSteps := 2000000) (disch := first|omega|(simp only[ls];first|done|omega)) only [E, hv0, hb1, gx]
  · replace hb1 := eq_false_of_ne_true hb1
    rw [if_f hb1] at hp
    have hp := Option.some.inj hp
    subst hp
    simp (maxSteps := 2000000) (disch := first|omega|(simp only[ls];first|done|omega)) only [E, hv0, hb1, gx]

noncomputable def p_laws_eqStamp (x0 : TStamp) (x1 : TStamp) : Option Bool :=
  if (decide (x0.time = x1.time)) = true then
    if (decide (x0.actor = x1.actor)) = true then
      some true
    else
      some false
  else
    some false
def c_laws_eqStamp : AFn := ⟨15, (.seq (.ops [(qS 2 (.box (.tmp 0))), (qS 3 (.box (.tmp 1))), (qS 4 (.mv (.const (.bool false))))]) (.seq (.seq (.ops [(qS 5 (.fieldA 0 (.tmp 2))), (qS 6 (.load 1 false (.tmp 5))), (qS 7 (.fieldA 0 (.tmp 3))), (qS 8 (.load 1 false (.tmp 7))), (qS 9 (.pu (.n (.ar .neq)) [(.tmp 6), (.tmp 8)]))]) (.cond (.tmp 9) (.seq (.ops [(qS 4 (.mv (.const (.bool false))))]) .ret) .skip)) (.seq (.seq (.ops [(qS 10 (.fieldA 1 (.tmp 2))), (qS 11 (.load 1 false (.tmp 10))), (qS 12 (.fieldA 1 (.tmp 3))), (qS 13 (.load 1 false (.tmp 12))), (qS 14 (.pu (.n (.ar .neq)) [(.tmp 11), (.tmp 13)]))]) (.cond (.tmp 14) (.seq (.ops [(qS 4 (.mv (.const (.bool false))))]) .ret) .skip)) (.seq (.ops [(qS 4 (.mv (.const (.bool true))))]) .ret)))), [(.tmp 4)]⟩
set_option maxHeartbeats 10000000 in
theorem d_laws_eqStamp {P : Program} {env : Env}  (x0 : TStamp) (x1 : TStamp) {b : Bool} (hp : p_laws_eqStamp x0 x1 = some b) : R P env (c_laws_eqStamp) ((encA (x0, x1)).map ofI) [] (Tells true b) := by
  refine R_of (by simp [c_laws_eqStamp, encA]) ?_
  unfold c_laws_eqStamp
  unfold p_laws_eqStamp at hp
  by_cases hb0 : (decide (x0.time = x1.time)) = true
  · rw [if_t hb0] at hp
    by_cases hb1 : (decide (x0.actor = x1.actor)) = true
    · rw [if_t hb1] at hp
      have hp := Option.some.inj hp
      subst hp
      simp (maxSteps := 2000000) (disch := first|omega|(simp only[ls];first|done|omega)) only [hb0, hb1, gx]
    · replace hb1 := eq_false_of_ne_true hb1
      rw [if_f hb1] at hp
      have hp := Option.some.inj hp
      subst hp
      simp (maxSteps := 2000000) (disch := first|omega|(simp only[ls];first|done|omega)) only [hb0, hb1, gx]
  · replace hb0 := eq_false_of_ne_true hb0
    rw [if_f hb0] at hp
    have hp := Option.some.inj hp
    subst hp
    simp (maxSteps := 2000000) (disch := first|omega|(simp only[ls];first|done|omega)) only [hb0, gx]

noncomputable def p_laws_eqEntry (x0 : TEntry) (x1 : TEntry) : Option Bool :=
  (p_laws_eqStamp x0.stamp x1.stamp).bind fun v0 =>
  if (v0) = true then
    if (decide (x0.text = x1.text)) = true then
      some true
    else
      some false
  else
    some false
def c_laws_eqEntry (f_laws_eqStamp : Nat) : AFn := ⟨16, (.seq (.ops [(qS 2 (.box (.tmp 0))), (qS 3 (.box (.tmp 1))), (qS 4 (.mv (.const (.bool false))))]) (.seq (.seq (.ops [(qS 5 (.fieldA 0 (.tmp 2))), (qS 6 (.load 2 true (.tmp 5))), (qS 7 (.fieldA 0 (.tmp 3))), (qS 8 (.load 2 true (.tmp 7))), (qS 9 (.call (2 * f_laws_eqStamp) [(.tmp 6), (.tmp 8)])), (qS 10 (.pu (.n (.un .not)) [(.tmp 9)]))]) (.cond (.tmp 10) (.seq (.ops [(qS 4 (.mv (.const (.bool false))))]) .ret) .skip)) (.seq (.seq (.ops [(qS 11 (.fieldA 2 (.tmp 2))), (qS 12 (.load 1 false (.tmp 11))), (qS 13 (.fieldA 2 (.tmp 3))), (qS 14 (.load 1 false (.tmp 13))), (qS 15 (.pu (.n (.ar .neq)) [(.tmp 12), (.tmp 14)]))]) (.cond (.tmp 15) (.seq (.ops [(qS 4 (.mv (.const (.bool false))))]) .ret) .skip)) (.seq (.ops [(qS 4 (.mv (.const (.bool true))))]) .ret)))), [(.tmp 4)]⟩
set_option maxHeartbeats 10000000 in
theorem d_laws_eqEntry {P : Program} {env : Env} {f_laws_eqStamp : Nat}  (ep_laws_eqStamp : env (2 * f_laws_eqStamp) = pureFn true (FA fun a : TStamp × TStamp => p_laws_eqStamp a.1 a.2)) (x0 : TEntry) (x1 : TEntry) {b : Bool} (hp : p_laws_eqEntry x0 x1 = some b) : R P env (c_laws_eqEntry f_laws_eqStamp) ((encA (x0, x1)).map ofI) [] (Tells true b) := by
  refine R_of (by simp [c_laws_eqEntry, encA]) ?_
  have E := ep_laws_eqStamp
  unfold c_laws_eqEntry
  unfold p_laws_eqEntry at hp
  obtain ⟨v0, hv0, hp⟩ := bind_eq hp
  by_cases hb1 : (v0) = true
  · rw [if_t hb1] at hp
    by_cases hb2 : (decide (x0.text = x1.text)) = true
    · rw [if_t hb2] at hp
      have hp := Option.some.inj hp
      subst hp
      simp (maxSteps := 2000000) (disch := first|omega|(simp only[ls];first|done|omega)) only [E, hv0, hb1, hb2, gx]
    · replace hb2 := eq_false_of_ne_true hb2
      rw [if_f hb2] at hp
      have hp := Option.some.inj hp
      subst hp
      simp (maxSteps := 2000000) (disch := first|omega|(simp only[ls];first|done|omega)) only [E, hv0, hb1, hb2, gx]
  · replace hb1 := eq_false_of_ne_true hb1
    rw [if_f hb1] at hp
    have hp := Option.some.inj hp
    subst hp
    simp (maxSteps := 2000000) (disch := first|omega|(simp only[ls];first|done|omega)) only [E, hv0, hb1, gx]

noncomputable def p_laws_eqEntryS_l0 (x0 : List TEntry) (x1 : List TEntry) : Int → Option (Lp (Int) Bool)
  | s1 =>
    if (decide (s1 < (x0.length : Int))) = true then
      (get? x0 s1).bind fun v3 =>
      (get? x1 s1).bind fun v4 =>
      (p_laws_eqEntry v3 v4).bind fun v5 =>
      if (v5) = true then
        some (.go (w64 (s1 + 1)))
      else
        some (.ret false)
    else
      some (.out s1)
noncomputable def p_laws_eqEntryS (x0 : List TEntry) (x1 : List TEntry) : Option Bool :=
  if (decide ((x0.length : Int) = (x1.length : Int))) = true then
    (loopP (p_laws_eqEntryS_l0 x0 x1) 0).bind fun ee0 => match ee0 with
    | .ret r => some r
    | .out o7 =>
      some true
  else
    some false
def c_laws_eqEntryS (f_laws_eqEntry : Nat) : AFn := ⟨27, (.seq (.ops [(qS 4 (.mv (.const (.bool false))))]) (.seq (.seq (.ops [(qS 6 (.mv (.tmp 0))), (qS 7 (.len (.tmp 6))), (qS 8 (.mv (.tmp 1))), (qS 9 (.len (.tmp 8))), (qS 10 (.pu (.n (.ar .neq)) [(.tmp 7), (.tmp 9)]))]) (.cond (.tmp 10) (.seq (.ops [(qS 4 (.mv (.const (.bool false))))]) .ret) .skip)) (.seq (.seq (.ops [(qS 5 (.mv (ic 0)))]) (.block 0 (.loop (.seq (.seq (.ops [(qS 11 (.mv (.tmp 5))), (qS 12 (.mv (.tmp 0))), (qS 13 (.len (.tmp 12))), (qS 14 (.pu (.n (.ar .lss)) [(.tmp 11), (.tmp 13)]))]) (.cond (.tmp 14) .skip (.exit 0))) (.seq (.block 1 (.seq (.ops [(qS 17 (.mv (.tmp 0))), (qS 18 (.mv (.tmp 5))), (qS 19 (.idxS 3 (.tmp 17) (.tmp 18))), (qS 20 (.load 3 true (.tmp 19))), (qS 21 (.mv (.tmp 1))), (qS 22 (.mv (.tmp 5))), (qS 23 (.idxS 3 (.tmp 21) (.tmp 22))), (qS 24 (.load 3 true (.tmp 23))), (qS 25 (.call (2 * f_laws_eqEntry) [(.tmp 20), (.tmp 24)])), (qS 26 (.pu (.n (.un .not)) [(.tmp 25)]))]) (.cond (.tmp 26) (.seq (.ops [(qS 4 (.mv (.const (.bool false))))]) .ret) .skip))) (.ops [(qS 15 (.mv (.tmp 5))), (qS 16 (.pu (.n (.ar .add)) [(.tmp 15), (ic 1)])), (qS 5 (.mv (.tmp 16)))])))))) (.seq (.ops [(qS 4 (.mv (.const (.bool true))))]) .ret)))), [(.tmp 4)]⟩
set_option maxHeartbeats 10000000 in
theorem d_laws_eqEntryS {P : Program} {env : Env} {f_laws_eqEntry : Nat}  (ep_laws_eqEntry : env (2 * f_laws_eqEntry) = pureFn true (FA fun a : TEntry × TEntry => p_laws_eqEntry a.1 a.2)) (x0 : List TEntry) (x1 : List TEntry) {b : Bool} (hp : p_laws_eqEntryS x0 x1 = some b) : R P env (c_laws_eqEntryS f_laws_eqEntry) ((encA (x0, x1)).map ofI) [] (Tells true b) := by
  refine R_of (by simp [c_laws_eqEntryS, encA]) ?_
  have E := ep_laws_eqEntry
  unfold c_laws_eqEntryS
  unfold p_laws_eqEntryS at hp
  by_cases hb0 : (decide ((x0.length : Int) = (x1.length : Int))) = true
  · rw [if_t hb0] at hp
    obtain ⟨ee0, hee0, hp⟩ := bind_eq hp
    simp (maxSteps := 2000000) (disch := first|omega|(simp only[ls];first|done|omega)) only [E, hb0, gx]
    refine W_loopP 0 (fun s t h => match s with | s1 => t 0 = .i (.sl 3 (x0.map enc)) ∧ t 1 = .i (.sl 3 (x1.map enc)) ∧ t 5 = .i (.s (.int .i64 s1))) (RK [.tmp 4] (Tells true)) ?_ hee0 ?_ ?_
    · rintro s1 ee tt0 hh0 ⟨ftt0_0, ftt0_1, ftt0_2⟩ hp
      rw [p_laws_eqEntryS_l0] at hp
      by_cases hb2 : (decide (s1 < (x0.length : Int))) = true
      · rw [if_t hb2] at hp
        obtain ⟨v3, hv3, hp⟩ := bind_eq hp
        obtain ⟨v4, hv4, hp⟩ := bind_eq hp
        obtain ⟨v5, hv5, hp⟩ := bind_eq hp
        by_cases hb6 : (v5) = true
        · rw [if_t hb6] at hp
          have hp := Option.some.inj hp
          subst hp
          simp (maxSteps := 2000000) (disch := first|omega|(simp only[ls];first|done|omega)) only [E, hb0, ftt0_0, ftt0_1, ftt0_2, hb2, hv3, hv4, hv5, hb6, gx] <;> omega
        · replace hb6 := eq_false_of_ne_true hb6
          rw [if_f hb6] at hp
          have hp := Option.some.inj hp
          subst hp
          simp (maxSteps := 2000000) (disch := first|omega|(simp only[ls];first|done|omega)) only [E, hb0, ftt0_0, ftt0_1, ftt0_2, hb2, hv3, hv4, hv5, hb6, gx]
      · replace hb2 := eq_false_of_ne_true hb2
        rw [if_f hb2] at hp
        have hp := Option.some.inj hp
        subst hp
        simp (maxSteps := 2000000) (disch := first|omega|(simp only[ls];first|done|omega)) only [E, hb0, ftt0_0, ftt0_1, ftt0_2, hb2, gx] <;> omega
    · simp (maxSteps := 2000000) (disch := first|omega|(simp only[ls];first|done|omega)) only [E, hb0, gx] <;> omega
    · intro x tt1 hh1 hx
      rcases ee0 with o7 | r
      · obtain ⟨rfl, ftt1_0, ftt1_1, ftt1_2⟩ := hx
        dsimp only at hp
        have hp := Option.some.inj hp
        subst hp
        simp (maxSteps := 2000000) (disch := first|omega|(simp only[ls];first|done|omega)) only [E, hb0, ftt1_0, ftt1_1, ftt1_2, gx]
      · obtain ⟨rfl, hx⟩ := hx
        dsimp only at hp
        cases hp
        simp only [seqK_ret, blockK_ret, retK_RK (K := Tells true), hx, and_self, true_and]
  · replace hb0 := eq_false_of_ne_true hb0
    rw [if_f hb0] at hp
    have hp := Option.some.inj hp
    subst hp
    simp (maxSteps := 2000000) (disch := first|omega|(simp only[ls];first|done|omega)) only [E, hb0, gx]

noncomputable def p_laws_eqSet (x0 : TMulti) (x1 : TMulti) : Option Bool :=
  (p_laws_eqVector x0.seen x1.seen).bind fun v0 =>
  if (v0) = true then
    (p_laws_eqEntryS x0.entries x1.entries).bind fun v2 =>
    if (v2) = true then
      some true
    else
      some false
  else
    some false
def c_laws_eqSet (f_laws_eqVector : Nat) (f_laws_eqEntryS : Nat) : AFn := ⟨17, (.seq (.ops [(qS 2 (.box (.tmp 0))), (qS 3 (.box (.tmp 1))), (qS 4 (.mv (.const (.bool false))))]) (.seq (.seq (.ops [(qS 5 (.fieldA 0 (.tmp 2))), (qS 6 (.load 1 true (.tmp 5))), (qS 7 (.fieldA 0 (.tmp 3))), (qS 8 (.load 1 true (.tmp 7))), (qS 9 (.call (2 * f_laws_eqVector) [(.tmp 6), (.tmp 8)])), (qS 10 (.pu (.n (.un .not)) [(.tmp 9)]))]) (.cond (.tmp 10) (.seq (.ops [(qS 4 (.mv (.const (.bool false))))]) .ret) .skip)) (.seq (.seq (.ops [(qS 11 (.fieldA 1 (.tmp 2))), (qS 12 (.load 1 false (.tmp 11))), (qS 13 (.fieldA 1 (.tmp 3))), (qS 14 (.load 1 false (.tmp 13))), (qS 15 (.call (2 * f_laws_eqEntryS) [(.tmp 12), (.tmp 14)])), (qS 16 (.pu (.n (.un .not)) [(.tmp 15)]))]) (.cond (.tmp 16) (.seq (.ops [(qS 4 (.mv (.const (.bool false))))]) .ret) .skip)) (.seq (.ops [(qS 4 (.mv (.const (.bool true))))]) .ret)))), [(.tmp 4)]⟩
set_option maxHeartbeats 10000000 in
theorem d_laws_eqSet {P : Program} {env : Env} {f_laws_eqVector : Nat} {f_laws_eqEntryS : Nat}  (ep_laws_eqVector : env (2 * f_laws_eqVector) = pureFn true (FA fun a : TVec × TVec => p_laws_eqVector a.1 a.2)) (ep_laws_eqEntryS : env (2 * f_laws_eqEntryS) = pureFn true (FA fun a : List TEntry × List TEntry => p_laws_eqEntryS a.1 a.2)) (x0 : TMulti) (x1 : TMulti) {b : Bool} (hp : p_laws_eqSet x0 x1 = some b) : R P env (c_laws_eqSet f_laws_eqVector f_laws_eqEntryS) ((encA (x0, x1)).map ofI) [] (Tells true b) := by
  refine R_of (by simp [c_laws_eqSet, encA]) ?_
  have E := And.intro ep_laws_eqVector ep_laws_eqEntryS
  unfold c_laws_eqSet
  unfold p_laws_eqSet at hp
  obtain ⟨v0, hv0, hp⟩ := bind_eq hp
  by_cases hb1 : (v0) = true
  · rw [if_t hb1] at hp
    obtain ⟨v2, hv2, hp⟩ := bind_eq hp
    by_cases hb3 : (v2) = true
    · rw [if_t hb3] at hp
      have hp := Option.some.inj hp
      subst hp
      simp (maxSteps := 2000000) (disch := first|omega|(simp only[ls];first|done|omega)) only [E, hv0, hb1, hv2, hb3, gx]
    · replace hb3 := eq_false_of_ne_true hb3
      rw [if_f hb3] at hp
      have hp := Option.some.inj hp
      subst hp
      simp (maxSteps := 2000000) (disch := first|omega|(simp only[ls];first|done|omega)) only [E, hv0, hb1, hv2, hb3, gx]
  · replace hb1 := eq_false_of_ne_true hb1
    rw [if_f hb1] at hp
    have hp := Option.some.inj hp
    subst hp
    simp (maxSteps := 2000000) (disch := first|omega|(simp only[ls];first|done|omega)) only [E, hv0, hb1, gx]

noncomputable def p_laws_markIntS_l0 : List Int × Int × Int → Option (Lp (List Int × Int × Int) (T2 Int (List Int)))
  | (s0, s1, s2) =>
    if (decide (s2 < (s0.length : Int))) = true then
      (get? s0 s2).bind fun v5 =>
      some (.go ((s0.set s2.toNat s1), w64 (s1 + 1), w64 (s2 + 1)))
    else
      some (.out (s0, s1, s2))
noncomputable def p_laws_markIntS (x0 : List Int) (x1 : Int) : Option (T2 Int (List Int)) :=
  (loopP (p_laws_markIntS_l0) (x0, x1, 0)).bind fun ee0 => match ee0 with
  | .ret r => some r
  | .out (o7, o8, o9) =>
    some ⟨o8, o7⟩
def c_laws_markIntS : AFn := ⟨19, (.seq (.ops [(qS 4 (.mv (ic 0)))]) (.seq (.seq (.ops [(qS 5 (.mv (ic 0)))]) (.block 0 (.loop (.seq (.seq (.ops [(qS 6 (.mv (.tmp 5))), (qS 7 (.mv (.tmp 0))), (qS 8 (.len (.tmp 7))), (qS 9 (.pu (.n (.ar .lss)) [(.tmp 6), (.tmp 8)]))]) (.cond (.tmp 9) .skip (.exit 0))) (.seq (.block 1 (.seq (.ops [(qS 12 (.mv (.tmp 0))), (qS 13 (.mv (.tmp 5))), (qS 14 (.mv (.tmp 1))), (qS 15 (.idxS 1 (.tmp 12) (.tmp 13))), ⟨.none, (.storeV [(0, false)] 1 (.tmp 15) (.tmp 14)), .none, []⟩]) (.ops [(qS 16 (.mv (.tmp 1))), (qS 17 (.pu (.n (.ar .add)) [(.tmp 16), (ic 1)])), (qS 1 (.mv (.tmp 17)))]))) (.ops [(qS 10 (.mv (.tmp 5))), (qS 11 (.pu (.n (.ar .add)) [(.tmp 10), (ic 1)])), (qS 5 (.mv (.tmp 11)))])))))) (.seq (.ops [(qS 18 (.mv (.tmp 1))), (qS 4 (.mv (.tmp 18)))]) .ret))), [(.tmp 4)]⟩
def i_laws_markIntS (pb0 pn0 : Nat) (h : Heap) (b : T2 Int (List Int)) (v : V) (h2 : Heap) : Prop := Keep [pb0] h h2 ∧ v = .i (.s (.int .i64 b.a)) ∧ getCells h2 pb0 pn0 = some (rows b.b)
def k_laws_markIntS (F : Fun) : Prop := ∀ (x0 : List Int) (x1 : Int) (b : T2 Int (List Int)), p_laws_markIntS x0 x1 = some b → ∀ (pb0 pn0 : Nat) (h : Heap), pn0 = (x0).length → getCells h pb0 pn0 = some (rows x0) → ∃ p, F none [.hsl pb0 pn0 0 1 false pn0, .i (.s (.int .i64 x1))] h = some p ∧ i_laws_markIntS pb0 pn0 h b p.1 p.2
set_option maxHeartbeats 10000000 in
theorem w_laws_markIntS {P : Program} {env : Env}  (x0 : List Int) (x1 : Int) {b : T2 Int (List Int)} (hp : p_laws_markIntS x0 x1 = some b) (pb0 pn0 : Nat) (hh : Heap) (pm0 : pn0 = (x0).length) (pf0 : getCells hh pb0 pn0 = some (rows x0)) : R P env (c_laws_markIntS) [.hsl pb0 pn0 0 1 false pn0, .i (.s (.int .i64 x1))] hh (i_laws_markIntS pb0 pn0 hh b) := by
  have pl0 := gc_lt pf0
  have pg0 : getCells hh pb0 x0.length = some (rows x0) := by rw [← pm0]; exact pf0
  refine R_of (by simp [c_laws_markIntS, encA]) ?_
  unfold c_laws_markIntS
  unfold p_laws_markIntS at hp
  obtain ⟨ee0, hee0, hp⟩ := bind_eq hp
  simp (maxSteps := 2000000) (disch := first|omega|(simp only[ls];first|done|omega)) only [pf0, pg0, gx]
  refine W_loopP 0 (fun s t h => match s with | (s0, s1, s2) => t 0 = .hsl pb0 pn0 0 1 false pn0 ∧ t 1 = .i (.s (.int .i64 s1)) ∧ t 5 = .i (.s (.int .i64 s2)) ∧ getCells h pb0 pn0 = some (rows (s0 : List Int)) ∧ pb0 < h.length ∧ Keep [pb0] hh h) (RK [.tmp 4] (i_laws_markIntS pb0 pn0 hh)) ?_ hee0 ?_ ?_
  · rintro ⟨s0, s1, s2⟩ ee tt0 hh0 ⟨ftt0_0, ftt0_1, ftt0_2, ftt0_3, ftt0_4, ftt0_5⟩ hp
    have ztt0_3 := len_rows ftt0_3
    simp only [zs] at ztt0_3
    rw [p_laws_markIntS_l0] at hp
    have hz3 : ((pn0 : Nat) : Int) = (s0.length : Int) := by omega
    by_cases hb4 : (decide (s2 < (s0.length : Int))) = true
    · rw [if_t hb4] at hp
      obtain ⟨v5, hv5, hp⟩ := bind_eq hp
      have gv5 := get_some hv5
      have hs6 : List.take s2.toNat (rows s0) ++ .i (.s (.int .i64 s1)) :: List.drop (s2.toNat + 1) (rows s0) = rows (s0.set s2.toNat s1) := by simpa [splice, zs, cellsV, I.cells, enc_int] using rows_set_off (y := s1) (ys := [.i (.s (.int .i64 s1))]) (k := 0) gv5.2.2 (Nat.le_of_ble_eq_true rfl) (by rfl)
      have hp := Option.some.inj hp
      subst hp
      simp (maxSteps := 2000000) (disch := first|omega|(simp only[ls];first|done|omega)) only [i_laws_markIntS, pf0, pg0, ftt0_0, ftt0_1, ftt0_2, ftt0_3, ftt0_4, ftt0_5, hz3, hb4, hv5, (gv5).1, (gv5).2.1, hs6, gx] <;> (repeat (first | omega | assumption | rfl | exact keep_refl | refine keep_app ?_ | (refine keep_set (by first | (left; simp; done) | (right; simp; omega)) ?_) | refine And.intro ?_ ?_))
    · replace hb4 := eq_false_of_ne_true hb4
      rw [if_f hb4] at hp
      have hp := Option.some.inj hp
      subst hp
      simp (maxSteps := 2000000) (disch := first|omega|(simp only[ls];first|done|omega)) only [i_laws_markIntS, pf0, pg0, ftt0_0, ftt0_1, ftt0_2, ftt0_3, ftt0_4, ftt0_5, hz3, hb4, gx] <;> (repeat (first | omega | assumption | rfl | exact keep_refl | refine keep_app ?_ | (refine keep_set (by first | (left; simp; done) | (right; simp; omega)) ?_) | refine And.intro ?_ ?_))
  · simp (maxSteps := 2000000) (disch := first|omega|(simp only[ls];first|done|omega)) only [i_laws_markIntS, pf0, pg0, gx] <;> (repeat (first | omega | assumption | rfl | exact keep_refl | refine keep_app ?_ | (refine keep_set (by first | (left; simp; done) | (right; simp; omega)) ?_) | refine And.intro ?_ ?_))
  · intro x tt1 hh1 hx
    rcases ee0 with ⟨o7, o8, o9⟩ | r
    · obtain ⟨rfl, ftt1_0, ftt1_1, ftt1_2, ftt1_3, ftt1_4, ftt1_5⟩ := hx
      have ztt1_3 := len_rows ftt1_3
      simp only [zs] at ztt1_3
      dsimp only at hp
      have hp := Option.some.inj hp
      subst hp
      simp (maxSteps := 2000000) (disch := first|omega|(simp only[ls];first|done|omega)) only [i_laws_markIntS, pf0, pg0, ftt1_0, ftt1_1, ftt1_2, ftt1_3, ftt1_4, ftt1_5, gx] <;> (repeat (first | omega | assumption | rfl | exact keep_refl | refine keep_app ?_ | (refine keep_set (by first | (left; simp; done) | (right; simp; omega)) ?_) | refine And.intro ?_ ?_))
    · obtain ⟨rfl, hx⟩ := hx
      dsimp only at hp
      cases hp
      simp only [seqK_ret, blockK_ret, retK_RK (K := i_laws_markIntS pb0 pn0 hh), hx, and_self, true_and]
theorem ko_laws_markIntS {P : Program} {env : Env}  : k_laws_markIntS (runIn P env (c_laws_markIntS)) := by
  intro x0 x1 b hp pb0 pn0 h a0 a1
  exact w_laws_markIntS x0 x1 hp pb0 pn0 h a0 a1

noncomputable def p_laws_markVector (x0 : TVec) (x1 : Int) : Option (T2 Int TVec) :=
  (p_laws_markIntS x0.counts x1).bind fun v0 =>
  some ⟨v0.a, (TVec.mk v0.b)⟩
def c_laws_markVector (f_laws_markIntS : Nat) : AFn := ⟨10, (.seq (.ops [(qS 2 (.box (.tmp 0))), (qS 4 (.mv (ic 0)))]) (.seq (.ops [(qS 5 (.fieldA 0 (.tmp 2))), (qS 6 (.load 1 false (.tmp 5))), (qS 7 (.mv (.tmp 1))), (qS 8 (.call (2 * f_laws_markIntS + 1) [(.tmp 6), (.tmp 7)])), (qS 1 (.mv (.tmp 8)))]) (.seq (.ops [(qS 9 (.mv (.tmp 1))), (qS 4 (.mv (.tmp 9)))]) .ret))), [(.tmp 4)]⟩
def i_laws_markVector (pb0 pn0 : Nat) (h : Heap) (b : T2 Int TVec) (v : V) (h2 : Heap) : Prop := Keep [pb0] h h2 ∧ v = .i (.s (.int .i64 b.a)) ∧ getCells h2 pb0 pn0 = some (rows b.b.counts)
def k_laws_markVector (F : Fun) : Prop := ∀ (x0 : TVec) (x1 : Int) (b : T2 Int TVec), p_laws_markVector x0 x1 = some b → ∀ (pb0 pn0 : Nat) (h : Heap), pn0 = (x0.counts).length → getCells h pb0 pn0 = some (rows x0.counts) → ∃ p, F none [.agg [.hsl pb0 pn0 0 1 false pn0], .i (.s (.int .i64 x1))] h = some p ∧ i_laws_markVector pb0 pn0 h b p.1 p.2
set_option maxHeartbeats 10000000 in
theorem w_laws_markVector {P : Program} {env : Env} {f_laws_markIntS : Nat}  (e_laws_markIntS : k_laws_markIntS (env (2 * f_laws_markIntS + 1))) (x0 : TVec) (x1 : Int) {b : T2 Int TVec} (hp : p_laws_markVector x0 x1 = some b) (pb0 pn0 : Nat) (hh : Heap) (pm0 : pn0 = (x0.counts).length) (pf0 : getCells hh pb0 pn0 = some (rows x0.counts)) : R P env (c_laws_markVector f_laws_markIntS) [.agg [.hsl pb0 pn0 0 1 false pn0], .i (.s (.int .i64 x1))] hh (i_laws_markVector pb0 pn0 hh b) := by
  have pl0 := gc_lt pf0
  have pg0 : getCells hh pb0 x0.counts.length = some (rows x0.counts) := by rw [← pm0]; exact pf0
  refine R_of (by simp [c_laws_markVector, encA]) ?_
  unfold c_laws_markVector
  unfold p_laws_markVector at hp
  obtain ⟨v0, hv0, hp⟩ := bind_eq hp
  simp (maxSteps := 2000000) (disch := first|omega|(simp only[ls];first|done|omega)) only [pf0, pg0, gx]
  refine call_f (fun h => getCells h pb0 pn0 = some (rows (x0.counts : List Int)) ∧ pb0 < h.length ∧ getCells h hh.length 1 = some [.hsl pb0 pn0 0 1 false pn0] ∧ hh.length < h.length ∧ Keep [pb0] hh h) (fun h v h2 => i_laws_markIntS pb0 pn0 h v0 v h2) ?_ ?_ ?_
  · simp (maxSteps := 2000000) (disch := first|omega|(simp only[ls];first|done|omega)) only [i_laws_markVector, pf0, pg0, hv0, gx] <;> (repeat (first | omega | assumption | rfl | exact keep_refl | refine keep_app ?_ | (refine keep_set (by first | (left; simp; done) | (right; simp; omega)) ?_) | refine And.intro ?_ ?_))
  · rintro h ⟨c0_0, c0_1, c0_2, c0_3, c0_4⟩
    exact e_laws_markIntS _ _ _ hv0 pb0 pn0 h (by first | omega | rfl) c0_0
  · rintro hc0 v hh0 ⟨c0_0, c0_1, c0_2, c0_3, c0_4⟩ hpost
    obtain ⟨kk0, rfl, w0_0⟩ := hpost
    have d0_0 : getCells hh0 pb0 pn0 = some (rows (v0.b : List Int)) := w0_0
    have mm0_0 := len_rows w0_0
    simp only [zs] at mm0_0
    have d0_0l := keep_lt kk0 c0_1
    have d0_1 : getCells hh0 hh.length 1 = some [.hsl pb0 pn0 0 1 false pn0] := (keep_get kk0 c0_3 (by first | (simp; done) | (simp; omega))).trans c0_2
    have d0_1l := keep_lt kk0 c0_3
    have kp0 : Keep [pb0] hh hh0 := keep_trans c0_4 kk0 (by intro b hb; first | (simp at hb; done) | (simp at hb ⊢; omega))
    have hp := Option.some.inj hp
    subst hp
    simp (maxSteps := 2000000) (disch := first|omega|(simp only[ls];first|done|omega)) only [i_laws_markVector, pf0, pg0, hv0, d0_0, d0_1, gx] <;> (repeat (first | omega | assumption | rfl | exact keep_refl | refine keep_app ?_ | (refine keep_set (by first | (left; simp; done) | (right; simp; omega)) ?_) | refine And.intro ?_ ?_))
theorem ko_laws_markVector {P : Program} {env : Env} {f_laws_markIntS : Nat}  (e_laws_markIntS : k_laws_markIntS (env (2 * f_laws_markIntS + 1))) : k_laws_markVector (runIn P env (c_laws_markVector f_laws_markIntS)) := by
  intro x0 x1 b hp pb0 pn0 h a0 a1
  exact w_laws_markVector e_laws_markIntS x0 x1 hp pb0 pn0 h a0 a1

noncomputable def p_laws_markText_l0 : Int × ByteArray → Option (Lp (Int × ByteArray) ByteArray)
  | (s1, s2) =>
    if (decide (0 < s1)) = true then
      (cat? (strOfNums [(IntKind.wrap .u8 (w64 (48 + (Int.tmod s1 10))))]) s2).bind fun v4 =>
      some (.go (w64 (Int.tdiv s1 10), v4))
    else
      some (.out (s1, s2))
noncomputable def p_laws_markText (x0 : Int) : Option ByteArray :=
  if (decide (x0 ≤ 0)) = true then
    some (ByteArray.mk #[109, 48])
  else
    (loopP (p_laws_markText_l0) (x0, (ByteArray.mk #[]))).bind fun ee0 => match ee0 with
    | .ret r => some r
    | .out (o5, o6) =>
      (cat? (ByteArray.mk #[109]) o6).bind fun v7 =>
      some v7
def c_laws_markText : AFn := ⟨20, (.seq (.ops [(qS 2 (.mv (.const (.string ⟨#[]⟩))))]) (.seq (.seq (.ops [(qS 4 (.mv (.tmp 0))), (qS 5 (.pu (.n (.ar .leq)) [(.tmp 4), (ic 0)]))]) (.cond (.tmp 5) (.seq (.ops [(qS 2 (.mv (.const (.string ⟨#[109, 48]⟩))))]) .ret) .skip)) (.seq (.ops [(qS 3 (.mv (.const (.string ⟨#[]⟩))))]) (.seq (.block 0 (.loop (.seq (.seq (.ops [(qS 6 (.mv (.tmp 0))), (qS 7 (.pu (.n (.ar .gtr)) [(.tmp 6), (ic 0)]))]) (.cond (.tmp 7) .skip (.exit 0))) (.block 1 (.seq (.ops [(qS 8 (.mv (.tmp 0))), (qS 9 (.pu (.n (.ar .rem)) [(.tmp 8), (ic 10)])), (qS 10 (.pu (.n (.ar .add)) [(ic 48), (.tmp 9)])), (qS 11 (.pu (.n (.conv .u8)) [(.tmp 10)])), (qS 12 (.buildSl 1 false 1 [(.int .u8 0)] [(0, (.tmp 11))])), (qS 13 (.b2s (.tmp 12))), (qS 14 (.mv (.tmp 3))), (qS 15 (.pu (.n (.ar .add)) [(.tmp 13), (.tmp 14)])), (qS 3 (.mv (.tmp 15)))]) (.ops [(qS 16 (.mv (.tmp 0))), (qS 17 (.pu (.n (.ar .quo)) [(.tmp 16), (ic 10)])), (qS 0 (.mv (.tmp 17)))])))))) (.seq (.ops [(qS 18 (.mv (.tmp 3))), (qS 19 (.pu (.n (.ar .add)) [(.const (.string ⟨#[109]⟩)), (.tmp 18)])), (qS 2 (.mv (.tmp 19)))]) .ret))))), [(.tmp 2)]⟩
set_option maxHeartbeats 10000000 in
theorem d_laws_markText {P : Program} {env : Env}  (x0 : Int) {b : ByteArray} (hp : p_laws_markText x0 = some b) : R P env (c_laws_markText) ((encA (x0)).map ofI) [] (Tells true b) := by
  refine R_of (by simp [c_laws_markText, encA]) ?_
  unfold c_laws_markText
  unfold p_laws_markText at hp
  by_cases hb0 : (decide (x0 ≤ 0)) = true
  · rw [if_t hb0] at hp
    have hp := Option.some.inj hp
    subst hp
    simp (maxSteps := 2000000) (disch := first|omega|(simp only[ls];first|done|omega)) only [hb0, gx]
  · replace hb0 := eq_false_of_ne_true hb0
    rw [if_f hb0] at hp
    obtain ⟨ee0, hee0, hp⟩ := bind_eq hp
    simp (maxSteps := 2000000) (disch := first|omega|(simp only[ls];first|done|omega)) only [hb0, gx]
    refine W_loopP 0 (fun s t h => match s with | (s1, s2) => t 0 = .i (.s (.int .i64 s1)) ∧ t 3 = .i (.s (.string s2))) (RK [.tmp 2] (Tells true)) ?_ hee0 ?_ ?_
    · rintro ⟨s1, s2⟩ ee tt0 hh0 ⟨ftt0_0, ftt0_1⟩ hp
      rw [p_laws_markText_l0] at hp
      by_cases hb3 : (decide (0 < s1)) = true
      · rw [if_t hb3] at hp
        obtain ⟨v4, hv4, hp⟩ := bind_eq hp
        have hp := Option.some.inj hp
        subst hp
        simp (maxSteps := 2000000) (disch := first|omega|(simp only[ls];first|done|omega)) only [hb0, ftt0_0, ftt0_1, hb3, hv4, gx] <;> omega
      · replace hb3 := eq_false_of_ne_true hb3
        rw [if_f hb3] at hp
        have hp := Option.some.inj hp
        subst hp
        simp (maxSteps := 2000000) (disch := first|omega|(simp only[ls];first|done|omega)) only [hb0, ftt0_0, ftt0_1, hb3, gx] <;> omega
    · simp (maxSteps := 2000000) (disch := first|omega|(simp only[ls];first|done|omega)) only [hb0, gx] <;> omega
    · intro x tt1 hh1 hx
      rcases ee0 with ⟨o5, o6⟩ | r
      · obtain ⟨rfl, ftt1_0, ftt1_1⟩ := hx
        dsimp only at hp
        obtain ⟨v7, hv7, hp⟩ := bind_eq hp
        have hp := Option.some.inj hp
        subst hp
        simp (maxSteps := 2000000) (disch := first|omega|(simp only[ls];first|done|omega)) only [hb0, ftt1_0, ftt1_1, hv7, gx]
      · obtain ⟨rfl, hx⟩ := hx
        dsimp only at hp
        cases hp
        simp only [seqK_ret, blockK_ret, retK_RK (K := Tells true), hx, and_self, true_and]

noncomputable def p_laws_markEntryS_l0 : List TEntry × Int × Int → Option (Lp (List TEntry × Int × Int) (T2 Int (List TEntry)))
  | (s0, s1, s2) =>
    if (decide (s2 < (s0.length : Int))) = true then
      (get? s0 s2).bind fun v5 =>
      (get? (s0.set s2.toNat (TEntry.mk (TStamp.mk s1 v5.stamp.actor) v5.text)) s2).bind fun v7 =>
      (p_laws_markText (w64 ((w64 (s1 + 1)) + 1))).bind fun v9 =>
      (get? ((s0.set s2.toNat (TEntry.mk (TStamp.mk s1 v5.stamp.actor) v5.text)).set s2.toNat (TEntry.mk (TStamp.mk v7.stamp.time (w64 (s1 + 1))) v7.text)) s2).bind fun v10 =>
      some (.go ((((s0.set s2.toNat (TEntry.mk (TStamp.mk s1 v5.stamp.actor) v5.text)).set s2.toNat (TEntry.mk (TStamp.mk v7.stamp.time (w64 (s1 + 1))) v7.text)).set s2.toNat (TEntry.mk v10.stamp v9)), w64 ((w64 ((w64 (s1 + 1)) + 1)) + 1), w64 (s2 + 1)))
    else
      some (.out (s0, s1, s2))
noncomputable def p_laws_markEntryS (x0 : List TEntry) (x1 : Int) : Option (T2 Int (List TEntry)) :=
  (loopP (p_laws_markEntryS_l0) (x0, x1, 0)).bind fun ee0 => match ee0 with
  | .ret r => some r
  | .out (o12, o13, o14) =>
    some ⟨o13, o12⟩
def c_laws_markEntryS (f_laws_markText : Nat) : AFn := ⟨37, (.seq (.ops [(qS 4 (.mv (ic 0)))]) (.seq (.seq (.ops [(qS 5 (.mv (ic 0)))]) (.block 0 (.loop (.seq (.seq (.ops [(qS 6 (.mv (.tmp 5))), (qS 7 (.mv (.tmp 0))), (qS 8 (.len (.tmp 7))), (qS 9 (.pu (.n (.ar .lss)) [(.tmp 6), (.tmp 8)]))]) (.cond (.tmp 9) .skip (.exit 0))) (.seq (.block 1 (.seq (.ops [(qS 12 (.mv (.tmp 0))), (qS 13 (.mv (.tmp 5))), (qS 14 (.mv (.tmp 1))), (qS 15 (.idxS 3 (.tmp 12) (.tmp 13))), (qS 16 (.fieldA 0 (.tmp 15))), (qS 17 (.fieldA 0 (.tmp 16))), ⟨.none, (.storeV [(0, false)] 1 (.tmp 17) (.tmp 14)), .none, []⟩]) (.seq (.ops [(qS 18 (.mv (.tmp 1))), (qS 19 (.pu (.n (.ar .add)) [(.tmp 18), (ic 1)])), (qS 1 (.mv (.tmp 19)))]) (.seq (.ops [(qS 20 (.mv (.tmp 0))), (qS 21 (.mv (.tmp 5))), (qS 22 (.mv (.tmp 1))), (qS 23 (.idxS 3 (.tmp 20) (.tmp 21))), (qS 24 (.fieldA 0 (.tmp 23))), (qS 25 (.fieldA 1 (.tmp 24))), ⟨.none, (.storeV [(0, false)] 1 (.tmp 25) (.tmp 22)), .none, []⟩]) (.seq (.ops [(qS 26 (.mv (.tmp 1))), (qS 27 (.pu (.n (.ar .add)) [(.tmp 26), (ic 1)])), (qS 1 (.mv (.tmp 27)))]) (.seq (.ops [(qS 28 (.mv (.tmp 0))), (qS 29 (.mv (.tmp 5))), (qS 30 (.mv (.tmp 1))), (qS 31 (.call (2 * f_laws_markText) [(.tmp 30)])), (qS 32 (.idxS 3 (.tmp 28) (.tmp 29))), (qS 33 (.fieldA 2 (.tmp 32))), ⟨.none, (.storeV [(0, false)] 1 (.tmp 33) (.tmp 31)), .none, []⟩]) (.ops [(qS 34 (.mv (.tmp 1))), (qS 35 (.pu (.n (.ar .add)) [(.tmp 34), (ic 1)])), (qS 1 (.mv (.tmp 35)))]))))))) (.ops [(qS 10 (.mv (.tmp 5))), (qS 11 (.pu (.n (.ar .add)) [(.tmp 10), (ic 1)])), (qS 5 (.mv (.tmp 11)))])))))) (.seq (.ops [(qS 36 (.mv (.tmp 1))), (qS 4 (.mv (.tmp 36)))]) .ret))), [(.tmp 4)]⟩
def i_laws_markEntryS (pb0 pn0 : Nat) (h : Heap) (b : T2 Int (List TEntry)) (v : V) (h2 : Heap) : Prop := Keep [pb0] h h2 ∧ v = .i (.s (.int .i64 b.a)) ∧ getCells h2 pb0 (pn0 * 3) = some (rows b.b)
def k_laws_markEntryS (F : Fun) : Prop := ∀ (x0 : List TEntry) (x1 : Int) (b : T2 Int (List TEntry)), p_laws_markEntryS x0 x1 = some b → ∀ (pb0 pn0 : Nat) (h : Heap), pn0 = (x0).length → getCells h pb0 (pn0 * 3) = some (rows x0) → ∃ p, F none [.hsl pb0 (pn0 * 3) 0 3 true pn0, .i (.s (.int .i64 x1))] h = some p ∧ i_laws_markEntryS pb0 pn0 h b p.1 p.2
set_option maxHeartbeats 10000000 in
theorem w_laws_markEntryS {P : Program} {env : Env} {f_laws_markText : Nat}  (ep_laws_markText : env (2 * f_laws_markText) = pureFn true (FA fun a : Int => p_laws_markText a)) (x0 : List TEntry) (x1 : Int) {b : T2 Int (List TEntry)} (hp : p_laws_markEntryS x0 x1 = some b) (pb0 pn0 : Nat) (hh : Heap) (pm0 : pn0 = (x0).length) (pf0 : getCells hh pb0 (pn0 * 3) = some (rows x0)) : R P env (c_laws_markEntryS f_laws_markText) [.hsl pb0 (pn0 * 3) 0 3 true pn0, .i (.s (.int .i64 x1))] hh (i_laws_markEntryS pb0 pn0 hh b) := by
  have pl0 := gc_lt pf0
  have pg0 : getCells hh pb0 (x0.length * 3) = some (rows x0) := by rw [← pm0]; exact pf0
  refine R_of (by simp [c_laws_markEntryS, encA]) ?_
  have E := ep_laws_markText
  unfold c_laws_markEntryS
  unfold p_laws_markEntryS at hp
  obtain ⟨ee0, hee0, hp⟩ := bind_eq hp
  simp (maxSteps := 2000000) (disch := first|omega|(simp only[ls];first|done|omega)) only [E, pf0, pg0, gx]
  refine W_loopP 0 (fun s t h => match s with | (s0, s1, s2) => t 0 = .hsl pb0 (pn0 * 3) 0 3 true pn0 ∧ t 1 = .i (.s (.int .i64 s1)) ∧ t 5 = .i (.s (.int .i64 s2)) ∧ getCells h pb0 (pn0 * 3) = some (rows (s0 : List TEntry)) ∧ pb0 < h.length ∧ Keep [pb0] hh h) (RK [.tmp 4] (i_laws_markEntryS pb0 pn0 hh)) ?_ hee0 ?_ ?_
  · rintro ⟨s0, s1, s2⟩ ee tt0 hh0 ⟨ftt0_0, ftt0_1, ftt0_2, ftt0_3, ftt0_4, ftt0_5⟩ hp
    have ztt0_3 := len_rows ftt0_3
    simp only [zs] at ztt0_3
    rw [p_laws_markEntryS_l0] at hp
    have hz3 : ((pn0 : Nat) : Int) = (s0.length : Int) := by omega
    by_cases hb4 : (decide (s2 < (s0.length : Int))) = true
    · rw [if_t hb4] at hp
      obtain ⟨v5, hv5, hp⟩ := bind_eq hp
      have gv5 := get_some hv5
      have hs6 : List.take (s2.toNat * 3) (rows s0) ++ .i (.s (.int .i64 s1)) :: List.drop (s2.toNat * 3 + 1) (rows s0) = rows (s0.set s2.toNat (TEntry.mk (TStamp.mk s1 v5.stamp.actor) v5.text)) := by simpa [splice, zs, cellsV, I.cells, enc_TEntry] using rows_set_off (y := (TEntry.mk (TStamp.mk s1 v5.stamp.actor) v5.text)) (ys := [.i (.s (.int .i64 s1))]) (k := 0) gv5.2.2 (Nat.le_of_ble_eq_true rfl) (by rfl)
      obtain ⟨v7, hv7, hp⟩ := bind_eq hp
      have gv7 := get_some hv7
      have hs8 : List.take (s2.toNat * 3 + 1) (rows (s0.set s2.toNat (TEntry.mk (TStamp.mk s1 v5.stamp.actor) v5.text))) ++ .i (.s (.int .i64 (w64 (s1 + 1)))) :: List.drop (s2.toNat * 3 + 1 + 1) (rows (s0.set s2.toNat (TEntry.mk (TStamp.mk s1 v5.stamp.actor) v5.text))) = rows ((s0.set s2.toNat (TEntry.mk (TStamp.mk s1 v5.stamp.actor) v5.text)).set s2.toNat (TEntry.mk (TStamp.mk v7.stamp.time (w64 (s1 + 1))) v7.text)) := by simpa [splice, zs, cellsV, I.cells, enc_TEntry] using rows_set_off (y := (TEntry.mk (TStamp.mk v7.stamp.time (w64 (s1 + 1))) v7.text)) (ys := [.i (.s (.int .i64 (w64 (s1 + 1))))]) (k := 1) gv7.2.2 (Nat.le_of_ble_eq_true rfl) (by rfl)
      obtain ⟨v9, hv9, hp⟩ := bind_eq hp
      obtain ⟨v10, hv10, hp⟩ := bind_eq hp
      have gv10 := get_some hv10
      have hs11 : List.take (s2.toNat * 3 + 2) (rows ((s0.set s2.toNat (TEntry.mk (TStamp.mk s1 v5.stamp.actor) v5.text)).set s2.toNat (TEntry.mk (TStamp.mk v7.stamp.time (w64 (s1 + 1))) v7.text))) ++ .i (.s (.string v9)) :: List.drop (s2.toNat * 3 + 2 + 1) (rows ((s0.set s2.toNat (TEntry.mk (TStamp.mk s1 v5.stamp.actor) v5.text)).set s2.toNat (TEntry.mk (TStamp.mk v7.stamp.time (w64 (s1 + 1))) v7.text))) = rows (((s0.set s2.toNat (TEntry.mk (TStamp.mk s1 v5.stamp.actor) v5.text)).set s2.toNat (TEntry.mk (TStamp.mk v7.stamp.time (w64 (s1 + 1))) v7.text)).set s2.toNat (TEntry.mk v10.stamp v9)) := by simpa [splice, zs, cellsV, I.cells, enc_TEntry] using rows_set_off (y := (TEntry.mk v10.stamp v9)) (ys := [.i (.s (.string v9))]) (k := 2) gv10.2.2 (Nat.le_of_ble_eq_true rfl) (by rfl)
      have hp := Option.some.inj hp
      subst hp
      simp (maxSteps := 2000000) (disch := first|omega|(simp only[ls];first|done|omega)) only [i_laws_markEntryS, E, pf0, pg0, ftt0_0, ftt0_1, ftt0_2, ftt0_3, ftt0_4, ftt0_5, hz3, hb4, hv5, (gv5).1, (gv5).2.1, hs6, hv7, (gv7).1, (gv7).2.1, hs8, hv9, hv10, (gv10).1, (gv10).2.1, hs11, gx] <;> (repeat (first | omega | assumption | rfl | exact keep_refl | refine keep_app ?_ | (refine keep_set (by first | (left; simp; done) | (right; simp; omega)) ?_) | refine And.intro ?_ ?_))
    · replace hb4 := eq_false_of_ne_true hb4
      rw [if_f hb4] at hp
      have hp := Option.some.inj hp
      subst hp
      simp (maxSteps := 2000000) (disch := first|omega|(simp only[ls];first|done|omega)) only [i_laws_markEntryS, E, pf0, pg0, ftt0_0, ftt0_1, ftt0_2, ftt0_3, ftt0_4, ftt0_5, hz3, hb4, gx] <;> (repeat (first | omega | assumption | rfl | exact keep_refl | refine keep_app ?_ | (refine keep_set (by first | (left; simp; done) | (right; simp; omega)) ?_) | refine And.intro ?_ ?_))
  · simp (maxSteps := 2000000) (disch := first|omega|(simp only[ls];first|done|omega)) only [i_laws_markEntryS, E, pf0, pg0, gx] <;> (repeat (first | omega | assumption | rfl | exact keep_refl | refine keep_app ?_ | (refine keep_set (by first | (left; simp; done) | (right; simp; omega)) ?_) | refine And.intro ?_ ?_))
  · intro x tt1 hh1 hx
    rcases ee0 with ⟨o12, o13, o14⟩ | r
    · obtain ⟨rfl, ftt1_0, ftt1_1, ftt1_2, ftt1_3, ftt1_4, ftt1_5⟩ := hx
      have ztt1_3 := len_rows ftt1_3
      simp only [zs] at ztt1_3
      dsimp only at hp
      have hp := Option.some.inj hp
      subst hp
      simp (maxSteps := 2000000) (disch := first|omega|(simp only[ls];first|done|omega)) only [i_laws_markEntryS, E, pf0, pg0, ftt1_0, ftt1_1, ftt1_2, ftt1_3, ftt1_4, ftt1_5, gx] <;> (repeat (first | omega | assumption | rfl | exact keep_refl | refine keep_app ?_ | (refine keep_set (by first | (left; simp; done) | (right; simp; omega)) ?_) | refine And.intro ?_ ?_))
    · obtain ⟨rfl, hx⟩ := hx
      dsimp only at hp
      cases hp
      simp only [seqK_ret, blockK_ret, retK_RK (K := i_laws_markEntryS pb0 pn0 hh), hx, and_self, true_and]
theorem ko_laws_markEntryS {P : Program} {env : Env} {f_laws_markText : Nat}  (ep_laws_markText : env (2 * f_laws_markText) = pureFn true (FA fun a : Int => p_laws_markText a)) : k_laws_markEntryS (runIn P env (c_laws_markEntryS f_laws_markText)) := by
  intro x0 x1 b hp pb0 pn0 h a0 a1
  exact w_laws_markEntryS ep_laws_markText x0 x1 hp pb0 pn0 h a0 a1

noncomputable def p_laws_markSet (x0 : TMulti) (x1 : Int) : Option (T2 Int TMulti) :=
  (p_laws_markVector x0.seen x1).bind fun v0 =>
  (p_laws_markEntryS x0.entries v0.a).bind fun v1 =>
  some ⟨v1.a, (TMulti.mk v0.b v1.b)⟩
def c_laws_markSet (f_laws_markVector : Nat) (f_laws_markEntryS : Nat) : AFn := ⟨14, (.seq (.ops [(qS 2 (.box (.tmp 0))), (qS 4 (.mv (ic 0)))]) (.seq (.ops [(qS 5 (.fieldA 0 (.tmp 2))), (qS 6 (.load 1 true (.tmp 5))), (qS 7 (.mv (.tmp 1))), (qS 8 (.call (2 * f_laws_markVector + 1) [(.tmp 6), (.tmp 7)])), (qS 1 (.mv (.tmp 8)))]) (.seq (.ops [(qS 9 (.fieldA 1 (.tmp 2))), (qS 10 (.load 1 false (.tmp 9))), (qS 11 (.mv (.tmp 1))), (qS 12 (.call (2 * f_laws_markEntryS + 1) [(.tmp 10), (.tmp 11)])), (qS 1 (.mv (.tmp 12)))]) (.seq (.ops [(qS 13 (.mv (.tmp 1))), (qS 4 (.mv (.tmp 13)))]) .ret)))), [(.tmp 4)]⟩
def i_laws_markSet (pb0 pb1 pn0 pn1 : Nat) (h : Heap) (b : T2 Int TMulti) (v : V) (h2 : Heap) : Prop := Keep [pb0, pb1] h h2 ∧ v = .i (.s (.int .i64 b.a)) ∧ getCells h2 pb0 pn0 = some (rows b.b.seen.counts) ∧ getCells h2 pb1 (pn1 * 3) = some (rows b.b.entries)
def k_laws_markSet (F : Fun) : Prop := ∀ (x0 : TMulti) (x1 : Int) (b : T2 Int TMulti), p_laws_markSet x0 x1 = some b → ∀ (pb0 pb1 pn0 pn1 : Nat) (h : Heap), pn0 = (x0.seen.counts).length → pn1 = (x0.entries).length → getCells h pb0 pn0 = some (rows x0.seen.counts) → getCells h pb1 (pn1 * 3) = some (rows x0.entries) → pb1 ≠ pb0 → ∃ p, F none [.agg [.hsl pb0 pn0 0 1 false pn0, .hsl pb1 (pn1 * 3) 0 3 true pn1], .i (.s (.int .i64 x1))] h = some p ∧ i_laws_markSet pb0 pb1 pn0 pn1 h b p.1 p.2
set_option maxHeartbeats 10000000 in
theorem w_laws_markSet {P : Program} {env : Env} {f_laws_markVector : Nat} {f_laws_markEntryS : Nat}  (e_laws_markVector : k_laws_markVector (env (2 * f_laws_markVector + 1))) (e_laws_markEntryS : k_laws_markEntryS (env (2 * f_laws_markEntryS + 1))) (x0 : TMulti) (x1 : Int) {b : T2 Int TMulti} (hp : p_laws_markSet x0 x1 = some b) (pb0 pb1 pn0 pn1 : Nat) (hh : Heap) (pm0 : pn0 = (x0.seen.counts).length) (pm1 : pn1 = (x0.entries).length) (pf0 : getCells hh pb0 pn0 = some (rows x0.seen.counts)) (pf1 : getCells hh pb1 (pn1 * 3) = some (rows x0.entries)) (pe0 : pb1 ≠ pb0) : R P env (c_laws_markSet f_laws_markVector f_laws_markEntryS) [.agg [.hsl pb0 pn0 0 1 false pn0, .hsl pb1 (pn1 * 3) 0 3 true pn1], .i (.s (.int .i64 x1))] hh (i_laws_markSet pb0 pb1 pn0 pn1 hh b) := by
  have pl0 := gc_lt pf0
  have pl1 := gc_lt pf1
  have pg0 : getCells hh pb0 x0.seen.counts.length = some (rows x0.seen.counts) := by rw [← pm0]; exact pf0
  have pg1 : getCells hh pb1 (x0.entries.length * 3) = some (rows x0.entries) := by rw [← pm1]; exact pf1
  refine R_of (by simp [c_laws_markSet, encA]) ?_
  unfold c_laws_markSet
  unfold p_laws_markSet at hp
  obtain ⟨v0, hv0, hp⟩ := bind_eq hp
  simp (maxSteps := 2000000) (disch := first|omega|(simp only[ls];first|done|omega)) only [pf0, pf1, pg0, pg1, gx]
  refine call_f (fun h => getCells h pb0 pn0 = some (rows (x0.seen.counts : List Int)) ∧ pb0 < h.length ∧ getCells h pb1 (pn1 * 3) = some (rows (x0.entries : List TEntry)) ∧ pb1 < h.length ∧ getCells h hh.length 2 = some [.hsl pb0 pn0 0 1 false pn0, .hsl pb1 (pn1 * 3) 0 3 true pn1] ∧ hh.length < h.length ∧ Keep [pb0, pb1] hh h) (fun h v h2 => i_laws_markVector pb0 pn0 h v0 v h2) ?_ ?_ ?_
  · simp (maxSteps := 2000000) (disch := first|omega|(simp only[ls];first|done|omega)) only [i_laws_markSet, pf0, pf1, pg0, pg1, hv0, gx] <;> (repeat (first | omega | assumption | rfl | exact keep_refl | refine keep_app ?_ | (refine keep_set (by first | (left; simp; done) | (right; simp; omega)) ?_) | refine And.intro ?_ ?_))
  · rintro h ⟨c0_0, c0_1, c0_2, c0_3, c0_4, c0_5, c0_6⟩
    exact e_laws_markVector _ _ _ hv0 pb0 pn0 h (by first | omega | rfl) c0_0
  · rintro hc0 v hh0 ⟨c0_0, c0_1, c0_2, c0_3, c0_4, c0_5, c0_6⟩ hpost
    obtain ⟨kk0, rfl, w0_0⟩ := hpost
    have d0_0 : getCells hh0 pb0 pn0 = some (rows (v0.b.counts : List Int)) := w0_0
    have mm0_0 := len_rows w0_0
    simp only [zs] at mm0_0
    have d0_0l := keep_lt kk0 c0_1
    have d0_1 : getCells hh0 pb1 (pn1 * 3) = some (rows (x0.entries : List TEntry)) := (keep_get kk0 c0_3 (by first | (simp; done) | (simp; omega))).trans c0_2
    have d0_1l := keep_lt kk0 c0_3
    have d0_2 : getCells hh0 hh.length 2 = some [.hsl pb0 pn0 0 1 false pn0, .hsl pb1 (pn1 * 3) 0 3 true pn1] := (keep_get kk0 c0_5 (by first | (simp; done) | (simp; omega))).trans c0_4
    have d0_2l := keep_lt kk0 c0_5
    have kp0 : Keep [pb0, pb1] hh hh0 := keep_trans c0_6 kk0 (by intro b hb; first | (simp at hb; done) | (simp at hb ⊢; omega))
    obtain ⟨v1, hv1, hp⟩ := bind_eq hp
    simp (maxSteps := 2000000) (disch := first|omega|(simp only[ls];first|done|omega)) only [pf0, pf1, pg0, pg1, hv0, d0_0, d0_1, d0_2, gx]
    refine call_f (fun h => getCells h pb0 pn0 = some (rows (v0.b.counts : List Int)) ∧ pb0 < h.length ∧ getCells h pb1 (pn1 * 3) = some (rows (x0.entries : List TEntry)) ∧ pb1 < h.length ∧ getCells h hh.length 2 = some [.hsl pb0 pn0 0 1 false pn0, .hsl pb1 (pn1 * 3) 0 3 true pn1] ∧ hh.length < h.length ∧ Keep [pb0, pb1] hh h) (fun h v h2 => i_laws_markEntryS pb1 pn1 h v1 v h2) ?_ ?_ ?_
    · simp (maxSteps := 2000000) (disch := first|omega|(simp only[ls];first|done|omega)) only [i_laws_markSet, pf0, pf1, pg0, pg1, hv0, d0_0, d0_1, d0_2, hv1, gx] <;> (repeat (first | omega | assumption | rfl | exact keep_refl | refine keep_app ?_ | (refine keep_set (by first | (left; simp; done) | (right; simp; omega)) ?_) | refine And.intro ?_ ?_))
    · rintro h ⟨c1_0, c1_1, c1_2, c1_3, c1_4, c1_5, c1_6⟩
      exact e_laws_markEntryS _ _ _ hv1 pb1 pn1 h (by first | omega | rfl) c1_2
    · rintro hc1 v hh1 ⟨c1_0, c1_1, c1_2, c1_3, c1_4, c1_5, c1_6⟩ hpost
      obtain ⟨kk1, rfl, w1_0⟩ := hpost
      have d1_0 : getCells hh1 pb0 pn0 = some (rows (v0.b.counts : List Int)) := (keep_get kk1 c1_1 (by first | (simp; done) | (simp; omega))).trans c1_0
      have d1_0l := keep_lt kk1 c1_1
      have d1_1 : getCells hh1 pb1 (pn1 * 3) = some (rows (v1.b : List TEntry)) := w1_0
      have mm1_0 := len_rows w1_0
      simp only [zs] at mm1_0
      have d1_1l := keep_lt kk1 c1_3
      have d1_2 : getCells hh1 hh.length 2 = some [.hsl pb0 pn0 0 1 false pn0, .hsl pb1 (pn1 * 3) 0 3 true pn1] := (keep_get kk1 c1_5 (by first | (simp; done) | (simp; omega))).trans c1_4
      have d1_2l := keep_lt kk1 c1_5
      have kp1 : Keep [pb0, pb1] hh hh1 := keep_trans c1_6 kk1 (by intro b hb; first | (simp at hb; done) | (simp at hb ⊢; omega))
      have hp := Option.some.inj hp
      subst hp
      simp (maxSteps := 2000000) (disch := first|omega|(simp only[ls];first|done|omega)) only [i_laws_markSet, pf0, pf1, pg0, pg1, hv0, d0_0, d0_1, d0_2, hv1, d1_0, d1_1, d1_2, gx] <;> (repeat (first | omega | assumption | rfl | exact keep_refl | refine keep_app ?_ | (refine keep_set (by first | (left; simp; done) | (right; simp; omega)) ?_) | refine And.intro ?_ ?_))
theorem ko_laws_markSet {P : Program} {env : Env} {f_laws_markVector : Nat} {f_laws_markEntryS : Nat}  (e_laws_markVector : k_laws_markVector (env (2 * f_laws_markVector + 1))) (e_laws_markEntryS : k_laws_markEntryS (env (2 * f_laws_markEntryS + 1))) : k_laws_markSet (runIn P env (c_laws_markSet f_laws_markVector f_laws_markEntryS)) := by
  intro x0 x1 b hp pb0 pb1 pn0 pn1 h a0 a1 a2 a3 a4
  exact w_laws_markSet e_laws_markVector e_laws_markEntryS x0 x1 hp pb0 pb1 pn0 pn1 h a0 a1 a2 a3 a4

end Go.AM
