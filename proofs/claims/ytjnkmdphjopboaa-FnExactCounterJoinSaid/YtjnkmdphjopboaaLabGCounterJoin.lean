/- Plain functions of CounterJoin and their walks. No condition. -/
import Derived.Test.YtjnkmdphjopboaaLabB34
set_option linter.unusedVariables false
set_option linter.unusedSimpArgs false
namespace Go.AM
open Pic (enc dec dec_enc dec_sub)
open PicA (encA decA decA_encA decA_sub)
noncomputable def p_laws_szIntS (x0 : List Int) (x1 : Int) : Option Int :=
  if (decide (w64 (x1 - (x0.length : Int)) < 0)) = true then
    some (-1)
  else
    some (w64 (x1 - (x0.length : Int)))
def c_laws_szIntS : AFn := ⟨12, (.seq (.ops [⟨(.some 4), (.mv (.const (.int .i64 0))), .none, []⟩]) (.seq (.ops [⟨(.some 5), (.mv (.tmp 1)), .none, []⟩, ⟨(.some 6), (.mv (.tmp 0)), .none, []⟩, ⟨(.some 7), (.len (.tmp 6)), .none, []⟩, ⟨(.some 8), (.pu (.n (.ar .sub)) [(.tmp 5), (.tmp 7)]), .none, []⟩, ⟨(.some 1), (.mv (.tmp 8)), .none, []⟩]) (.seq (.seq (.ops [⟨(.some 9), (.mv (.tmp 1)), .none, []⟩, ⟨(.some 10), (.pu (.n (.ar .lss)) [(.tmp 9), (.const (.int .i64 0))]), .none, []⟩]) (.cond (.tmp 10) (.seq (.ops [⟨(.some 4), (.mv (.const (.int .i64 (-1)))), .none, []⟩]) .ret) .skip)) (.seq (.ops [⟨(.some 11), (.mv (.tmp 1)), .none, []⟩, ⟨(.some 4), (.mv (.tmp 11)), .none, []⟩]) .ret)))), [(.tmp 4)]⟩
set_option maxHeartbeats 10000000 in
theorem d_laws_szIntS {P : Program} {env : Env}  (x0 : List Int) (x1 : Int) {b : Int} (hp : p_laws_szIntS x0 x1 = some b) : R P env (c_laws_szIntS) ((encA (x0, x1)).map ofI) [] (Tells true b) := by
  refine R_of (by simp [c_laws_szIntS, encA]) ?_
  unfold c_laws_szIntS
  unfold p_laws_szIntS at hp
  by_cases hb0 : (decide (w64 (x1 - (x0.length : Int)) < 0)) = true
  · rw [if_t hb0] at hp
    have hp := Option.some.inj hp
    subst hp
    simp (disch := first | omega | (simp only [List.length_set, List.length_append, List.length_cons, List.length_nil, rows_len, zs]; first | done | omega)) only [hb0, gs, app_hsl, app_nil, reduceIte, reduceCtorEq, Nat.reduceAdd, Nat.reduceMul, Nat.reduceSub, Nat.reduceBEq, Nat.reduceEqDiff, Nat.reduceLeDiff, Nat.reduceLT, Nat.reduceGT, Int.reduceToNat, Int.reduceLT, Int.reduceLE, Int.reduceNeg, Int.reduceAdd, Int.reduceEq, Int.reduceNe]
  · replace hb0 := eq_false_of_ne_true hb0
    rw [if_f hb0] at hp
    have hp := Option.some.inj hp
    subst hp
    simp (disch := first | omega | (simp only [List.length_set, List.length_append, List.length_cons, List.length_nil, rows_len, zs]; first | done | omega)) only [hb0, gs, app_hsl, app_nil, reduceIte, reduceCtorEq, Nat.reduceAdd, Nat.reduceMul, Nat.reduceSub, Nat.reduceBEq, Nat.reduceEqDiff, Nat.reduceLeDiff, Nat.reduceLT, Nat.reduceGT, Int.reduceToNat, Int.reduceLT, Int.reduceLE, Int.reduceNeg, Int.reduceAdd, Int.reduceEq, Int.reduceNe]

noncomputable def p_laws_szVector (x0 : TVec) (x1 : Int) : Option Int :=
  (p_laws_szIntS x0.counts x1).bind fun v0 =>
  if (decide (v0 < 0)) = true then
    some (-1)
  else
    some v0
def c_laws_szVector (f_laws_szIntS : Nat) : AFn := ⟨12, (.seq (.ops [⟨(.some 2), (.box (.tmp 0)), .none, []⟩, ⟨(.some 4), (.mv (.const (.int .i64 0))), .none, []⟩]) (.seq (.ops [⟨(.some 5), (.fieldA 0 (.tmp 2)), .none, []⟩, ⟨(.some 6), (.load 1 false (.tmp 5)), .none, []⟩, ⟨(.some 7), (.mv (.tmp 1)), .none, []⟩, ⟨(.some 8), (.call (2 * f_laws_szIntS) [(.tmp 6), (.tmp 7)]), .none, []⟩, ⟨(.some 1), (.mv (.tmp 8)), .none, []⟩]) (.seq (.seq (.ops [⟨(.some 9), (.mv (.tmp 1)), .none, []⟩, ⟨(.some 10), (.pu (.n (.ar .lss)) [(.tmp 9), (.const (.int .i64 0))]), .none, []⟩]) (.cond (.tmp 10) (.seq (.ops [⟨(.some 4), (.mv (.const (.int .i64 (-1)))), .none, []⟩]) .ret) .skip)) (.seq (.ops [⟨(.some 11), (.mv (.tmp 1)), .none, []⟩, ⟨(.some 4), (.mv (.tmp 11)), .none, []⟩]) .ret)))), [(.tmp 4)]⟩
set_option maxHeartbeats 10000000 in
theorem d_laws_szVector {P : Program} {env : Env} {f_laws_szIntS : Nat}  (ep_laws_szIntS : env (2 * f_laws_szIntS) = pureFn true (FA fun a : List Int × Int => p_laws_szIntS a.1 a.2)) (x0 : TVec) (x1 : Int) {b : Int} (hp : p_laws_szVector x0 x1 = some b) : R P env (c_laws_szVector f_laws_szIntS) ((encA (x0, x1)).map ofI) [] (Tells true b) := by
  refine R_of (by simp [c_laws_szVector, encA]) ?_
  unfold c_laws_szVector
  unfold p_laws_szVector at hp
  obtain ⟨v0, hv0, hp⟩ := bind_eq hp
  by_cases hb1 : (decide (v0 < 0)) = true
  · rw [if_t hb1] at hp
    have hp := Option.some.inj hp
    subst hp
    simp (disch := first | omega | (simp only [List.length_set, List.length_append, List.length_cons, List.length_nil, rows_len, zs]; first | done | omega)) only [ep_laws_szIntS, hv0, hb1, gs, app_hsl, app_nil, reduceIte, reduceCtorEq, Nat.reduceAdd, Nat.reduceMul, Nat.reduceSub, Nat.reduceBEq, Nat.reduceEqDiff, Nat.reduceLeDiff, Nat.reduceLT, Nat.reduceGT, Int.reduceToNat, Int.reduceLT, Int.reduceLE, Int.reduceNeg, Int.reduceAdd, Int.reduceEq, Int.reduceNe]
  · replace hb1 := eq_false_of_ne_true hb1
    rw [if_f hb1] at hp
    have hp := Option.some.inj hp
    subst hp
    simp (disch := first | omega | (simp only [List.length_set, List.length_append, List.length_cons, List.length_nil, rows_len, zs]; first | done | omega)) only [ep_laws_szIntS, hv0, hb1, gs, app_hsl, app_nil, reduceIte, reduceCtorEq, Nat.reduceAdd, Nat.reduceMul, Nat.reduceSub, Nat.reduceBEq, Nat.reduceEqDiff, Nat.reduceLeDiff, Nat.reduceLT, Nat.reduceGT, Int.reduceToNat, Int.reduceLT, Int.reduceLE, Int.reduceNeg, Int.reduceAdd, Int.reduceEq, Int.reduceNe]

noncomputable def p_laws_szCounter (x0 : TCounter) (x1 : Int) : Option Int :=
  (p_laws_szVector x0.plus x1).bind fun v0 =>
  if (decide (v0 < 0)) = true then
    some (-1)
  else
    (p_laws_szVector x0.minus v0).bind fun v2 =>
    if (decide (v2 < 0)) = true then
      some (-1)
    else
      some v2
def c_laws_szCounter (f_laws_szVector : Nat) : AFn := ⟨18, (.seq (.ops [⟨(.some 2), (.box (.tmp 0)), .none, []⟩, ⟨(.some 4), (.mv (.const (.int .i64 0))), .none, []⟩]) (.seq (.ops [⟨(.some 5), (.fieldA 0 (.tmp 2)), .none, []⟩, ⟨(.some 6), (.load 1 true (.tmp 5)), .none, []⟩, ⟨(.some 7), (.mv (.tmp 1)), .none, []⟩, ⟨(.some 8), (.call (2 * f_laws_szVector) [(.tmp 6), (.tmp 7)]), .none, []⟩, ⟨(.some 1), (.mv (.tmp 8)), .none, []⟩]) (.seq (.seq (.ops [⟨(.some 9), (.mv (.tmp 1)), .none, []⟩, ⟨(.some 10), (.pu (.n (.ar .lss)) [(.tmp 9), (.const (.int .i64 0))]), .none, []⟩]) (.cond (.tmp 10) (.seq (.ops [⟨(.some 4), (.mv (.const (.int .i64 (-1)))), .none, []⟩]) .ret) .skip)) (.seq (.ops [⟨(.some 11), (.fieldA 1 (.tmp 2)), .none, []⟩, ⟨(.some 12), (.load 1 true (.tmp 11)), .none, []⟩, ⟨(.some 13), (.mv (.tmp 1)), .none, []⟩, ⟨(.some 14), (.call (2 * f_laws_szVector) [(.tmp 12), (.tmp 13)]), .none, []⟩, ⟨(.some 1), (.mv (.tmp 14)), .none, []⟩]) (.seq (.seq (.ops [⟨(.some 15), (.mv (.tmp 1)), .none, []⟩, ⟨(.some 16), (.pu (.n (.ar .lss)) [(.tmp 15), (.const (.int .i64 0))]), .none, []⟩]) (.cond (.tmp 16) (.seq (.ops [⟨(.some 4), (.mv (.const (.int .i64 (-1)))), .none, []⟩]) .ret) .skip)) (.seq (.ops [⟨(.some 17), (.mv (.tmp 1)), .none, []⟩, ⟨(.some 4), (.mv (.tmp 17)), .none, []⟩]) .ret)))))), [(.tmp 4)]⟩
set_option maxHeartbeats 10000000 in
theorem d_laws_szCounter {P : Program} {env : Env} {f_laws_szVector : Nat}  (ep_laws_szVector : env (2 * f_laws_szVector) = pureFn true (FA fun a : TVec × Int => p_laws_szVector a.1 a.2)) (x0 : TCounter) (x1 : Int) {b : Int} (hp : p_laws_szCounter x0 x1 = some b) : R P env (c_laws_szCounter f_laws_szVector) ((encA (x0, x1)).map ofI) [] (Tells true b) := by
  refine R_of (by simp [c_laws_szCounter, encA]) ?_
  unfold c_laws_szCounter
  unfold p_laws_szCounter at hp
  obtain ⟨v0, hv0, hp⟩ := bind_eq hp
  by_cases hb1 : (decide (v0 < 0)) = true
  · rw [if_t hb1] at hp
    have hp := Option.some.inj hp
    subst hp
    simp (disch := first | omega | (simp only [List.length_set, List.length_append, List.length_cons, List.length_nil, rows_len, zs]; first | done | omega)) only [ep_laws_szVector, hv0, hb1, gs, app_hsl, app_nil, reduceIte, reduceCtorEq, Nat.reduceAdd, Nat.reduceMul, Nat.reduceSub, Nat.reduceBEq, Nat.reduceEqDiff, Nat.reduceLeDiff, Nat.reduceLT, Nat.reduceGT, Int.reduceToNat, Int.reduceLT, Int.reduceLE, Int.reduceNeg, Int.reduceAdd, Int.reduceEq, Int.reduceNe]
  · replace hb1 := eq_false_of_ne_true hb1
    rw [if_f hb1] at hp
    obtain ⟨v2, hv2, hp⟩ := bind_eq hp
    by_cases hb3 : (decide (v2 < 0)) = true
    · rw [if_t hb3] at hp
      have hp := Option.some.inj hp
      subst hp
      simp (disch := first | omega | (simp only [List.length_set, List.length_append, List.length_cons, List.length_nil, rows_len, zs]; first | done | omega)) only [ep_laws_szVector, hv0, hb1, hv2, hb3, gs, app_hsl, app_nil, reduceIte, reduceCtorEq, Nat.reduceAdd, Nat.reduceMul, Nat.reduceSub, Nat.reduceBEq, Nat.reduceEqDiff, Nat.reduceLeDiff, Nat.reduceLT, Nat.reduceGT, Int.reduceToNat, Int.reduceLT, Int.reduceLE, Int.reduceNeg, Int.reduceAdd, Int.reduceEq, Int.reduceNe]
    · replace hb3 := eq_false_of_ne_true hb3
      rw [if_f hb3] at hp
      have hp := Option.some.inj hp
      subst hp
      simp (disch := first | omega | (simp only [List.length_set, List.length_append, List.length_cons, List.length_nil, rows_len, zs]; first | done | omega)) only [ep_laws_szVector, hv0, hb1, hv2, hb3, gs, app_hsl, app_nil, reduceIte, reduceCtorEq, Nat.reduceAdd, Nat.reduceMul, Nat.reduceSub, Nat.reduceBEq, Nat.reduceEqDiff, Nat.reduceLeDiff, Nat.reduceLT, Nat.reduceGT, Int.reduceToNat, Int.reduceLT, Int.reduceLE, Int.reduceNeg, Int.reduceAdd, Int.reduceEq, Int.reduceNe]

noncomputable def p_laws_toIntS_l0 (x0 : List Int) : List Int × Int → Option (Lp (List Int × Int) (List Int))
  | (s1, s2) =>
    if (decide (s2 < (x0.length : Int))) = true then
      (get? x0 s2).bind fun v4 =>
      (get? s1 s2).bind fun v5 =>
      some (.go ((s1.set s2.toNat v4), w64 (s2 + 1)))
    else
      some (.out (s1, s2))
noncomputable def p_laws_toIntS (x0 : List Int) : Option (List Int) :=
  ((mkL (x0.length : Int) 8 (x0.length : Int) 0 : Option (List Int))).bind fun v0 =>
  (loopP (p_laws_toIntS_l0 x0) (v0, 0)).bind fun ee0 => match ee0 with
  | .ret r => some r
  | .out (o7, o8) =>
    some o7
def c_laws_toIntS : AFn := ⟨22, (.seq (.ops [⟨(.some 2), (.vnil 1 false), .none, []⟩]) (.seq (.ops [⟨(.some 5), (.mv (.tmp 0)), .none, []⟩, ⟨(.some 6), (.len (.tmp 5)), .none, []⟩, ⟨(.some 7), (.makeSl 1 false 8 [(.int .i64 0)] (.tmp 6) (.tmp 6)), .none, []⟩, ⟨(.some 3), (.mv (.tmp 7)), .none, []⟩]) (.seq (.seq (.ops [⟨(.some 4), (.mv (.const (.int .i64 0))), .none, []⟩]) (.block 0 (.loop (.seq (.seq (.ops [⟨(.some 8), (.mv (.tmp 4)), .none, []⟩, ⟨(.some 9), (.mv (.tmp 0)), .none, []⟩, ⟨(.some 10), (.len (.tmp 9)), .none, []⟩, ⟨(.some 11), (.pu (.n (.ar .lss)) [(.tmp 8), (.tmp 10)]), .none, []⟩]) (.cond (.tmp 11) .skip (.exit 0))) (.seq (.block 1 (.ops [⟨(.some 14), (.mv (.tmp 3)), .none, []⟩, ⟨(.some 15), (.mv (.tmp 4)), .none, []⟩, ⟨(.some 16), (.mv (.tmp 0)), .none, []⟩, ⟨(.some 17), (.mv (.tmp 4)), .none, []⟩, ⟨(.some 18), (.idxS 1 (.tmp 16) (.tmp 17)), .none, []⟩, ⟨(.some 19), (.load 1 false (.tmp 18)), .none, []⟩, ⟨(.some 20), (.idxS 1 (.tmp 14) (.tmp 15)), .none, []⟩, ⟨.none, (.storeV [(0, false)] 1 (.tmp 20) (.tmp 19)), .none, []⟩])) (.ops [⟨(.some 12), (.mv (.tmp 4)), .none, []⟩, ⟨(.some 13), (.pu (.n (.ar .add)) [(.tmp 12), (.const (.int .i64 1))]), .none, []⟩, ⟨(.some 4), (.mv (.tmp 13)), .none, []⟩])))))) (.seq (.ops [⟨(.some 21), (.mv (.tmp 3)), .none, []⟩, ⟨(.some 2), (.mv (.tmp 21)), .none, []⟩]) .ret)))), [(.tmp 2)]⟩
def o_laws_toIntS (b : List Int) (v : V) (h : Heap) : Prop := ∃ n0 : Nat, v = .hsl n0 b.length 0 1 false b.length ∧ getCells h n0 b.length = some (rows b)
def oo_laws_toIntS (b : List Int) (h : Heap) (v : V) (h2 : Heap) : Prop := Keep [] h h2 ∧ ∃ n0 : Nat, v = .hsl n0 b.length 0 1 false b.length ∧ n0 < h2.length ∧ h.length ≤ n0 ∧ getCells h2 n0 b.length = some (rows b)
def k_laws_toIntS (F : Fun) : Prop := ∀ (x0 : List Int) (b : List Int), p_laws_toIntS x0 = some b → ∀ (h : Heap) (args : List V), snapA 9 false h args = some (encA (x0)) → ∃ p, F none args h = some p ∧ oo_laws_toIntS b h p.1 p.2
set_option maxHeartbeats 10000000 in
theorem w_laws_toIntS {P : Program} {env : Env}  (x0 : List Int) {b : List Int} (hp : p_laws_toIntS x0 = some b) : R P env (c_laws_toIntS) ((encA (x0)).map ofI) [] (o_laws_toIntS b) := by
  refine R_of (by simp [c_laws_toIntS, encA]) ?_
  unfold c_laws_toIntS
  unfold p_laws_toIntS at hp
  obtain ⟨v0, hv0, hp⟩ := bind_eq hp
  obtain ⟨kv0, qv0, lv0⟩ := mkL_some hv0
  have rv0 : (List.replicate x0.length [.i (.s (.int .i64 0))]).flatten = rows v0 := by rw [qv0]; exact rows_rep (x := (0 : Int)) rfl
  have mv0 : x0.length = v0.length := by rw [lv0]; simp
  obtain ⟨ee0, hee0, hp⟩ := bind_eq hp
  simp (disch := first | omega | (simp only [List.length_set, List.length_append, List.length_cons, List.length_nil, rows_len, zs]; first | done | omega)) only [hv0, rv0, kv0.1, kv0.2.1, kv0.2.2.1, kv0.2.2.2, gs, app_hsl, app_nil, reduceIte, reduceCtorEq, Nat.reduceAdd, Nat.reduceMul, Nat.reduceSub, Nat.reduceBEq, Nat.reduceEqDiff, Nat.reduceLeDiff, Nat.reduceLT, Nat.reduceGT, Int.reduceToNat, Int.reduceLT, Int.reduceLE, Int.reduceNeg, Int.reduceAdd, Int.reduceEq, Int.reduceNe]
  refine W_loopP 0 (fun s t h => match s with | (s1, s2) => t 0 = .i (.sl 1 (x0.map enc)) ∧ t 3 = .hsl 1 x0.length 0 1 false x0.length ∧ t 4 = .i (.s (.int .i64 s2)) ∧ getCells h 1 x0.length = some (rows (s1 : List Int)) ∧ 1 < h.length) (RK [.tmp 2] (o_laws_toIntS)) ?_ hee0 ?_ ?_
  · rintro ⟨s1, s2⟩ ee tt0 hh0 ⟨ftt0_0, ftt0_1, ftt0_2, ftt0_3, ftt0_4⟩ hp
    have ztt0_3 := len_rows ftt0_3
    simp only [zs] at ztt0_3
    rw [p_laws_toIntS_l0] at hp
    by_cases hb3 : (decide (s2 < (x0.length : Int))) = true
    · rw [if_t hb3] at hp
      obtain ⟨v4, hv4, hp⟩ := bind_eq hp
      obtain ⟨v5, hv5, hp⟩ := bind_eq hp
      have gv5 := get_some hv5
      have hs6 : List.take s2.toNat (rows s1) ++ .i (.s (.int .i64 v4)) :: List.drop (s2.toNat + 1) (rows s1) = rows (s1.set s2.toNat v4) := by simpa [splice, zs, cellsV, I.cells, enc_int] using rows_set_off (y := v4) (ys := [.i (.s (.int .i64 v4))]) (k := 0) gv5.2.2 (Nat.le_of_ble_eq_true rfl) (by rfl)
      have hp := Option.some.inj hp
      subst hp
      simp (disch := first | omega | (simp only [List.length_set, List.length_append, List.length_cons, List.length_nil, rows_len, zs]; first | done | omega)) only [hv0, rv0, kv0.1, kv0.2.1, kv0.2.2.1, kv0.2.2.2, ftt0_0, ftt0_1, ftt0_2, ftt0_3, ftt0_4, hb3, hv4, hv5, (gv5).1, (gv5).2.1, hs6, gs, app_hsl, app_nil, reduceIte, reduceCtorEq, Nat.reduceAdd, Nat.reduceMul, Nat.reduceSub, Nat.reduceBEq, Nat.reduceEqDiff, Nat.reduceLeDiff, Nat.reduceLT, Nat.reduceGT, Int.reduceToNat, Int.reduceLT, Int.reduceLE, Int.reduceNeg, Int.reduceAdd, Int.reduceEq, Int.reduceNe] <;> omega
    · replace hb3 := eq_false_of_ne_true hb3
      rw [if_f hb3] at hp
      have hp := Option.some.inj hp
      subst hp
      simp (disch := first | omega | (simp only [List.length_set, List.length_append, List.length_cons, List.length_nil, rows_len, zs]; first | done | omega)) only [hv0, rv0, kv0.1, kv0.2.1, kv0.2.2.1, kv0.2.2.2, ftt0_0, ftt0_1, ftt0_2, ftt0_3, ftt0_4, hb3, gs, app_hsl, app_nil, reduceIte, reduceCtorEq, Nat.reduceAdd, Nat.reduceMul, Nat.reduceSub, Nat.reduceBEq, Nat.reduceEqDiff, Nat.reduceLeDiff, Nat.reduceLT, Nat.reduceGT, Int.reduceToNat, Int.reduceLT, Int.reduceLE, Int.reduceNeg, Int.reduceAdd, Int.reduceEq, Int.reduceNe] <;> omega
  · simp (disch := first | omega | (simp only [List.length_set, List.length_append, List.length_cons, List.length_nil, rows_len, zs]; first | done | omega)) only [hv0, rv0, kv0.1, kv0.2.1, kv0.2.2.1, kv0.2.2.2, gs, app_hsl, app_nil, reduceIte, reduceCtorEq, Nat.reduceAdd, Nat.reduceMul, Nat.reduceSub, Nat.reduceBEq, Nat.reduceEqDiff, Nat.reduceLeDiff, Nat.reduceLT, Nat.reduceGT, Int.reduceToNat, Int.reduceLT, Int.reduceLE, Int.reduceNeg, Int.reduceAdd, Int.reduceEq, Int.reduceNe] <;> omega
  · intro x tt1 hh1 hx
    rcases ee0 with ⟨o7, o8⟩ | r
    · obtain ⟨rfl, ftt1_0, ftt1_1, ftt1_2, ftt1_3, ftt1_4⟩ := hx
      have ztt1_3 := len_rows ftt1_3
      simp only [zs] at ztt1_3
      dsimp only at hp
      have hp := Option.some.inj hp
      subst hp
      simp (disch := first | omega | (simp only [List.length_set, List.length_append, List.length_cons, List.length_nil, rows_len, zs]; first | done | omega)) only [hv0, rv0, kv0.1, kv0.2.1, kv0.2.2.1, kv0.2.2.2, ftt1_0, ftt1_1, ftt1_2, ftt1_3, ftt1_4, gs, app_hsl, app_nil, reduceIte, reduceCtorEq, Nat.reduceAdd, Nat.reduceMul, Nat.reduceSub, Nat.reduceBEq, Nat.reduceEqDiff, Nat.reduceLeDiff, Nat.reduceLT, Nat.reduceGT, Int.reduceToNat, Int.reduceLT, Int.reduceLE, Int.reduceNeg, Int.reduceAdd, Int.reduceEq, Int.reduceNe]
      refine ⟨1, ?_⟩
      simp (disch := first | omega | (simp only [List.length_set, List.length_append, List.length_cons, List.length_nil, rows_len, zs]; first | done | omega)) only [hv0, rv0, kv0.1, kv0.2.1, kv0.2.2.1, kv0.2.2.2, ftt1_0, ftt1_1, ftt1_2, ftt1_3, ftt1_4, o_laws_toIntS, (show (o7).length = x0.length from by omega), gs, app_hsl, app_nil, reduceIte, reduceCtorEq, Nat.reduceAdd, Nat.reduceMul, Nat.reduceSub, Nat.reduceBEq, Nat.reduceEqDiff, Nat.reduceLeDiff, Nat.reduceLT, Nat.reduceGT, Int.reduceToNat, Int.reduceLT, Int.reduceLE, Int.reduceNeg, Int.reduceAdd, Int.reduceEq, Int.reduceNe] <;> omega
    · obtain ⟨rfl, hx⟩ := hx
      dsimp only at hp
      cases hp
      simp only [seqK_ret, blockK_ret, retK_RK (K := o_laws_toIntS), hx, and_self, true_and]
theorem ko_laws_toIntS {P : Program} {env : Env}  : k_laws_toIntS (ownFn P env (c_laws_toIntS)) := by
  intro x0 b hp h args has
  obtain ⟨⟨v, H2⟩, hr, n0, rfl, wn0⟩ := w_laws_toIntS x0 hp
  exact ⟨_, own_call has hr rfl, keep_moved, n0 + h.length, rfl, (moved_lt wn0).2, (moved_lt wn0).1, moved_rows wn0⟩

noncomputable def p_laws_toVector (x0 : TVec) : Option TVec :=
  (p_laws_toIntS x0.counts).bind fun v0 =>
  some (TVec.mk v0)
def c_laws_toVector (f_laws_toIntS : Nat) : AFn := ⟨9, (.seq (.ops [⟨(.some 1), (.box (.tmp 0)), .none, []⟩, ⟨(.some 2), (.allocV [(1, false)] [(.slice .none 0 0)]), .none, []⟩]) (.seq (.ops [⟨(.some 3), (.allocV [(1, false)] [(.slice .none 0 0)]), .none, []⟩]) (.seq (.ops [⟨(.some 4), (.fieldA 0 (.tmp 1)), .none, []⟩, ⟨(.some 5), (.load 1 false (.tmp 4)), .none, []⟩, ⟨(.some 6), (.call (2 * f_laws_toIntS + 1) [(.tmp 5)]), .none, []⟩, ⟨(.some 7), (.fieldA 0 (.tmp 3)), .none, []⟩, ⟨.none, (.storeV [(1, false)] 1 (.tmp 7) (.tmp 6)), .none, []⟩]) (.seq (.ops [⟨(.some 8), (.load 1 true (.tmp 3)), .none, []⟩, ⟨.none, (.storeV [(1, false)] 1 (.tmp 2) (.tmp 8)), .none, []⟩]) .ret)))), [(.cell 2 1 true)]⟩
def o_laws_toVector (b : TVec) (v : V) (h : Heap) : Prop := ∃ n0 : Nat, v = .agg [.hsl n0 b.counts.length 0 1 false b.counts.length] ∧ getCells h n0 b.counts.length = some (rows b.counts)
def oo_laws_toVector (b : TVec) (h : Heap) (v : V) (h2 : Heap) : Prop := Keep [] h h2 ∧ ∃ n0 : Nat, v = .agg [.hsl n0 b.counts.length 0 1 false b.counts.length] ∧ n0 < h2.length ∧ h.length ≤ n0 ∧ getCells h2 n0 b.counts.length = some (rows b.counts)
def k_laws_toVector (F : Fun) : Prop := ∀ (x0 : TVec) (b : TVec), p_laws_toVector x0 = some b → ∀ (h : Heap) (args : List V), snapA 9 false h args = some (encA (x0)) → ∃ p, F none args h = some p ∧ oo_laws_toVector b h p.1 p.2
set_option maxHeartbeats 10000000 in
theorem w_laws_toVector {P : Program} {env : Env} {f_laws_toIntS : Nat}  (e_laws_toIntS : k_laws_toIntS (env (2 * f_laws_toIntS + 1))) (x0 : TVec) {b : TVec} (hp : p_laws_toVector x0 = some b) : R P env (c_laws_toVector f_laws_toIntS) ((encA (x0)).map ofI) [] (o_laws_toVector b) := by
  refine R_of (by simp [c_laws_toVector, encA]) ?_
  unfold c_laws_toVector
  unfold p_laws_toVector at hp
  obtain ⟨v0, hv0, hp⟩ := bind_eq hp
  simp (disch := first | omega | (simp only [List.length_set, List.length_append, List.length_cons, List.length_nil, rows_len, zs]; first | done | omega)) only [gs, app_hsl, app_nil, reduceIte, reduceCtorEq, Nat.reduceAdd, Nat.reduceMul, Nat.reduceSub, Nat.reduceBEq, Nat.reduceEqDiff, Nat.reduceLeDiff, Nat.reduceLT, Nat.reduceGT, Int.reduceToNat, Int.reduceLT, Int.reduceLE, Int.reduceNeg, Int.reduceAdd, Int.reduceEq, Int.reduceNe]
  refine call_f (fun h => getCells h 0 1 = some [.i (.sl 1 (x0.counts.map enc))] ∧ 0 < h.length ∧ getCells h 1 0 = some [] ∧ 1 < h.length ∧ getCells h 2 1 = some [.hsl 1 0 0 1 false 0] ∧ 2 < h.length ∧ getCells h 3 0 = some [] ∧ 3 < h.length ∧ getCells h 4 1 = some [.hsl 3 0 0 1 false 0] ∧ 4 < h.length) (fun h v h2 => oo_laws_toIntS v0 h v h2) ?_ ?_ ?_
  · simp (disch := first | omega | (simp only [List.length_set, List.length_append, List.length_cons, List.length_nil, rows_len, zs]; first | done | omega)) only [hv0, gs, app_hsl, app_nil, reduceIte, reduceCtorEq, Nat.reduceAdd, Nat.reduceMul, Nat.reduceSub, Nat.reduceBEq, Nat.reduceEqDiff, Nat.reduceLeDiff, Nat.reduceLT, Nat.reduceGT, Int.reduceToNat, Int.reduceLT, Int.reduceLE, Int.reduceNeg, Int.reduceAdd, Int.reduceEq, Int.reduceNe] <;> omega
  · rintro h ⟨c0_0, c0_1, c0_2, c0_3, c0_4, c0_5, c0_6, c0_7, c0_8, c0_9⟩
    exact e_laws_toIntS _ _ hv0 h _ (by simp (disch := first | omega | (simp only [List.length_set, List.length_append, List.length_cons, List.length_nil, rows_len, zs]; first | done | omega)) only [hv0, c0_0, c0_1, c0_2, c0_3, c0_4, c0_5, c0_6, c0_7, c0_8, c0_9, gs, app_hsl, app_nil, reduceIte, reduceCtorEq, Nat.reduceAdd, Nat.reduceMul, Nat.reduceSub, Nat.reduceBEq, Nat.reduceEqDiff, Nat.reduceLeDiff, Nat.reduceLT, Nat.reduceGT, Int.reduceToNat, Int.reduceLT, Int.reduceLE, Int.reduceNeg, Int.reduceAdd, Int.reduceEq, Int.reduceNe])
  · rintro h v hh0 ⟨c0_0, c0_1, c0_2, c0_3, c0_4, c0_5, c0_6, c0_7, c0_8, c0_9⟩ hpost
    obtain ⟨kk0, nb0_0, rfl, lnb0_0, gnb0_0, wnb0_0⟩ := hpost
    have d0_0 : getCells hh0 0 1 = some [.i (.sl 1 (x0.counts.map enc))] := (keep_get kk0 c0_1 (by first | (simp; done) | (simp; omega))).trans c0_0
    have d0_0l := keep_lt kk0 c0_1
    have d0_1 : getCells hh0 1 0 = some [] := (keep_get kk0 c0_3 (by first | (simp; done) | (simp; omega))).trans c0_2
    have d0_1l := keep_lt kk0 c0_3
    have d0_2 : getCells hh0 2 1 = some [.hsl 1 0 0 1 false 0] := (keep_get kk0 c0_5 (by first | (simp; done) | (simp; omega))).trans c0_4
    have d0_2l := keep_lt kk0 c0_5
    have d0_3 : getCells hh0 3 0 = some [] := (keep_get kk0 c0_7 (by first | (simp; done) | (simp; omega))).trans c0_6
    have d0_3l := keep_lt kk0 c0_7
    have d0_4 : getCells hh0 4 1 = some [.hsl 3 0 0 1 false 0] := (keep_get kk0 c0_9 (by first | (simp; done) | (simp; omega))).trans c0_8
    have d0_4l := keep_lt kk0 c0_9
    have d0_5 := wnb0_0
    have hp := Option.some.inj hp
    subst hp
    simp (disch := first | omega | (simp only [List.length_set, List.length_append, List.length_cons, List.length_nil, rows_len, zs]; first | done | omega)) only [hv0, d0_0, d0_1, d0_2, d0_3, d0_4, d0_5, gs, app_hsl, app_nil, reduceIte, reduceCtorEq, Nat.reduceAdd, Nat.reduceMul, Nat.reduceSub, Nat.reduceBEq, Nat.reduceEqDiff, Nat.reduceLeDiff, Nat.reduceLT, Nat.reduceGT, Int.reduceToNat, Int.reduceLT, Int.reduceLE, Int.reduceNeg, Int.reduceAdd, Int.reduceEq, Int.reduceNe]
    refine ⟨nb0_0, ?_⟩
    simp (disch := first | omega | (simp only [List.length_set, List.length_append, List.length_cons, List.length_nil, rows_len, zs]; first | done | omega)) only [hv0, d0_0, d0_1, d0_2, d0_3, d0_4, d0_5, o_laws_toVector, gs, app_hsl, app_nil, reduceIte, reduceCtorEq, Nat.reduceAdd, Nat.reduceMul, Nat.reduceSub, Nat.reduceBEq, Nat.reduceEqDiff, Nat.reduceLeDiff, Nat.reduceLT, Nat.reduceGT, Int.reduceToNat, Int.reduceLT, Int.reduceLE, Int.reduceNeg, Int.reduceAdd, Int.reduceEq, Int.reduceNe] <;> omega
theorem ko_laws_toVector {P : Program} {env : Env} {f_laws_toIntS : Nat}  (e_laws_toIntS : k_laws_toIntS (env (2 * f_laws_toIntS + 1))) : k_laws_toVector (ownFn P env (c_laws_toVector f_laws_toIntS)) := by
  intro x0 b hp h args has
  obtain ⟨⟨v, H2⟩, hr, n0, rfl, wn0⟩ := w_laws_toVector e_laws_toIntS x0 hp
  exact ⟨_, own_call has hr rfl, keep_moved, n0 + h.length, rfl, (moved_lt wn0).2, (moved_lt wn0).1, moved_rows wn0⟩

noncomputable def p_laws_toCounter (x0 : TCounter) : Option TCounter :=
  (p_laws_toVector x0.plus).bind fun v0 =>
  (p_laws_toVector x0.minus).bind fun v1 =>
  some (TCounter.mk v0 v1)
def c_laws_toCounter (f_laws_toVector : Nat) : AFn := ⟨13, (.seq (.ops [⟨(.some 1), (.box (.tmp 0)), .none, []⟩, ⟨(.some 2), (.allocV [(1, false), (1, false)] [(.slice .none 0 0), (.slice .none 0 0)]), .none, []⟩]) (.seq (.ops [⟨(.some 3), (.allocV [(1, false), (1, false)] [(.slice .none 0 0), (.slice .none 0 0)]), .none, []⟩]) (.seq (.ops [⟨(.some 4), (.fieldA 0 (.tmp 1)), .none, []⟩, ⟨(.some 5), (.load 1 true (.tmp 4)), .none, []⟩, ⟨(.some 6), (.call (2 * f_laws_toVector + 1) [(.tmp 5)]), .none, []⟩, ⟨(.some 7), (.fieldA 0 (.tmp 3)), .none, []⟩, ⟨.none, (.storeV [(1, false)] 1 (.tmp 7) (.tmp 6)), .none, []⟩]) (.seq (.ops [⟨(.some 8), (.fieldA 1 (.tmp 1)), .none, []⟩, ⟨(.some 9), (.load 1 true (.tmp 8)), .none, []⟩, ⟨(.some 10), (.call (2 * f_laws_toVector + 1) [(.tmp 9)]), .none, []⟩, ⟨(.some 11), (.fieldA 1 (.tmp 3)), .none, []⟩, ⟨.none, (.storeV [(1, false)] 1 (.tmp 11) (.tmp 10)), .none, []⟩]) (.seq (.ops [⟨(.some 12), (.load 2 true (.tmp 3)), .none, []⟩, ⟨.none, (.storeV [(1, false), (1, false)] 2 (.tmp 2) (.tmp 12)), .none, []⟩]) .ret))))), [(.cell 2 2 true)]⟩
set_option maxHeartbeats 10000000 in
theorem d_laws_toCounter {P : Program} {env : Env} {f_laws_toVector : Nat}  (e_laws_toVector : k_laws_toVector (env (2 * f_laws_toVector + 1))) (x0 : TCounter) {b : TCounter} (hp : p_laws_toCounter x0 = some b) : R P env (c_laws_toCounter f_laws_toVector) ((encA (x0)).map ofI) [] (Tells true b) := by
  refine R_of (by simp [c_laws_toCounter, encA]) ?_
  unfold c_laws_toCounter
  unfold p_laws_toCounter at hp
  obtain ⟨v0, hv0, hp⟩ := bind_eq hp
  simp (disch := first | omega | (simp only [List.length_set, List.length_append, List.length_cons, List.length_nil, rows_len, zs]; first | done | omega)) only [gs, app_hsl, app_nil, reduceIte, reduceCtorEq, Nat.reduceAdd, Nat.reduceMul, Nat.reduceSub, Nat.reduceBEq, Nat.reduceEqDiff, Nat.reduceLeDiff, Nat.reduceLT, Nat.reduceGT, Int.reduceToNat, Int.reduceLT, Int.reduceLE, Int.reduceNeg, Int.reduceAdd, Int.reduceEq, Int.reduceNe]
  refine call_f (fun h => getCells h 0 2 = some [.i (.sl 1 (x0.plus.counts.map enc)), .i (.sl 1 (x0.minus.counts.map enc))] ∧ 0 < h.length ∧ getCells h 1 0 = some [] ∧ 1 < h.length ∧ getCells h 2 0 = some [] ∧ 2 < h.length ∧ getCells h 3 2 = some [.hsl 1 0 0 1 false 0, .hsl 2 0 0 1 false 0] ∧ 3 < h.length ∧ getCells h 4 0 = some [] ∧ 4 < h.length ∧ getCells h 5 0 = some [] ∧ 5 < h.length ∧ getCells h 6 2 = some [.hsl 4 0 0 1 false 0, .hsl 5 0 0 1 false 0] ∧ 6 < h.length) (fun h v h2 => oo_laws_toVector v0 h v h2) ?_ ?_ ?_
  · simp (disch := first | omega | (simp only [List.length_set, List.length_append, List.length_cons, List.length_nil, rows_len, zs]; first | done | omega)) only [hv0, gs, app_hsl, app_nil, reduceIte, reduceCtorEq, Nat.reduceAdd, Nat.reduceMul, Nat.reduceSub, Nat.reduceBEq, Nat.reduceEqDiff, Nat.reduceLeDiff, Nat.reduceLT, Nat.reduceGT, Int.reduceToNat, Int.reduceLT, Int.reduceLE, Int.reduceNeg, Int.reduceAdd, Int.reduceEq, Int.reduceNe] <;> omega
  · rintro h ⟨c0_0, c0_1, c0_2, c0_3, c0_4, c0_5, c0_6, c0_7, c0_8, c0_9, c0_10, c0_11, c0_12, c0_13⟩
    exact e_laws_toVector _ _ hv0 h _ (by simp (disch := first | omega | (simp only [List.length_set, List.length_append, List.length_cons, List.length_nil, rows_len, zs]; first | done | omega)) only [hv0, c0_0, c0_1, c0_2, c0_3, c0_4, c0_5, c0_6, c0_7, c0_8, c0_9, c0_10, c0_11, c0_12, c0_13, gs, app_hsl, app_nil, reduceIte, reduceCtorEq, Nat.reduceAdd, Nat.reduceMul, Nat.reduceSub, Nat.reduceBEq, Nat.reduceEqDiff, Nat.reduceLeDiff, Nat.reduceLT, Nat.reduceGT, Int.reduceToNat, Int.reduceLT, Int.reduceLE, Int.reduceNeg, Int.reduceAdd, Int.reduceEq, Int.reduceNe])
  · rintro h v hh0 ⟨c0_0, c0_1, c0_2, c0_3, c0_4, c0_5, c0_6, c0_7, c0_8, c0_9, c0_10, c0_11, c0_12, c0_13⟩ hpost
    obtain ⟨kk0, nb0_0, rfl, lnb0_0, gnb0_0, wnb0_0⟩ := hpost
    have d0_0 : getCells hh0 0 2 = some [.i (.sl 1 (x0.plus.counts.map enc)), .i (.sl 1 (x0.minus.counts.map enc))] := (keep_get kk0 c0_1 (by first | (simp; done) | (simp; omega))).trans c0_0
    have d0_0l := keep_lt kk0 c0_1
    have d0_1 : getCells hh0 1 0 = some [] := (keep_get kk0 c0_3 (by first | (simp; done) | (simp; omega))).trans c0_2
    have d0_1l := keep_lt kk0 c0_3
    have d0_2 : getCells hh0 2 0 = some [] := (keep_get kk0 c0_5 (by first | (simp; done) | (simp; omega))).trans c0_4
    have d0_2l := keep_lt kk0 c0_5
    have d0_3 : getCells hh0 3 2 = some [.hsl 1 0 0 1 false 0, .hsl 2 0 0 1 false 0] := (keep_get kk0 c0_7 (by first | (simp; done) | (simp; omega))).trans c0_6
    have d0_3l := keep_lt kk0 c0_7
    have d0_4 : getCells hh0 4 0 = some [] := (keep_get kk0 c0_9 (by first | (simp; done) | (simp; omega))).trans c0_8
    have d0_4l := keep_lt kk0 c0_9
    have d0_5 : getCells hh0 5 0 = some [] := (keep_get kk0 c0_11 (by first | (simp; done) | (simp; omega))).trans c0_10
    have d0_5l := keep_lt kk0 c0_11
    have d0_6 : getCells hh0 6 2 = some [.hsl 4 0 0 1 false 0, .hsl 5 0 0 1 false 0] := (keep_get kk0 c0_13 (by first | (simp; done) | (simp; omega))).trans c0_12
    have d0_6l := keep_lt kk0 c0_13
    have d0_7 := wnb0_0
    obtain ⟨v1, hv1, hp⟩ := bind_eq hp
    simp (disch := first | omega | (simp only [List.length_set, List.length_append, List.length_cons, List.length_nil, rows_len, zs]; first | done | omega)) only [hv0, d0_0, d0_1, d0_2, d0_3, d0_4, d0_5, d0_6, d0_7, gs, app_hsl, app_nil, reduceIte, reduceCtorEq, Nat.reduceAdd, Nat.reduceMul, Nat.reduceSub, Nat.reduceBEq, Nat.reduceEqDiff, Nat.reduceLeDiff, Nat.reduceLT, Nat.reduceGT, Int.reduceToNat, Int.reduceLT, Int.reduceLE, Int.reduceNeg, Int.reduceAdd, Int.reduceEq, Int.reduceNe]
    refine call_f (fun h => getCells h 0 2 = some [.i (.sl 1 (x0.plus.counts.map enc)), .i (.sl 1 (x0.minus.counts.map enc))] ∧ 0 < h.length ∧ getCells h 1 0 = some [] ∧ 1 < h.length ∧ getCells h 2 0 = some [] ∧ 2 < h.length ∧ getCells h 3 2 = some [.hsl 1 0 0 1 false 0, .hsl 2 0 0 1 false 0] ∧ 3 < h.length ∧ getCells h 4 0 = some [] ∧ 4 < h.length ∧ getCells h 5 0 = some [] ∧ 5 < h.length ∧ getCells h 6 2 = some [.hsl nb0_0 v0.counts.length 0 1 false v0.counts.length, .hsl 5 0 0 1 false 0] ∧ 6 < h.length ∧ getCells h nb0_0 v0.counts.length = some (rows (v0.counts : List Int)) ∧ nb0_0 < h.length) (fun h v h2 => oo_laws_toVector v1 h v h2) ?_ ?_ ?_
    · simp (disch := first | omega | (simp only [List.length_set, List.length_append, List.length_cons, List.length_nil, rows_len, zs]; first | done | omega)) only [hv0, d0_0, d0_1, d0_2, d0_3, d0_4, d0_5, d0_6, d0_7, hv1, gs, app_hsl, app_nil, reduceIte, reduceCtorEq, Nat.reduceAdd, Nat.reduceMul, Nat.reduceSub, Nat.reduceBEq, Nat.reduceEqDiff, Nat.reduceLeDiff, Nat.reduceLT, Nat.reduceGT, Int.reduceToNat, Int.reduceLT, Int.reduceLE, Int.reduceNeg, Int.reduceAdd, Int.reduceEq, Int.reduceNe] <;> omega
    · rintro h ⟨c1_0, c1_1, c1_2, c1_3, c1_4, c1_5, c1_6, c1_7, c1_8, c1_9, c1_10, c1_11, c1_12, c1_13, c1_14, c1_15⟩
      exact e_laws_toVector _ _ hv1 h _ (by simp (disch := first | omega | (simp only [List.length_set, List.length_append, List.length_cons, List.length_nil, rows_len, zs]; first | done | omega)) only [hv0, d0_0, d0_1, d0_2, d0_3, d0_4, d0_5, d0_6, d0_7, hv1, c1_0, c1_1, c1_2, c1_3, c1_4, c1_5, c1_6, c1_7, c1_8, c1_9, c1_10, c1_11, c1_12, c1_13, c1_14, c1_15, gs, app_hsl, app_nil, reduceIte, reduceCtorEq, Nat.reduceAdd, Nat.reduceMul, Nat.reduceSub, Nat.reduceBEq, Nat.reduceEqDiff, Nat.reduceLeDiff, Nat.reduceLT, Nat.reduceGT, Int.reduceToNat, Int.reduceLT, Int.reduceLE, Int.reduceNeg, Int.reduceAdd, Int.reduceEq, Int.reduceNe])
    · rintro h v hh1 ⟨c1_0, c1_1, c1_2, c1_3, c1_4, c1_5, c1_6, c1_7, c1_8, c1_9, c1_10, c1_11, c1_12, c1_13, c1_14, c1_15⟩ hpost
      obtain ⟨kk1, nb1_0, rfl, lnb1_0, gnb1_0, wnb1_0⟩ := hpost
      have d1_0 : getCells hh1 0 2 = some [.i (.sl 1 (x0.plus.counts.map enc)), .i (.sl 1 (x0.minus.counts.map enc))] := (keep_get kk1 c1_1 (by first | (simp; done) | (simp; omega))).trans c1_0
      have d1_0l := keep_lt kk1 c1_1
      have d1_1 : getCells hh1 1 0 = some [] := (keep_get kk1 c1_3 (by first | (simp; done) | (simp; omega))).trans c1_2
      have d1_1l := keep_lt kk1 c1_3
      have d1_2 : getCells hh1 2 0 = some [] := (keep_get kk1 c1_5 (by first | (simp; done) | (simp; omega))).trans c1_4
      have d1_2l := keep_lt kk1 c1_5
      have d1_3 : getCells hh1 3 2 = some [.hsl 1 0 0 1 false 0, .hsl 2 0 0 1 false 0] := (keep_get kk1 c1_7 (by first | (simp; done) | (simp; omega))).trans c1_6
      have d1_3l := keep_lt kk1 c1_7
      have d1_4 : getCells hh1 4 0 = some [] := (keep_get kk1 c1_9 (by first | (simp; done) | (simp; omega))).trans c1_8
      have d1_4l := keep_lt kk1 c1_9
      have d1_5 : getCells hh1 5 0 = some [] := (keep_get kk1 c1_11 (by first | (simp; done) | (simp; omega))).trans c1_10
      have d1_5l := keep_lt kk1 c1_11
      have d1_6 : getCells hh1 6 2 = some [.hsl nb0_0 v0.counts.length 0 1 false v0.counts.length, .hsl 5 0 0 1 false 0] := (keep_get kk1 c1_13 (by first | (simp; done) | (simp; omega))).trans c1_12
      have d1_6l := keep_lt kk1 c1_13
      have d1_7 : getCells hh1 nb0_0 v0.counts.length = some (rows (v0.counts : List Int)) := (keep_get kk1 c1_15 (by first | (simp; done) | (simp; omega))).trans c1_14
      have d1_7l := keep_lt kk1 c1_15
      have d1_8 := wnb1_0
      have hp := Option.some.inj hp
      subst hp
      simp (disch := first | omega | (simp only [List.length_set, List.length_append, List.length_cons, List.length_nil, rows_len, zs]; first | done | omega)) only [hv0, d0_0, d0_1, d0_2, d0_3, d0_4, d0_5, d0_6, d0_7, hv1, d1_0, d1_1, d1_2, d1_3, d1_4, d1_5, d1_6, d1_7, d1_8, gs, app_hsl, app_nil, reduceIte, reduceCtorEq, Nat.reduceAdd, Nat.reduceMul, Nat.reduceSub, Nat.reduceBEq, Nat.reduceEqDiff, Nat.reduceLeDiff, Nat.reduceLT, Nat.reduceGT, Int.reduceToNat, Int.reduceLT, Int.reduceLE, Int.reduceNeg, Int.reduceAdd, Int.reduceEq, Int.reduceNe]

def o_laws_toCounter (b : TCounter) (v : V) (h : Heap) : Prop := ∃ n0 n1 : Nat, v = .agg [.hsl n0 b.plus.counts.length 0 1 false b.plus.counts.length, .hsl n1 b.minus.counts.length 0 1 false b.minus.counts.length] ∧ getCells h n0 b.plus.counts.length = some (rows b.plus.counts) ∧ getCells h n1 b.minus.counts.length = some (rows b.minus.counts) ∧ n1 ≠ n0
def oo_laws_toCounter (b : TCounter) (h : Heap) (v : V) (h2 : Heap) : Prop := Keep [] h h2 ∧ ∃ n0 n1 : Nat, v = .agg [.hsl n0 b.plus.counts.length 0 1 false b.plus.counts.length, .hsl n1 b.minus.counts.length 0 1 false b.minus.counts.length] ∧ n0 < h2.length ∧ h.length ≤ n0 ∧ getCells h2 n0 b.plus.counts.length = some (rows b.plus.counts) ∧ n1 < h2.length ∧ h.length ≤ n1 ∧ getCells h2 n1 b.minus.counts.length = some (rows b.minus.counts) ∧ n1 ≠ n0
def k_laws_toCounter (F : Fun) : Prop := ∀ (x0 : TCounter) (b : TCounter), p_laws_toCounter x0 = some b → ∀ (h : Heap) (args : List V), snapA 9 false h args = some (encA (x0)) → ∃ p, F none args h = some p ∧ oo_laws_toCounter b h p.1 p.2
set_option maxHeartbeats 10000000 in
theorem w_laws_toCounter {P : Program} {env : Env} {f_laws_toVector : Nat}  (e_laws_toVector : k_laws_toVector (env (2 * f_laws_toVector + 1))) (x0 : TCounter) {b : TCounter} (hp : p_laws_toCounter x0 = some b) : R P env (c_laws_toCounter f_laws_toVector) ((encA (x0)).map ofI) [] (o_laws_toCounter b) := by
  refine R_of (by simp [c_laws_toCounter, encA]) ?_
  unfold c_laws_toCounter
  unfold p_laws_toCounter at hp
  obtain ⟨v0, hv0, hp⟩ := bind_eq hp
  simp (disch := first | omega | (simp only [List.length_set, List.length_append, List.length_cons, List.length_nil, rows_len, zs]; first | done | omega)) only [gs, app_hsl, app_nil, reduceIte, reduceCtorEq, Nat.reduceAdd, Nat.reduceMul, Nat.reduceSub, Nat.reduceBEq, Nat.reduceEqDiff, Nat.reduceLeDiff, Nat.reduceLT, Nat.reduceGT, Int.reduceToNat, Int.reduceLT, Int.reduceLE, Int.reduceNeg, Int.reduceAdd, Int.reduceEq, Int.reduceNe]
  refine call_f (fun h => getCells h 0 2 = some [.i (.sl 1 (x0.plus.counts.map enc)), .i (.sl 1 (x0.minus.counts.map enc))] ∧ 0 < h.length ∧ getCells h 1 0 = some [] ∧ 1 < h.length ∧ getCells h 2 0 = some [] ∧ 2 < h.length ∧ getCells h 3 2 = some [.hsl 1 0 0 1 false 0, .hsl 2 0 0 1 false 0] ∧ 3 < h.length ∧ getCells h 4 0 = some [] ∧ 4 < h.length ∧ getCells h 5 0 = some [] ∧ 5 < h.length ∧ getCells h 6 2 = some [.hsl 4 0 0 1 false 0, .hsl 5 0 0 1 false 0] ∧ 6 < h.length) (fun h v h2 => oo_laws_toVector v0 h v h2) ?_ ?_ ?_
  · simp (disch := first | omega | (simp only [List.length_set, List.length_append, List.length_cons, List.length_nil, rows_len, zs]; first | done | omega)) only [hv0, gs, app_hsl, app_nil, reduceIte, reduceCtorEq, Nat.reduceAdd, Nat.reduceMul, Nat.reduceSub, Nat.reduceBEq, Nat.reduceEqDiff, Nat.reduceLeDiff, Nat.reduceLT, Nat.reduceGT, Int.reduceToNat, Int.reduceLT, Int.reduceLE, Int.reduceNeg, Int.reduceAdd, Int.reduceEq, Int.reduceNe] <;> omega
  · rintro h ⟨c0_0, c0_1, c0_2, c0_3, c0_4, c0_5, c0_6, c0_7, c0_8, c0_9, c0_10, c0_11, c0_12, c0_13⟩
    exact e_laws_toVector _ _ hv0 h _ (by simp (disch := first | omega | (simp only [List.length_set, List.length_append, List.length_cons, List.length_nil, rows_len, zs]; first | done | omega)) only [hv0, c0_0, c0_1, c0_2, c0_3, c0_4, c0_5, c0_6, c0_7, c0_8, c0_9, c0_10, c0_11, c0_12, c0_13, gs, app_hsl, app_nil, reduceIte, reduceCtorEq, Nat.reduceAdd, Nat.reduceMul, Nat.reduceSub, Nat.reduceBEq, Nat.reduceEqDiff, Nat.reduceLeDiff, Nat.reduceLT, Nat.reduceGT, Int.reduceToNat, Int.reduceLT, Int.reduceLE, Int.reduceNeg, Int.reduceAdd, Int.reduceEq, Int.reduceNe])
  · rintro h v hh0 ⟨c0_0, c0_1, c0_2, c0_3, c0_4, c0_5, c0_6, c0_7, c0_8, c0_9, c0_10, c0_11, c0_12, c0_13⟩ hpost
    obtain ⟨kk0, nb0_0, rfl, lnb0_0, gnb0_0, wnb0_0⟩ := hpost
    have d0_0 : getCells hh0 0 2 = some [.i (.sl 1 (x0.plus.counts.map enc)), .i (.sl 1 (x0.minus.counts.map enc))] := (keep_get kk0 c0_1 (by first | (simp; done) | (simp; omega))).trans c0_0
    have d0_0l := keep_lt kk0 c0_1
    have d0_1 : getCells hh0 1 0 = some [] := (keep_get kk0 c0_3 (by first | (simp; done) | (simp; omega))).trans c0_2
    have d0_1l := keep_lt kk0 c0_3
    have d0_2 : getCells hh0 2 0 = some [] := (keep_get kk0 c0_5 (by first | (simp; done) | (simp; omega))).trans c0_4
    have d0_2l := keep_lt kk0 c0_5
    have d0_3 : getCells hh0 3 2 = some [.hsl 1 0 0 1 false 0, .hsl 2 0 0 1 false 0] := (keep_get kk0 c0_7 (by first | (simp; done) | (simp; omega))).trans c0_6
    have d0_3l := keep_lt kk0 c0_7
    have d0_4 : getCells hh0 4 0 = some [] := (keep_get kk0 c0_9 (by first | (simp; done) | (simp; omega))).trans c0_8
    have d0_4l := keep_lt kk0 c0_9
    have d0_5 : getCells hh0 5 0 = some [] := (keep_get kk0 c0_11 (by first | (simp; done) | (simp; omega))).trans c0_10
    have d0_5l := keep_lt kk0 c0_11
    have d0_6 : getCells hh0 6 2 = some [.hsl 4 0 0 1 false 0, .hsl 5 0 0 1 false 0] := (keep_get kk0 c0_13 (by first | (simp; done) | (simp; omega))).trans c0_12
    have d0_6l := keep_lt kk0 c0_13
    have d0_7 := wnb0_0
    obtain ⟨v1, hv1, hp⟩ := bind_eq hp
    simp (disch := first | omega | (simp only [List.length_set, List.length_append, List.length_cons, List.length_nil, rows_len, zs]; first | done | omega)) only [hv0, d0_0, d0_1, d0_2, d0_3, d0_4, d0_5, d0_6, d0_7, gs, app_hsl, app_nil, reduceIte, reduceCtorEq, Nat.reduceAdd, Nat.reduceMul, Nat.reduceSub, Nat.reduceBEq, Nat.reduceEqDiff, Nat.reduceLeDiff, Nat.reduceLT, Nat.reduceGT, Int.reduceToNat, Int.reduceLT, Int.reduceLE, Int.reduceNeg, Int.reduceAdd, Int.reduceEq, Int.reduceNe]
    refine call_f (fun h => getCells h 0 2 = some [.i (.sl 1 (x0.plus.counts.map enc)), .i (.sl 1 (x0.minus.counts.map enc))] ∧ 0 < h.length ∧ getCells h 1 0 = some [] ∧ 1 < h.length ∧ getCells h 2 0 = some [] ∧ 2 < h.length ∧ getCells h 3 2 = some [.hsl 1 0 0 1 false 0, .hsl 2 0 0 1 false 0] ∧ 3 < h.length ∧ getCells h 4 0 = some [] ∧ 4 < h.length ∧ getCells h 5 0 = some [] ∧ 5 < h.length ∧ getCells h 6 2 = some [.hsl nb0_0 v0.counts.length 0 1 false v0.counts.length, .hsl 5 0 0 1 false 0] ∧ 6 < h.length ∧ getCells h nb0_0 v0.counts.length = some (rows (v0.counts : List Int)) ∧ nb0_0 < h.length) (fun h v h2 => oo_laws_toVector v1 h v h2) ?_ ?_ ?_
    · simp (disch := first | omega | (simp only [List.length_set, List.length_append, List.length_cons, List.length_nil, rows_len, zs]; first | done | omega)) only [hv0, d0_0, d0_1, d0_2, d0_3, d0_4, d0_5, d0_6, d0_7, hv1, gs, app_hsl, app_nil, reduceIte, reduceCtorEq, Nat.reduceAdd, Nat.reduceMul, Nat.reduceSub, Nat.reduceBEq, Nat.reduceEqDiff, Nat.reduceLeDiff, Nat.reduceLT, Nat.reduceGT, Int.reduceToNat, Int.reduceLT, Int.reduceLE, Int.reduceNeg, Int.reduceAdd, Int.reduceEq, Int.reduceNe] <;> omega
    · rintro h ⟨c1_0, c1_1, c1_2, c1_3, c1_4, c1_5, c1_6, c1_7, c1_8, c1_9, c1_10, c1_11, c1_12, c1_13, c1_14, c1_15⟩
      exact e_laws_toVector _ _ hv1 h _ (by simp (disch := first | omega | (simp only [List.length_set, List.length_append, List.length_cons, List.length_nil, rows_len, zs]; first | done | omega)) only [hv0, d0_0, d0_1, d0_2, d0_3, d0_4, d0_5, d0_6, d0_7, hv1, c1_0, c1_1, c1_2, c1_3, c1_4, c1_5, c1_6, c1_7, c1_8, c1_9, c1_10, c1_11, c1_12, c1_13, c1_14, c1_15, gs, app_hsl, app_nil, reduceIte, reduceCtorEq, Nat.reduceAdd, Nat.reduceMul, Nat.reduceSub, Nat.reduceBEq, Nat.reduceEqDiff, Nat.reduceLeDiff, Nat.reduceLT, Nat.reduceGT, Int.reduceToNat, Int.reduceLT, Int.reduceLE, Int.reduceNeg, Int.reduceAdd, Int.reduceEq, Int.reduceNe])
    · rintro h v hh1 ⟨c1_0, c1_1, c1_2, c1_3, c1_4, c1_5, c1_6, c1_7, c1_8, c1_9, c1_10, c1_11, c1_12, c1_13, c1_14, c1_15⟩ hpost
      obtain ⟨kk1, nb1_0, rfl, lnb1_0, gnb1_0, wnb1_0⟩ := hpost
      have d1_0 : getCells hh1 0 2 = some [.i (.sl 1 (x0.plus.counts.map enc)), .i (.sl 1 (x0.minus.counts.map enc))] := (keep_get kk1 c1_1 (by first | (simp; done) | (simp; omega))).trans c1_0
      have d1_0l := keep_lt kk1 c1_1
      have d1_1 : getCells hh1 1 0 = some [] := (keep_get kk1 c1_3 (by first | (simp; done) | (simp; omega))).trans c1_2
      have d1_1l := keep_lt kk1 c1_3
      have d1_2 : getCells hh1 2 0 = some [] := (keep_get kk1 c1_5 (by first | (simp; done) | (simp; omega))).trans c1_4
      have d1_2l := keep_lt kk1 c1_5
      have d1_3 : getCells hh1 3 2 = some [.hsl 1 0 0 1 false 0, .hsl 2 0 0 1 false 0] := (keep_get kk1 c1_7 (by first | (simp; done) | (simp; omega))).trans c1_6
      have d1_3l := keep_lt kk1 c1_7
      have d1_4 : getCells hh1 4 0 = some [] := (keep_get kk1 c1_9 (by first | (simp; done) | (simp; omega))).trans c1_8
      have d1_4l := keep_lt kk1 c1_9
      have d1_5 : getCells hh1 5 0 = some [] := (keep_get kk1 c1_11 (by first | (simp; done) | (simp; omega))).trans c1_10
      have d1_5l := keep_lt kk1 c1_11
      have d1_6 : getCells hh1 6 2 = some [.hsl nb0_0 v0.counts.length 0 1 false v0.counts.length, .hsl 5 0 0 1 false 0] := (keep_get kk1 c1_13 (by first | (simp; done) | (simp; omega))).trans c1_12
      have d1_6l := keep_lt kk1 c1_13
      have d1_7 : getCells hh1 nb0_0 v0.counts.length = some (rows (v0.counts : List Int)) := (keep_get kk1 c1_15 (by first | (simp; done) | (simp; omega))).trans c1_14
      have d1_7l := keep_lt kk1 c1_15
      have d1_8 := wnb1_0
      have hp := Option.some.inj hp
      subst hp
      simp (disch := first | omega | (simp only [List.length_set, List.length_append, List.length_cons, List.length_nil, rows_len, zs]; first | done | omega)) only [hv0, d0_0, d0_1, d0_2, d0_3, d0_4, d0_5, d0_6, d0_7, hv1, d1_0, d1_1, d1_2, d1_3, d1_4, d1_5, d1_6, d1_7, d1_8, gs, app_hsl, app_nil, reduceIte, reduceCtorEq, Nat.reduceAdd, Nat.reduceMul, Nat.reduceSub, Nat.reduceBEq, Nat.reduceEqDiff, Nat.reduceLeDiff, Nat.reduceLT, Nat.reduceGT, Int.reduceToNat, Int.reduceLT, Int.reduceLE, Int.reduceNeg, Int.reduceAdd, Int.reduceEq, Int.reduceNe]
      refine ⟨nb0_0, nb1_0, ?_⟩
      simp (disch := first | omega | (simp only [List.length_set, List.length_append, List.length_cons, List.length_nil, rows_len, zs]; first | done | omega)) only [hv0, d0_0, d0_1, d0_2, d0_3, d0_4, d0_5, d0_6, d0_7, hv1, d1_0, d1_1, d1_2, d1_3, d1_4, d1_5, d1_6, d1_7, d1_8, o_laws_toCounter, gs, app_hsl, app_nil, reduceIte, reduceCtorEq, Nat.reduceAdd, Nat.reduceMul, Nat.reduceSub, Nat.reduceBEq, Nat.reduceEqDiff, Nat.reduceLeDiff, Nat.reduceLT, Nat.reduceGT, Int.reduceToNat, Int.reduceLT, Int.reduceLE, Int.reduceNeg, Int.reduceAdd, Int.reduceEq, Int.reduceNe] <;> omega
theorem ko_laws_toCounter {P : Program} {env : Env} {f_laws_toVector : Nat}  (e_laws_toVector : k_laws_toVector (env (2 * f_laws_toVector + 1))) : k_laws_toCounter (ownFn P env (c_laws_toCounter f_laws_toVector)) := by
  intro x0 b hp h args has
  obtain ⟨⟨v, H2⟩, hr, n0, n1, rfl, wn0, wn1, ne1_0⟩ := w_laws_toCounter e_laws_toVector x0 hp
  exact ⟨_, own_call has hr rfl, keep_moved, n0 + h.length, n1 + h.length, rfl, (moved_lt wn0).2, (moved_lt wn0).1, moved_rows wn0, (moved_lt wn1).2, (moved_lt wn1).1, moved_rows wn1, by omega⟩

noncomputable def p_spec_VecOK_l0 (x0 : TVec) : Int → Option (Lp (Int) Bool)
  | s1 =>
    if (decide (s1 < 16)) = true then
      (get? x0.counts s1).bind fun v3 =>
      if (decide (v3 < 0)) = true then
        some (.ret false)
      else
        if (decide (1000000000000 < v3)) = true then
          some (.ret false)
        else
          some (.go (w64 (s1 + 1)))
    else
      some (.out s1)
noncomputable def p_spec_VecOK (x0 : TVec) : Option Bool :=
  if (decide ((x0.counts.length : Int) = 16)) = true then
    (loopP (p_spec_VecOK_l0 x0) 0).bind fun ee0 => match ee0 with
    | .ret r => some r
    | .out o6 =>
      some true
  else
    some false
def c_spec_VecOK : AFn := ⟨26, (.seq (.ops [⟨(.some 1), (.box (.tmp 0)), .none, []⟩, ⟨(.some 2), (.mv (.const (.bool false))), .none, []⟩]) (.seq (.seq (.ops [⟨(.some 4), (.fieldA 0 (.tmp 1)), .none, []⟩, ⟨(.some 5), (.load 1 false (.tmp 4)), .none, []⟩, ⟨(.some 6), (.len (.tmp 5)), .none, []⟩, ⟨(.some 7), (.pu (.n (.ar .neq)) [(.tmp 6), (.const (.int .i64 16))]), .none, []⟩]) (.cond (.tmp 7) (.seq (.ops [⟨(.some 2), (.mv (.const (.bool false))), .none, []⟩]) .ret) .skip)) (.seq (.seq (.ops [⟨(.some 3), (.mv (.const (.int .i64 0))), .none, []⟩]) (.block 0 (.loop (.seq (.seq (.ops [⟨(.some 8), (.mv (.tmp 3)), .none, []⟩, ⟨(.some 9), (.pu (.n (.ar .lss)) [(.tmp 8), (.const (.int .i64 16))]), .none, []⟩]) (.cond (.tmp 9) .skip (.exit 0))) (.seq (.block 1 (.seq (.ops [⟨(.some 12), (.fieldA 0 (.tmp 1)), .none, []⟩, ⟨(.some 13), (.load 1 false (.tmp 12)), .none, []⟩, ⟨(.some 14), (.mv (.tmp 3)), .none, []⟩, ⟨(.some 15), (.idxS 1 (.tmp 13) (.tmp 14)), .none, []⟩, ⟨(.some 16), (.load 1 false (.tmp 15)), .none, []⟩, ⟨(.some 17), (.pu (.n (.ar .lss)) [(.tmp 16), (.const (.int .i64 0))]), .none, []⟩, ⟨(.some 18), (.mv (.tmp 17)), .none, []⟩, ⟨(.some 19), (.fieldA 0 (.tmp 1)), (.some (18, false)), []⟩, ⟨(.some 20), (.load 1 false (.tmp 19)), (.some (18, false)), []⟩, ⟨(.some 21), (.mv (.tmp 3)), (.some (18, false)), []⟩, ⟨(.some 22), (.idxS 1 (.tmp 20) (.tmp 21)), (.some (18, false)), []⟩, ⟨(.some 23), (.load 1 false (.tmp 22)), (.some (18, false)), []⟩, ⟨(.some 24), (.pu (.n (.ar .gtr)) [(.tmp 23), (.const (.int .i64 1000000000000))]), (.some (18, false)), []⟩, ⟨(.some 25), (.pick (.tmp 18) (.const (.bool true)) (.tmp 24)), .none, []⟩]) (.cond (.tmp 25) (.seq (.ops [⟨(.some 2), (.mv (.const (.bool false))), .none, []⟩]) .ret) .skip))) (.ops [⟨(.some 10), (.mv (.tmp 3)), .none, []⟩, ⟨(.some 11), (.pu (.n (.ar .add)) [(.tmp 10), (.const (.int .i64 1))]), .none, []⟩, ⟨(.some 3), (.mv (.tmp 11)), .none, []⟩])))))) (.seq (.ops [⟨(.some 2), (.mv (.const (.bool true))), .none, []⟩]) .ret)))), [(.tmp 2)]⟩
set_option maxHeartbeats 10000000 in
theorem d_spec_VecOK {P : Program} {env : Env}  (x0 : TVec) {b : Bool} (hp : p_spec_VecOK x0 = some b) : R P env (c_spec_VecOK) ((encA (x0)).map ofI) [] (Tells true b) := by
  refine R_of (by simp [c_spec_VecOK, encA]) ?_
  unfold c_spec_VecOK
  unfold p_spec_VecOK at hp
  by_cases hb0 : (decide ((x0.counts.length : Int) = 16)) = true
  · rw [if_t hb0] at hp
    obtain ⟨ee0, hee0, hp⟩ := bind_eq hp
    simp (disch := first | omega | (simp only [List.length_set, List.length_append, List.length_cons, List.length_nil, rows_len, zs]; first | done | omega)) only [hb0, gs, app_hsl, app_nil, reduceIte, reduceCtorEq, Nat.reduceAdd, Nat.reduceMul, Nat.reduceSub, Nat.reduceBEq, Nat.reduceEqDiff, Nat.reduceLeDiff, Nat.reduceLT, Nat.reduceGT, Int.reduceToNat, Int.reduceLT, Int.reduceLE, Int.reduceNeg, Int.reduceAdd, Int.reduceEq, Int.reduceNe]
    refine W_loopP 0 (fun s t h => match s with | s1 => t 1 = .ptr 0 1 0 ∧ t 3 = .i (.s (.int .i64 s1)) ∧ getCells h 0 1 = some [.i (.sl 1 (x0.counts.map enc))] ∧ 0 < h.length) (RK [.tmp 2] (Tells true)) ?_ hee0 ?_ ?_
    · rintro s1 ee tt0 hh0 ⟨ftt0_0, ftt0_1, ftt0_2, ftt0_3⟩ hp
      rw [p_spec_VecOK_l0] at hp
      by_cases hb2 : (decide (s1 < 16)) = true
      · rw [if_t hb2] at hp
        obtain ⟨v3, hv3, hp⟩ := bind_eq hp
        by_cases hb4 : (decide (v3 < 0)) = true
        · rw [if_t hb4] at hp
          have hp := Option.some.inj hp
          subst hp
          simp (disch := first | omega | (simp only [List.length_set, List.length_append, List.length_cons, List.length_nil, rows_len, zs]; first | done | omega)) only [hb0, ftt0_0, ftt0_1, ftt0_2, ftt0_3, hb2, hv3, hb4, gs, app_hsl, app_nil, reduceIte, reduceCtorEq, Nat.reduceAdd, Nat.reduceMul, Nat.reduceSub, Nat.reduceBEq, Nat.reduceEqDiff, Nat.reduceLeDiff, Nat.reduceLT, Nat.reduceGT, Int.reduceToNat, Int.reduceLT, Int.reduceLE, Int.reduceNeg, Int.reduceAdd, Int.reduceEq, Int.reduceNe]
        · replace hb4 := eq_false_of_ne_true hb4
          rw [if_f hb4] at hp
          by_cases hb5 : (decide (1000000000000 < v3)) = true
          · rw [if_t hb5] at hp
            have hp := Option.some.inj hp
            subst hp
            simp (disch := first | omega | (simp only [List.length_set, List.length_append, List.length_cons, List.length_nil, rows_len, zs]; first | done | omega)) only [hb0, ftt0_0, ftt0_1, ftt0_2, ftt0_3, hb2, hv3, hb4, hb5, gs, app_hsl, app_nil, reduceIte, reduceCtorEq, Nat.reduceAdd, Nat.reduceMul, Nat.reduceSub, Nat.reduceBEq, Nat.reduceEqDiff, Nat.reduceLeDiff, Nat.reduceLT, Nat.reduceGT, Int.reduceToNat, Int.reduceLT, Int.reduceLE, Int.reduceNeg, Int.reduceAdd, Int.reduceEq, Int.reduceNe]
          · replace hb5 := eq_false_of_ne_true hb5
            rw [if_f hb5] at hp
            have hp := Option.some.inj hp
            subst hp
            simp (disch := first | omega | (simp only [List.length_set, List.length_append, List.length_cons, List.length_nil, rows_len, zs]; first | done | omega)) only [hb0, ftt0_0, ftt0_1, ftt0_2, ftt0_3, hb2, hv3, hb4, hb5, gs, app_hsl, app_nil, reduceIte, reduceCtorEq, Nat.reduceAdd, Nat.reduceMul, Nat.reduceSub, Nat.reduceBEq, Nat.reduceEqDiff, Nat.reduceLeDiff, Nat.reduceLT, Nat.reduceGT, Int.reduceToNat, Int.reduceLT, Int.reduceLE, Int.reduceNeg, Int.reduceAdd, Int.reduceEq, Int.reduceNe] <;> omega
      · replace hb2 := eq_false_of_ne_true hb2
        rw [if_f hb2] at hp
        have hp := Option.some.inj hp
        subst hp
        simp (disch := first | omega | (simp only [List.length_set, List.length_append, List.length_cons, List.length_nil, rows_len, zs]; first | done | omega)) only [hb0, ftt0_0, ftt0_1, ftt0_2, ftt0_3, hb2, gs, app_hsl, app_nil, reduceIte, reduceCtorEq, Nat.reduceAdd, Nat.reduceMul, Nat.reduceSub, Nat.reduceBEq, Nat.reduceEqDiff, Nat.reduceLeDiff, Nat.reduceLT, Nat.reduceGT, Int.reduceToNat, Int.reduceLT, Int.reduceLE, Int.reduceNeg, Int.reduceAdd, Int.reduceEq, Int.reduceNe] <;> omega
    · simp (disch := first | omega | (simp only [List.length_set, List.length_append, List.length_cons, List.length_nil, rows_len, zs]; first | done | omega)) only [hb0, gs, app_hsl, app_nil, reduceIte, reduceCtorEq, Nat.reduceAdd, Nat.reduceMul, Nat.reduceSub, Nat.reduceBEq, Nat.reduceEqDiff, Nat.reduceLeDiff, Nat.reduceLT, Nat.reduceGT, Int.reduceToNat, Int.reduceLT, Int.reduceLE, Int.reduceNeg, Int.reduceAdd, Int.reduceEq, Int.reduceNe] <;> omega
    · intro x tt1 hh1 hx
      rcases ee0 with o6 | r
      · obtain ⟨rfl, ftt1_0, ftt1_1, ftt1_2, ftt1_3⟩ := hx
        dsimp only at hp
        have hp := Option.some.inj hp
        subst hp
        simp (disch := first | omega | (simp only [List.length_set, List.length_append, List.length_cons, List.length_nil, rows_len, zs]; first | done | omega)) only [hb0, ftt1_0, ftt1_1, ftt1_2, ftt1_3, gs, app_hsl, app_nil, reduceIte, reduceCtorEq, Nat.reduceAdd, Nat.reduceMul, Nat.reduceSub, Nat.reduceBEq, Nat.reduceEqDiff, Nat.reduceLeDiff, Nat.reduceLT, Nat.reduceGT, Int.reduceToNat, Int.reduceLT, Int.reduceLE, Int.reduceNeg, Int.reduceAdd, Int.reduceEq, Int.reduceNe]
      · obtain ⟨rfl, hx⟩ := hx
        dsimp only at hp
        cases hp
        simp only [seqK_ret, blockK_ret, retK_RK (K := Tells true), hx, and_self, true_and]
  · replace hb0 := eq_false_of_ne_true hb0
    rw [if_f hb0] at hp
    have hp := Option.some.inj hp
    subst hp
    simp (disch := first | omega | (simp only [List.length_set, List.length_append, List.length_cons, List.length_nil, rows_len, zs]; first | done | omega)) only [hb0, gs, app_hsl, app_nil, reduceIte, reduceCtorEq, Nat.reduceAdd, Nat.reduceMul, Nat.reduceSub, Nat.reduceBEq, Nat.reduceEqDiff, Nat.reduceLeDiff, Nat.reduceLT, Nat.reduceGT, Int.reduceToNat, Int.reduceLT, Int.reduceLE, Int.reduceNeg, Int.reduceAdd, Int.reduceEq, Int.reduceNe]

noncomputable def p_spec_l03CounterOK (x0 : TCounter) : Option Bool :=
  (p_spec_VecOK x0.plus).bind fun v0 =>
  if (v0) = true then
    (p_spec_VecOK x0.minus).bind fun v2 =>
    some v2
  else
    some false
def c_spec_l03CounterOK (f_spec_VecOK : Nat) : AFn := ⟨11, (.seq (.ops [⟨(.some 1), (.box (.tmp 0)), .none, []⟩, ⟨(.some 2), (.mv (.const (.bool false))), .none, []⟩]) (.seq (.ops [⟨(.some 3), (.fieldA 0 (.tmp 1)), .none, []⟩, ⟨(.some 4), (.load 1 true (.tmp 3)), .none, []⟩, ⟨(.some 5), (.call (2 * f_spec_VecOK) [(.tmp 4)]), .none, []⟩, ⟨(.some 6), (.mv (.tmp 5)), .none, []⟩, ⟨(.some 7), (.fieldA 1 (.tmp 1)), (.some (6, true)), []⟩, ⟨(.some 8), (.load 1 true (.tmp 7)), (.some (6, true)), []⟩, ⟨(.some 9), (.call (2 * f_spec_VecOK) [(.tmp 8)]), (.some (6, true)), []⟩, ⟨(.some 10), (.pick (.tmp 6) (.tmp 9) (.const (.bool false))), .none, []⟩, ⟨(.some 2), (.mv (.tmp 10)), .none, []⟩]) .ret)), [(.tmp 2)]⟩
set_option maxHeartbeats 10000000 in
theorem d_spec_l03CounterOK {P : Program} {env : Env} {f_spec_VecOK : Nat}  (ep_spec_VecOK : env (2 * f_spec_VecOK) = pureFn true (FA fun a : TVec => p_spec_VecOK a)) (x0 : TCounter) {b : Bool} (hp : p_spec_l03CounterOK x0 = some b) : R P env (c_spec_l03CounterOK f_spec_VecOK) ((encA (x0)).map ofI) [] (Tells true b) := by
  refine R_of (by simp [c_spec_l03CounterOK, encA]) ?_
  unfold c_spec_l03CounterOK
  unfold p_spec_l03CounterOK at hp
  obtain ⟨v0, hv0, hp⟩ := bind_eq hp
  by_cases hb1 : (v0) = true
  · rw [if_t hb1] at hp
    obtain ⟨v2, hv2, hp⟩ := bind_eq hp
    have hp := Option.some.inj hp
    subst hp
    simp (disch := first | omega | (simp only [List.length_set, List.length_append, List.length_cons, List.length_nil, rows_len, zs]; first | done | omega)) only [ep_spec_VecOK, hv0, hb1, hv2, gs, app_hsl, app_nil, reduceIte, reduceCtorEq, Nat.reduceAdd, Nat.reduceMul, Nat.reduceSub, Nat.reduceBEq, Nat.reduceEqDiff, Nat.reduceLeDiff, Nat.reduceLT, Nat.reduceGT, Int.reduceToNat, Int.reduceLT, Int.reduceLE, Int.reduceNeg, Int.reduceAdd, Int.reduceEq, Int.reduceNe]
  · replace hb1 := eq_false_of_ne_true hb1
    rw [if_f hb1] at hp
    have hp := Option.some.inj hp
    subst hp
    simp (disch := first | omega | (simp only [List.length_set, List.length_append, List.length_cons, List.length_nil, rows_len, zs]; first | done | omega)) only [ep_spec_VecOK, hv0, hb1, gs, app_hsl, app_nil, reduceIte, reduceCtorEq, Nat.reduceAdd, Nat.reduceMul, Nat.reduceSub, Nat.reduceBEq, Nat.reduceEqDiff, Nat.reduceLeDiff, Nat.reduceLT, Nat.reduceGT, Int.reduceToNat, Int.reduceLT, Int.reduceLE, Int.reduceNeg, Int.reduceAdd, Int.reduceEq, Int.reduceNe]

noncomputable def p_spec_l02Join_l0 (x0 : TVec) (x1 : TVec) : List Int × Int → Option (Lp (List Int × Int) TVec)
  | (s0, s1) =>
    if (decide (s1 < 16)) = true then
      (get? x0.counts s1).bind fun v3 =>
      (get? x1.counts s1).bind fun v4 =>
      (app? 8 s0 ([(if v4 > v3 then v4 else v3)])).bind fun v5 =>
      some (.go (v5, w64 (s1 + 1)))
    else
      some (.out (s0, s1))
noncomputable def p_spec_l02Join (x0 : TVec) (x1 : TVec) : Option TVec :=
  (loopP (p_spec_l02Join_l0 x0 x1) (([] : List Int), 0)).bind fun ee0 => match ee0 with
  | .ret r => some r
  | .out (o6, o7) =>
    some (TVec.mk o6)
def c_spec_l02Join : AFn := ⟨29, (.seq (.ops [⟨(.some 2), (.box (.tmp 0)), .none, []⟩, ⟨(.some 3), (.box (.tmp 1)), .none, []⟩, ⟨(.some 4), (.allocV [(1, false)] [(.slice .none 0 0)]), .none, []⟩]) (.seq (.ops [⟨(.some 7), (.build [(.slice .none 0 0)] []), .none, []⟩, ⟨(.some 5), (.allocV [(1, false)] [(.slice .none 0 0)]), .none, []⟩, ⟨.none, (.storeV [(1, false)] 1 (.tmp 5) (.tmp 7)), .none, []⟩]) (.seq (.seq (.ops [⟨(.some 6), (.mv (.const (.int .i64 0))), .none, []⟩]) (.block 0 (.loop (.seq (.seq (.ops [⟨(.some 8), (.mv (.tmp 6)), .none, []⟩, ⟨(.some 9), (.pu (.n (.ar .lss)) [(.tmp 8), (.const (.int .i64 16))]), .none, []⟩]) (.cond (.tmp 9) .skip (.exit 0))) (.seq (.block 1 (.ops [⟨(.some 12), (.fieldA 0 (.tmp 5)), .none, []⟩, ⟨(.some 13), (.load 1 false (.tmp 12)), .none, []⟩, ⟨(.some 14), (.fieldA 0 (.tmp 2)), .none, []⟩, ⟨(.some 15), (.load 1 false (.tmp 14)), .none, []⟩, ⟨(.some 16), (.mv (.tmp 6)), .none, []⟩, ⟨(.some 17), (.idxS 1 (.tmp 15) (.tmp 16)), .none, []⟩, ⟨(.some 18), (.load 1 false (.tmp 17)), .none, []⟩, ⟨(.some 19), (.fieldA 0 (.tmp 3)), .none, []⟩, ⟨(.some 20), (.load 1 false (.tmp 19)), .none, []⟩, ⟨(.some 21), (.mv (.tmp 6)), .none, []⟩, ⟨(.some 22), (.idxS 1 (.tmp 20) (.tmp 21)), .none, []⟩, ⟨(.some 23), (.load 1 false (.tmp 22)), .none, []⟩, ⟨(.some 24), (.pu (.n .max) [(.tmp 18), (.tmp 23)]), .none, []⟩, ⟨(.some 25), (.buildSl 1 false 1 [(.int .i64 0)] [(0, (.tmp 24))]), .none, []⟩, ⟨(.some 26), (.append 1 false 8 (.tmp 13) (.tmp 25)), .none, []⟩, ⟨(.some 27), (.fieldA 0 (.tmp 5)), .none, []⟩, ⟨.none, (.store 1 (.tmp 27) (.tmp 26)), .none, []⟩])) (.ops [⟨(.some 10), (.mv (.tmp 6)), .none, []⟩, ⟨(.some 11), (.pu (.n (.ar .add)) [(.tmp 10), (.const (.int .i64 1))]), .none, []⟩, ⟨(.some 6), (.mv (.tmp 11)), .none, []⟩])))))) (.seq (.ops [⟨(.some 28), (.load 1 true (.tmp 5)), .none, []⟩, ⟨.none, (.storeV [(1, false)] 1 (.tmp 4) (.tmp 28)), .none, []⟩]) .ret)))), [(.cell 4 1 true)]⟩
set_option maxHeartbeats 10000000 in
theorem d_spec_l02Join {P : Program} {env : Env}  (x0 : TVec) (x1 : TVec) {b : TVec} (hp : p_spec_l02Join x0 x1 = some b) : R P env (c_spec_l02Join) ((encA (x0, x1)).map ofI) [] (Tells true b) := by
  refine R_of (by simp [c_spec_l02Join, encA]) ?_
  unfold c_spec_l02Join
  unfold p_spec_l02Join at hp
  obtain ⟨ee0, hee0, hp⟩ := bind_eq hp
  simp (disch := first | omega | (simp only [List.length_set, List.length_append, List.length_cons, List.length_nil, rows_len, zs]; first | done | omega)) only [gs, app_hsl, app_nil, reduceIte, reduceCtorEq, Nat.reduceAdd, Nat.reduceMul, Nat.reduceSub, Nat.reduceBEq, Nat.reduceEqDiff, Nat.reduceLeDiff, Nat.reduceLT, Nat.reduceGT, Int.reduceToNat, Int.reduceLT, Int.reduceLE, Int.reduceNeg, Int.reduceAdd, Int.reduceEq, Int.reduceNe]
  refine W_loopP 0 (fun s t h => match s with | (s0, s1) => t 2 = .ptr 0 1 0 ∧ t 3 = .ptr 1 1 0 ∧ t 4 = .ptr 3 1 0 ∧ t 5 = .ptr 5 1 0 ∧ t 6 = .i (.s (.int .i64 s1)) ∧ getCells h 0 1 = some [.i (.sl 1 (x0.counts.map enc))] ∧ 0 < h.length ∧ getCells h 1 1 = some [.i (.sl 1 (x1.counts.map enc))] ∧ 1 < h.length ∧ getCells h 2 0 = some (rows ([] : List Int)) ∧ 2 < h.length ∧ getCells h 3 1 = some [.hsl 2 0 0 1 false 0] ∧ 3 < h.length ∧ getCells h 5 1 = some [.hsl 6 s0.length 0 1 false s0.length] ∧ 5 < h.length ∧ getCells h 6 s0.length = some (rows (s0 : List Int)) ∧ 6 < h.length) (RK [.cell 4 1 true] (Tells true)) ?_ hee0 ?_ ?_
  · rintro ⟨s0, s1⟩ ee tt0 hh0 ⟨ftt0_0, ftt0_1, ftt0_2, ftt0_3, ftt0_4, ftt0_5, ftt0_6, ftt0_7, ftt0_8, ftt0_9, ftt0_10, ftt0_11, ftt0_12, ftt0_13, ftt0_14, ftt0_15, ftt0_16⟩ hp
    have ztt0_9 := len_rows ftt0_9
    simp only [zs] at ztt0_9
    rw [p_spec_l02Join_l0] at hp
    by_cases hb2 : (decide (s1 < 16)) = true
    · rw [if_t hb2] at hp
      obtain ⟨v3, hv3, hp⟩ := bind_eq hp
      obtain ⟨v4, hv4, hp⟩ := bind_eq hp
      obtain ⟨v5, hv5, hp⟩ := bind_eq hp
      obtain ⟨kv5, qv5, lv5⟩ := app_some hv5
      have rv5 : rows s0 ++ [.i (.s (.int .i64 (if v4 > v3 then v4 else v3)))] = rows v5 := by rw [qv5, rows_append]; rfl
      have mv5 : s0.length + 1 = v5.length := by simp at lv5; omega
      have nv5 : (s0.length + 1) * 8 ≤ 140737488355328 := by simp at kv5; omega
      have hp := Option.some.inj hp
      subst hp
      simp (disch := first | omega | (simp only [List.length_set, List.length_append, List.length_cons, List.length_nil, rows_len, zs]; first | done | omega)) only [ftt0_0, ftt0_1, ftt0_2, ftt0_3, ftt0_4, ftt0_5, ftt0_6, ftt0_7, ftt0_8, ftt0_9, ftt0_10, ftt0_11, ftt0_12, ftt0_13, ftt0_14, ftt0_15, ftt0_16, hb2, hv3, hv4, hv5, rv5, nv5, gs, app_hsl, app_nil, reduceIte, reduceCtorEq, Nat.reduceAdd, Nat.reduceMul, Nat.reduceSub, Nat.reduceBEq, Nat.reduceEqDiff, Nat.reduceLeDiff, Nat.reduceLT, Nat.reduceGT, Int.reduceToNat, Int.reduceLT, Int.reduceLE, Int.reduceNeg, Int.reduceAdd, Int.reduceEq, Int.reduceNe] <;> omega
    · replace hb2 := eq_false_of_ne_true hb2
      rw [if_f hb2] at hp
      have hp := Option.some.inj hp
      subst hp
      simp (disch := first | omega | (simp only [List.length_set, List.length_append, List.length_cons, List.length_nil, rows_len, zs]; first | done | omega)) only [ftt0_0, ftt0_1, ftt0_2, ftt0_3, ftt0_4, ftt0_5, ftt0_6, ftt0_7, ftt0_8, ftt0_9, ftt0_10, ftt0_11, ftt0_12, ftt0_13, ftt0_14, ftt0_15, ftt0_16, hb2, gs, app_hsl, app_nil, reduceIte, reduceCtorEq, Nat.reduceAdd, Nat.reduceMul, Nat.reduceSub, Nat.reduceBEq, Nat.reduceEqDiff, Nat.reduceLeDiff, Nat.reduceLT, Nat.reduceGT, Int.reduceToNat, Int.reduceLT, Int.reduceLE, Int.reduceNeg, Int.reduceAdd, Int.reduceEq, Int.reduceNe] <;> omega
  · simp (disch := first | omega | (simp only [List.length_set, List.length_append, List.length_cons, List.length_nil, rows_len, zs]; first | done | omega)) only [gs, app_hsl, app_nil, reduceIte, reduceCtorEq, Nat.reduceAdd, Nat.reduceMul, Nat.reduceSub, Nat.reduceBEq, Nat.reduceEqDiff, Nat.reduceLeDiff, Nat.reduceLT, Nat.reduceGT, Int.reduceToNat, Int.reduceLT, Int.reduceLE, Int.reduceNeg, Int.reduceAdd, Int.reduceEq, Int.reduceNe] <;> omega
  · intro x tt1 hh1 hx
    rcases ee0 with ⟨o6, o7⟩ | r
    · obtain ⟨rfl, ftt1_0, ftt1_1, ftt1_2, ftt1_3, ftt1_4, ftt1_5, ftt1_6, ftt1_7, ftt1_8, ftt1_9, ftt1_10, ftt1_11, ftt1_12, ftt1_13, ftt1_14, ftt1_15, ftt1_16⟩ := hx
      have ztt1_9 := len_rows ftt1_9
      simp only [zs] at ztt1_9
      dsimp only at hp
      have hp := Option.some.inj hp
      subst hp
      simp (disch := first | omega | (simp only [List.length_set, List.length_append, List.length_cons, List.length_nil, rows_len, zs]; first | done | omega)) only [ftt1_0, ftt1_1, ftt1_2, ftt1_3, ftt1_4, ftt1_5, ftt1_6, ftt1_7, ftt1_8, ftt1_9, ftt1_10, ftt1_11, ftt1_12, ftt1_13, ftt1_14, ftt1_15, ftt1_16, gs, app_hsl, app_nil, reduceIte, reduceCtorEq, Nat.reduceAdd, Nat.reduceMul, Nat.reduceSub, Nat.reduceBEq, Nat.reduceEqDiff, Nat.reduceLeDiff, Nat.reduceLT, Nat.reduceGT, Int.reduceToNat, Int.reduceLT, Int.reduceLE, Int.reduceNeg, Int.reduceAdd, Int.reduceEq, Int.reduceNe]
    · obtain ⟨rfl, hx⟩ := hx
      dsimp only at hp
      cases hp
      simp only [seqK_ret, blockK_ret, retK_RK (K := Tells true), hx, and_self, true_and]

noncomputable def p_spec_CounterJoin (x0 : TCounter) (x1 : TCounter) : Option (T2 TCounter Int) :=
  (p_spec_l03CounterOK x0).bind fun v0 =>
  if (v0) = true then
    (p_spec_l03CounterOK x1).bind fun v2 =>
    if (v2) = true then
      (p_spec_l02Join x0.plus x1.plus).bind fun v4 =>
      (p_spec_l02Join x0.minus x1.minus).bind fun v5 =>
      some ⟨(TCounter.mk v4 v5), 0⟩
    else
      some ⟨(TCounter.mk (TVec.mk ([])) (TVec.mk ([]))), 1⟩
  else
    some ⟨(TCounter.mk (TVec.mk ([])) (TVec.mk ([]))), 1⟩
def c_spec_CounterJoin (f_spec_l03CounterOK : Nat) (f_spec_l02Join : Nat) : AFn := ⟨26, (.seq (.ops [⟨(.some 2), (.box (.tmp 0)), .none, []⟩, ⟨(.some 3), (.box (.tmp 1)), .none, []⟩, ⟨(.some 4), (.allocV [(1, false), (1, false)] [(.slice .none 0 0), (.slice .none 0 0)]), .none, []⟩, ⟨(.some 5), (.mv (.const (.int .i64 0))), .none, []⟩]) (.seq (.seq (.ops [⟨(.some 6), (.load 2 true (.tmp 2)), .none, []⟩, ⟨(.some 7), (.call (2 * f_spec_l03CounterOK) [(.tmp 6)]), .none, []⟩, ⟨(.some 8), (.pu (.n (.un .not)) [(.tmp 7)]), .none, []⟩, ⟨(.some 9), (.mv (.tmp 8)), .none, []⟩, ⟨(.some 10), (.load 2 true (.tmp 3)), (.some (9, false)), []⟩, ⟨(.some 11), (.call (2 * f_spec_l03CounterOK) [(.tmp 10)]), (.some (9, false)), []⟩, ⟨(.some 12), (.pu (.n (.un .not)) [(.tmp 11)]), (.some (9, false)), []⟩, ⟨(.some 13), (.pick (.tmp 9) (.const (.bool true)) (.tmp 12)), .none, []⟩]) (.cond (.tmp 13) (.seq (.ops [⟨(.some 14), (.build [(.slice .none 0 0), (.slice .none 0 0)] []), .none, []⟩, ⟨.none, (.storeV [(1, false), (1, false)] 2 (.tmp 4) (.tmp 14)), .none, []⟩, ⟨(.some 5), (.mv (.const (.int .i64 1))), .none, []⟩]) .ret) .skip)) (.seq (.ops [⟨(.some 15), (.fieldA 0 (.tmp 2)), .none, []⟩, ⟨(.some 16), (.load 1 true (.tmp 15)), .none, []⟩, ⟨(.some 17), (.fieldA 0 (.tmp 3)), .none, []⟩, ⟨(.some 18), (.load 1 true (.tmp 17)), .none, []⟩, ⟨(.some 19), (.call (2 * f_spec_l02Join) [(.tmp 16), (.tmp 18)]), .none, []⟩, ⟨(.some 20), (.fieldA 1 (.tmp 2)), .none, []⟩, ⟨(.some 21), (.load 1 true (.tmp 20)), .none, []⟩, ⟨(.some 22), (.fieldA 1 (.tmp 3)), .none, []⟩, ⟨(.some 23), (.load 1 true (.tmp 22)), .none, []⟩, ⟨(.some 24), (.call (2 * f_spec_l02Join) [(.tmp 21), (.tmp 23)]), .none, []⟩, ⟨(.some 25), (.build [(.slice .none 0 0), (.slice .none 0 0)] [(0, (1, (.tmp 19))), (1, (1, (.tmp 24)))]), .none, []⟩, ⟨.none, (.store 2 (.tmp 4) (.tmp 25)), .none, []⟩, ⟨(.some 5), (.mv (.const (.int .i64 0))), .none, []⟩]) .ret))), [(.cell 4 2 true), (.tmp 5)]⟩
set_option maxHeartbeats 10000000 in
theorem d_spec_CounterJoin {P : Program} {env : Env} {f_spec_l03CounterOK : Nat} {f_spec_l02Join : Nat}  (ep_spec_l03CounterOK : env (2 * f_spec_l03CounterOK) = pureFn true (FA fun a : TCounter => p_spec_l03CounterOK a)) (ep_spec_l02Join : env (2 * f_spec_l02Join) = pureFn true (FA fun a : TVec × TVec => p_spec_l02Join a.1 a.2)) (x0 : TCounter) (x1 : TCounter) {b : T2 TCounter Int} (hp : p_spec_CounterJoin x0 x1 = some b) : R P env (c_spec_CounterJoin f_spec_l03CounterOK f_spec_l02Join) ((encA (x0, x1)).map ofI) [] (Tells false b) := by
  refine R_of (by simp [c_spec_CounterJoin, encA]) ?_
  unfold c_spec_CounterJoin
  unfold p_spec_CounterJoin at hp
  obtain ⟨v0, hv0, hp⟩ := bind_eq hp
  by_cases hb1 : (v0) = true
  · rw [if_t hb1] at hp
    obtain ⟨v2, hv2, hp⟩ := bind_eq hp
    by_cases hb3 : (v2) = true
    · rw [if_t hb3] at hp
      obtain ⟨v4, hv4, hp⟩ := bind_eq hp
      obtain ⟨v5, hv5, hp⟩ := bind_eq hp
      have hp := Option.some.inj hp
      subst hp
      simp (disch := first | omega | (simp only [List.length_set, List.length_append, List.length_cons, List.length_nil, rows_len, zs]; first | done | omega)) only [ep_spec_l03CounterOK, ep_spec_l02Join, hv0, hb1, hv2, hb3, hv4, hv5, gs, app_hsl, app_nil, reduceIte, reduceCtorEq, Nat.reduceAdd, Nat.reduceMul, Nat.reduceSub, Nat.reduceBEq, Nat.reduceEqDiff, Nat.reduceLeDiff, Nat.reduceLT, Nat.reduceGT, Int.reduceToNat, Int.reduceLT, Int.reduceLE, Int.reduceNeg, Int.reduceAdd, Int.reduceEq, Int.reduceNe]
    · replace hb3 := eq_false_of_ne_true hb3
      rw [if_f hb3] at hp
      have hp := Option.some.inj hp
      subst hp
      simp (disch := first | omega | (simp only [List.length_set, List.length_append, List.length_cons, List.length_nil, rows_len, zs]; first | done | omega)) only [ep_spec_l03CounterOK, ep_spec_l02Join, hv0, hb1, hv2, hb3, gs, app_hsl, app_nil, reduceIte, reduceCtorEq, Nat.reduceAdd, Nat.reduceMul, Nat.reduceSub, Nat.reduceBEq, Nat.reduceEqDiff, Nat.reduceLeDiff, Nat.reduceLT, Nat.reduceGT, Int.reduceToNat, Int.reduceLT, Int.reduceLE, Int.reduceNeg, Int.reduceAdd, Int.reduceEq, Int.reduceNe]
  · replace hb1 := eq_false_of_ne_true hb1
    rw [if_f hb1] at hp
    have hp := Option.some.inj hp
    subst hp
    simp (disch := first | omega | (simp only [List.length_set, List.length_append, List.length_cons, List.length_nil, rows_len, zs]; first | done | omega)) only [ep_spec_l03CounterOK, ep_spec_l02Join, hv0, hb1, gs, app_hsl, app_nil, reduceIte, reduceCtorEq, Nat.reduceAdd, Nat.reduceMul, Nat.reduceSub, Nat.reduceBEq, Nat.reduceEqDiff, Nat.reduceLeDiff, Nat.reduceLT, Nat.reduceGT, Int.reduceToNat, Int.reduceLT, Int.reduceLE, Int.reduceNeg, Int.reduceAdd, Int.reduceEq, Int.reduceNe]

noncomputable def p_impl_VecOK_l0 (x0 : TVec) : Int → Option (Lp (Int) Bool)
  | s1 =>
    if (decide (s1 < (x0.counts.length : Int))) = true then
      (get? x0.counts s1).bind fun v3 =>
      if (decide (v3 < 0)) = true then
        some (.ret false)
      else
        if (decide (1000000000000 < v3)) = true then
          some (.ret false)
        else
          some (.go (w64 (s1 + 1)))
    else
      some (.out s1)
noncomputable def p_impl_VecOK (x0 : TVec) : Option Bool :=
  if (decide ((x0.counts.length : Int) = 16)) = true then
    (loopP (p_impl_VecOK_l0 x0) 0).bind fun ee0 => match ee0 with
    | .ret r => some r
    | .out o6 =>
      some true
  else
    some false
def c_impl_VecOK : AFn := ⟨23, (.seq (.ops [⟨(.some 1), (.box (.tmp 0)), .none, []⟩, ⟨(.some 2), (.mv (.const (.bool false))), .none, []⟩]) (.seq (.seq (.ops [⟨(.some 5), (.fieldA 0 (.tmp 1)), .none, []⟩, ⟨(.some 6), (.load 1 false (.tmp 5)), .none, []⟩, ⟨(.some 7), (.len (.tmp 6)), .none, []⟩, ⟨(.some 8), (.pu (.n (.ar .neq)) [(.tmp 7), (.const (.int .i64 16))]), .none, []⟩]) (.cond (.tmp 8) (.seq (.ops [⟨(.some 2), (.mv (.const (.bool false))), .none, []⟩]) .ret) .skip)) (.seq (.seq (.ops [⟨(.some 9), (.fieldA 0 (.tmp 1)), .none, []⟩, ⟨(.some 10), (.load 1 false (.tmp 9)), .none, []⟩, ⟨(.some 11), (.len (.tmp 10)), .none, []⟩, ⟨(.some 12), (.mv (.const (.int .i64 0))), .none, []⟩]) (.block 0 (.loop (.seq (.ops [⟨(.some 13), (.pu (.n (.ar .lss)) [(.tmp 12), (.tmp 11)]), .none, []⟩]) (.seq (.cond (.tmp 13) .skip (.exit 0)) (.seq (.block 1 (.seq (.ops [⟨(.some 14), (.idxS 1 (.tmp 10) (.tmp 12)), .none, []⟩, ⟨(.some 15), (.load 1 false (.tmp 14)), .none, []⟩, ⟨(.some 4), (.mv (.tmp 15)), .none, []⟩]) (.seq (.ops [⟨(.some 16), (.mv (.tmp 4)), .none, []⟩, ⟨(.some 17), (.pu (.n (.ar .lss)) [(.tmp 16), (.const (.int .i64 0))]), .none, []⟩, ⟨(.some 18), (.mv (.tmp 17)), .none, []⟩, ⟨(.some 19), (.mv (.tmp 4)), (.some (18, false)), []⟩, ⟨(.some 20), (.pu (.n (.ar .gtr)) [(.tmp 19), (.const (.int .i64 1000000000000))]), (.some (18, false)), []⟩, ⟨(.some 21), (.pick (.tmp 18) (.const (.bool true)) (.tmp 20)), .none, []⟩]) (.cond (.tmp 21) (.seq (.ops [⟨(.some 2), (.mv (.const (.bool false))), .none, []⟩]) .ret) .skip)))) (.ops [⟨(.some 22), (.pu (.n (.ar .add)) [(.tmp 12), (.const (.int .i64 1))]), .none, []⟩, ⟨(.some 12), (.mv (.tmp 22)), .none, []⟩]))))))) (.seq (.ops [⟨(.some 2), (.mv (.const (.bool true))), .none, []⟩]) .ret)))), [(.tmp 2)]⟩
set_option maxHeartbeats 10000000 in
theorem d_impl_VecOK {P : Program} {env : Env}  (x0 : TVec) {b : Bool} (hp : p_impl_VecOK x0 = some b) : R P env (c_impl_VecOK) ((encA (x0)).map ofI) [] (Tells true b) := by
  refine R_of (by simp [c_impl_VecOK, encA]) ?_
  unfold c_impl_VecOK
  unfold p_impl_VecOK at hp
  by_cases hb0 : (decide ((x0.counts.length : Int) = 16)) = true
  · rw [if_t hb0] at hp
    obtain ⟨ee0, hee0, hp⟩ := bind_eq hp
    simp (disch := first | omega | (simp only [List.length_set, List.length_append, List.length_cons, List.length_nil, rows_len, zs]; first | done | omega)) only [hb0, gs, app_hsl, app_nil, reduceIte, reduceCtorEq, Nat.reduceAdd, Nat.reduceMul, Nat.reduceSub, Nat.reduceBEq, Nat.reduceEqDiff, Nat.reduceLeDiff, Nat.reduceLT, Nat.reduceGT, Int.reduceToNat, Int.reduceLT, Int.reduceLE, Int.reduceNeg, Int.reduceAdd, Int.reduceEq, Int.reduceNe]
    refine W_loopP 0 (fun s t h => match s with | s1 => t 10 = .i (.sl 1 (x0.counts.map enc)) ∧ t 11 = .i (.s (.int .i64 (x0.counts.length : Int))) ∧ t 12 = .i (.s (.int .i64 s1))) (RK [.tmp 2] (Tells true)) ?_ hee0 ?_ ?_
    · rintro s1 ee tt0 hh0 ⟨ftt0_0, ftt0_1, ftt0_2⟩ hp
      rw [p_impl_VecOK_l0] at hp
      by_cases hb2 : (decide (s1 < (x0.counts.length : Int))) = true
      · rw [if_t hb2] at hp
        obtain ⟨v3, hv3, hp⟩ := bind_eq hp
        by_cases hb4 : (decide (v3 < 0)) = true
        · rw [if_t hb4] at hp
          have hp := Option.some.inj hp
          subst hp
          simp (disch := first | omega | (simp only [List.length_set, List.length_append, List.length_cons, List.length_nil, rows_len, zs]; first | done | omega)) only [hb0, ftt0_0, ftt0_1, ftt0_2, hb2, hv3, hb4, gs, app_hsl, app_nil, reduceIte, reduceCtorEq, Nat.reduceAdd, Nat.reduceMul, Nat.reduceSub, Nat.reduceBEq, Nat.reduceEqDiff, Nat.reduceLeDiff, Nat.reduceLT, Nat.reduceGT, Int.reduceToNat, Int.reduceLT, Int.reduceLE, Int.reduceNeg, Int.reduceAdd, Int.reduceEq, Int.reduceNe]
        · replace hb4 := eq_false_of_ne_true hb4
          rw [if_f hb4] at hp
          by_cases hb5 : (decide (1000000000000 < v3)) = true
          · rw [if_t hb5] at hp
            have hp := Option.some.inj hp
            subst hp
            simp (disch := first | omega | (simp only [List.length_set, List.length_append, List.length_cons, List.length_nil, rows_len, zs]; first | done | omega)) only [hb0, ftt0_0, ftt0_1, ftt0_2, hb2, hv3, hb4, hb5, gs, app_hsl, app_nil, reduceIte, reduceCtorEq, Nat.reduceAdd, Nat.reduceMul, Nat.reduceSub, Nat.reduceBEq, Nat.reduceEqDiff, Nat.reduceLeDiff, Nat.reduceLT, Nat.reduceGT, Int.reduceToNat, Int.reduceLT, Int.reduceLE, Int.reduceNeg, Int.reduceAdd, Int.reduceEq, Int.reduceNe]
          · replace hb5 := eq_false_of_ne_true hb5
            rw [if_f hb5] at hp
            have hp := Option.some.inj hp
            subst hp
            simp (disch := first | omega | (simp only [List.length_set, List.length_append, List.length_cons, List.length_nil, rows_len, zs]; first | done | omega)) only [hb0, ftt0_0, ftt0_1, ftt0_2, hb2, hv3, hb4, hb5, gs, app_hsl, app_nil, reduceIte, reduceCtorEq, Nat.reduceAdd, Nat.reduceMul, Nat.reduceSub, Nat.reduceBEq, Nat.reduceEqDiff, Nat.reduceLeDiff, Nat.reduceLT, Nat.reduceGT, Int.reduceToNat, Int.reduceLT, Int.reduceLE, Int.reduceNeg, Int.reduceAdd, Int.reduceEq, Int.reduceNe] <;> omega
      · replace hb2 := eq_false_of_ne_true hb2
        rw [if_f hb2] at hp
        have hp := Option.some.inj hp
        subst hp
        simp (disch := first | omega | (simp only [List.length_set, List.length_append, List.length_cons, List.length_nil, rows_len, zs]; first | done | omega)) only [hb0, ftt0_0, ftt0_1, ftt0_2, hb2, gs, app_hsl, app_nil, reduceIte, reduceCtorEq, Nat.reduceAdd, Nat.reduceMul, Nat.reduceSub, Nat.reduceBEq, Nat.reduceEqDiff, Nat.reduceLeDiff, Nat.reduceLT, Nat.reduceGT, Int.reduceToNat, Int.reduceLT, Int.reduceLE, Int.reduceNeg, Int.reduceAdd, Int.reduceEq, Int.reduceNe] <;> omega
    · simp (disch := first | omega | (simp only [List.length_set, List.length_append, List.length_cons, List.length_nil, rows_len, zs]; first | done | omega)) only [hb0, gs, app_hsl, app_nil, reduceIte, reduceCtorEq, Nat.reduceAdd, Nat.reduceMul, Nat.reduceSub, Nat.reduceBEq, Nat.reduceEqDiff, Nat.reduceLeDiff, Nat.reduceLT, Nat.reduceGT, Int.reduceToNat, Int.reduceLT, Int.reduceLE, Int.reduceNeg, Int.reduceAdd, Int.reduceEq, Int.reduceNe] <;> omega
    · intro x tt1 hh1 hx
      rcases ee0 with o6 | r
      · obtain ⟨rfl, ftt1_0, ftt1_1, ftt1_2⟩ := hx
        dsimp only at hp
        have hp := Option.some.inj hp
        subst hp
        simp (disch := first | omega | (simp only [List.length_set, List.length_append, List.length_cons, List.length_nil, rows_len, zs]; first | done | omega)) only [hb0, ftt1_0, ftt1_1, ftt1_2, gs, app_hsl, app_nil, reduceIte, reduceCtorEq, Nat.reduceAdd, Nat.reduceMul, Nat.reduceSub, Nat.reduceBEq, Nat.reduceEqDiff, Nat.reduceLeDiff, Nat.reduceLT, Nat.reduceGT, Int.reduceToNat, Int.reduceLT, Int.reduceLE, Int.reduceNeg, Int.reduceAdd, Int.reduceEq, Int.reduceNe]
      · obtain ⟨rfl, hx⟩ := hx
        dsimp only at hp
        cases hp
        simp only [seqK_ret, blockK_ret, retK_RK (K := Tells true), hx, and_self, true_and]
  · replace hb0 := eq_false_of_ne_true hb0
    rw [if_f hb0] at hp
    have hp := Option.some.inj hp
    subst hp
    simp (disch := first | omega | (simp only [List.length_set, List.length_append, List.length_cons, List.length_nil, rows_len, zs]; first | done | omega)) only [hb0, gs, app_hsl, app_nil, reduceIte, reduceCtorEq, Nat.reduceAdd, Nat.reduceMul, Nat.reduceSub, Nat.reduceBEq, Nat.reduceEqDiff, Nat.reduceLeDiff, Nat.reduceLT, Nat.reduceGT, Int.reduceToNat, Int.reduceLT, Int.reduceLE, Int.reduceNeg, Int.reduceAdd, Int.reduceEq, Int.reduceNe]

noncomputable def p_impl_counterOK (x0 : TCounter) : Option Bool :=
  (p_impl_VecOK x0.plus).bind fun v0 =>
  if (v0) = true then
    (p_impl_VecOK x0.minus).bind fun v2 =>
    some v2
  else
    some false
def c_impl_counterOK (f_impl_VecOK : Nat) : AFn := ⟨11, (.seq (.ops [⟨(.some 1), (.box (.tmp 0)), .none, []⟩, ⟨(.some 2), (.mv (.const (.bool false))), .none, []⟩]) (.seq (.ops [⟨(.some 3), (.fieldA 0 (.tmp 1)), .none, []⟩, ⟨(.some 4), (.load 1 true (.tmp 3)), .none, []⟩, ⟨(.some 5), (.call (2 * f_impl_VecOK) [(.tmp 4)]), .none, []⟩, ⟨(.some 6), (.mv (.tmp 5)), .none, []⟩, ⟨(.some 7), (.fieldA 1 (.tmp 1)), (.some (6, true)), []⟩, ⟨(.some 8), (.load 1 true (.tmp 7)), (.some (6, true)), []⟩, ⟨(.some 9), (.call (2 * f_impl_VecOK) [(.tmp 8)]), (.some (6, true)), []⟩, ⟨(.some 10), (.pick (.tmp 6) (.tmp 9) (.const (.bool false))), .none, []⟩, ⟨(.some 2), (.mv (.tmp 10)), .none, []⟩]) .ret)), [(.tmp 2)]⟩
set_option maxHeartbeats 10000000 in
theorem d_impl_counterOK {P : Program} {env : Env} {f_impl_VecOK : Nat}  (ep_impl_VecOK : env (2 * f_impl_VecOK) = pureFn true (FA fun a : TVec => p_impl_VecOK a)) (x0 : TCounter) {b : Bool} (hp : p_impl_counterOK x0 = some b) : R P env (c_impl_counterOK f_impl_VecOK) ((encA (x0)).map ofI) [] (Tells true b) := by
  refine R_of (by simp [c_impl_counterOK, encA]) ?_
  unfold c_impl_counterOK
  unfold p_impl_counterOK at hp
  obtain ⟨v0, hv0, hp⟩ := bind_eq hp
  by_cases hb1 : (v0) = true
  · rw [if_t hb1] at hp
    obtain ⟨v2, hv2, hp⟩ := bind_eq hp
    have hp := Option.some.inj hp
    subst hp
    simp (disch := first | omega | (simp only [List.length_set, List.length_append, List.length_cons, List.length_nil, rows_len, zs]; first | done | omega)) only [ep_impl_VecOK, hv0, hb1, hv2, gs, app_hsl, app_nil, reduceIte, reduceCtorEq, Nat.reduceAdd, Nat.reduceMul, Nat.reduceSub, Nat.reduceBEq, Nat.reduceEqDiff, Nat.reduceLeDiff, Nat.reduceLT, Nat.reduceGT, Int.reduceToNat, Int.reduceLT, Int.reduceLE, Int.reduceNeg, Int.reduceAdd, Int.reduceEq, Int.reduceNe]
  · replace hb1 := eq_false_of_ne_true hb1
    rw [if_f hb1] at hp
    have hp := Option.some.inj hp
    subst hp
    simp (disch := first | omega | (simp only [List.length_set, List.length_append, List.length_cons, List.length_nil, rows_len, zs]; first | done | omega)) only [ep_impl_VecOK, hv0, hb1, gs, app_hsl, app_nil, reduceIte, reduceCtorEq, Nat.reduceAdd, Nat.reduceMul, Nat.reduceSub, Nat.reduceBEq, Nat.reduceEqDiff, Nat.reduceLeDiff, Nat.reduceLT, Nat.reduceGT, Int.reduceToNat, Int.reduceLT, Int.reduceLE, Int.reduceNeg, Int.reduceAdd, Int.reduceEq, Int.reduceNe]

noncomputable def p_impl_vecJoin_l0 (x0 : TVec) (x1 : TVec) : List Int × Int → Option (Lp (List Int × Int) TVec)
  | (s1, s2) =>
    if (decide (s2 < 16)) = true then
      (get? x0.counts s2).bind fun v4 =>
      (get? x1.counts s2).bind fun v5 =>
      (get? s1 s2).bind fun v6 =>
      some (.go ((s1.set s2.toNat (if v5 > v4 then v5 else v4)), w64 (s2 + 1)))
    else
      some (.out (s1, s2))
noncomputable def p_impl_vecJoin (x0 : TVec) (x1 : TVec) : Option TVec :=
  ((mkL 16 8 16 0 : Option (List Int))).bind fun v0 =>
  (loopP (p_impl_vecJoin_l0 x0 x1) (v0, 0)).bind fun ee0 => match ee0 with
  | .ret r => some r
  | .out (o8, o9) =>
    some (TVec.mk o8)
def c_impl_vecJoin : AFn := ⟨30, (.seq (.ops [⟨(.some 2), (.box (.tmp 0)), .none, []⟩, ⟨(.some 3), (.box (.tmp 1)), .none, []⟩, ⟨(.some 4), (.allocV [(1, false)] [(.slice .none 0 0)]), .none, []⟩]) (.seq (.ops [⟨(.some 7), (.makeSl 1 false 8 [(.int .i64 0)] (.const (.int .i64 16)) (.const (.int .i64 16))), .none, []⟩, ⟨(.some 5), (.mv (.tmp 7)), .none, []⟩]) (.seq (.seq (.ops [⟨(.some 8), (.mv (.tmp 5)), .none, []⟩, ⟨(.some 9), (.len (.tmp 8)), .none, []⟩, ⟨(.some 10), (.mv (.const (.int .i64 0))), .none, []⟩]) (.block 0 (.loop (.seq (.ops [⟨(.some 11), (.pu (.n (.ar .lss)) [(.tmp 10), (.tmp 9)]), .none, []⟩]) (.seq (.cond (.tmp 11) .skip (.exit 0)) (.seq (.block 1 (.seq (.ops [⟨(.some 12), (.mv (.tmp 10)), .none, []⟩, ⟨(.some 6), (.mv (.tmp 12)), .none, []⟩]) (.ops [⟨(.some 13), (.mv (.tmp 5)), .none, []⟩, ⟨(.some 14), (.mv (.tmp 6)), .none, []⟩, ⟨(.some 15), (.fieldA 0 (.tmp 2)), .none, []⟩, ⟨(.some 16), (.load 1 false (.tmp 15)), .none, []⟩, ⟨(.some 17), (.mv (.tmp 6)), .none, []⟩, ⟨(.some 18), (.idxS 1 (.tmp 16) (.tmp 17)), .none, []⟩, ⟨(.some 19), (.load 1 false (.tmp 18)), .none, []⟩, ⟨(.some 20), (.fieldA 0 (.tmp 3)), .none, []⟩, ⟨(.some 21), (.load 1 false (.tmp 20)), .none, []⟩, ⟨(.some 22), (.mv (.tmp 6)), .none, []⟩, ⟨(.some 23), (.idxS 1 (.tmp 21) (.tmp 22)), .none, []⟩, ⟨(.some 24), (.load 1 false (.tmp 23)), .none, []⟩, ⟨(.some 25), (.pu (.n .max) [(.tmp 19), (.tmp 24)]), .none, []⟩, ⟨(.some 26), (.idxS 1 (.tmp 13) (.tmp 14)), .none, []⟩, ⟨.none, (.store 1 (.tmp 26) (.tmp 25)), .none, []⟩]))) (.ops [⟨(.some 27), (.pu (.n (.ar .add)) [(.tmp 10), (.const (.int .i64 1))]), .none, []⟩, ⟨(.some 10), (.mv (.tmp 27)), .none, []⟩]))))))) (.seq (.ops [⟨(.some 28), (.mv (.tmp 5)), .none, []⟩, ⟨(.some 29), (.build [(.slice .none 0 0)] [(0, (1, (.tmp 28)))]), .none, []⟩, ⟨.none, (.storeV [(1, false)] 1 (.tmp 4) (.tmp 29)), .none, []⟩]) .ret)))), [(.cell 4 1 true)]⟩
def o_impl_vecJoin (b : TVec) (v : V) (h : Heap) : Prop := ∃ n0 : Nat, v = .agg [.hsl n0 b.counts.length 0 1 false b.counts.length] ∧ getCells h n0 b.counts.length = some (rows b.counts)
def oo_impl_vecJoin (b : TVec) (h : Heap) (v : V) (h2 : Heap) : Prop := Keep [] h h2 ∧ ∃ n0 : Nat, v = .agg [.hsl n0 b.counts.length 0 1 false b.counts.length] ∧ n0 < h2.length ∧ h.length ≤ n0 ∧ getCells h2 n0 b.counts.length = some (rows b.counts)
def k_impl_vecJoin (F : Fun) : Prop := ∀ (x0 : TVec) (x1 : TVec) (b : TVec), p_impl_vecJoin x0 x1 = some b → ∀ (h : Heap) (args : List V), snapA 9 false h args = some (encA (x0, x1)) → ∃ p, F none args h = some p ∧ oo_impl_vecJoin b h p.1 p.2
set_option maxHeartbeats 10000000 in
theorem w_impl_vecJoin {P : Program} {env : Env}  (x0 : TVec) (x1 : TVec) {b : TVec} (hp : p_impl_vecJoin x0 x1 = some b) : R P env (c_impl_vecJoin) ((encA (x0, x1)).map ofI) [] (o_impl_vecJoin b) := by
  refine R_of (by simp [c_impl_vecJoin, encA]) ?_
  unfold c_impl_vecJoin
  unfold p_impl_vecJoin at hp
  obtain ⟨v0, hv0, hp⟩ := bind_eq hp
  obtain ⟨kv0, qv0, lv0⟩ := mkL_some hv0
  have rv0 : [.i (.s (.int .i64 0)), .i (.s (.int .i64 0)), .i (.s (.int .i64 0)), .i (.s (.int .i64 0)), .i (.s (.int .i64 0)), .i (.s (.int .i64 0)), .i (.s (.int .i64 0)), .i (.s (.int .i64 0)), .i (.s (.int .i64 0)), .i (.s (.int .i64 0)), .i (.s (.int .i64 0)), .i (.s (.int .i64 0)), .i (.s (.int .i64 0)), .i (.s (.int .i64 0)), .i (.s (.int .i64 0)), .i (.s (.int .i64 0))] = rows v0 := by rw [qv0]; rfl
  have mv0 : 16 = v0.length := by rw [lv0]; simp
  obtain ⟨ee0, hee0, hp⟩ := bind_eq hp
  simp (disch := first | omega | (simp only [List.length_set, List.length_append, List.length_cons, List.length_nil, rows_len, zs]; first | done | omega)) only [hv0, rv0, kv0.1, kv0.2.1, kv0.2.2.1, kv0.2.2.2, gs, app_hsl, app_nil, reduceIte, reduceCtorEq, Nat.reduceAdd, Nat.reduceMul, Nat.reduceSub, Nat.reduceBEq, Nat.reduceEqDiff, Nat.reduceLeDiff, Nat.reduceLT, Nat.reduceGT, Int.reduceToNat, Int.reduceLT, Int.reduceLE, Int.reduceNeg, Int.reduceAdd, Int.reduceEq, Int.reduceNe]
  refine W_loopP 0 (fun s t h => match s with | (s1, s2) => t 2 = .ptr 0 1 0 ∧ t 3 = .ptr 1 1 0 ∧ t 4 = .ptr 3 1 0 ∧ t 5 = .hsl 4 16 0 1 false 16 ∧ t 9 = .i (.s (.int .i64 16)) ∧ t 10 = .i (.s (.int .i64 s2)) ∧ getCells h 0 1 = some [.i (.sl 1 (x0.counts.map enc))] ∧ 0 < h.length ∧ getCells h 1 1 = some [.i (.sl 1 (x1.counts.map enc))] ∧ 1 < h.length ∧ getCells h 2 0 = some (rows ([] : List Int)) ∧ 2 < h.length ∧ getCells h 3 1 = some [.hsl 2 0 0 1 false 0] ∧ 3 < h.length ∧ getCells h 4 16 = some (rows (s1 : List Int)) ∧ 4 < h.length) (RK [.cell 4 1 true] (o_impl_vecJoin)) ?_ hee0 ?_ ?_
  · rintro ⟨s1, s2⟩ ee tt0 hh0 ⟨ftt0_0, ftt0_1, ftt0_2, ftt0_3, ftt0_4, ftt0_5, ftt0_6, ftt0_7, ftt0_8, ftt0_9, ftt0_10, ftt0_11, ftt0_12, ftt0_13, ftt0_14, ftt0_15⟩ hp
    have ztt0_10 := len_rows ftt0_10
    simp only [zs] at ztt0_10
    have ztt0_14 := len_rows ftt0_14
    simp only [zs] at ztt0_14
    rw [p_impl_vecJoin_l0] at hp
    by_cases hb3 : (decide (s2 < 16)) = true
    · rw [if_t hb3] at hp
      obtain ⟨v4, hv4, hp⟩ := bind_eq hp
      obtain ⟨v5, hv5, hp⟩ := bind_eq hp
      obtain ⟨v6, hv6, hp⟩ := bind_eq hp
      have gv6 := get_some hv6
      have hs7 : List.take s2.toNat (rows s1) ++ .i (.s (.int .i64 (if v5 > v4 then v5 else v4))) :: List.drop (s2.toNat + 1) (rows s1) = rows (s1.set s2.toNat (if v5 > v4 then v5 else v4)) := by simpa [splice, zs, cellsV, I.cells, enc_int] using rows_set_off (y := (if v5 > v4 then v5 else v4)) (ys := [.i (.s (.int .i64 (if v5 > v4 then v5 else v4)))]) (k := 0) gv6.2.2 (Nat.le_of_ble_eq_true rfl) (by rfl)
      have hp := Option.some.inj hp
      subst hp
      simp (disch := first | omega | (simp only [List.length_set, List.length_append, List.length_cons, List.length_nil, rows_len, zs]; first | done | omega)) only [hv0, rv0, kv0.1, kv0.2.1, kv0.2.2.1, kv0.2.2.2, ftt0_0, ftt0_1, ftt0_2, ftt0_3, ftt0_4, ftt0_5, ftt0_6, ftt0_7, ftt0_8, ftt0_9, ftt0_10, ftt0_11, ftt0_12, ftt0_13, ftt0_14, ftt0_15, hb3, hv4, hv5, hv6, (gv6).1, (gv6).2.1, hs7, gs, app_hsl, app_nil, reduceIte, reduceCtorEq, Nat.reduceAdd, Nat.reduceMul, Nat.reduceSub, Nat.reduceBEq, Nat.reduceEqDiff, Nat.reduceLeDiff, Nat.reduceLT, Nat.reduceGT, Int.reduceToNat, Int.reduceLT, Int.reduceLE, Int.reduceNeg, Int.reduceAdd, Int.reduceEq, Int.reduceNe] <;> omega
    · replace hb3 := eq_false_of_ne_true hb3
      rw [if_f hb3] at hp
      have hp := Option.some.inj hp
      subst hp
      simp (disch := first | omega | (simp only [List.length_set, List.length_append, List.length_cons, List.length_nil, rows_len, zs]; first | done | omega)) only [hv0, rv0, kv0.1, kv0.2.1, kv0.2.2.1, kv0.2.2.2, ftt0_0, ftt0_1, ftt0_2, ftt0_3, ftt0_4, ftt0_5, ftt0_6, ftt0_7, ftt0_8, ftt0_9, ftt0_10, ftt0_11, ftt0_12, ftt0_13, ftt0_14, ftt0_15, hb3, gs, app_hsl, app_nil, reduceIte, reduceCtorEq, Nat.reduceAdd, Nat.reduceMul, Nat.reduceSub, Nat.reduceBEq, Nat.reduceEqDiff, Nat.reduceLeDiff, Nat.reduceLT, Nat.reduceGT, Int.reduceToNat, Int.reduceLT, Int.reduceLE, Int.reduceNeg, Int.reduceAdd, Int.reduceEq, Int.reduceNe] <;> omega
  · simp (disch := first | omega | (simp only [List.length_set, List.length_append, List.length_cons, List.length_nil, rows_len, zs]; first | done | omega)) only [hv0, rv0, kv0.1, kv0.2.1, kv0.2.2.1, kv0.2.2.2, gs, app_hsl, app_nil, reduceIte, reduceCtorEq, Nat.reduceAdd, Nat.reduceMul, Nat.reduceSub, Nat.reduceBEq, Nat.reduceEqDiff, Nat.reduceLeDiff, Nat.reduceLT, Nat.reduceGT, Int.reduceToNat, Int.reduceLT, Int.reduceLE, Int.reduceNeg, Int.reduceAdd, Int.reduceEq, Int.reduceNe] <;> omega
  · intro x tt1 hh1 hx
    rcases ee0 with ⟨o8, o9⟩ | r
    · obtain ⟨rfl, ftt1_0, ftt1_1, ftt1_2, ftt1_3, ftt1_4, ftt1_5, ftt1_6, ftt1_7, ftt1_8, ftt1_9, ftt1_10, ftt1_11, ftt1_12, ftt1_13, ftt1_14, ftt1_15⟩ := hx
      have ztt1_10 := len_rows ftt1_10
      simp only [zs] at ztt1_10
      have ztt1_14 := len_rows ftt1_14
      simp only [zs] at ztt1_14
      dsimp only at hp
      have hp := Option.some.inj hp
      subst hp
      simp (disch := first | omega | (simp only [List.length_set, List.length_append, List.length_cons, List.length_nil, rows_len, zs]; first | done | omega)) only [hv0, rv0, kv0.1, kv0.2.1, kv0.2.2.1, kv0.2.2.2, ftt1_0, ftt1_1, ftt1_2, ftt1_3, ftt1_4, ftt1_5, ftt1_6, ftt1_7, ftt1_8, ftt1_9, ftt1_10, ftt1_11, ftt1_12, ftt1_13, ftt1_14, ftt1_15, gs, app_hsl, app_nil, reduceIte, reduceCtorEq, Nat.reduceAdd, Nat.reduceMul, Nat.reduceSub, Nat.reduceBEq, Nat.reduceEqDiff, Nat.reduceLeDiff, Nat.reduceLT, Nat.reduceGT, Int.reduceToNat, Int.reduceLT, Int.reduceLE, Int.reduceNeg, Int.reduceAdd, Int.reduceEq, Int.reduceNe]
      refine ⟨4, ?_⟩
      simp (disch := first | omega | (simp only [List.length_set, List.length_append, List.length_cons, List.length_nil, rows_len, zs]; first | done | omega)) only [hv0, rv0, kv0.1, kv0.2.1, kv0.2.2.1, kv0.2.2.2, ftt1_0, ftt1_1, ftt1_2, ftt1_3, ftt1_4, ftt1_5, ftt1_6, ftt1_7, ftt1_8, ftt1_9, ftt1_10, ftt1_11, ftt1_12, ftt1_13, ftt1_14, ftt1_15, o_impl_vecJoin, (show (o8).length = 16 from by omega), gs, app_hsl, app_nil, reduceIte, reduceCtorEq, Nat.reduceAdd, Nat.reduceMul, Nat.reduceSub, Nat.reduceBEq, Nat.reduceEqDiff, Nat.reduceLeDiff, Nat.reduceLT, Nat.reduceGT, Int.reduceToNat, Int.reduceLT, Int.reduceLE, Int.reduceNeg, Int.reduceAdd, Int.reduceEq, Int.reduceNe] <;> omega
    · obtain ⟨rfl, hx⟩ := hx
      dsimp only at hp
      cases hp
      simp only [seqK_ret, blockK_ret, retK_RK (K := o_impl_vecJoin), hx, and_self, true_and]
theorem ko_impl_vecJoin {P : Program} {env : Env}  : k_impl_vecJoin (ownFn P env (c_impl_vecJoin)) := by
  intro x0 x1 b hp h args has
  obtain ⟨⟨v, H2⟩, hr, n0, rfl, wn0⟩ := w_impl_vecJoin x0 x1 hp
  exact ⟨_, own_call has hr rfl, keep_moved, n0 + h.length, rfl, (moved_lt wn0).2, (moved_lt wn0).1, moved_rows wn0⟩

noncomputable def p_impl_CounterJoin (x0 : TCounter) (x1 : TCounter) : Option (T2 TCounter Int) :=
  (p_impl_counterOK x0).bind fun v0 =>
  if (v0) = true then
    (p_impl_counterOK x1).bind fun v2 =>
    if (v2) = true then
      (p_impl_vecJoin x0.plus x1.plus).bind fun v4 =>
      (p_impl_vecJoin x0.minus x1.minus).bind fun v5 =>
      some ⟨(TCounter.mk v4 v5), 0⟩
    else
      some ⟨(TCounter.mk (TVec.mk ([])) (TVec.mk ([]))), 1⟩
  else
    some ⟨(TCounter.mk (TVec.mk ([])) (TVec.mk ([]))), 1⟩
def c_impl_CounterJoin (f_impl_counterOK : Nat) (f_impl_vecJoin : Nat) : AFn := ⟨26, (.seq (.ops [⟨(.some 2), (.box (.tmp 0)), .none, []⟩, ⟨(.some 3), (.box (.tmp 1)), .none, []⟩, ⟨(.some 4), (.allocV [(1, false), (1, false)] [(.slice .none 0 0), (.slice .none 0 0)]), .none, []⟩, ⟨(.some 5), (.mv (.const (.int .i64 0))), .none, []⟩]) (.seq (.seq (.ops [⟨(.some 6), (.load 2 true (.tmp 2)), .none, []⟩, ⟨(.some 7), (.call (2 * f_impl_counterOK) [(.tmp 6)]), .none, []⟩, ⟨(.some 8), (.pu (.n (.un .not)) [(.tmp 7)]), .none, []⟩, ⟨(.some 9), (.mv (.tmp 8)), .none, []⟩, ⟨(.some 10), (.load 2 true (.tmp 3)), (.some (9, false)), []⟩, ⟨(.some 11), (.call (2 * f_impl_counterOK) [(.tmp 10)]), (.some (9, false)), []⟩, ⟨(.some 12), (.pu (.n (.un .not)) [(.tmp 11)]), (.some (9, false)), []⟩, ⟨(.some 13), (.pick (.tmp 9) (.const (.bool true)) (.tmp 12)), .none, []⟩]) (.cond (.tmp 13) (.seq (.ops [⟨(.some 14), (.build [(.slice .none 0 0), (.slice .none 0 0)] []), .none, []⟩, ⟨.none, (.storeV [(1, false), (1, false)] 2 (.tmp 4) (.tmp 14)), .none, []⟩, ⟨(.some 5), (.mv (.const (.int .i64 1))), .none, []⟩]) .ret) .skip)) (.seq (.ops [⟨(.some 15), (.fieldA 0 (.tmp 2)), .none, []⟩, ⟨(.some 16), (.load 1 true (.tmp 15)), .none, []⟩, ⟨(.some 17), (.fieldA 0 (.tmp 3)), .none, []⟩, ⟨(.some 18), (.load 1 true (.tmp 17)), .none, []⟩, ⟨(.some 19), (.call (2 * f_impl_vecJoin + 1) [(.tmp 16), (.tmp 18)]), .none, []⟩, ⟨(.some 20), (.fieldA 1 (.tmp 2)), .none, []⟩, ⟨(.some 21), (.load 1 true (.tmp 20)), .none, []⟩, ⟨(.some 22), (.fieldA 1 (.tmp 3)), .none, []⟩, ⟨(.some 23), (.load 1 true (.tmp 22)), .none, []⟩, ⟨(.some 24), (.call (2 * f_impl_vecJoin + 1) [(.tmp 21), (.tmp 23)]), .none, []⟩, ⟨(.some 25), (.build [(.slice .none 0 0), (.slice .none 0 0)] [(0, (1, (.tmp 19))), (1, (1, (.tmp 24)))]), .none, []⟩, ⟨.none, (.store 2 (.tmp 4) (.tmp 25)), .none, []⟩, ⟨(.some 5), (.mv (.const (.int .i64 0))), .none, []⟩]) .ret))), [(.cell 4 2 true), (.tmp 5)]⟩
set_option maxHeartbeats 10000000 in
theorem d_impl_CounterJoin {P : Program} {env : Env} {f_impl_counterOK : Nat} {f_impl_vecJoin : Nat}  (ep_impl_counterOK : env (2 * f_impl_counterOK) = pureFn true (FA fun a : TCounter => p_impl_counterOK a)) (e_impl_vecJoin : k_impl_vecJoin (env (2 * f_impl_vecJoin + 1))) (x0 : TCounter) (x1 : TCounter) {b : T2 TCounter Int} (hp : p_impl_CounterJoin x0 x1 = some b) : R P env (c_impl_CounterJoin f_impl_counterOK f_impl_vecJoin) ((encA (x0, x1)).map ofI) [] (Tells true b) := by
  refine R_of (by simp [c_impl_CounterJoin, encA]) ?_
  unfold c_impl_CounterJoin
  unfold p_impl_CounterJoin at hp
  obtain ⟨v0, hv0, hp⟩ := bind_eq hp
  by_cases hb1 : (v0) = true
  · rw [if_t hb1] at hp
    obtain ⟨v2, hv2, hp⟩ := bind_eq hp
    by_cases hb3 : (v2) = true
    · rw [if_t hb3] at hp
      obtain ⟨v4, hv4, hp⟩ := bind_eq hp
      simp (disch := first | omega | (simp only [List.length_set, List.length_append, List.length_cons, List.length_nil, rows_len, zs]; first | done | omega)) only [ep_impl_counterOK, hv0, hb1, hv2, hb3, gs, app_hsl, app_nil, reduceIte, reduceCtorEq, Nat.reduceAdd, Nat.reduceMul, Nat.reduceSub, Nat.reduceBEq, Nat.reduceEqDiff, Nat.reduceLeDiff, Nat.reduceLT, Nat.reduceGT, Int.reduceToNat, Int.reduceLT, Int.reduceLE, Int.reduceNeg, Int.reduceAdd, Int.reduceEq, Int.reduceNe]
      refine call_f (fun h => getCells h 0 2 = some [.i (.sl 1 (x0.plus.counts.map enc)), .i (.sl 1 (x0.minus.counts.map enc))] ∧ 0 < h.length ∧ getCells h 1 2 = some [.i (.sl 1 (x1.plus.counts.map enc)), .i (.sl 1 (x1.minus.counts.map enc))] ∧ 1 < h.length ∧ getCells h 2 0 = some [] ∧ 2 < h.length ∧ getCells h 3 0 = some [] ∧ 3 < h.length ∧ getCells h 4 2 = some [.hsl 2 0 0 1 false 0, .hsl 3 0 0 1 false 0] ∧ 4 < h.length) (fun h v h2 => oo_impl_vecJoin v4 h v h2) ?_ ?_ ?_
      · simp (disch := first | omega | (simp only [List.length_set, List.length_append, List.length_cons, List.length_nil, rows_len, zs]; first | done | omega)) only [ep_impl_counterOK, hv0, hb1, hv2, hb3, hv4, gs, app_hsl, app_nil, reduceIte, reduceCtorEq, Nat.reduceAdd, Nat.reduceMul, Nat.reduceSub, Nat.reduceBEq, Nat.reduceEqDiff, Nat.reduceLeDiff, Nat.reduceLT, Nat.reduceGT, Int.reduceToNat, Int.reduceLT, Int.reduceLE, Int.reduceNeg, Int.reduceAdd, Int.reduceEq, Int.reduceNe] <;> omega
      · rintro h ⟨c0_0, c0_1, c0_2, c0_3, c0_4, c0_5, c0_6, c0_7, c0_8, c0_9⟩
        exact e_impl_vecJoin _ _ _ hv4 h _ (by simp (disch := first | omega | (simp only [List.length_set, List.length_append, List.length_cons, List.length_nil, rows_len, zs]; first | done | omega)) only [ep_impl_counterOK, hv0, hb1, hv2, hb3, hv4, c0_0, c0_1, c0_2, c0_3, c0_4, c0_5, c0_6, c0_7, c0_8, c0_9, gs, app_hsl, app_nil, reduceIte, reduceCtorEq, Nat.reduceAdd, Nat.reduceMul, Nat.reduceSub, Nat.reduceBEq, Nat.reduceEqDiff, Nat.reduceLeDiff, Nat.reduceLT, Nat.reduceGT, Int.reduceToNat, Int.reduceLT, Int.reduceLE, Int.reduceNeg, Int.reduceAdd, Int.reduceEq, Int.reduceNe])
      · rintro h v hh0 ⟨c0_0, c0_1, c0_2, c0_3, c0_4, c0_5, c0_6, c0_7, c0_8, c0_9⟩ hpost
        obtain ⟨kk0, nb0_0, rfl, lnb0_0, gnb0_0, wnb0_0⟩ := hpost
        have d0_0 : getCells hh0 0 2 = some [.i (.sl 1 (x0.plus.counts.map enc)), .i (.sl 1 (x0.minus.counts.map enc))] := (keep_get kk0 c0_1 (by first | (simp; done) | (simp; omega))).trans c0_0
        have d0_0l := keep_lt kk0 c0_1
        have d0_1 : getCells hh0 1 2 = some [.i (.sl 1 (x1.plus.counts.map enc)), .i (.sl 1 (x1.minus.counts.map enc))] := (keep_get kk0 c0_3 (by first | (simp; done) | (simp; omega))).trans c0_2
        have d0_1l := keep_lt kk0 c0_3
        have d0_2 : getCells hh0 2 0 = some [] := (keep_get kk0 c0_5 (by first | (simp; done) | (simp; omega))).trans c0_4
        have d0_2l := keep_lt kk0 c0_5
        have d0_3 : getCells hh0 3 0 = some [] := (keep_get kk0 c0_7 (by first | (simp; done) | (simp; omega))).trans c0_6
        have d0_3l := keep_lt kk0 c0_7
        have d0_4 : getCells hh0 4 2 = some [.hsl 2 0 0 1 false 0, .hsl 3 0 0 1 false 0] := (keep_get kk0 c0_9 (by first | (simp; done) | (simp; omega))).trans c0_8
        have d0_4l := keep_lt kk0 c0_9
        have d0_5 := wnb0_0
        obtain ⟨v5, hv5, hp⟩ := bind_eq hp
        simp (disch := first | omega | (simp only [List.length_set, List.length_append, List.length_cons, List.length_nil, rows_len, zs]; first | done | omega)) only [ep_impl_counterOK, hv0, hb1, hv2, hb3, hv4, d0_0, d0_1, d0_2, d0_3, d0_4, d0_5, gs, app_hsl, app_nil, reduceIte, reduceCtorEq, Nat.reduceAdd, Nat.reduceMul, Nat.reduceSub, Nat.reduceBEq, Nat.reduceEqDiff, Nat.reduceLeDiff, Nat.reduceLT, Nat.reduceGT, Int.reduceToNat, Int.reduceLT, Int.reduceLE, Int.reduceNeg, Int.reduceAdd, Int.reduceEq, Int.reduceNe]
        refine call_f (fun h => getCells h 0 2 = some [.i (.sl 1 (x0.plus.counts.map enc)), .i (.sl 1 (x0.minus.counts.map enc))] ∧ 0 < h.length ∧ getCells h 1 2 = some [.i (.sl 1 (x1.plus.counts.map enc)), .i (.sl 1 (x1.minus.counts.map enc))] ∧ 1 < h.length ∧ getCells h 2 0 = some [] ∧ 2 < h.length ∧ getCells h 3 0 = some [] ∧ 3 < h.length ∧ getCells h 4 2 = some [.hsl 2 0 0 1 false 0, .hsl 3 0 0 1 false 0] ∧ 4 < h.length ∧ getCells h nb0_0 v4.counts.length = some (rows (v4.counts : List Int)) ∧ nb0_0 < h.length) (fun h v h2 => oo_impl_vecJoin v5 h v h2) ?_ ?_ ?_
        · simp (disch := first | omega | (simp only [List.length_set, List.length_append, List.length_cons, List.length_nil, rows_len, zs]; first | done | omega)) only [ep_impl_counterOK, hv0, hb1, hv2, hb3, hv4, d0_0, d0_1, d0_2, d0_3, d0_4, d0_5, hv5, gs, app_hsl, app_nil, reduceIte, reduceCtorEq, Nat.reduceAdd, Nat.reduceMul, Nat.reduceSub, Nat.reduceBEq, Nat.reduceEqDiff, Nat.reduceLeDiff, Nat.reduceLT, Nat.reduceGT, Int.reduceToNat, Int.reduceLT, Int.reduceLE, Int.reduceNeg, Int.reduceAdd, Int.reduceEq, Int.reduceNe] <;> omega
        · rintro h ⟨c1_0, c1_1, c1_2, c1_3, c1_4, c1_5, c1_6, c1_7, c1_8, c1_9, c1_10, c1_11⟩
          exact e_impl_vecJoin _ _ _ hv5 h _ (by simp (disch := first | omega | (simp only [List.length_set, List.length_append, List.length_cons, List.length_nil, rows_len, zs]; first | done | omega)) only [ep_impl_counterOK, hv0, hb1, hv2, hb3, hv4, d0_0, d0_1, d0_2, d0_3, d0_4, d0_5, hv5, c1_0, c1_1, c1_2, c1_3, c1_4, c1_5, c1_6, c1_7, c1_8, c1_9, c1_10, c1_11, gs, app_hsl, app_nil, reduceIte, reduceCtorEq, Nat.reduceAdd, Nat.reduceMul, Nat.reduceSub, Nat.reduceBEq, Nat.reduceEqDiff, Nat.reduceLeDiff, Nat.reduceLT, Nat.reduceGT, Int.reduceToNat, Int.reduceLT, Int.reduceLE, Int.reduceNeg, Int.reduceAdd, Int.reduceEq, Int.reduceNe])
        · rintro h v hh1 ⟨c1_0, c1_1, c1_2, c1_3, c1_4, c1_5, c1_6, c1_7, c1_8, c1_9, c1_10, c1_11⟩ hpost
          obtain ⟨kk1, nb1_0, rfl, lnb1_0, gnb1_0, wnb1_0⟩ := hpost
          have d1_0 : getCells hh1 0 2 = some [.i (.sl 1 (x0.plus.counts.map enc)), .i (.sl 1 (x0.minus.counts.map enc))] := (keep_get kk1 c1_1 (by first | (simp; done) | (simp; omega))).trans c1_0
          have d1_0l := keep_lt kk1 c1_1
          have d1_1 : getCells hh1 1 2 = some [.i (.sl 1 (x1.plus.counts.map enc)), .i (.sl 1 (x1.minus.counts.map enc))] := (keep_get kk1 c1_3 (by first | (simp; done) | (simp; omega))).trans c1_2
          have d1_1l := keep_lt kk1 c1_3
          have d1_2 : getCells hh1 2 0 = some [] := (keep_get kk1 c1_5 (by first | (simp; done) | (simp; omega))).trans c1_4
          have d1_2l := keep_lt kk1 c1_5
          have d1_3 : getCells hh1 3 0 = some [] := (keep_get kk1 c1_7 (by first | (simp; done) | (simp; omega))).trans c1_6
          have d1_3l := keep_lt kk1 c1_7
          have d1_4 : getCells hh1 4 2 = some [.hsl 2 0 0 1 false 0, .hsl 3 0 0 1 false 0] := (keep_get kk1 c1_9 (by first | (simp; done) | (simp; omega))).trans c1_8
          have d1_4l := keep_lt kk1 c1_9
          have d1_5 : getCells hh1 nb0_0 v4.counts.length = some (rows (v4.counts : List Int)) := (keep_get kk1 c1_11 (by first | (simp; done) | (simp; omega))).trans c1_10
          have d1_5l := keep_lt kk1 c1_11
          have d1_6 := wnb1_0
          have hp := Option.some.inj hp
          subst hp
          simp (disch := first | omega | (simp only [List.length_set, List.length_append, List.length_cons, List.length_nil, rows_len, zs]; first | done | omega)) only [ep_impl_counterOK, hv0, hb1, hv2, hb3, hv4, d0_0, d0_1, d0_2, d0_3, d0_4, d0_5, hv5, d1_0, d1_1, d1_2, d1_3, d1_4, d1_5, d1_6, gs, app_hsl, app_nil, reduceIte, reduceCtorEq, Nat.reduceAdd, Nat.reduceMul, Nat.reduceSub, Nat.reduceBEq, Nat.reduceEqDiff, Nat.reduceLeDiff, Nat.reduceLT, Nat.reduceGT, Int.reduceToNat, Int.reduceLT, Int.reduceLE, Int.reduceNeg, Int.reduceAdd, Int.reduceEq, Int.reduceNe]
    · replace hb3 := eq_false_of_ne_true hb3
      rw [if_f hb3] at hp
      have hp := Option.some.inj hp
      subst hp
      simp (disch := first | omega | (simp only [List.length_set, List.length_append, List.length_cons, List.length_nil, rows_len, zs]; first | done | omega)) only [ep_impl_counterOK, hv0, hb1, hv2, hb3, gs, app_hsl, app_nil, reduceIte, reduceCtorEq, Nat.reduceAdd, Nat.reduceMul, Nat.reduceSub, Nat.reduceBEq, Nat.reduceEqDiff, Nat.reduceLeDiff, Nat.reduceLT, Nat.reduceGT, Int.reduceToNat, Int.reduceLT, Int.reduceLE, Int.reduceNeg, Int.reduceAdd, Int.reduceEq, Int.reduceNe]
  · replace hb1 := eq_false_of_ne_true hb1
    rw [if_f hb1] at hp
    have hp := Option.some.inj hp
    subst hp
    simp (disch := first | omega | (simp only [List.length_set, List.length_append, List.length_cons, List.length_nil, rows_len, zs]; first | done | omega)) only [ep_impl_counterOK, hv0, hb1, gs, app_hsl, app_nil, reduceIte, reduceCtorEq, Nat.reduceAdd, Nat.reduceMul, Nat.reduceSub, Nat.reduceBEq, Nat.reduceEqDiff, Nat.reduceLeDiff, Nat.reduceLT, Nat.reduceGT, Int.reduceToNat, Int.reduceLT, Int.reduceLE, Int.reduceNeg, Int.reduceAdd, Int.reduceEq, Int.reduceNe]

def o_impl_CounterJoin (b : T2 TCounter Int) (v : V) (h : Heap) : Prop := ∃ n0 n1 : Nat, v = .tup [.agg [.hsl n0 b.a.plus.counts.length 0 1 false b.a.plus.counts.length, .hsl n1 b.a.minus.counts.length 0 1 false b.a.minus.counts.length], .i (.s (.int .i64 b.b))] ∧ getCells h n0 b.a.plus.counts.length = some (rows b.a.plus.counts) ∧ getCells h n1 b.a.minus.counts.length = some (rows b.a.minus.counts) ∧ n1 ≠ n0
def oo_impl_CounterJoin (b : T2 TCounter Int) (h : Heap) (v : V) (h2 : Heap) : Prop := Keep [] h h2 ∧ ∃ n0 n1 : Nat, v = .tup [.agg [.hsl n0 b.a.plus.counts.length 0 1 false b.a.plus.counts.length, .hsl n1 b.a.minus.counts.length 0 1 false b.a.minus.counts.length], .i (.s (.int .i64 b.b))] ∧ n0 < h2.length ∧ h.length ≤ n0 ∧ getCells h2 n0 b.a.plus.counts.length = some (rows b.a.plus.counts) ∧ n1 < h2.length ∧ h.length ≤ n1 ∧ getCells h2 n1 b.a.minus.counts.length = some (rows b.a.minus.counts) ∧ n1 ≠ n0
def k_impl_CounterJoin (F : Fun) : Prop := ∀ (x0 : TCounter) (x1 : TCounter) (b : T2 TCounter Int), p_impl_CounterJoin x0 x1 = some b → ∀ (h : Heap) (args : List V), snapA 9 false h args = some (encA (x0, x1)) → ∃ p, F none args h = some p ∧ oo_impl_CounterJoin b h p.1 p.2
set_option maxHeartbeats 10000000 in
theorem w_impl_CounterJoin {P : Program} {env : Env} {f_impl_counterOK : Nat} {f_impl_vecJoin : Nat}  (ep_impl_counterOK : env (2 * f_impl_counterOK) = pureFn true (FA fun a : TCounter => p_impl_counterOK a)) (e_impl_vecJoin : k_impl_vecJoin (env (2 * f_impl_vecJoin + 1))) (x0 : TCounter) (x1 : TCounter) {b : T2 TCounter Int} (hp : p_impl_CounterJoin x0 x1 = some b) : R P env (c_impl_CounterJoin f_impl_counterOK f_impl_vecJoin) ((encA (x0, x1)).map ofI) [] (o_impl_CounterJoin b) := by
  refine R_of (by simp [c_impl_CounterJoin, encA]) ?_
  unfold c_impl_CounterJoin
  unfold p_impl_CounterJoin at hp
  obtain ⟨v0, hv0, hp⟩ := bind_eq hp
  by_cases hb1 : (v0) = true
  · rw [if_t hb1] at hp
    obtain ⟨v2, hv2, hp⟩ := bind_eq hp
    by_cases hb3 : (v2) = true
    · rw [if_t hb3] at hp
      obtain ⟨v4, hv4, hp⟩ := bind_eq hp
      simp (disch := first | omega | (simp only [List.length_set, List.length_append, List.length_cons, List.length_nil, rows_len, zs]; first | done | omega)) only [ep_impl_counterOK, hv0, hb1, hv2, hb3, gs, app_hsl, app_nil, reduceIte, reduceCtorEq, Nat.reduceAdd, Nat.reduceMul, Nat.reduceSub, Nat.reduceBEq, Nat.reduceEqDiff, Nat.reduceLeDiff, Nat.reduceLT, Nat.reduceGT, Int.reduceToNat, Int.reduceLT, Int.reduceLE, Int.reduceNeg, Int.reduceAdd, Int.reduceEq, Int.reduceNe]
      refine call_f (fun h => getCells h 0 2 = some [.i (.sl 1 (x0.plus.counts.map enc)), .i (.sl 1 (x0.minus.counts.map enc))] ∧ 0 < h.length ∧ getCells h 1 2 = some [.i (.sl 1 (x1.plus.counts.map enc)), .i (.sl 1 (x1.minus.counts.map enc))] ∧ 1 < h.length ∧ getCells h 2 0 = some [] ∧ 2 < h.length ∧ getCells h 3 0 = some [] ∧ 3 < h.length ∧ getCells h 4 2 = some [.hsl 2 0 0 1 false 0, .hsl 3 0 0 1 false 0] ∧ 4 < h.length) (fun h v h2 => oo_impl_vecJoin v4 h v h2) ?_ ?_ ?_
      · simp (disch := first | omega | (simp only [List.length_set, List.length_append, List.length_cons, List.length_nil, rows_len, zs]; first | done | omega)) only [ep_impl_counterOK, hv0, hb1, hv2, hb3, hv4, gs, app_hsl, app_nil, reduceIte, reduceCtorEq, Nat.reduceAdd, Nat.reduceMul, Nat.reduceSub, Nat.reduceBEq, Nat.reduceEqDiff, Nat.reduceLeDiff, Nat.reduceLT, Nat.reduceGT, Int.reduceToNat, Int.reduceLT, Int.reduceLE, Int.reduceNeg, Int.reduceAdd, Int.reduceEq, Int.reduceNe] <;> omega
      · rintro h ⟨c0_0, c0_1, c0_2, c0_3, c0_4, c0_5, c0_6, c0_7, c0_8, c0_9⟩
        exact e_impl_vecJoin _ _ _ hv4 h _ (by simp (disch := first | omega | (simp only [List.length_set, List.length_append, List.length_cons, List.length_nil, rows_len, zs]; first | done | omega)) only [ep_impl_counterOK, hv0, hb1, hv2, hb3, hv4, c0_0, c0_1, c0_2, c0_3, c0_4, c0_5, c0_6, c0_7, c0_8, c0_9, gs, app_hsl, app_nil, reduceIte, reduceCtorEq, Nat.reduceAdd, Nat.reduceMul, Nat.reduceSub, Nat.reduceBEq, Nat.reduceEqDiff, Nat.reduceLeDiff, Nat.reduceLT, Nat.reduceGT, Int.reduceToNat, Int.reduceLT, Int.reduceLE, Int.reduceNeg, Int.reduceAdd, Int.reduceEq, Int.reduceNe])
      · rintro h v hh0 ⟨c0_0, c0_1, c0_2, c0_3, c0_4, c0_5, c0_6, c0_7, c0_8, c0_9⟩ hpost
        obtain ⟨kk0, nb0_0, rfl, lnb0_0, gnb0_0, wnb0_0⟩ := hpost
        have d0_0 : getCells hh0 0 2 = some [.i (.sl 1 (x0.plus.counts.map enc)), .i (.sl 1 (x0.minus.counts.map enc))] := (keep_get kk0 c0_1 (by first | (simp; done) | (simp; omega))).trans c0_0
        have d0_0l := keep_lt kk0 c0_1
        have d0_1 : getCells hh0 1 2 = some [.i (.sl 1 (x1.plus.counts.map enc)), .i (.sl 1 (x1.minus.counts.map enc))] := (keep_get kk0 c0_3 (by first | (simp; done) | (simp; omega))).trans c0_2
        have d0_1l := keep_lt kk0 c0_3
        have d0_2 : getCells hh0 2 0 = some [] := (keep_get kk0 c0_5 (by first | (simp; done) | (simp; omega))).trans c0_4
        have d0_2l := keep_lt kk0 c0_5
        have d0_3 : getCells hh0 3 0 = some [] := (keep_get kk0 c0_7 (by first | (simp; done) | (simp; omega))).trans c0_6
        have d0_3l := keep_lt kk0 c0_7
        have d0_4 : getCells hh0 4 2 = some [.hsl 2 0 0 1 false 0, .hsl 3 0 0 1 false 0] := (keep_get kk0 c0_9 (by first | (simp; done) | (simp; omega))).trans c0_8
        have d0_4l := keep_lt kk0 c0_9
        have d0_5 := wnb0_0
        obtain ⟨v5, hv5, hp⟩ := bind_eq hp
        simp (disch := first | omega | (simp only [List.length_set, List.length_append, List.length_cons, List.length_nil, rows_len, zs]; first | done | omega)) only [ep_impl_counterOK, hv0, hb1, hv2, hb3, hv4, d0_0, d0_1, d0_2, d0_3, d0_4, d0_5, gs, app_hsl, app_nil, reduceIte, reduceCtorEq, Nat.reduceAdd, Nat.reduceMul, Nat.reduceSub, Nat.reduceBEq, Nat.reduceEqDiff, Nat.reduceLeDiff, Nat.reduceLT, Nat.reduceGT, Int.reduceToNat, Int.reduceLT, Int.reduceLE, Int.reduceNeg, Int.reduceAdd, Int.reduceEq, Int.reduceNe]
        refine call_f (fun h => getCells h 0 2 = some [.i (.sl 1 (x0.plus.counts.map enc)), .i (.sl 1 (x0.minus.counts.map enc))] ∧ 0 < h.length ∧ getCells h 1 2 = some [.i (.sl 1 (x1.plus.counts.map enc)), .i (.sl 1 (x1.minus.counts.map enc))] ∧ 1 < h.length ∧ getCells h 2 0 = some [] ∧ 2 < h.length ∧ getCells h 3 0 = some [] ∧ 3 < h.length ∧ getCells h 4 2 = some [.hsl 2 0 0 1 false 0, .hsl 3 0 0 1 false 0] ∧ 4 < h.length ∧ getCells h nb0_0 v4.counts.length = some (rows (v4.counts : List Int)) ∧ nb0_0 < h.length) (fun h v h2 => oo_impl_vecJoin v5 h v h2) ?_ ?_ ?_
        · simp (disch := first | omega | (simp only [List.length_set, List.length_append, List.length_cons, List.length_nil, rows_len, zs]; first | done | omega)) only [ep_impl_counterOK, hv0, hb1, hv2, hb3, hv4, d0_0, d0_1, d0_2, d0_3, d0_4, d0_5, hv5, gs, app_hsl, app_nil, reduceIte, reduceCtorEq, Nat.reduceAdd, Nat.reduceMul, Nat.reduceSub, Nat.reduceBEq, Nat.reduceEqDiff, Nat.reduceLeDiff, Nat.reduceLT, Nat.reduceGT, Int.reduceToNat, Int.reduceLT, Int.reduceLE, Int.reduceNeg, Int.reduceAdd, Int.reduceEq, Int.reduceNe] <;> omega
        · rintro h ⟨c1_0, c1_1, c1_2, c1_3, c1_4, c1_5, c1_6, c1_7, c1_8, c1_9, c1_10, c1_11⟩
          exact e_impl_vecJoin _ _ _ hv5 h _ (by simp (disch := first | omega | (simp only [List.length_set, List.length_append, List.length_cons, List.length_nil, rows_len, zs]; first | done | omega)) only [ep_impl_counterOK, hv0, hb1, hv2, hb3, hv4, d0_0, d0_1, d0_2, d0_3, d0_4, d0_5, hv5, c1_0, c1_1, c1_2, c1_3, c1_4, c1_5, c1_6, c1_7, c1_8, c1_9, c1_10, c1_11, gs, app_hsl, app_nil, reduceIte, reduceCtorEq, Nat.reduceAdd, Nat.reduceMul, Nat.reduceSub, Nat.reduceBEq, Nat.reduceEqDiff, Nat.reduceLeDiff, Nat.reduceLT, Nat.reduceGT, Int.reduceToNat, Int.reduceLT, Int.reduceLE, Int.reduceNeg, Int.reduceAdd, Int.reduceEq, Int.reduceNe])
        · rintro h v hh1 ⟨c1_0, c1_1, c1_2, c1_3, c1_4, c1_5, c1_6, c1_7, c1_8, c1_9, c1_10, c1_11⟩ hpost
          obtain ⟨kk1, nb1_0, rfl, lnb1_0, gnb1_0, wnb1_0⟩ := hpost
          have d1_0 : getCells hh1 0 2 = some [.i (.sl 1 (x0.plus.counts.map enc)), .i (.sl 1 (x0.minus.counts.map enc))] := (keep_get kk1 c1_1 (by first | (simp; done) | (simp; omega))).trans c1_0
          have d1_0l := keep_lt kk1 c1_1
          have d1_1 : getCells hh1 1 2 = some [.i (.sl 1 (x1.plus.counts.map enc)), .i (.sl 1 (x1.minus.counts.map enc))] := (keep_get kk1 c1_3 (by first | (simp; done) | (simp; omega))).trans c1_2
          have d1_1l := keep_lt kk1 c1_3
          have d1_2 : getCells hh1 2 0 = some [] := (keep_get kk1 c1_5 (by first | (simp; done) | (simp; omega))).trans c1_4
          have d1_2l := keep_lt kk1 c1_5
          have d1_3 : getCells hh1 3 0 = some [] := (keep_get kk1 c1_7 (by first | (simp; done) | (simp; omega))).trans c1_6
          have d1_3l := keep_lt kk1 c1_7
          have d1_4 : getCells hh1 4 2 = some [.hsl 2 0 0 1 false 0, .hsl 3 0 0 1 false 0] := (keep_get kk1 c1_9 (by first | (simp; done) | (simp; omega))).trans c1_8
          have d1_4l := keep_lt kk1 c1_9
          have d1_5 : getCells hh1 nb0_0 v4.counts.length = some (rows (v4.counts : List Int)) := (keep_get kk1 c1_11 (by first | (simp; done) | (simp; omega))).trans c1_10
          have d1_5l := keep_lt kk1 c1_11
          have d1_6 := wnb1_0
          have hp := Option.some.inj hp
          subst hp
          simp (disch := first | omega | (simp only [List.length_set, List.length_append, List.length_cons, List.length_nil, rows_len, zs]; first | done | omega)) only [ep_impl_counterOK, hv0, hb1, hv2, hb3, hv4, d0_0, d0_1, d0_2, d0_3, d0_4, d0_5, hv5, d1_0, d1_1, d1_2, d1_3, d1_4, d1_5, d1_6, gs, app_hsl, app_nil, reduceIte, reduceCtorEq, Nat.reduceAdd, Nat.reduceMul, Nat.reduceSub, Nat.reduceBEq, Nat.reduceEqDiff, Nat.reduceLeDiff, Nat.reduceLT, Nat.reduceGT, Int.reduceToNat, Int.reduceLT, Int.reduceLE, Int.reduceNeg, Int.reduceAdd, Int.reduceEq, Int.reduceNe]
          refine ⟨nb0_0, nb1_0, ?_⟩
          simp (disch := first | omega | (simp only [List.length_set, List.length_append, List.length_cons, List.length_nil, rows_len, zs]; first | done | omega)) only [ep_impl_counterOK, hv0, hb1, hv2, hb3, hv4, d0_0, d0_1, d0_2, d0_3, d0_4, d0_5, hv5, d1_0, d1_1, d1_2, d1_3, d1_4, d1_5, d1_6, o_impl_CounterJoin, gs, app_hsl, app_nil, reduceIte, reduceCtorEq, Nat.reduceAdd, Nat.reduceMul, Nat.reduceSub, Nat.reduceBEq, Nat.reduceEqDiff, Nat.reduceLeDiff, Nat.reduceLT, Nat.reduceGT, Int.reduceToNat, Int.reduceLT, Int.reduceLE, Int.reduceNeg, Int.reduceAdd, Int.reduceEq, Int.reduceNe] <;> omega
    · replace hb3 := eq_false_of_ne_true hb3
      rw [if_f hb3] at hp
      have hp := Option.some.inj hp
      subst hp
      simp (disch := first | omega | (simp only [List.length_set, List.length_append, List.length_cons, List.length_nil, rows_len, zs]; first | done | omega)) only [ep_impl_counterOK, hv0, hb1, hv2, hb3, gs, app_hsl, app_nil, reduceIte, reduceCtorEq, Nat.reduceAdd, Nat.reduceMul, Nat.reduceSub, Nat.reduceBEq, Nat.reduceEqDiff, Nat.reduceLeDiff, Nat.reduceLT, Nat.reduceGT, Int.reduceToNat, Int.reduceLT, Int.reduceLE, Int.reduceNeg, Int.reduceAdd, Int.reduceEq, Int.reduceNe]
      refine ⟨5, 6, ?_⟩
      simp (disch := first | omega | (simp only [List.length_set, List.length_append, List.length_cons, List.length_nil, rows_len, zs]; first | done | omega)) only [ep_impl_counterOK, hv0, hb1, hv2, hb3, o_impl_CounterJoin, gs, app_hsl, app_nil, reduceIte, reduceCtorEq, Nat.reduceAdd, Nat.reduceMul, Nat.reduceSub, Nat.reduceBEq, Nat.reduceEqDiff, Nat.reduceLeDiff, Nat.reduceLT, Nat.reduceGT, Int.reduceToNat, Int.reduceLT, Int.reduceLE, Int.reduceNeg, Int.reduceAdd, Int.reduceEq, Int.reduceNe] <;> omega
  · replace hb1 := eq_false_of_ne_true hb1
    rw [if_f hb1] at hp
    have hp := Option.some.inj hp
    subst hp
    simp (disch := first | omega | (simp only [List.length_set, List.length_append, List.length_cons, List.length_nil, rows_len, zs]; first | done | omega)) only [ep_impl_counterOK, hv0, hb1, gs, app_hsl, app_nil, reduceIte, reduceCtorEq, Nat.reduceAdd, Nat.reduceMul, Nat.reduceSub, Nat.reduceBEq, Nat.reduceEqDiff, Nat.reduceLeDiff, Nat.reduceLT, Nat.reduceGT, Int.reduceToNat, Int.reduceLT, Int.reduceLE, Int.reduceNeg, Int.reduceAdd, Int.reduceEq, Int.reduceNe]
    refine ⟨5, 6, ?_⟩
    simp (disch := first | omega | (simp only [List.length_set, List.length_append, List.length_cons, List.length_nil, rows_len, zs]; first | done | omega)) only [ep_impl_counterOK, hv0, hb1, o_impl_CounterJoin, gs, app_hsl, app_nil, reduceIte, reduceCtorEq, Nat.reduceAdd, Nat.reduceMul, Nat.reduceSub, Nat.reduceBEq, Nat.reduceEqDiff, Nat.reduceLeDiff, Nat.reduceLT, Nat.reduceGT, Int.reduceToNat, Int.reduceLT, Int.reduceLE, Int.reduceNeg, Int.reduceAdd, Int.reduceEq, Int.reduceNe] <;> omega
theorem ko_impl_CounterJoin {P : Program} {env : Env} {f_impl_counterOK : Nat} {f_impl_vecJoin : Nat}  (ep_impl_counterOK : env (2 * f_impl_counterOK) = pureFn true (FA fun a : TCounter => p_impl_counterOK a)) (e_impl_vecJoin : k_impl_vecJoin (env (2 * f_impl_vecJoin + 1))) : k_impl_CounterJoin (ownFn P env (c_impl_CounterJoin f_impl_counterOK f_impl_vecJoin)) := by
  intro x0 x1 b hp h args has
  obtain ⟨⟨v, H2⟩, hr, n0, n1, rfl, wn0, wn1, ne1_0⟩ := w_impl_CounterJoin ep_impl_counterOK e_impl_vecJoin x0 x1 hp
  exact ⟨_, own_call has hr rfl, keep_moved, n0 + h.length, n1 + h.length, rfl, (moved_lt wn0).2, (moved_lt wn0).1, moved_rows wn0, (moved_lt wn1).2, (moved_lt wn1).1, moved_rows wn1, by omega⟩

noncomputable def p_laws_eqIntS_l0 (x0 : List Int) (x1 : List Int) : Int → Option (Lp (Int) Bool)
  | s1 =>
    if (decide (s1 < (x0.length : Int))) = true then
      (get? x0 s1).bind fun v3 =>
      (get? x1 s1).bind fun v4 =>
      if (decide (v3 = v4)) = true then
        some (.go (w64 (s1 + 1)))
      else
        some (.ret false)
    else
      some (.out s1)
noncomputable def p_laws_eqIntS (x0 : List Int) (x1 : List Int) : Option Bool :=
  if (decide ((x0.length : Int) = (x1.length : Int))) = true then
    (loopP (p_laws_eqIntS_l0 x0 x1) 0).bind fun ee0 => match ee0 with
    | .ret r => some r
    | .out o6 =>
      some true
  else
    some false
def c_laws_eqIntS : AFn := ⟨26, (.seq (.ops [⟨(.some 4), (.mv (.const (.bool false))), .none, []⟩]) (.seq (.seq (.ops [⟨(.some 6), (.mv (.tmp 0)), .none, []⟩, ⟨(.some 7), (.len (.tmp 6)), .none, []⟩, ⟨(.some 8), (.mv (.tmp 1)), .none, []⟩, ⟨(.some 9), (.len (.tmp 8)), .none, []⟩, ⟨(.some 10), (.pu (.n (.ar .neq)) [(.tmp 7), (.tmp 9)]), .none, []⟩]) (.cond (.tmp 10) (.seq (.ops [⟨(.some 4), (.mv (.const (.bool false))), .none, []⟩]) .ret) .skip)) (.seq (.seq (.ops [⟨(.some 5), (.mv (.const (.int .i64 0))), .none, []⟩]) (.block 0 (.loop (.seq (.seq (.ops [⟨(.some 11), (.mv (.tmp 5)), .none, []⟩, ⟨(.some 12), (.mv (.tmp 0)), .none, []⟩, ⟨(.some 13), (.len (.tmp 12)), .none, []⟩, ⟨(.some 14), (.pu (.n (.ar .lss)) [(.tmp 11), (.tmp 13)]), .none, []⟩]) (.cond (.tmp 14) .skip (.exit 0))) (.seq (.block 1 (.seq (.ops [⟨(.some 17), (.mv (.tmp 0)), .none, []⟩, ⟨(.some 18), (.mv (.tmp 5)), .none, []⟩, ⟨(.some 19), (.idxS 1 (.tmp 17) (.tmp 18)), .none, []⟩, ⟨(.some 20), (.load 1 false (.tmp 19)), .none, []⟩, ⟨(.some 21), (.mv (.tmp 1)), .none, []⟩, ⟨(.some 22), (.mv (.tmp 5)), .none, []⟩, ⟨(.some 23), (.idxS 1 (.tmp 21) (.tmp 22)), .none, []⟩, ⟨(.some 24), (.load 1 false (.tmp 23)), .none, []⟩, ⟨(.some 25), (.pu (.n (.ar .neq)) [(.tmp 20), (.tmp 24)]), .none, []⟩]) (.cond (.tmp 25) (.seq (.ops [⟨(.some 4), (.mv (.const (.bool false))), .none, []⟩]) .ret) .skip))) (.ops [⟨(.some 15), (.mv (.tmp 5)), .none, []⟩, ⟨(.some 16), (.pu (.n (.ar .add)) [(.tmp 15), (.const (.int .i64 1))]), .none, []⟩, ⟨(.some 5), (.mv (.tmp 16)), .none, []⟩])))))) (.seq (.ops [⟨(.some 4), (.mv (.const (.bool true))), .none, []⟩]) .ret)))), [(.tmp 4)]⟩
set_option maxHeartbeats 10000000 in
theorem d_laws_eqIntS {P : Program} {env : Env}  (x0 : List Int) (x1 : List Int) {b : Bool} (hp : p_laws_eqIntS x0 x1 = some b) : R P env (c_laws_eqIntS) ((encA (x0, x1)).map ofI) [] (Tells true b) := by
  refine R_of (by simp [c_laws_eqIntS, encA]) ?_
  unfold c_laws_eqIntS
  unfold p_laws_eqIntS at hp
  by_cases hb0 : (decide ((x0.length : Int) = (x1.length : Int))) = true
  · rw [if_t hb0] at hp
    obtain ⟨ee0, hee0, hp⟩ := bind_eq hp
    simp (disch := first | omega | (simp only [List.length_set, List.length_append, List.length_cons, List.length_nil, rows_len, zs]; first | done | omega)) only [hb0, gs, app_hsl, app_nil, reduceIte, reduceCtorEq, Nat.reduceAdd, Nat.reduceMul, Nat.reduceSub, Nat.reduceBEq, Nat.reduceEqDiff, Nat.reduceLeDiff, Nat.reduceLT, Nat.reduceGT, Int.reduceToNat, Int.reduceLT, Int.reduceLE, Int.reduceNeg, Int.reduceAdd, Int.reduceEq, Int.reduceNe]
    refine W_loopP 0 (fun s t h => match s with | s1 => t 0 = .i (.sl 1 (x0.map enc)) ∧ t 1 = .i (.sl 1 (x1.map enc)) ∧ t 5 = .i (.s (.int .i64 s1))) (RK [.tmp 4] (Tells true)) ?_ hee0 ?_ ?_
    · rintro s1 ee tt0 hh0 ⟨ftt0_0, ftt0_1, ftt0_2⟩ hp
      rw [p_laws_eqIntS_l0] at hp
      by_cases hb2 : (decide (s1 < (x0.length : Int))) = true
      · rw [if_t hb2] at hp
        obtain ⟨v3, hv3, hp⟩ := bind_eq hp
        obtain ⟨v4, hv4, hp⟩ := bind_eq hp
        by_cases hb5 : (decide (v3 = v4)) = true
        · rw [if_t hb5] at hp
          have hp := Option.some.inj hp
          subst hp
          simp (disch := first | omega | (simp only [List.length_set, List.length_append, List.length_cons, List.length_nil, rows_len, zs]; first | done | omega)) only [hb0, ftt0_0, ftt0_1, ftt0_2, hb2, hv3, hv4, hb5, gs, app_hsl, app_nil, reduceIte, reduceCtorEq, Nat.reduceAdd, Nat.reduceMul, Nat.reduceSub, Nat.reduceBEq, Nat.reduceEqDiff, Nat.reduceLeDiff, Nat.reduceLT, Nat.reduceGT, Int.reduceToNat, Int.reduceLT, Int.reduceLE, Int.reduceNeg, Int.reduceAdd, Int.reduceEq, Int.reduceNe] <;> omega
        · replace hb5 := eq_false_of_ne_true hb5
          rw [if_f hb5] at hp
          have hp := Option.some.inj hp
          subst hp
          simp (disch := first | omega | (simp only [List.length_set, List.length_append, List.length_cons, List.length_nil, rows_len, zs]; first | done | omega)) only [hb0, ftt0_0, ftt0_1, ftt0_2, hb2, hv3, hv4, hb5, gs, app_hsl, app_nil, reduceIte, reduceCtorEq, Nat.reduceAdd, Nat.reduceMul, Nat.reduceSub, Nat.reduceBEq, Nat.reduceEqDiff, Nat.reduceLeDiff, Nat.reduceLT, Nat.reduceGT, Int.reduceToNat, Int.reduceLT, Int.reduceLE, Int.reduceNeg, Int.reduceAdd, Int.reduceEq, Int.reduceNe]
      · replace hb2 := eq_false_of_ne_true hb2
        rw [if_f hb2] at hp
        have hp := Option.some.inj hp
        subst hp
        simp (disch := first | omega | (simp only [List.length_set, List.length_append, List.length_cons, List.length_nil, rows_len, zs]; first | done | omega)) only [hb0, ftt0_0, ftt0_1, ftt0_2, hb2, gs, app_hsl, app_nil, reduceIte, reduceCtorEq, Nat.reduceAdd, Nat.reduceMul, Nat.reduceSub, Nat.reduceBEq, Nat.reduceEqDiff, Nat.reduceLeDiff, Nat.reduceLT, Nat.reduceGT, Int.reduceToNat, Int.reduceLT, Int.reduceLE, Int.reduceNeg, Int.reduceAdd, Int.reduceEq, Int.reduceNe] <;> omega
    · simp (disch := first | omega | (simp only [List.length_set, List.length_append, List.length_cons, List.length_nil, rows_len, zs]; first | done | omega)) only [hb0, gs, app_hsl, app_nil, reduceIte, reduceCtorEq, Nat.reduceAdd, Nat.reduceMul, Nat.reduceSub, Nat.reduceBEq, Nat.reduceEqDiff, Nat.reduceLeDiff, Nat.reduceLT, Nat.reduceGT, Int.reduceToNat, Int.reduceLT, Int.reduceLE, Int.reduceNeg, Int.reduceAdd, Int.reduceEq, Int.reduceNe] <;> omega
    · intro x tt1 hh1 hx
      rcases ee0 with o6 | r
      · obtain ⟨rfl, ftt1_0, ftt1_1, ftt1_2⟩ := hx
        dsimp only at hp
        have hp := Option.some.inj hp
        subst hp
        simp (disch := first | omega | (simp only [List.length_set, List.length_append, List.length_cons, List.length_nil, rows_len, zs]; first | done | omega)) only [hb0, ftt1_0, ftt1_1, ftt1_2, gs, app_hsl, app_nil, reduceIte, reduceCtorEq, Nat.reduceAdd, Nat.reduceMul, Nat.reduceSub, Nat.reduceBEq, Nat.reduceEqDiff, Nat.reduceLeDiff, Nat.reduceLT, Nat.reduceGT, Int.reduceToNat, Int.reduceLT, Int.reduceLE, Int.reduceNeg, Int.reduceAdd, Int.reduceEq, Int.reduceNe]
      · obtain ⟨rfl, hx⟩ := hx
        dsimp only at hp
        cases hp
        simp only [seqK_ret, blockK_ret, retK_RK (K := Tells true), hx, and_self, true_and]
  · replace hb0 := eq_false_of_ne_true hb0
    rw [if_f hb0] at hp
    have hp := Option.some.inj hp
    subst hp
    simp (disch := first | omega | (simp only [List.length_set, List.length_append, List.length_cons, List.length_nil, rows_len, zs]; first | done | omega)) only [hb0, gs, app_hsl, app_nil, reduceIte, reduceCtorEq, Nat.reduceAdd, Nat.reduceMul, Nat.reduceSub, Nat.reduceBEq, Nat.reduceEqDiff, Nat.reduceLeDiff, Nat.reduceLT, Nat.reduceGT, Int.reduceToNat, Int.reduceLT, Int.reduceLE, Int.reduceNeg, Int.reduceAdd, Int.reduceEq, Int.reduceNe]

noncomputable def p_laws_eqVector (x0 : TVec) (x1 : TVec) : Option Bool :=
  (p_laws_eqIntS x0.counts x1.counts).bind fun v0 =>
  if (v0) = true then
    some true
  else
    some false
def c_laws_eqVector (f_laws_eqIntS : Nat) : AFn := ⟨11, (.seq (.ops [⟨(.some 2), (.box (.tmp 0)), .none, []⟩, ⟨(.some 3), (.box (.tmp 1)), .none, []⟩, ⟨(.some 4), (.mv (.const (.bool false))), .none, []⟩]) (.seq (.seq (.ops [⟨(.some 5), (.fieldA 0 (.tmp 2)), .none, []⟩, ⟨(.some 6), (.load 1 false (.tmp 5)), .none, []⟩, ⟨(.some 7), (.fieldA 0 (.tmp 3)), .none, []⟩, ⟨(.some 8), (.load 1 false (.tmp 7)), .none, []⟩, ⟨(.some 9), (.call (2 * f_laws_eqIntS) [(.tmp 6), (.tmp 8)]), .none, []⟩, ⟨(.some 10), (.pu (.n (.un .not)) [(.tmp 9)]), .none, []⟩]) (.cond (.tmp 10) (.seq (.ops [⟨(.some 4), (.mv (.const (.bool false))), .none, []⟩]) .ret) .skip)) (.seq (.ops [⟨(.some 4), (.mv (.const (.bool true))), .none, []⟩]) .ret))), [(.tmp 4)]⟩
set_option maxHeartbeats 10000000 in
theorem d_laws_eqVector {P : Program} {env : Env} {f_laws_eqIntS : Nat}  (ep_laws_eqIntS : env (2 * f_laws_eqIntS) = pureFn true (FA fun a : List Int × List Int => p_laws_eqIntS a.1 a.2)) (x0 : TVec) (x1 : TVec) {b : Bool} (hp : p_laws_eqVector x0 x1 = some b) : R P env (c_laws_eqVector f_laws_eqIntS) ((encA (x0, x1)).map ofI) [] (Tells true b) := by
  refine R_of (by simp [c_laws_eqVector, encA]) ?_
  unfold c_laws_eqVector
  unfold p_laws_eqVector at hp
  obtain ⟨v0, hv0, hp⟩ := bind_eq hp
  by_cases hb1 : (v0) = true
  · rw [if_t hb1] at hp
    have hp := Option.some.inj hp
    subst hp
    simp (disch := first | omega | (simp only [List.length_set, List.length_append, List.length_cons, List.length_nil, rows_len, zs]; first | done | omega)) only [ep_laws_eqIntS, hv0, hb1, gs, app_hsl, app_nil, reduceIte, reduceCtorEq, Nat.reduceAdd, Nat.reduceMul, Nat.reduceSub, Nat.reduceBEq, Nat.reduceEqDiff, Nat.reduceLeDiff, Nat.reduceLT, Nat.reduceGT, Int.reduceToNat, Int.reduceLT, Int.reduceLE, Int.reduceNeg, Int.reduceAdd, Int.reduceEq, Int.reduceNe]
  · replace hb1 := eq_false_of_ne_true hb1
    rw [if_f hb1] at hp
    have hp := Option.some.inj hp
    subst hp
    simp (disch := first | omega | (simp only [List.length_set, List.length_append, List.length_cons, List.length_nil, rows_len, zs]; first | done | omega)) only [ep_laws_eqIntS, hv0, hb1, gs, app_hsl, app_nil, reduceIte, reduceCtorEq, Nat.reduceAdd, Nat.reduceMul, Nat.reduceSub, Nat.reduceBEq, Nat.reduceEqDiff, Nat.reduceLeDiff, Nat.reduceLT, Nat.reduceGT, Int.reduceToNat, Int.reduceLT, Int.reduceLE, Int.reduceNeg, Int.reduceAdd, Int.reduceEq, Int.reduceNe]

noncomputable def p_laws_eqCounter (x0 : TCounter) (x1 : TCounter) : Option Bool :=
  (p_laws_eqVector x0.plus x1.plus).bind fun v0 =>
  if (v0) = true then
    (p_laws_eqVector x0.minus x1.minus).bind fun v2 =>
    if (v2) = true then
      some true
    else
      some false
  else
    some false
def c_laws_eqCounter (f_laws_eqVector : Nat) : AFn := ⟨17, (.seq (.ops [⟨(.some 2), (.box (.tmp 0)), .none, []⟩, ⟨(.some 3), (.box (.tmp 1)), .none, []⟩, ⟨(.some 4), (.mv (.const (.bool false))), .none, []⟩]) (.seq (.seq (.ops [⟨(.some 5), (.fieldA 0 (.tmp 2)), .none, []⟩, ⟨(.some 6), (.load 1 true (.tmp 5)), .none, []⟩, ⟨(.some 7), (.fieldA 0 (.tmp 3)), .none, []⟩, ⟨(.some 8), (.load 1 true (.tmp 7)), .none, []⟩, ⟨(.some 9), (.call (2 * f_laws_eqVector) [(.tmp 6), (.tmp 8)]), .none, []⟩, ⟨(.some 10), (.pu (.n (.un .not)) [(.tmp 9)]), .none, []⟩]) (.cond (.tmp 10) (.seq (.ops [⟨(.some 4), (.mv (.const (.bool false))), .none, []⟩]) .ret) .skip)) (.seq (.seq (.ops [⟨(.some 11), (.fieldA 1 (.tmp 2)), .none, []⟩, ⟨(.some 12), (.load 1 true (.tmp 11)), .none, []⟩, ⟨(.some 13), (.fieldA 1 (.tmp 3)), .none, []⟩, ⟨(.some 14), (.load 1 true (.tmp 13)), .none, []⟩, ⟨(.some 15), (.call (2 * f_laws_eqVector) [(.tmp 12), (.tmp 14)]), .none, []⟩, ⟨(.some 16), (.pu (.n (.un .not)) [(.tmp 15)]), .none, []⟩]) (.cond (.tmp 16) (.seq (.ops [⟨(.some 4), (.mv (.const (.bool false))), .none, []⟩]) .ret) .skip)) (.seq (.ops [⟨(.some 4), (.mv (.const (.bool true))), .none, []⟩]) .ret)))), [(.tmp 4)]⟩
set_option maxHeartbeats 10000000 in
theorem d_laws_eqCounter {P : Program} {env : Env} {f_laws_eqVector : Nat}  (ep_laws_eqVector : env (2 * f_laws_eqVector) = pureFn true (FA fun a : TVec × TVec => p_laws_eqVector a.1 a.2)) (x0 : TCounter) (x1 : TCounter) {b : Bool} (hp : p_laws_eqCounter x0 x1 = some b) : R P env (c_laws_eqCounter f_laws_eqVector) ((encA (x0, x1)).map ofI) [] (Tells true b) := by
  refine R_of (by simp [c_laws_eqCounter, encA]) ?_
  unfold c_laws_eqCounter
  unfold p_laws_eqCounter at hp
  obtain ⟨v0, hv0, hp⟩ := bind_eq hp
  by_cases hb1 : (v0) = true
  · rw [if_t hb1] at hp
    obtain ⟨v2, hv2, hp⟩ := bind_eq hp
    by_cases hb3 : (v2) = true
    · rw [if_t hb3] at hp
      have hp := Option.some.inj hp
      subst hp
      simp (disch := first | omega | (simp only [List.length_set, List.length_append, List.length_cons, List.length_nil, rows_len, zs]; first | done | omega)) only [ep_laws_eqVector, hv0, hb1, hv2, hb3, gs, app_hsl, app_nil, reduceIte, reduceCtorEq, Nat.reduceAdd, Nat.reduceMul, Nat.reduceSub, Nat.reduceBEq, Nat.reduceEqDiff, Nat.reduceLeDiff, Nat.reduceLT, Nat.reduceGT, Int.reduceToNat, Int.reduceLT, Int.reduceLE, Int.reduceNeg, Int.reduceAdd, Int.reduceEq, Int.reduceNe]
    · replace hb3 := eq_false_of_ne_true hb3
      rw [if_f hb3] at hp
      have hp := Option.some.inj hp
      subst hp
      simp (disch := first | omega | (simp only [List.length_set, List.length_append, List.length_cons, List.length_nil, rows_len, zs]; first | done | omega)) only [ep_laws_eqVector, hv0, hb1, hv2, hb3, gs, app_hsl, app_nil, reduceIte, reduceCtorEq, Nat.reduceAdd, Nat.reduceMul, Nat.reduceSub, Nat.reduceBEq, Nat.reduceEqDiff, Nat.reduceLeDiff, Nat.reduceLT, Nat.reduceGT, Int.reduceToNat, Int.reduceLT, Int.reduceLE, Int.reduceNeg, Int.reduceAdd, Int.reduceEq, Int.reduceNe]
  · replace hb1 := eq_false_of_ne_true hb1
    rw [if_f hb1] at hp
    have hp := Option.some.inj hp
    subst hp
    simp (disch := first | omega | (simp only [List.length_set, List.length_append, List.length_cons, List.length_nil, rows_len, zs]; first | done | omega)) only [ep_laws_eqVector, hv0, hb1, gs, app_hsl, app_nil, reduceIte, reduceCtorEq, Nat.reduceAdd, Nat.reduceMul, Nat.reduceSub, Nat.reduceBEq, Nat.reduceEqDiff, Nat.reduceLeDiff, Nat.reduceLT, Nat.reduceGT, Int.reduceToNat, Int.reduceLT, Int.reduceLE, Int.reduceNeg, Int.reduceAdd, Int.reduceEq, Int.reduceNe]

noncomputable def p_laws_markIntS_l0 : List Int × Int × Int → Option (Lp (List Int × Int × Int) (T2 Int (List Int)))
  | (s0, s1, s2) =>
    if (decide (s2 < (s0.length : Int))) = true then
      (get? s0 s2).bind fun v5 =>
      some (.go ((s0.set s2.toNat s1), w64 (s1 + 1), w64 (s2 + 1)))
    else
      some (.out (s0, s1, s2))
noncomputable def p_laws_markIntS (x0 : List Int) (x1 : Int) : Option (T2 Int (List Int)) :=
  (loopP (p_laws_markIntS_l0) (x0, x1, 0)).bind fun ee0 => match ee0 with
  | .ret r => some r
  | .out (o7, o8, o9) =>
    some ⟨o8, o7⟩
def c_laws_markIntS : AFn := ⟨19, (.seq (.ops [⟨(.some 4), (.mv (.const (.int .i64 0))), .none, []⟩]) (.seq (.seq (.ops [⟨(.some 5), (.mv (.const (.int .i64 0))), .none, []⟩]) (.block 0 (.loop (.seq (.seq (.ops [⟨(.some 6), (.mv (.tmp 5)), .none, []⟩, ⟨(.some 7), (.mv (.tmp 0)), .none, []⟩, ⟨(.some 8), (.len (.tmp 7)), .none, []⟩, ⟨(.some 9), (.pu (.n (.ar .lss)) [(.tmp 6), (.tmp 8)]), .none, []⟩]) (.cond (.tmp 9) .skip (.exit 0))) (.seq (.block 1 (.seq (.ops [⟨(.some 12), (.mv (.tmp 0)), .none, []⟩, ⟨(.some 13), (.mv (.tmp 5)), .none, []⟩, ⟨(.some 14), (.mv (.tmp 1)), .none, []⟩, ⟨(.some 15), (.idxS 1 (.tmp 12) (.tmp 13)), .none, []⟩, ⟨.none, (.storeV [(0, false)] 1 (.tmp 15) (.tmp 14)), .none, []⟩]) (.ops [⟨(.some 16), (.mv (.tmp 1)), .none, []⟩, ⟨(.some 17), (.pu (.n (.ar .add)) [(.tmp 16), (.const (.int .i64 1))]), .none, []⟩, ⟨(.some 1), (.mv (.tmp 17)), .none, []⟩]))) (.ops [⟨(.some 10), (.mv (.tmp 5)), .none, []⟩, ⟨(.some 11), (.pu (.n (.ar .add)) [(.tmp 10), (.const (.int .i64 1))]), .none, []⟩, ⟨(.some 5), (.mv (.tmp 11)), .none, []⟩])))))) (.seq (.ops [⟨(.some 18), (.mv (.tmp 1)), .none, []⟩, ⟨(.some 4), (.mv (.tmp 18)), .none, []⟩]) .ret))), [(.tmp 4)]⟩
def i_laws_markIntS (pb0 pn0 : Nat) (h : Heap) (b : T2 Int (List Int)) (v : V) (h2 : Heap) : Prop := Keep [pb0] h h2 ∧ v = .i (.s (.int .i64 b.a)) ∧ getCells h2 pb0 pn0 = some (rows b.b)
def k_laws_markIntS (F : Fun) : Prop := ∀ (x0 : List Int) (x1 : Int) (b : T2 Int (List Int)), p_laws_markIntS x0 x1 = some b → ∀ (pb0 pn0 : Nat) (h : Heap), pn0 = (x0).length → getCells h pb0 pn0 = some (rows x0) → ∃ p, F none [.hsl pb0 pn0 0 1 false pn0, .i (.s (.int .i64 x1))] h = some p ∧ i_laws_markIntS pb0 pn0 h b p.1 p.2
set_option maxHeartbeats 10000000 in
theorem w_laws_markIntS {P : Program} {env : Env}  (x0 : List Int) (x1 : Int) {b : T2 Int (List Int)} (hp : p_laws_markIntS x0 x1 = some b) (pb0 pn0 : Nat) (hh : Heap) (pm0 : pn0 = (x0).length) (pf0 : getCells hh pb0 pn0 = some (rows x0)) : R P env (c_laws_markIntS) [.hsl pb0 pn0 0 1 false pn0, .i (.s (.int .i64 x1))] hh (i_laws_markIntS pb0 pn0 hh b) := by
  have pl0 := gc_lt pf0
  refine R_of (by simp [c_laws_markIntS, encA]) ?_
  unfold c_laws_markIntS
  unfold p_laws_markIntS at hp
  obtain ⟨ee0, hee0, hp⟩ := bind_eq hp
  simp (disch := first | omega | (simp only [List.length_set, List.length_append, List.length_cons, List.length_nil, rows_len, zs]; first | done | omega)) only [pf0, gs, app_hsl, app_nil, reduceIte, reduceCtorEq, Nat.reduceAdd, Nat.reduceMul, Nat.reduceSub, Nat.reduceBEq, Nat.reduceEqDiff, Nat.reduceLeDiff, Nat.reduceLT, Nat.reduceGT, Int.reduceToNat, Int.reduceLT, Int.reduceLE, Int.reduceNeg, Int.reduceAdd, Int.reduceEq, Int.reduceNe]
  refine W_loopP 0 (fun s t h => match s with | (s0, s1, s2) => t 0 = .hsl pb0 pn0 0 1 false pn0 ∧ t 1 = .i (.s (.int .i64 s1)) ∧ t 5 = .i (.s (.int .i64 s2)) ∧ getCells h pb0 pn0 = some (rows (s0 : List Int)) ∧ pb0 < h.length ∧ Keep [pb0] hh h) (RK [.tmp 4] (i_laws_markIntS pb0 pn0 hh)) ?_ hee0 ?_ ?_
  · rintro ⟨s0, s1, s2⟩ ee tt0 hh0 ⟨ftt0_0, ftt0_1, ftt0_2, ftt0_3, ftt0_4, ftt0_5⟩ hp
    have ztt0_3 := len_rows ftt0_3
    simp only [zs] at ztt0_3
    rw [p_laws_markIntS_l0] at hp
    have hz3 : ((pn0 : Nat) : Int) = (s0.length : Int) := by omega
    by_cases hb4 : (decide (s2 < (s0.length : Int))) = true
    · rw [if_t hb4] at hp
      obtain ⟨v5, hv5, hp⟩ := bind_eq hp
      have gv5 := get_some hv5
      have hs6 : List.take s2.toNat (rows s0) ++ .i (.s (.int .i64 s1)) :: List.drop (s2.toNat + 1) (rows s0) = rows (s0.set s2.toNat s1) := by simpa [splice, zs, cellsV, I.cells, enc_int] using rows_set_off (y := s1) (ys := [.i (.s (.int .i64 s1))]) (k := 0) gv5.2.2 (Nat.le_of_ble_eq_true rfl) (by rfl)
      have hp := Option.some.inj hp
      subst hp
      simp (disch := first | omega | (simp only [List.length_set, List.length_append, List.length_cons, List.length_nil, rows_len, zs]; first | done | omega)) only [i_laws_markIntS, pf0, ftt0_0, ftt0_1, ftt0_2, ftt0_3, ftt0_4, ftt0_5, hz3, hb4, hv5, (gv5).1, (gv5).2.1, hs6, gs, app_hsl, app_nil, reduceIte, reduceCtorEq, Nat.reduceAdd, Nat.reduceMul, Nat.reduceSub, Nat.reduceBEq, Nat.reduceEqDiff, Nat.reduceLeDiff, Nat.reduceLT, Nat.reduceGT, Int.reduceToNat, Int.reduceLT, Int.reduceLE, Int.reduceNeg, Int.reduceAdd, Int.reduceEq, Int.reduceNe] <;> (repeat (first | omega | assumption | rfl | exact keep_refl | refine keep_app ?_ | (refine keep_set (by first | (left; simp; done) | (right; simp; omega)) ?_) | refine And.intro ?_ ?_))
    · replace hb4 := eq_false_of_ne_true hb4
      rw [if_f hb4] at hp
      have hp := Option.some.inj hp
      subst hp
      simp (disch := first | omega | (simp only [List.length_set, List.length_append, List.length_cons, List.length_nil, rows_len, zs]; first | done | omega)) only [i_laws_markIntS, pf0, ftt0_0, ftt0_1, ftt0_2, ftt0_3, ftt0_4, ftt0_5, hz3, hb4, gs, app_hsl, app_nil, reduceIte, reduceCtorEq, Nat.reduceAdd, Nat.reduceMul, Nat.reduceSub, Nat.reduceBEq, Nat.reduceEqDiff, Nat.reduceLeDiff, Nat.reduceLT, Nat.reduceGT, Int.reduceToNat, Int.reduceLT, Int.reduceLE, Int.reduceNeg, Int.reduceAdd, Int.reduceEq, Int.reduceNe] <;> (repeat (first | omega | assumption | rfl | exact keep_refl | refine keep_app ?_ | (refine keep_set (by first | (left; simp; done) | (right; simp; omega)) ?_) | refine And.intro ?_ ?_))
  · simp (disch := first | omega | (simp only [List.length_set, List.length_append, List.length_cons, List.length_nil, rows_len, zs]; first | done | omega)) only [i_laws_markIntS, pf0, gs, app_hsl, app_nil, reduceIte, reduceCtorEq, Nat.reduceAdd, Nat.reduceMul, Nat.reduceSub, Nat.reduceBEq, Nat.reduceEqDiff, Nat.reduceLeDiff, Nat.reduceLT, Nat.reduceGT, Int.reduceToNat, Int.reduceLT, Int.reduceLE, Int.reduceNeg, Int.reduceAdd, Int.reduceEq, Int.reduceNe] <;> (repeat (first | omega | assumption | rfl | exact keep_refl | refine keep_app ?_ | (refine keep_set (by first | (left; simp; done) | (right; simp; omega)) ?_) | refine And.intro ?_ ?_))
  · intro x tt1 hh1 hx
    rcases ee0 with ⟨o7, o8, o9⟩ | r
    · obtain ⟨rfl, ftt1_0, ftt1_1, ftt1_2, ftt1_3, ftt1_4, ftt1_5⟩ := hx
      have ztt1_3 := len_rows ftt1_3
      simp only [zs] at ztt1_3
      dsimp only at hp
      have hp := Option.some.inj hp
      subst hp
      simp (disch := first | omega | (simp only [List.length_set, List.length_append, List.length_cons, List.length_nil, rows_len, zs]; first | done | omega)) only [i_laws_markIntS, pf0, ftt1_0, ftt1_1, ftt1_2, ftt1_3, ftt1_4, ftt1_5, gs, app_hsl, app_nil, reduceIte, reduceCtorEq, Nat.reduceAdd, Nat.reduceMul, Nat.reduceSub, Nat.reduceBEq, Nat.reduceEqDiff, Nat.reduceLeDiff, Nat.reduceLT, Nat.reduceGT, Int.reduceToNat, Int.reduceLT, Int.reduceLE, Int.reduceNeg, Int.reduceAdd, Int.reduceEq, Int.reduceNe] <;> (repeat (first | omega | assumption | rfl | exact keep_refl | refine keep_app ?_ | (refine keep_set (by first | (left; simp; done) | (right; simp; omega)) ?_) | refine And.intro ?_ ?_))
    · obtain ⟨rfl, hx⟩ := hx
      dsimp only at hp
      cases hp
      simp only [seqK_ret, blockK_ret, retK_RK (K := i_laws_markIntS pb0 pn0 hh), hx, and_self, true_and]
theorem ko_laws_markIntS {P : Program} {env : Env}  : k_laws_markIntS (runIn P env (c_laws_markIntS)) := by
  intro x0 x1 b hp pb0 pn0 h a0 a1
  exact w_laws_markIntS x0 x1 hp pb0 pn0 h a0 a1

noncomputable def p_laws_markVector (x0 : TVec) (x1 : Int) : Option (T2 Int TVec) :=
  (p_laws_markIntS x0.counts x1).bind fun v0 =>
  some ⟨v0.a, (TVec.mk v0.b)⟩
def c_laws_markVector (f_laws_markIntS : Nat) : AFn := ⟨10, (.seq (.ops [⟨(.some 2), (.box (.tmp 0)), .none, []⟩, ⟨(.some 4), (.mv (.const (.int .i64 0))), .none, []⟩]) (.seq (.ops [⟨(.some 5), (.fieldA 0 (.tmp 2)), .none, []⟩, ⟨(.some 6), (.load 1 false (.tmp 5)), .none, []⟩, ⟨(.some 7), (.mv (.tmp 1)), .none, []⟩, ⟨(.some 8), (.call (2 * f_laws_markIntS + 1) [(.tmp 6), (.tmp 7)]), .none, []⟩, ⟨(.some 1), (.mv (.tmp 8)), .none, []⟩]) (.seq (.ops [⟨(.some 9), (.mv (.tmp 1)), .none, []⟩, ⟨(.some 4), (.mv (.tmp 9)), .none, []⟩]) .ret))), [(.tmp 4)]⟩
def i_laws_markVector (pb0 pn0 : Nat) (h : Heap) (b : T2 Int TVec) (v : V) (h2 : Heap) : Prop := Keep [pb0] h h2 ∧ v = .i (.s (.int .i64 b.a)) ∧ getCells h2 pb0 pn0 = some (rows b.b.counts)
def k_laws_markVector (F : Fun) : Prop := ∀ (x0 : TVec) (x1 : Int) (b : T2 Int TVec), p_laws_markVector x0 x1 = some b → ∀ (pb0 pn0 : Nat) (h : Heap), pn0 = (x0.counts).length → getCells h pb0 pn0 = some (rows x0.counts) → ∃ p, F none [.agg [.hsl pb0 pn0 0 1 false pn0], .i (.s (.int .i64 x1))] h = some p ∧ i_laws_markVector pb0 pn0 h b p.1 p.2
set_option maxHeartbeats 10000000 in
theorem w_laws_markVector {P : Program} {env : Env} {f_laws_markIntS : Nat}  (e_laws_markIntS : k_laws_markIntS (env (2 * f_laws_markIntS + 1))) (x0 : TVec) (x1 : Int) {b : T2 Int TVec} (hp : p_laws_markVector x0 x1 = some b) (pb0 pn0 : Nat) (hh : Heap) (pm0 : pn0 = (x0.counts).length) (pf0 : getCells hh pb0 pn0 = some (rows x0.counts)) : R P env (c_laws_markVector f_laws_markIntS) [.agg [.hsl pb0 pn0 0 1 false pn0], .i (.s (.int .i64 x1))] hh (i_laws_markVector pb0 pn0 hh b) := by
  have pl0 := gc_lt pf0
  refine R_of (by simp [c_laws_markVector, encA]) ?_
  unfold c_laws_markVector
  unfold p_laws_markVector at hp
  obtain ⟨v0, hv0, hp⟩ := bind_eq hp
  simp (disch := first | omega | (simp only [List.length_set, List.length_append, List.length_cons, List.length_nil, rows_len, zs]; first | done | omega)) only [pf0, gs, app_hsl, app_nil, reduceIte, reduceCtorEq, Nat.reduceAdd, Nat.reduceMul, Nat.reduceSub, Nat.reduceBEq, Nat.reduceEqDiff, Nat.reduceLeDiff, Nat.reduceLT, Nat.reduceGT, Int.reduceToNat, Int.reduceLT, Int.reduceLE, Int.reduceNeg, Int.reduceAdd, Int.reduceEq, Int.reduceNe]
  refine call_f (fun h => getCells h pb0 pn0 = some (rows (x0.counts : List Int)) ∧ pb0 < h.length ∧ getCells h hh.length 1 = some [.hsl pb0 pn0 0 1 false pn0] ∧ hh.length < h.length ∧ Keep [pb0] hh h) (fun h v h2 => i_laws_markIntS pb0 pn0 h v0 v h2) ?_ ?_ ?_
  · simp (disch := first | omega | (simp only [List.length_set, List.length_append, List.length_cons, List.length_nil, rows_len, zs]; first | done | omega)) only [i_laws_markVector, pf0, hv0, gs, app_hsl, app_nil, reduceIte, reduceCtorEq, Nat.reduceAdd, Nat.reduceMul, Nat.reduceSub, Nat.reduceBEq, Nat.reduceEqDiff, Nat.reduceLeDiff, Nat.reduceLT, Nat.reduceGT, Int.reduceToNat, Int.reduceLT, Int.reduceLE, Int.reduceNeg, Int.reduceAdd, Int.reduceEq, Int.reduceNe] <;> (repeat (first | omega | assumption | rfl | exact keep_refl | refine keep_app ?_ | (refine keep_set (by first | (left; simp; done) | (right; simp; omega)) ?_) | refine And.intro ?_ ?_))
  · rintro h ⟨c0_0, c0_1, c0_2, c0_3, c0_4⟩
    exact e_laws_markIntS _ _ _ hv0 pb0 pn0 h (by omega) c0_0
  · rintro h v hh0 ⟨c0_0, c0_1, c0_2, c0_3, c0_4⟩ hpost
    obtain ⟨kk0, rfl, w0_0⟩ := hpost
    have d0_0 : getCells hh0 pb0 pn0 = some (rows (v0.b : List Int)) := w0_0
    have mm0_0 := len_rows w0_0
    simp only [zs] at mm0_0
    have d0_0l := keep_lt kk0 c0_1
    have d0_1 : getCells hh0 hh.length 1 = some [.hsl pb0 pn0 0 1 false pn0] := (keep_get kk0 c0_3 (by first | (simp; done) | (simp; omega))).trans c0_2
    have d0_1l := keep_lt kk0 c0_3
    have kp0 : Keep [pb0] hh hh0 := keep_trans c0_4 kk0 (by intro b hb; first | (simp at hb; done) | (simp at hb ⊢; omega))
    have hp := Option.some.inj hp
    subst hp
    simp (disch := first | omega | (simp only [List.length_set, List.length_append, List.length_cons, List.length_nil, rows_len, zs]; first | done | omega)) only [i_laws_markVector, pf0, hv0, d0_0, d0_1, gs, app_hsl, app_nil, reduceIte, reduceCtorEq, Nat.reduceAdd, Nat.reduceMul, Nat.reduceSub, Nat.reduceBEq, Nat.reduceEqDiff, Nat.reduceLeDiff, Nat.reduceLT, Nat.reduceGT, Int.reduceToNat, Int.reduceLT, Int.reduceLE, Int.reduceNeg, Int.reduceAdd, Int.reduceEq, Int.reduceNe] <;> (repeat (first | omega | assumption | rfl | exact keep_refl | refine keep_app ?_ | (refine keep_set (by first | (left; simp; done) | (right; simp; omega)) ?_) | refine And.intro ?_ ?_))
theorem ko_laws_markVector {P : Program} {env : Env} {f_laws_markIntS : Nat}  (e_laws_markIntS : k_laws_markIntS (env (2 * f_laws_markIntS + 1))) : k_laws_markVector (runIn P env (c_laws_markVector f_laws_markIntS)) := by
  intro x0 x1 b hp pb0 pn0 h a0 a1
  exact w_laws_markVector e_laws_markIntS x0 x1 hp pb0 pn0 h a0 a1

noncomputable def p_laws_markCounter (x0 : TCounter) (x1 : Int) : Option (T2 Int TCounter) :=
  (p_laws_markVector x0.plus x1).bind fun v0 =>
  (p_laws_markVector x0.minus v0.a).bind fun v1 =>
  some ⟨v1.a, (TCounter.mk v0.b v1.b)⟩
def c_laws_markCounter (f_laws_markVector : Nat) : AFn := ⟨14, (.seq (.ops [⟨(.some 2), (.box (.tmp 0)), .none, []⟩, ⟨(.some 4), (.mv (.const (.int .i64 0))), .none, []⟩]) (.seq (.ops [⟨(.some 5), (.fieldA 0 (.tmp 2)), .none, []⟩, ⟨(.some 6), (.load 1 true (.tmp 5)), .none, []⟩, ⟨(.some 7), (.mv (.tmp 1)), .none, []⟩, ⟨(.some 8), (.call (2 * f_laws_markVector + 1) [(.tmp 6), (.tmp 7)]), .none, []⟩, ⟨(.some 1), (.mv (.tmp 8)), .none, []⟩]) (.seq (.ops [⟨(.some 9), (.fieldA 1 (.tmp 2)), .none, []⟩, ⟨(.some 10), (.load 1 true (.tmp 9)), .none, []⟩, ⟨(.some 11), (.mv (.tmp 1)), .none, []⟩, ⟨(.some 12), (.call (2 * f_laws_markVector + 1) [(.tmp 10), (.tmp 11)]), .none, []⟩, ⟨(.some 1), (.mv (.tmp 12)), .none, []⟩]) (.seq (.ops [⟨(.some 13), (.mv (.tmp 1)), .none, []⟩, ⟨(.some 4), (.mv (.tmp 13)), .none, []⟩]) .ret)))), [(.tmp 4)]⟩
def i_laws_markCounter (pb0 pb1 pn0 pn1 : Nat) (h : Heap) (b : T2 Int TCounter) (v : V) (h2 : Heap) : Prop := Keep [pb0, pb1] h h2 ∧ v = .i (.s (.int .i64 b.a)) ∧ getCells h2 pb0 pn0 = some (rows b.b.plus.counts) ∧ getCells h2 pb1 pn1 = some (rows b.b.minus.counts)
def k_laws_markCounter (F : Fun) : Prop := ∀ (x0 : TCounter) (x1 : Int) (b : T2 Int TCounter), p_laws_markCounter x0 x1 = some b → ∀ (pb0 pb1 pn0 pn1 : Nat) (h : Heap), pn0 = (x0.plus.counts).length → pn1 = (x0.minus.counts).length → getCells h pb0 pn0 = some (rows x0.plus.counts) → getCells h pb1 pn1 = some (rows x0.minus.counts) → pb1 ≠ pb0 → ∃ p, F none [.agg [.hsl pb0 pn0 0 1 false pn0, .hsl pb1 pn1 0 1 false pn1], .i (.s (.int .i64 x1))] h = some p ∧ i_laws_markCounter pb0 pb1 pn0 pn1 h b p.1 p.2
set_option maxHeartbeats 10000000 in
theorem w_laws_markCounter {P : Program} {env : Env} {f_laws_markVector : Nat}  (e_laws_markVector : k_laws_markVector (env (2 * f_laws_markVector + 1))) (x0 : TCounter) (x1 : Int) {b : T2 Int TCounter} (hp : p_laws_markCounter x0 x1 = some b) (pb0 pb1 pn0 pn1 : Nat) (hh : Heap) (pm0 : pn0 = (x0.plus.counts).length) (pm1 : pn1 = (x0.minus.counts).length) (pf0 : getCells hh pb0 pn0 = some (rows x0.plus.counts)) (pf1 : getCells hh pb1 pn1 = some (rows x0.minus.counts)) (pe0 : pb1 ≠ pb0) : R P env (c_laws_markCounter f_laws_markVector) [.agg [.hsl pb0 pn0 0 1 false pn0, .hsl pb1 pn1 0 1 false pn1], .i (.s (.int .i64 x1))] hh (i_laws_markCounter pb0 pb1 pn0 pn1 hh b) := by
  have pl0 := gc_lt pf0
  have pl1 := gc_lt pf1
  refine R_of (by simp [c_laws_markCounter, encA]) ?_
  unfold c_laws_markCounter
  unfold p_laws_markCounter at hp
  obtain ⟨v0, hv0, hp⟩ := bind_eq hp
  simp (disch := first | omega | (simp only [List.length_set, List.length_append, List.length_cons, List.length_nil, rows_len, zs]; first | done | omega)) only [pf0, pf1, gs, app_hsl, app_nil, reduceIte, reduceCtorEq, Nat.reduceAdd, Nat.reduceMul, Nat.reduceSub, Nat.reduceBEq, Nat.reduceEqDiff, Nat.reduceLeDiff, Nat.reduceLT, Nat.reduceGT, Int.reduceToNat, Int.reduceLT, Int.reduceLE, Int.reduceNeg, Int.reduceAdd, Int.reduceEq, Int.reduceNe]
  refine call_f (fun h => getCells h pb0 pn0 = some (rows (x0.plus.counts : List Int)) ∧ pb0 < h.length ∧ getCells h pb1 pn1 = some (rows (x0.minus.counts : List Int)) ∧ pb1 < h.length ∧ getCells h hh.length 2 = some [.hsl pb0 pn0 0 1 false pn0, .hsl pb1 pn1 0 1 false pn1] ∧ hh.length < h.length ∧ Keep [pb0, pb1] hh h) (fun h v h2 => i_laws_markVector pb0 pn0 h v0 v h2) ?_ ?_ ?_
  · simp (disch := first | omega | (simp only [List.length_set, List.length_append, List.length_cons, List.length_nil, rows_len, zs]; first | done | omega)) only [i_laws_markCounter, pf0, pf1, hv0, gs, app_hsl, app_nil, reduceIte, reduceCtorEq, Nat.reduceAdd, Nat.reduceMul, Nat.reduceSub, Nat.reduceBEq, Nat.reduceEqDiff, Nat.reduceLeDiff, Nat.reduceLT, Nat.reduceGT, Int.reduceToNat, Int.reduceLT, Int.reduceLE, Int.reduceNeg, Int.reduceAdd, Int.reduceEq, Int.reduceNe] <;> (repeat (first | omega | assumption | rfl | exact keep_refl | refine keep_app ?_ | (refine keep_set (by first | (left; simp; done) | (right; simp; omega)) ?_) | refine And.intro ?_ ?_))
  · rintro h ⟨c0_0, c0_1, c0_2, c0_3, c0_4, c0_5, c0_6⟩
    exact e_laws_markVector _ _ _ hv0 pb0 pn0 h (by omega) c0_0
  · rintro h v hh0 ⟨c0_0, c0_1, c0_2, c0_3, c0_4, c0_5, c0_6⟩ hpost
    obtain ⟨kk0, rfl, w0_0⟩ := hpost
    have d0_0 : getCells hh0 pb0 pn0 = some (rows (v0.b.counts : List Int)) := w0_0
    have mm0_0 := len_rows w0_0
    simp only [zs] at mm0_0
    have d0_0l := keep_lt kk0 c0_1
    have d0_1 : getCells hh0 pb1 pn1 = some (rows (x0.minus.counts : List Int)) := (keep_get kk0 c0_3 (by first | (simp; done) | (simp; omega))).trans c0_2
    have d0_1l := keep_lt kk0 c0_3
    have d0_2 : getCells hh0 hh.length 2 = some [.hsl pb0 pn0 0 1 false pn0, .hsl pb1 pn1 0 1 false pn1] := (keep_get kk0 c0_5 (by first | (simp; done) | (simp; omega))).trans c0_4
    have d0_2l := keep_lt kk0 c0_5
    have kp0 : Keep [pb0, pb1] hh hh0 := keep_trans c0_6 kk0 (by intro b hb; first | (simp at hb; done) | (simp at hb ⊢; omega))
    obtain ⟨v1, hv1, hp⟩ := bind_eq hp
    simp (disch := first | omega | (simp only [List.length_set, List.length_append, List.length_cons, List.length_nil, rows_len, zs]; first | done | omega)) only [pf0, pf1, hv0, d0_0, d0_1, d0_2, gs, app_hsl, app_nil, reduceIte, reduceCtorEq, Nat.reduceAdd, Nat.reduceMul, Nat.reduceSub, Nat.reduceBEq, Nat.reduceEqDiff, Nat.reduceLeDiff, Nat.reduceLT, Nat.reduceGT, Int.reduceToNat, Int.reduceLT, Int.reduceLE, Int.reduceNeg, Int.reduceAdd, Int.reduceEq, Int.reduceNe]
    refine call_f (fun h => getCells h pb0 pn0 = some (rows (v0.b.counts : List Int)) ∧ pb0 < h.length ∧ getCells h pb1 pn1 = some (rows (x0.minus.counts : List Int)) ∧ pb1 < h.length ∧ getCells h hh.length 2 = some [.hsl pb0 pn0 0 1 false pn0, .hsl pb1 pn1 0 1 false pn1] ∧ hh.length < h.length ∧ Keep [pb0, pb1] hh h) (fun h v h2 => i_laws_markVector pb1 pn1 h v1 v h2) ?_ ?_ ?_
    · simp (disch := first | omega | (simp only [List.length_set, List.length_append, List.length_cons, List.length_nil, rows_len, zs]; first | done | omega)) only [i_laws_markCounter, pf0, pf1, hv0, d0_0, d0_1, d0_2, hv1, gs, app_hsl, app_nil, reduceIte, reduceCtorEq, Nat.reduceAdd, Nat.reduceMul, Nat.reduceSub, Nat.reduceBEq, Nat.reduceEqDiff, Nat.reduceLeDiff, Nat.reduceLT, Nat.reduceGT, Int.reduceToNat, Int.reduceLT, Int.reduceLE, Int.reduceNeg, Int.reduceAdd, Int.reduceEq, Int.reduceNe] <;> (repeat (first | omega | assumption | rfl | exact keep_refl | refine keep_app ?_ | (refine keep_set (by first | (left; simp; done) | (right; simp; omega)) ?_) | refine And.intro ?_ ?_))
    · rintro h ⟨c1_0, c1_1, c1_2, c1_3, c1_4, c1_5, c1_6⟩
      exact e_laws_markVector _ _ _ hv1 pb1 pn1 h (by omega) c1_2
    · rintro h v hh1 ⟨c1_0, c1_1, c1_2, c1_3, c1_4, c1_5, c1_6⟩ hpost
      obtain ⟨kk1, rfl, w1_0⟩ := hpost
      have d1_0 : getCells hh1 pb0 pn0 = some (rows (v0.b.counts : List Int)) := (keep_get kk1 c1_1 (by first | (simp; done) | (simp; omega))).trans c1_0
      have d1_0l := keep_lt kk1 c1_1
      have d1_1 : getCells hh1 pb1 pn1 = some (rows (v1.b.counts : List Int)) := w1_0
      have mm1_0 := len_rows w1_0
      simp only [zs] at mm1_0
      have d1_1l := keep_lt kk1 c1_3
      have d1_2 : getCells hh1 hh.length 2 = some [.hsl pb0 pn0 0 1 false pn0, .hsl pb1 pn1 0 1 false pn1] := (keep_get kk1 c1_5 (by first | (simp; done) | (simp; omega))).trans c1_4
      have d1_2l := keep_lt kk1 c1_5
      have kp1 : Keep [pb0, pb1] hh hh1 := keep_trans c1_6 kk1 (by intro b hb; first | (simp at hb; done) | (simp at hb ⊢; omega))
      have hp := Option.some.inj hp
      subst hp
      simp (disch := first | omega | (simp only [List.length_set, List.length_append, List.length_cons, List.length_nil, rows_len, zs]; first | done | omega)) only [i_laws_markCounter, pf0, pf1, hv0, d0_0, d0_1, d0_2, hv1, d1_0, d1_1, d1_2, gs, app_hsl, app_nil, reduceIte, reduceCtorEq, Nat.reduceAdd, Nat.reduceMul, Nat.reduceSub, Nat.reduceBEq, Nat.reduceEqDiff, Nat.reduceLeDiff, Nat.reduceLT, Nat.reduceGT, Int.reduceToNat, Int.reduceLT, Int.reduceLE, Int.reduceNeg, Int.reduceAdd, Int.reduceEq, Int.reduceNe] <;> (repeat (first | omega | assumption | rfl | exact keep_refl | refine keep_app ?_ | (refine keep_set (by first | (left; simp; done) | (right; simp; omega)) ?_) | refine And.intro ?_ ?_))
theorem ko_laws_markCounter {P : Program} {env : Env} {f_laws_markVector : Nat}  (e_laws_markVector : k_laws_markVector (env (2 * f_laws_markVector + 1))) : k_laws_markCounter (runIn P env (c_laws_markCounter f_laws_markVector)) := by
  intro x0 x1 b hp pb0 pb1 pn0 pn1 h a0 a1 a2 a3 a4
  exact w_laws_markCounter e_laws_markVector x0 x1 hp pb0 pb1 pn0 pn1 h a0 a1 a2 a3 a4

noncomputable def p_laws_heldIntS_l0 (x0 : List Int) : Int × Int → Option (Lp (Int × Int) Int)
  | (s0, s1) =>
    if (decide (s1 < (x0.length : Int))) = true then
      (get? x0 s1).bind fun v3 =>
      if (decide (v3 = s0)) = true then
        some (.go (w64 (s0 + 1), w64 (s1 + 1)))
      else
        some (.ret (-1))
    else
      some (.out (s0, s1))
noncomputable def p_laws_heldIntS (x0 : List Int) (x1 : Int) : Option Int :=
  (loopP (p_laws_heldIntS_l0 x0) (x1, 0)).bind fun ee0 => match ee0 with
  | .ret r => some r
  | .out (o5, o6) =>
    some o5
def c_laws_heldIntS : AFn := ⟨21, (.seq (.ops [⟨(.some 4), (.mv (.const (.int .i64 0))), .none, []⟩]) (.seq (.seq (.ops [⟨(.some 5), (.mv (.const (.int .i64 0))), .none, []⟩]) (.block 0 (.loop (.seq (.seq (.ops [⟨(.some 6), (.mv (.tmp 5)), .none, []⟩, ⟨(.some 7), (.mv (.tmp 0)), .none, []⟩, ⟨(.some 8), (.len (.tmp 7)), .none, []⟩, ⟨(.some 9), (.pu (.n (.ar .lss)) [(.tmp 6), (.tmp 8)]), .none, []⟩]) (.cond (.tmp 9) .skip (.exit 0))) (.seq (.block 1 (.seq (.seq (.ops [⟨(.some 12), (.mv (.tmp 0)), .none, []⟩, ⟨(.some 13), (.mv (.tmp 5)), .none, []⟩, ⟨(.some 14), (.idxS 1 (.tmp 12) (.tmp 13)), .none, []⟩, ⟨(.some 15), (.load 1 false (.tmp 14)), .none, []⟩, ⟨(.some 16), (.mv (.tmp 1)), .none, []⟩, ⟨(.some 17), (.pu (.n (.ar .neq)) [(.tmp 15), (.tmp 16)]), .none, []⟩]) (.cond (.tmp 17) (.seq (.ops [⟨(.some 4), (.mv (.const (.int .i64 (-1)))), .none, []⟩]) .ret) .skip)) (.ops [⟨(.some 18), (.mv (.tmp 1)), .none, []⟩, ⟨(.some 19), (.pu (.n (.ar .add)) [(.tmp 18), (.const (.int .i64 1))]), .none, []⟩, ⟨(.some 1), (.mv (.tmp 19)), .none, []⟩]))) (.ops [⟨(.some 10), (.mv (.tmp 5)), .none, []⟩, ⟨(.some 11), (.pu (.n (.ar .add)) [(.tmp 10), (.const (.int .i64 1))]), .none, []⟩, ⟨(.some 5), (.mv (.tmp 11)), .none, []⟩])))))) (.seq (.ops [⟨(.some 20), (.mv (.tmp 1)), .none, []⟩, ⟨(.some 4), (.mv (.tmp 20)), .none, []⟩]) .ret))), [(.tmp 4)]⟩
set_option maxHeartbeats 10000000 in
theorem d_laws_heldIntS {P : Program} {env : Env}  (x0 : List Int) (x1 : Int) {b : Int} (hp : p_laws_heldIntS x0 x1 = some b) : R P env (c_laws_heldIntS) ((encA (x0, x1)).map ofI) [] (Tells true b) := by
  refine R_of (by simp [c_laws_heldIntS, encA]) ?_
  unfold c_laws_heldIntS
  unfold p_laws_heldIntS at hp
  obtain ⟨ee0, hee0, hp⟩ := bind_eq hp
  simp (disch := first | omega | (simp only [List.length_set, List.length_append, List.length_cons, List.length_nil, rows_len, zs]; first | done | omega)) only [gs, app_hsl, app_nil, reduceIte, reduceCtorEq, Nat.reduceAdd, Nat.reduceMul, Nat.reduceSub, Nat.reduceBEq, Nat.reduceEqDiff, Nat.reduceLeDiff, Nat.reduceLT, Nat.reduceGT, Int.reduceToNat, Int.reduceLT, Int.reduceLE, Int.reduceNeg, Int.reduceAdd, Int.reduceEq, Int.reduceNe]
  refine W_loopP 0 (fun s t h => match s with | (s0, s1) => t 0 = .i (.sl 1 (x0.map enc)) ∧ t 1 = .i (.s (.int .i64 s0)) ∧ t 5 = .i (.s (.int .i64 s1))) (RK [.tmp 4] (Tells true)) ?_ hee0 ?_ ?_
  · rintro ⟨s0, s1⟩ ee tt0 hh0 ⟨ftt0_0, ftt0_1, ftt0_2⟩ hp
    rw [p_laws_heldIntS_l0] at hp
    by_cases hb2 : (decide (s1 < (x0.length : Int))) = true
    · rw [if_t hb2] at hp
      obtain ⟨v3, hv3, hp⟩ := bind_eq hp
      by_cases hb4 : (decide (v3 = s0)) = true
      · rw [if_t hb4] at hp
        have hp := Option.some.inj hp
        subst hp
        simp (disch := first | omega | (simp only [List.length_set, List.length_append, List.length_cons, List.length_nil, rows_len, zs]; first | done | omega)) only [ftt0_0, ftt0_1, ftt0_2, hb2, hv3, hb4, gs, app_hsl, app_nil, reduceIte, reduceCtorEq, Nat.reduceAdd, Nat.reduceMul, Nat.reduceSub, Nat.reduceBEq, Nat.reduceEqDiff, Nat.reduceLeDiff, Nat.reduceLT, Nat.reduceGT, Int.reduceToNat, Int.reduceLT, Int.reduceLE, Int.reduceNeg, Int.reduceAdd, Int.reduceEq, Int.reduceNe] <;> omega
      · replace hb4 := eq_false_of_ne_true hb4
        rw [if_f hb4] at hp
        have hp := Option.some.inj hp
        subst hp
        simp (disch := first | omega | (simp only [List.length_set, List.length_append, List.length_cons, List.length_nil, rows_len, zs]; first | done | omega)) only [ftt0_0, ftt0_1, ftt0_2, hb2, hv3, hb4, gs, app_hsl, app_nil, reduceIte, reduceCtorEq, Nat.reduceAdd, Nat.reduceMul, Nat.reduceSub, Nat.reduceBEq, Nat.reduceEqDiff, Nat.reduceLeDiff, Nat.reduceLT, Nat.reduceGT, Int.reduceToNat, Int.reduceLT, Int.reduceLE, Int.reduceNeg, Int.reduceAdd, Int.reduceEq, Int.reduceNe]
    · replace hb2 := eq_false_of_ne_true hb2
      rw [if_f hb2] at hp
      have hp := Option.some.inj hp
      subst hp
      simp (disch := first | omega | (simp only [List.length_set, List.length_append, List.length_cons, List.length_nil, rows_len, zs]; first | done | omega)) only [ftt0_0, ftt0_1, ftt0_2, hb2, gs, app_hsl, app_nil, reduceIte, reduceCtorEq, Nat.reduceAdd, Nat.reduceMul, Nat.reduceSub, Nat.reduceBEq, Nat.reduceEqDiff, Nat.reduceLeDiff, Nat.reduceLT, Nat.reduceGT, Int.reduceToNat, Int.reduceLT, Int.reduceLE, Int.reduceNeg, Int.reduceAdd, Int.reduceEq, Int.reduceNe] <;> omega
  · simp (disch := first | omega | (simp only [List.length_set, List.length_append, List.length_cons, List.length_nil, rows_len, zs]; first | done | omega)) only [gs, app_hsl, app_nil, reduceIte, reduceCtorEq, Nat.reduceAdd, Nat.reduceMul, Nat.reduceSub, Nat.reduceBEq, Nat.reduceEqDiff, Nat.reduceLeDiff, Nat.reduceLT, Nat.reduceGT, Int.reduceToNat, Int.reduceLT, Int.reduceLE, Int.reduceNeg, Int.reduceAdd, Int.reduceEq, Int.reduceNe] <;> omega
  · intro x tt1 hh1 hx
    rcases ee0 with ⟨o5, o6⟩ | r
    · obtain ⟨rfl, ftt1_0, ftt1_1, ftt1_2⟩ := hx
      dsimp only at hp
      have hp := Option.some.inj hp
      subst hp
      simp (disch := first | omega | (simp only [List.length_set, List.length_append, List.length_cons, List.length_nil, rows_len, zs]; first | done | omega)) only [ftt1_0, ftt1_1, ftt1_2, gs, app_hsl, app_nil, reduceIte, reduceCtorEq, Nat.reduceAdd, Nat.reduceMul, Nat.reduceSub, Nat.reduceBEq, Nat.reduceEqDiff, Nat.reduceLeDiff, Nat.reduceLT, Nat.reduceGT, Int.reduceToNat, Int.reduceLT, Int.reduceLE, Int.reduceNeg, Int.reduceAdd, Int.reduceEq, Int.reduceNe]
    · obtain ⟨rfl, hx⟩ := hx
      dsimp only at hp
      cases hp
      simp only [seqK_ret, blockK_ret, retK_RK (K := Tells true), hx, and_self, true_and]

noncomputable def p_laws_heldVector (x0 : TVec) (x1 : Int) : Option Int :=
  (p_laws_heldIntS x0.counts x1).bind fun v0 =>
  if (decide (v0 < 0)) = true then
    some (-1)
  else
    some v0
def c_laws_heldVector (f_laws_heldIntS : Nat) : AFn := ⟨12, (.seq (.ops [⟨(.some 2), (.box (.tmp 0)), .none, []⟩, ⟨(.some 4), (.mv (.const (.int .i64 0))), .none, []⟩]) (.seq (.ops [⟨(.some 5), (.fieldA 0 (.tmp 2)), .none, []⟩, ⟨(.some 6), (.load 1 false (.tmp 5)), .none, []⟩, ⟨(.some 7), (.mv (.tmp 1)), .none, []⟩, ⟨(.some 8), (.call (2 * f_laws_heldIntS) [(.tmp 6), (.tmp 7)]), .none, []⟩, ⟨(.some 1), (.mv (.tmp 8)), .none, []⟩]) (.seq (.seq (.ops [⟨(.some 9), (.mv (.tmp 1)), .none, []⟩, ⟨(.some 10), (.pu (.n (.ar .lss)) [(.tmp 9), (.const (.int .i64 0))]), .none, []⟩]) (.cond (.tmp 10) (.seq (.ops [⟨(.some 4), (.mv (.const (.int .i64 (-1)))), .none, []⟩]) .ret) .skip)) (.seq (.ops [⟨(.some 11), (.mv (.tmp 1)), .none, []⟩, ⟨(.some 4), (.mv (.tmp 11)), .none, []⟩]) .ret)))), [(.tmp 4)]⟩
set_option maxHeartbeats 10000000 in
theorem d_laws_heldVector {P : Program} {env : Env} {f_laws_heldIntS : Nat}  (ep_laws_heldIntS : env (2 * f_laws_heldIntS) = pureFn true (FA fun a : List Int × Int => p_laws_heldIntS a.1 a.2)) (x0 : TVec) (x1 : Int) {b : Int} (hp : p_laws_heldVector x0 x1 = some b) : R P env (c_laws_heldVector f_laws_heldIntS) ((encA (x0, x1)).map ofI) [] (Tells true b) := by
  refine R_of (by simp [c_laws_heldVector, encA]) ?_
  unfold c_laws_heldVector
  unfold p_laws_heldVector at hp
  obtain ⟨v0, hv0, hp⟩ := bind_eq hp
  by_cases hb1 : (decide (v0 < 0)) = true
  · rw [if_t hb1] at hp
    have hp := Option.some.inj hp
    subst hp
    simp (disch := first | omega | (simp only [List.length_set, List.length_append, List.length_cons, List.length_nil, rows_len, zs]; first | done | omega)) only [ep_laws_heldIntS, hv0, hb1, gs, app_hsl, app_nil, reduceIte, reduceCtorEq, Nat.reduceAdd, Nat.reduceMul, Nat.reduceSub, Nat.reduceBEq, Nat.reduceEqDiff, Nat.reduceLeDiff, Nat.reduceLT, Nat.reduceGT, Int.reduceToNat, Int.reduceLT, Int.reduceLE, Int.reduceNeg, Int.reduceAdd, Int.reduceEq, Int.reduceNe]
  · replace hb1 := eq_false_of_ne_true hb1
    rw [if_f hb1] at hp
    have hp := Option.some.inj hp
    subst hp
    simp (disch := first | omega | (simp only [List.length_set, List.length_append, List.length_cons, List.length_nil, rows_len, zs]; first | done | omega)) only [ep_laws_heldIntS, hv0, hb1, gs, app_hsl, app_nil, reduceIte, reduceCtorEq, Nat.reduceAdd, Nat.reduceMul, Nat.reduceSub, Nat.reduceBEq, Nat.reduceEqDiff, Nat.reduceLeDiff, Nat.reduceLT, Nat.reduceGT, Int.reduceToNat, Int.reduceLT, Int.reduceLE, Int.reduceNeg, Int.reduceAdd, Int.reduceEq, Int.reduceNe]

noncomputable def p_laws_heldCounter (x0 : TCounter) (x1 : Int) : Option Int :=
  (p_laws_heldVector x0.plus x1).bind fun v0 =>
  if (decide (v0 < 0)) = true then
    some (-1)
  else
    (p_laws_heldVector x0.minus v0).bind fun v2 =>
    if (decide (v2 < 0)) = true then
      some (-1)
    else
      some v2
def c_laws_heldCounter (f_laws_heldVector : Nat) : AFn := ⟨18, (.seq (.ops [⟨(.some 2), (.box (.tmp 0)), .none, []⟩, ⟨(.some 4), (.mv (.const (.int .i64 0))), .none, []⟩]) (.seq (.ops [⟨(.some 5), (.fieldA 0 (.tmp 2)), .none, []⟩, ⟨(.some 6), (.load 1 true (.tmp 5)), .none, []⟩, ⟨(.some 7), (.mv (.tmp 1)), .none, []⟩, ⟨(.some 8), (.call (2 * f_laws_heldVector) [(.tmp 6), (.tmp 7)]), .none, []⟩, ⟨(.some 1), (.mv (.tmp 8)), .none, []⟩]) (.seq (.seq (.ops [⟨(.some 9), (.mv (.tmp 1)), .none, []⟩, ⟨(.some 10), (.pu (.n (.ar .lss)) [(.tmp 9), (.const (.int .i64 0))]), .none, []⟩]) (.cond (.tmp 10) (.seq (.ops [⟨(.some 4), (.mv (.const (.int .i64 (-1)))), .none, []⟩]) .ret) .skip)) (.seq (.ops [⟨(.some 11), (.fieldA 1 (.tmp 2)), .none, []⟩, ⟨(.some 12), (.load 1 true (.tmp 11)), .none, []⟩, ⟨(.some 13), (.mv (.tmp 1)), .none, []⟩, ⟨(.some 14), (.call (2 * f_laws_heldVector) [(.tmp 12), (.tmp 13)]), .none, []⟩, ⟨(.some 1), (.mv (.tmp 14)), .none, []⟩]) (.seq (.seq (.ops [⟨(.some 15), (.mv (.tmp 1)), .none, []⟩, ⟨(.some 16), (.pu (.n (.ar .lss)) [(.tmp 15), (.const (.int .i64 0))]), .none, []⟩]) (.cond (.tmp 16) (.seq (.ops [⟨(.some 4), (.mv (.const (.int .i64 (-1)))), .none, []⟩]) .ret) .skip)) (.seq (.ops [⟨(.some 17), (.mv (.tmp 1)), .none, []⟩, ⟨(.some 4), (.mv (.tmp 17)), .none, []⟩]) .ret)))))), [(.tmp 4)]⟩
set_option maxHeartbeats 10000000 in
theorem d_laws_heldCounter {P : Program} {env : Env} {f_laws_heldVector : Nat}  (ep_laws_heldVector : env (2 * f_laws_heldVector) = pureFn true (FA fun a : TVec × Int => p_laws_heldVector a.1 a.2)) (x0 : TCounter) (x1 : Int) {b : Int} (hp : p_laws_heldCounter x0 x1 = some b) : R P env (c_laws_heldCounter f_laws_heldVector) ((encA (x0, x1)).map ofI) [] (Tells true b) := by
  refine R_of (by simp [c_laws_heldCounter, encA]) ?_
  unfold c_laws_heldCounter
  unfold p_laws_heldCounter at hp
  obtain ⟨v0, hv0, hp⟩ := bind_eq hp
  by_cases hb1 : (decide (v0 < 0)) = true
  · rw [if_t hb1] at hp
    have hp := Option.some.inj hp
    subst hp
    simp (disch := first | omega | (simp only [List.length_set, List.length_append, List.length_cons, List.length_nil, rows_len, zs]; first | done | omega)) only [ep_laws_heldVector, hv0, hb1, gs, app_hsl, app_nil, reduceIte, reduceCtorEq, Nat.reduceAdd, Nat.reduceMul, Nat.reduceSub, Nat.reduceBEq, Nat.reduceEqDiff, Nat.reduceLeDiff, Nat.reduceLT, Nat.reduceGT, Int.reduceToNat, Int.reduceLT, Int.reduceLE, Int.reduceNeg, Int.reduceAdd, Int.reduceEq, Int.reduceNe]
  · replace hb1 := eq_false_of_ne_true hb1
    rw [if_f hb1] at hp
    obtain ⟨v2, hv2, hp⟩ := bind_eq hp
    by_cases hb3 : (decide (v2 < 0)) = true
    · rw [if_t hb3] at hp
      have hp := Option.some.inj hp
      subst hp
      simp (disch := first | omega | (simp only [List.length_set, List.length_append, List.length_cons, List.length_nil, rows_len, zs]; first | done | omega)) only [ep_laws_heldVector, hv0, hb1, hv2, hb3, gs, app_hsl, app_nil, reduceIte, reduceCtorEq, Nat.reduceAdd, Nat.reduceMul, Nat.reduceSub, Nat.reduceBEq, Nat.reduceEqDiff, Nat.reduceLeDiff, Nat.reduceLT, Nat.reduceGT, Int.reduceToNat, Int.reduceLT, Int.reduceLE, Int.reduceNeg, Int.reduceAdd, Int.reduceEq, Int.reduceNe]
    · replace hb3 := eq_false_of_ne_true hb3
      rw [if_f hb3] at hp
      have hp := Option.some.inj hp
      subst hp
      simp (disch := first | omega | (simp only [List.length_set, List.length_append, List.length_cons, List.length_nil, rows_len, zs]; first | done | omega)) only [ep_laws_heldVector, hv0, hb1, hv2, hb3, gs, app_hsl, app_nil, reduceIte, reduceCtorEq, Nat.reduceAdd, Nat.reduceMul, Nat.reduceSub, Nat.reduceBEq, Nat.reduceEqDiff, Nat.reduceLeDiff, Nat.reduceLT, Nat.reduceGT, Int.reduceToNat, Int.reduceLT, Int.reduceLE, Int.reduceNeg, Int.reduceAdd, Int.reduceEq, Int.reduceNe]

noncomputable def p_laws_FnExactCounterJoin (x0 : TCounter) (x1 : TCounter) : Option Bool :=
  (p_laws_szCounter x0 1048576).bind fun v0 =>
  if (decide (v0 < 0)) = true then
    some true
  else
    (p_laws_szCounter x1 v0).bind fun v2 =>
    if (decide (v2 < 0)) = true then
      some true
    else
      (p_laws_toCounter x0).bind fun v4 =>
      (p_laws_toCounter x1).bind fun v5 =>
      (p_spec_CounterJoin v4 v5).bind fun v6 =>
      (p_impl_CounterJoin v4 v5).bind fun v7 =>
      (p_laws_eqCounter v7.a v6.a).bind fun v8 =>
      if (v8) = true then
        if (decide (v7.b = v6.b)) = true then
          (p_laws_eqCounter v4 v4).bind fun v11 =>
          if (v11) = true then
            (p_laws_eqCounter v5 v5).bind fun v13 =>
            if (v13) = true then
              (p_laws_markCounter v4 1).bind fun v15 =>
              (p_laws_markCounter v5 v15.a).bind fun v16 =>
              if (decide (v16.a < 0)) = true then
                some false
              else
                (p_laws_markCounter v7.a 1).bind fun v18 =>
                (p_laws_heldCounter v18.b 1).bind fun v19 =>
                if (decide (v19 < 0)) = true then
                  some false
                else
                  if (decide (v19 = v18.a)) = true then
                    some true
                  else
                    some false
            else
              some false
          else
            some false
        else
          some false
      else
        some false
def c_laws_FnExactCounterJoin (f_laws_szCounter : Nat) (f_laws_toCounter : Nat) (f_spec_CounterJoin : Nat) (f_impl_CounterJoin : Nat) (f_laws_eqCounter : Nat) (f_laws_markCounter : Nat) (f_laws_heldCounter : Nat) : AFn := ⟨119, (.seq (.ops [⟨(.some 2), (.box (.tmp 0)), .none, []⟩, ⟨(.some 3), (.box (.tmp 1)), .none, []⟩, ⟨(.some 4), (.mv (.const (.bool false))), .none, []⟩]) (.seq (.ops [⟨(.some 5), (.mv (.const (.int .i64 1048576))), .none, []⟩]) (.seq (.ops [⟨(.some 17), (.load 2 true (.tmp 2)), .none, []⟩, ⟨(.some 18), (.mv (.tmp 5)), .none, []⟩, ⟨(.some 19), (.call (2 * f_laws_szCounter) [(.tmp 17), (.tmp 18)]), .none, []⟩, ⟨(.some 5), (.mv (.tmp 19)), .none, []⟩]) (.seq (.seq (.ops [⟨(.some 20), (.mv (.tmp 5)), .none, []⟩, ⟨(.some 21), (.pu (.n (.ar .lss)) [(.tmp 20), (.const (.int .i64 0))]), .none, []⟩]) (.cond (.tmp 21) (.seq (.ops [⟨(.some 4), (.mv (.const (.bool true))), .none, []⟩]) .ret) .skip)) (.seq (.ops [⟨(.some 22), (.load 2 true (.tmp 3)), .none, []⟩, ⟨(.some 23), (.mv (.tmp 5)), .none, []⟩, ⟨(.some 24), (.call (2 * f_laws_szCounter) [(.tmp 22), (.tmp 23)]), .none, []⟩, ⟨(.some 5), (.mv (.tmp 24)), .none, []⟩]) (.seq (.seq (.ops [⟨(.some 25), (.mv (.tmp 5)), .none, []⟩, ⟨(.some 26), (.pu (.n (.ar .lss)) [(.tmp 25), (.const (.int .i64 0))]), .none, []⟩]) (.cond (.tmp 26) (.seq (.ops [⟨(.some 4), (.mv (.const (.bool true))), .none, []⟩]) .ret) .skip)) (.seq (.ops [⟨(.some 28), (.load 2 true (.tmp 2)), .none, []⟩, ⟨(.some 29), (.call (2 * f_laws_toCounter) [(.tmp 28)]), .none, []⟩, ⟨(.some 30), (.load 2 true (.tmp 3)), .none, []⟩, ⟨(.some 31), (.call (2 * f_laws_toCounter) [(.tmp 30)]), .none, []⟩, ⟨(.some 32), (.call (2 * f_spec_CounterJoin) [(.tmp 29), (.tmp 31)]), .none, []⟩, ⟨(.some 27), (.mv (.tmp 32)), .none, []⟩, ⟨(.some 33), (.extract 0 (.tmp 27)), .none, []⟩, ⟨(.some 34), (.extract 1 (.tmp 27)), .none, []⟩, ⟨(.some 6), (.alloc [(.slice .none 0 0), (.slice .none 0 0)]), .none, []⟩, ⟨.none, (.store 2 (.tmp 6) (.tmp 33)), .none, []⟩, ⟨(.some 7), (.mv (.tmp 34)), .none, []⟩]) (.seq (.ops [⟨(.some 35), (.load 2 true (.tmp 2)), .none, []⟩, ⟨(.some 36), (.call (2 * f_laws_toCounter + 1) [(.tmp 35)]), .none, []⟩, ⟨(.some 8), (.allocV [(1, false), (1, false)] [(.slice .none 0 0), (.slice .none 0 0)]), .none, []⟩, ⟨.none, (.storeV [(1, false), (1, false)] 2 (.tmp 8) (.tmp 36)), .none, []⟩]) (.seq (.ops [⟨(.some 37), (.load 2 true (.tmp 3)), .none, []⟩, ⟨(.some 38), (.call (2 * f_laws_toCounter + 1) [(.tmp 37)]), .none, []⟩, ⟨(.some 9), (.allocV [(1, false), (1, false)] [(.slice .none 0 0), (.slice .none 0 0)]), .none, []⟩, ⟨.none, (.storeV [(1, false), (1, false)] 2 (.tmp 9) (.tmp 38)), .none, []⟩]) (.seq (.ops [⟨(.some 40), (.load 2 true (.tmp 8)), .none, []⟩, ⟨(.some 41), (.load 2 true (.tmp 9)), .none, []⟩, ⟨(.some 42), (.call (2 * f_impl_CounterJoin + 1) [(.tmp 40), (.tmp 41)]), .none, []⟩, ⟨(.some 39), (.mv (.tmp 42)), .none, []⟩, ⟨(.some 43), (.extract 0 (.tmp 39)), .none, []⟩, ⟨(.some 44), (.extract 1 (.tmp 39)), .none, []⟩, ⟨(.some 10), (.allocV [(1, false), (1, false)] [(.slice .none 0 0), (.slice .none 0 0)]), .none, []⟩, ⟨.none, (.storeV [(1, false), (1, false)] 2 (.tmp 10) (.tmp 43)), .none, []⟩, ⟨(.some 11), (.mv (.tmp 44)), .none, []⟩]) (.seq (.seq (.ops [⟨(.some 45), (.load 2 true (.tmp 10)), .none, []⟩, ⟨(.some 46), (.load 2 true (.tmp 6)), .none, []⟩, ⟨(.some 47), (.call (2 * f_laws_eqCounter) [(.tmp 45), (.tmp 46)]), .none, []⟩, ⟨(.some 48), (.pu (.n (.un .not)) [(.tmp 47)]), .none, []⟩, ⟨(.some 49), (.mv (.tmp 48)), .none, []⟩, ⟨(.some 50), (.mv (.tmp 11)), (.some (49, false)), []⟩, ⟨(.some 51), (.mv (.tmp 7)), (.some (49, false)), []⟩, ⟨(.some 52), (.pu (.n (.ar .neq)) [(.tmp 50), (.tmp 51)]), (.some (49, false)), []⟩, ⟨(.some 53), (.pick (.tmp 49) (.const (.bool true)) (.tmp 52)), .none, []⟩]) (.cond (.tmp 53) (.seq (.ops [⟨(.some 4), (.mv (.const (.bool false))), .none, []⟩]) .ret) .skip)) (.seq (.seq (.ops [⟨(.some 54), (.load 2 true (.tmp 8)), .none, []⟩, ⟨(.some 55), (.load 2 true (.tmp 2)), .none, []⟩, ⟨(.some 56), (.call (2 * f_laws_toCounter) [(.tmp 55)]), .none, []⟩, ⟨(.some 57), (.call (2 * f_laws_eqCounter) [(.tmp 54), (.tmp 56)]), .none, []⟩, ⟨(.some 58), (.pu (.n (.un .not)) [(.tmp 57)]), .none, []⟩]) (.cond (.tmp 58) (.seq (.ops [⟨(.some 4), (.mv (.const (.bool false))), .none, []⟩]) .ret) .skip)) (.seq (.seq (.ops [⟨(.some 59), (.load 2 true (.tmp 9)), .none, []⟩, ⟨(.some 60), (.load 2 true (.tmp 3)), .none, []⟩, ⟨(.some 61), (.call (2 * f_laws_toCounter) [(.tmp 60)]), .none, []⟩, ⟨(.some 62), (.call (2 * f_laws_eqCounter) [(.tmp 59), (.tmp 61)]), .none, []⟩, ⟨(.some 63), (.pu (.n (.un .not)) [(.tmp 62)]), .none, []⟩]) (.cond (.tmp 63) (.seq (.ops [⟨(.some 4), (.mv (.const (.bool false))), .none, []⟩]) .ret) .skip)) (.seq (.ops [⟨(.some 12), (.mv (.const (.int .i64 1))), .none, []⟩]) (.seq (.ops [⟨(.some 64), (.load 2 true (.tmp 8)), .none, []⟩, ⟨(.some 65), (.mv (.tmp 12)), .none, []⟩, ⟨(.some 66), (.call (2 * f_laws_markCounter + 1) [(.tmp 64), (.tmp 65)]), .none, []⟩, ⟨(.some 12), (.mv (.tmp 66)), .none, []⟩]) (.seq (.ops [⟨(.some 67), (.load 2 true (.tmp 9)), .none, []⟩, ⟨(.some 68), (.mv (.tmp 12)), .none, []⟩, ⟨(.some 69), (.call (2 * f_laws_markCounter + 1) [(.tmp 67), (.tmp 68)]), .none, []⟩, ⟨(.some 12), (.mv (.tmp 69)), .none, []⟩]) (.seq (.seq (.ops [⟨(.some 70), (.mv (.tmp 12)), .none, []⟩, ⟨(.some 71), (.pu (.n (.ar .lss)) [(.tmp 70), (.const (.int .i64 0))]), .none, []⟩, ⟨(.some 72), (.mv (.tmp 71)), .none, []⟩, ⟨(.some 73), (.load 2 true (.tmp 10)), (.some (72, false)), []⟩, ⟨(.some 74), (.load 2 true (.tmp 6)), (.some (72, false)), []⟩, ⟨(.some 75), (.call (2 * f_laws_eqCounter) [(.tmp 73), (.tmp 74)]), (.some (72, false)), []⟩, ⟨(.some 76), (.pu (.n (.un .not)) [(.tmp 75)]), (.some (72, false)), []⟩, ⟨(.some 77), (.pick (.tmp 72) (.const (.bool true)) (.tmp 76)), .none, []⟩, ⟨(.some 78), (.mv (.tmp 77)), .none, []⟩, ⟨(.some 79), (.mv (.tmp 11)), (.some (78, false)), []⟩, ⟨(.some 80), (.mv (.tmp 7)), (.some (78, false)), []⟩, ⟨(.some 81), (.pu (.n (.ar .neq)) [(.tmp 79), (.tmp 80)]), (.some (78, false)), []⟩, ⟨(.some 82), (.pick (.tmp 78) (.const (.bool true)) (.tmp 81)), .none, []⟩]) (.cond (.tmp 82) (.seq (.ops [⟨(.some 4), (.mv (.const (.bool false))), .none, []⟩]) .ret) .skip)) (.seq (.ops [⟨(.some 13), (.mv (.const (.int .i64 1))), .none, []⟩]) (.seq (.ops [⟨(.some 83), (.load 2 true (.tmp 10)), .none, []⟩, ⟨(.some 84), (.mv (.tmp 13)), .none, []⟩, ⟨(.some 85), (.call (2 * f_laws_markCounter + 1) [(.tmp 83), (.tmp 84)]), .none, []⟩, ⟨(.some 13), (.mv (.tmp 85)), .none, []⟩]) (.seq (.ops [⟨(.some 14), (.mv (.const (.int .i64 1))), .none, []⟩]) (.seq (.ops [⟨(.some 86), (.load 2 true (.tmp 10)), .none, []⟩, ⟨(.some 87), (.mv (.tmp 14)), .none, []⟩, ⟨(.some 88), (.call (2 * f_laws_heldCounter) [(.tmp 86), (.tmp 87)]), .none, []⟩, ⟨(.some 14), (.mv (.tmp 88)), .none, []⟩]) (.seq (.seq (.ops [⟨(.some 89), (.mv (.tmp 14)), .none, []⟩, ⟨(.some 90), (.pu (.n (.ar .lss)) [(.tmp 89), (.const (.int .i64 0))]), .none, []⟩]) (.cond (.tmp 90) (.seq (.ops [⟨(.some 4), (.mv (.const (.bool false))), .none, []⟩]) .ret) .skip)) (.seq (.seq (.ops [⟨(.some 91), (.mv (.tmp 14)), .none, []⟩, ⟨(.some 92), (.mv (.tmp 13)), .none, []⟩, ⟨(.some 93), (.pu (.n (.ar .neq)) [(.tmp 91), (.tmp 92)]), .none, []⟩]) (.cond (.tmp 93) (.seq (.ops [⟨(.some 4), (.mv (.const (.bool false))), .none, []⟩]) .ret) .skip)) (.seq (.ops [⟨(.some 95), (.load 2 true (.tmp 2)), .none, []⟩, ⟨(.some 96), (.call (2 * f_laws_toCounter) [(.tmp 95)]), .none, []⟩, ⟨(.some 97), (.load 2 true (.tmp 3)), .none, []⟩, ⟨(.some 98), (.call (2 * f_laws_toCounter) [(.tmp 97)]), .none, []⟩, ⟨(.some 99), (.call (2 * f_impl_CounterJoin) [(.tmp 96), (.tmp 98)]), .none, []⟩, ⟨(.some 94), (.mv (.tmp 99)), .none, []⟩, ⟨(.some 100), (.extract 0 (.tmp 94)), .none, []⟩, ⟨(.some 101), (.extract 1 (.tmp 94)), .none, []⟩, ⟨(.some 15), (.alloc [(.slice .none 0 0), (.slice .none 0 0)]), .none, []⟩, ⟨.none, (.store 2 (.tmp 15) (.tmp 100)), .none, []⟩, ⟨(.some 16), (.mv (.tmp 101)), .none, []⟩]) (.seq (.seq (.ops [⟨(.some 102), (.load 2 true (.tmp 15)), .none, []⟩, ⟨(.some 103), (.load 2 true (.tmp 6)), .none, []⟩, ⟨(.some 104), (.call (2 * f_laws_eqCounter) [(.tmp 102), (.tmp 103)]), .none, []⟩, ⟨(.some 105), (.pu (.n (.un .not)) [(.tmp 104)]), .none, []⟩, ⟨(.some 106), (.mv (.tmp 105)), .none, []⟩, ⟨(.some 107), (.mv (.tmp 16)), (.some (106, false)), []⟩, ⟨(.some 108), (.mv (.tmp 7)), (.some (106, false)), []⟩, ⟨(.some 109), (.pu (.n (.ar .neq)) [(.tmp 107), (.tmp 108)]), (.some (106, false)), []⟩, ⟨(.some 110), (.pick (.tmp 106) (.const (.bool true)) (.tmp 109)), .none, []⟩]) (.cond (.tmp 110) (.seq (.ops [⟨(.some 4), (.mv (.const (.bool false))), .none, []⟩]) .ret) .skip)) (.seq (.ops [⟨(.some 14), (.mv (.const (.int .i64 1))), .none, []⟩]) (.seq (.ops [⟨(.some 111), (.load 2 true (.tmp 10)), .none, []⟩, ⟨(.some 112), (.mv (.tmp 14)), .none, []⟩, ⟨(.some 113), (.call (2 * f_laws_heldCounter) [(.tmp 111), (.tmp 112)]), .none, []⟩, ⟨(.some 14), (.mv (.tmp 113)), .none, []⟩]) (.seq (.seq (.ops [⟨(.some 114), (.mv (.tmp 14)), .none, []⟩, ⟨(.some 115), (.pu (.n (.ar .lss)) [(.tmp 114), (.const (.int .i64 0))]), .none, []⟩]) (.cond (.tmp 115) (.seq (.ops [⟨(.some 4), (.mv (.const (.bool false))), .none, []⟩]) .ret) .skip)) (.seq (.seq (.ops [⟨(.some 116), (.mv (.tmp 14)), .none, []⟩, ⟨(.some 117), (.mv (.tmp 13)), .none, []⟩, ⟨(.some 118), (.pu (.n (.ar .neq)) [(.tmp 116), (.tmp 117)]), .none, []⟩]) (.cond (.tmp 118) (.seq (.ops [⟨(.some 4), (.mv (.const (.bool false))), .none, []⟩]) .ret) .skip)) (.seq (.ops [⟨(.some 4), (.mv (.const (.bool true))), .none, []⟩]) .ret)))))))))))))))))))))))))))))), [(.tmp 4)]⟩
set_option maxHeartbeats 10000000 in
theorem d_laws_FnExactCounterJoin {P : Program} {env : Env} {f_laws_szCounter : Nat} {f_laws_toCounter : Nat} {f_spec_CounterJoin : Nat} {f_impl_CounterJoin : Nat} {f_laws_eqCounter : Nat} {f_laws_markCounter : Nat} {f_laws_heldCounter : Nat}  (ep_laws_szCounter : env (2 * f_laws_szCounter) = pureFn true (FA fun a : TCounter × Int => p_laws_szCounter a.1 a.2)) (ep_laws_toCounter : env (2 * f_laws_toCounter) = pureFn true (FA fun a : TCounter => p_laws_toCounter a)) (ep_spec_CounterJoin : env (2 * f_spec_CounterJoin) = pureFn false (FA fun a : TCounter × TCounter => p_spec_CounterJoin a.1 a.2)) (ep_laws_eqCounter : env (2 * f_laws_eqCounter) = pureFn true (FA fun a : TCounter × TCounter => p_laws_eqCounter a.1 a.2)) (ep_laws_heldCounter : env (2 * f_laws_heldCounter) = pureFn true (FA fun a : TCounter × Int => p_laws_heldCounter a.1 a.2)) (ep_impl_CounterJoin : env (2 * f_impl_CounterJoin) = pureFn true (FA fun a : TCounter × TCounter => p_impl_CounterJoin a.1 a.2)) (e_laws_toCounter : k_laws_toCounter (env (2 * f_laws_toCounter + 1))) (e_impl_CounterJoin : k_impl_CounterJoin (env (2 * f_impl_CounterJoin + 1))) (e_laws_markCounter : k_laws_markCounter (env (2 * f_laws_markCounter + 1))) (x0 : TCounter) (x1 : TCounter) (hp : p_laws_FnExactCounterJoin x0 x1 = some true) : R P env (c_laws_FnExactCounterJoin f_laws_szCounter f_laws_toCounter f_spec_CounterJoin f_impl_CounterJoin f_laws_eqCounter f_laws_markCounter f_laws_heldCounter) ((encA (x0, x1)).map ofI) [] (fun v _ => v = .i (iB true)) := by
  refine R_of (by simp [c_laws_FnExactCounterJoin, encA]) ?_
  unfold c_laws_FnExactCounterJoin
  unfold p_laws_FnExactCounterJoin at hp
  obtain ⟨v0, hv0, hp⟩ := bind_eq hp
  by_cases hb1 : (decide (v0 < 0)) = true
  · rw [if_t hb1] at hp
    cases hp
    simp (disch := first | omega | (simp only [List.length_set, List.length_append, List.length_cons, List.length_nil, rows_len, zs]; first | done | omega)) only [ep_laws_szCounter, ep_laws_toCounter, ep_spec_CounterJoin, ep_laws_eqCounter, ep_laws_heldCounter, ep_impl_CounterJoin, hv0, hb1, gs, app_hsl, app_nil, reduceIte, reduceCtorEq, Nat.reduceAdd, Nat.reduceMul, Nat.reduceSub, Nat.reduceBEq, Nat.reduceEqDiff, Nat.reduceLeDiff, Nat.reduceLT, Nat.reduceGT, Int.reduceToNat, Int.reduceLT, Int.reduceLE, Int.reduceNeg, Int.reduceAdd, Int.reduceEq, Int.reduceNe]
  · replace hb1 := eq_false_of_ne_true hb1
    rw [if_f hb1] at hp
    obtain ⟨v2, hv2, hp⟩ := bind_eq hp
    by_cases hb3 : (decide (v2 < 0)) = true
    · rw [if_t hb3] at hp
      cases hp
      simp (disch := first | omega | (simp only [List.length_set, List.length_append, List.length_cons, List.length_nil, rows_len, zs]; first | done | omega)) only [ep_laws_szCounter, ep_laws_toCounter, ep_spec_CounterJoin, ep_laws_eqCounter, ep_laws_heldCounter, ep_impl_CounterJoin, hv0, hb1, hv2, hb3, gs, app_hsl, app_nil, reduceIte, reduceCtorEq, Nat.reduceAdd, Nat.reduceMul, Nat.reduceSub, Nat.reduceBEq, Nat.reduceEqDiff, Nat.reduceLeDiff, Nat.reduceLT, Nat.reduceGT, Int.reduceToNat, Int.reduceLT, Int.reduceLE, Int.reduceNeg, Int.reduceAdd, Int.reduceEq, Int.reduceNe]
    · replace hb3 := eq_false_of_ne_true hb3
      rw [if_f hb3] at hp
      obtain ⟨v4, hv4, hp⟩ := bind_eq hp
      obtain ⟨v5, hv5, hp⟩ := bind_eq hp
      obtain ⟨v6, hv6, hp⟩ := bind_eq hp
      simp (disch := first | omega | (simp only [List.length_set, List.length_append, List.length_cons, List.length_nil, rows_len, zs]; first | done | omega)) only [ep_laws_szCounter, ep_laws_toCounter, ep_spec_CounterJoin, ep_laws_eqCounter, ep_laws_heldCounter, ep_impl_CounterJoin, hv0, hb1, hv2, hb3, hv4, hv5, hv6, gs, app_hsl, app_nil, reduceIte, reduceCtorEq, Nat.reduceAdd, Nat.reduceMul, Nat.reduceSub, Nat.reduceBEq, Nat.reduceEqDiff, Nat.reduceLeDiff, Nat.reduceLT, Nat.reduceGT, Int.reduceToNat, Int.reduceLT, Int.reduceLE, Int.reduceNeg, Int.reduceAdd, Int.reduceEq, Int.reduceNe]
      refine call_f (fun h => getCells h 0 2 = some [.i (.sl 1 (x0.plus.counts.map enc)), .i (.sl 1 (x0.minus.counts.map enc))] ∧ 0 < h.length ∧ getCells h 1 2 = some [.i (.sl 1 (x1.plus.counts.map enc)), .i (.sl 1 (x1.minus.counts.map enc))] ∧ 1 < h.length ∧ getCells h 2 2 = some [.i (.sl 1 (v6.a.plus.counts.map enc)), .i (.sl 1 (v6.a.minus.counts.map enc))] ∧ 2 < h.length) (fun h v h2 => oo_laws_toCounter v4 h v h2) ?_ ?_ ?_
      · simp (disch := first | omega | (simp only [List.length_set, List.length_append, List.length_cons, List.length_nil, rows_len, zs]; first | done | omega)) only [ep_laws_szCounter, ep_laws_toCounter, ep_spec_CounterJoin, ep_laws_eqCounter, ep_laws_heldCounter, ep_impl_CounterJoin, hv0, hb1, hv2, hb3, hv4, hv5, hv6, gs, app_hsl, app_nil, reduceIte, reduceCtorEq, Nat.reduceAdd, Nat.reduceMul, Nat.reduceSub, Nat.reduceBEq, Nat.reduceEqDiff, Nat.reduceLeDiff, Nat.reduceLT, Nat.reduceGT, Int.reduceToNat, Int.reduceLT, Int.reduceLE, Int.reduceNeg, Int.reduceAdd, Int.reduceEq, Int.reduceNe] <;> omega
      · rintro h ⟨c0_0, c0_1, c0_2, c0_3, c0_4, c0_5⟩
        exact e_laws_toCounter _ _ hv4 h _ (by simp (disch := first | omega | (simp only [List.length_set, List.length_append, List.length_cons, List.length_nil, rows_len, zs]; first | done | omega)) only [ep_laws_szCounter, ep_laws_toCounter, ep_spec_CounterJoin, ep_laws_eqCounter, ep_laws_heldCounter, ep_impl_CounterJoin, hv0, hb1, hv2, hb3, hv4, hv5, hv6, c0_0, c0_1, c0_2, c0_3, c0_4, c0_5, gs, app_hsl, app_nil, reduceIte, reduceCtorEq, Nat.reduceAdd, Nat.reduceMul, Nat.reduceSub, Nat.reduceBEq, Nat.reduceEqDiff, Nat.reduceLeDiff, Nat.reduceLT, Nat.reduceGT, Int.reduceToNat, Int.reduceLT, Int.reduceLE, Int.reduceNeg, Int.reduceAdd, Int.reduceEq, Int.reduceNe])
      · rintro h v hh0 ⟨c0_0, c0_1, c0_2, c0_3, c0_4, c0_5⟩ hpost
        obtain ⟨kk0, nb0_0, nb0_1, rfl, lnb0_0, gnb0_0, wnb0_0, lnb0_1, gnb0_1, wnb0_1, ne0_1_0⟩ := hpost
        have d0_0 : getCells hh0 0 2 = some [.i (.sl 1 (x0.plus.counts.map enc)), .i (.sl 1 (x0.minus.counts.map enc))] := (keep_get kk0 c0_1 (by first | (simp; done) | (simp; omega))).trans c0_0
        have d0_0l := keep_lt kk0 c0_1
        have d0_1 : getCells hh0 1 2 = some [.i (.sl 1 (x1.plus.counts.map enc)), .i (.sl 1 (x1.minus.counts.map enc))] := (keep_get kk0 c0_3 (by first | (simp; done) | (simp; omega))).trans c0_2
        have d0_1l := keep_lt kk0 c0_3
        have d0_2 : getCells hh0 2 2 = some [.i (.sl 1 (v6.a.plus.counts.map enc)), .i (.sl 1 (v6.a.minus.counts.map enc))] := (keep_get kk0 c0_5 (by first | (simp; done) | (simp; omega))).trans c0_4
        have d0_2l := keep_lt kk0 c0_5
        have d0_3 := wnb0_0
        have d0_4 := wnb0_1
        simp (disch := first | omega | (simp only [List.length_set, List.length_append, List.length_cons, List.length_nil, rows_len, zs]; first | done | omega)) only [ep_laws_szCounter, ep_laws_toCounter, ep_spec_CounterJoin, ep_laws_eqCounter, ep_laws_heldCounter, ep_impl_CounterJoin, hv0, hb1, hv2, hb3, hv4, hv5, hv6, d0_0, d0_1, d0_2, d0_3, d0_4, gs, app_hsl, app_nil, reduceIte, reduceCtorEq, Nat.reduceAdd, Nat.reduceMul, Nat.reduceSub, Nat.reduceBEq, Nat.reduceEqDiff, Nat.reduceLeDiff, Nat.reduceLT, Nat.reduceGT, Int.reduceToNat, Int.reduceLT, Int.reduceLE, Int.reduceNeg, Int.reduceAdd, Int.reduceEq, Int.reduceNe]
        refine call_f (fun h => getCells h 0 2 = some [.i (.sl 1 (x0.plus.counts.map enc)), .i (.sl 1 (x0.minus.counts.map enc))] ∧ 0 < h.length ∧ getCells h 1 2 = some [.i (.sl 1 (x1.plus.counts.map enc)), .i (.sl 1 (x1.minus.counts.map enc))] ∧ 1 < h.length ∧ getCells h 2 2 = some [.i (.sl 1 (v6.a.plus.counts.map enc)), .i (.sl 1 (v6.a.minus.counts.map enc))] ∧ 2 < h.length ∧ getCells h nb0_0 v4.plus.counts.length = some (rows (v4.plus.counts : List Int)) ∧ nb0_0 < h.length ∧ getCells h nb0_1 v4.minus.counts.length = some (rows (v4.minus.counts : List Int)) ∧ nb0_1 < h.length ∧ getCells h hh0.length 0 = some [] ∧ hh0.length < h.length ∧ getCells h (hh0.length + 1) 0 = some [] ∧ hh0.length + 1 < h.length ∧ getCells h (hh0.length + 2) 2 = some [.hsl nb0_0 v4.plus.counts.length 0 1 false v4.plus.counts.length, .hsl nb0_1 v4.minus.counts.length 0 1 false v4.minus.counts.length] ∧ hh0.length + 2 < h.length) (fun h v h2 => oo_laws_toCounter v5 h v h2) ?_ ?_ ?_
        · simp (disch := first | omega | (simp only [List.length_set, List.length_append, List.length_cons, List.length_nil, rows_len, zs]; first | done | omega)) only [ep_laws_szCounter, ep_laws_toCounter, ep_spec_CounterJoin, ep_laws_eqCounter, ep_laws_heldCounter, ep_impl_CounterJoin, hv0, hb1, hv2, hb3, hv4, hv5, hv6, d0_0, d0_1, d0_2, d0_3, d0_4, gs, app_hsl, app_nil, reduceIte, reduceCtorEq, Nat.reduceAdd, Nat.reduceMul, Nat.reduceSub, Nat.reduceBEq, Nat.reduceEqDiff, Nat.reduceLeDiff, Nat.reduceLT, Nat.reduceGT, Int.reduceToNat, Int.reduceLT, Int.reduceLE, Int.reduceNeg, Int.reduceAdd, Int.reduceEq, Int.reduceNe] <;> omega
        · rintro h ⟨c1_0, c1_1, c1_2, c1_3, c1_4, c1_5, c1_6, c1_7, c1_8, c1_9, c1_10, c1_11, c1_12, c1_13, c1_14, c1_15⟩
          exact e_laws_toCounter _ _ hv5 h _ (by simp (disch := first | omega | (simp only [List.length_set, List.length_append, List.length_cons, List.length_nil, rows_len, zs]; first | done | omega)) only [ep_laws_szCounter, ep_laws_toCounter, ep_spec_CounterJoin, ep_laws_eqCounter, ep_laws_heldCounter, ep_impl_CounterJoin, hv0, hb1, hv2, hb3, hv4, hv5, hv6, d0_0, d0_1, d0_2, d0_3, d0_4, c1_0, c1_1, c1_2, c1_3, c1_4, c1_5, c1_6, c1_7, c1_8, c1_9, c1_10, c1_11, c1_12, c1_13, c1_14, c1_15, gs, app_hsl, app_nil, reduceIte, reduceCtorEq, Nat.reduceAdd, Nat.reduceMul, Nat.reduceSub, Nat.reduceBEq, Nat.reduceEqDiff, Nat.reduceLeDiff, Nat.reduceLT, Nat.reduceGT, Int.reduceToNat, Int.reduceLT, Int.reduceLE, Int.reduceNeg, Int.reduceAdd, Int.reduceEq, Int.reduceNe])
        · rintro h v hh1 ⟨c1_0, c1_1, c1_2, c1_3, c1_4, c1_5, c1_6, c1_7, c1_8, c1_9, c1_10, c1_11, c1_12, c1_13, c1_14, c1_15⟩ hpost
          obtain ⟨kk1, nb1_0, nb1_1, rfl, lnb1_0, gnb1_0, wnb1_0, lnb1_1, gnb1_1, wnb1_1, ne1_1_0⟩ := hpost
          have d1_0 : getCells hh1 0 2 = some [.i (.sl 1 (x0.plus.counts.map enc)), .i (.sl 1 (x0.minus.counts.map enc))] := (keep_get kk1 c1_1 (by first | (simp; done) | (simp; omega))).trans c1_0
          have d1_0l := keep_lt kk1 c1_1
          have d1_1 : getCells hh1 1 2 = some [.i (.sl 1 (x1.plus.counts.map enc)), .i (.sl 1 (x1.minus.counts.map enc))] := (keep_get kk1 c1_3 (by first | (simp; done) | (simp; omega))).trans c1_2
          have d1_1l := keep_lt kk1 c1_3
          have d1_2 : getCells hh1 2 2 = some [.i (.sl 1 (v6.a.plus.counts.map enc)), .i (.sl 1 (v6.a.minus.counts.map enc))] := (keep_get kk1 c1_5 (by first | (simp; done) | (simp; omega))).trans c1_4
          have d1_2l := keep_lt kk1 c1_5
          have d1_3 : getCells hh1 nb0_0 v4.plus.counts.length = some (rows (v4.plus.counts : List Int)) := (keep_get kk1 c1_7 (by first | (simp; done) | (simp; omega))).trans c1_6
          have d1_3l := keep_lt kk1 c1_7
          have d1_4 : getCells hh1 nb0_1 v4.minus.counts.length = some (rows (v4.minus.counts : List Int)) := (keep_get kk1 c1_9 (by first | (simp; done) | (simp; omega))).trans c1_8
          have d1_4l := keep_lt kk1 c1_9
          have d1_5 : getCells hh1 hh0.length 0 = some [] := (keep_get kk1 c1_11 (by first | (simp; done) | (simp; omega))).trans c1_10
          have d1_5l := keep_lt kk1 c1_11
          have d1_6 : getCells hh1 (hh0.length + 1) 0 = some [] := (keep_get kk1 c1_13 (by first | (simp; done) | (simp; omega))).trans c1_12
          have d1_6l := keep_lt kk1 c1_13
          have d1_7 : getCells hh1 (hh0.length + 2) 2 = some [.hsl nb0_0 v4.plus.counts.length 0 1 false v4.plus.counts.length, .hsl nb0_1 v4.minus.counts.length 0 1 false v4.minus.counts.length] := (keep_get kk1 c1_15 (by first | (simp; done) | (simp; omega))).trans c1_14
          have d1_7l := keep_lt kk1 c1_15
          have d1_8 := wnb1_0
          have d1_9 := wnb1_1
          obtain ⟨v7, hv7, hp⟩ := bind_eq hp
          simp (disch := first | omega | (simp only [List.length_set, List.length_append, List.length_cons, List.length_nil, rows_len, zs]; first | done | omega)) only [ep_laws_szCounter, ep_laws_toCounter, ep_spec_CounterJoin, ep_laws_eqCounter, ep_laws_heldCounter, ep_impl_CounterJoin, hv0, hb1, hv2, hb3, hv4, hv5, hv6, d0_0, d0_1, d0_2, d0_3, d0_4, d1_0, d1_1, d1_2, d1_3, d1_4, d1_5, d1_6, d1_7, d1_8, d1_9, gs, app_hsl, app_nil, reduceIte, reduceCtorEq, Nat.reduceAdd, Nat.reduceMul, Nat.reduceSub, Nat.reduceBEq, Nat.reduceEqDiff, Nat.reduceLeDiff, Nat.reduceLT, Nat.reduceGT, Int.reduceToNat, Int.reduceLT, Int.reduceLE, Int.reduceNeg, Int.reduceAdd, Int.reduceEq, Int.reduceNe]
          refine call_f (fun h => getCells h 0 2 = some [.i (.sl 1 (x0.plus.counts.map enc)), .i (.sl 1 (x0.minus.counts.map enc))] ∧ 0 < h.length ∧ getCells h 1 2 = some [.i (.sl 1 (x1.plus.counts.map enc)), .i (.sl 1 (x1.minus.counts.map enc))] ∧ 1 < h.length ∧ getCells h 2 2 = some [.i (.sl 1 (v6.a.plus.counts.map enc)), .i (.sl 1 (v6.a.minus.counts.map enc))] ∧ 2 < h.length ∧ getCells h nb0_0 v4.plus.counts.length = some (rows (v4.plus.counts : List Int)) ∧ nb0_0 < h.length ∧ getCells h nb0_1 v4.minus.counts.length = some (rows (v4.minus.counts : List Int)) ∧ nb0_1 < h.length ∧ getCells h hh0.length 0 = some [] ∧ hh0.length < h.length ∧ getCells h (hh0.length + 1) 0 = some [] ∧ hh0.length + 1 < h.length ∧ getCells h (hh0.length + 2) 2 = some [.hsl nb0_0 v4.plus.counts.length 0 1 false v4.plus.counts.length, .hsl nb0_1 v4.minus.counts.length 0 1 false v4.minus.counts.length] ∧ hh0.length + 2 < h.length ∧ getCells h nb1_0 v5.plus.counts.length = some (rows (v5.plus.counts : List Int)) ∧ nb1_0 < h.length ∧ getCells h nb1_1 v5.minus.counts.length = some (rows (v5.minus.counts : List Int)) ∧ nb1_1 < h.length ∧ getCells h hh1.length 0 = some [] ∧ hh1.length < h.length ∧ getCells h (hh1.length + 1) 0 = some [] ∧ hh1.length + 1 < h.length ∧ getCells h (hh1.length + 2) 2 = some [.hsl nb1_0 v5.plus.counts.length 0 1 false v5.plus.counts.length, .hsl nb1_1 v5.minus.counts.length 0 1 false v5.minus.counts.length] ∧ hh1.length + 2 < h.length) (fun h v h2 => oo_impl_CounterJoin v7 h v h2) ?_ ?_ ?_
          · simp (disch := first | omega | (simp only [List.length_set, List.length_append, List.length_cons, List.length_nil, rows_len, zs]; first | done | omega)) only [ep_laws_szCounter, ep_laws_toCounter, ep_spec_CounterJoin, ep_laws_eqCounter, ep_laws_heldCounter, ep_impl_CounterJoin, hv0, hb1, hv2, hb3, hv4, hv5, hv6, d0_0, d0_1, d0_2, d0_3, d0_4, d1_0, d1_1, d1_2, d1_3, d1_4, d1_5, d1_6, d1_7, d1_8, d1_9, hv7, gs, app_hsl, app_nil, reduceIte, reduceCtorEq, Nat.reduceAdd, Nat.reduceMul, Nat.reduceSub, Nat.reduceBEq, Nat.reduceEqDiff, Nat.reduceLeDiff, Nat.reduceLT, Nat.reduceGT, Int.reduceToNat, Int.reduceLT, Int.reduceLE, Int.reduceNeg, Int.reduceAdd, Int.reduceEq, Int.reduceNe] <;> omega
          · rintro h ⟨c2_0, c2_1, c2_2, c2_3, c2_4, c2_5, c2_6, c2_7, c2_8, c2_9, c2_10, c2_11, c2_12, c2_13, c2_14, c2_15, c2_16, c2_17, c2_18, c2_19, c2_20, c2_21, c2_22, c2_23, c2_24, c2_25⟩
            exact e_impl_CounterJoin _ _ _ hv7 h _ (by simp (disch := first | omega | (simp only [List.length_set, List.length_append, List.length_cons, List.length_nil, rows_len, zs]; first | done | omega)) only [ep_laws_szCounter, ep_laws_toCounter, ep_spec_CounterJoin, ep_laws_eqCounter, ep_laws_heldCounter, ep_impl_CounterJoin, hv0, hb1, hv2, hb3, hv4, hv5, hv6, d0_0, d0_1, d0_2, d0_3, d0_4, d1_0, d1_1, d1_2, d1_3, d1_4, d1_5, d1_6, d1_7, d1_8, d1_9, hv7, c2_0, c2_1, c2_2, c2_3, c2_4, c2_5, c2_6, c2_7, c2_8, c2_9, c2_10, c2_11, c2_12, c2_13, c2_14, c2_15, c2_16, c2_17, c2_18, c2_19, c2_20, c2_21, c2_22, c2_23, c2_24, c2_25, gs, app_hsl, app_nil, reduceIte, reduceCtorEq, Nat.reduceAdd, Nat.reduceMul, Nat.reduceSub, Nat.reduceBEq, Nat.reduceEqDiff, Nat.reduceLeDiff, Nat.reduceLT, Nat.reduceGT, Int.reduceToNat, Int.reduceLT, Int.reduceLE, Int.reduceNeg, Int.reduceAdd, Int.reduceEq, Int.reduceNe])
          · rintro h v hh2 ⟨c2_0, c2_1, c2_2, c2_3, c2_4, c2_5, c2_6, c2_7, c2_8, c2_9, c2_10, c2_11, c2_12, c2_13, c2_14, c2_15, c2_16, c2_17, c2_18, c2_19, c2_20, c2_21, c2_22, c2_23, c2_24, c2_25⟩ hpost
            obtain ⟨kk2, nb2_0, nb2_1, rfl, lnb2_0, gnb2_0, wnb2_0, lnb2_1, gnb2_1, wnb2_1, ne2_1_0⟩ := hpost
            have d2_0 : getCells hh2 0 2 = some [.i (.sl 1 (x0.plus.counts.map enc)), .i (.sl 1 (x0.minus.counts.map enc))] := (keep_get kk2 c2_1 (by first | (simp; done) | (simp; omega))).trans c2_0
            have d2_0l := keep_lt kk2 c2_1
            have d2_1 : getCells hh2 1 2 = some [.i (.sl 1 (x1.plus.counts.map enc)), .i (.sl 1 (x1.minus.counts.map enc))] := (keep_get kk2 c2_3 (by first | (simp; done) | (simp; omega))).trans c2_2
            have d2_1l := keep_lt kk2 c2_3
            have d2_2 : getCells hh2 2 2 = some [.i (.sl 1 (v6.a.plus.counts.map enc)), .i (.sl 1 (v6.a.minus.counts.map enc))] := (keep_get kk2 c2_5 (by first | (simp; done) | (simp; omega))).trans c2_4
            have d2_2l := keep_lt kk2 c2_5
            have d2_3 : getCells hh2 nb0_0 v4.plus.counts.length = some (rows (v4.plus.counts : List Int)) := (keep_get kk2 c2_7 (by first | (simp; done) | (simp; omega))).trans c2_6
            have d2_3l := keep_lt kk2 c2_7
            have d2_4 : getCells hh2 nb0_1 v4.minus.counts.length = some (rows (v4.minus.counts : List Int)) := (keep_get kk2 c2_9 (by first | (simp; done) | (simp; omega))).trans c2_8
            have d2_4l := keep_lt kk2 c2_9
            have d2_5 : getCells hh2 hh0.length 0 = some [] := (keep_get kk2 c2_11 (by first | (simp; done) | (simp; omega))).trans c2_10
            have d2_5l := keep_lt kk2 c2_11
            have d2_6 : getCells hh2 (hh0.length + 1) 0 = some [] := (keep_get kk2 c2_13 (by first | (simp; done) | (simp; omega))).trans c2_12
            have d2_6l := keep_lt kk2 c2_13
            have d2_7 : getCells hh2 (hh0.length + 2) 2 = some [.hsl nb0_0 v4.plus.counts.length 0 1 false v4.plus.counts.length, .hsl nb0_1 v4.minus.counts.length 0 1 false v4.minus.counts.length] := (keep_get kk2 c2_15 (by first | (simp; done) | (simp; omega))).trans c2_14
            have d2_7l := keep_lt kk2 c2_15
            have d2_8 : getCells hh2 nb1_0 v5.plus.counts.length = some (rows (v5.plus.counts : List Int)) := (keep_get kk2 c2_17 (by first | (simp; done) | (simp; omega))).trans c2_16
            have d2_8l := keep_lt kk2 c2_17
            have d2_9 : getCells hh2 nb1_1 v5.minus.counts.length = some (rows (v5.minus.counts : List Int)) := (keep_get kk2 c2_19 (by first | (simp; done) | (simp; omega))).trans c2_18
            have d2_9l := keep_lt kk2 c2_19
            have d2_10 : getCells hh2 hh1.length 0 = some [] := (keep_get kk2 c2_21 (by first | (simp; done) | (simp; omega))).trans c2_20
            have d2_10l := keep_lt kk2 c2_21
            have d2_11 : getCells hh2 (hh1.length + 1) 0 = some [] := (keep_get kk2 c2_23 (by first | (simp; done) | (simp; omega))).trans c2_22
            have d2_11l := keep_lt kk2 c2_23
            have d2_12 : getCells hh2 (hh1.length + 2) 2 = some [.hsl nb1_0 v5.plus.counts.length 0 1 false v5.plus.counts.length, .hsl nb1_1 v5.minus.counts.length 0 1 false v5.minus.counts.length] := (keep_get kk2 c2_25 (by first | (simp; done) | (simp; omega))).trans c2_24
            have d2_12l := keep_lt kk2 c2_25
            have d2_13 := wnb2_0
            have d2_14 := wnb2_1
            obtain ⟨v8, hv8, hp⟩ := bind_eq hp
            by_cases hb9 : (v8) = true
            · rw [if_t hb9] at hp
              by_cases hb10 : (decide (v7.b = v6.b)) = true
              · rw [if_t hb10] at hp
                obtain ⟨v11, hv11, hp⟩ := bind_eq hp
                by_cases hb12 : (v11) = true
                · rw [if_t hb12] at hp
                  obtain ⟨v13, hv13, hp⟩ := bind_eq hp
                  by_cases hb14 : (v13) = true
                  · rw [if_t hb14] at hp
                    obtain ⟨v15, hv15, hp⟩ := bind_eq hp
                    simp (disch := first | omega | (simp only [List.length_set, List.length_append, List.length_cons, List.length_nil, rows_len, zs]; first | done | omega)) only [ep_laws_szCounter, ep_laws_toCounter, ep_spec_CounterJoin, ep_laws_eqCounter, ep_laws_heldCounter, ep_impl_CounterJoin, hv0, hb1, hv2, hb3, hv4, hv5, hv6, d0_0, d0_1, d0_2, d0_3, d0_4, d1_0, d1_1, d1_2, d1_3, d1_4, d1_5, d1_6, d1_7, d1_8, d1_9, hv7, d2_0, d2_1, d2_2, d2_3, d2_4, d2_5, d2_6, d2_7, d2_8, d2_9, d2_10, d2_11, d2_12, d2_13, d2_14, hv8, hb9, hb10, hv11, hb12, hv13, hb14, gs, app_hsl, app_nil, reduceIte, reduceCtorEq, Nat.reduceAdd, Nat.reduceMul, Nat.reduceSub, Nat.reduceBEq, Nat.reduceEqDiff, Nat.reduceLeDiff, Nat.reduceLT, Nat.reduceGT, Int.reduceToNat, Int.reduceLT, Int.reduceLE, Int.reduceNeg, Int.reduceAdd, Int.reduceEq, Int.reduceNe]
                    refine call_f (fun h => getCells h 0 2 = some [.i (.sl 1 (x0.plus.counts.map enc)), .i (.sl 1 (x0.minus.counts.map enc))] ∧ 0 < h.length ∧ getCells h 1 2 = some [.i (.sl 1 (x1.plus.counts.map enc)), .i (.sl 1 (x1.minus.counts.map enc))] ∧ 1 < h.length ∧ getCells h 2 2 = some [.i (.sl 1 (v6.a.plus.counts.map enc)), .i (.sl 1 (v6.a.minus.counts.map enc))] ∧ 2 < h.length ∧ getCells h nb0_0 v4.plus.counts.length = some (rows (v4.plus.counts : List Int)) ∧ nb0_0 < h.length ∧ getCells h nb0_1 v4.minus.counts.length = some (rows (v4.minus.counts : List Int)) ∧ nb0_1 < h.length ∧ getCells h hh0.length 0 = some [] ∧ hh0.length < h.length ∧ getCells h (hh0.length + 1) 0 = some [] ∧ hh0.length + 1 < h.length ∧ getCells h (hh0.length + 2) 2 = some [.hsl nb0_0 v4.plus.counts.length 0 1 false v4.plus.counts.length, .hsl nb0_1 v4.minus.counts.length 0 1 false v4.minus.counts.length] ∧ hh0.length + 2 < h.length ∧ getCells h nb1_0 v5.plus.counts.length = some (rows (v5.plus.counts : List Int)) ∧ nb1_0 < h.length ∧ getCells h nb1_1 v5.minus.counts.length = some (rows (v5.minus.counts : List Int)) ∧ nb1_1 < h.length ∧ getCells h hh1.length 0 = some [] ∧ hh1.length < h.length ∧ getCells h (hh1.length + 1) 0 = some [] ∧ hh1.length + 1 < h.length ∧ getCells h (hh1.length + 2) 2 = some [.hsl nb1_0 v5.plus.counts.length 0 1 false v5.plus.counts.length, .hsl nb1_1 v5.minus.counts.length 0 1 false v5.minus.counts.length] ∧ hh1.length + 2 < h.length ∧ getCells h nb2_0 v7.a.plus.counts.length = some (rows (v7.a.plus.counts : List Int)) ∧ nb2_0 < h.length ∧ getCells h nb2_1 v7.a.minus.counts.length = some (rows (v7.a.minus.counts : List Int)) ∧ nb2_1 < h.length ∧ getCells h hh2.length 0 = some [] ∧ hh2.length < h.length ∧ getCells h (hh2.length + 1) 0 = some [] ∧ hh2.length + 1 < h.length ∧ getCells h (hh2.length + 2) 2 = some [.hsl nb2_0 v7.a.plus.counts.length 0 1 false v7.a.plus.counts.length, .hsl nb2_1 v7.a.minus.counts.length 0 1 false v7.a.minus.counts.length] ∧ hh2.length + 2 < h.length) (fun h v h2 => i_laws_markCounter nb0_0 nb0_1 v4.plus.counts.length v4.minus.counts.length h v15 v h2) ?_ ?_ ?_
                    · simp (disch := first | omega | (simp only [List.length_set, List.length_append, List.length_cons, List.length_nil, rows_len, zs]; first | done | omega)) only [ep_laws_szCounter, ep_laws_toCounter, ep_spec_CounterJoin, ep_laws_eqCounter, ep_laws_heldCounter, ep_impl_CounterJoin, hv0, hb1, hv2, hb3, hv4, hv5, hv6, d0_0, d0_1, d0_2, d0_3, d0_4, d1_0, d1_1, d1_2, d1_3, d1_4, d1_5, d1_6, d1_7, d1_8, d1_9, hv7, d2_0, d2_1, d2_2, d2_3, d2_4, d2_5, d2_6, d2_7, d2_8, d2_9, d2_10, d2_11, d2_12, d2_13, d2_14, hv8, hb9, hb10, hv11, hb12, hv13, hb14, hv15, gs, app_hsl, app_nil, reduceIte, reduceCtorEq, Nat.reduceAdd, Nat.reduceMul, Nat.reduceSub, Nat.reduceBEq, Nat.reduceEqDiff, Nat.reduceLeDiff, Nat.reduceLT, Nat.reduceGT, Int.reduceToNat, Int.reduceLT, Int.reduceLE, Int.reduceNeg, Int.reduceAdd, Int.reduceEq, Int.reduceNe] <;> omega
                    · rintro h ⟨c3_0, c3_1, c3_2, c3_3, c3_4, c3_5, c3_6, c3_7, c3_8, c3_9, c3_10, c3_11, c3_12, c3_13, c3_14, c3_15, c3_16, c3_17, c3_18, c3_19, c3_20, c3_21, c3_22, c3_23, c3_24, c3_25, c3_26, c3_27, c3_28, c3_29, c3_30, c3_31, c3_32, c3_33, c3_34, c3_35⟩
                      exact e_laws_markCounter _ _ _ hv15 nb0_0 nb0_1 v4.plus.counts.length v4.minus.counts.length h (by omega) (by omega) c3_6 c3_8 (by omega)
                    · rintro h v hh3 ⟨c3_0, c3_1, c3_2, c3_3, c3_4, c3_5, c3_6, c3_7, c3_8, c3_9, c3_10, c3_11, c3_12, c3_13, c3_14, c3_15, c3_16, c3_17, c3_18, c3_19, c3_20, c3_21, c3_22, c3_23, c3_24, c3_25, c3_26, c3_27, c3_28, c3_29, c3_30, c3_31, c3_32, c3_33, c3_34, c3_35⟩ hpost
                      obtain ⟨kk3, rfl, w3_0, w3_1⟩ := hpost
                      have d3_0 : getCells hh3 0 2 = some [.i (.sl 1 (x0.plus.counts.map enc)), .i (.sl 1 (x0.minus.counts.map enc))] := (keep_get kk3 c3_1 (by first | (simp; done) | (simp; omega))).trans c3_0
                      have d3_0l := keep_lt kk3 c3_1
                      have d3_1 : getCells hh3 1 2 = some [.i (.sl 1 (x1.plus.counts.map enc)), .i (.sl 1 (x1.minus.counts.map enc))] := (keep_get kk3 c3_3 (by first | (simp; done) | (simp; omega))).trans c3_2
                      have d3_1l := keep_lt kk3 c3_3
                      have d3_2 : getCells hh3 2 2 = some [.i (.sl 1 (v6.a.plus.counts.map enc)), .i (.sl 1 (v6.a.minus.counts.map enc))] := (keep_get kk3 c3_5 (by first | (simp; done) | (simp; omega))).trans c3_4
                      have d3_2l := keep_lt kk3 c3_5
                      have d3_3 : getCells hh3 nb0_0 v4.plus.counts.length = some (rows (v15.b.plus.counts : List Int)) := w3_0
                      have mm3_0 := len_rows w3_0
                      simp only [zs] at mm3_0
                      have d3_3l := keep_lt kk3 c3_7
                      have d3_4 : getCells hh3 nb0_1 v4.minus.counts.length = some (rows (v15.b.minus.counts : List Int)) := w3_1
                      have mm3_1 := len_rows w3_1
                      simp only [zs] at mm3_1
                      have d3_4l := keep_lt kk3 c3_9
                      have d3_5 : getCells hh3 hh0.length 0 = some [] := (keep_get kk3 c3_11 (by first | (simp; done) | (simp; omega))).trans c3_10
                      have d3_5l := keep_lt kk3 c3_11
                      have d3_6 : getCells hh3 (hh0.length + 1) 0 = some [] := (keep_get kk3 c3_13 (by first | (simp; done) | (simp; omega))).trans c3_12
                      have d3_6l := keep_lt kk3 c3_13
                      have d3_7 : getCells hh3 (hh0.length + 2) 2 = some [.hsl nb0_0 v4.plus.counts.length 0 1 false v4.plus.counts.length, .hsl nb0_1 v4.minus.counts.length 0 1 false v4.minus.counts.length] := (keep_get kk3 c3_15 (by first | (simp; done) | (simp; omega))).trans c3_14
                      have d3_7l := keep_lt kk3 c3_15
                      have d3_8 : getCells hh3 nb1_0 v5.plus.counts.length = some (rows (v5.plus.counts : List Int)) := (keep_get kk3 c3_17 (by first | (simp; done) | (simp; omega))).trans c3_16
                      have d3_8l := keep_lt kk3 c3_17
                      have d3_9 : getCells hh3 nb1_1 v5.minus.counts.length = some (rows (v5.minus.counts : List Int)) := (keep_get kk3 c3_19 (by first | (simp; done) | (simp; omega))).trans c3_18
                      have d3_9l := keep_lt kk3 c3_19
                      have d3_10 : getCells hh3 hh1.length 0 = some [] := (keep_get kk3 c3_21 (by first | (simp; done) | (simp; omega))).trans c3_20
                      have d3_10l := keep_lt kk3 c3_21
                      have d3_11 : getCells hh3 (hh1.length + 1) 0 = some [] := (keep_get kk3 c3_23 (by first | (simp; done) | (simp; omega))).trans c3_22
                      have d3_11l := keep_lt kk3 c3_23
                      have d3_12 : getCells hh3 (hh1.length + 2) 2 = some [.hsl nb1_0 v5.plus.counts.length 0 1 false v5.plus.counts.length, .hsl nb1_1 v5.minus.counts.length 0 1 false v5.minus.counts.length] := (keep_get kk3 c3_25 (by first | (simp; done) | (simp; omega))).trans c3_24
                      have d3_12l := keep_lt kk3 c3_25
                      have d3_13 : getCells hh3 nb2_0 v7.a.plus.counts.length = some (rows (v7.a.plus.counts : List Int)) := (keep_get kk3 c3_27 (by first | (simp; done) | (simp; omega))).trans c3_26
                      have d3_13l := keep_lt kk3 c3_27
                      have d3_14 : getCells hh3 nb2_1 v7.a.minus.counts.length = some (rows (v7.a.minus.counts : List Int)) := (keep_get kk3 c3_29 (by first | (simp; done) | (simp; omega))).trans c3_28
                      have d3_14l := keep_lt kk3 c3_29
                      have d3_15 : getCells hh3 hh2.length 0 = some [] := (keep_get kk3 c3_31 (by first | (simp; done) | (simp; omega))).trans c3_30
                      have d3_15l := keep_lt kk3 c3_31
                      have d3_16 : getCells hh3 (hh2.length + 1) 0 = some [] := (keep_get kk3 c3_33 (by first | (simp; done) | (simp; omega))).trans c3_32
                      have d3_16l := keep_lt kk3 c3_33
                      have d3_17 : getCells hh3 (hh2.length + 2) 2 = some [.hsl nb2_0 v7.a.plus.counts.length 0 1 false v7.a.plus.counts.length, .hsl nb2_1 v7.a.minus.counts.length 0 1 false v7.a.minus.counts.length] := (keep_get kk3 c3_35 (by first | (simp; done) | (simp; omega))).trans c3_34
                      have d3_17l := keep_lt kk3 c3_35
                      obtain ⟨v16, hv16, hp⟩ := bind_eq hp
                      simp (disch := first | omega | (simp only [List.length_set, List.length_append, List.length_cons, List.length_nil, rows_len, zs]; first | done | omega)) only [ep_laws_szCounter, ep_laws_toCounter, ep_spec_CounterJoin, ep_laws_eqCounter, ep_laws_heldCounter, ep_impl_CounterJoin, hv0, hb1, hv2, hb3, hv4, hv5, hv6, d0_0, d0_1, d0_2, d0_3, d0_4, d1_0, d1_1, d1_2, d1_3, d1_4, d1_5, d1_6, d1_7, d1_8, d1_9, hv7, d2_0, d2_1, d2_2, d2_3, d2_4, d2_5, d2_6, d2_7, d2_8, d2_9, d2_10, d2_11, d2_12, d2_13, d2_14, hv8, hb9, hb10, hv11, hb12, hv13, hb14, hv15, d3_0, d3_1, d3_2, d3_3, d3_4, d3_5, d3_6, d3_7, d3_8, d3_9, d3_10, d3_11, d3_12, d3_13, d3_14, d3_15, d3_16, d3_17, gs, app_hsl, app_nil, reduceIte, reduceCtorEq, Nat.reduceAdd, Nat.reduceMul, Nat.reduceSub, Nat.reduceBEq, Nat.reduceEqDiff, Nat.reduceLeDiff, Nat.reduceLT, Nat.reduceGT, Int.reduceToNat, Int.reduceLT, Int.reduceLE, Int.reduceNeg, Int.reduceAdd, Int.reduceEq, Int.reduceNe]
                      refine call_f (fun h => getCells h 0 2 = some [.i (.sl 1 (x0.plus.counts.map enc)), .i (.sl 1 (x0.minus.counts.map enc))] ∧ 0 < h.length ∧ getCells h 1 2 = some [.i (.sl 1 (x1.plus.counts.map enc)), .i (.sl 1 (x1.minus.counts.map enc))] ∧ 1 < h.length ∧ getCells h 2 2 = some [.i (.sl 1 (v6.a.plus.counts.map enc)), .i (.sl 1 (v6.a.minus.counts.map enc))] ∧ 2 < h.length ∧ getCells h nb0_0 v4.plus.counts.length = some (rows (v15.b.plus.counts : List Int)) ∧ nb0_0 < h.length ∧ getCells h nb0_1 v4.minus.counts.length = some (rows (v15.b.minus.counts : List Int)) ∧ nb0_1 < h.length ∧ getCells h hh0.length 0 = some [] ∧ hh0.length < h.length ∧ getCells h (hh0.length + 1) 0 = some [] ∧ hh0.length + 1 < h.length ∧ getCells h (hh0.length + 2) 2 = some [.hsl nb0_0 v4.plus.counts.length 0 1 false v4.plus.counts.length, .hsl nb0_1 v4.minus.counts.length 0 1 false v4.minus.counts.length] ∧ hh0.length + 2 < h.length ∧ getCells h nb1_0 v5.plus.counts.length = some (rows (v5.plus.counts : List Int)) ∧ nb1_0 < h.length ∧ getCells h nb1_1 v5.minus.counts.length = some (rows (v5.minus.counts : List Int)) ∧ nb1_1 < h.length ∧ getCells h hh1.length 0 = some [] ∧ hh1.length < h.length ∧ getCells h (hh1.length + 1) 0 = some [] ∧ hh1.length + 1 < h.length ∧ getCells h (hh1.length + 2) 2 = some [.hsl nb1_0 v5.plus.counts.length 0 1 false v5.plus.counts.length, .hsl nb1_1 v5.minus.counts.length 0 1 false v5.minus.counts.length] ∧ hh1.length + 2 < h.length ∧ getCells h nb2_0 v7.a.plus.counts.length = some (rows (v7.a.plus.counts : List Int)) ∧ nb2_0 < h.length ∧ getCells h nb2_1 v7.a.minus.counts.length = some (rows (v7.a.minus.counts : List Int)) ∧ nb2_1 < h.length ∧ getCells h hh2.length 0 = some [] ∧ hh2.length < h.length ∧ getCells h (hh2.length + 1) 0 = some [] ∧ hh2.length + 1 < h.length ∧ getCells h (hh2.length + 2) 2 = some [.hsl nb2_0 v7.a.plus.counts.length 0 1 false v7.a.plus.counts.length, .hsl nb2_1 v7.a.minus.counts.length 0 1 false v7.a.minus.counts.length] ∧ hh2.length + 2 < h.length) (fun h v h2 => i_laws_markCounter nb1_0 nb1_1 v5.plus.counts.length v5.minus.counts.length h v16 v h2) ?_ ?_ ?_
                      · simp (disch := first | omega | (simp only [List.length_set, List.length_append, List.length_cons, List.length_nil, rows_len, zs]; first | done | omega)) only [ep_laws_szCounter, ep_laws_toCounter, ep_spec_CounterJoin, ep_laws_eqCounter, ep_laws_heldCounter, ep_impl_CounterJoin, hv0, hb1, hv2, hb3, hv4, hv5, hv6, d0_0, d0_1, d0_2, d0_3, d0_4, d1_0, d1_1, d1_2, d1_3, d1_4, d1_5, d1_6, d1_7, d1_8, d1_9, hv7, d2_0, d2_1, d2_2, d2_3, d2_4, d2_5, d2_6, d2_7, d2_8, d2_9, d2_10, d2_11, d2_12, d2_13, d2_14, hv8, hb9, hb10, hv11, hb12, hv13, hb14, hv15, d3_0, d3_1, d3_2, d3_3, d3_4, d3_5, d3_6, d3_7, d3_8, d3_9, d3_10, d3_11, d3_12, d3_13, d3_14, d3_15, d3_16, d3_17, hv16, gs, app_hsl, app_nil, reduceIte, reduceCtorEq, Nat.reduceAdd, Nat.reduceMul, Nat.reduceSub, Nat.reduceBEq, Nat.reduceEqDiff, Nat.reduceLeDiff, Nat.reduceLT, Nat.reduceGT, Int.reduceToNat, Int.reduceLT, Int.reduceLE, Int.reduceNeg, Int.reduceAdd, Int.reduceEq, Int.reduceNe] <;> omega
                      · rintro h ⟨c4_0, c4_1, c4_2, c4_3, c4_4, c4_5, c4_6, c4_7, c4_8, c4_9, c4_10, c4_11, c4_12, c4_13, c4_14, c4_15, c4_16, c4_17, c4_18, c4_19, c4_20, c4_21, c4_22, c4_23, c4_24, c4_25, c4_26, c4_27, c4_28, c4_29, c4_30, c4_31, c4_32, c4_33, c4_34, c4_35⟩
                        exact e_laws_markCounter _ _ _ hv16 nb1_0 nb1_1 v5.plus.counts.length v5.minus.counts.length h (by omega) (by omega) c4_16 c4_18 (by omega)
                      · rintro h v hh4 ⟨c4_0, c4_1, c4_2, c4_3, c4_4, c4_5, c4_6, c4_7, c4_8, c4_9, c4_10, c4_11, c4_12, c4_13, c4_14, c4_15, c4_16, c4_17, c4_18, c4_19, c4_20, c4_21, c4_22, c4_23, c4_24, c4_25, c4_26, c4_27, c4_28, c4_29, c4_30, c4_31, c4_32, c4_33, c4_34, c4_35⟩ hpost
                        obtain ⟨kk4, rfl, w4_0, w4_1⟩ := hpost
                        have d4_0 : getCells hh4 0 2 = some [.i (.sl 1 (x0.plus.counts.map enc)), .i (.sl 1 (x0.minus.counts.map enc))] := (keep_get kk4 c4_1 (by first | (simp; done) | (simp; omega))).trans c4_0
                        have d4_0l := keep_lt kk4 c4_1
                        have d4_1 : getCells hh4 1 2 = some [.i (.sl 1 (x1.plus.counts.map enc)), .i (.sl 1 (x1.minus.counts.map enc))] := (keep_get kk4 c4_3 (by first | (simp; done) | (simp; omega))).trans c4_2
                        have d4_1l := keep_lt kk4 c4_3
                        have d4_2 : getCells hh4 2 2 = some [.i (.sl 1 (v6.a.plus.counts.map enc)), .i (.sl 1 (v6.a.minus.counts.map enc))] := (keep_get kk4 c4_5 (by first | (simp; done) | (simp; omega))).trans c4_4
                        have d4_2l := keep_lt kk4 c4_5
                        have d4_3 : getCells hh4 nb0_0 v4.plus.counts.length = some (rows (v15.b.plus.counts : List Int)) := (keep_get kk4 c4_7 (by first | (simp; done) | (simp; omega))).trans c4_6
                        have d4_3l := keep_lt kk4 c4_7
                        have d4_4 : getCells hh4 nb0_1 v4.minus.counts.length = some (rows (v15.b.minus.counts : List Int)) := (keep_get kk4 c4_9 (by first | (simp; done) | (simp; omega))).trans c4_8
                        have d4_4l := keep_lt kk4 c4_9
                        have d4_5 : getCells hh4 hh0.length 0 = some [] := (keep_get kk4 c4_11 (by first | (simp; done) | (simp; omega))).trans c4_10
                        have d4_5l := keep_lt kk4 c4_11
                        have d4_6 : getCells hh4 (hh0.length + 1) 0 = some [] := (keep_get kk4 c4_13 (by first | (simp; done) | (simp; omega))).trans c4_12
                        have d4_6l := keep_lt kk4 c4_13
                        have d4_7 : getCells hh4 (hh0.length + 2) 2 = some [.hsl nb0_0 v4.plus.counts.length 0 1 false v4.plus.counts.length, .hsl nb0_1 v4.minus.counts.length 0 1 false v4.minus.counts.length] := (keep_get kk4 c4_15 (by first | (simp; done) | (simp; omega))).trans c4_14
                        have d4_7l := keep_lt kk4 c4_15
                        have d4_8 : getCells hh4 nb1_0 v5.plus.counts.length = some (rows (v16.b.plus.counts : List Int)) := w4_0
                        have mm4_0 := len_rows w4_0
                        simp only [zs] at mm4_0
                        have d4_8l := keep_lt kk4 c4_17
                        have d4_9 : getCells hh4 nb1_1 v5.minus.counts.length = some (rows (v16.b.minus.counts : List Int)) := w4_1
                        have mm4_1 := len_rows w4_1
                        simp only [zs] at mm4_1
                        have d4_9l := keep_lt kk4 c4_19
                        have d4_10 : getCells hh4 hh1.length 0 = some [] := (keep_get kk4 c4_21 (by first | (simp; done) | (simp; omega))).trans c4_20
                        have d4_10l := keep_lt kk4 c4_21
                        have d4_11 : getCells hh4 (hh1.length + 1) 0 = some [] := (keep_get kk4 c4_23 (by first | (simp; done) | (simp; omega))).trans c4_22
                        have d4_11l := keep_lt kk4 c4_23
                        have d4_12 : getCells hh4 (hh1.length + 2) 2 = some [.hsl nb1_0 v5.plus.counts.length 0 1 false v5.plus.counts.length, .hsl nb1_1 v5.minus.counts.length 0 1 false v5.minus.counts.length] := (keep_get kk4 c4_25 (by first | (simp; done) | (simp; omega))).trans c4_24
                        have d4_12l := keep_lt kk4 c4_25
                        have d4_13 : getCells hh4 nb2_0 v7.a.plus.counts.length = some (rows (v7.a.plus.counts : List Int)) := (keep_get kk4 c4_27 (by first | (simp; done) | (simp; omega))).trans c4_26
                        have d4_13l := keep_lt kk4 c4_27
                        have d4_14 : getCells hh4 nb2_1 v7.a.minus.counts.length = some (rows (v7.a.minus.counts : List Int)) := (keep_get kk4 c4_29 (by first | (simp; done) | (simp; omega))).trans c4_28
                        have d4_14l := keep_lt kk4 c4_29
                        have d4_15 : getCells hh4 hh2.length 0 = some [] := (keep_get kk4 c4_31 (by first | (simp; done) | (simp; omega))).trans c4_30
                        have d4_15l := keep_lt kk4 c4_31
                        have d4_16 : getCells hh4 (hh2.length + 1) 0 = some [] := (keep_get kk4 c4_33 (by first | (simp; done) | (simp; omega))).trans c4_32
                        have d4_16l := keep_lt kk4 c4_33
                        have d4_17 : getCells hh4 (hh2.length + 2) 2 = some [.hsl nb2_0 v7.a.plus.counts.length 0 1 false v7.a.plus.counts.length, .hsl nb2_1 v7.a.minus.counts.length 0 1 false v7.a.minus.counts.length] := (keep_get kk4 c4_35 (by first | (simp; done) | (simp; omega))).trans c4_34
                        have d4_17l := keep_lt kk4 c4_35
                        by_cases hb17 : (decide (v16.a < 0)) = true
                        · rw [if_t hb17] at hp
                          cases hp
                        · replace hb17 := eq_false_of_ne_true hb17
                          rw [if_f hb17] at hp
                          obtain ⟨v18, hv18, hp⟩ := bind_eq hp
                          simp (disch := first | omega | (simp only [List.length_set, List.length_append, List.length_cons, List.length_nil, rows_len, zs]; first | done | omega)) only [ep_laws_szCounter, ep_laws_toCounter, ep_spec_CounterJoin, ep_laws_eqCounter, ep_laws_heldCounter, ep_impl_CounterJoin, hv0, hb1, hv2, hb3, hv4, hv5, hv6, d0_0, d0_1, d0_2, d0_3, d0_4, d1_0, d1_1, d1_2, d1_3, d1_4, d1_5, d1_6, d1_7, d1_8, d1_9, hv7, d2_0, d2_1, d2_2, d2_3, d2_4, d2_5, d2_6, d2_7, d2_8, d2_9, d2_10, d2_11, d2_12, d2_13, d2_14, hv8, hb9, hb10, hv11, hb12, hv13, hb14, hv15, d3_0, d3_1, d3_2, d3_3, d3_4, d3_5, d3_6, d3_7, d3_8, d3_9, d3_10, d3_11, d3_12, d3_13, d3_14, d3_15, d3_16, d3_17, hv16, d4_0, d4_1, d4_2, d4_3, d4_4, d4_5, d4_6, d4_7, d4_8, d4_9, d4_10, d4_11, d4_12, d4_13, d4_14, d4_15, d4_16, d4_17, hb17, gs, app_hsl, app_nil, reduceIte, reduceCtorEq, Nat.reduceAdd, Nat.reduceMul, Nat.reduceSub, Nat.reduceBEq, Nat.reduceEqDiff, Nat.reduceLeDiff, Nat.reduceLT, Nat.reduceGT, Int.reduceToNat, Int.reduceLT, Int.reduceLE, Int.reduceNeg, Int.reduceAdd, Int.reduceEq, Int.reduceNe]
                          refine call_f (fun h => getCells h 0 2 = some [.i (.sl 1 (x0.plus.counts.map enc)), .i (.sl 1 (x0.minus.counts.map enc))] ∧ 0 < h.length ∧ getCells h 1 2 = some [.i (.sl 1 (x1.plus.counts.map enc)), .i (.sl 1 (x1.minus.counts.map enc))] ∧ 1 < h.length ∧ getCells h 2 2 = some [.i (.sl 1 (v6.a.plus.counts.map enc)), .i (.sl 1 (v6.a.minus.counts.map enc))] ∧ 2 < h.length ∧ getCells h nb0_0 v4.plus.counts.length = some (rows (v15.b.plus.counts : List Int)) ∧ nb0_0 < h.length ∧ getCells h nb0_1 v4.minus.counts.length = some (rows (v15.b.minus.counts : List Int)) ∧ nb0_1 < h.length ∧ getCells h hh0.length 0 = some [] ∧ hh0.length < h.length ∧ getCells h (hh0.length + 1) 0 = some [] ∧ hh0.length + 1 < h.length ∧ getCells h (hh0.length + 2) 2 = some [.hsl nb0_0 v4.plus.counts.length 0 1 false v4.plus.counts.length, .hsl nb0_1 v4.minus.counts.length 0 1 false v4.minus.counts.length] ∧ hh0.length + 2 < h.length ∧ getCells h nb1_0 v5.plus.counts.length = some (rows (v16.b.plus.counts : List Int)) ∧ nb1_0 < h.length ∧ getCells h nb1_1 v5.minus.counts.length = some (rows (v16.b.minus.counts : List Int)) ∧ nb1_1 < h.length ∧ getCells h hh1.length 0 = some [] ∧ hh1.length < h.length ∧ getCells h (hh1.length + 1) 0 = some [] ∧ hh1.length + 1 < h.length ∧ getCells h (hh1.length + 2) 2 = some [.hsl nb1_0 v5.plus.counts.length 0 1 false v5.plus.counts.length, .hsl nb1_1 v5.minus.counts.length 0 1 false v5.minus.counts.length] ∧ hh1.length + 2 < h.length ∧ getCells h nb2_0 v7.a.plus.counts.length = some (rows (v7.a.plus.counts : List Int)) ∧ nb2_0 < h.length ∧ getCells h nb2_1 v7.a.minus.counts.length = some (rows (v7.a.minus.counts : List Int)) ∧ nb2_1 < h.length ∧ getCells h hh2.length 0 = some [] ∧ hh2.length < h.length ∧ getCells h (hh2.length + 1) 0 = some [] ∧ hh2.length + 1 < h.length ∧ getCells h (hh2.length + 2) 2 = some [.hsl nb2_0 v7.a.plus.counts.length 0 1 false v7.a.plus.counts.length, .hsl nb2_1 v7.a.minus.counts.length 0 1 false v7.a.minus.counts.length] ∧ hh2.length + 2 < h.length) (fun h v h2 => i_laws_markCounter nb2_0 nb2_1 v7.a.plus.counts.length v7.a.minus.counts.length h v18 v h2) ?_ ?_ ?_
                          · simp (disch := first | omega | (simp only [List.length_set, List.length_append, List.length_cons, List.length_nil, rows_len, zs]; first | done | omega)) only [ep_laws_szCounter, ep_laws_toCounter, ep_spec_CounterJoin, ep_laws_eqCounter, ep_laws_heldCounter, ep_impl_CounterJoin, hv0, hb1, hv2, hb3, hv4, hv5, hv6, d0_0, d0_1, d0_2, d0_3, d0_4, d1_0, d1_1, d1_2, d1_3, d1_4, d1_5, d1_6, d1_7, d1_8, d1_9, hv7, d2_0, d2_1, d2_2, d2_3, d2_4, d2_5, d2_6, d2_7, d2_8, d2_9, d2_10, d2_11, d2_12, d2_13, d2_14, hv8, hb9, hb10, hv11, hb12, hv13, hb14, hv15, d3_0, d3_1, d3_2, d3_3, d3_4, d3_5, d3_6, d3_7, d3_8, d3_9, d3_10, d3_11, d3_12, d3_13, d3_14, d3_15, d3_16, d3_17, hv16, d4_0, d4_1, d4_2, d4_3, d4_4, d4_5, d4_6, d4_7, d4_8, d4_9, d4_10, d4_11, d4_12, d4_13, d4_14, d4_15, d4_16, d4_17, hb17, hv18, gs, app_hsl, app_nil, reduceIte, reduceCtorEq, Nat.reduceAdd, Nat.reduceMul, Nat.reduceSub, Nat.reduceBEq, Nat.reduceEqDiff, Nat.reduceLeDiff, Nat.reduceLT, Nat.reduceGT, Int.reduceToNat, Int.reduceLT, Int.reduceLE, Int.reduceNeg, Int.reduceAdd, Int.reduceEq, Int.reduceNe] <;> omega
                          · rintro h ⟨c5_0, c5_1, c5_2, c5_3, c5_4, c5_5, c5_6, c5_7, c5_8, c5_9, c5_10, c5_11, c5_12, c5_13, c5_14, c5_15, c5_16, c5_17, c5_18, c5_19, c5_20, c5_21, c5_22, c5_23, c5_24, c5_25, c5_26, c5_27, c5_28, c5_29, c5_30, c5_31, c5_32, c5_33, c5_34, c5_35⟩
                            exact e_laws_markCounter _ _ _ hv18 nb2_0 nb2_1 v7.a.plus.counts.length v7.a.minus.counts.length h (by omega) (by omega) c5_26 c5_28 (by omega)
                          · rintro h v hh5 ⟨c5_0, c5_1, c5_2, c5_3, c5_4, c5_5, c5_6, c5_7, c5_8, c5_9, c5_10, c5_11, c5_12, c5_13, c5_14, c5_15, c5_16, c5_17, c5_18, c5_19, c5_20, c5_21, c5_22, c5_23, c5_24, c5_25, c5_26, c5_27, c5_28, c5_29, c5_30, c5_31, c5_32, c5_33, c5_34, c5_35⟩ hpost
                            obtain ⟨kk5, rfl, w5_0, w5_1⟩ := hpost
                            have d5_0 : getCells hh5 0 2 = some [.i (.sl 1 (x0.plus.counts.map enc)), .i (.sl 1 (x0.minus.counts.map enc))] := (keep_get kk5 c5_1 (by first | (simp; done) | (simp; omega))).trans c5_0
                            have d5_0l := keep_lt kk5 c5_1
                            have d5_1 : getCells hh5 1 2 = some [.i (.sl 1 (x1.plus.counts.map enc)), .i (.sl 1 (x1.minus.counts.map enc))] := (keep_get kk5 c5_3 (by first | (simp; done) | (simp; omega))).trans c5_2
                            have d5_1l := keep_lt kk5 c5_3
                            have d5_2 : getCells hh5 2 2 = some [.i (.sl 1 (v6.a.plus.counts.map enc)), .i (.sl 1 (v6.a.minus.counts.map enc))] := (keep_get kk5 c5_5 (by first | (simp; done) | (simp; omega))).trans c5_4
                            have d5_2l := keep_lt kk5 c5_5
                            have d5_3 : getCells hh5 nb0_0 v4.plus.counts.length = some (rows (v15.b.plus.counts : List Int)) := (keep_get kk5 c5_7 (by first | (simp; done) | (simp; omega))).trans c5_6
                            have d5_3l := keep_lt kk5 c5_7
                            have d5_4 : getCells hh5 nb0_1 v4.minus.counts.length = some (rows (v15.b.minus.counts : List Int)) := (keep_get kk5 c5_9 (by first | (simp; done) | (simp; omega))).trans c5_8
                            have d5_4l := keep_lt kk5 c5_9
                            have d5_5 : getCells hh5 hh0.length 0 = some [] := (keep_get kk5 c5_11 (by first | (simp; done) | (simp; omega))).trans c5_10
                            have d5_5l := keep_lt kk5 c5_11
                            have d5_6 : getCells hh5 (hh0.length + 1) 0 = some [] := (keep_get kk5 c5_13 (by first | (simp; done) | (simp; omega))).trans c5_12
                            have d5_6l := keep_lt kk5 c5_13
                            have d5_7 : getCells hh5 (hh0.length + 2) 2 = some [.hsl nb0_0 v4.plus.counts.length 0 1 false v4.plus.counts.length, .hsl nb0_1 v4.minus.counts.length 0 1 false v4.minus.counts.length] := (keep_get kk5 c5_15 (by first | (simp; done) | (simp; omega))).trans c5_14
                            have d5_7l := keep_lt kk5 c5_15
                            have d5_8 : getCells hh5 nb1_0 v5.plus.counts.length = some (rows (v16.b.plus.counts : List Int)) := (keep_get kk5 c5_17 (by first | (simp; done) | (simp; omega))).trans c5_16
                            have d5_8l := keep_lt kk5 c5_17
                            have d5_9 : getCells hh5 nb1_1 v5.minus.counts.length = some (rows (v16.b.minus.counts : List Int)) := (keep_get kk5 c5_19 (by first | (simp; done) | (simp; omega))).trans c5_18
                            have d5_9l := keep_lt kk5 c5_19
                            have d5_10 : getCells hh5 hh1.length 0 = some [] := (keep_get kk5 c5_21 (by first | (simp; done) | (simp; omega))).trans c5_20
                            have d5_10l := keep_lt kk5 c5_21
                            have d5_11 : getCells hh5 (hh1.length + 1) 0 = some [] := (keep_get kk5 c5_23 (by first | (simp; done) | (simp; omega))).trans c5_22
                            have d5_11l := keep_lt kk5 c5_23
                            have d5_12 : getCells hh5 (hh1.length + 2) 2 = some [.hsl nb1_0 v5.plus.counts.length 0 1 false v5.plus.counts.length, .hsl nb1_1 v5.minus.counts.length 0 1 false v5.minus.counts.length] := (keep_get kk5 c5_25 (by first | (simp; done) | (simp; omega))).trans c5_24
                            have d5_12l := keep_lt kk5 c5_25
                            have d5_13 : getCells hh5 nb2_0 v7.a.plus.counts.length = some (rows (v18.b.plus.counts : List Int)) := w5_0
                            have mm5_0 := len_rows w5_0
                            simp only [zs] at mm5_0
                            have d5_13l := keep_lt kk5 c5_27
                            have d5_14 : getCells hh5 nb2_1 v7.a.minus.counts.length = some (rows (v18.b.minus.counts : List Int)) := w5_1
                            have mm5_1 := len_rows w5_1
                            simp only [zs] at mm5_1
                            have d5_14l := keep_lt kk5 c5_29
                            have d5_15 : getCells hh5 hh2.length 0 = some [] := (keep_get kk5 c5_31 (by first | (simp; done) | (simp; omega))).trans c5_30
                            have d5_15l := keep_lt kk5 c5_31
                            have d5_16 : getCells hh5 (hh2.length + 1) 0 = some [] := (keep_get kk5 c5_33 (by first | (simp; done) | (simp; omega))).trans c5_32
                            have d5_16l := keep_lt kk5 c5_33
                            have d5_17 : getCells hh5 (hh2.length + 2) 2 = some [.hsl nb2_0 v7.a.plus.counts.length 0 1 false v7.a.plus.counts.length, .hsl nb2_1 v7.a.minus.counts.length 0 1 false v7.a.minus.counts.length] := (keep_get kk5 c5_35 (by first | (simp; done) | (simp; omega))).trans c5_34
                            have d5_17l := keep_lt kk5 c5_35
                            obtain ⟨v19, hv19, hp⟩ := bind_eq hp
                            by_cases hb20 : (decide (v19 < 0)) = true
                            · rw [if_t hb20] at hp
                              cases hp
                            · replace hb20 := eq_false_of_ne_true hb20
                              rw [if_f hb20] at hp
                              by_cases hb21 : (decide (v19 = v18.a)) = true
                              · rw [if_t hb21] at hp
                                cases hp
                                simp (disch := first | omega | (simp only [List.length_set, List.length_append, List.length_cons, List.length_nil, rows_len, zs]; first | done | omega)) only [ep_laws_szCounter, ep_laws_toCounter, ep_spec_CounterJoin, ep_laws_eqCounter, ep_laws_heldCounter, ep_impl_CounterJoin, hv0, hb1, hv2, hb3, hv4, hv5, hv6, d0_0, d0_1, d0_2, d0_3, d0_4, d1_0, d1_1, d1_2, d1_3, d1_4, d1_5, d1_6, d1_7, d1_8, d1_9, hv7, d2_0, d2_1, d2_2, d2_3, d2_4, d2_5, d2_6, d2_7, d2_8, d2_9, d2_10, d2_11, d2_12, d2_13, d2_14, hv8, hb9, hb10, hv11, hb12, hv13, hb14, hv15, d3_0, d3_1, d3_2, d3_3, d3_4, d3_5, d3_6, d3_7, d3_8, d3_9, d3_10, d3_11, d3_12, d3_13, d3_14, d3_15, d3_16, d3_17, hv16, d4_0, d4_1, d4_2, d4_3, d4_4, d4_5, d4_6, d4_7, d4_8, d4_9, d4_10, d4_11, d4_12, d4_13, d4_14, d4_15, d4_16, d4_17, hb17, hv18, d5_0, d5_1, d5_2, d5_3, d5_4, d5_5, d5_6, d5_7, d5_8, d5_9, d5_10, d5_11, d5_12, d5_13, d5_14, d5_15, d5_16, d5_17, hv19, hb20, hb21, gs, app_hsl, app_nil, reduceIte, reduceCtorEq, Nat.reduceAdd, Nat.reduceMul, Nat.reduceSub, Nat.reduceBEq, Nat.reduceEqDiff, Nat.reduceLeDiff, Nat.reduceLT, Nat.reduceGT, Int.reduceToNat, Int.reduceLT, Int.reduceLE, Int.reduceNeg, Int.reduceAdd, Int.reduceEq, Int.reduceNe]
                              · replace hb21 := eq_false_of_ne_true hb21
                                rw [if_f hb21] at hp
                                cases hp
                  · replace hb14 := eq_false_of_ne_true hb14
                    rw [if_f hb14] at hp
                    cases hp
                · replace hb12 := eq_false_of_ne_true hb12
                  rw [if_f hb12] at hp
                  cases hp
              · replace hb10 := eq_false_of_ne_true hb10
                rw [if_f hb10] at hp
                cases hp
            · replace hb9 := eq_false_of_ne_true hb9
              rw [if_f hb9] at hp
              cases hp

end Go.AM
