/- Plain functions of VecBytes and their walks. No condition. -/
import Derived.Test.YtjnkmdphjopboaaLabB35
set_option linter.unusedVariables false
set_option linter.unusedSimpArgs false
namespace Go.AM
open Pic (enc dec dec_enc dec_sub)
open PicA (encA decA decA_encA decA_sub)
noncomputable def p_laws_szIntS (x0 : List Int) (x1 : Int) : Option Int :=
  if (decide (w64 (x1 - (x0.length : Int)) < 0)) = true then
    some (-1)
  else
    some (w64 (x1 - (x0.length : Int)))
def c_laws_szIntS : AFn := ⟨12, (.seq (.ops [⟨(.some 4), (.mv (.const (.int .i64 0))), .none, []⟩]) (.seq (.ops [⟨(.some 5), (.mv (.tmp 1)), .none, []⟩, ⟨(.some 6), (.mv (.tmp 0)), .none, []⟩, ⟨(.some 7), (.len (.tmp 6)), .none, []⟩, ⟨(.some 8), (.pu (.n (.ar .sub)) [(.tmp 5), (.tmp 7)]), .none, []⟩, ⟨(.some 1), (.mv (.tmp 8)), .none, []⟩]) (.seq (.seq (.ops [⟨(.some 9), (.mv (.tmp 1)), .none, []⟩, ⟨(.some 10), (.pu (.n (.ar .lss)) [(.tmp 9), (.const (.int .i64 0))]), .none, []⟩]) (.cond (.tmp 10) (.seq (.ops [⟨(.some 4), (.mv (.const (.int .i64 (-1)))), .none, []⟩]) .ret) .skip)) (.seq (.ops [⟨(.some 11), (.mv (.tmp 1)), .none, []⟩, ⟨(.some 4), (.mv (.tmp 11)), .none, []⟩]) .ret)))), [(.tmp 4)]⟩
set_option maxHeartbeats 10000000 in
theorem d_laws_szIntS {P : Program} {env : Env}  (x0 : List Int) (x1 : Int) {b : Int} (hp : p_laws_szIntS x0 x1 = some b) : R P env (c_laws_szIntS) ((encA (x0, x1)).map ofI) [] (Tells true b) := by
  refine R_of (by simp [c_laws_szIntS, encA]) ?_
  unfold c_laws_szIntS
  unfold p_laws_szIntS at hp
  by_cases hb0 : (decide (w64 (x1 - (x0.length : Int)) < 0)) = true
  · rw [if_t hb0] at hp
    have hp := Option.some.inj hp
    subst hp
    simp (disch := first | omega | (simp only [List.length_set, List.length_append, List.length_cons, List.length_nil, rows_len, zs]; first | done | omega)) only [hb0, gs, reduceIte, reduceCtorEq, Nat.reduceAdd, Nat.reduceMul, Nat.reduceSub, Nat.reduceBEq, Nat.reduceEqDiff, Nat.reduceLeDiff, Nat.reduceLT, Nat.reduceGT, Int.reduceToNat, Int.reduceLT, Int.reduceLE, Int.reduceNeg, Int.reduceAdd, Int.reduceEq, Int.reduceNe]
  · replace hb0 := eq_false_of_ne_true hb0
    rw [if_f hb0] at hp
    have hp := Option.some.inj hp
    subst hp
    simp (disch := first | omega | (simp only [List.length_set, List.length_append, List.length_cons, List.length_nil, rows_len, zs]; first | done | omega)) only [hb0, gs, reduceIte, reduceCtorEq, Nat.reduceAdd, Nat.reduceMul, Nat.reduceSub, Nat.reduceBEq, Nat.reduceEqDiff, Nat.reduceLeDiff, Nat.reduceLT, Nat.reduceGT, Int.reduceToNat, Int.reduceLT, Int.reduceLE, Int.reduceNeg, Int.reduceAdd, Int.reduceEq, Int.reduceNe]

noncomputable def p_laws_szVector (x0 : TVec) (x1 : Int) : Option Int :=
  (p_laws_szIntS x0.counts x1).bind fun v0 =>
  if (decide (v0 < 0)) = true then
    some (-1)
  else
    some v0
def c_laws_szVector (f_laws_szIntS : Nat) : AFn := ⟨12, (.seq (.ops [⟨(.some 2), (.box (.tmp 0)), .none, []⟩, ⟨(.some 4), (.mv (.const (.int .i64 0))), .none, []⟩]) (.seq (.ops [⟨(.some 5), (.fieldA 0 (.tmp 2)), .none, []⟩, ⟨(.some 6), (.load 1 false (.tmp 5)), .none, []⟩, ⟨(.some 7), (.mv (.tmp 1)), .none, []⟩, ⟨(.some 8), (.call (2 * f_laws_szIntS) [(.tmp 6), (.tmp 7)]), .none, []⟩, ⟨(.some 1), (.mv (.tmp 8)), .none, []⟩]) (.seq (.seq (.ops [⟨(.some 9), (.mv (.tmp 1)), .none, []⟩, ⟨(.some 10), (.pu (.n (.ar .lss)) [(.tmp 9), (.const (.int .i64 0))]), .none, []⟩]) (.cond (.tmp 10) (.seq (.ops [⟨(.some 4), (.mv (.const (.int .i64 (-1)))), .none, []⟩]) .ret) .skip)) (.seq (.ops [⟨(.some 11), (.mv (.tmp 1)), .none, []⟩, ⟨(.some 4), (.mv (.tmp 11)), .none, []⟩]) .ret)))), [(.tmp 4)]⟩
set_option maxHeartbeats 10000000 in
theorem d_laws_szVector {P : Program} {env : Env} {f_laws_szIntS : Nat}  (ep_laws_szIntS : env (2 * f_laws_szIntS) = pureFn true (FA fun a : List Int × Int => p_laws_szIntS a.1 a.2)) (x0 : TVec) (x1 : Int) {b : Int} (hp : p_laws_szVector x0 x1 = some b) : R P env (c_laws_szVector f_laws_szIntS) ((encA (x0, x1)).map ofI) [] (Tells true b) := by
  refine R_of (by simp [c_laws_szVector, encA]) ?_
  unfold c_laws_szVector
  unfold p_laws_szVector at hp
  obtain ⟨v0, hv0, hp⟩ := bind_eq hp
  by_cases hb1 : (decide (v0 < 0)) = true
  · rw [if_t hb1] at hp
    have hp := Option.some.inj hp
    subst hp
    simp (disch := first | omega | (simp only [List.length_set, List.length_append, List.length_cons, List.length_nil, rows_len, zs]; first | done | omega)) only [ep_laws_szIntS, hv0, hb1, gs, reduceIte, reduceCtorEq, Nat.reduceAdd, Nat.reduceMul, Nat.reduceSub, Nat.reduceBEq, Nat.reduceEqDiff, Nat.reduceLeDiff, Nat.reduceLT, Nat.reduceGT, Int.reduceToNat, Int.reduceLT, Int.reduceLE, Int.reduceNeg, Int.reduceAdd, Int.reduceEq, Int.reduceNe]
  · replace hb1 := eq_false_of_ne_true hb1
    rw [if_f hb1] at hp
    have hp := Option.some.inj hp
    subst hp
    simp (disch := first | omega | (simp only [List.length_set, List.length_append, List.length_cons, List.length_nil, rows_len, zs]; first | done | omega)) only [ep_laws_szIntS, hv0, hb1, gs, reduceIte, reduceCtorEq, Nat.reduceAdd, Nat.reduceMul, Nat.reduceSub, Nat.reduceBEq, Nat.reduceEqDiff, Nat.reduceLeDiff, Nat.reduceLT, Nat.reduceGT, Int.reduceToNat, Int.reduceLT, Int.reduceLE, Int.reduceNeg, Int.reduceAdd, Int.reduceEq, Int.reduceNe]

noncomputable def p_laws_toIntS_l0 (x0 : List Int) : List Int × Int → Option (Lp (List Int × Int) (List Int))
  | (s1, s2) =>
    if (decide (s2 < (x0.length : Int))) = true then
      (get? x0 s2).bind fun v4 =>
      (get? s1 s2).bind fun v5 =>
      some (.go ((s1.set s2.toNat v4), w64 (s2 + 1)))
    else
      some (.out (s1, s2))
noncomputable def p_laws_toIntS (x0 : List Int) : Option (List Int) :=
  ((mkL (x0.length : Int) 8 (x0.length : Int) 0 : Option (List Int))).bind fun v0 =>
  (loopP (p_laws_toIntS_l0 x0) (v0, 0)).bind fun ee0 => match ee0 with
  | .ret r => some r
  | .out (o7, o8) =>
    some o7
def c_laws_toIntS : AFn := ⟨22, (.seq (.ops [⟨(.some 2), (.vnil 1 false), .none, []⟩]) (.seq (.ops [⟨(.some 5), (.mv (.tmp 0)), .none, []⟩, ⟨(.some 6), (.len (.tmp 5)), .none, []⟩, ⟨(.some 7), (.makeSl 1 false 8 [(.int .i64 0)] (.tmp 6) (.tmp 6)), .none, []⟩, ⟨(.some 3), (.mv (.tmp 7)), .none, []⟩]) (.seq (.seq (.ops [⟨(.some 4), (.mv (.const (.int .i64 0))), .none, []⟩]) (.block 0 (.loop (.seq (.seq (.ops [⟨(.some 8), (.mv (.tmp 4)), .none, []⟩, ⟨(.some 9), (.mv (.tmp 0)), .none, []⟩, ⟨(.some 10), (.len (.tmp 9)), .none, []⟩, ⟨(.some 11), (.pu (.n (.ar .lss)) [(.tmp 8), (.tmp 10)]), .none, []⟩]) (.cond (.tmp 11) .skip (.exit 0))) (.seq (.block 1 (.ops [⟨(.some 14), (.mv (.tmp 3)), .none, []⟩, ⟨(.some 15), (.mv (.tmp 4)), .none, []⟩, ⟨(.some 16), (.mv (.tmp 0)), .none, []⟩, ⟨(.some 17), (.mv (.tmp 4)), .none, []⟩, ⟨(.some 18), (.idxS 1 (.tmp 16) (.tmp 17)), .none, []⟩, ⟨(.some 19), (.load 1 false (.tmp 18)), .none, []⟩, ⟨(.some 20), (.idxS 1 (.tmp 14) (.tmp 15)), .none, []⟩, ⟨.none, (.storeV [(0, false)] 1 (.tmp 20) (.tmp 19)), .none, []⟩])) (.ops [⟨(.some 12), (.mv (.tmp 4)), .none, []⟩, ⟨(.some 13), (.pu (.n (.ar .add)) [(.tmp 12), (.const (.int .i64 1))]), .none, []⟩, ⟨(.some 4), (.mv (.tmp 13)), .none, []⟩])))))) (.seq (.ops [⟨(.some 21), (.mv (.tmp 3)), .none, []⟩, ⟨(.some 2), (.mv (.tmp 21)), .none, []⟩]) .ret)))), [(.tmp 2)]⟩
def o_laws_toIntS (b : List Int) (v : V) (h : Heap) : Prop := ∃ n0 : Nat, v = .hsl n0 b.length 0 1 false b.length ∧ getCells h n0 b.length = some (rows b)
def oo_laws_toIntS (b : List Int) (h : Heap) (v : V) (h2 : Heap) : Prop := Keep [] h h2 ∧ ∃ n0 : Nat, v = .hsl n0 b.length 0 1 false b.length ∧ n0 < h2.length ∧ h.length ≤ n0 ∧ getCells h2 n0 b.length = some (rows b)
def k_laws_toIntS (F : Fun) : Prop := ∀ (x0 : List Int) (b : List Int), p_laws_toIntS x0 = some b → ∀ (h : Heap) (args : List V), snapA 9 false h args = some (encA (x0)) → ∃ p, F none args h = some p ∧ oo_laws_toIntS b h p.1 p.2
set_option maxHeartbeats 10000000 in
theorem w_laws_toIntS {P : Program} {env : Env}  (x0 : List Int) {b : List Int} (hp : p_laws_toIntS x0 = some b) : R P env (c_laws_toIntS) ((encA (x0)).map ofI) [] (o_laws_toIntS b) := by
  refine R_of (by simp [c_laws_toIntS, encA]) ?_
  unfold c_laws_toIntS
  unfold p_laws_toIntS at hp
  obtain ⟨v0, hv0, hp⟩ := bind_eq hp
  obtain ⟨kv0, qv0, lv0⟩ := mkL_some hv0
  have rv0 : (List.replicate x0.length [.i (.s (.int .i64 0))]).flatten = rows v0 := by rw [qv0]; exact rows_rep (x := (0 : Int)) rfl
  have mv0 : x0.length = v0.length := by rw [lv0]; simp
  obtain ⟨ee0, hee0, hp⟩ := bind_eq hp
  simp (disch := first | omega | (simp only [List.length_set, List.length_append, List.length_cons, List.length_nil, rows_len, zs]; first | done | omega)) only [hv0, rv0, kv0.1, kv0.2.1, kv0.2.2.1, kv0.2.2.2, gs, reduceIte, reduceCtorEq, Nat.reduceAdd, Nat.reduceMul, Nat.reduceSub, Nat.reduceBEq, Nat.reduceEqDiff, Nat.reduceLeDiff, Nat.reduceLT, Nat.reduceGT, Int.reduceToNat, Int.reduceLT, Int.reduceLE, Int.reduceNeg, Int.reduceAdd, Int.reduceEq, Int.reduceNe]
  refine W_loopP 0 (fun s t h => match s with | (s1, s2) => t 0 = .i (.sl 1 (x0.map enc)) ∧ t 3 = .hsl 1 x0.length 0 1 false x0.length ∧ t 4 = .i (.s (.int .i64 s2)) ∧ getCells h 1 x0.length = some (rows (s1 : List Int)) ∧ 1 < h.length) (RK [.tmp 2] (o_laws_toIntS)) ?_ hee0 ?_ ?_
  · rintro ⟨s1, s2⟩ ee tt0 hh0 ⟨ftt0_0, ftt0_1, ftt0_2, ftt0_3, ftt0_4⟩ hp
    have ztt0_3 := len_rows ftt0_3
    simp only [zs] at ztt0_3
    rw [p_laws_toIntS_l0] at hp
    by_cases hb3 : (decide (s2 < (x0.length : Int))) = true
    · rw [if_t hb3] at hp
      obtain ⟨v4, hv4, hp⟩ := bind_eq hp
      obtain ⟨v5, hv5, hp⟩ := bind_eq hp
      have gv5 := get_some hv5
      have hs6 : List.take s2.toNat (rows s1) ++ .i (.s (.int .i64 v4)) :: List.drop (s2.toNat + 1) (rows s1) = rows (s1.set s2.toNat v4) := by simpa [splice, zs, cellsV, I.cells, enc_int] using rows_set_off (y := v4) (ys := [.i (.s (.int .i64 v4))]) (k := 0) gv5.2.2 (Nat.le_of_ble_eq_true rfl) (by rfl)
      have hp := Option.some.inj hp
      subst hp
      simp (disch := first | omega | (simp only [List.length_set, List.length_append, List.length_cons, List.length_nil, rows_len, zs]; first | done | omega)) only [hv0, rv0, kv0.1, kv0.2.1, kv0.2.2.1, kv0.2.2.2, ftt0_0, ftt0_1, ftt0_2, ftt0_3, ftt0_4, hb3, hv4, hv5, (gv5).1, (gv5).2.1, hs6, gs, reduceIte, reduceCtorEq, Nat.reduceAdd, Nat.reduceMul, Nat.reduceSub, Nat.reduceBEq, Nat.reduceEqDiff, Nat.reduceLeDiff, Nat.reduceLT, Nat.reduceGT, Int.reduceToNat, Int.reduceLT, Int.reduceLE, Int.reduceNeg, Int.reduceAdd, Int.reduceEq, Int.reduceNe] <;> omega
    · replace hb3 := eq_false_of_ne_true hb3
      rw [if_f hb3] at hp
      have hp := Option.some.inj hp
      subst hp
      simp (disch := first | omega | (simp only [List.length_set, List.length_append, List.length_cons, List.length_nil, rows_len, zs]; first | done | omega)) only [hv0, rv0, kv0.1, kv0.2.1, kv0.2.2.1, kv0.2.2.2, ftt0_0, ftt0_1, ftt0_2, ftt0_3, ftt0_4, hb3, gs, reduceIte, reduceCtorEq, Nat.reduceAdd, Nat.reduceMul, Nat.reduceSub, Nat.reduceBEq, Nat.reduceEqDiff, Nat.reduceLeDiff, Nat.reduceLT, Nat.reduceGT, Int.reduceToNat, Int.reduceLT, Int.reduceLE, Int.reduceNeg, Int.reduceAdd, Int.reduceEq, Int.reduceNe] <;> omega
  · simp (disch := first | omega | (simp only [List.length_set, List.length_append, List.length_cons, List.length_nil, rows_len, zs]; first | done | omega)) only [hv0, rv0, kv0.1, kv0.2.1, kv0.2.2.1, kv0.2.2.2, gs, reduceIte, reduceCtorEq, Nat.reduceAdd, Nat.reduceMul, Nat.reduceSub, Nat.reduceBEq, Nat.reduceEqDiff, Nat.reduceLeDiff, Nat.reduceLT, Nat.reduceGT, Int.reduceToNat, Int.reduceLT, Int.reduceLE, Int.reduceNeg, Int.reduceAdd, Int.reduceEq, Int.reduceNe] <;> omega
  · intro x tt1 hh1 hx
    rcases ee0 with ⟨o7, o8⟩ | r
    · obtain ⟨rfl, ftt1_0, ftt1_1, ftt1_2, ftt1_3, ftt1_4⟩ := hx
      have ztt1_3 := len_rows ftt1_3
      simp only [zs] at ztt1_3
      dsimp only at hp
      have hp := Option.some.inj hp
      subst hp
      simp (disch := first | omega | (simp only [List.length_set, List.length_append, List.length_cons, List.length_nil, rows_len, zs]; first | done | omega)) only [hv0, rv0, kv0.1, kv0.2.1, kv0.2.2.1, kv0.2.2.2, ftt1_0, ftt1_1, ftt1_2, ftt1_3, ftt1_4, gs, reduceIte, reduceCtorEq, Nat.reduceAdd, Nat.reduceMul, Nat.reduceSub, Nat.reduceBEq, Nat.reduceEqDiff, Nat.reduceLeDiff, Nat.reduceLT, Nat.reduceGT, Int.reduceToNat, Int.reduceLT, Int.reduceLE, Int.reduceNeg, Int.reduceAdd, Int.reduceEq, Int.reduceNe]
      refine ⟨1, ?_⟩
      simp (disch := first | omega | (simp only [List.length_set, List.length_append, List.length_cons, List.length_nil, rows_len, zs]; first | done | omega)) only [hv0, rv0, kv0.1, kv0.2.1, kv0.2.2.1, kv0.2.2.2, ftt1_0, ftt1_1, ftt1_2, ftt1_3, ftt1_4, o_laws_toIntS, (show (o7).length = x0.length from by first | omega | rfl), gs, reduceIte, reduceCtorEq, Nat.reduceAdd, Nat.reduceMul, Nat.reduceSub, Nat.reduceBEq, Nat.reduceEqDiff, Nat.reduceLeDiff, Nat.reduceLT, Nat.reduceGT, Int.reduceToNat, Int.reduceLT, Int.reduceLE, Int.reduceNeg, Int.reduceAdd, Int.reduceEq, Int.reduceNe] <;> omega
    · obtain ⟨rfl, hx⟩ := hx
      dsimp only at hp
      cases hp
      simp only [seqK_ret, blockK_ret, retK_RK (K := o_laws_toIntS), hx, and_self, true_and]
theorem ko_laws_toIntS {P : Program} {env : Env}  : k_laws_toIntS (ownFn P env (c_laws_toIntS)) := by
  intro x0 b hp h args has
  obtain ⟨⟨v, H2⟩, hr, n0, rfl, wn0⟩ := w_laws_toIntS x0 hp
  exact ⟨_, own_call has hr rfl, keep_moved, n0 + h.length, rfl, (moved_lt wn0).2, (moved_lt wn0).1, moved_rows wn0⟩

noncomputable def p_laws_toVector (x0 : TVec) : Option TVec :=
  (p_laws_toIntS x0.counts).bind fun v0 =>
  some (TVec.mk v0)
def c_laws_toVector (f_laws_toIntS : Nat) : AFn := ⟨9, (.seq (.ops [⟨(.some 1), (.box (.tmp 0)), .none, []⟩, ⟨(.some 2), (.allocV [(1, false)] [(.slice .none 0 0)]), .none, []⟩]) (.seq (.ops [⟨(.some 3), (.allocV [(1, false)] [(.slice .none 0 0)]), .none, []⟩]) (.seq (.ops [⟨(.some 4), (.fieldA 0 (.tmp 1)), .none, []⟩, ⟨(.some 5), (.load 1 false (.tmp 4)), .none, []⟩, ⟨(.some 6), (.call (2 * f_laws_toIntS + 1) [(.tmp 5)]), .none, []⟩, ⟨(.some 7), (.fieldA 0 (.tmp 3)), .none, []⟩, ⟨.none, (.storeV [(1, false)] 1 (.tmp 7) (.tmp 6)), .none, []⟩]) (.seq (.ops [⟨(.some 8), (.load 1 true (.tmp 3)), .none, []⟩, ⟨.none, (.storeV [(1, false)] 1 (.tmp 2) (.tmp 8)), .none, []⟩]) .ret)))), [(.cell 2 1 true)]⟩
set_option maxHeartbeats 10000000 in
theorem d_laws_toVector {P : Program} {env : Env} {f_laws_toIntS : Nat}  (e_laws_toIntS : k_laws_toIntS (env (2 * f_laws_toIntS + 1))) (x0 : TVec) {b : TVec} (hp : p_laws_toVector x0 = some b) : R P env (c_laws_toVector f_laws_toIntS) ((encA (x0)).map ofI) [] (Tells true b) := by
  refine R_of (by simp [c_laws_toVector, encA]) ?_
  unfold c_laws_toVector
  unfold p_laws_toVector at hp
  obtain ⟨v0, hv0, hp⟩ := bind_eq hp
  simp (disch := first | omega | (simp only [List.length_set, List.length_append, List.length_cons, List.length_nil, rows_len, zs]; first | done | omega)) only [gs, reduceIte, reduceCtorEq, Nat.reduceAdd, Nat.reduceMul, Nat.reduceSub, Nat.reduceBEq, Nat.reduceEqDiff, Nat.reduceLeDiff, Nat.reduceLT, Nat.reduceGT, Int.reduceToNat, Int.reduceLT, Int.reduceLE, Int.reduceNeg, Int.reduceAdd, Int.reduceEq, Int.reduceNe]
  refine call_f (fun h => getCells h 0 1 = some [.i (.sl 1 (x0.counts.map enc))] ∧ 0 < h.length ∧ getCells h 1 0 = some [] ∧ 1 < h.length ∧ getCells h 2 1 = some [.hsl 1 0 0 1 false 0] ∧ 2 < h.length ∧ getCells h 3 0 = some [] ∧ 3 < h.length ∧ getCells h 4 1 = some [.hsl 3 0 0 1 false 0] ∧ 4 < h.length) (fun h v h2 => oo_laws_toIntS v0 h v h2) ?_ ?_ ?_
  · simp (disch := first | omega | (simp only [List.length_set, List.length_append, List.length_cons, List.length_nil, rows_len, zs]; first | done | omega)) only [hv0, gs, reduceIte, reduceCtorEq, Nat.reduceAdd, Nat.reduceMul, Nat.reduceSub, Nat.reduceBEq, Nat.reduceEqDiff, Nat.reduceLeDiff, Nat.reduceLT, Nat.reduceGT, Int.reduceToNat, Int.reduceLT, Int.reduceLE, Int.reduceNeg, Int.reduceAdd, Int.reduceEq, Int.reduceNe] <;> omega
  · rintro h ⟨c0_0, c0_1, c0_2, c0_3, c0_4, c0_5, c0_6, c0_7, c0_8, c0_9⟩
    exact e_laws_toIntS _ _ hv0 h _ (by simp (disch := first | omega | (simp only [List.length_set, List.length_append, List.length_cons, List.length_nil, rows_len, zs]; first | done | omega)) only [hv0, c0_0, c0_1, c0_2, c0_3, c0_4, c0_5, c0_6, c0_7, c0_8, c0_9, gs, reduceIte, reduceCtorEq, Nat.reduceAdd, Nat.reduceMul, Nat.reduceSub, Nat.reduceBEq, Nat.reduceEqDiff, Nat.reduceLeDiff, Nat.reduceLT, Nat.reduceGT, Int.reduceToNat, Int.reduceLT, Int.reduceLE, Int.reduceNeg, Int.reduceAdd, Int.reduceEq, Int.reduceNe])
  · rintro h v hh0 ⟨c0_0, c0_1, c0_2, c0_3, c0_4, c0_5, c0_6, c0_7, c0_8, c0_9⟩ hpost
    obtain ⟨kk0, nb0_0, rfl, lnb0_0, gnb0_0, wnb0_0⟩ := hpost
    have d0_0 : getCells hh0 0 1 = some [.i (.sl 1 (x0.counts.map enc))] := (keep_get kk0 c0_1 (by first | (simp; done) | (simp; omega))).trans c0_0
    have d0_0l := keep_lt kk0 c0_1
    have d0_1 : getCells hh0 1 0 = some [] := (keep_get kk0 c0_3 (by first | (simp; done) | (simp; omega))).trans c0_2
    have d0_1l := keep_lt kk0 c0_3
    have d0_2 : getCells hh0 2 1 = some [.hsl 1 0 0 1 false 0] := (keep_get kk0 c0_5 (by first | (simp; done) | (simp; omega))).trans c0_4
    have d0_2l := keep_lt kk0 c0_5
    have d0_3 : getCells hh0 3 0 = some [] := (keep_get kk0 c0_7 (by first | (simp; done) | (simp; omega))).trans c0_6
    have d0_3l := keep_lt kk0 c0_7
    have d0_4 : getCells hh0 4 1 = some [.hsl 3 0 0 1 false 0] := (keep_get kk0 c0_9 (by first | (simp; done) | (simp; omega))).trans c0_8
    have d0_4l := keep_lt kk0 c0_9
    have d0_5 := wnb0_0
    have hp := Option.some.inj hp
    subst hp
    simp (disch := first | omega | (simp only [List.length_set, List.length_append, List.length_cons, List.length_nil, rows_len, zs]; first | done | omega)) only [hv0, d0_0, d0_1, d0_2, d0_3, d0_4, d0_5, gs, reduceIte, reduceCtorEq, Nat.reduceAdd, Nat.reduceMul, Nat.reduceSub, Nat.reduceBEq, Nat.reduceEqDiff, Nat.reduceLeDiff, Nat.reduceLT, Nat.reduceGT, Int.reduceToNat, Int.reduceLT, Int.reduceLE, Int.reduceNeg, Int.reduceAdd, Int.reduceEq, Int.reduceNe]

def o_laws_toVector (b : TVec) (v : V) (h : Heap) : Prop := ∃ n0 : Nat, v = .agg [.hsl n0 b.counts.length 0 1 false b.counts.length] ∧ getCells h n0 b.counts.length = some (rows b.counts)
def oo_laws_toVector (b : TVec) (h : Heap) (v : V) (h2 : Heap) : Prop := Keep [] h h2 ∧ ∃ n0 : Nat, v = .agg [.hsl n0 b.counts.length 0 1 false b.counts.length] ∧ n0 < h2.length ∧ h.length ≤ n0 ∧ getCells h2 n0 b.counts.length = some (rows b.counts)
def k_laws_toVector (F : Fun) : Prop := ∀ (x0 : TVec) (b : TVec), p_laws_toVector x0 = some b → ∀ (h : Heap) (args : List V), snapA 9 false h args = some (encA (x0)) → ∃ p, F none args h = some p ∧ oo_laws_toVector b h p.1 p.2
set_option maxHeartbeats 10000000 in
theorem w_laws_toVector {P : Program} {env : Env} {f_laws_toIntS : Nat}  (e_laws_toIntS : k_laws_toIntS (env (2 * f_laws_toIntS + 1))) (x0 : TVec) {b : TVec} (hp : p_laws_toVector x0 = some b) : R P env (c_laws_toVector f_laws_toIntS) ((encA (x0)).map ofI) [] (o_laws_toVector b) := by
  refine R_of (by simp [c_laws_toVector, encA]) ?_
  unfold c_laws_toVector
  unfold p_laws_toVector at hp
  obtain ⟨v0, hv0, hp⟩ := bind_eq hp
  simp (disch := first | omega | (simp only [List.length_set, List.length_append, List.length_cons, List.length_nil, rows_len, zs]; first | done | omega)) only [gs, reduceIte, reduceCtorEq, Nat.reduceAdd, Nat.reduceMul, Nat.reduceSub, Nat.reduceBEq, Nat.reduceEqDiff, Nat.reduceLeDiff, Nat.reduceLT, Nat.reduceGT, Int.reduceToNat, Int.reduceLT, Int.reduceLE, Int.reduceNeg, Int.reduceAdd, Int.reduceEq, Int.reduceNe]
  refine call_f (fun h => getCells h 0 1 = some [.i (.sl 1 (x0.counts.map enc))] ∧ 0 < h.length ∧ getCells h 1 0 = some [] ∧ 1 < h.length ∧ getCells h 2 1 = some [.hsl 1 0 0 1 false 0] ∧ 2 < h.length ∧ getCells h 3 0 = some [] ∧ 3 < h.length ∧ getCells h 4 1 = some [.hsl 3 0 0 1 false 0] ∧ 4 < h.length) (fun h v h2 => oo_laws_toIntS v0 h v h2) ?_ ?_ ?_
  · simp (disch := first | omega | (simp only [List.length_set, List.length_append, List.length_cons, List.length_nil, rows_len, zs]; first | done | omega)) only [hv0, gs, reduceIte, reduceCtorEq, Nat.reduceAdd, Nat.reduceMul, Nat.reduceSub, Nat.reduceBEq, Nat.reduceEqDiff, Nat.reduceLeDiff, Nat.reduceLT, Nat.reduceGT, Int.reduceToNat, Int.reduceLT, Int.reduceLE, Int.reduceNeg, Int.reduceAdd, Int.reduceEq, Int.reduceNe] <;> omega
  · rintro h ⟨c0_0, c0_1, c0_2, c0_3, c0_4, c0_5, c0_6, c0_7, c0_8, c0_9⟩
    exact e_laws_toIntS _ _ hv0 h _ (by simp (disch := first | omega | (simp only [List.length_set, List.length_append, List.length_cons, List.length_nil, rows_len, zs]; first | done | omega)) only [hv0, c0_0, c0_1, c0_2, c0_3, c0_4, c0_5, c0_6, c0_7, c0_8, c0_9, gs, reduceIte, reduceCtorEq, Nat.reduceAdd, Nat.reduceMul, Nat.reduceSub, Nat.reduceBEq, Nat.reduceEqDiff, Nat.reduceLeDiff, Nat.reduceLT, Nat.reduceGT, Int.reduceToNat, Int.reduceLT, Int.reduceLE, Int.reduceNeg, Int.reduceAdd, Int.reduceEq, Int.reduceNe])
  · rintro h v hh0 ⟨c0_0, c0_1, c0_2, c0_3, c0_4, c0_5, c0_6, c0_7, c0_8, c0_9⟩ hpost
    obtain ⟨kk0, nb0_0, rfl, lnb0_0, gnb0_0, wnb0_0⟩ := hpost
    have d0_0 : getCells hh0 0 1 = some [.i (.sl 1 (x0.counts.map enc))] := (keep_get kk0 c0_1 (by first | (simp; done) | (simp; omega))).trans c0_0
    have d0_0l := keep_lt kk0 c0_1
    have d0_1 : getCells hh0 1 0 = some [] := (keep_get kk0 c0_3 (by first | (simp; done) | (simp; omega))).trans c0_2
    have d0_1l := keep_lt kk0 c0_3
    have d0_2 : getCells hh0 2 1 = some [.hsl 1 0 0 1 false 0] := (keep_get kk0 c0_5 (by first | (simp; done) | (simp; omega))).trans c0_4
    have d0_2l := keep_lt kk0 c0_5
    have d0_3 : getCells hh0 3 0 = some [] := (keep_get kk0 c0_7 (by first | (simp; done) | (simp; omega))).trans c0_6
    have d0_3l := keep_lt kk0 c0_7
    have d0_4 : getCells hh0 4 1 = some [.hsl 3 0 0 1 false 0] := (keep_get kk0 c0_9 (by first | (simp; done) | (simp; omega))).trans c0_8
    have d0_4l := keep_lt kk0 c0_9
    have d0_5 := wnb0_0
    have hp := Option.some.inj hp
    subst hp
    simp (disch := first | omega | (simp only [List.length_set, List.length_append, List.length_cons, List.length_nil, rows_len, zs]; first | done | omega)) only [hv0, d0_0, d0_1, d0_2, d0_3, d0_4, d0_5, gs, reduceIte, reduceCtorEq, Nat.reduceAdd, Nat.reduceMul, Nat.reduceSub, Nat.reduceBEq, Nat.reduceEqDiff, Nat.reduceLeDiff, Nat.reduceLT, Nat.reduceGT, Int.reduceToNat, Int.reduceLT, Int.reduceLE, Int.reduceNeg, Int.reduceAdd, Int.reduceEq, Int.reduceNe]
    refine ⟨nb0_0, ?_⟩
    simp (disch := first | omega | (simp only [List.length_set, List.length_append, List.length_cons, List.length_nil, rows_len, zs]; first | done | omega)) only [hv0, d0_0, d0_1, d0_2, d0_3, d0_4, d0_5, o_laws_toVector, gs, reduceIte, reduceCtorEq, Nat.reduceAdd, Nat.reduceMul, Nat.reduceSub, Nat.reduceBEq, Nat.reduceEqDiff, Nat.reduceLeDiff, Nat.reduceLT, Nat.reduceGT, Int.reduceToNat, Int.reduceLT, Int.reduceLE, Int.reduceNeg, Int.reduceAdd, Int.reduceEq, Int.reduceNe] <;> omega
theorem ko_laws_toVector {P : Program} {env : Env} {f_laws_toIntS : Nat}  (e_laws_toIntS : k_laws_toIntS (env (2 * f_laws_toIntS + 1))) : k_laws_toVector (ownFn P env (c_laws_toVector f_laws_toIntS)) := by
  intro x0 b hp h args has
  obtain ⟨⟨v, H2⟩, hr, n0, rfl, wn0⟩ := w_laws_toVector e_laws_toIntS x0 hp
  exact ⟨_, own_call has hr rfl, keep_moved, n0 + h.length, rfl, (moved_lt wn0).2, (moved_lt wn0).1, moved_rows wn0⟩

noncomputable def p_spec_VecOK_l0 (x0 : TVec) : Int → Option (Lp (Int) Bool)
  | s1 =>
    if (decide (s1 < 16)) = true then
      (get? x0.counts s1).bind fun v3 =>
      if (decide (v3 < 0)) = true then
        some (.ret false)
      else
        if (decide (1000000000000 < v3)) = true then
          some (.ret false)
        else
          some (.go (w64 (s1 + 1)))
    else
      some (.out s1)
noncomputable def p_spec_VecOK (x0 : TVec) : Option Bool :=
  if (decide ((x0.counts.length : Int) = 16)) = true then
    (loopP (p_spec_VecOK_l0 x0) 0).bind fun ee0 => match ee0 with
    | .ret r => some r
    | .out o6 =>
      some true
  else
    some false
def c_spec_VecOK : AFn := ⟨26, (.seq (.ops [⟨(.some 1), (.box (.tmp 0)), .none, []⟩, ⟨(.some 2), (.mv (.const (.bool false))), .none, []⟩]) (.seq (.seq (.ops [⟨(.some 4), (.fieldA 0 (.tmp 1)), .none, []⟩, ⟨(.some 5), (.load 1 false (.tmp 4)), .none, []⟩, ⟨(.some 6), (.len (.tmp 5)), .none, []⟩, ⟨(.some 7), (.pu (.n (.ar .neq)) [(.tmp 6), (.const (.int .i64 16))]), .none, []⟩]) (.cond (.tmp 7) (.seq (.ops [⟨(.some 2), (.mv (.const (.bool false))), .none, []⟩]) .ret) .skip)) (.seq (.seq (.ops [⟨(.some 3), (.mv (.const (.int .i64 0))), .none, []⟩]) (.block 0 (.loop (.seq (.seq (.ops [⟨(.some 8), (.mv (.tmp 3)), .none, []⟩, ⟨(.some 9), (.pu (.n (.ar .lss)) [(.tmp 8), (.const (.int .i64 16))]), .none, []⟩]) (.cond (.tmp 9) .skip (.exit 0))) (.seq (.block 1 (.seq (.ops [⟨(.some 12), (.fieldA 0 (.tmp 1)), .none, []⟩, ⟨(.some 13), (.load 1 false (.tmp 12)), .none, []⟩, ⟨(.some 14), (.mv (.tmp 3)), .none, []⟩, ⟨(.some 15), (.idxS 1 (.tmp 13) (.tmp 14)), .none, []⟩, ⟨(.some 16), (.load 1 false (.tmp 15)), .none, []⟩, ⟨(.some 17), (.pu (.n (.ar .lss)) [(.tmp 16), (.const (.int .i64 0))]), .none, []⟩, ⟨(.some 18), (.mv (.tmp 17)), .none, []⟩, ⟨(.some 19), (.fieldA 0 (.tmp 1)), (.some (18, false)), []⟩, ⟨(.some 20), (.load 1 false (.tmp 19)), (.some (18, false)), []⟩, ⟨(.some 21), (.mv (.tmp 3)), (.some (18, false)), []⟩, ⟨(.some 22), (.idxS 1 (.tmp 20) (.tmp 21)), (.some (18, false)), []⟩, ⟨(.some 23), (.load 1 false (.tmp 22)), (.some (18, false)), []⟩, ⟨(.some 24), (.pu (.n (.ar .gtr)) [(.tmp 23), (.const (.int .i64 1000000000000))]), (.some (18, false)), []⟩, ⟨(.some 25), (.pick (.tmp 18) (.const (.bool true)) (.tmp 24)), .none, []⟩]) (.cond (.tmp 25) (.seq (.ops [⟨(.some 2), (.mv (.const (.bool false))), .none, []⟩]) .ret) .skip))) (.ops [⟨(.some 10), (.mv (.tmp 3)), .none, []⟩, ⟨(.some 11), (.pu (.n (.ar .add)) [(.tmp 10), (.const (.int .i64 1))]), .none, []⟩, ⟨(.some 3), (.mv (.tmp 11)), .none, []⟩])))))) (.seq (.ops [⟨(.some 2), (.mv (.const (.bool true))), .none, []⟩]) .ret)))), [(.tmp 2)]⟩
set_option maxHeartbeats 10000000 in
theorem d_spec_VecOK {P : Program} {env : Env}  (x0 : TVec) {b : Bool} (hp : p_spec_VecOK x0 = some b) : R P env (c_spec_VecOK) ((encA (x0)).map ofI) [] (Tells true b) := by
  refine R_of (by simp [c_spec_VecOK, encA]) ?_
  unfold c_spec_VecOK
  unfold p_spec_VecOK at hp
  by_cases hb0 : (decide ((x0.counts.length : Int) = 16)) = true
  · rw [if_t hb0] at hp
    obtain ⟨ee0, hee0, hp⟩ := bind_eq hp
    simp (disch := first | omega | (simp only [List.length_set, List.length_append, List.length_cons, List.length_nil, rows_len, zs]; first | done | omega)) only [hb0, gs, reduceIte, reduceCtorEq, Nat.reduceAdd, Nat.reduceMul, Nat.reduceSub, Nat.reduceBEq, Nat.reduceEqDiff, Nat.reduceLeDiff, Nat.reduceLT, Nat.reduceGT, Int.reduceToNat, Int.reduceLT, Int.reduceLE, Int.reduceNeg, Int.reduceAdd, Int.reduceEq, Int.reduceNe]
    refine W_loopP 0 (fun s t h => match s with | s1 => t 1 = .ptr 0 1 0 ∧ t 3 = .i (.s (.int .i64 s1)) ∧ getCells h 0 1 = some [.i (.sl 1 (x0.counts.map enc))] ∧ 0 < h.length) (RK [.tmp 2] (Tells true)) ?_ hee0 ?_ ?_
    · rintro s1 ee tt0 hh0 ⟨ftt0_0, ftt0_1, ftt0_2, ftt0_3⟩ hp
      rw [p_spec_VecOK_l0] at hp
      by_cases hb2 : (decide (s1 < 16)) = true
      · rw [if_t hb2] at hp
        obtain ⟨v3, hv3, hp⟩ := bind_eq hp
        by_cases hb4 : (decide (v3 < 0)) = true
        · rw [if_t hb4] at hp
          have hp := Option.some.inj hp
          subst hp
          simp (disch := first | omega | (simp only [List.length_set, List.length_append, List.length_cons, List.length_nil, rows_len, zs]; first | done | omega)) only [hb0, ftt0_0, ftt0_1, ftt0_2, ftt0_3, hb2, hv3, hb4, gs, reduceIte, reduceCtorEq, Nat.reduceAdd, Nat.reduceMul, Nat.reduceSub, Nat.reduceBEq, Nat.reduceEqDiff, Nat.reduceLeDiff, Nat.reduceLT, Nat.reduceGT, Int.reduceToNat, Int.reduceLT, Int.reduceLE, Int.reduceNeg, Int.reduceAdd, Int.reduceEq, Int.reduceNe]
        · replace hb4 := eq_false_of_ne_true hb4
          rw [if_f hb4] at hp
          by_cases hb5 : (decide (1000000000000 < v3)) = true
          · rw [if_t hb5] at hp
            have hp := Option.some.inj hp
            subst hp
            simp (disch := first | omega | (simp only [List.length_set, List.length_append, List.length_cons, List.length_nil, rows_len, zs]; first | done | omega)) only [hb0, ftt0_0, ftt0_1, ftt0_2, ftt0_3, hb2, hv3, hb4, hb5, gs, reduceIte, reduceCtorEq, Nat.reduceAdd, Nat.reduceMul, Nat.reduceSub, Nat.reduceBEq, Nat.reduceEqDiff, Nat.reduceLeDiff, Nat.reduceLT, Nat.reduceGT, Int.reduceToNat, Int.reduceLT, Int.reduceLE, Int.reduceNeg, Int.reduceAdd, Int.reduceEq, Int.reduceNe]
          · replace hb5 := eq_false_of_ne_true hb5
            rw [if_f hb5] at hp
            have hp := Option.some.inj hp
            subst hp
            simp (disch := first | omega | (simp only [List.length_set, List.length_append, List.length_cons, List.length_nil, rows_len, zs]; first | done | omega)) only [hb0, ftt0_0, ftt0_1, ftt0_2, ftt0_3, hb2, hv3, hb4, hb5, gs, reduceIte, reduceCtorEq, Nat.reduceAdd, Nat.reduceMul, Nat.reduceSub, Nat.reduceBEq, Nat.reduceEqDiff, Nat.reduceLeDiff, Nat.reduceLT, Nat.reduceGT, Int.reduceToNat, Int.reduceLT, Int.reduceLE, Int.reduceNeg, Int.reduceAdd, Int.reduceEq, Int.reduceNe] <;> omega
      · replace hb2 := eq_false_of_ne_true hb2
        rw [if_f hb2] at hp
        have hp := Option.some.inj hp
        subst hp
        simp (disch := first | omega | (simp only [List.length_set, List.length_append, List.length_cons, List.length_nil, rows_len, zs]; first | done | omega)) only [hb0, ftt0_0, ftt0_1, ftt0_2, ftt0_3, hb2, gs, reduceIte, reduceCtorEq, Nat.reduceAdd, Nat.reduceMul, Nat.reduceSub, Nat.reduceBEq, Nat.reduceEqDiff, Nat.reduceLeDiff, Nat.reduceLT, Nat.reduceGT, Int.reduceToNat, Int.reduceLT, Int.reduceLE, Int.reduceNeg, Int.reduceAdd, Int.reduceEq, Int.reduceNe] <;> omega
    · simp (disch := first | omega | (simp only [List.length_set, List.length_append, List.length_cons, List.length_nil, rows_len, zs]; first | done | omega)) only [hb0, gs, reduceIte, reduceCtorEq, Nat.reduceAdd, Nat.reduceMul, Nat.reduceSub, Nat.reduceBEq, Nat.reduceEqDiff, Nat.reduceLeDiff, Nat.reduceLT, Nat.reduceGT, Int.reduceToNat, Int.reduceLT, Int.reduceLE, Int.reduceNeg, Int.reduceAdd, Int.reduceEq, Int.reduceNe] <;> omega
    · intro x tt1 hh1 hx
      rcases ee0 with o6 | r
      · obtain ⟨rfl, ftt1_0, ftt1_1, ftt1_2, ftt1_3⟩ := hx
        dsimp only at hp
        have hp := Option.some.inj hp
        subst hp
        simp (disch := first | omega | (simp only [List.length_set, List.length_append, List.length_cons, List.length_nil, rows_len, zs]; first | done | omega)) only [hb0, ftt1_0, ftt1_1, ftt1_2, ftt1_3, gs, reduceIte, reduceCtorEq, Nat.reduceAdd, Nat.reduceMul, Nat.reduceSub, Nat.reduceBEq, Nat.reduceEqDiff, Nat.reduceLeDiff, Nat.reduceLT, Nat.reduceGT, Int.reduceToNat, Int.reduceLT, Int.reduceLE, Int.reduceNeg, Int.reduceAdd, Int.reduceEq, Int.reduceNe]
      · obtain ⟨rfl, hx⟩ := hx
        dsimp only at hp
        cases hp
        simp only [seqK_ret, blockK_ret, retK_RK (K := Tells true), hx, and_self, true_and]
  · replace hb0 := eq_false_of_ne_true hb0
    rw [if_f hb0] at hp
    have hp := Option.some.inj hp
    subst hp
    simp (disch := first | omega | (simp only [List.length_set, List.length_append, List.length_cons, List.length_nil, rows_len, zs]; first | done | omega)) only [hb0, gs, reduceIte, reduceCtorEq, Nat.reduceAdd, Nat.reduceMul, Nat.reduceSub, Nat.reduceBEq, Nat.reduceEqDiff, Nat.reduceLeDiff, Nat.reduceLT, Nat.reduceGT, Int.reduceToNat, Int.reduceLT, Int.reduceLE, Int.reduceNeg, Int.reduceAdd, Int.reduceEq, Int.reduceNe]

noncomputable def pB_spec_l01Put (rr : Int → Option (List U8)) (x0 : Int) : Option (List U8) :=
  if (decide (x0 < 128)) = true then
    some ([(U8.mk (IntKind.wrap .u8 x0))])
  else
    (rr (w64 (Int.tdiv x0 128))).bind fun v1 =>
    (app? 1 ([(U8.mk (IntKind.wrap .u8 (w64 (128 + (Int.tmod x0 128)))))]) v1).bind fun v2 =>
    some v2
noncomputable def pN_spec_l01Put : Nat → Int → Option (List U8)
  | 0 => fun _ => none
  | n + 1 => pB_spec_l01Put (pN_spec_l01Put n)
noncomputable def p_spec_l01Put (x0 : Int) : Option (List U8) := fixP fun n => pN_spec_l01Put n x0
def c_spec_l01Put (f_spec_l01Put : Nat) : AFn := ⟨17, (.seq (.ops [⟨(.some 2), (.vnil 1 false), .none, []⟩]) (.seq (.seq (.ops [⟨(.some 3), (.mv (.tmp 0)), .none, []⟩, ⟨(.some 4), (.pu (.n (.ar .lss)) [(.tmp 3), (.const (.int .i64 128))]), .none, []⟩]) (.cond (.tmp 4) (.seq (.ops [⟨(.some 5), (.mv (.tmp 0)), .none, []⟩, ⟨(.some 6), (.pu (.n (.conv .u8)) [(.tmp 5)]), .none, []⟩, ⟨(.some 7), (.buildSl 1 false 1 [(.int .u8 0)] [(0, (.tmp 6))]), .none, []⟩, ⟨(.some 2), (.mv (.tmp 7)), .none, []⟩]) .ret) .skip)) (.seq (.ops [⟨(.some 8), (.mv (.tmp 0)), .none, []⟩, ⟨(.some 9), (.pu (.n (.ar .rem)) [(.tmp 8), (.const (.int .i64 128))]), .none, []⟩, ⟨(.some 10), (.pu (.n (.ar .add)) [(.const (.int .i64 128)), (.tmp 9)]), .none, []⟩, ⟨(.some 11), (.pu (.n (.conv .u8)) [(.tmp 10)]), .none, []⟩, ⟨(.some 12), (.buildSl 1 false 1 [(.int .u8 0)] [(0, (.tmp 11))]), .none, []⟩, ⟨(.some 13), (.mv (.tmp 0)), .none, []⟩, ⟨(.some 14), (.pu (.n (.ar .quo)) [(.tmp 13), (.const (.int .i64 128))]), .none, []⟩, ⟨(.some 15), (.call (2 * f_spec_l01Put + 1) [(.tmp 14)]), .none, []⟩, ⟨(.some 16), (.append 1 false 1 (.tmp 12) (.tmp 15)), .none, []⟩, ⟨(.some 2), (.mv (.tmp 16)), .none, []⟩]) .ret))), [(.tmp 2)]⟩
def o_spec_l01Put (b : List U8) (v : V) (h : Heap) : Prop := ∃ n0 : Nat, v = .hsl n0 b.length 0 1 false b.length ∧ getCells h n0 b.length = some (rows b)
def oo_spec_l01Put (b : List U8) (h : Heap) (v : V) (h2 : Heap) : Prop := Keep [] h h2 ∧ ∃ n0 : Nat, v = .hsl n0 b.length 0 1 false b.length ∧ n0 < h2.length ∧ h.length ≤ n0 ∧ getCells h2 n0 b.length = some (rows b)
def kR_spec_l01Put (rr : Int → Option (List U8)) (F : Fun) : Prop := ∀ (x0 : Int) (b : List U8), rr x0 = some b → ∀ (h : Heap) (args : List V), snapA 9 false h args = some (encA (x0)) → ∃ p, F none args h = some p ∧ oo_spec_l01Put b h p.1 p.2
def k_spec_l01Put (F : Fun) : Prop := kR_spec_l01Put p_spec_l01Put F
set_option maxHeartbeats 10000000 in
theorem w_spec_l01Put {P : Program} {env : Env} {f_spec_l01Put : Nat}  {rr : Int → Option (List U8)} (e_spec_l01Put : kR_spec_l01Put rr (env (2 * f_spec_l01Put + 1))) (x0 : Int) {b : List U8} (hp : pB_spec_l01Put rr x0 = some b) : R P env (c_spec_l01Put f_spec_l01Put) ((encA (x0)).map ofI) [] (o_spec_l01Put b) := by
  refine R_of (by simp [c_spec_l01Put, encA]) ?_
  unfold c_spec_l01Put
  unfold pB_spec_l01Put at hp
  by_cases hb0 : (decide (x0 < 128)) = true
  · rw [if_t hb0] at hp
    have hp := Option.some.inj hp
    subst hp
    simp (disch := first | omega | (simp only [List.length_set, List.length_append, List.length_cons, List.length_nil, rows_len, zs]; first | done | omega)) only [hb0, gs, reduceIte, reduceCtorEq, Nat.reduceAdd, Nat.reduceMul, Nat.reduceSub, Nat.reduceBEq, Nat.reduceEqDiff, Nat.reduceLeDiff, Nat.reduceLT, Nat.reduceGT, Int.reduceToNat, Int.reduceLT, Int.reduceLE, Int.reduceNeg, Int.reduceAdd, Int.reduceEq, Int.reduceNe]
    refine ⟨1, ?_⟩
    simp (disch := first | omega | (simp only [List.length_set, List.length_append, List.length_cons, List.length_nil, rows_len, zs]; first | done | omega)) only [hb0, o_spec_l01Put, (show ([(U8.mk (IntKind.wrap .u8 x0))]).length = 1 from by first | omega | rfl), gs, reduceIte, reduceCtorEq, Nat.reduceAdd, Nat.reduceMul, Nat.reduceSub, Nat.reduceBEq, Nat.reduceEqDiff, Nat.reduceLeDiff, Nat.reduceLT, Nat.reduceGT, Int.reduceToNat, Int.reduceLT, Int.reduceLE, Int.reduceNeg, Int.reduceAdd, Int.reduceEq, Int.reduceNe] <;> omega
  · replace hb0 := eq_false_of_ne_true hb0
    rw [if_f hb0] at hp
    obtain ⟨v1, hv1, hp⟩ := bind_eq hp
    simp (disch := first | omega | (simp only [List.length_set, List.length_append, List.length_cons, List.length_nil, rows_len, zs]; first | done | omega)) only [hb0, gs, reduceIte, reduceCtorEq, Nat.reduceAdd, Nat.reduceMul, Nat.reduceSub, Nat.reduceBEq, Nat.reduceEqDiff, Nat.reduceLeDiff, Nat.reduceLT, Nat.reduceGT, Int.reduceToNat, Int.reduceLT, Int.reduceLE, Int.reduceNeg, Int.reduceAdd, Int.reduceEq, Int.reduceNe]
    refine call_f (fun h => getCells h 0 0 = some [] ∧ 0 < h.length ∧ getCells h 1 1 = some (rows ([(U8.mk (IntKind.wrap .u8 (w64 (128 + (Int.tmod x0 128)))))] : List U8)) ∧ 1 < h.length) (fun h v h2 => oo_spec_l01Put v1 h v h2) ?_ ?_ ?_
    · simp (disch := first | omega | (simp only [List.length_set, List.length_append, List.length_cons, List.length_nil, rows_len, zs]; first | done | omega)) only [hb0, hv1, gs, reduceIte, reduceCtorEq, Nat.reduceAdd, Nat.reduceMul, Nat.reduceSub, Nat.reduceBEq, Nat.reduceEqDiff, Nat.reduceLeDiff, Nat.reduceLT, Nat.reduceGT, Int.reduceToNat, Int.reduceLT, Int.reduceLE, Int.reduceNeg, Int.reduceAdd, Int.reduceEq, Int.reduceNe] <;> omega
    · rintro h ⟨c0_0, c0_1, c0_2, c0_3⟩
      exact e_spec_l01Put _ _ hv1 h _ (by simp (disch := first | omega | (simp only [List.length_set, List.length_append, List.length_cons, List.length_nil, rows_len, zs]; first | done | omega)) only [hb0, hv1, c0_0, c0_1, c0_2, c0_3, gs, reduceIte, reduceCtorEq, Nat.reduceAdd, Nat.reduceMul, Nat.reduceSub, Nat.reduceBEq, Nat.reduceEqDiff, Nat.reduceLeDiff, Nat.reduceLT, Nat.reduceGT, Int.reduceToNat, Int.reduceLT, Int.reduceLE, Int.reduceNeg, Int.reduceAdd, Int.reduceEq, Int.reduceNe])
    · rintro h v hh0 ⟨c0_0, c0_1, c0_2, c0_3⟩ hpost
      obtain ⟨kk0, nb0_0, rfl, lnb0_0, gnb0_0, wnb0_0⟩ := hpost
      have d0_0 : getCells hh0 0 0 = some [] := (keep_get kk0 c0_1 (by first | (simp; done) | (simp; omega))).trans c0_0
      have d0_0l := keep_lt kk0 c0_1
      have d0_1 : getCells hh0 1 1 = some (rows ([(U8.mk (IntKind.wrap .u8 (w64 (128 + (Int.tmod x0 128)))))] : List U8)) := (keep_get kk0 c0_3 (by first | (simp; done) | (simp; omega))).trans c0_2
      have d0_1l := keep_lt kk0 c0_3
      have d0_2 := wnb0_0
      obtain ⟨v2, hv2, hp⟩ := bind_eq hp
      simp (disch := first | omega | (simp only [List.length_set, List.length_append, List.length_cons, List.length_nil, rows_len, zs]; first | done | omega)) only [hb0, hv1, d0_0, d0_1, d0_2, gs, reduceIte, reduceCtorEq, Nat.reduceAdd, Nat.reduceMul, Nat.reduceSub, Nat.reduceBEq, Nat.reduceEqDiff, Nat.reduceLeDiff, Nat.reduceLT, Nat.reduceGT, Int.reduceToNat, Int.reduceLT, Int.reduceLE, Int.reduceNeg, Int.reduceAdd, Int.reduceEq, Int.reduceNe]
      refine app_f (b := 1) (xs := ([(U8.mk (IntKind.wrap .u8 (w64 (128 + (Int.tmod x0 128)))))])) (ys := v1) (fun h => getCells h 0 0 = some [] ∧ 0 < h.length ∧ getCells h 1 1 = some (rows ([(U8.mk (IntKind.wrap .u8 (w64 (128 + (Int.tmod x0 128)))))] : List U8)) ∧ 1 < h.length ∧ getCells h nb0_0 v1.length = some (rows (v1 : List U8)) ∧ nb0_0 < h.length) ?_ ?_ hv2 rfl (by first | rfl | omega | (simp; omega)) (by first | rfl | omega | (simp; omega)) (by first | rfl | omega | (simp; omega)) ?_
      · simp (disch := first | omega | (simp only [List.length_set, List.length_append, List.length_cons, List.length_nil, rows_len, zs]; first | done | omega)) only [hb0, hv1, d0_0, d0_1, d0_2, hv2, gs, reduceIte, reduceCtorEq, Nat.reduceAdd, Nat.reduceMul, Nat.reduceSub, Nat.reduceBEq, Nat.reduceEqDiff, Nat.reduceLeDiff, Nat.reduceLT, Nat.reduceGT, Int.reduceToNat, Int.reduceLT, Int.reduceLE, Int.reduceNeg, Int.reduceAdd, Int.reduceEq, Int.reduceNe] <;> omega
      · rintro h ⟨c1_0, c1_1, c1_2, c1_3, c1_4, c1_5⟩
        exact gc_eq c1_2 (by omega)
      · rintro h hh1 ⟨c1_0, c1_1, c1_2, c1_3, c1_4, c1_5⟩ kk1 w1
        have d1_0 : getCells hh1 0 0 = some [] := (keep_get kk1 c1_1 (by first | (simp; done) | (simp; omega))).trans c1_0
        have d1_0l := keep_lt kk1 c1_1
        have d1_1 : getCells hh1 1 v2.length = some (rows (v2 : List U8)) := by simpa only [Nat.mul_one] using w1
        have d1_1l := keep_lt kk1 c1_3
        have d1_2 : getCells hh1 nb0_0 v1.length = some (rows (v1 : List U8)) := (keep_get kk1 c1_5 (by first | (simp; done) | (simp; omega))).trans c1_4
        have d1_2l := keep_lt kk1 c1_5
        have hp := Option.some.inj hp
        subst hp
        simp (disch := first | omega | (simp only [List.length_set, List.length_append, List.length_cons, List.length_nil, rows_len, zs]; first | done | omega)) only [hb0, hv1, d0_0, d0_1, d0_2, hv2, d1_0, d1_1, d1_2, gs, reduceIte, reduceCtorEq, Nat.reduceAdd, Nat.reduceMul, Nat.reduceSub, Nat.reduceBEq, Nat.reduceEqDiff, Nat.reduceLeDiff, Nat.reduceLT, Nat.reduceGT, Int.reduceToNat, Int.reduceLT, Int.reduceLE, Int.reduceNeg, Int.reduceAdd, Int.reduceEq, Int.reduceNe]
        refine ⟨1, ?_⟩
        simp (disch := first | omega | (simp only [List.length_set, List.length_append, List.length_cons, List.length_nil, rows_len, zs]; first | done | omega)) only [hb0, hv1, d0_0, d0_1, d0_2, hv2, d1_0, d1_1, d1_2, o_spec_l01Put, gs, reduceIte, reduceCtorEq, Nat.reduceAdd, Nat.reduceMul, Nat.reduceSub, Nat.reduceBEq, Nat.reduceEqDiff, Nat.reduceLeDiff, Nat.reduceLT, Nat.reduceGT, Int.reduceToNat, Int.reduceLT, Int.reduceLE, Int.reduceNeg, Int.reduceAdd, Int.reduceEq, Int.reduceNe] <;> omega
theorem ko_spec_l01Put {P : Program} {env : Env} {f_spec_l01Put : Nat}  {rr : Int → Option (List U8)} (e_spec_l01Put : kR_spec_l01Put rr (env (2 * f_spec_l01Put + 1))) : kR_spec_l01Put (pB_spec_l01Put rr) (ownFn P env (c_spec_l01Put f_spec_l01Put)) := by
  intro x0 b hp h args has
  obtain ⟨⟨v, H2⟩, hr, n0, rfl, wn0⟩ := w_spec_l01Put e_spec_l01Put x0 hp
  exact ⟨_, own_call has hr rfl, keep_moved, n0 + h.length, rfl, (moved_lt wn0).2, (moved_lt wn0).1, moved_rows wn0⟩

noncomputable def p_spec_l02Bytes_l0 (x0 : TVec) : Int → Option (Lp (Int) (List U8))
  | s0 =>
    if (decide (0 < s0)) = true then
      (get? x0.counts (w64 (s0 - 1))).bind fun v2 =>
      if (decide (v2 = 0)) = true then
        some (.go (w64 (s0 - 1)))
      else
        some (.out s0)
    else
      some (.out s0)
noncomputable def p_spec_l02Bytes_l1 (x0 : TVec) (o4 : Int) : List U8 × Int → Option (Lp (List U8 × Int) (List U8))
  | (s5, s6) =>
    if (decide (s6 < o4)) = true then
      (get? x0.counts s6).bind fun v8 =>
      (p_spec_l01Put v8).bind fun v9 =>
      (app? 1 s5 v9).bind fun v10 =>
      some (.go (v10, w64 (s6 + 1)))
    else
      some (.out (s5, s6))
noncomputable def p_spec_l02Bytes (x0 : TVec) : Option (List U8) :=
  (loopP (p_spec_l02Bytes_l0 x0) 16).bind fun ee0 => match ee0 with
  | .ret r => some r
  | .out o4 =>
    (loopP (p_spec_l02Bytes_l1 x0 o4) (([] : List U8), 0)).bind fun ee1 => match ee1 with
    | .ret r => some r
    | .out (o11, o12) =>
      some o11
def c_spec_l02Bytes (f_spec_l01Put : Nat) : AFn := ⟨34, (.seq (.ops [⟨(.some 1), (.box (.tmp 0)), .none, []⟩, ⟨(.some 2), (.vnil 1 false), .none, []⟩]) (.seq (.ops [⟨(.some 3), (.mv (.const (.int .i64 16))), .none, []⟩]) (.seq (.block 0 (.loop (.seq (.seq (.ops [⟨(.some 6), (.mv (.tmp 3)), .none, []⟩, ⟨(.some 7), (.pu (.n (.ar .gtr)) [(.tmp 6), (.const (.int .i64 0))]), .none, []⟩, ⟨(.some 8), (.mv (.tmp 7)), .none, []⟩, ⟨(.some 9), (.fieldA 0 (.tmp 1)), (.some (8, true)), []⟩, ⟨(.some 10), (.load 1 false (.tmp 9)), (.some (8, true)), []⟩, ⟨(.some 11), (.mv (.tmp 3)), (.some (8, true)), []⟩, ⟨(.some 12), (.pu (.n (.ar .sub)) [(.tmp 11), (.const (.int .i64 1))]), (.some (8, true)), []⟩, ⟨(.some 13), (.idxS 1 (.tmp 10) (.tmp 12)), (.some (8, true)), []⟩, ⟨(.some 14), (.load 1 false (.tmp 13)), (.some (8, true)), []⟩, ⟨(.some 15), (.pu (.n (.ar .eql)) [(.tmp 14), (.const (.int .i64 0))]), (.some (8, true)), []⟩, ⟨(.some 16), (.pick (.tmp 8) (.tmp 15) (.const (.bool false))), .none, []⟩]) (.cond (.tmp 16) .skip (.exit 0))) (.block 1 (.ops [⟨(.some 17), (.mv (.tmp 3)), .none, []⟩, ⟨(.some 18), (.pu (.n (.ar .sub)) [(.tmp 17), (.const (.int .i64 1))]), .none, []⟩, ⟨(.some 3), (.mv (.tmp 18)), .none, []⟩]))))) (.seq (.ops [⟨(.some 19), (.buildSl 1 false 0 [(.int .u8 0)] []), .none, []⟩, ⟨(.some 4), (.mv (.tmp 19)), .none, []⟩]) (.seq (.seq (.ops [⟨(.some 5), (.mv (.const (.int .i64 0))), .none, []⟩]) (.block 2 (.loop (.seq (.seq (.ops [⟨(.some 20), (.mv (.tmp 5)), .none, []⟩, ⟨(.some 21), (.mv (.tmp 3)), .none, []⟩, ⟨(.some 22), (.pu (.n (.ar .lss)) [(.tmp 20), (.tmp 21)]), .none, []⟩]) (.cond (.tmp 22) .skip (.exit 2))) (.seq (.block 3 (.ops [⟨(.some 25), (.mv (.tmp 4)), .none, []⟩, ⟨(.some 26), (.fieldA 0 (.tmp 1)), .none, []⟩, ⟨(.some 27), (.load 1 false (.tmp 26)), .none, []⟩, ⟨(.some 28), (.mv (.tmp 5)), .none, []⟩, ⟨(.some 29), (.idxS 1 (.tmp 27) (.tmp 28)), .none, []⟩, ⟨(.some 30), (.load 1 false (.tmp 29)), .none, []⟩, ⟨(.some 31), (.call (2 * f_spec_l01Put + 1) [(.tmp 30)]), .none, []⟩, ⟨(.some 32), (.append 1 false 1 (.tmp 25) (.tmp 31)), .none, []⟩, ⟨(.some 4), (.mv (.tmp 32)), .none, []⟩])) (.ops [⟨(.some 23), (.mv (.tmp 5)), .none, []⟩, ⟨(.some 24), (.pu (.n (.ar .add)) [(.tmp 23), (.const (.int .i64 1))]), .none, []⟩, ⟨(.some 5), (.mv (.tmp 24)), .none, []⟩])))))) (.seq (.ops [⟨(.some 33), (.mv (.tmp 4)), .none, []⟩, ⟨(.some 2), (.mv (.tmp 33)), .none, []⟩]) .ret)))))), [(.tmp 2)]⟩
def o_spec_l02Bytes (b : List U8) (v : V) (h : Heap) : Prop := ∃ n0 : Nat, v = .hsl n0 b.length 0 1 false b.length ∧ getCells h n0 b.length = some (rows b)
def oo_spec_l02Bytes (b : List U8) (h : Heap) (v : V) (h2 : Heap) : Prop := Keep [] h h2 ∧ ∃ n0 : Nat, v = .hsl n0 b.length 0 1 false b.length ∧ n0 < h2.length ∧ h.length ≤ n0 ∧ getCells h2 n0 b.length = some (rows b)
def k_spec_l02Bytes (F : Fun) : Prop := ∀ (x0 : TVec) (b : List U8), p_spec_l02Bytes x0 = some b → ∀ (h : Heap) (args : List V), snapA 9 false h args = some (encA (x0)) → ∃ p, F none args h = some p ∧ oo_spec_l02Bytes b h p.1 p.2
set_option maxHeartbeats 10000000 in
theorem w_spec_l02Bytes {P : Program} {env : Env} {f_spec_l01Put : Nat}  (e_spec_l01Put : k_spec_l01Put (env (2 * f_spec_l01Put + 1))) (x0 : TVec) {b : List U8} (hp : p_spec_l02Bytes x0 = some b) : R P env (c_spec_l02Bytes f_spec_l01Put) ((encA (x0)).map ofI) [] (o_spec_l02Bytes b) := by
  refine R_of (by simp [c_spec_l02Bytes, encA]) ?_
  unfold c_spec_l02Bytes
  unfold p_spec_l02Bytes at hp
  obtain ⟨ee0, hee0, hp⟩ := bind_eq hp
  simp (disch := first | omega | (simp only [List.length_set, List.length_append, List.length_cons, List.length_nil, rows_len, zs]; first | done | omega)) only [gs, reduceIte, reduceCtorEq, Nat.reduceAdd, Nat.reduceMul, Nat.reduceSub, Nat.reduceBEq, Nat.reduceEqDiff, Nat.reduceLeDiff, Nat.reduceLT, Nat.reduceGT, Int.reduceToNat, Int.reduceLT, Int.reduceLE, Int.reduceNeg, Int.reduceAdd, Int.reduceEq, Int.reduceNe]
  refine W_loopP 0 (fun s t h => match s with | s0 => t 1 = .ptr 0 1 0 ∧ t 3 = .i (.s (.int .i64 s0)) ∧ getCells h 0 1 = some [.i (.sl 1 (x0.counts.map enc))] ∧ 0 < h.length) (RK [.tmp 2] (o_spec_l02Bytes)) ?_ hee0 ?_ ?_
  · rintro s0 ee tt0 hh0 ⟨ftt0_0, ftt0_1, ftt0_2, ftt0_3⟩ hp
    rw [p_spec_l02Bytes_l0] at hp
    by_cases hb1 : (decide (0 < s0)) = true
    · rw [if_t hb1] at hp
      obtain ⟨v2, hv2, hp⟩ := bind_eq hp
      by_cases hb3 : (decide (v2 = 0)) = true
      · rw [if_t hb3] at hp
        have hp := Option.some.inj hp
        subst hp
        simp (disch := first | omega | (simp only [List.length_set, List.length_append, List.length_cons, List.length_nil, rows_len, zs]; first | done | omega)) only [ftt0_0, ftt0_1, ftt0_2, ftt0_3, hb1, hv2, hb3, gs, reduceIte, reduceCtorEq, Nat.reduceAdd, Nat.reduceMul, Nat.reduceSub, Nat.reduceBEq, Nat.reduceEqDiff, Nat.reduceLeDiff, Nat.reduceLT, Nat.reduceGT, Int.reduceToNat, Int.reduceLT, Int.reduceLE, Int.reduceNeg, Int.reduceAdd, Int.reduceEq, Int.reduceNe] <;> omega
      · replace hb3 := eq_false_of_ne_true hb3
        rw [if_f hb3] at hp
        have hp := Option.some.inj hp
        subst hp
        simp (disch := first | omega | (simp only [List.length_set, List.length_append, List.length_cons, List.length_nil, rows_len, zs]; first | done | omega)) only [ftt0_0, ftt0_1, ftt0_2, ftt0_3, hb1, hv2, hb3, gs, reduceIte, reduceCtorEq, Nat.reduceAdd, Nat.reduceMul, Nat.reduceSub, Nat.reduceBEq, Nat.reduceEqDiff, Nat.reduceLeDiff, Nat.reduceLT, Nat.reduceGT, Int.reduceToNat, Int.reduceLT, Int.reduceLE, Int.reduceNeg, Int.reduceAdd, Int.reduceEq, Int.reduceNe] <;> omega
    · replace hb1 := eq_false_of_ne_true hb1
      rw [if_f hb1] at hp
      have hp := Option.some.inj hp
      subst hp
      simp (disch := first | omega | (simp only [List.length_set, List.length_append, List.length_cons, List.length_nil, rows_len, zs]; first | done | omega)) only [ftt0_0, ftt0_1, ftt0_2, ftt0_3, hb1, gs, reduceIte, reduceCtorEq, Nat.reduceAdd, Nat.reduceMul, Nat.reduceSub, Nat.reduceBEq, Nat.reduceEqDiff, Nat.reduceLeDiff, Nat.reduceLT, Nat.reduceGT, Int.reduceToNat, Int.reduceLT, Int.reduceLE, Int.reduceNeg, Int.reduceAdd, Int.reduceEq, Int.reduceNe] <;> omega
  · simp (disch := first | omega | (simp only [List.length_set, List.length_append, List.length_cons, List.length_nil, rows_len, zs]; first | done | omega)) only [gs, reduceIte, reduceCtorEq, Nat.reduceAdd, Nat.reduceMul, Nat.reduceSub, Nat.reduceBEq, Nat.reduceEqDiff, Nat.reduceLeDiff, Nat.reduceLT, Nat.reduceGT, Int.reduceToNat, Int.reduceLT, Int.reduceLE, Int.reduceNeg, Int.reduceAdd, Int.reduceEq, Int.reduceNe] <;> omega
  · intro x tt1 hh1 hx
    rcases ee0 with o4 | r
    · obtain ⟨rfl, ftt1_0, ftt1_1, ftt1_2, ftt1_3⟩ := hx
      dsimp only at hp
      obtain ⟨ee1, hee1, hp⟩ := bind_eq hp
      simp (disch := first | omega | (simp only [List.length_set, List.length_append, List.length_cons, List.length_nil, rows_len, zs]; first | done | omega)) only [ftt1_0, ftt1_1, ftt1_2, ftt1_3, gs, reduceIte, reduceCtorEq, Nat.reduceAdd, Nat.reduceMul, Nat.reduceSub, Nat.reduceBEq, Nat.reduceEqDiff, Nat.reduceLeDiff, Nat.reduceLT, Nat.reduceGT, Int.reduceToNat, Int.reduceLT, Int.reduceLE, Int.reduceNeg, Int.reduceAdd, Int.reduceEq, Int.reduceNe]
      refine W_loopP 2 (fun s t h => match s with | (s5, s6) => t 1 = .ptr 0 1 0 ∧ t 3 = .i (.s (.int .i64 o4)) ∧ t 4 = .hsl hh1.length s5.length 0 1 false s5.length ∧ t 5 = .i (.s (.int .i64 s6)) ∧ getCells h 0 1 = some [.i (.sl 1 (x0.counts.map enc))] ∧ 0 < h.length ∧ getCells h hh1.length s5.length = some (rows (s5 : List U8)) ∧ hh1.length < h.length) (RK [.tmp 2] (o_spec_l02Bytes)) ?_ hee1 ?_ ?_
      · rintro ⟨s5, s6⟩ ee tt2 hh2 ⟨ftt2_0, ftt2_1, ftt2_2, ftt2_3, ftt2_4, ftt2_5, ftt2_6, ftt2_7⟩ hp
        rw [p_spec_l02Bytes_l1] at hp
        by_cases hb7 : (decide (s6 < o4)) = true
        · rw [if_t hb7] at hp
          obtain ⟨v8, hv8, hp⟩ := bind_eq hp
          obtain ⟨v9, hv9, hp⟩ := bind_eq hp
          simp (disch := first | omega | (simp only [List.length_set, List.length_append, List.length_cons, List.length_nil, rows_len, zs]; first | done | omega)) only [ftt1_0, ftt1_1, ftt1_2, ftt1_3, ftt2_0, ftt2_1, ftt2_2, ftt2_3, ftt2_4, ftt2_5, ftt2_6, ftt2_7, hb7, hv8, gs, reduceIte, reduceCtorEq, Nat.reduceAdd, Nat.reduceMul, Nat.reduceSub, Nat.reduceBEq, Nat.reduceEqDiff, Nat.reduceLeDiff, Nat.reduceLT, Nat.reduceGT, Int.reduceToNat, Int.reduceLT, Int.reduceLE, Int.reduceNeg, Int.reduceAdd, Int.reduceEq, Int.reduceNe]
          refine call_f (fun h => getCells h 0 1 = some [.i (.sl 1 (x0.counts.map enc))] ∧ 0 < h.length ∧ getCells h hh1.length s5.length = some (rows (s5 : List U8)) ∧ hh1.length < h.length) (fun h v h2 => oo_spec_l01Put v9 h v h2) ?_ ?_ ?_
          · simp (disch := first | omega | (simp only [List.length_set, List.length_append, List.length_cons, List.length_nil, rows_len, zs]; first | done | omega)) only [ftt1_0, ftt1_1, ftt1_2, ftt1_3, ftt2_0, ftt2_1, ftt2_2, ftt2_3, ftt2_4, ftt2_5, ftt2_6, ftt2_7, hb7, hv8, hv9, gs, reduceIte, reduceCtorEq, Nat.reduceAdd, Nat.reduceMul, Nat.reduceSub, Nat.reduceBEq, Nat.reduceEqDiff, Nat.reduceLeDiff, Nat.reduceLT, Nat.reduceGT, Int.reduceToNat, Int.reduceLT, Int.reduceLE, Int.reduceNeg, Int.reduceAdd, Int.reduceEq, Int.reduceNe] <;> omega
          · rintro h ⟨c3_0, c3_1, c3_2, c3_3⟩
            exact e_spec_l01Put _ _ hv9 h _ (by simp (disch := first | omega | (simp only [List.length_set, List.length_append, List.length_cons, List.length_nil, rows_len, zs]; first | done | omega)) only [ftt1_0, ftt1_1, ftt1_2, ftt1_3, ftt2_0, ftt2_1, ftt2_2, ftt2_3, ftt2_4, ftt2_5, ftt2_6, ftt2_7, hb7, hv8, hv9, c3_0, c3_1, c3_2, c3_3, gs, reduceIte, reduceCtorEq, Nat.reduceAdd, Nat.reduceMul, Nat.reduceSub, Nat.reduceBEq, Nat.reduceEqDiff, Nat.reduceLeDiff, Nat.reduceLT, Nat.reduceGT, Int.reduceToNat, Int.reduceLT, Int.reduceLE, Int.reduceNeg, Int.reduceAdd, Int.reduceEq, Int.reduceNe])
          · rintro h v hh3 ⟨c3_0, c3_1, c3_2, c3_3⟩ hpost
            obtain ⟨kk3, nb3_0, rfl, lnb3_0, gnb3_0, wnb3_0⟩ := hpost
            have d3_0 : getCells hh3 0 1 = some [.i (.sl 1 (x0.counts.map enc))] := (keep_get kk3 c3_1 (by first | (simp; done) | (simp; omega))).trans c3_0
            have d3_0l := keep_lt kk3 c3_1
            have d3_1 : getCells hh3 hh1.length s5.length = some (rows (s5 : List U8)) := (keep_get kk3 c3_3 (by first | (simp; done) | (simp; omega))).trans c3_2
            have d3_1l := keep_lt kk3 c3_3
            have d3_2 := wnb3_0
            obtain ⟨v10, hv10, hp⟩ := bind_eq hp
            simp (disch := first | omega | (simp only [List.length_set, List.length_append, List.length_cons, List.length_nil, rows_len, zs]; first | done | omega)) only [ftt1_0, ftt1_1, ftt1_2, ftt1_3, ftt2_0, ftt2_1, ftt2_2, ftt2_3, ftt2_4, ftt2_5, ftt2_6, ftt2_7, hb7, hv8, hv9, d3_0, d3_1, d3_2, gs, reduceIte, reduceCtorEq, Nat.reduceAdd, Nat.reduceMul, Nat.reduceSub, Nat.reduceBEq, Nat.reduceEqDiff, Nat.reduceLeDiff, Nat.reduceLT, Nat.reduceGT, Int.reduceToNat, Int.reduceLT, Int.reduceLE, Int.reduceNeg, Int.reduceAdd, Int.reduceEq, Int.reduceNe]
            refine app_f (b := hh1.length) (xs := s5) (ys := v9) (fun h => getCells h 0 1 = some [.i (.sl 1 (x0.counts.map enc))] ∧ 0 < h.length ∧ getCells h hh1.length s5.length = some (rows (s5 : List U8)) ∧ hh1.length < h.length ∧ getCells h nb3_0 v9.length = some (rows (v9 : List U8)) ∧ nb3_0 < h.length) ?_ ?_ hv10 rfl (by first | rfl | omega | (simp; omega)) (by first | rfl | omega | (simp; omega)) (by first | rfl | omega | (simp; omega)) ?_
            · simp (disch := first | omega | (simp only [List.length_set, List.length_append, List.length_cons, List.length_nil, rows_len, zs]; first | done | omega)) only [ftt1_0, ftt1_1, ftt1_2, ftt1_3, ftt2_0, ftt2_1, ftt2_2, ftt2_3, ftt2_4, ftt2_5, ftt2_6, ftt2_7, hb7, hv8, hv9, d3_0, d3_1, d3_2, hv10, gs, reduceIte, reduceCtorEq, Nat.reduceAdd, Nat.reduceMul, Nat.reduceSub, Nat.reduceBEq, Nat.reduceEqDiff, Nat.reduceLeDiff, Nat.reduceLT, Nat.reduceGT, Int.reduceToNat, Int.reduceLT, Int.reduceLE, Int.reduceNeg, Int.reduceAdd, Int.reduceEq, Int.reduceNe] <;> omega
            · rintro h ⟨c4_0, c4_1, c4_2, c4_3, c4_4, c4_5⟩
              exact gc_eq c4_2 (by omega)
            · rintro h hh4 ⟨c4_0, c4_1, c4_2, c4_3, c4_4, c4_5⟩ kk4 w4
              have d4_0 : getCells hh4 0 1 = some [.i (.sl 1 (x0.counts.map enc))] := (keep_get kk4 c4_1 (by first | (simp; done) | (simp; omega))).trans c4_0
              have d4_0l := keep_lt kk4 c4_1
              have d4_1 : getCells hh4 hh1.length v10.length = some (rows (v10 : List U8)) := by simpa only [Nat.mul_one] using w4
              have d4_1l := keep_lt kk4 c4_3
              have d4_2 : getCells hh4 nb3_0 v9.length = some (rows (v9 : List U8)) := (keep_get kk4 c4_5 (by first | (simp; done) | (simp; omega))).trans c4_4
              have d4_2l := keep_lt kk4 c4_5
              have hp := Option.some.inj hp
              subst hp
              simp (disch := first | omega | (simp only [List.length_set, List.length_append, List.length_cons, List.length_nil, rows_len, zs]; first | done | omega)) only [ftt1_0, ftt1_1, ftt1_2, ftt1_3, ftt2_0, ftt2_1, ftt2_2, ftt2_3, ftt2_4, ftt2_5, ftt2_6, ftt2_7, hb7, hv8, hv9, d3_0, d3_1, d3_2, hv10, d4_0, d4_1, d4_2, gs, reduceIte, reduceCtorEq, Nat.reduceAdd, Nat.reduceMul, Nat.reduceSub, Nat.reduceBEq, Nat.reduceEqDiff, Nat.reduceLeDiff, Nat.reduceLT, Nat.reduceGT, Int.reduceToNat, Int.reduceLT, Int.reduceLE, Int.reduceNeg, Int.reduceAdd, Int.reduceEq, Int.reduceNe] <;> omega
        · replace hb7 := eq_false_of_ne_true hb7
          rw [if_f hb7] at hp
          have hp := Option.some.inj hp
          subst hp
          simp (disch := first | omega | (simp only [List.length_set, List.length_append, List.length_cons, List.length_nil, rows_len, zs]; first | done | omega)) only [ftt1_0, ftt1_1, ftt1_2, ftt1_3, ftt2_0, ftt2_1, ftt2_2, ftt2_3, ftt2_4, ftt2_5, ftt2_6, ftt2_7, hb7, gs, reduceIte, reduceCtorEq, Nat.reduceAdd, Nat.reduceMul, Nat.reduceSub, Nat.reduceBEq, Nat.reduceEqDiff, Nat.reduceLeDiff, Nat.reduceLT, Nat.reduceGT, Int.reduceToNat, Int.reduceLT, Int.reduceLE, Int.reduceNeg, Int.reduceAdd, Int.reduceEq, Int.reduceNe] <;> omega
      · simp (disch := first | omega | (simp only [List.length_set, List.length_append, List.length_cons, List.length_nil, rows_len, zs]; first | done | omega)) only [ftt1_0, ftt1_1, ftt1_2, ftt1_3, gs, reduceIte, reduceCtorEq, Nat.reduceAdd, Nat.reduceMul, Nat.reduceSub, Nat.reduceBEq, Nat.reduceEqDiff, Nat.reduceLeDiff, Nat.reduceLT, Nat.reduceGT, Int.reduceToNat, Int.reduceLT, Int.reduceLE, Int.reduceNeg, Int.reduceAdd, Int.reduceEq, Int.reduceNe] <;> omega
      · intro x tt5 hh5 hx
        rcases ee1 with ⟨o11, o12⟩ | r
        · obtain ⟨rfl, ftt5_0, ftt5_1, ftt5_2, ftt5_3, ftt5_4, ftt5_5, ftt5_6, ftt5_7⟩ := hx
          dsimp only at hp
          have hp := Option.some.inj hp
          subst hp
          simp (disch := first | omega | (simp only [List.length_set, List.length_append, List.length_cons, List.length_nil, rows_len, zs]; first | done | omega)) only [ftt1_0, ftt1_1, ftt1_2, ftt1_3, ftt5_0, ftt5_1, ftt5_2, ftt5_3, ftt5_4, ftt5_5, ftt5_6, ftt5_7, gs, reduceIte, reduceCtorEq, Nat.reduceAdd, Nat.reduceMul, Nat.reduceSub, Nat.reduceBEq, Nat.reduceEqDiff, Nat.reduceLeDiff, Nat.reduceLT, Nat.reduceGT, Int.reduceToNat, Int.reduceLT, Int.reduceLE, Int.reduceNeg, Int.reduceAdd, Int.reduceEq, Int.reduceNe]
          refine ⟨hh1.length, ?_⟩
          simp (disch := first | omega | (simp only [List.length_set, List.length_append, List.length_cons, List.length_nil, rows_len, zs]; first | done | omega)) only [ftt1_0, ftt1_1, ftt1_2, ftt1_3, ftt5_0, ftt5_1, ftt5_2, ftt5_3, ftt5_4, ftt5_5, ftt5_6, ftt5_7, o_spec_l02Bytes, gs, reduceIte, reduceCtorEq, Nat.reduceAdd, Nat.reduceMul, Nat.reduceSub, Nat.reduceBEq, Nat.reduceEqDiff, Nat.reduceLeDiff, Nat.reduceLT, Nat.reduceGT, Int.reduceToNat, Int.reduceLT, Int.reduceLE, Int.reduceNeg, Int.reduceAdd, Int.reduceEq, Int.reduceNe] <;> omega
        · obtain ⟨rfl, hx⟩ := hx
          dsimp only at hp
          cases hp
          simp only [seqK_ret, blockK_ret, retK_RK (K := o_spec_l02Bytes), hx, and_self, true_and]
    · obtain ⟨rfl, hx⟩ := hx
      dsimp only at hp
      cases hp
      simp only [seqK_ret, blockK_ret, retK_RK (K := o_spec_l02Bytes), hx, and_self, true_and]
theorem ko_spec_l02Bytes {P : Program} {env : Env} {f_spec_l01Put : Nat}  (e_spec_l01Put : k_spec_l01Put (env (2 * f_spec_l01Put + 1))) : k_spec_l02Bytes (ownFn P env (c_spec_l02Bytes f_spec_l01Put)) := by
  intro x0 b hp h args has
  obtain ⟨⟨v, H2⟩, hr, n0, rfl, wn0⟩ := w_spec_l02Bytes e_spec_l01Put x0 hp
  exact ⟨_, own_call has hr rfl, keep_moved, n0 + h.length, rfl, (moved_lt wn0).2, (moved_lt wn0).1, moved_rows wn0⟩

noncomputable def p_spec_VecBytes (x0 : TVec) : Option (T2 (List U8) Int) :=
  (p_spec_VecOK x0).bind fun v0 =>
  if (v0) = true then
    (p_spec_l02Bytes x0).bind fun v2 =>
    some ⟨v2, 0⟩
  else
    some ⟨[], 1⟩
def c_spec_VecBytes (f_spec_VecOK : Nat) (f_spec_l02Bytes : Nat) : AFn := ⟨10, (.seq (.ops [⟨(.some 1), (.box (.tmp 0)), .none, []⟩, ⟨(.some 2), (.vnil 1 false), .none, []⟩, ⟨(.some 3), (.mv (.const (.int .i64 0))), .none, []⟩]) (.seq (.seq (.ops [⟨(.some 4), (.load 1 true (.tmp 1)), .none, []⟩, ⟨(.some 5), (.call (2 * f_spec_VecOK) [(.tmp 4)]), .none, []⟩, ⟨(.some 6), (.pu (.n (.un .not)) [(.tmp 5)]), .none, []⟩]) (.cond (.tmp 6) (.seq (.ops [⟨(.some 7), (.buildSl 1 false 0 [(.int .u8 0)] []), .none, []⟩, ⟨(.some 2), (.mv (.tmp 7)), .none, []⟩, ⟨(.some 3), (.mv (.const (.int .i64 1))), .none, []⟩]) .ret) .skip)) (.seq (.ops [⟨(.some 8), (.load 1 true (.tmp 1)), .none, []⟩, ⟨(.some 9), (.call (2 * f_spec_l02Bytes + 1) [(.tmp 8)]), .none, []⟩, ⟨(.some 2), (.mv (.tmp 9)), .none, []⟩, ⟨(.some 3), (.mv (.const (.int .i64 0))), .none, []⟩]) .ret))), [(.tmp 2), (.tmp 3)]⟩
set_option maxHeartbeats 10000000 in
theorem d_spec_VecBytes {P : Program} {env : Env} {f_spec_VecOK : Nat} {f_spec_l02Bytes : Nat}  (ep_spec_VecOK : env (2 * f_spec_VecOK) = pureFn true (FA fun a : TVec => p_spec_VecOK a)) (e_spec_l02Bytes : k_spec_l02Bytes (env (2 * f_spec_l02Bytes + 1))) (x0 : TVec) {b : T2 (List U8) Int} (hp : p_spec_VecBytes x0 = some b) : R P env (c_spec_VecBytes f_spec_VecOK f_spec_l02Bytes) ((encA (x0)).map ofI) [] (Tells true b) := by
  refine R_of (by simp [c_spec_VecBytes, encA]) ?_
  unfold c_spec_VecBytes
  unfold p_spec_VecBytes at hp
  obtain ⟨v0, hv0, hp⟩ := bind_eq hp
  by_cases hb1 : (v0) = true
  · rw [if_t hb1] at hp
    obtain ⟨v2, hv2, hp⟩ := bind_eq hp
    simp (disch := first | omega | (simp only [List.length_set, List.length_append, List.length_cons, List.length_nil, rows_len, zs]; first | done | omega)) only [ep_spec_VecOK, hv0, hb1, gs, reduceIte, reduceCtorEq, Nat.reduceAdd, Nat.reduceMul, Nat.reduceSub, Nat.reduceBEq, Nat.reduceEqDiff, Nat.reduceLeDiff, Nat.reduceLT, Nat.reduceGT, Int.reduceToNat, Int.reduceLT, Int.reduceLE, Int.reduceNeg, Int.reduceAdd, Int.reduceEq, Int.reduceNe]
    refine call_f (fun h => getCells h 0 1 = some [.i (.sl 1 (x0.counts.map enc))] ∧ 0 < h.length ∧ getCells h 1 0 = some [] ∧ 1 < h.length) (fun h v h2 => oo_spec_l02Bytes v2 h v h2) ?_ ?_ ?_
    · simp (disch := first | omega | (simp only [List.length_set, List.length_append, List.length_cons, List.length_nil, rows_len, zs]; first | done | omega)) only [ep_spec_VecOK, hv0, hb1, hv2, gs, reduceIte, reduceCtorEq, Nat.reduceAdd, Nat.reduceMul, Nat.reduceSub, Nat.reduceBEq, Nat.reduceEqDiff, Nat.reduceLeDiff, Nat.reduceLT, Nat.reduceGT, Int.reduceToNat, Int.reduceLT, Int.reduceLE, Int.reduceNeg, Int.reduceAdd, Int.reduceEq, Int.reduceNe] <;> omega
    · rintro h ⟨c0_0, c0_1, c0_2, c0_3⟩
      exact e_spec_l02Bytes _ _ hv2 h _ (by simp (disch := first | omega | (simp only [List.length_set, List.length_append, List.length_cons, List.length_nil, rows_len, zs]; first | done | omega)) only [ep_spec_VecOK, hv0, hb1, hv2, c0_0, c0_1, c0_2, c0_3, gs, reduceIte, reduceCtorEq, Nat.reduceAdd, Nat.reduceMul, Nat.reduceSub, Nat.reduceBEq, Nat.reduceEqDiff, Nat.reduceLeDiff, Nat.reduceLT, Nat.reduceGT, Int.reduceToNat, Int.reduceLT, Int.reduceLE, Int.reduceNeg, Int.reduceAdd, Int.reduceEq, Int.reduceNe])
    · rintro h v hh0 ⟨c0_0, c0_1, c0_2, c0_3⟩ hpost
      obtain ⟨kk0, nb0_0, rfl, lnb0_0, gnb0_0, wnb0_0⟩ := hpost
      have d0_0 : getCells hh0 0 1 = some [.i (.sl 1 (x0.counts.map enc))] := (keep_get kk0 c0_1 (by first | (simp; done) | (simp; omega))).trans c0_0
      have d0_0l := keep_lt kk0 c0_1
      have d0_1 : getCells hh0 1 0 = some [] := (keep_get kk0 c0_3 (by first | (simp; done) | (simp; omega))).trans c0_2
      have d0_1l := keep_lt kk0 c0_3
      have d0_2 := wnb0_0
      have hp := Option.some.inj hp
      subst hp
      simp (disch := first | omega | (simp only [List.length_set, List.length_append, List.length_cons, List.length_nil, rows_len, zs]; first | done | omega)) only [ep_spec_VecOK, hv0, hb1, hv2, d0_0, d0_1, d0_2, gs, reduceIte, reduceCtorEq, Nat.reduceAdd, Nat.reduceMul, Nat.reduceSub, Nat.reduceBEq, Nat.reduceEqDiff, Nat.reduceLeDiff, Nat.reduceLT, Nat.reduceGT, Int.reduceToNat, Int.reduceLT, Int.reduceLE, Int.reduceNeg, Int.reduceAdd, Int.reduceEq, Int.reduceNe]
  · replace hb1 := eq_false_of_ne_true hb1
    rw [if_f hb1] at hp
    have hp := Option.some.inj hp
    subst hp
    simp (disch := first | omega | (simp only [List.length_set, List.length_append, List.length_cons, List.length_nil, rows_len, zs]; first | done | omega)) only [ep_spec_VecOK, hv0, hb1, gs, reduceIte, reduceCtorEq, Nat.reduceAdd, Nat.reduceMul, Nat.reduceSub, Nat.reduceBEq, Nat.reduceEqDiff, Nat.reduceLeDiff, Nat.reduceLT, Nat.reduceGT, Int.reduceToNat, Int.reduceLT, Int.reduceLE, Int.reduceNeg, Int.reduceAdd, Int.reduceEq, Int.reduceNe]

noncomputable def p_impl_VecOK_l0 (x0 : TVec) : Int → Option (Lp (Int) Bool)
  | s1 =>
    if (decide (s1 < (x0.counts.length : Int))) = true then
      (get? x0.counts s1).bind fun v3 =>
      if (decide (v3 < 0)) = true then
        some (.ret false)
      else
        if (decide (1000000000000 < v3)) = true then
          some (.ret false)
        else
          some (.go (w64 (s1 + 1)))
    else
      some (.out s1)
noncomputable def p_impl_VecOK (x0 : TVec) : Option Bool :=
  if (decide ((x0.counts.length : Int) = 16)) = true then
    (loopP (p_impl_VecOK_l0 x0) 0).bind fun ee0 => match ee0 with
    | .ret r => some r
    | .out o6 =>
      some true
  else
    some false
def c_impl_VecOK : AFn := ⟨23, (.seq (.ops [⟨(.some 1), (.box (.tmp 0)), .none, []⟩, ⟨(.some 2), (.mv (.const (.bool false))), .none, []⟩]) (.seq (.seq (.ops [⟨(.some 5), (.fieldA 0 (.tmp 1)), .none, []⟩, ⟨(.some 6), (.load 1 false (.tmp 5)), .none, []⟩, ⟨(.some 7), (.len (.tmp 6)), .none, []⟩, ⟨(.some 8), (.pu (.n (.ar .neq)) [(.tmp 7), (.const (.int .i64 16))]), .none, []⟩]) (.cond (.tmp 8) (.seq (.ops [⟨(.some 2), (.mv (.const (.bool false))), .none, []⟩]) .ret) .skip)) (.seq (.seq (.ops [⟨(.some 9), (.fieldA 0 (.tmp 1)), .none, []⟩, ⟨(.some 10), (.load 1 false (.tmp 9)), .none, []⟩, ⟨(.some 11), (.len (.tmp 10)), .none, []⟩, ⟨(.some 12), (.mv (.const (.int .i64 0))), .none, []⟩]) (.block 0 (.loop (.seq (.ops [⟨(.some 13), (.pu (.n (.ar .lss)) [(.tmp 12), (.tmp 11)]), .none, []⟩]) (.seq (.cond (.tmp 13) .skip (.exit 0)) (.seq (.block 1 (.seq (.ops [⟨(.some 14), (.idxS 1 (.tmp 10) (.tmp 12)), .none, []⟩, ⟨(.some 15), (.load 1 false (.tmp 14)), .none, []⟩, ⟨(.some 4), (.mv (.tmp 15)), .none, []⟩]) (.seq (.ops [⟨(.some 16), (.mv (.tmp 4)), .none, []⟩, ⟨(.some 17), (.pu (.n (.ar .lss)) [(.tmp 16), (.const (.int .i64 0))]), .none, []⟩, ⟨(.some 18), (.mv (.tmp 17)), .none, []⟩, ⟨(.some 19), (.mv (.tmp 4)), (.some (18, false)), []⟩, ⟨(.some 20), (.pu (.n (.ar .gtr)) [(.tmp 19), (.const (.int .i64 1000000000000))]), (.some (18, false)), []⟩, ⟨(.some 21), (.pick (.tmp 18) (.const (.bool true)) (.tmp 20)), .none, []⟩]) (.cond (.tmp 21) (.seq (.ops [⟨(.some 2), (.mv (.const (.bool false))), .none, []⟩]) .ret) .skip)))) (.ops [⟨(.some 22), (.pu (.n (.ar .add)) [(.tmp 12), (.const (.int .i64 1))]), .none, []⟩, ⟨(.some 12), (.mv (.tmp 22)), .none, []⟩]))))))) (.seq (.ops [⟨(.some 2), (.mv (.const (.bool true))), .none, []⟩]) .ret)))), [(.tmp 2)]⟩
set_option maxHeartbeats 10000000 in
theorem d_impl_VecOK {P : Program} {env : Env}  (x0 : TVec) {b : Bool} (hp : p_impl_VecOK x0 = some b) : R P env (c_impl_VecOK) ((encA (x0)).map ofI) [] (Tells true b) := by
  refine R_of (by simp [c_impl_VecOK, encA]) ?_
  unfold c_impl_VecOK
  unfold p_impl_VecOK at hp
  by_cases hb0 : (decide ((x0.counts.length : Int) = 16)) = true
  · rw [if_t hb0] at hp
    obtain ⟨ee0, hee0, hp⟩ := bind_eq hp
    simp (disch := first | omega | (simp only [List.length_set, List.length_append, List.length_cons, List.length_nil, rows_len, zs]; first | done | omega)) only [hb0, gs, reduceIte, reduceCtorEq, Nat.reduceAdd, Nat.reduceMul, Nat.reduceSub, Nat.reduceBEq, Nat.reduceEqDiff, Nat.reduceLeDiff, Nat.reduceLT, Nat.reduceGT, Int.reduceToNat, Int.reduceLT, Int.reduceLE, Int.reduceNeg, Int.reduceAdd, Int.reduceEq, Int.reduceNe]
    refine W_loopP 0 (fun s t h => match s with | s1 => t 10 = .i (.sl 1 (x0.counts.map enc)) ∧ t 11 = .i (.s (.int .i64 (x0.counts.length : Int))) ∧ t 12 = .i (.s (.int .i64 s1))) (RK [.tmp 2] (Tells true)) ?_ hee0 ?_ ?_
    · rintro s1 ee tt0 hh0 ⟨ftt0_0, ftt0_1, ftt0_2⟩ hp
      rw [p_impl_VecOK_l0] at hp
      by_cases hb2 : (decide (s1 < (x0.counts.length : Int))) = true
      · rw [if_t hb2] at hp
        obtain ⟨v3, hv3, hp⟩ := bind_eq hp
        by_cases hb4 : (decide (v3 < 0)) = true
        · rw [if_t hb4] at hp
          have hp := Option.some.inj hp
          subst hp
          simp (disch := first | omega | (simp only [List.length_set, List.length_append, List.length_cons, List.length_nil, rows_len, zs]; first | done | omega)) only [hb0, ftt0_0, ftt0_1, ftt0_2, hb2, hv3, hb4, gs, reduceIte, reduceCtorEq, Nat.reduceAdd, Nat.reduceMul, Nat.reduceSub, Nat.reduceBEq, Nat.reduceEqDiff, Nat.reduceLeDiff, Nat.reduceLT, Nat.reduceGT, Int.reduceToNat, Int.reduceLT, Int.reduceLE, Int.reduceNeg, Int.reduceAdd, Int.reduceEq, Int.reduceNe]
        · replace hb4 := eq_false_of_ne_true hb4
          rw [if_f hb4] at hp
          by_cases hb5 : (decide (1000000000000 < v3)) = true
          · rw [if_t hb5] at hp
            have hp := Option.some.inj hp
            subst hp
            simp (disch := first | omega | (simp only [List.length_set, List.length_append, List.length_cons, List.length_nil, rows_len, zs]; first | done | omega)) only [hb0, ftt0_0, ftt0_1, ftt0_2, hb2, hv3, hb4, hb5, gs, reduceIte, reduceCtorEq, Nat.reduceAdd, Nat.reduceMul, Nat.reduceSub, Nat.reduceBEq, Nat.reduceEqDiff, Nat.reduceLeDiff, Nat.reduceLT, Nat.reduceGT, Int.reduceToNat, Int.reduceLT, Int.reduceLE, Int.reduceNeg, Int.reduceAdd, Int.reduceEq, Int.reduceNe]
          · replace hb5 := eq_false_of_ne_true hb5
            rw [if_f hb5] at hp
            have hp := Option.some.inj hp
            subst hp
            simp (disch := first | omega | (simp only [List.length_set, List.length_append, List.length_cons, List.length_nil, rows_len, zs]; first | done | omega)) only [hb0, ftt0_0, ftt0_1, ftt0_2, hb2, hv3, hb4, hb5, gs, reduceIte, reduceCtorEq, Nat.reduceAdd, Nat.reduceMul, Nat.reduceSub, Nat.reduceBEq, Nat.reduceEqDiff, Nat.reduceLeDiff, Nat.reduceLT, Nat.reduceGT, Int.reduceToNat, Int.reduceLT, Int.reduceLE, Int.reduceNeg, Int.reduceAdd, Int.reduceEq, Int.reduceNe] <;> omega
      · replace hb2 := eq_false_of_ne_true hb2
        rw [if_f hb2] at hp
        have hp := Option.some.inj hp
        subst hp
        simp (disch := first | omega | (simp only [List.length_set, List.length_append, List.length_cons, List.length_nil, rows_len, zs]; first | done | omega)) only [hb0, ftt0_0, ftt0_1, ftt0_2, hb2, gs, reduceIte, reduceCtorEq, Nat.reduceAdd, Nat.reduceMul, Nat.reduceSub, Nat.reduceBEq, Nat.reduceEqDiff, Nat.reduceLeDiff, Nat.reduceLT, Nat.reduceGT, Int.reduceToNat, Int.reduceLT, Int.reduceLE, Int.reduceNeg, Int.reduceAdd, Int.reduceEq, Int.reduceNe] <;> omega
    · simp (disch := first | omega | (simp only [List.length_set, List.length_append, List.length_cons, List.length_nil, rows_len, zs]; first | done | omega)) only [hb0, gs, reduceIte, reduceCtorEq, Nat.reduceAdd, Nat.reduceMul, Nat.reduceSub, Nat.reduceBEq, Nat.reduceEqDiff, Nat.reduceLeDiff, Nat.reduceLT, Nat.reduceGT, Int.reduceToNat, Int.reduceLT, Int.reduceLE, Int.reduceNeg, Int.reduceAdd, Int.reduceEq, Int.reduceNe] <;> omega
    · intro x tt1 hh1 hx
      rcases ee0 with o6 | r
      · obtain ⟨rfl, ftt1_0, ftt1_1, ftt1_2⟩ := hx
        dsimp only at hp
        have hp := Option.some.inj hp
        subst hp
        simp (disch := first | omega | (simp only [List.length_set, List.length_append, List.length_cons, List.length_nil, rows_len, zs]; first | done | omega)) only [hb0, ftt1_0, ftt1_1, ftt1_2, gs, reduceIte, reduceCtorEq, Nat.reduceAdd, Nat.reduceMul, Nat.reduceSub, Nat.reduceBEq, Nat.reduceEqDiff, Nat.reduceLeDiff, Nat.reduceLT, Nat.reduceGT, Int.reduceToNat, Int.reduceLT, Int.reduceLE, Int.reduceNeg, Int.reduceAdd, Int.reduceEq, Int.reduceNe]
      · obtain ⟨rfl, hx⟩ := hx
        dsimp only at hp
        cases hp
        simp only [seqK_ret, blockK_ret, retK_RK (K := Tells true), hx, and_self, true_and]
  · replace hb0 := eq_false_of_ne_true hb0
    rw [if_f hb0] at hp
    have hp := Option.some.inj hp
    subst hp
    simp (disch := first | omega | (simp only [List.length_set, List.length_append, List.length_cons, List.length_nil, rows_len, zs]; first | done | omega)) only [hb0, gs, reduceIte, reduceCtorEq, Nat.reduceAdd, Nat.reduceMul, Nat.reduceSub, Nat.reduceBEq, Nat.reduceEqDiff, Nat.reduceLeDiff, Nat.reduceLT, Nat.reduceGT, Int.reduceToNat, Int.reduceLT, Int.reduceLE, Int.reduceNeg, Int.reduceAdd, Int.reduceEq, Int.reduceNe]

noncomputable def p_impl_appendInt_l0 : List U8 × Int → Option (Lp (List U8 × Int) (List U8))
  | (s0, s1) =>
    if (decide (128 ≤ s1)) = true then
      (app? 1 s0 ([(U8.mk (orI .u8 (IntKind.wrap .u8 (andI .i64 s1 127)) 128))])).bind fun v3 =>
      (shr? .i64 s1 7).bind fun v4 =>
      some (.go (v3, v4))
    else
      some (.out (s0, s1))
noncomputable def p_impl_appendInt (x0 : List U8) (x1 : Int) : Option (List U8) :=
  (loopP (p_impl_appendInt_l0) (x0, x1)).bind fun ee0 => match ee0 with
  | .ret r => some r
  | .out (o5, o6) =>
    (app? 1 o5 ([(U8.mk (IntKind.wrap .u8 o6))])).bind fun v7 =>
    some v7
def c_impl_appendInt : AFn := ⟨21, (.seq (.ops [⟨(.some 4), (.vnil 1 false), .none, []⟩]) (.seq (.block 0 (.loop (.seq (.seq (.ops [⟨(.some 5), (.mv (.tmp 1)), .none, []⟩, ⟨(.some 6), (.pu (.n (.ar .geq)) [(.tmp 5), (.const (.int .i64 128))]), .none, []⟩]) (.cond (.tmp 6) .skip (.exit 0))) (.block 1 (.seq (.ops [⟨(.some 7), (.mv (.tmp 0)), .none, []⟩, ⟨(.some 8), (.mv (.tmp 1)), .none, []⟩, ⟨(.some 9), (.pu (.n (.ar .and)) [(.tmp 8), (.const (.int .i64 127))]), .none, []⟩, ⟨(.some 10), (.pu (.n (.conv .u8)) [(.tmp 9)]), .none, []⟩, ⟨(.some 11), (.pu (.n (.ar .or)) [(.tmp 10), (.const (.int .u8 128))]), .none, []⟩, ⟨(.some 12), (.buildSl 1 false 1 [(.int .u8 0)] [(0, (.tmp 11))]), .none, []⟩, ⟨(.some 13), (.append 1 false 1 (.tmp 7) (.tmp 12)), .none, []⟩, ⟨(.some 0), (.mv (.tmp 13)), .none, []⟩]) (.ops [⟨(.some 14), (.mv (.tmp 1)), .none, []⟩, ⟨(.some 15), (.pu (.n (.ar .shr)) [(.tmp 14), (.const (.int .u64 7))]), .none, []⟩, ⟨(.some 1), (.mv (.tmp 15)), .none, []⟩])))))) (.seq (.ops [⟨(.some 16), (.mv (.tmp 0)), .none, []⟩, ⟨(.some 17), (.mv (.tmp 1)), .none, []⟩, ⟨(.some 18), (.pu (.n (.conv .u8)) [(.tmp 17)]), .none, []⟩, ⟨(.some 19), (.buildSl 1 false 1 [(.int .u8 0)] [(0, (.tmp 18))]), .none, []⟩, ⟨(.some 20), (.append 1 false 1 (.tmp 16) (.tmp 19)), .none, []⟩, ⟨(.some 4), (.mv (.tmp 20)), .none, []⟩]) .ret))), [(.tmp 4)]⟩
def i_impl_appendInt (pb0 pn0 : Nat) (h : Heap) (b : List U8) (v : V) (h2 : Heap) : Prop := Keep [pb0] h h2 ∧ v = .hsl pb0 b.length 0 1 false b.length ∧ getCells h2 pb0 b.length = some (rows b)
def k_impl_appendInt (F : Fun) : Prop := ∀ (x0 : List U8) (x1 : Int) (b : List U8), p_impl_appendInt x0 x1 = some b → ∀ (pb0 pn0 : Nat) (h : Heap), pn0 = (x0).length → getCells h pb0 pn0 = some (rows x0) → ∃ p, F none [.hsl pb0 pn0 0 1 false pn0, .i (.s (.int .i64 x1))] h = some p ∧ i_impl_appendInt pb0 pn0 h b p.1 p.2
set_option maxHeartbeats 10000000 in
theorem w_impl_appendInt {P : Program} {env : Env}  (x0 : List U8) (x1 : Int) {b : List U8} (hp : p_impl_appendInt x0 x1 = some b) (pb0 pn0 : Nat) (hh : Heap) (pm0 : pn0 = (x0).length) (pf0 : getCells hh pb0 pn0 = some (rows x0)) : R P env (c_impl_appendInt) [.hsl pb0 pn0 0 1 false pn0, .i (.s (.int .i64 x1))] hh (i_impl_appendInt pb0 pn0 hh b) := by
  have pl0 := gc_lt pf0
  have pg0 : getCells hh pb0 x0.length = some (rows x0) := by rw [← pm0]; exact pf0
  refine R_of (by simp [c_impl_appendInt, encA]) ?_
  unfold c_impl_appendInt
  unfold p_impl_appendInt at hp
  obtain ⟨ee0, hee0, hp⟩ := bind_eq hp
  simp (disch := first | omega | (simp only [List.length_set, List.length_append, List.length_cons, List.length_nil, rows_len, zs]; first | done | omega)) only [pf0, pg0, gs, reduceIte, reduceCtorEq, Nat.reduceAdd, Nat.reduceMul, Nat.reduceSub, Nat.reduceBEq, Nat.reduceEqDiff, Nat.reduceLeDiff, Nat.reduceLT, Nat.reduceGT, Int.reduceToNat, Int.reduceLT, Int.reduceLE, Int.reduceNeg, Int.reduceAdd, Int.reduceEq, Int.reduceNe]
  refine W_loopP 0 (fun s t h => match s with | (s0, s1) => t 0 = .hsl pb0 s0.length 0 1 false s0.length ∧ t 1 = .i (.s (.int .i64 s1)) ∧ getCells h pb0 s0.length = some (rows (s0 : List U8)) ∧ pb0 < h.length ∧ Keep [pb0] hh h) (RK [.tmp 4] (i_impl_appendInt pb0 pn0 hh)) ?_ hee0 ?_ ?_
  · rintro ⟨s0, s1⟩ ee tt0 hh0 ⟨ftt0_0, ftt0_1, ftt0_2, ftt0_3, ftt0_4⟩ hp
    rw [p_impl_appendInt_l0] at hp
    by_cases hb2 : (decide (128 ≤ s1)) = true
    · rw [if_t hb2] at hp
      obtain ⟨v3, hv3, hp⟩ := bind_eq hp
      obtain ⟨kv3, qv3, lv3⟩ := app_some hv3
      have rv3 : rows s0 ++ [.i (.s (.int .u8 (orI .u8 (IntKind.wrap .u8 (andI .i64 s1 127)) 128)))] = rows v3 := by rw [qv3, rows_append]; rfl
      have mv3 : s0.length + 1 = v3.length := by simp at lv3; omega
      have nv3 : (s0.length + 1) * 1 ≤ 140737488355328 := by simp at kv3; omega
      obtain ⟨v4, hv4, hp⟩ := bind_eq hp
      have hp := Option.some.inj hp
      subst hp
      simp (disch := first | omega | (simp only [List.length_set, List.length_append, List.length_cons, List.length_nil, rows_len, zs]; first | done | omega)) only [i_impl_appendInt, pf0, pg0, ftt0_0, ftt0_1, ftt0_2, ftt0_3, ftt0_4, hb2, hv3, rv3, nv3, hv4, gs, reduceIte, reduceCtorEq, Nat.reduceAdd, Nat.reduceMul, Nat.reduceSub, Nat.reduceBEq, Nat.reduceEqDiff, Nat.reduceLeDiff, Nat.reduceLT, Nat.reduceGT, Int.reduceToNat, Int.reduceLT, Int.reduceLE, Int.reduceNeg, Int.reduceAdd, Int.reduceEq, Int.reduceNe] <;> (repeat (first | omega | assumption | rfl | exact keep_refl | refine keep_app ?_ | (refine keep_set (by first | (left; simp; done) | (right; simp; omega)) ?_) | refine And.intro ?_ ?_))
    · replace hb2 := eq_false_of_ne_true hb2
      rw [if_f hb2] at hp
      have hp := Option.some.inj hp
      subst hp
      simp (disch := first | omega | (simp only [List.length_set, List.length_append, List.length_cons, List.length_nil, rows_len, zs]; first | done | omega)) only [i_impl_appendInt, pf0, pg0, ftt0_0, ftt0_1, ftt0_2, ftt0_3, ftt0_4, hb2, gs, reduceIte, reduceCtorEq, Nat.reduceAdd, Nat.reduceMul, Nat.reduceSub, Nat.reduceBEq, Nat.reduceEqDiff, Nat.reduceLeDiff, Nat.reduceLT, Nat.reduceGT, Int.reduceToNat, Int.reduceLT, Int.reduceLE, Int.reduceNeg, Int.reduceAdd, Int.reduceEq, Int.reduceNe] <;> (repeat (first | omega | assumption | rfl | exact keep_refl | refine keep_app ?_ | (refine keep_set (by first | (left; simp; done) | (right; simp; omega)) ?_) | refine And.intro ?_ ?_))
  · simp (disch := first | omega | (simp only [List.length_set, List.length_append, List.length_cons, List.length_nil, rows_len, zs]; first | done | omega)) only [i_impl_appendInt, pf0, pg0, gs, reduceIte, reduceCtorEq, Nat.reduceAdd, Nat.reduceMul, Nat.reduceSub, Nat.reduceBEq, Nat.reduceEqDiff, Nat.reduceLeDiff, Nat.reduceLT, Nat.reduceGT, Int.reduceToNat, Int.reduceLT, Int.reduceLE, Int.reduceNeg, Int.reduceAdd, Int.reduceEq, Int.reduceNe] <;> (repeat (first | omega | assumption | rfl | exact keep_refl | refine keep_app ?_ | (refine keep_set (by first | (left; simp; done) | (right; simp; omega)) ?_) | refine And.intro ?_ ?_))
  · intro x tt1 hh1 hx
    rcases ee0 with ⟨o5, o6⟩ | r
    · obtain ⟨rfl, ftt1_0, ftt1_1, ftt1_2, ftt1_3, ftt1_4⟩ := hx
      dsimp only at hp
      obtain ⟨v7, hv7, hp⟩ := bind_eq hp
      obtain ⟨kv7, qv7, lv7⟩ := app_some hv7
      have rv7 : rows o5 ++ [.i (.s (.int .u8 (IntKind.wrap .u8 o6)))] = rows v7 := by rw [qv7, rows_append]; rfl
      have mv7 : o5.length + 1 = v7.length := by simp at lv7; omega
      have nv7 : (o5.length + 1) * 1 ≤ 140737488355328 := by simp at kv7; omega
      have hp := Option.some.inj hp
      subst hp
      simp (disch := first | omega | (simp only [List.length_set, List.length_append, List.length_cons, List.length_nil, rows_len, zs]; first | done | omega)) only [i_impl_appendInt, pf0, pg0, ftt1_0, ftt1_1, ftt1_2, ftt1_3, ftt1_4, hv7, rv7, nv7, gs, reduceIte, reduceCtorEq, Nat.reduceAdd, Nat.reduceMul, Nat.reduceSub, Nat.reduceBEq, Nat.reduceEqDiff, Nat.reduceLeDiff, Nat.reduceLT, Nat.reduceGT, Int.reduceToNat, Int.reduceLT, Int.reduceLE, Int.reduceNeg, Int.reduceAdd, Int.reduceEq, Int.reduceNe] <;> (repeat (first | omega | assumption | rfl | exact keep_refl | refine keep_app ?_ | (refine keep_set (by first | (left; simp; done) | (right; simp; omega)) ?_) | refine And.intro ?_ ?_))
    · obtain ⟨rfl, hx⟩ := hx
      dsimp only at hp
      cases hp
      simp only [seqK_ret, blockK_ret, retK_RK (K := i_impl_appendInt pb0 pn0 hh), hx, and_self, true_and]
theorem ko_impl_appendInt {P : Program} {env : Env}  : k_impl_appendInt (runIn P env (c_impl_appendInt)) := by
  intro x0 x1 b hp pb0 pn0 h a0 a1
  exact w_impl_appendInt x0 x1 hp pb0 pn0 h a0 a1

noncomputable def p_impl_VecBytes_l0 (x0 : TVec) : Int → Option (Lp (Int) (T2 (List U8) Int))
  | s2 =>
    if (decide (0 < s2)) = true then
      (get? x0.counts (w64 (s2 - 1))).bind fun v4 =>
      if (decide (v4 = 0)) = true then
        some (.go (w64 (s2 - 1)))
      else
        some (.out s2)
    else
      some (.out s2)
noncomputable def p_impl_VecBytes_l1 (v7 : List Int) : List U8 × Int → Option (Lp (List U8 × Int) (T2 (List U8) Int))
  | (s8, s9) =>
    if (decide (s9 < (v7.length : Int))) = true then
      (get? v7 s9).bind fun v11 =>
      (p_impl_appendInt s8 v11).bind fun v12 =>
      some (.go (v12, w64 (s9 + 1)))
    else
      some (.out (s8, s9))
noncomputable def p_impl_VecBytes (x0 : TVec) : Option (T2 (List U8) Int) :=
  (p_impl_VecOK x0).bind fun v0 =>
  if (v0) = true then
    (loopP (p_impl_VecBytes_l0 x0) 16).bind fun ee0 => match ee0 with
    | .ret r => some r
    | .out o6 =>
      (cut? x0.counts 0 o6).bind fun v7 =>
      (loopP (p_impl_VecBytes_l1 v7) (([] : List U8), 0)).bind fun ee1 => match ee1 with
      | .ret r => some r
      | .out (o13, o14) =>
        some ⟨o13, 0⟩
  else
    some ⟨[], 1⟩
def c_impl_VecBytes (f_impl_VecOK : Nat) (f_impl_appendInt : Nat) : AFn := ⟨38, (.seq (.ops [⟨(.some 1), (.box (.tmp 0)), .none, []⟩, ⟨(.some 2), (.vnil 1 false), .none, []⟩, ⟨(.some 3), (.mv (.const (.int .i64 0))), .none, []⟩]) (.seq (.seq (.ops [⟨(.some 8), (.load 1 true (.tmp 1)), .none, []⟩, ⟨(.some 9), (.call (2 * f_impl_VecOK) [(.tmp 8)]), .none, []⟩, ⟨(.some 10), (.pu (.n (.un .not)) [(.tmp 9)]), .none, []⟩]) (.cond (.tmp 10) (.seq (.ops [⟨(.some 2), (.vnil 1 false), .none, []⟩, ⟨(.some 3), (.mv (.const (.int .i64 1))), .none, []⟩]) .ret) .skip)) (.seq (.ops [⟨(.some 4), (.mv (.const (.int .i64 16))), .none, []⟩]) (.seq (.block 0 (.loop (.seq (.seq (.ops [⟨(.some 11), (.mv (.tmp 4)), .none, []⟩, ⟨(.some 12), (.pu (.n (.ar .gtr)) [(.tmp 11), (.const (.int .i64 0))]), .none, []⟩, ⟨(.some 13), (.mv (.tmp 12)), .none, []⟩, ⟨(.some 14), (.fieldA 0 (.tmp 1)), (.some (13, true)), []⟩, ⟨(.some 15), (.load 1 false (.tmp 14)), (.some (13, true)), []⟩, ⟨(.some 16), (.mv (.tmp 4)), (.some (13, true)), []⟩, ⟨(.some 17), (.pu (.n (.ar .sub)) [(.tmp 16), (.const (.int .i64 1))]), (.some (13, true)), []⟩, ⟨(.some 18), (.idxS 1 (.tmp 15) (.tmp 17)), (.some (13, true)), []⟩, ⟨(.some 19), (.load 1 false (.tmp 18)), (.some (13, true)), []⟩, ⟨(.some 20), (.pu (.n (.ar .eql)) [(.tmp 19), (.const (.int .i64 0))]), (.some (13, true)), []⟩, ⟨(.some 21), (.pick (.tmp 13) (.tmp 20) (.const (.bool false))), .none, []⟩]) (.cond (.tmp 21) .skip (.exit 0))) (.block 1 (.ops [⟨(.some 22), (.mv (.tmp 4)), .none, []⟩, ⟨(.some 23), (.pu (.n (.ar .sub)) [(.tmp 22), (.const (.int .i64 1))]), .none, []⟩, ⟨(.some 4), (.mv (.tmp 23)), .none, []⟩]))))) (.seq (.ops [⟨(.some 5), (.vnil 1 false), .none, []⟩]) (.seq (.seq (.ops [⟨(.some 24), (.fieldA 0 (.tmp 1)), .none, []⟩, ⟨(.some 25), (.load 1 false (.tmp 24)), .none, []⟩, ⟨(.some 26), (.mv (.tmp 4)), .none, []⟩, ⟨(.some 27), (.slice 1 (.tmp 25) .none (.some (.tmp 26))), .none, []⟩, ⟨(.some 28), (.len (.tmp 27)), .none, []⟩, ⟨(.some 29), (.mv (.const (.int .i64 0))), .none, []⟩]) (.block 2 (.loop (.seq (.ops [⟨(.some 30), (.pu (.n (.ar .lss)) [(.tmp 29), (.tmp 28)]), .none, []⟩]) (.seq (.cond (.tmp 30) .skip (.exit 2)) (.seq (.block 3 (.seq (.ops [⟨(.some 31), (.idxS 1 (.tmp 27) (.tmp 29)), .none, []⟩, ⟨(.some 32), (.load 1 false (.tmp 31)), .none, []⟩, ⟨(.some 7), (.mv (.tmp 32)), .none, []⟩]) (.ops [⟨(.some 33), (.mv (.tmp 5)), .none, []⟩, ⟨(.some 34), (.mv (.tmp 7)), .none, []⟩, ⟨(.some 35), (.call (2 * f_impl_appendInt + 1) [(.tmp 33), (.tmp 34)]), .none, []⟩, ⟨(.some 5), (.mv (.tmp 35)), .none, []⟩]))) (.ops [⟨(.some 36), (.pu (.n (.ar .add)) [(.tmp 29), (.const (.int .i64 1))]), .none, []⟩, ⟨(.some 29), (.mv (.tmp 36)), .none, []⟩]))))))) (.seq (.ops [⟨(.some 37), (.mv (.tmp 5)), .none, []⟩, ⟨(.some 2), (.mv (.tmp 37)), .none, []⟩, ⟨(.some 3), (.mv (.const (.int .i64 0))), .none, []⟩]) .ret))))))), [(.tmp 2), (.tmp 3)]⟩
def o_impl_VecBytes (b : T2 (List U8) Int) (v : V) (h : Heap) : Prop := ∃ n0 : Nat, v = .tup [.hsl n0 b.a.length 0 1 false b.a.length, .i (.s (.int .i64 b.b))] ∧ getCells h n0 b.a.length = some (rows b.a)
def oo_impl_VecBytes (b : T2 (List U8) Int) (h : Heap) (v : V) (h2 : Heap) : Prop := Keep [] h h2 ∧ ∃ n0 : Nat, v = .tup [.hsl n0 b.a.length 0 1 false b.a.length, .i (.s (.int .i64 b.b))] ∧ n0 < h2.length ∧ h.length ≤ n0 ∧ getCells h2 n0 b.a.length = some (rows b.a)
def k_impl_VecBytes (F : Fun) : Prop := ∀ (x0 : TVec) (b : T2 (List U8) Int), p_impl_VecBytes x0 = some b → ∀ (h : Heap) (args : List V), snapA 9 false h args = some (encA (x0)) → ∃ p, F none args h = some p ∧ oo_impl_VecBytes b h p.1 p.2
set_option maxHeartbeats 10000000 in
theorem w_impl_VecBytes {P : Program} {env : Env} {f_impl_VecOK : Nat} {f_impl_appendInt : Nat}  (ep_impl_VecOK : env (2 * f_impl_VecOK) = pureFn true (FA fun a : TVec => p_impl_VecOK a)) (e_impl_appendInt : k_impl_appendInt (env (2 * f_impl_appendInt + 1))) (x0 : TVec) {b : T2 (List U8) Int} (hp : p_impl_VecBytes x0 = some b) : R P env (c_impl_VecBytes f_impl_VecOK f_impl_appendInt) ((encA (x0)).map ofI) [] (o_impl_VecBytes b) := by
  refine R_of (by simp [c_impl_VecBytes, encA]) ?_
  unfold c_impl_VecBytes
  unfold p_impl_VecBytes at hp
  obtain ⟨v0, hv0, hp⟩ := bind_eq hp
  by_cases hb1 : (v0) = true
  · rw [if_t hb1] at hp
    obtain ⟨ee0, hee0, hp⟩ := bind_eq hp
    simp (disch := first | omega | (simp only [List.length_set, List.length_append, List.length_cons, List.length_nil, rows_len, zs]; first | done | omega)) only [ep_impl_VecOK, hv0, hb1, gs, reduceIte, reduceCtorEq, Nat.reduceAdd, Nat.reduceMul, Nat.reduceSub, Nat.reduceBEq, Nat.reduceEqDiff, Nat.reduceLeDiff, Nat.reduceLT, Nat.reduceGT, Int.reduceToNat, Int.reduceLT, Int.reduceLE, Int.reduceNeg, Int.reduceAdd, Int.reduceEq, Int.reduceNe]
    refine W_loopP 0 (fun s t h => match s with | s2 => t 1 = .ptr 0 1 0 ∧ t 4 = .i (.s (.int .i64 s2)) ∧ getCells h 0 1 = some [.i (.sl 1 (x0.counts.map enc))] ∧ 0 < h.length) (RK [.tmp 2, .tmp 3] (o_impl_VecBytes)) ?_ hee0 ?_ ?_
    · rintro s2 ee tt0 hh0 ⟨ftt0_0, ftt0_1, ftt0_2, ftt0_3⟩ hp
      rw [p_impl_VecBytes_l0] at hp
      by_cases hb3 : (decide (0 < s2)) = true
      · rw [if_t hb3] at hp
        obtain ⟨v4, hv4, hp⟩ := bind_eq hp
        by_cases hb5 : (decide (v4 = 0)) = true
        · rw [if_t hb5] at hp
          have hp := Option.some.inj hp
          subst hp
          simp (disch := first | omega | (simp only [List.length_set, List.length_append, List.length_cons, List.length_nil, rows_len, zs]; first | done | omega)) only [ep_impl_VecOK, hv0, hb1, ftt0_0, ftt0_1, ftt0_2, ftt0_3, hb3, hv4, hb5, gs, reduceIte, reduceCtorEq, Nat.reduceAdd, Nat.reduceMul, Nat.reduceSub, Nat.reduceBEq, Nat.reduceEqDiff, Nat.reduceLeDiff, Nat.reduceLT, Nat.reduceGT, Int.reduceToNat, Int.reduceLT, Int.reduceLE, Int.reduceNeg, Int.reduceAdd, Int.reduceEq, Int.reduceNe] <;> omega
        · replace hb5 := eq_false_of_ne_true hb5
          rw [if_f hb5] at hp
          have hp := Option.some.inj hp
          subst hp
          simp (disch := first | omega | (simp only [List.length_set, List.length_append, List.length_cons, List.length_nil, rows_len, zs]; first | done | omega)) only [ep_impl_VecOK, hv0, hb1, ftt0_0, ftt0_1, ftt0_2, ftt0_3, hb3, hv4, hb5, gs, reduceIte, reduceCtorEq, Nat.reduceAdd, Nat.reduceMul, Nat.reduceSub, Nat.reduceBEq, Nat.reduceEqDiff, Nat.reduceLeDiff, Nat.reduceLT, Nat.reduceGT, Int.reduceToNat, Int.reduceLT, Int.reduceLE, Int.reduceNeg, Int.reduceAdd, Int.reduceEq, Int.reduceNe] <;> omega
      · replace hb3 := eq_false_of_ne_true hb3
        rw [if_f hb3] at hp
        have hp := Option.some.inj hp
        subst hp
        simp (disch := first | omega | (simp only [List.length_set, List.length_append, List.length_cons, List.length_nil, rows_len, zs]; first | done | omega)) only [ep_impl_VecOK, hv0, hb1, ftt0_0, ftt0_1, ftt0_2, ftt0_3, hb3, gs, reduceIte, reduceCtorEq, Nat.reduceAdd, Nat.reduceMul, Nat.reduceSub, Nat.reduceBEq, Nat.reduceEqDiff, Nat.reduceLeDiff, Nat.reduceLT, Nat.reduceGT, Int.reduceToNat, Int.reduceLT, Int.reduceLE, Int.reduceNeg, Int.reduceAdd, Int.reduceEq, Int.reduceNe] <;> omega
    · simp (disch := first | omega | (simp only [List.length_set, List.length_append, List.length_cons, List.length_nil, rows_len, zs]; first | done | omega)) only [ep_impl_VecOK, hv0, hb1, gs, reduceIte, reduceCtorEq, Nat.reduceAdd, Nat.reduceMul, Nat.reduceSub, Nat.reduceBEq, Nat.reduceEqDiff, Nat.reduceLeDiff, Nat.reduceLT, Nat.reduceGT, Int.reduceToNat, Int.reduceLT, Int.reduceLE, Int.reduceNeg, Int.reduceAdd, Int.reduceEq, Int.reduceNe] <;> omega
    · intro x tt1 hh1 hx
      rcases ee0 with o6 | r
      · obtain ⟨rfl, ftt1_0, ftt1_1, ftt1_2, ftt1_3⟩ := hx
        dsimp only at hp
        obtain ⟨v7, hv7, hp⟩ := bind_eq hp
        obtain ⟨ee1, hee1, hp⟩ := bind_eq hp
        simp (disch := first | omega | (simp only [List.length_set, List.length_append, List.length_cons, List.length_nil, rows_len, zs]; first | done | omega)) only [ep_impl_VecOK, hv0, hb1, ftt1_0, ftt1_1, ftt1_2, ftt1_3, hv7, gs, reduceIte, reduceCtorEq, Nat.reduceAdd, Nat.reduceMul, Nat.reduceSub, Nat.reduceBEq, Nat.reduceEqDiff, Nat.reduceLeDiff, Nat.reduceLT, Nat.reduceGT, Int.reduceToNat, Int.reduceLT, Int.reduceLE, Int.reduceNeg, Int.reduceAdd, Int.reduceEq, Int.reduceNe]
        refine W_loopP 2 (fun s t h => match s with | (s8, s9) => t 5 = .hsl hh1.length s8.length 0 1 false s8.length ∧ t 27 = .i (.sl 1 (v7.map enc)) ∧ t 28 = .i (.s (.int .i64 (v7.length : Int))) ∧ t 29 = .i (.s (.int .i64 s9)) ∧ getCells h hh1.length s8.length = some (rows (s8 : List U8)) ∧ hh1.length < h.length) (RK [.tmp 2, .tmp 3] (o_impl_VecBytes)) ?_ hee1 ?_ ?_
        · rintro ⟨s8, s9⟩ ee tt2 hh2 ⟨ftt2_0, ftt2_1, ftt2_2, ftt2_3, ftt2_4, ftt2_5⟩ hp
          rw [p_impl_VecBytes_l1] at hp
          by_cases hb10 : (decide (s9 < (v7.length : Int))) = true
          · rw [if_t hb10] at hp
            obtain ⟨v11, hv11, hp⟩ := bind_eq hp
            obtain ⟨v12, hv12, hp⟩ := bind_eq hp
            simp (disch := first | omega | (simp only [List.length_set, List.length_append, List.length_cons, List.length_nil, rows_len, zs]; first | done | omega)) only [ep_impl_VecOK, hv0, hb1, ftt1_0, ftt1_1, ftt1_2, ftt1_3, hv7, ftt2_0, ftt2_1, ftt2_2, ftt2_3, ftt2_4, ftt2_5, hb10, hv11, gs, reduceIte, reduceCtorEq, Nat.reduceAdd, Nat.reduceMul, Nat.reduceSub, Nat.reduceBEq, Nat.reduceEqDiff, Nat.reduceLeDiff, Nat.reduceLT, Nat.reduceGT, Int.reduceToNat, Int.reduceLT, Int.reduceLE, Int.reduceNeg, Int.reduceAdd, Int.reduceEq, Int.reduceNe]
            refine call_f (fun h => getCells h hh1.length s8.length = some (rows (s8 : List U8)) ∧ hh1.length < h.length) (fun h v h2 => i_impl_appendInt hh1.length s8.length h v12 v h2) ?_ ?_ ?_
            · simp (disch := first | omega | (simp only [List.length_set, List.length_append, List.length_cons, List.length_nil, rows_len, zs]; first | done | omega)) only [ep_impl_VecOK, hv0, hb1, ftt1_0, ftt1_1, ftt1_2, ftt1_3, hv7, ftt2_0, ftt2_1, ftt2_2, ftt2_3, ftt2_4, ftt2_5, hb10, hv11, hv12, gs, reduceIte, reduceCtorEq, Nat.reduceAdd, Nat.reduceMul, Nat.reduceSub, Nat.reduceBEq, Nat.reduceEqDiff, Nat.reduceLeDiff, Nat.reduceLT, Nat.reduceGT, Int.reduceToNat, Int.reduceLT, Int.reduceLE, Int.reduceNeg, Int.reduceAdd, Int.reduceEq, Int.reduceNe] <;> omega
            · rintro h ⟨c3_0, c3_1⟩
              exact e_impl_appendInt _ _ _ hv12 hh1.length s8.length h (by first | omega | rfl) c3_0
            · rintro h v hh3 ⟨c3_0, c3_1⟩ hpost
              obtain ⟨kk3, rfl, w3_0⟩ := hpost
              have d3_0 : getCells hh3 hh1.length v12.length = some (rows (v12 : List U8)) := w3_0
              have mm3_0 := len_rows w3_0
              simp only [zs] at mm3_0
              have d3_0l := keep_lt kk3 c3_1
              have hp := Option.some.inj hp
              subst hp
              simp (disch := first | omega | (simp only [List.length_set, List.length_append, List.length_cons, List.length_nil, rows_len, zs]; first | done | omega)) only [ep_impl_VecOK, hv0, hb1, ftt1_0, ftt1_1, ftt1_2, ftt1_3, hv7, ftt2_0, ftt2_1, ftt2_2, ftt2_3, ftt2_4, ftt2_5, hb10, hv11, hv12, d3_0, gs, reduceIte, reduceCtorEq, Nat.reduceAdd, Nat.reduceMul, Nat.reduceSub, Nat.reduceBEq, Nat.reduceEqDiff, Nat.reduceLeDiff, Nat.reduceLT, Nat.reduceGT, Int.reduceToNat, Int.reduceLT, Int.reduceLE, Int.reduceNeg, Int.reduceAdd, Int.reduceEq, Int.reduceNe] <;> omega
          · replace hb10 := eq_false_of_ne_true hb10
            rw [if_f hb10] at hp
            have hp := Option.some.inj hp
            subst hp
            simp (disch := first | omega | (simp only [List.length_set, List.length_append, List.length_cons, List.length_nil, rows_len, zs]; first | done | omega)) only [ep_impl_VecOK, hv0, hb1, ftt1_0, ftt1_1, ftt1_2, ftt1_3, hv7, ftt2_0, ftt2_1, ftt2_2, ftt2_3, ftt2_4, ftt2_5, hb10, gs, reduceIte, reduceCtorEq, Nat.reduceAdd, Nat.reduceMul, Nat.reduceSub, Nat.reduceBEq, Nat.reduceEqDiff, Nat.reduceLeDiff, Nat.reduceLT, Nat.reduceGT, Int.reduceToNat, Int.reduceLT, Int.reduceLE, Int.reduceNeg, Int.reduceAdd, Int.reduceEq, Int.reduceNe] <;> omega
        · simp (disch := first | omega | (simp only [List.length_set, List.length_append, List.length_cons, List.length_nil, rows_len, zs]; first | done | omega)) only [ep_impl_VecOK, hv0, hb1, ftt1_0, ftt1_1, ftt1_2, ftt1_3, hv7, gs, reduceIte, reduceCtorEq, Nat.reduceAdd, Nat.reduceMul, Nat.reduceSub, Nat.reduceBEq, Nat.reduceEqDiff, Nat.reduceLeDiff, Nat.reduceLT, Nat.reduceGT, Int.reduceToNat, Int.reduceLT, Int.reduceLE, Int.reduceNeg, Int.reduceAdd, Int.reduceEq, Int.reduceNe] <;> omega
        · intro x tt4 hh4 hx
          rcases ee1 with ⟨o13, o14⟩ | r
          · obtain ⟨rfl, ftt4_0, ftt4_1, ftt4_2, ftt4_3, ftt4_4, ftt4_5⟩ := hx
            dsimp only at hp
            have hp := Option.some.inj hp
            subst hp
            simp (disch := first | omega | (simp only [List.length_set, List.length_append, List.length_cons, List.length_nil, rows_len, zs]; first | done | omega)) only [ep_impl_VecOK, hv0, hb1, ftt1_0, ftt1_1, ftt1_2, ftt1_3, hv7, ftt4_0, ftt4_1, ftt4_2, ftt4_3, ftt4_4, ftt4_5, gs, reduceIte, reduceCtorEq, Nat.reduceAdd, Nat.reduceMul, Nat.reduceSub, Nat.reduceBEq, Nat.reduceEqDiff, Nat.reduceLeDiff, Nat.reduceLT, Nat.reduceGT, Int.reduceToNat, Int.reduceLT, Int.reduceLE, Int.reduceNeg, Int.reduceAdd, Int.reduceEq, Int.reduceNe]
            refine ⟨hh1.length, ?_⟩
            simp (disch := first | omega | (simp only [List.length_set, List.length_append, List.length_cons, List.length_nil, rows_len, zs]; first | done | omega)) only [ep_impl_VecOK, hv0, hb1, ftt1_0, ftt1_1, ftt1_2, ftt1_3, hv7, ftt4_0, ftt4_1, ftt4_2, ftt4_3, ftt4_4, ftt4_5, o_impl_VecBytes, gs, reduceIte, reduceCtorEq, Nat.reduceAdd, Nat.reduceMul, Nat.reduceSub, Nat.reduceBEq, Nat.reduceEqDiff, Nat.reduceLeDiff, Nat.reduceLT, Nat.reduceGT, Int.reduceToNat, Int.reduceLT, Int.reduceLE, Int.reduceNeg, Int.reduceAdd, Int.reduceEq, Int.reduceNe] <;> omega
          · obtain ⟨rfl, hx⟩ := hx
            dsimp only at hp
            cases hp
            simp only [seqK_ret, blockK_ret, retK_RK (K := o_impl_VecBytes), hx, and_self, true_and]
      · obtain ⟨rfl, hx⟩ := hx
        dsimp only at hp
        cases hp
        simp only [seqK_ret, blockK_ret, retK_RK (K := o_impl_VecBytes), hx, and_self, true_and]
  · replace hb1 := eq_false_of_ne_true hb1
    rw [if_f hb1] at hp
    have hp := Option.some.inj hp
    subst hp
    simp (disch := first | omega | (simp only [List.length_set, List.length_append, List.length_cons, List.length_nil, rows_len, zs]; first | done | omega)) only [ep_impl_VecOK, hv0, hb1, gs, reduceIte, reduceCtorEq, Nat.reduceAdd, Nat.reduceMul, Nat.reduceSub, Nat.reduceBEq, Nat.reduceEqDiff, Nat.reduceLeDiff, Nat.reduceLT, Nat.reduceGT, Int.reduceToNat, Int.reduceLT, Int.reduceLE, Int.reduceNeg, Int.reduceAdd, Int.reduceEq, Int.reduceNe]
    refine ⟨2, ?_⟩
    simp (disch := first | omega | (simp only [List.length_set, List.length_append, List.length_cons, List.length_nil, rows_len, zs]; first | done | omega)) only [ep_impl_VecOK, hv0, hb1, o_impl_VecBytes, gs, reduceIte, reduceCtorEq, Nat.reduceAdd, Nat.reduceMul, Nat.reduceSub, Nat.reduceBEq, Nat.reduceEqDiff, Nat.reduceLeDiff, Nat.reduceLT, Nat.reduceGT, Int.reduceToNat, Int.reduceLT, Int.reduceLE, Int.reduceNeg, Int.reduceAdd, Int.reduceEq, Int.reduceNe] <;> omega
theorem ko_impl_VecBytes {P : Program} {env : Env} {f_impl_VecOK : Nat} {f_impl_appendInt : Nat}  (ep_impl_VecOK : env (2 * f_impl_VecOK) = pureFn true (FA fun a : TVec => p_impl_VecOK a)) (e_impl_appendInt : k_impl_appendInt (env (2 * f_impl_appendInt + 1))) : k_impl_VecBytes (ownFn P env (c_impl_VecBytes f_impl_VecOK f_impl_appendInt)) := by
  intro x0 b hp h args has
  obtain ⟨⟨v, H2⟩, hr, n0, rfl, wn0⟩ := w_impl_VecBytes ep_impl_VecOK e_impl_appendInt x0 hp
  exact ⟨_, own_call has hr rfl, keep_moved, n0 + h.length, rfl, (moved_lt wn0).2, (moved_lt wn0).1, moved_rows wn0⟩

noncomputable def p_laws_eqByteS_l0 (x0 : List U8) (x1 : List U8) : Int → Option (Lp (Int) Bool)
  | s1 =>
    if (decide (s1 < (x0.length : Int))) = true then
      (get? x0 s1).bind fun v3 =>
      (get? x1 s1).bind fun v4 =>
      if (decide (v3.v = v4.v)) = true then
        some (.go (w64 (s1 + 1)))
      else
        some (.ret false)
    else
      some (.out s1)
noncomputable def p_laws_eqByteS (x0 : List U8) (x1 : List U8) : Option Bool :=
  if (decide ((x0.length : Int) = (x1.length : Int))) = true then
    (loopP (p_laws_eqByteS_l0 x0 x1) 0).bind fun ee0 => match ee0 with
    | .ret r => some r
    | .out o6 =>
      some true
  else
    some false
def c_laws_eqByteS : AFn := ⟨26, (.seq (.ops [⟨(.some 4), (.mv (.const (.bool false))), .none, []⟩]) (.seq (.seq (.ops [⟨(.some 6), (.mv (.tmp 0)), .none, []⟩, ⟨(.some 7), (.len (.tmp 6)), .none, []⟩, ⟨(.some 8), (.mv (.tmp 1)), .none, []⟩, ⟨(.some 9), (.len (.tmp 8)), .none, []⟩, ⟨(.some 10), (.pu (.n (.ar .neq)) [(.tmp 7), (.tmp 9)]), .none, []⟩]) (.cond (.tmp 10) (.seq (.ops [⟨(.some 4), (.mv (.const (.bool false))), .none, []⟩]) .ret) .skip)) (.seq (.seq (.ops [⟨(.some 5), (.mv (.const (.int .i64 0))), .none, []⟩]) (.block 0 (.loop (.seq (.seq (.ops [⟨(.some 11), (.mv (.tmp 5)), .none, []⟩, ⟨(.some 12), (.mv (.tmp 0)), .none, []⟩, ⟨(.some 13), (.len (.tmp 12)), .none, []⟩, ⟨(.some 14), (.pu (.n (.ar .lss)) [(.tmp 11), (.tmp 13)]), .none, []⟩]) (.cond (.tmp 14) .skip (.exit 0))) (.seq (.block 1 (.seq (.ops [⟨(.some 17), (.mv (.tmp 0)), .none, []⟩, ⟨(.some 18), (.mv (.tmp 5)), .none, []⟩, ⟨(.some 19), (.idxS 1 (.tmp 17) (.tmp 18)), .none, []⟩, ⟨(.some 20), (.load 1 false (.tmp 19)), .none, []⟩, ⟨(.some 21), (.mv (.tmp 1)), .none, []⟩, ⟨(.some 22), (.mv (.tmp 5)), .none, []⟩, ⟨(.some 23), (.idxS 1 (.tmp 21) (.tmp 22)), .none, []⟩, ⟨(.some 24), (.load 1 false (.tmp 23)), .none, []⟩, ⟨(.some 25), (.pu (.n (.ar .neq)) [(.tmp 20), (.tmp 24)]), .none, []⟩]) (.cond (.tmp 25) (.seq (.ops [⟨(.some 4), (.mv (.const (.bool false))), .none, []⟩]) .ret) .skip))) (.ops [⟨(.some 15), (.mv (.tmp 5)), .none, []⟩, ⟨(.some 16), (.pu (.n (.ar .add)) [(.tmp 15), (.const (.int .i64 1))]), .none, []⟩, ⟨(.some 5), (.mv (.tmp 16)), .none, []⟩])))))) (.seq (.ops [⟨(.some 4), (.mv (.const (.bool true))), .none, []⟩]) .ret)))), [(.tmp 4)]⟩
set_option maxHeartbeats 10000000 in
theorem d_laws_eqByteS {P : Program} {env : Env}  (x0 : List U8) (x1 : List U8) {b : Bool} (hp : p_laws_eqByteS x0 x1 = some b) : R P env (c_laws_eqByteS) ((encA (x0, x1)).map ofI) [] (Tells true b) := by
  refine R_of (by simp [c_laws_eqByteS, encA]) ?_
  unfold c_laws_eqByteS
  unfold p_laws_eqByteS at hp
  by_cases hb0 : (decide ((x0.length : Int) = (x1.length : Int))) = true
  · rw [if_t hb0] at hp
    obtain ⟨ee0, hee0, hp⟩ := bind_eq hp
    simp (disch := first | omega | (simp only [List.length_set, List.length_append, List.length_cons, List.length_nil, rows_len, zs]; first | done | omega)) only [hb0, gs, reduceIte, reduceCtorEq, Nat.reduceAdd, Nat.reduceMul, Nat.reduceSub, Nat.reduceBEq, Nat.reduceEqDiff, Nat.reduceLeDiff, Nat.reduceLT, Nat.reduceGT, Int.reduceToNat, Int.reduceLT, Int.reduceLE, Int.reduceNeg, Int.reduceAdd, Int.reduceEq, Int.reduceNe]
    refine W_loopP 0 (fun s t h => match s with | s1 => t 0 = .i (.sl 1 (x0.map enc)) ∧ t 1 = .i (.sl 1 (x1.map enc)) ∧ t 5 = .i (.s (.int .i64 s1))) (RK [.tmp 4] (Tells true)) ?_ hee0 ?_ ?_
    · rintro s1 ee tt0 hh0 ⟨ftt0_0, ftt0_1, ftt0_2⟩ hp
      rw [p_laws_eqByteS_l0] at hp
      by_cases hb2 : (decide (s1 < (x0.length : Int))) = true
      · rw [if_t hb2] at hp
        obtain ⟨v3, hv3, hp⟩ := bind_eq hp
        obtain ⟨v4, hv4, hp⟩ := bind_eq hp
        by_cases hb5 : (decide (v3.v = v4.v)) = true
        · rw [if_t hb5] at hp
          have hp := Option.some.inj hp
          subst hp
          simp (disch := first | omega | (simp only [List.length_set, List.length_append, List.length_cons, List.length_nil, rows_len, zs]; first | done | omega)) only [hb0, ftt0_0, ftt0_1, ftt0_2, hb2, hv3, hv4, hb5, gs, reduceIte, reduceCtorEq, Nat.reduceAdd, Nat.reduceMul, Nat.reduceSub, Nat.reduceBEq, Nat.reduceEqDiff, Nat.reduceLeDiff, Nat.reduceLT, Nat.reduceGT, Int.reduceToNat, Int.reduceLT, Int.reduceLE, Int.reduceNeg, Int.reduceAdd, Int.reduceEq, Int.reduceNe] <;> omega
        · replace hb5 := eq_false_of_ne_true hb5
          rw [if_f hb5] at hp
          have hp := Option.some.inj hp
          subst hp
          simp (disch := first | omega | (simp only [List.length_set, List.length_append, List.length_cons, List.length_nil, rows_len, zs]; first | done | omega)) only [hb0, ftt0_0, ftt0_1, ftt0_2, hb2, hv3, hv4, hb5, gs, reduceIte, reduceCtorEq, Nat.reduceAdd, Nat.reduceMul, Nat.reduceSub, Nat.reduceBEq, Nat.reduceEqDiff, Nat.reduceLeDiff, Nat.reduceLT, Nat.reduceGT, Int.reduceToNat, Int.reduceLT, Int.reduceLE, Int.reduceNeg, Int.reduceAdd, Int.reduceEq, Int.reduceNe]
      · replace hb2 := eq_false_of_ne_true hb2
        rw [if_f hb2] at hp
        have hp := Option.some.inj hp
        subst hp
        simp (disch := first | omega | (simp only [List.length_set, List.length_append, List.length_cons, List.length_nil, rows_len, zs]; first | done | omega)) only [hb0, ftt0_0, ftt0_1, ftt0_2, hb2, gs, reduceIte, reduceCtorEq, Nat.reduceAdd, Nat.reduceMul, Nat.reduceSub, Nat.reduceBEq, Nat.reduceEqDiff, Nat.reduceLeDiff, Nat.reduceLT, Nat.reduceGT, Int.reduceToNat, Int.reduceLT, Int.reduceLE, Int.reduceNeg, Int.reduceAdd, Int.reduceEq, Int.reduceNe] <;> omega
    · simp (disch := first | omega | (simp only [List.length_set, List.length_append, List.length_cons, List.length_nil, rows_len, zs]; first | done | omega)) only [hb0, gs, reduceIte, reduceCtorEq, Nat.reduceAdd, Nat.reduceMul, Nat.reduceSub, Nat.reduceBEq, Nat.reduceEqDiff, Nat.reduceLeDiff, Nat.reduceLT, Nat.reduceGT, Int.reduceToNat, Int.reduceLT, Int.reduceLE, Int.reduceNeg, Int.reduceAdd, Int.reduceEq, Int.reduceNe] <;> omega
    · intro x tt1 hh1 hx
      rcases ee0 with o6 | r
      · obtain ⟨rfl, ftt1_0, ftt1_1, ftt1_2⟩ := hx
        dsimp only at hp
        have hp := Option.some.inj hp
        subst hp
        simp (disch := first | omega | (simp only [List.length_set, List.length_append, List.length_cons, List.length_nil, rows_len, zs]; first | done | omega)) only [hb0, ftt1_0, ftt1_1, ftt1_2, gs, reduceIte, reduceCtorEq, Nat.reduceAdd, Nat.reduceMul, Nat.reduceSub, Nat.reduceBEq, Nat.reduceEqDiff, Nat.reduceLeDiff, Nat.reduceLT, Nat.reduceGT, Int.reduceToNat, Int.reduceLT, Int.reduceLE, Int.reduceNeg, Int.reduceAdd, Int.reduceEq, Int.reduceNe]
      · obtain ⟨rfl, hx⟩ := hx
        dsimp only at hp
        cases hp
        simp only [seqK_ret, blockK_ret, retK_RK (K := Tells true), hx, and_self, true_and]
  · replace hb0 := eq_false_of_ne_true hb0
    rw [if_f hb0] at hp
    have hp := Option.some.inj hp
    subst hp
    simp (disch := first | omega | (simp only [List.length_set, List.length_append, List.length_cons, List.length_nil, rows_len, zs]; first | done | omega)) only [hb0, gs, reduceIte, reduceCtorEq, Nat.reduceAdd, Nat.reduceMul, Nat.reduceSub, Nat.reduceBEq, Nat.reduceEqDiff, Nat.reduceLeDiff, Nat.reduceLT, Nat.reduceGT, Int.reduceToNat, Int.reduceLT, Int.reduceLE, Int.reduceNeg, Int.reduceAdd, Int.reduceEq, Int.reduceNe]

noncomputable def p_laws_eqIntS_l0 (x0 : List Int) (x1 : List Int) : Int → Option (Lp (Int) Bool)
  | s1 =>
    if (decide (s1 < (x0.length : Int))) = true then
      (get? x0 s1).bind fun v3 =>
      (get? x1 s1).bind fun v4 =>
      if (decide (v3 = v4)) = true then
        some (.go (w64 (s1 + 1)))
      else
        some (.ret false)
    else
      some (.out s1)
noncomputable def p_laws_eqIntS (x0 : List Int) (x1 : List Int) : Option Bool :=
  if (decide ((x0.length : Int) = (x1.length : Int))) = true then
    (loopP (p_laws_eqIntS_l0 x0 x1) 0).bind fun ee0 => match ee0 with
    | .ret r => some r
    | .out o6 =>
      some true
  else
    some false
def c_laws_eqIntS : AFn := ⟨26, (.seq (.ops [⟨(.some 4), (.mv (.const (.bool false))), .none, []⟩]) (.seq (.seq (.ops [⟨(.some 6), (.mv (.tmp 0)), .none, []⟩, ⟨(.some 7), (.len (.tmp 6)), .none, []⟩, ⟨(.some 8), (.mv (.tmp 1)), .none, []⟩, ⟨(.some 9), (.len (.tmp 8)), .none, []⟩, ⟨(.some 10), (.pu (.n (.ar .neq)) [(.tmp 7), (.tmp 9)]), .none, []⟩]) (.cond (.tmp 10) (.seq (.ops [⟨(.some 4), (.mv (.const (.bool false))), .none, []⟩]) .ret) .skip)) (.seq (.seq (.ops [⟨(.some 5), (.mv (.const (.int .i64 0))), .none, []⟩]) (.block 0 (.loop (.seq (.seq (.ops [⟨(.some 11), (.mv (.tmp 5)), .none, []⟩, ⟨(.some 12), (.mv (.tmp 0)), .none, []⟩, ⟨(.some 13), (.len (.tmp 12)), .none, []⟩, ⟨(.some 14), (.pu (.n (.ar .lss)) [(.tmp 11), (.tmp 13)]), .none, []⟩]) (.cond (.tmp 14) .skip (.exit 0))) (.seq (.block 1 (.seq (.ops [⟨(.some 17), (.mv (.tmp 0)), .none, []⟩, ⟨(.some 18), (.mv (.tmp 5)), .none, []⟩, ⟨(.some 19), (.idxS 1 (.tmp 17) (.tmp 18)), .none, []⟩, ⟨(.some 20), (.load 1 false (.tmp 19)), .none, []⟩, ⟨(.some 21), (.mv (.tmp 1)), .none, []⟩, ⟨(.some 22), (.mv (.tmp 5)), .none, []⟩, ⟨(.some 23), (.idxS 1 (.tmp 21) (.tmp 22)), .none, []⟩, ⟨(.some 24), (.load 1 false (.tmp 23)), .none, []⟩, ⟨(.some 25), (.pu (.n (.ar .neq)) [(.tmp 20), (.tmp 24)]), .none, []⟩]) (.cond (.tmp 25) (.seq (.ops [⟨(.some 4), (.mv (.const (.bool false))), .none, []⟩]) .ret) .skip))) (.ops [⟨(.some 15), (.mv (.tmp 5)), .none, []⟩, ⟨(.some 16), (.pu (.n (.ar .add)) [(.tmp 15), (.const (.int .i64 1))]), .none, []⟩, ⟨(.some 5), (.mv (.tmp 16)), .none, []⟩])))))) (.seq (.ops [⟨(.some 4), (.mv (.const (.bool true))), .none, []⟩]) .ret)))), [(.tmp 4)]⟩
set_option maxHeartbeats 10000000 in
theorem d_laws_eqIntS {P : Program} {env : Env}  (x0 : List Int) (x1 : List Int) {b : Bool} (hp : p_laws_eqIntS x0 x1 = some b) : R P env (c_laws_eqIntS) ((encA (x0, x1)).map ofI) [] (Tells true b) := by
  refine R_of (by simp [c_laws_eqIntS, encA]) ?_
  unfold c_laws_eqIntS
  unfold p_laws_eqIntS at hp
  by_cases hb0 : (decide ((x0.length : Int) = (x1.length : Int))) = true
  · rw [if_t hb0] at hp
    obtain ⟨ee0, hee0, hp⟩ := bind_eq hp
    simp (disch := first | omega | (simp only [List.length_set, List.length_append, List.length_cons, List.length_nil, rows_len, zs]; first | done | omega)) only [hb0, gs, reduceIte, reduceCtorEq, Nat.reduceAdd, Nat.reduceMul, Nat.reduceSub, Nat.reduceBEq, Nat.reduceEqDiff, Nat.reduceLeDiff, Nat.reduceLT, Nat.reduceGT, Int.reduceToNat, Int.reduceLT, Int.reduceLE, Int.reduceNeg, Int.reduceAdd, Int.reduceEq, Int.reduceNe]
    refine W_loopP 0 (fun s t h => match s with | s1 => t 0 = .i (.sl 1 (x0.map enc)) ∧ t 1 = .i (.sl 1 (x1.map enc)) ∧ t 5 = .i (.s (.int .i64 s1))) (RK [.tmp 4] (Tells true)) ?_ hee0 ?_ ?_
    · rintro s1 ee tt0 hh0 ⟨ftt0_0, ftt0_1, ftt0_2⟩ hp
      rw [p_laws_eqIntS_l0] at hp
      by_cases hb2 : (decide (s1 < (x0.length : Int))) = true
      · rw [if_t hb2] at hp
        obtain ⟨v3, hv3, hp⟩ := bind_eq hp
        obtain ⟨v4, hv4, hp⟩ := bind_eq hp
        by_cases hb5 : (decide (v3 = v4)) = true
        · rw [if_t hb5] at hp
          have hp := Option.some.inj hp
          subst hp
          simp (disch := first | omega | (simp only [List.length_set, List.length_append, List.length_cons, List.length_nil, rows_len, zs]; first | done | omega)) only [hb0, ftt0_0, ftt0_1, ftt0_2, hb2, hv3, hv4, hb5, gs, reduceIte, reduceCtorEq, Nat.reduceAdd, Nat.reduceMul, Nat.reduceSub, Nat.reduceBEq, Nat.reduceEqDiff, Nat.reduceLeDiff, Nat.reduceLT, Nat.reduceGT, Int.reduceToNat, Int.reduceLT, Int.reduceLE, Int.reduceNeg, Int.reduceAdd, Int.reduceEq, Int.reduceNe] <;> omega
        · replace hb5 := eq_false_of_ne_true hb5
          rw [if_f hb5] at hp
          have hp := Option.some.inj hp
          subst hp
          simp (disch := first | omega | (simp only [List.length_set, List.length_append, List.length_cons, List.length_nil, rows_len, zs]; first | done | omega)) only [hb0, ftt0_0, ftt0_1, ftt0_2, hb2, hv3, hv4, hb5, gs, reduceIte, reduceCtorEq, Nat.reduceAdd, Nat.reduceMul, Nat.reduceSub, Nat.reduceBEq, Nat.reduceEqDiff, Nat.reduceLeDiff, Nat.reduceLT, Nat.reduceGT, Int.reduceToNat, Int.reduceLT, Int.reduceLE, Int.reduceNeg, Int.reduceAdd, Int.reduceEq, Int.reduceNe]
      · replace hb2 := eq_false_of_ne_true hb2
        rw [if_f hb2] at hp
        have hp := Option.some.inj hp
        subst hp
        simp (disch := first | omega | (simp only [List.length_set, List.length_append, List.length_cons, List.length_nil, rows_len, zs]; first | done | omega)) only [hb0, ftt0_0, ftt0_1, ftt0_2, hb2, gs, reduceIte, reduceCtorEq, Nat.reduceAdd, Nat.reduceMul, Nat.reduceSub, Nat.reduceBEq, Nat.reduceEqDiff, Nat.reduceLeDiff, Nat.reduceLT, Nat.reduceGT, Int.reduceToNat, Int.reduceLT, Int.reduceLE, Int.reduceNeg, Int.reduceAdd, Int.reduceEq, Int.reduceNe] <;> omega
    · simp (disch := first | omega | (simp only [List.length_set, List.length_append, List.length_cons, List.length_nil, rows_len, zs]; first | done | omega)) only [hb0, gs, reduceIte, reduceCtorEq, Nat.reduceAdd, Nat.reduceMul, Nat.reduceSub, Nat.reduceBEq, Nat.reduceEqDiff, Nat.reduceLeDiff, Nat.reduceLT, Nat.reduceGT, Int.reduceToNat, Int.reduceLT, Int.reduceLE, Int.reduceNeg, Int.reduceAdd, Int.reduceEq, Int.reduceNe] <;> omega
    · intro x tt1 hh1 hx
      rcases ee0 with o6 | r
      · obtain ⟨rfl, ftt1_0, ftt1_1, ftt1_2⟩ := hx
        dsimp only at hp
        have hp := Option.some.inj hp
        subst hp
        simp (disch := first | omega | (simp only [List.length_set, List.length_append, List.length_cons, List.length_nil, rows_len, zs]; first | done | omega)) only [hb0, ftt1_0, ftt1_1, ftt1_2, gs, reduceIte, reduceCtorEq, Nat.reduceAdd, Nat.reduceMul, Nat.reduceSub, Nat.reduceBEq, Nat.reduceEqDiff, Nat.reduceLeDiff, Nat.reduceLT, Nat.reduceGT, Int.reduceToNat, Int.reduceLT, Int.reduceLE, Int.reduceNeg, Int.reduceAdd, Int.reduceEq, Int.reduceNe]
      · obtain ⟨rfl, hx⟩ := hx
        dsimp only at hp
        cases hp
        simp only [seqK_ret, blockK_ret, retK_RK (K := Tells true), hx, and_self, true_and]
  · replace hb0 := eq_false_of_ne_true hb0
    rw [if_f hb0] at hp
    have hp := Option.some.inj hp
    subst hp
    simp (disch := first | omega | (simp only [List.length_set, List.length_append, List.length_cons, List.length_nil, rows_len, zs]; first | done | omega)) only [hb0, gs, reduceIte, reduceCtorEq, Nat.reduceAdd, Nat.reduceMul, Nat.reduceSub, Nat.reduceBEq, Nat.reduceEqDiff, Nat.reduceLeDiff, Nat.reduceLT, Nat.reduceGT, Int.reduceToNat, Int.reduceLT, Int.reduceLE, Int.reduceNeg, Int.reduceAdd, Int.reduceEq, Int.reduceNe]

noncomputable def p_laws_eqVector (x0 : TVec) (x1 : TVec) : Option Bool :=
  (p_laws_eqIntS x0.counts x1.counts).bind fun v0 =>
  if (v0) = true then
    some true
  else
    some false
def c_laws_eqVector (f_laws_eqIntS : Nat) : AFn := ⟨11, (.seq (.ops [⟨(.some 2), (.box (.tmp 0)), .none, []⟩, ⟨(.some 3), (.box (.tmp 1)), .none, []⟩, ⟨(.some 4), (.mv (.const (.bool false))), .none, []⟩]) (.seq (.seq (.ops [⟨(.some 5), (.fieldA 0 (.tmp 2)), .none, []⟩, ⟨(.some 6), (.load 1 false (.tmp 5)), .none, []⟩, ⟨(.some 7), (.fieldA 0 (.tmp 3)), .none, []⟩, ⟨(.some 8), (.load 1 false (.tmp 7)), .none, []⟩, ⟨(.some 9), (.call (2 * f_laws_eqIntS) [(.tmp 6), (.tmp 8)]), .none, []⟩, ⟨(.some 10), (.pu (.n (.un .not)) [(.tmp 9)]), .none, []⟩]) (.cond (.tmp 10) (.seq (.ops [⟨(.some 4), (.mv (.const (.bool false))), .none, []⟩]) .ret) .skip)) (.seq (.ops [⟨(.some 4), (.mv (.const (.bool true))), .none, []⟩]) .ret))), [(.tmp 4)]⟩
set_option maxHeartbeats 10000000 in
theorem d_laws_eqVector {P : Program} {env : Env} {f_laws_eqIntS : Nat}  (ep_laws_eqIntS : env (2 * f_laws_eqIntS) = pureFn true (FA fun a : List Int × List Int => p_laws_eqIntS a.1 a.2)) (x0 : TVec) (x1 : TVec) {b : Bool} (hp : p_laws_eqVector x0 x1 = some b) : R P env (c_laws_eqVector f_laws_eqIntS) ((encA (x0, x1)).map ofI) [] (Tells true b) := by
  refine R_of (by simp [c_laws_eqVector, encA]) ?_
  unfold c_laws_eqVector
  unfold p_laws_eqVector at hp
  obtain ⟨v0, hv0, hp⟩ := bind_eq hp
  by_cases hb1 : (v0) = true
  · rw [if_t hb1] at hp
    have hp := Option.some.inj hp
    subst hp
    simp (disch := first | omega | (simp only [List.length_set, List.length_append, List.length_cons, List.length_nil, rows_len, zs]; first | done | omega)) only [ep_laws_eqIntS, hv0, hb1, gs, reduceIte, reduceCtorEq, Nat.reduceAdd, Nat.reduceMul, Nat.reduceSub, Nat.reduceBEq, Nat.reduceEqDiff, Nat.reduceLeDiff, Nat.reduceLT, Nat.reduceGT, Int.reduceToNat, Int.reduceLT, Int.reduceLE, Int.reduceNeg, Int.reduceAdd, Int.reduceEq, Int.reduceNe]
  · replace hb1 := eq_false_of_ne_true hb1
    rw [if_f hb1] at hp
    have hp := Option.some.inj hp
    subst hp
    simp (disch := first | omega | (simp only [List.length_set, List.length_append, List.length_cons, List.length_nil, rows_len, zs]; first | done | omega)) only [ep_laws_eqIntS, hv0, hb1, gs, reduceIte, reduceCtorEq, Nat.reduceAdd, Nat.reduceMul, Nat.reduceSub, Nat.reduceBEq, Nat.reduceEqDiff, Nat.reduceLeDiff, Nat.reduceLT, Nat.reduceGT, Int.reduceToNat, Int.reduceLT, Int.reduceLE, Int.reduceNeg, Int.reduceAdd, Int.reduceEq, Int.reduceNe]

noncomputable def p_laws_markIntS_l0 : List Int × Int × Int → Option (Lp (List Int × Int × Int) (T2 Int (List Int)))
  | (s0, s1, s2) =>
    if (decide (s2 < (s0.length : Int))) = true then
      (get? s0 s2).bind fun v5 =>
      some (.go ((s0.set s2.toNat s1), w64 (s1 + 1), w64 (s2 + 1)))
    else
      some (.out (s0, s1, s2))
noncomputable def p_laws_markIntS (x0 : List Int) (x1 : Int) : Option (T2 Int (List Int)) :=
  (loopP (p_laws_markIntS_l0) (x0, x1, 0)).bind fun ee0 => match ee0 with
  | .ret r => some r
  | .out (o7, o8, o9) =>
    some ⟨o8, o7⟩
def c_laws_markIntS : AFn := ⟨19, (.seq (.ops [⟨(.some 4), (.mv (.const (.int .i64 0))), .none, []⟩]) (.seq (.seq (.ops [⟨(.some 5), (.mv (.const (.int .i64 0))), .none, []⟩]) (.block 0 (.loop (.seq (.seq (.ops [⟨(.some 6), (.mv (.tmp 5)), .none, []⟩, ⟨(.some 7), (.mv (.tmp 0)), .none, []⟩, ⟨(.some 8), (.len (.tmp 7)), .none, []⟩, ⟨(.some 9), (.pu (.n (.ar .lss)) [(.tmp 6), (.tmp 8)]), .none, []⟩]) (.cond (.tmp 9) .skip (.exit 0))) (.seq (.block 1 (.seq (.ops [⟨(.some 12), (.mv (.tmp 0)), .none, []⟩, ⟨(.some 13), (.mv (.tmp 5)), .none, []⟩, ⟨(.some 14), (.mv (.tmp 1)), .none, []⟩, ⟨(.some 15), (.idxS 1 (.tmp 12) (.tmp 13)), .none, []⟩, ⟨.none, (.storeV [(0, false)] 1 (.tmp 15) (.tmp 14)), .none, []⟩]) (.ops [⟨(.some 16), (.mv (.tmp 1)), .none, []⟩, ⟨(.some 17), (.pu (.n (.ar .add)) [(.tmp 16), (.const (.int .i64 1))]), .none, []⟩, ⟨(.some 1), (.mv (.tmp 17)), .none, []⟩]))) (.ops [⟨(.some 10), (.mv (.tmp 5)), .none, []⟩, ⟨(.some 11), (.pu (.n (.ar .add)) [(.tmp 10), (.const (.int .i64 1))]), .none, []⟩, ⟨(.some 5), (.mv (.tmp 11)), .none, []⟩])))))) (.seq (.ops [⟨(.some 18), (.mv (.tmp 1)), .none, []⟩, ⟨(.some 4), (.mv (.tmp 18)), .none, []⟩]) .ret))), [(.tmp 4)]⟩
def i_laws_markIntS (pb0 pn0 : Nat) (h : Heap) (b : T2 Int (List Int)) (v : V) (h2 : Heap) : Prop := Keep [pb0] h h2 ∧ v = .i (.s (.int .i64 b.a)) ∧ getCells h2 pb0 pn0 = some (rows b.b)
def k_laws_markIntS (F : Fun) : Prop := ∀ (x0 : List Int) (x1 : Int) (b : T2 Int (List Int)), p_laws_markIntS x0 x1 = some b → ∀ (pb0 pn0 : Nat) (h : Heap), pn0 = (x0).length → getCells h pb0 pn0 = some (rows x0) → ∃ p, F none [.hsl pb0 pn0 0 1 false pn0, .i (.s (.int .i64 x1))] h = some p ∧ i_laws_markIntS pb0 pn0 h b p.1 p.2
set_option maxHeartbeats 10000000 in
theorem w_laws_markIntS {P : Program} {env : Env}  (x0 : List Int) (x1 : Int) {b : T2 Int (List Int)} (hp : p_laws_markIntS x0 x1 = some b) (pb0 pn0 : Nat) (hh : Heap) (pm0 : pn0 = (x0).length) (pf0 : getCells hh pb0 pn0 = some (rows x0)) : R P env (c_laws_markIntS) [.hsl pb0 pn0 0 1 false pn0, .i (.s (.int .i64 x1))] hh (i_laws_markIntS pb0 pn0 hh b) := by
  have pl0 := gc_lt pf0
  have pg0 : getCells hh pb0 x0.length = some (rows x0) := by rw [← pm0]; exact pf0
  refine R_of (by simp [c_laws_markIntS, encA]) ?_
  unfold c_laws_markIntS
  unfold p_laws_markIntS at hp
  obtain ⟨ee0, hee0, hp⟩ := bind_eq hp
  simp (disch := first | omega | (simp only [List.length_set, List.length_append, List.length_cons, List.length_nil, rows_len, zs]; first | done | omega)) only [pf0, pg0, gs, reduceIte, reduceCtorEq, Nat.reduceAdd, Nat.reduceMul, Nat.reduceSub, Nat.reduceBEq, Nat.reduceEqDiff, Nat.reduceLeDiff, Nat.reduceLT, Nat.reduceGT, Int.reduceToNat, Int.reduceLT, Int.reduceLE, Int.reduceNeg, Int.reduceAdd, Int.reduceEq, Int.reduceNe]
  refine W_loopP 0 (fun s t h => match s with | (s0, s1, s2) => t 0 = .hsl pb0 pn0 0 1 false pn0 ∧ t 1 = .i (.s (.int .i64 s1)) ∧ t 5 = .i (.s (.int .i64 s2)) ∧ getCells h pb0 pn0 = some (rows (s0 : List Int)) ∧ pb0 < h.length ∧ Keep [pb0] hh h) (RK [.tmp 4] (i_laws_markIntS pb0 pn0 hh)) ?_ hee0 ?_ ?_
  · rintro ⟨s0, s1, s2⟩ ee tt0 hh0 ⟨ftt0_0, ftt0_1, ftt0_2, ftt0_3, ftt0_4, ftt0_5⟩ hp
    have ztt0_3 := len_rows ftt0_3
    simp only [zs] at ztt0_3
    rw [p_laws_markIntS_l0] at hp
    have hz3 : ((pn0 : Nat) : Int) = (s0.length : Int) := by omega
    by_cases hb4 : (decide (s2 < (s0.length : Int))) = true
    · rw [if_t hb4] at hp
      obtain ⟨v5, hv5, hp⟩ := bind_eq hp
      have gv5 := get_some hv5
      have hs6 : List.take s2.toNat (rows s0) ++ .i (.s (.int .i64 s1)) :: List.drop (s2.toNat + 1) (rows s0) = rows (s0.set s2.toNat s1) := by simpa [splice, zs, cellsV, I.cells, enc_int] using rows_set_off (y := s1) (ys := [.i (.s (.int .i64 s1))]) (k := 0) gv5.2.2 (Nat.le_of_ble_eq_true rfl) (by rfl)
      have hp := Option.some.inj hp
      subst hp
      simp (disch := first | omega | (simp only [List.length_set, List.length_append, List.length_cons, List.length_nil, rows_len, zs]; first | done | omega)) only [i_laws_markIntS, pf0, pg0, ftt0_0, ftt0_1, ftt0_2, ftt0_3, ftt0_4, ftt0_5, hz3, hb4, hv5, (gv5).1, (gv5).2.1, hs6, gs, reduceIte, reduceCtorEq, Nat.reduceAdd, Nat.reduceMul, Nat.reduceSub, Nat.reduceBEq, Nat.reduceEqDiff, Nat.reduceLeDiff, Nat.reduceLT, Nat.reduceGT, Int.reduceToNat, Int.reduceLT, Int.reduceLE, Int.reduceNeg, Int.reduceAdd, Int.reduceEq, Int.reduceNe] <;> (repeat (first | omega | assumption | rfl | exact keep_refl | refine keep_app ?_ | (refine keep_set (by first | (left; simp; done) | (right; simp; omega)) ?_) | refine And.intro ?_ ?_))
    · replace hb4 := eq_false_of_ne_true hb4
      rw [if_f hb4] at hp
      have hp := Option.some.inj hp
      subst hp
      simp (disch := first | omega | (simp only [List.length_set, List.length_append, List.length_cons, List.length_nil, rows_len, zs]; first | done | omega)) only [i_laws_markIntS, pf0, pg0, ftt0_0, ftt0_1, ftt0_2, ftt0_3, ftt0_4, ftt0_5, hz3, hb4, gs, reduceIte, reduceCtorEq, Nat.reduceAdd, Nat.reduceMul, Nat.reduceSub, Nat.reduceBEq, Nat.reduceEqDiff, Nat.reduceLeDiff, Nat.reduceLT, Nat.reduceGT, Int.reduceToNat, Int.reduceLT, Int.reduceLE, Int.reduceNeg, Int.reduceAdd, Int.reduceEq, Int.reduceNe] <;> (repeat (first | omega | assumption | rfl | exact keep_refl | refine keep_app ?_ | (refine keep_set (by first | (left; simp; done) | (right; simp; omega)) ?_) | refine And.intro ?_ ?_))
  · simp (disch := first | omega | (simp only [List.length_set, List.length_append, List.length_cons, List.length_nil, rows_len, zs]; first | done | omega)) only [i_laws_markIntS, pf0, pg0, gs, reduceIte, reduceCtorEq, Nat.reduceAdd, Nat.reduceMul, Nat.reduceSub, Nat.reduceBEq, Nat.reduceEqDiff, Nat.reduceLeDiff, Nat.reduceLT, Nat.reduceGT, Int.reduceToNat, Int.reduceLT, Int.reduceLE, Int.reduceNeg, Int.reduceAdd, Int.reduceEq, Int.reduceNe] <;> (repeat (first | omega | assumption | rfl | exact keep_refl | refine keep_app ?_ | (refine keep_set (by first | (left; simp; done) | (right; simp; omega)) ?_) | refine And.intro ?_ ?_))
  · intro x tt1 hh1 hx
    rcases ee0 with ⟨o7, o8, o9⟩ | r
    · obtain ⟨rfl, ftt1_0, ftt1_1, ftt1_2, ftt1_3, ftt1_4, ftt1_5⟩ := hx
      have ztt1_3 := len_rows ftt1_3
      simp only [zs] at ztt1_3
      dsimp only at hp
      have hp := Option.some.inj hp
      subst hp
      simp (disch := first | omega | (simp only [List.length_set, List.length_append, List.length_cons, List.length_nil, rows_len, zs]; first | done | omega)) only [i_laws_markIntS, pf0, pg0, ftt1_0, ftt1_1, ftt1_2, ftt1_3, ftt1_4, ftt1_5, gs, reduceIte, reduceCtorEq, Nat.reduceAdd, Nat.reduceMul, Nat.reduceSub, Nat.reduceBEq, Nat.reduceEqDiff, Nat.reduceLeDiff, Nat.reduceLT, Nat.reduceGT, Int.reduceToNat, Int.reduceLT, Int.reduceLE, Int.reduceNeg, Int.reduceAdd, Int.reduceEq, Int.reduceNe] <;> (repeat (first | omega | assumption | rfl | exact keep_refl | refine keep_app ?_ | (refine keep_set (by first | (left; simp; done) | (right; simp; omega)) ?_) | refine And.intro ?_ ?_))
    · obtain ⟨rfl, hx⟩ := hx
      dsimp only at hp
      cases hp
      simp only [seqK_ret, blockK_ret, retK_RK (K := i_laws_markIntS pb0 pn0 hh), hx, and_self, true_and]
theorem ko_laws_markIntS {P : Program} {env : Env}  : k_laws_markIntS (runIn P env (c_laws_markIntS)) := by
  intro x0 x1 b hp pb0 pn0 h a0 a1
  exact w_laws_markIntS x0 x1 hp pb0 pn0 h a0 a1

noncomputable def p_laws_markVector (x0 : TVec) (x1 : Int) : Option (T2 Int TVec) :=
  (p_laws_markIntS x0.counts x1).bind fun v0 =>
  some ⟨v0.a, (TVec.mk v0.b)⟩
def c_laws_markVector (f_laws_markIntS : Nat) : AFn := ⟨10, (.seq (.ops [⟨(.some 2), (.box (.tmp 0)), .none, []⟩, ⟨(.some 4), (.mv (.const (.int .i64 0))), .none, []⟩]) (.seq (.ops [⟨(.some 5), (.fieldA 0 (.tmp 2)), .none, []⟩, ⟨(.some 6), (.load 1 false (.tmp 5)), .none, []⟩, ⟨(.some 7), (.mv (.tmp 1)), .none, []⟩, ⟨(.some 8), (.call (2 * f_laws_markIntS + 1) [(.tmp 6), (.tmp 7)]), .none, []⟩, ⟨(.some 1), (.mv (.tmp 8)), .none, []⟩]) (.seq (.ops [⟨(.some 9), (.mv (.tmp 1)), .none, []⟩, ⟨(.some 4), (.mv (.tmp 9)), .none, []⟩]) .ret))), [(.tmp 4)]⟩
def i_laws_markVector (pb0 pn0 : Nat) (h : Heap) (b : T2 Int TVec) (v : V) (h2 : Heap) : Prop := Keep [pb0] h h2 ∧ v = .i (.s (.int .i64 b.a)) ∧ getCells h2 pb0 pn0 = some (rows b.b.counts)
def k_laws_markVector (F : Fun) : Prop := ∀ (x0 : TVec) (x1 : Int) (b : T2 Int TVec), p_laws_markVector x0 x1 = some b → ∀ (pb0 pn0 : Nat) (h : Heap), pn0 = (x0.counts).length → getCells h pb0 pn0 = some (rows x0.counts) → ∃ p, F none [.agg [.hsl pb0 pn0 0 1 false pn0], .i (.s (.int .i64 x1))] h = some p ∧ i_laws_markVector pb0 pn0 h b p.1 p.2
set_option maxHeartbeats 10000000 in
theorem w_laws_markVector {P : Program} {env : Env} {f_laws_markIntS : Nat}  (e_laws_markIntS : k_laws_markIntS (env (2 * f_laws_markIntS + 1))) (x0 : TVec) (x1 : Int) {b : T2 Int TVec} (hp : p_laws_markVector x0 x1 = some b) (pb0 pn0 : Nat) (hh : Heap) (pm0 : pn0 = (x0.counts).length) (pf0 : getCells hh pb0 pn0 = some (rows x0.counts)) : R P env (c_laws_markVector f_laws_markIntS) [.agg [.hsl pb0 pn0 0 1 false pn0], .i (.s (.int .i64 x1))] hh (i_laws_markVector pb0 pn0 hh b) := by
  have pl0 := gc_lt pf0
  have pg0 : getCells hh pb0 x0.counts.length = some (rows x0.counts) := by rw [← pm0]; exact pf0
  refine R_of (by simp [c_laws_markVector, encA]) ?_
  unfold c_laws_markVector
  unfold p_laws_markVector at hp
  obtain ⟨v0, hv0, hp⟩ := bind_eq hp
  simp (disch := first | omega | (simp only [List.length_set, List.length_append, List.length_cons, List.length_nil, rows_len, zs]; first | done | omega)) only [pf0, pg0, gs, reduceIte, reduceCtorEq, Nat.reduceAdd, Nat.reduceMul, Nat.reduceSub, Nat.reduceBEq, Nat.reduceEqDiff, Nat.reduceLeDiff, Nat.reduceLT, Nat.reduceGT, Int.reduceToNat, Int.reduceLT, Int.reduceLE, Int.reduceNeg, Int.reduceAdd, Int.reduceEq, Int.reduceNe]
  refine call_f (fun h => getCells h pb0 pn0 = some (rows (x0.counts : List Int)) ∧ pb0 < h.length ∧ getCells h hh.length 1 = some [.hsl pb0 pn0 0 1 false pn0] ∧ hh.length < h.length ∧ Keep [pb0] hh h) (fun h v h2 => i_laws_markIntS pb0 pn0 h v0 v h2) ?_ ?_ ?_
  · simp (disch := first | omega | (simp only [List.length_set, List.length_append, List.length_cons, List.length_nil, rows_len, zs]; first | done | omega)) only [i_laws_markVector, pf0, pg0, hv0, gs, reduceIte, reduceCtorEq, Nat.reduceAdd, Nat.reduceMul, Nat.reduceSub, Nat.reduceBEq, Nat.reduceEqDiff, Nat.reduceLeDiff, Nat.reduceLT, Nat.reduceGT, Int.reduceToNat, Int.reduceLT, Int.reduceLE, Int.reduceNeg, Int.reduceAdd, Int.reduceEq, Int.reduceNe] <;> (repeat (first | omega | assumption | rfl | exact keep_refl | refine keep_app ?_ | (refine keep_set (by first | (left; simp; done) | (right; simp; omega)) ?_) | refine And.intro ?_ ?_))
  · rintro h ⟨c0_0, c0_1, c0_2, c0_3, c0_4⟩
    exact e_laws_markIntS _ _ _ hv0 pb0 pn0 h (by first | omega | rfl) c0_0
  · rintro h v hh0 ⟨c0_0, c0_1, c0_2, c0_3, c0_4⟩ hpost
    obtain ⟨kk0, rfl, w0_0⟩ := hpost
    have d0_0 : getCells hh0 pb0 pn0 = some (rows (v0.b : List Int)) := w0_0
    have mm0_0 := len_rows w0_0
    simp only [zs] at mm0_0
    have d0_0l := keep_lt kk0 c0_1
    have d0_1 : getCells hh0 hh.length 1 = some [.hsl pb0 pn0 0 1 false pn0] := (keep_get kk0 c0_3 (by first | (simp; done) | (simp; omega))).trans c0_2
    have d0_1l := keep_lt kk0 c0_3
    have kp0 : Keep [pb0] hh hh0 := keep_trans c0_4 kk0 (by intro b hb; first | (simp at hb; done) | (simp at hb ⊢; omega))
    have hp := Option.some.inj hp
    subst hp
    simp (disch := first | omega | (simp only [List.length_set, List.length_append, List.length_cons, List.length_nil, rows_len, zs]; first | done | omega)) only [i_laws_markVector, pf0, pg0, hv0, d0_0, d0_1, gs, reduceIte, reduceCtorEq, Nat.reduceAdd, Nat.reduceMul, Nat.reduceSub, Nat.reduceBEq, Nat.reduceEqDiff, Nat.reduceLeDiff, Nat.reduceLT, Nat.reduceGT, Int.reduceToNat, Int.reduceLT, Int.reduceLE, Int.reduceNeg, Int.reduceAdd, Int.reduceEq, Int.reduceNe] <;> (repeat (first | omega | assumption | rfl | exact keep_refl | refine keep_app ?_ | (refine keep_set (by first | (left; simp; done) | (right; simp; omega)) ?_) | refine And.intro ?_ ?_))
theorem ko_laws_markVector {P : Program} {env : Env} {f_laws_markIntS : Nat}  (e_laws_markIntS : k_laws_markIntS (env (2 * f_laws_markIntS + 1))) : k_laws_markVector (runIn P env (c_laws_markVector f_laws_markIntS)) := by
  intro x0 x1 b hp pb0 pn0 h a0 a1
  exact w_laws_markVector e_laws_markIntS x0 x1 hp pb0 pn0 h a0 a1

noncomputable def p_laws_markByteS_l0 : List U8 × Int × Int → Option (Lp (List U8 × Int × Int) (T2 Int (List U8)))
  | (s0, s1, s2) =>
    if (decide (s2 < (s0.length : Int))) = true then
      (get? s0 s2).bind fun v5 =>
      some (.go ((s0.set s2.toNat (U8.mk (IntKind.wrap .u8 s1))), w64 (s1 + 1), w64 (s2 + 1)))
    else
      some (.out (s0, s1, s2))
noncomputable def p_laws_markByteS (x0 : List U8) (x1 : Int) : Option (T2 Int (List U8)) :=
  (loopP (p_laws_markByteS_l0) (x0, x1, 0)).bind fun ee0 => match ee0 with
  | .ret r => some r
  | .out (o7, o8, o9) =>
    some ⟨o8, o7⟩
def c_laws_markByteS : AFn := ⟨20, (.seq (.ops [⟨(.some 4), (.mv (.const (.int .i64 0))), .none, []⟩]) (.seq (.seq (.ops [⟨(.some 5), (.mv (.const (.int .i64 0))), .none, []⟩]) (.block 0 (.loop (.seq (.seq (.ops [⟨(.some 6), (.mv (.tmp 5)), .none, []⟩, ⟨(.some 7), (.mv (.tmp 0)), .none, []⟩, ⟨(.some 8), (.len (.tmp 7)), .none, []⟩, ⟨(.some 9), (.pu (.n (.ar .lss)) [(.tmp 6), (.tmp 8)]), .none, []⟩]) (.cond (.tmp 9) .skip (.exit 0))) (.seq (.block 1 (.seq (.ops [⟨(.some 12), (.mv (.tmp 0)), .none, []⟩, ⟨(.some 13), (.mv (.tmp 5)), .none, []⟩, ⟨(.some 14), (.mv (.tmp 1)), .none, []⟩, ⟨(.some 15), (.pu (.n (.conv .u8)) [(.tmp 14)]), .none, []⟩, ⟨(.some 16), (.idxS 1 (.tmp 12) (.tmp 13)), .none, []⟩, ⟨.none, (.storeV [(0, false)] 1 (.tmp 16) (.tmp 15)), .none, []⟩]) (.ops [⟨(.some 17), (.mv (.tmp 1)), .none, []⟩, ⟨(.some 18), (.pu (.n (.ar .add)) [(.tmp 17), (.const (.int .i64 1))]), .none, []⟩, ⟨(.some 1), (.mv (.tmp 18)), .none, []⟩]))) (.ops [⟨(.some 10), (.mv (.tmp 5)), .none, []⟩, ⟨(.some 11), (.pu (.n (.ar .add)) [(.tmp 10), (.const (.int .i64 1))]), .none, []⟩, ⟨(.some 5), (.mv (.tmp 11)), .none, []⟩])))))) (.seq (.ops [⟨(.some 19), (.mv (.tmp 1)), .none, []⟩, ⟨(.some 4), (.mv (.tmp 19)), .none, []⟩]) .ret))), [(.tmp 4)]⟩
def i_laws_markByteS (pb0 pn0 : Nat) (h : Heap) (b : T2 Int (List U8)) (v : V) (h2 : Heap) : Prop := Keep [pb0] h h2 ∧ v = .i (.s (.int .i64 b.a)) ∧ getCells h2 pb0 pn0 = some (rows b.b)
def k_laws_markByteS (F : Fun) : Prop := ∀ (x0 : List U8) (x1 : Int) (b : T2 Int (List U8)), p_laws_markByteS x0 x1 = some b → ∀ (pb0 pn0 : Nat) (h : Heap), pn0 = (x0).length → getCells h pb0 pn0 = some (rows x0) → ∃ p, F none [.hsl pb0 pn0 0 1 false pn0, .i (.s (.int .i64 x1))] h = some p ∧ i_laws_markByteS pb0 pn0 h b p.1 p.2
set_option maxHeartbeats 10000000 in
theorem w_laws_markByteS {P : Program} {env : Env}  (x0 : List U8) (x1 : Int) {b : T2 Int (List U8)} (hp : p_laws_markByteS x0 x1 = some b) (pb0 pn0 : Nat) (hh : Heap) (pm0 : pn0 = (x0).length) (pf0 : getCells hh pb0 pn0 = some (rows x0)) : R P env (c_laws_markByteS) [.hsl pb0 pn0 0 1 false pn0, .i (.s (.int .i64 x1))] hh (i_laws_markByteS pb0 pn0 hh b) := by
  have pl0 := gc_lt pf0
  have pg0 : getCells hh pb0 x0.length = some (rows x0) := by rw [← pm0]; exact pf0
  refine R_of (by simp [c_laws_markByteS, encA]) ?_
  unfold c_laws_markByteS
  unfold p_laws_markByteS at hp
  obtain ⟨ee0, hee0, hp⟩ := bind_eq hp
  simp (disch := first | omega | (simp only [List.length_set, List.length_append, List.length_cons, List.length_nil, rows_len, zs]; first | done | omega)) only [pf0, pg0, gs, reduceIte, reduceCtorEq, Nat.reduceAdd, Nat.reduceMul, Nat.reduceSub, Nat.reduceBEq, Nat.reduceEqDiff, Nat.reduceLeDiff, Nat.reduceLT, Nat.reduceGT, Int.reduceToNat, Int.reduceLT, Int.reduceLE, Int.reduceNeg, Int.reduceAdd, Int.reduceEq, Int.reduceNe]
  refine W_loopP 0 (fun s t h => match s with | (s0, s1, s2) => t 0 = .hsl pb0 pn0 0 1 false pn0 ∧ t 1 = .i (.s (.int .i64 s1)) ∧ t 5 = .i (.s (.int .i64 s2)) ∧ getCells h pb0 pn0 = some (rows (s0 : List U8)) ∧ pb0 < h.length ∧ Keep [pb0] hh h) (RK [.tmp 4] (i_laws_markByteS pb0 pn0 hh)) ?_ hee0 ?_ ?_
  · rintro ⟨s0, s1, s2⟩ ee tt0 hh0 ⟨ftt0_0, ftt0_1, ftt0_2, ftt0_3, ftt0_4, ftt0_5⟩ hp
    have ztt0_3 := len_rows ftt0_3
    simp only [zs] at ztt0_3
    rw [p_laws_markByteS_l0] at hp
    have hz3 : ((pn0 : Nat) : Int) = (s0.length : Int) := by omega
    by_cases hb4 : (decide (s2 < (s0.length : Int))) = true
    · rw [if_t hb4] at hp
      obtain ⟨v5, hv5, hp⟩ := bind_eq hp
      have gv5 := get_some hv5
      have hs6 : List.take s2.toNat (rows s0) ++ .i (.s (.int .u8 (IntKind.wrap .u8 s1))) :: List.drop (s2.toNat + 1) (rows s0) = rows (s0.set s2.toNat (U8.mk (IntKind.wrap .u8 s1))) := by simpa [splice, zs, cellsV, I.cells, enc_u8] using rows_set_off (y := (U8.mk (IntKind.wrap .u8 s1))) (ys := [.i (.s (.int .u8 (IntKind.wrap .u8 s1)))]) (k := 0) gv5.2.2 (Nat.le_of_ble_eq_true rfl) (by rfl)
      have hp := Option.some.inj hp
      subst hp
      simp (disch := first | omega | (simp only [List.length_set, List.length_append, List.length_cons, List.length_nil, rows_len, zs]; first | done | omega)) only [i_laws_markByteS, pf0, pg0, ftt0_0, ftt0_1, ftt0_2, ftt0_3, ftt0_4, ftt0_5, hz3, hb4, hv5, (gv5).1, (gv5).2.1, hs6, gs, reduceIte, reduceCtorEq, Nat.reduceAdd, Nat.reduceMul, Nat.reduceSub, Nat.reduceBEq, Nat.reduceEqDiff, Nat.reduceLeDiff, Nat.reduceLT, Nat.reduceGT, Int.reduceToNat, Int.reduceLT, Int.reduceLE, Int.reduceNeg, Int.reduceAdd, Int.reduceEq, Int.reduceNe] <;> (repeat (first | omega | assumption | rfl | exact keep_refl | refine keep_app ?_ | (refine keep_set (by first | (left; simp; done) | (right; simp; omega)) ?_) | refine And.intro ?_ ?_))
    · replace hb4 := eq_false_of_ne_true hb4
      rw [if_f hb4] at hp
      have hp := Option.some.inj hp
      subst hp
      simp (disch := first | omega | (simp only [List.length_set, List.length_append, List.length_cons, List.length_nil, rows_len, zs]; first | done | omega)) only [i_laws_markByteS, pf0, pg0, ftt0_0, ftt0_1, ftt0_2, ftt0_3, ftt0_4, ftt0_5, hz3, hb4, gs, reduceIte, reduceCtorEq, Nat.reduceAdd, Nat.reduceMul, Nat.reduceSub, Nat.reduceBEq, Nat.reduceEqDiff, Nat.reduceLeDiff, Nat.reduceLT, Nat.reduceGT, Int.reduceToNat, Int.reduceLT, Int.reduceLE, Int.reduceNeg, Int.reduceAdd, Int.reduceEq, Int.reduceNe] <;> (repeat (first | omega | assumption | rfl | exact keep_refl | refine keep_app ?_ | (refine keep_set (by first | (left; simp; done) | (right; simp; omega)) ?_) | refine And.intro ?_ ?_))
  · simp (disch := first | omega | (simp only [List.length_set, List.length_append, List.length_cons, List.length_nil, rows_len, zs]; first | done | omega)) only [i_laws_markByteS, pf0, pg0, gs, reduceIte, reduceCtorEq, Nat.reduceAdd, Nat.reduceMul, Nat.reduceSub, Nat.reduceBEq, Nat.reduceEqDiff, Nat.reduceLeDiff, Nat.reduceLT, Nat.reduceGT, Int.reduceToNat, Int.reduceLT, Int.reduceLE, Int.reduceNeg, Int.reduceAdd, Int.reduceEq, Int.reduceNe] <;> (repeat (first | omega | assumption | rfl | exact keep_refl | refine keep_app ?_ | (refine keep_set (by first | (left; simp; done) | (right; simp; omega)) ?_) | refine And.intro ?_ ?_))
  · intro x tt1 hh1 hx
    rcases ee0 with ⟨o7, o8, o9⟩ | r
    · obtain ⟨rfl, ftt1_0, ftt1_1, ftt1_2, ftt1_3, ftt1_4, ftt1_5⟩ := hx
      have ztt1_3 := len_rows ftt1_3
      simp only [zs] at ztt1_3
      dsimp only at hp
      have hp := Option.some.inj hp
      subst hp
      simp (disch := first | omega | (simp only [List.length_set, List.length_append, List.length_cons, List.length_nil, rows_len, zs]; first | done | omega)) only [i_laws_markByteS, pf0, pg0, ftt1_0, ftt1_1, ftt1_2, ftt1_3, ftt1_4, ftt1_5, gs, reduceIte, reduceCtorEq, Nat.reduceAdd, Nat.reduceMul, Nat.reduceSub, Nat.reduceBEq, Nat.reduceEqDiff, Nat.reduceLeDiff, Nat.reduceLT, Nat.reduceGT, Int.reduceToNat, Int.reduceLT, Int.reduceLE, Int.reduceNeg, Int.reduceAdd, Int.reduceEq, Int.reduceNe] <;> (repeat (first | omega | assumption | rfl | exact keep_refl | refine keep_app ?_ | (refine keep_set (by first | (left; simp; done) | (right; simp; omega)) ?_) | refine And.intro ?_ ?_))
    · obtain ⟨rfl, hx⟩ := hx
      dsimp only at hp
      cases hp
      simp only [seqK_ret, blockK_ret, retK_RK (K := i_laws_markByteS pb0 pn0 hh), hx, and_self, true_and]
theorem ko_laws_markByteS {P : Program} {env : Env}  : k_laws_markByteS (runIn P env (c_laws_markByteS)) := by
  intro x0 x1 b hp pb0 pn0 h a0 a1
  exact w_laws_markByteS x0 x1 hp pb0 pn0 h a0 a1

noncomputable def p_laws_heldByteS_l0 (x0 : List U8) : Int × Int → Option (Lp (Int × Int) Int)
  | (s0, s1) =>
    if (decide (s1 < (x0.length : Int))) = true then
      (get? x0 s1).bind fun v3 =>
      if (decide (v3.v = IntKind.wrap .u8 s0)) = true then
        some (.go (w64 (s0 + 1), w64 (s1 + 1)))
      else
        some (.ret (-1))
    else
      some (.out (s0, s1))
noncomputable def p_laws_heldByteS (x0 : List U8) (x1 : Int) : Option Int :=
  (loopP (p_laws_heldByteS_l0 x0) (x1, 0)).bind fun ee0 => match ee0 with
  | .ret r => some r
  | .out (o5, o6) =>
    some o5
def c_laws_heldByteS : AFn := ⟨22, (.seq (.ops [⟨(.some 4), (.mv (.const (.int .i64 0))), .none, []⟩]) (.seq (.seq (.ops [⟨(.some 5), (.mv (.const (.int .i64 0))), .none, []⟩]) (.block 0 (.loop (.seq (.seq (.ops [⟨(.some 6), (.mv (.tmp 5)), .none, []⟩, ⟨(.some 7), (.mv (.tmp 0)), .none, []⟩, ⟨(.some 8), (.len (.tmp 7)), .none, []⟩, ⟨(.some 9), (.pu (.n (.ar .lss)) [(.tmp 6), (.tmp 8)]), .none, []⟩]) (.cond (.tmp 9) .skip (.exit 0))) (.seq (.block 1 (.seq (.seq (.ops [⟨(.some 12), (.mv (.tmp 0)), .none, []⟩, ⟨(.some 13), (.mv (.tmp 5)), .none, []⟩, ⟨(.some 14), (.idxS 1 (.tmp 12) (.tmp 13)), .none, []⟩, ⟨(.some 15), (.load 1 false (.tmp 14)), .none, []⟩, ⟨(.some 16), (.mv (.tmp 1)), .none, []⟩, ⟨(.some 17), (.pu (.n (.conv .u8)) [(.tmp 16)]), .none, []⟩, ⟨(.some 18), (.pu (.n (.ar .neq)) [(.tmp 15), (.tmp 17)]), .none, []⟩]) (.cond (.tmp 18) (.seq (.ops [⟨(.some 4), (.mv (.const (.int .i64 (-1)))), .none, []⟩]) .ret) .skip)) (.ops [⟨(.some 19), (.mv (.tmp 1)), .none, []⟩, ⟨(.some 20), (.pu (.n (.ar .add)) [(.tmp 19), (.const (.int .i64 1))]), .none, []⟩, ⟨(.some 1), (.mv (.tmp 20)), .none, []⟩]))) (.ops [⟨(.some 10), (.mv (.tmp 5)), .none, []⟩, ⟨(.some 11), (.pu (.n (.ar .add)) [(.tmp 10), (.const (.int .i64 1))]), .none, []⟩, ⟨(.some 5), (.mv (.tmp 11)), .none, []⟩])))))) (.seq (.ops [⟨(.some 21), (.mv (.tmp 1)), .none, []⟩, ⟨(.some 4), (.mv (.tmp 21)), .none, []⟩]) .ret))), [(.tmp 4)]⟩
set_option maxHeartbeats 10000000 in
theorem d_laws_heldByteS {P : Program} {env : Env}  (x0 : List U8) (x1 : Int) {b : Int} (hp : p_laws_heldByteS x0 x1 = some b) : R P env (c_laws_heldByteS) ((encA (x0, x1)).map ofI) [] (Tells true b) := by
  refine R_of (by simp [c_laws_heldByteS, encA]) ?_
  unfold c_laws_heldByteS
  unfold p_laws_heldByteS at hp
  obtain ⟨ee0, hee0, hp⟩ := bind_eq hp
  simp (disch := first | omega | (simp only [List.length_set, List.length_append, List.length_cons, List.length_nil, rows_len, zs]; first | done | omega)) only [gs, reduceIte, reduceCtorEq, Nat.reduceAdd, Nat.reduceMul, Nat.reduceSub, Nat.reduceBEq, Nat.reduceEqDiff, Nat.reduceLeDiff, Nat.reduceLT, Nat.reduceGT, Int.reduceToNat, Int.reduceLT, Int.reduceLE, Int.reduceNeg, Int.reduceAdd, Int.reduceEq, Int.reduceNe]
  refine W_loopP 0 (fun s t h => match s with | (s0, s1) => t 0 = .i (.sl 1 (x0.map enc)) ∧ t 1 = .i (.s (.int .i64 s0)) ∧ t 5 = .i (.s (.int .i64 s1))) (RK [.tmp 4] (Tells true)) ?_ hee0 ?_ ?_
  · rintro ⟨s0, s1⟩ ee tt0 hh0 ⟨ftt0_0, ftt0_1, ftt0_2⟩ hp
    rw [p_laws_heldByteS_l0] at hp
    by_cases hb2 : (decide (s1 < (x0.length : Int))) = true
    · rw [if_t hb2] at hp
      obtain ⟨v3, hv3, hp⟩ := bind_eq hp
      by_cases hb4 : (decide (v3.v = IntKind.wrap .u8 s0)) = true
      · rw [if_t hb4] at hp
        have hp := Option.some.inj hp
        subst hp
        simp (disch := first | omega | (simp only [List.length_set, List.length_append, List.length_cons, List.length_nil, rows_len, zs]; first | done | omega)) only [ftt0_0, ftt0_1, ftt0_2, hb2, hv3, hb4, gs, reduceIte, reduceCtorEq, Nat.reduceAdd, Nat.reduceMul, Nat.reduceSub, Nat.reduceBEq, Nat.reduceEqDiff, Nat.reduceLeDiff, Nat.reduceLT, Nat.reduceGT, Int.reduceToNat, Int.reduceLT, Int.reduceLE, Int.reduceNeg, Int.reduceAdd, Int.reduceEq, Int.reduceNe] <;> omega
      · replace hb4 := eq_false_of_ne_true hb4
        rw [if_f hb4] at hp
        have hp := Option.some.inj hp
        subst hp
        simp (disch := first | omega | (simp only [List.length_set, List.length_append, List.length_cons, List.length_nil, rows_len, zs]; first | done | omega)) only [ftt0_0, ftt0_1, ftt0_2, hb2, hv3, hb4, gs, reduceIte, reduceCtorEq, Nat.reduceAdd, Nat.reduceMul, Nat.reduceSub, Nat.reduceBEq, Nat.reduceEqDiff, Nat.reduceLeDiff, Nat.reduceLT, Nat.reduceGT, Int.reduceToNat, Int.reduceLT, Int.reduceLE, Int.reduceNeg, Int.reduceAdd, Int.reduceEq, Int.reduceNe]
    · replace hb2 := eq_false_of_ne_true hb2
      rw [if_f hb2] at hp
      have hp := Option.some.inj hp
      subst hp
      simp (disch := first | omega | (simp only [List.length_set, List.length_append, List.length_cons, List.length_nil, rows_len, zs]; first | done | omega)) only [ftt0_0, ftt0_1, ftt0_2, hb2, gs, reduceIte, reduceCtorEq, Nat.reduceAdd, Nat.reduceMul, Nat.reduceSub, Nat.reduceBEq, Nat.reduceEqDiff, Nat.reduceLeDiff, Nat.reduceLT, Nat.reduceGT, Int.reduceToNat, Int.reduceLT, Int.reduceLE, Int.reduceNeg, Int.reduceAdd, Int.reduceEq, Int.reduceNe] <;> omega
  · simp (disch := first | omega | (simp only [List.length_set, List.length_append, List.length_cons, List.length_nil, rows_len, zs]; first | done | omega)) only [gs, reduceIte, reduceCtorEq, Nat.reduceAdd, Nat.reduceMul, Nat.reduceSub, Nat.reduceBEq, Nat.reduceEqDiff, Nat.reduceLeDiff, Nat.reduceLT, Nat.reduceGT, Int.reduceToNat, Int.reduceLT, Int.reduceLE, Int.reduceNeg, Int.reduceAdd, Int.reduceEq, Int.reduceNe] <;> omega
  · intro x tt1 hh1 hx
    rcases ee0 with ⟨o5, o6⟩ | r
    · obtain ⟨rfl, ftt1_0, ftt1_1, ftt1_2⟩ := hx
      dsimp only at hp
      have hp := Option.some.inj hp
      subst hp
      simp (disch := first | omega | (simp only [List.length_set, List.length_append, List.length_cons, List.length_nil, rows_len, zs]; first | done | omega)) only [ftt1_0, ftt1_1, ftt1_2, gs, reduceIte, reduceCtorEq, Nat.reduceAdd, Nat.reduceMul, Nat.reduceSub, Nat.reduceBEq, Nat.reduceEqDiff, Nat.reduceLeDiff, Nat.reduceLT, Nat.reduceGT, Int.reduceToNat, Int.reduceLT, Int.reduceLE, Int.reduceNeg, Int.reduceAdd, Int.reduceEq, Int.reduceNe]
    · obtain ⟨rfl, hx⟩ := hx
      dsimp only at hp
      cases hp
      simp only [seqK_ret, blockK_ret, retK_RK (K := Tells true), hx, and_self, true_and]

noncomputable def p_laws_FnExactVecBytes (x0 : TVec) : Option Bool :=
  (p_laws_szVector x0 1048576).bind fun v0 =>
  if (decide (v0 < 0)) = true then
    some true
  else
    (p_laws_toVector x0).bind fun v2 =>
    (p_spec_VecBytes v2).bind fun v3 =>
    (p_impl_VecBytes v2).bind fun v4 =>
    (p_laws_eqByteS v4.a v3.a).bind fun v5 =>
    if (v5) = true then
      if (decide (v4.b = v3.b)) = true then
        (p_laws_eqVector v2 v2).bind fun v8 =>
        if (v8) = true then
          (p_laws_markVector v2 1).bind fun v10 =>
          if (decide (v10.a < 0)) = true then
            some false
          else
            (p_laws_markByteS v4.a 1).bind fun v12 =>
            (p_laws_heldByteS v12.b 1).bind fun v13 =>
            if (decide (v13 < 0)) = true then
              some false
            else
              if (decide (v13 = v12.a)) = true then
                some true
              else
                some false
        else
          some false
      else
        some false
    else
      some false
def c_laws_FnExactVecBytes (f_laws_szVector : Nat) (f_laws_toVector : Nat) (f_spec_VecBytes : Nat) (f_impl_VecBytes : Nat) (f_laws_eqByteS : Nat) (f_laws_eqVector : Nat) (f_laws_markVector : Nat) (f_laws_markByteS : Nat) (f_laws_heldByteS : Nat) : AFn := ⟨96, (.seq (.ops [⟨(.some 1), (.box (.tmp 0)), .none, []⟩, ⟨(.some 2), (.mv (.const (.bool false))), .none, []⟩]) (.seq (.ops [⟨(.some 3), (.mv (.const (.int .i64 1048576))), .none, []⟩]) (.seq (.ops [⟨(.some 14), (.load 1 true (.tmp 1)), .none, []⟩, ⟨(.some 15), (.mv (.tmp 3)), .none, []⟩, ⟨(.some 16), (.call (2 * f_laws_szVector) [(.tmp 14), (.tmp 15)]), .none, []⟩, ⟨(.some 3), (.mv (.tmp 16)), .none, []⟩]) (.seq (.seq (.ops [⟨(.some 17), (.mv (.tmp 3)), .none, []⟩, ⟨(.some 18), (.pu (.n (.ar .lss)) [(.tmp 17), (.const (.int .i64 0))]), .none, []⟩]) (.cond (.tmp 18) (.seq (.ops [⟨(.some 2), (.mv (.const (.bool true))), .none, []⟩]) .ret) .skip)) (.seq (.ops [⟨(.some 20), (.load 1 true (.tmp 1)), .none, []⟩, ⟨(.some 21), (.call (2 * f_laws_toVector) [(.tmp 20)]), .none, []⟩, ⟨(.some 22), (.call (2 * f_spec_VecBytes) [(.tmp 21)]), .none, []⟩, ⟨(.some 19), (.mv (.tmp 22)), .none, []⟩, ⟨(.some 23), (.extract 0 (.tmp 19)), .none, []⟩, ⟨(.some 24), (.extract 1 (.tmp 19)), .none, []⟩, ⟨(.some 4), (.mv (.tmp 23)), .none, []⟩, ⟨(.some 5), (.mv (.tmp 24)), .none, []⟩]) (.seq (.ops [⟨(.some 25), (.load 1 true (.tmp 1)), .none, []⟩, ⟨(.some 26), (.call (2 * f_laws_toVector + 1) [(.tmp 25)]), .none, []⟩, ⟨(.some 6), (.allocV [(1, false)] [(.slice .none 0 0)]), .none, []⟩, ⟨.none, (.storeV [(1, false)] 1 (.tmp 6) (.tmp 26)), .none, []⟩]) (.seq (.ops [⟨(.some 28), (.load 1 true (.tmp 6)), .none, []⟩, ⟨(.some 29), (.call (2 * f_impl_VecBytes + 1) [(.tmp 28)]), .none, []⟩, ⟨(.some 27), (.mv (.tmp 29)), .none, []⟩, ⟨(.some 30), (.extract 0 (.tmp 27)), .none, []⟩, ⟨(.some 31), (.extract 1 (.tmp 27)), .none, []⟩, ⟨(.some 7), (.mv (.tmp 30)), .none, []⟩, ⟨(.some 8), (.mv (.tmp 31)), .none, []⟩]) (.seq (.seq (.ops [⟨(.some 32), (.mv (.tmp 7)), .none, []⟩, ⟨(.some 33), (.mv (.tmp 4)), .none, []⟩, ⟨(.some 34), (.call (2 * f_laws_eqByteS) [(.tmp 32), (.tmp 33)]), .none, []⟩, ⟨(.some 35), (.pu (.n (.un .not)) [(.tmp 34)]), .none, []⟩, ⟨(.some 36), (.mv (.tmp 35)), .none, []⟩, ⟨(.some 37), (.mv (.tmp 8)), (.some (36, false)), []⟩, ⟨(.some 38), (.mv (.tmp 5)), (.some (36, false)), []⟩, ⟨(.some 39), (.pu (.n (.ar .neq)) [(.tmp 37), (.tmp 38)]), (.some (36, false)), []⟩, ⟨(.some 40), (.pick (.tmp 36) (.const (.bool true)) (.tmp 39)), .none, []⟩]) (.cond (.tmp 40) (.seq (.ops [⟨(.some 2), (.mv (.const (.bool false))), .none, []⟩]) .ret) .skip)) (.seq (.seq (.ops [⟨(.some 41), (.load 1 true (.tmp 6)), .none, []⟩, ⟨(.some 42), (.load 1 true (.tmp 1)), .none, []⟩, ⟨(.some 43), (.call (2 * f_laws_toVector) [(.tmp 42)]), .none, []⟩, ⟨(.some 44), (.call (2 * f_laws_eqVector) [(.tmp 41), (.tmp 43)]), .none, []⟩, ⟨(.some 45), (.pu (.n (.un .not)) [(.tmp 44)]), .none, []⟩]) (.cond (.tmp 45) (.seq (.ops [⟨(.some 2), (.mv (.const (.bool false))), .none, []⟩]) .ret) .skip)) (.seq (.ops [⟨(.some 9), (.mv (.const (.int .i64 1))), .none, []⟩]) (.seq (.ops [⟨(.some 46), (.load 1 true (.tmp 6)), .none, []⟩, ⟨(.some 47), (.mv (.tmp 9)), .none, []⟩, ⟨(.some 48), (.call (2 * f_laws_markVector + 1) [(.tmp 46), (.tmp 47)]), .none, []⟩, ⟨(.some 9), (.mv (.tmp 48)), .none, []⟩]) (.seq (.seq (.ops [⟨(.some 49), (.mv (.tmp 9)), .none, []⟩, ⟨(.some 50), (.pu (.n (.ar .lss)) [(.tmp 49), (.const (.int .i64 0))]), .none, []⟩, ⟨(.some 51), (.mv (.tmp 50)), .none, []⟩, ⟨(.some 52), (.mv (.tmp 7)), (.some (51, false)), []⟩, ⟨(.some 53), (.mv (.tmp 4)), (.some (51, false)), []⟩, ⟨(.some 54), (.call (2 * f_laws_eqByteS) [(.tmp 52), (.tmp 53)]), (.some (51, false)), []⟩, ⟨(.some 55), (.pu (.n (.un .not)) [(.tmp 54)]), (.some (51, false)), []⟩, ⟨(.some 56), (.pick (.tmp 51) (.const (.bool true)) (.tmp 55)), .none, []⟩, ⟨(.some 57), (.mv (.tmp 56)), .none, []⟩, ⟨(.some 58), (.mv (.tmp 8)), (.some (57, false)), []⟩, ⟨(.some 59), (.mv (.tmp 5)), (.some (57, false)), []⟩, ⟨(.some 60), (.pu (.n (.ar .neq)) [(.tmp 58), (.tmp 59)]), (.some (57, false)), []⟩, ⟨(.some 61), (.pick (.tmp 57) (.const (.bool true)) (.tmp 60)), .none, []⟩]) (.cond (.tmp 61) (.seq (.ops [⟨(.some 2), (.mv (.const (.bool false))), .none, []⟩]) .ret) .skip)) (.seq (.ops [⟨(.some 10), (.mv (.const (.int .i64 1))), .none, []⟩]) (.seq (.ops [⟨(.some 62), (.mv (.tmp 7)), .none, []⟩, ⟨(.some 63), (.mv (.tmp 10)), .none, []⟩, ⟨(.some 64), (.call (2 * f_laws_markByteS + 1) [(.tmp 62), (.tmp 63)]), .none, []⟩, ⟨(.some 10), (.mv (.tmp 64)), .none, []⟩]) (.seq (.ops [⟨(.some 11), (.mv (.const (.int .i64 1))), .none, []⟩]) (.seq (.ops [⟨(.some 65), (.mv (.tmp 7)), .none, []⟩, ⟨(.some 66), (.mv (.tmp 11)), .none, []⟩, ⟨(.some 67), (.call (2 * f_laws_heldByteS) [(.tmp 65), (.tmp 66)]), .none, []⟩, ⟨(.some 11), (.mv (.tmp 67)), .none, []⟩]) (.seq (.seq (.ops [⟨(.some 68), (.mv (.tmp 11)), .none, []⟩, ⟨(.some 69), (.pu (.n (.ar .lss)) [(.tmp 68), (.const (.int .i64 0))]), .none, []⟩]) (.cond (.tmp 69) (.seq (.ops [⟨(.some 2), (.mv (.const (.bool false))), .none, []⟩]) .ret) .skip)) (.seq (.seq (.ops [⟨(.some 70), (.mv (.tmp 11)), .none, []⟩, ⟨(.some 71), (.mv (.tmp 10)), .none, []⟩, ⟨(.some 72), (.pu (.n (.ar .neq)) [(.tmp 70), (.tmp 71)]), .none, []⟩]) (.cond (.tmp 72) (.seq (.ops [⟨(.some 2), (.mv (.const (.bool false))), .none, []⟩]) .ret) .skip)) (.seq (.ops [⟨(.some 74), (.load 1 true (.tmp 1)), .none, []⟩, ⟨(.some 75), (.call (2 * f_laws_toVector + 1) [(.tmp 74)]), .none, []⟩, ⟨(.some 76), (.call (2 * f_impl_VecBytes + 1) [(.tmp 75)]), .none, []⟩, ⟨(.some 73), (.mv (.tmp 76)), .none, []⟩, ⟨(.some 77), (.extract 0 (.tmp 73)), .none, []⟩, ⟨(.some 78), (.extract 1 (.tmp 73)), .none, []⟩, ⟨(.some 12), (.mv (.tmp 77)), .none, []⟩, ⟨(.some 13), (.mv (.tmp 78)), .none, []⟩]) (.seq (.seq (.ops [⟨(.some 79), (.mv (.tmp 12)), .none, []⟩, ⟨(.some 80), (.mv (.tmp 4)), .none, []⟩, ⟨(.some 81), (.call (2 * f_laws_eqByteS) [(.tmp 79), (.tmp 80)]), .none, []⟩, ⟨(.some 82), (.pu (.n (.un .not)) [(.tmp 81)]), .none, []⟩, ⟨(.some 83), (.mv (.tmp 82)), .none, []⟩, ⟨(.some 84), (.mv (.tmp 13)), (.some (83, false)), []⟩, ⟨(.some 85), (.mv (.tmp 5)), (.some (83, false)), []⟩, ⟨(.some 86), (.pu (.n (.ar .neq)) [(.tmp 84), (.tmp 85)]), (.some (83, false)), []⟩, ⟨(.some 87), (.pick (.tmp 83) (.const (.bool true)) (.tmp 86)), .none, []⟩]) (.cond (.tmp 87) (.seq (.ops [⟨(.some 2), (.mv (.const (.bool false))), .none, []⟩]) .ret) .skip)) (.seq (.ops [⟨(.some 11), (.mv (.const (.int .i64 1))), .none, []⟩]) (.seq (.ops [⟨(.some 88), (.mv (.tmp 7)), .none, []⟩, ⟨(.some 89), (.mv (.tmp 11)), .none, []⟩, ⟨(.some 90), (.call (2 * f_laws_heldByteS) [(.tmp 88), (.tmp 89)]), .none, []⟩, ⟨(.some 11), (.mv (.tmp 90)), .none, []⟩]) (.seq (.seq (.ops [⟨(.some 91), (.mv (.tmp 11)), .none, []⟩, ⟨(.some 92), (.pu (.n (.ar .lss)) [(.tmp 91), (.const (.int .i64 0))]), .none, []⟩]) (.cond (.tmp 92) (.seq (.ops [⟨(.some 2), (.mv (.const (.bool false))), .none, []⟩]) .ret) .skip)) (.seq (.seq (.ops [⟨(.some 93), (.mv (.tmp 11)), .none, []⟩, ⟨(.some 94), (.mv (.tmp 10)), .none, []⟩, ⟨(.some 95), (.pu (.n (.ar .neq)) [(.tmp 93), (.tmp 94)]), .none, []⟩]) (.cond (.tmp 95) (.seq (.ops [⟨(.some 2), (.mv (.const (.bool false))), .none, []⟩]) .ret) .skip)) (.seq (.ops [⟨(.some 2), (.mv (.const (.bool true))), .none, []⟩]) .ret))))))))))))))))))))))))), [(.tmp 2)]⟩
set_option maxHeartbeats 10000000 in
theorem d_laws_FnExactVecBytes {P : Program} {env : Env} {f_laws_szVector : Nat} {f_laws_toVector : Nat} {f_spec_VecBytes : Nat} {f_impl_VecBytes : Nat} {f_laws_eqByteS : Nat} {f_laws_eqVector : Nat} {f_laws_markVector : Nat} {f_laws_markByteS : Nat} {f_laws_heldByteS : Nat}  (ep_laws_szVector : env (2 * f_laws_szVector) = pureFn true (FA fun a : TVec × Int => p_laws_szVector a.1 a.2)) (ep_laws_toVector : env (2 * f_laws_toVector) = pureFn true (FA fun a : TVec => p_laws_toVector a)) (ep_spec_VecBytes : env (2 * f_spec_VecBytes) = pureFn true (FA fun a : TVec => p_spec_VecBytes a)) (ep_laws_eqByteS : env (2 * f_laws_eqByteS) = pureFn true (FA fun a : List U8 × List U8 => p_laws_eqByteS a.1 a.2)) (ep_laws_eqVector : env (2 * f_laws_eqVector) = pureFn true (FA fun a : TVec × TVec => p_laws_eqVector a.1 a.2)) (ep_laws_heldByteS : env (2 * f_laws_heldByteS) = pureFn true (FA fun a : List U8 × Int => p_laws_heldByteS a.1 a.2)) (e_laws_toVector : k_laws_toVector (env (2 * f_laws_toVector + 1))) (e_impl_VecBytes : k_impl_VecBytes (env (2 * f_impl_VecBytes + 1))) (e_laws_markVector : k_laws_markVector (env (2 * f_laws_markVector + 1))) (e_laws_markByteS : k_laws_markByteS (env (2 * f_laws_markByteS + 1))) (x0 : TVec) (hp : p_laws_FnExactVecBytes x0 = some true) : R P env (c_laws_FnExactVecBytes f_laws_szVector f_laws_toVector f_spec_VecBytes f_impl_VecBytes f_laws_eqByteS f_laws_eqVector f_laws_markVector f_laws_markByteS f_laws_heldByteS) ((encA (x0)).map ofI) [] (fun v _ => v = .i (iB true)) := by
  refine R_of (by simp [c_laws_FnExactVecBytes, encA]) ?_
  unfold c_laws_FnExactVecBytes
  unfold p_laws_FnExactVecBytes at hp
  obtain ⟨v0, hv0, hp⟩ := bind_eq hp
  by_cases hb1 : (decide (v0 < 0)) = true
  · rw [if_t hb1] at hp
    cases hp
    simp (disch := first | omega | (simp only [List.length_set, List.length_append, List.length_cons, List.length_nil, rows_len, zs]; first | done | omega)) only [ep_laws_szVector, ep_laws_toVector, ep_spec_VecBytes, ep_laws_eqByteS, ep_laws_eqVector, ep_laws_heldByteS, hv0, hb1, gs, reduceIte, reduceCtorEq, Nat.reduceAdd, Nat.reduceMul, Nat.reduceSub, Nat.reduceBEq, Nat.reduceEqDiff, Nat.reduceLeDiff, Nat.reduceLT, Nat.reduceGT, Int.reduceToNat, Int.reduceLT, Int.reduceLE, Int.reduceNeg, Int.reduceAdd, Int.reduceEq, Int.reduceNe]
  · replace hb1 := eq_false_of_ne_true hb1
    rw [if_f hb1] at hp
    obtain ⟨v2, hv2, hp⟩ := bind_eq hp
    obtain ⟨v3, hv3, hp⟩ := bind_eq hp
    simp (disch := first | omega | (simp only [List.length_set, List.length_append, List.length_cons, List.length_nil, rows_len, zs]; first | done | omega)) only [ep_laws_szVector, ep_laws_toVector, ep_spec_VecBytes, ep_laws_eqByteS, ep_laws_eqVector, ep_laws_heldByteS, hv0, hb1, hv2, hv3, gs, reduceIte, reduceCtorEq, Nat.reduceAdd, Nat.reduceMul, Nat.reduceSub, Nat.reduceBEq, Nat.reduceEqDiff, Nat.reduceLeDiff, Nat.reduceLT, Nat.reduceGT, Int.reduceToNat, Int.reduceLT, Int.reduceLE, Int.reduceNeg, Int.reduceAdd, Int.reduceEq, Int.reduceNe]
    refine call_f (fun h => getCells h 0 1 = some [.i (.sl 1 (x0.counts.map enc))] ∧ 0 < h.length) (fun h v h2 => oo_laws_toVector v2 h v h2) ?_ ?_ ?_
    · simp (disch := first | omega | (simp only [List.length_set, List.length_append, List.length_cons, List.length_nil, rows_len, zs]; first | done | omega)) only [ep_laws_szVector, ep_laws_toVector, ep_spec_VecBytes, ep_laws_eqByteS, ep_laws_eqVector, ep_laws_heldByteS, hv0, hb1, hv2, hv3, gs, reduceIte, reduceCtorEq, Nat.reduceAdd, Nat.reduceMul, Nat.reduceSub, Nat.reduceBEq, Nat.reduceEqDiff, Nat.reduceLeDiff, Nat.reduceLT, Nat.reduceGT, Int.reduceToNat, Int.reduceLT, Int.reduceLE, Int.reduceNeg, Int.reduceAdd, Int.reduceEq, Int.reduceNe] <;> omega
    · rintro h ⟨c0_0, c0_1⟩
      exact e_laws_toVector _ _ hv2 h _ (by simp (disch := first | omega | (simp only [List.length_set, List.length_append, List.length_cons, List.length_nil, rows_len, zs]; first | done | omega)) only [ep_laws_szVector, ep_laws_toVector, ep_spec_VecBytes, ep_laws_eqByteS, ep_laws_eqVector, ep_laws_heldByteS, hv0, hb1, hv2, hv3, c0_0, c0_1, gs, reduceIte, reduceCtorEq, Nat.reduceAdd, Nat.reduceMul, Nat.reduceSub, Nat.reduceBEq, Nat.reduceEqDiff, Nat.reduceLeDiff, Nat.reduceLT, Nat.reduceGT, Int.reduceToNat, Int.reduceLT, Int.reduceLE, Int.reduceNeg, Int.reduceAdd, Int.reduceEq, Int.reduceNe])
    · rintro h v hh0 ⟨c0_0, c0_1⟩ hpost
      obtain ⟨kk0, nb0_0, rfl, lnb0_0, gnb0_0, wnb0_0⟩ := hpost
      have d0_0 : getCells hh0 0 1 = some [.i (.sl 1 (x0.counts.map enc))] := (keep_get kk0 c0_1 (by first | (simp; done) | (simp; omega))).trans c0_0
      have d0_0l := keep_lt kk0 c0_1
      have d0_1 := wnb0_0
      obtain ⟨v4, hv4, hp⟩ := bind_eq hp
      simp (disch := first | omega | (simp only [List.length_set, List.length_append, List.length_cons, List.length_nil, rows_len, zs]; first | done | omega)) only [ep_laws_szVector, ep_laws_toVector, ep_spec_VecBytes, ep_laws_eqByteS, ep_laws_eqVector, ep_laws_heldByteS, hv0, hb1, hv2, hv3, d0_0, d0_1, gs, reduceIte, reduceCtorEq, Nat.reduceAdd, Nat.reduceMul, Nat.reduceSub, Nat.reduceBEq, Nat.reduceEqDiff, Nat.reduceLeDiff, Nat.reduceLT, Nat.reduceGT, Int.reduceToNat, Int.reduceLT, Int.reduceLE, Int.reduceNeg, Int.reduceAdd, Int.reduceEq, Int.reduceNe]
      refine call_f (fun h => getCells h 0 1 = some [.i (.sl 1 (x0.counts.map enc))] ∧ 0 < h.length ∧ getCells h nb0_0 v2.counts.length = some (rows (v2.counts : List Int)) ∧ nb0_0 < h.length ∧ getCells h hh0.length 0 = some [] ∧ hh0.length < h.length ∧ getCells h (hh0.length + 1) 1 = some [.hsl nb0_0 v2.counts.length 0 1 false v2.counts.length] ∧ hh0.length + 1 < h.length) (fun h v h2 => oo_impl_VecBytes v4 h v h2) ?_ ?_ ?_
      · simp (disch := first | omega | (simp only [List.length_set, List.length_append, List.length_cons, List.length_nil, rows_len, zs]; first | done | omega)) only [ep_laws_szVector, ep_laws_toVector, ep_spec_VecBytes, ep_laws_eqByteS, ep_laws_eqVector, ep_laws_heldByteS, hv0, hb1, hv2, hv3, d0_0, d0_1, hv4, gs, reduceIte, reduceCtorEq, Nat.reduceAdd, Nat.reduceMul, Nat.reduceSub, Nat.reduceBEq, Nat.reduceEqDiff, Nat.reduceLeDiff, Nat.reduceLT, Nat.reduceGT, Int.reduceToNat, Int.reduceLT, Int.reduceLE, Int.reduceNeg, Int.reduceAdd, Int.reduceEq, Int.reduceNe] <;> omega
      · rintro h ⟨c1_0, c1_1, c1_2, c1_3, c1_4, c1_5, c1_6, c1_7⟩
        exact e_impl_VecBytes _ _ hv4 h _ (by simp (disch := first | omega | (simp only [List.length_set, List.length_append, List.length_cons, List.length_nil, rows_len, zs]; first | done | omega)) only [ep_laws_szVector, ep_laws_toVector, ep_spec_VecBytes, ep_laws_eqByteS, ep_laws_eqVector, ep_laws_heldByteS, hv0, hb1, hv2, hv3, d0_0, d0_1, hv4, c1_0, c1_1, c1_2, c1_3, c1_4, c1_5, c1_6, c1_7, gs, reduceIte, reduceCtorEq, Nat.reduceAdd, Nat.reduceMul, Nat.reduceSub, Nat.reduceBEq, Nat.reduceEqDiff, Nat.reduceLeDiff, Nat.reduceLT, Nat.reduceGT, Int.reduceToNat, Int.reduceLT, Int.reduceLE, Int.reduceNeg, Int.reduceAdd, Int.reduceEq, Int.reduceNe])
      · rintro h v hh1 ⟨c1_0, c1_1, c1_2, c1_3, c1_4, c1_5, c1_6, c1_7⟩ hpost
        obtain ⟨kk1, nb1_0, rfl, lnb1_0, gnb1_0, wnb1_0⟩ := hpost
        have d1_0 : getCells hh1 0 1 = some [.i (.sl 1 (x0.counts.map enc))] := (keep_get kk1 c1_1 (by first | (simp; done) | (simp; omega))).trans c1_0
        have d1_0l := keep_lt kk1 c1_1
        have d1_1 : getCells hh1 nb0_0 v2.counts.length = some (rows (v2.counts : List Int)) := (keep_get kk1 c1_3 (by first | (simp; done) | (simp; omega))).trans c1_2
        have d1_1l := keep_lt kk1 c1_3
        have d1_2 : getCells hh1 hh0.length 0 = some [] := (keep_get kk1 c1_5 (by first | (simp; done) | (simp; omega))).trans c1_4
        have d1_2l := keep_lt kk1 c1_5
        have d1_3 : getCells hh1 (hh0.length + 1) 1 = some [.hsl nb0_0 v2.counts.length 0 1 false v2.counts.length] := (keep_get kk1 c1_7 (by first | (simp; done) | (simp; omega))).trans c1_6
        have d1_3l := keep_lt kk1 c1_7
        have d1_4 := wnb1_0
        obtain ⟨v5, hv5, hp⟩ := bind_eq hp
        by_cases hb6 : (v5) = true
        · rw [if_t hb6] at hp
          by_cases hb7 : (decide (v4.b = v3.b)) = true
          · rw [if_t hb7] at hp
            obtain ⟨v8, hv8, hp⟩ := bind_eq hp
            by_cases hb9 : (v8) = true
            · rw [if_t hb9] at hp
              obtain ⟨v10, hv10, hp⟩ := bind_eq hp
              simp (disch := first | omega | (simp only [List.length_set, List.length_append, List.length_cons, List.length_nil, rows_len, zs]; first | done | omega)) only [ep_laws_szVector, ep_laws_toVector, ep_spec_VecBytes, ep_laws_eqByteS, ep_laws_eqVector, ep_laws_heldByteS, hv0, hb1, hv2, hv3, d0_0, d0_1, hv4, d1_0, d1_1, d1_2, d1_3, d1_4, hv5, hb6, hb7, hv8, hb9, gs, reduceIte, reduceCtorEq, Nat.reduceAdd, Nat.reduceMul, Nat.reduceSub, Nat.reduceBEq, Nat.reduceEqDiff, Nat.reduceLeDiff, Nat.reduceLT, Nat.reduceGT, Int.reduceToNat, Int.reduceLT, Int.reduceLE, Int.reduceNeg, Int.reduceAdd, Int.reduceEq, Int.reduceNe]
              refine call_f (fun h => getCells h 0 1 = some [.i (.sl 1 (x0.counts.map enc))] ∧ 0 < h.length ∧ getCells h nb0_0 v2.counts.length = some (rows (v2.counts : List Int)) ∧ nb0_0 < h.length ∧ getCells h hh0.length 0 = some [] ∧ hh0.length < h.length ∧ getCells h (hh0.length + 1) 1 = some [.hsl nb0_0 v2.counts.length 0 1 false v2.counts.length] ∧ hh0.length + 1 < h.length ∧ getCells h nb1_0 v4.a.length = some (rows (v4.a : List U8)) ∧ nb1_0 < h.length) (fun h v h2 => i_laws_markVector nb0_0 v2.counts.length h v10 v h2) ?_ ?_ ?_
              · simp (disch := first | omega | (simp only [List.length_set, List.length_append, List.length_cons, List.length_nil, rows_len, zs]; first | done | omega)) only [ep_laws_szVector, ep_laws_toVector, ep_spec_VecBytes, ep_laws_eqByteS, ep_laws_eqVector, ep_laws_heldByteS, hv0, hb1, hv2, hv3, d0_0, d0_1, hv4, d1_0, d1_1, d1_2, d1_3, d1_4, hv5, hb6, hb7, hv8, hb9, hv10, gs, reduceIte, reduceCtorEq, Nat.reduceAdd, Nat.reduceMul, Nat.reduceSub, Nat.reduceBEq, Nat.reduceEqDiff, Nat.reduceLeDiff, Nat.reduceLT, Nat.reduceGT, Int.reduceToNat, Int.reduceLT, Int.reduceLE, Int.reduceNeg, Int.reduceAdd, Int.reduceEq, Int.reduceNe] <;> omega
              · rintro h ⟨c2_0, c2_1, c2_2, c2_3, c2_4, c2_5, c2_6, c2_7, c2_8, c2_9⟩
                exact e_laws_markVector _ _ _ hv10 nb0_0 v2.counts.length h (by first | omega | rfl) c2_2
              · rintro h v hh2 ⟨c2_0, c2_1, c2_2, c2_3, c2_4, c2_5, c2_6, c2_7, c2_8, c2_9⟩ hpost
                obtain ⟨kk2, rfl, w2_0⟩ := hpost
                have d2_0 : getCells hh2 0 1 = some [.i (.sl 1 (x0.counts.map enc))] := (keep_get kk2 c2_1 (by first | (simp; done) | (simp; omega))).trans c2_0
                have d2_0l := keep_lt kk2 c2_1
                have d2_1 : getCells hh2 nb0_0 v2.counts.length = some (rows (v10.b.counts : List Int)) := w2_0
                have mm2_0 := len_rows w2_0
                simp only [zs] at mm2_0
                have d2_1l := keep_lt kk2 c2_3
                have d2_2 : getCells hh2 hh0.length 0 = some [] := (keep_get kk2 c2_5 (by first | (simp; done) | (simp; omega))).trans c2_4
                have d2_2l := keep_lt kk2 c2_5
                have d2_3 : getCells hh2 (hh0.length + 1) 1 = some [.hsl nb0_0 v2.counts.length 0 1 false v2.counts.length] := (keep_get kk2 c2_7 (by first | (simp; done) | (simp; omega))).trans c2_6
                have d2_3l := keep_lt kk2 c2_7
                have d2_4 : getCells hh2 nb1_0 v4.a.length = some (rows (v4.a : List U8)) := (keep_get kk2 c2_9 (by first | (simp; done) | (simp; omega))).trans c2_8
                have d2_4l := keep_lt kk2 c2_9
                by_cases hb11 : (decide (v10.a < 0)) = true
                · rw [if_t hb11] at hp
                  cases hp
                · replace hb11 := eq_false_of_ne_true hb11
                  rw [if_f hb11] at hp
                  obtain ⟨v12, hv12, hp⟩ := bind_eq hp
                  simp (disch := first | omega | (simp only [List.length_set, List.length_append, List.length_cons, List.length_nil, rows_len, zs]; first | done | omega)) only [ep_laws_szVector, ep_laws_toVector, ep_spec_VecBytes, ep_laws_eqByteS, ep_laws_eqVector, ep_laws_heldByteS, hv0, hb1, hv2, hv3, d0_0, d0_1, hv4, d1_0, d1_1, d1_2, d1_3, d1_4, hv5, hb6, hb7, hv8, hb9, hv10, d2_0, d2_1, d2_2, d2_3, d2_4, hb11, gs, reduceIte, reduceCtorEq, Nat.reduceAdd, Nat.reduceMul, Nat.reduceSub, Nat.reduceBEq, Nat.reduceEqDiff, Nat.reduceLeDiff, Nat.reduceLT, Nat.reduceGT, Int.reduceToNat, Int.reduceLT, Int.reduceLE, Int.reduceNeg, Int.reduceAdd, Int.reduceEq, Int.reduceNe]
                  refine call_f (fun h => getCells h 0 1 = some [.i (.sl 1 (x0.counts.map enc))] ∧ 0 < h.length ∧ getCells h nb0_0 v2.counts.length = some (rows (v10.b.counts : List Int)) ∧ nb0_0 < h.length ∧ getCells h hh0.length 0 = some [] ∧ hh0.length < h.length ∧ getCells h (hh0.length + 1) 1 = some [.hsl nb0_0 v2.counts.length 0 1 false v2.counts.length] ∧ hh0.length + 1 < h.length ∧ getCells h nb1_0 v4.a.length = some (rows (v4.a : List U8)) ∧ nb1_0 < h.length) (fun h v h2 => i_laws_markByteS nb1_0 v4.a.length h v12 v h2) ?_ ?_ ?_
                  · simp (disch := first | omega | (simp only [List.length_set, List.length_append, List.length_cons, List.length_nil, rows_len, zs]; first | done | omega)) only [ep_laws_szVector, ep_laws_toVector, ep_spec_VecBytes, ep_laws_eqByteS, ep_laws_eqVector, ep_laws_heldByteS, hv0, hb1, hv2, hv3, d0_0, d0_1, hv4, d1_0, d1_1, d1_2, d1_3, d1_4, hv5, hb6, hb7, hv8, hb9, hv10, d2_0, d2_1, d2_2, d2_3, d2_4, hb11, hv12, gs, reduceIte, reduceCtorEq, Nat.reduceAdd, Nat.reduceMul, Nat.reduceSub, Nat.reduceBEq, Nat.reduceEqDiff, Nat.reduceLeDiff, Nat.reduceLT, Nat.reduceGT, Int.reduceToNat, Int.reduceLT, Int.reduceLE, Int.reduceNeg, Int.reduceAdd, Int.reduceEq, Int.reduceNe] <;> omega
                  · rintro h ⟨c3_0, c3_1, c3_2, c3_3, c3_4, c3_5, c3_6, c3_7, c3_8, c3_9⟩
                    exact e_laws_markByteS _ _ _ hv12 nb1_0 v4.a.length h (by first | omega | rfl) c3_8
                  · rintro h v hh3 ⟨c3_0, c3_1, c3_2, c3_3, c3_4, c3_5, c3_6, c3_7, c3_8, c3_9⟩ hpost
                    obtain ⟨kk3, rfl, w3_0⟩ := hpost
                    have d3_0 : getCells hh3 0 1 = some [.i (.sl 1 (x0.counts.map enc))] := (keep_get kk3 c3_1 (by first | (simp; done) | (simp; omega))).trans c3_0
                    have d3_0l := keep_lt kk3 c3_1
                    have d3_1 : getCells hh3 nb0_0 v2.counts.length = some (rows (v10.b.counts : List Int)) := (keep_get kk3 c3_3 (by first | (simp; done) | (simp; omega))).trans c3_2
                    have d3_1l := keep_lt kk3 c3_3
                    have d3_2 : getCells hh3 hh0.length 0 = some [] := (keep_get kk3 c3_5 (by first | (simp; done) | (simp; omega))).trans c3_4
                    have d3_2l := keep_lt kk3 c3_5
                    have d3_3 : getCells hh3 (hh0.length + 1) 1 = some [.hsl nb0_0 v2.counts.length 0 1 false v2.counts.length] := (keep_get kk3 c3_7 (by first | (simp; done) | (simp; omega))).trans c3_6
                    have d3_3l := keep_lt kk3 c3_7
                    have d3_4 : getCells hh3 nb1_0 v4.a.length = some (rows (v12.b : List U8)) := w3_0
                    have mm3_0 := len_rows w3_0
                    simp only [zs] at mm3_0
                    have d3_4l := keep_lt kk3 c3_9
                    obtain ⟨v13, hv13, hp⟩ := bind_eq hp
                    by_cases hb14 : (decide (v13 < 0)) = true
                    · rw [if_t hb14] at hp
                      cases hp
                    · replace hb14 := eq_false_of_ne_true hb14
                      rw [if_f hb14] at hp
                      by_cases hb15 : (decide (v13 = v12.a)) = true
                      · rw [if_t hb15] at hp
                        simp (disch := first | omega | (simp only [List.length_set, List.length_append, List.length_cons, List.length_nil, rows_len, zs]; first | done | omega)) only [ep_laws_szVector, ep_laws_toVector, ep_spec_VecBytes, ep_laws_eqByteS, ep_laws_eqVector, ep_laws_heldByteS, hv0, hb1, hv2, hv3, d0_0, d0_1, hv4, d1_0, d1_1, d1_2, d1_3, d1_4, hv5, hb6, hb7, hv8, hb9, hv10, d2_0, d2_1, d2_2, d2_3, d2_4, hb11, hv12, d3_0, d3_1, d3_2, d3_3, d3_4, hv13, hb14, hb15, gs, reduceIte, reduceCtorEq, Nat.reduceAdd, Nat.reduceMul, Nat.reduceSub, Nat.reduceBEq, Nat.reduceEqDiff, Nat.reduceLeDiff, Nat.reduceLT, Nat.reduceGT, Int.reduceToNat, Int.reduceLT, Int.reduceLE, Int.reduceNeg, Int.reduceAdd, Int.reduceEq, Int.reduceNe]
                        refine call_f (fun h => getCells h 0 1 = some [.i (.sl 1 (x0.counts.map enc))] ∧ 0 < h.length ∧ getCells h nb0_0 v2.counts.length = some (rows (v10.b.counts : List Int)) ∧ nb0_0 < h.length ∧ getCells h hh0.length 0 = some [] ∧ hh0.length < h.length ∧ getCells h (hh0.length + 1) 1 = some [.hsl nb0_0 v2.counts.length 0 1 false v2.counts.length] ∧ hh0.length + 1 < h.length ∧ getCells h nb1_0 v4.a.length = some (rows (v12.b : List U8)) ∧ nb1_0 < h.length) (fun h v h2 => oo_laws_toVector v2 h v h2) ?_ ?_ ?_
                        · simp (disch := first | omega | (simp only [List.length_set, List.length_append, List.length_cons, List.length_nil, rows_len, zs]; first | done | omega)) only [ep_laws_szVector, ep_laws_toVector, ep_spec_VecBytes, ep_laws_eqByteS, ep_laws_eqVector, ep_laws_heldByteS, hv0, hb1, hv2, hv3, d0_0, d0_1, hv4, d1_0, d1_1, d1_2, d1_3, d1_4, hv5, hb6, hb7, hv8, hb9, hv10, d2_0, d2_1, d2_2, d2_3, d2_4, hb11, hv12, d3_0, d3_1, d3_2, d3_3, d3_4, hv13, hb14, hb15, gs, reduceIte, reduceCtorEq, Nat.reduceAdd, Nat.reduceMul, Nat.reduceSub, Nat.reduceBEq, Nat.reduceEqDiff, Nat.reduceLeDiff, Nat.reduceLT, Nat.reduceGT, Int.reduceToNat, Int.reduceLT, Int.reduceLE, Int.reduceNeg, Int.reduceAdd, Int.reduceEq, Int.reduceNe] <;> omega
                        · rintro h ⟨c4_0, c4_1, c4_2, c4_3, c4_4, c4_5, c4_6, c4_7, c4_8, c4_9⟩
                          exact e_laws_toVector _ _ hv2 h _ (by simp (disch := first | omega | (simp only [List.length_set, List.length_append, List.length_cons, List.length_nil, rows_len, zs]; first | done | omega)) only [ep_laws_szVector, ep_laws_toVector, ep_spec_VecBytes, ep_laws_eqByteS, ep_laws_eqVector, ep_laws_heldByteS, hv0, hb1, hv2, hv3, d0_0, d0_1, hv4, d1_0, d1_1, d1_2, d1_3, d1_4, hv5, hb6, hb7, hv8, hb9, hv10, d2_0, d2_1, d2_2, d2_3, d2_4, hb11, hv12, d3_0, d3_1, d3_2, d3_3, d3_4, hv13, hb14, hb15, c4_0, c4_1, c4_2, c4_3, c4_4, c4_5, c4_6, c4_7, c4_8, c4_9, gs, reduceIte, reduceCtorEq, Nat.reduceAdd, Nat.reduceMul, Nat.reduceSub, Nat.reduceBEq, Nat.reduceEqDiff, Nat.reduceLeDiff, Nat.reduceLT, Nat.reduceGT, Int.reduceToNat, Int.reduceLT, Int.reduceLE, Int.reduceNeg, Int.reduceAdd, Int.reduceEq, Int.reduceNe])
                        · rintro h v hh4 ⟨c4_0, c4_1, c4_2, c4_3, c4_4, c4_5, c4_6, c4_7, c4_8, c4_9⟩ hpost
                          obtain ⟨kk4, nb4_0, rfl, lnb4_0, gnb4_0, wnb4_0⟩ := hpost
                          have d4_0 : getCells hh4 0 1 = some [.i (.sl 1 (x0.counts.map enc))] := (keep_get kk4 c4_1 (by first | (simp; done) | (simp; omega))).trans c4_0
                          have d4_0l := keep_lt kk4 c4_1
                          have d4_1 : getCells hh4 nb0_0 v2.counts.length = some (rows (v10.b.counts : List Int)) := (keep_get kk4 c4_3 (by first | (simp; done) | (simp; omega))).trans c4_2
                          have d4_1l := keep_lt kk4 c4_3
                          have d4_2 : getCells hh4 hh0.length 0 = some [] := (keep_get kk4 c4_5 (by first | (simp; done) | (simp; omega))).trans c4_4
                          have d4_2l := keep_lt kk4 c4_5
                          have d4_3 : getCells hh4 (hh0.length + 1) 1 = some [.hsl nb0_0 v2.counts.length 0 1 false v2.counts.length] := (keep_get kk4 c4_7 (by first | (simp; done) | (simp; omega))).trans c4_6
                          have d4_3l := keep_lt kk4 c4_7
                          have d4_4 : getCells hh4 nb1_0 v4.a.length = some (rows (v12.b : List U8)) := (keep_get kk4 c4_9 (by first | (simp; done) | (simp; omega))).trans c4_8
                          have d4_4l := keep_lt kk4 c4_9
                          have d4_5 := wnb4_0
                          simp (disch := first | omega | (simp only [List.length_set, List.length_append, List.length_cons, List.length_nil, rows_len, zs]; first | done | omega)) only [ep_laws_szVector, ep_laws_toVector, ep_spec_VecBytes, ep_laws_eqByteS, ep_laws_eqVector, ep_laws_heldByteS, hv0, hb1, hv2, hv3, d0_0, d0_1, hv4, d1_0, d1_1, d1_2, d1_3, d1_4, hv5, hb6, hb7, hv8, hb9, hv10, d2_0, d2_1, d2_2, d2_3, d2_4, hb11, hv12, d3_0, d3_1, d3_2, d3_3, d3_4, hv13, hb14, hb15, d4_0, d4_1, d4_2, d4_3, d4_4, d4_5, gs, reduceIte, reduceCtorEq, Nat.reduceAdd, Nat.reduceMul, Nat.reduceSub, Nat.reduceBEq, Nat.reduceEqDiff, Nat.reduceLeDiff, Nat.reduceLT, Nat.reduceGT, Int.reduceToNat, Int.reduceLT, Int.reduceLE, Int.reduceNeg, Int.reduceAdd, Int.reduceEq, Int.reduceNe]
                          refine call_f (fun h => getCells h 0 1 = some [.i (.sl 1 (x0.counts.map enc))] ∧ 0 < h.length ∧ getCells h nb0_0 v2.counts.length = some (rows (v10.b.counts : List Int)) ∧ nb0_0 < h.length ∧ getCells h hh0.length 0 = some [] ∧ hh0.length < h.length ∧ getCells h (hh0.length + 1) 1 = some [.hsl nb0_0 v2.counts.length 0 1 false v2.counts.length] ∧ hh0.length + 1 < h.length ∧ getCells h nb1_0 v4.a.length = some (rows (v12.b : List U8)) ∧ nb1_0 < h.length ∧ getCells h nb4_0 v2.counts.length = some (rows (v2.counts : List Int)) ∧ nb4_0 < h.length) (fun h v h2 => oo_impl_VecBytes v4 h v h2) ?_ ?_ ?_
                          · simp (disch := first | omega | (simp only [List.length_set, List.length_append, List.length_cons, List.length_nil, rows_len, zs]; first | done | omega)) only [ep_laws_szVector, ep_laws_toVector, ep_spec_VecBytes, ep_laws_eqByteS, ep_laws_eqVector, ep_laws_heldByteS, hv0, hb1, hv2, hv3, d0_0, d0_1, hv4, d1_0, d1_1, d1_2, d1_3, d1_4, hv5, hb6, hb7, hv8, hb9, hv10, d2_0, d2_1, d2_2, d2_3, d2_4, hb11, hv12, d3_0, d3_1, d3_2, d3_3, d3_4, hv13, hb14, hb15, d4_0, d4_1, d4_2, d4_3, d4_4, d4_5, gs, reduceIte, reduceCtorEq, Nat.reduceAdd, Nat.reduceMul, Nat.reduceSub, Nat.reduceBEq, Nat.reduceEqDiff, Nat.reduceLeDiff, Nat.reduceLT, Nat.reduceGT, Int.reduceToNat, Int.reduceLT, Int.reduceLE, Int.reduceNeg, Int.reduceAdd, Int.reduceEq, Int.reduceNe] <;> omega
                          · rintro h ⟨c5_0, c5_1, c5_2, c5_3, c5_4, c5_5, c5_6, c5_7, c5_8, c5_9, c5_10, c5_11⟩
                            exact e_impl_VecBytes _ _ hv4 h _ (by simp (disch := first | omega | (simp only [List.length_set, List.length_append, List.length_cons, List.length_nil, rows_len, zs]; first | done | omega)) only [ep_laws_szVector, ep_laws_toVector, ep_spec_VecBytes, ep_laws_eqByteS, ep_laws_eqVector, ep_laws_heldByteS, hv0, hb1, hv2, hv3, d0_0, d0_1, hv4, d1_0, d1_1, d1_2, d1_3, d1_4, hv5, hb6, hb7, hv8, hb9, hv10, d2_0, d2_1, d2_2, d2_3, d2_4, hb11, hv12, d3_0, d3_1, d3_2, d3_3, d3_4, hv13, hb14, hb15, d4_0, d4_1, d4_2, d4_3, d4_4, d4_5, c5_0, c5_1, c5_2, c5_3, c5_4, c5_5, c5_6, c5_7, c5_8, c5_9, c5_10, c5_11, gs, reduceIte, reduceCtorEq, Nat.reduceAdd, Nat.reduceMul, Nat.reduceSub, Nat.reduceBEq, Nat.reduceEqDiff, Nat.reduceLeDiff, Nat.reduceLT, Nat.reduceGT, Int.reduceToNat, Int.reduceLT, Int.reduceLE, Int.reduceNeg, Int.reduceAdd, Int.reduceEq, Int.reduceNe])
                          · rintro h v hh5 ⟨c5_0, c5_1, c5_2, c5_3, c5_4, c5_5, c5_6, c5_7, c5_8, c5_9, c5_10, c5_11⟩ hpost
                            obtain ⟨kk5, nb5_0, rfl, lnb5_0, gnb5_0, wnb5_0⟩ := hpost
                            have d5_0 : getCells hh5 0 1 = some [.i (.sl 1 (x0.counts.map enc))] := (keep_get kk5 c5_1 (by first | (simp; done) | (simp; omega))).trans c5_0
                            have d5_0l := keep_lt kk5 c5_1
                            have d5_1 : getCells hh5 nb0_0 v2.counts.length = some (rows (v10.b.counts : List Int)) := (keep_get kk5 c5_3 (by first | (simp; done) | (simp; omega))).trans c5_2
                            have d5_1l := keep_lt kk5 c5_3
                            have d5_2 : getCells hh5 hh0.length 0 = some [] := (keep_get kk5 c5_5 (by first | (simp; done) | (simp; omega))).trans c5_4
                            have d5_2l := keep_lt kk5 c5_5
                            have d5_3 : getCells hh5 (hh0.length + 1) 1 = some [.hsl nb0_0 v2.counts.length 0 1 false v2.counts.length] := (keep_get kk5 c5_7 (by first | (simp; done) | (simp; omega))).trans c5_6
                            have d5_3l := keep_lt kk5 c5_7
                            have d5_4 : getCells hh5 nb1_0 v4.a.length = some (rows (v12.b : List U8)) := (keep_get kk5 c5_9 (by first | (simp; done) | (simp; omega))).trans c5_8
                            have d5_4l := keep_lt kk5 c5_9
                            have d5_5 : getCells hh5 nb4_0 v2.counts.length = some (rows (v2.counts : List Int)) := (keep_get kk5 c5_11 (by first | (simp; done) | (simp; omega))).trans c5_10
                            have d5_5l := keep_lt kk5 c5_11
                            have d5_6 := wnb5_0
                            cases hp
                            simp (disch := first | omega | (simp only [List.length_set, List.length_append, List.length_cons, List.length_nil, rows_len, zs]; first | done | omega)) only [ep_laws_szVector, ep_laws_toVector, ep_spec_VecBytes, ep_laws_eqByteS, ep_laws_eqVector, ep_laws_heldByteS, hv0, hb1, hv2, hv3, d0_0, d0_1, hv4, d1_0, d1_1, d1_2, d1_3, d1_4, hv5, hb6, hb7, hv8, hb9, hv10, d2_0, d2_1, d2_2, d2_3, d2_4, hb11, hv12, d3_0, d3_1, d3_2, d3_3, d3_4, hv13, hb14, hb15, d4_0, d4_1, d4_2, d4_3, d4_4, d4_5, d5_0, d5_1, d5_2, d5_3, d5_4, d5_5, d5_6, gs, reduceIte, reduceCtorEq, Nat.reduceAdd, Nat.reduceMul, Nat.reduceSub, Nat.reduceBEq, Nat.reduceEqDiff, Nat.reduceLeDiff, Nat.reduceLT, Nat.reduceGT, Int.reduceToNat, Int.reduceLT, Int.reduceLE, Int.reduceNeg, Int.reduceAdd, Int.reduceEq, Int.reduceNe]
                      · replace hb15 := eq_false_of_ne_true hb15
                        rw [if_f hb15] at hp
                        cases hp
            · replace hb9 := eq_false_of_ne_true hb9
              rw [if_f hb9] at hp
              cases hp
          · replace hb7 := eq_false_of_ne_true hb7
            rw [if_f hb7] at hp
            cases hp
        · replace hb6 := eq_false_of_ne_true hb6
          rw [if_f hb6] at hp
          cases hp

end Go.AM
