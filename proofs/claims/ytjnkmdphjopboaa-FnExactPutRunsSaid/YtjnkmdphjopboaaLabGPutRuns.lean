/- Plain functions of PutRuns and their walks. No condition. -/
import Derived.Test.YtjnkmdphjopboaaLabB35
set_option linter.unusedVariables false
set_option linter.unusedSimpArgs false
namespace Go.AM
open Pic (enc dec dec_enc dec_sub)
open PicA (encA decA decA_encA decA_sub)
noncomputable def p_laws_toIntS_l0 (x0 : List Int) : List Int × Int → Option (Lp (List Int × Int) (List Int))
  | (s1, s2) =>
    if (decide (s2 < (x0.length : Int))) = true then
      (get? x0 s2).bind fun v4 =>
      (get? s1 s2).bind fun v5 =>
      some (.go ((s1.set s2.toNat v4), w64 (s2 + 1)))
    else
      some (.out (s1, s2))
noncomputable def p_laws_toIntS (x0 : List Int) : Option (List Int) :=
  ((mkL (x0.length : Int) 8 (x0.length : Int) 0 : Option (List Int))).bind fun v0 =>
  (loopP (p_laws_toIntS_l0 x0) (v0, 0)).bind fun ee0 => match ee0 with
  | .ret r => some r
  | .out (o7, o8) =>
    some o7
def c_laws_toIntS : AFn := ⟨22, (.seq (.ops [⟨(.some 2), (.vnil 1 false), .none, []⟩]) (.seq (.ops [⟨(.some 5), (.mv (.tmp 0)), .none, []⟩, ⟨(.some 6), (.len (.tmp 5)), .none, []⟩, ⟨(.some 7), (.makeSl 1 false 8 [(.int .i64 0)] (.tmp 6) (.tmp 6)), .none, []⟩, ⟨(.some 3), (.mv (.tmp 7)), .none, []⟩]) (.seq (.seq (.ops [⟨(.some 4), (.mv (.const (.int .i64 0))), .none, []⟩]) (.block 0 (.loop (.seq (.seq (.ops [⟨(.some 8), (.mv (.tmp 4)), .none, []⟩, ⟨(.some 9), (.mv (.tmp 0)), .none, []⟩, ⟨(.some 10), (.len (.tmp 9)), .none, []⟩, ⟨(.some 11), (.pu (.n (.ar .lss)) [(.tmp 8), (.tmp 10)]), .none, []⟩]) (.cond (.tmp 11) .skip (.exit 0))) (.seq (.block 1 (.ops [⟨(.some 14), (.mv (.tmp 3)), .none, []⟩, ⟨(.some 15), (.mv (.tmp 4)), .none, []⟩, ⟨(.some 16), (.mv (.tmp 0)), .none, []⟩, ⟨(.some 17), (.mv (.tmp 4)), .none, []⟩, ⟨(.some 18), (.idxS 1 (.tmp 16) (.tmp 17)), .none, []⟩, ⟨(.some 19), (.load 1 false (.tmp 18)), .none, []⟩, ⟨(.some 20), (.idxS 1 (.tmp 14) (.tmp 15)), .none, []⟩, ⟨.none, (.storeV [(0, false)] 1 (.tmp 20) (.tmp 19)), .none, []⟩])) (.ops [⟨(.some 12), (.mv (.tmp 4)), .none, []⟩, ⟨(.some 13), (.pu (.n (.ar .add)) [(.tmp 12), (.const (.int .i64 1))]), .none, []⟩, ⟨(.some 4), (.mv (.tmp 13)), .none, []⟩])))))) (.seq (.ops [⟨(.some 21), (.mv (.tmp 3)), .none, []⟩, ⟨(.some 2), (.mv (.tmp 21)), .none, []⟩]) .ret)))), [(.tmp 2)]⟩
set_option maxHeartbeats 10000000 in
theorem d_laws_toIntS {P : Program} {env : Env}  (x0 : List Int) {b : List Int} (hp : p_laws_toIntS x0 = some b) : R P env (c_laws_toIntS) ((encA (x0)).map ofI) [] (Tells true b) := by
  refine R_of (by simp [c_laws_toIntS, encA]) ?_
  unfold c_laws_toIntS
  unfold p_laws_toIntS at hp
  obtain ⟨v0, hv0, hp⟩ := bind_eq hp
  obtain ⟨kv0, qv0, lv0⟩ := mkL_some hv0
  have rv0 : (List.replicate x0.length [.i (.s (.int .i64 0))]).flatten = rows v0 := by rw [qv0]; exact rows_rep (x := (0 : Int)) rfl
  have mv0 : x0.length = v0.length := by rw [lv0]; simp
  obtain ⟨ee0, hee0, hp⟩ := bind_eq hp
  simp (disch := first | omega | (simp only [List.length_set, List.length_append, List.length_cons, List.length_nil, rows_len, zs]; first | done | omega)) only [hv0, rv0, kv0.1, kv0.2.1, kv0.2.2.1, kv0.2.2.2, gs, reduceIte, reduceCtorEq, Nat.reduceAdd, Nat.reduceMul, Nat.reduceSub, Nat.reduceBEq, Nat.reduceEqDiff, Nat.reduceLeDiff, Nat.reduceLT, Nat.reduceGT, Int.reduceToNat, Int.reduceLT, Int.reduceLE, Int.reduceNeg, Int.reduceAdd, Int.reduceEq, Int.reduceNe]
  refine W_loopP 0 (fun s t h => match s with | (s1, s2) => t 0 = .i (.sl 1 (x0.map enc)) ∧ t 3 = .hsl 1 x0.length 0 1 false x0.length ∧ t 4 = .i (.s (.int .i64 s2)) ∧ getCells h 1 x0.length = some (rows (s1 : List Int)) ∧ 1 < h.length) (RK [.tmp 2] (Tells true)) ?_ hee0 ?_ ?_
  · rintro ⟨s1, s2⟩ ee tt0 hh0 ⟨ftt0_0, ftt0_1, ftt0_2, ftt0_3, ftt0_4⟩ hp
    have ztt0_3 := len_rows ftt0_3
    simp only [zs] at ztt0_3
    rw [p_laws_toIntS_l0] at hp
    by_cases hb3 : (decide (s2 < (x0.length : Int))) = true
    · rw [if_t hb3] at hp
      obtain ⟨v4, hv4, hp⟩ := bind_eq hp
      obtain ⟨v5, hv5, hp⟩ := bind_eq hp
      have gv5 := get_some hv5
      have hs6 : List.take s2.toNat (rows s1) ++ .i (.s (.int .i64 v4)) :: List.drop (s2.toNat + 1) (rows s1) = rows (s1.set s2.toNat v4) := by simpa [splice, zs, cellsV, I.cells, enc_int] using rows_set_off (y := v4) (ys := [.i (.s (.int .i64 v4))]) (k := 0) gv5.2.2 (Nat.le_of_ble_eq_true rfl) (by rfl)
      have hp := Option.some.inj hp
      subst hp
      simp (disch := first | omega | (simp only [List.length_set, List.length_append, List.length_cons, List.length_nil, rows_len, zs]; first | done | omega)) only [hv0, rv0, kv0.1, kv0.2.1, kv0.2.2.1, kv0.2.2.2, ftt0_0, ftt0_1, ftt0_2, ftt0_3, ftt0_4, hb3, hv4, hv5, (gv5).1, (gv5).2.1, hs6, gs, reduceIte, reduceCtorEq, Nat.reduceAdd, Nat.reduceMul, Nat.reduceSub, Nat.reduceBEq, Nat.reduceEqDiff, Nat.reduceLeDiff, Nat.reduceLT, Nat.reduceGT, Int.reduceToNat, Int.reduceLT, Int.reduceLE, Int.reduceNeg, Int.reduceAdd, Int.reduceEq, Int.reduceNe] <;> omega
    · replace hb3 := eq_false_of_ne_true hb3
      rw [if_f hb3] at hp
      have hp := Option.some.inj hp
      subst hp
      simp (disch := first | omega | (simp only [List.length_set, List.length_append, List.length_cons, List.length_nil, rows_len, zs]; first | done | omega)) only [hv0, rv0, kv0.1, kv0.2.1, kv0.2.2.1, kv0.2.2.2, ftt0_0, ftt0_1, ftt0_2, ftt0_3, ftt0_4, hb3, gs, reduceIte, reduceCtorEq, Nat.reduceAdd, Nat.reduceMul, Nat.reduceSub, Nat.reduceBEq, Nat.reduceEqDiff, Nat.reduceLeDiff, Nat.reduceLT, Nat.reduceGT, Int.reduceToNat, Int.reduceLT, Int.reduceLE, Int.reduceNeg, Int.reduceAdd, Int.reduceEq, Int.reduceNe] <;> omega
  · simp (disch := first | omega | (simp only [List.length_set, List.length_append, List.length_cons, List.length_nil, rows_len, zs]; first | done | omega)) only [hv0, rv0, kv0.1, kv0.2.1, kv0.2.2.1, kv0.2.2.2, gs, reduceIte, reduceCtorEq, Nat.reduceAdd, Nat.reduceMul, Nat.reduceSub, Nat.reduceBEq, Nat.reduceEqDiff, Nat.reduceLeDiff, Nat.reduceLT, Nat.reduceGT, Int.reduceToNat, Int.reduceLT, Int.reduceLE, Int.reduceNeg, Int.reduceAdd, Int.reduceEq, Int.reduceNe] <;> omega
  · intro x tt1 hh1 hx
    rcases ee0 with ⟨o7, o8⟩ | r
    · obtain ⟨rfl, ftt1_0, ftt1_1, ftt1_2, ftt1_3, ftt1_4⟩ := hx
      have ztt1_3 := len_rows ftt1_3
      simp only [zs] at ztt1_3
      dsimp only at hp
      have hp := Option.some.inj hp
      subst hp
      simp (disch := first | omega | (simp only [List.length_set, List.length_append, List.length_cons, List.length_nil, rows_len, zs]; first | done | omega)) only [hv0, rv0, kv0.1, kv0.2.1, kv0.2.2.1, kv0.2.2.2, ftt1_0, ftt1_1, ftt1_2, ftt1_3, ftt1_4, gs, reduceIte, reduceCtorEq, Nat.reduceAdd, Nat.reduceMul, Nat.reduceSub, Nat.reduceBEq, Nat.reduceEqDiff, Nat.reduceLeDiff, Nat.reduceLT, Nat.reduceGT, Int.reduceToNat, Int.reduceLT, Int.reduceLE, Int.reduceNeg, Int.reduceAdd, Int.reduceEq, Int.reduceNe]
    · obtain ⟨rfl, hx⟩ := hx
      dsimp only at hp
      cases hp
      simp only [seqK_ret, blockK_ret, retK_RK (K := Tells true), hx, and_self, true_and]

def o_laws_toIntS (b : List Int) (v : V) (h : Heap) : Prop := ∃ n0 : Nat, v = .hsl n0 b.length 0 1 false b.length ∧ getCells h n0 b.length = some (rows b)
def oo_laws_toIntS (b : List Int) (h : Heap) (v : V) (h2 : Heap) : Prop := Keep [] h h2 ∧ ∃ n0 : Nat, v = .hsl n0 b.length 0 1 false b.length ∧ n0 < h2.length ∧ h.length ≤ n0 ∧ getCells h2 n0 b.length = some (rows b)
def k_laws_toIntS (F : Fun) : Prop := ∀ (x0 : List Int) (b : List Int), p_laws_toIntS x0 = some b → ∀ (h : Heap) (args : List V), snapA 9 false h args = some (encA (x0)) → ∃ p, F none args h = some p ∧ oo_laws_toIntS b h p.1 p.2
set_option maxHeartbeats 10000000 in
theorem w_laws_toIntS {P : Program} {env : Env}  (x0 : List Int) {b : List Int} (hp : p_laws_toIntS x0 = some b) : R P env (c_laws_toIntS) ((encA (x0)).map ofI) [] (o_laws_toIntS b) := by
  refine R_of (by simp [c_laws_toIntS, encA]) ?_
  unfold c_laws_toIntS
  unfold p_laws_toIntS at hp
  obtain ⟨v0, hv0, hp⟩ := bind_eq hp
  obtain ⟨kv0, qv0, lv0⟩ := mkL_some hv0
  have rv0 : (List.replicate x0.length [.i (.s (.int .i64 0))]).flatten = rows v0 := by rw [qv0]; exact rows_rep (x := (0 : Int)) rfl
  have mv0 : x0.length = v0.length := by rw [lv0]; simp
  obtain ⟨ee0, hee0, hp⟩ := bind_eq hp
  simp (disch := first | omega | (simp only [List.length_set, List.length_append, List.length_cons, List.length_nil, rows_len, zs]; first | done | omega)) only [hv0, rv0, kv0.1, kv0.2.1, kv0.2.2.1, kv0.2.2.2, gs, reduceIte, reduceCtorEq, Nat.reduceAdd, Nat.reduceMul, Nat.reduceSub, Nat.reduceBEq, Nat.reduceEqDiff, Nat.reduceLeDiff, Nat.reduceLT, Nat.reduceGT, Int.reduceToNat, Int.reduceLT, Int.reduceLE, Int.reduceNeg, Int.reduceAdd, Int.reduceEq, Int.reduceNe]
  refine W_loopP 0 (fun s t h => match s with | (s1, s2) => t 0 = .i (.sl 1 (x0.map enc)) ∧ t 3 = .hsl 1 x0.length 0 1 false x0.length ∧ t 4 = .i (.s (.int .i64 s2)) ∧ getCells h 1 x0.length = some (rows (s1 : List Int)) ∧ 1 < h.length) (RK [.tmp 2] (o_laws_toIntS)) ?_ hee0 ?_ ?_
  · rintro ⟨s1, s2⟩ ee tt0 hh0 ⟨ftt0_0, ftt0_1, ftt0_2, ftt0_3, ftt0_4⟩ hp
    have ztt0_3 := len_rows ftt0_3
    simp only [zs] at ztt0_3
    rw [p_laws_toIntS_l0] at hp
    by_cases hb3 : (decide (s2 < (x0.length : Int))) = true
    · rw [if_t hb3] at hp
      obtain ⟨v4, hv4, hp⟩ := bind_eq hp
      obtain ⟨v5, hv5, hp⟩ := bind_eq hp
      have gv5 := get_some hv5
      have hs6 : List.take s2.toNat (rows s1) ++ .i (.s (.int .i64 v4)) :: List.drop (s2.toNat + 1) (rows s1) = rows (s1.set s2.toNat v4) := by simpa [splice, zs, cellsV, I.cells, enc_int] using rows_set_off (y := v4) (ys := [.i (.s (.int .i64 v4))]) (k := 0) gv5.2.2 (Nat.le_of_ble_eq_true rfl) (by rfl)
      have hp := Option.some.inj hp
      subst hp
      simp (disch := first | omega | (simp only [List.length_set, List.length_append, List.length_cons, List.length_nil, rows_len, zs]; first | done | omega)) only [hv0, rv0, kv0.1, kv0.2.1, kv0.2.2.1, kv0.2.2.2, ftt0_0, ftt0_1, ftt0_2, ftt0_3, ftt0_4, hb3, hv4, hv5, (gv5).1, (gv5).2.1, hs6, gs, reduceIte, reduceCtorEq, Nat.reduceAdd, Nat.reduceMul, Nat.reduceSub, Nat.reduceBEq, Nat.reduceEqDiff, Nat.reduceLeDiff, Nat.reduceLT, Nat.reduceGT, Int.reduceToNat, Int.reduceLT, Int.reduceLE, Int.reduceNeg, Int.reduceAdd, Int.reduceEq, Int.reduceNe] <;> omega
    · replace hb3 := eq_false_of_ne_true hb3
      rw [if_f hb3] at hp
      have hp := Option.some.inj hp
      subst hp
      simp (disch := first | omega | (simp only [List.length_set, List.length_append, List.length_cons, List.length_nil, rows_len, zs]; first | done | omega)) only [hv0, rv0, kv0.1, kv0.2.1, kv0.2.2.1, kv0.2.2.2, ftt0_0, ftt0_1, ftt0_2, ftt0_3, ftt0_4, hb3, gs, reduceIte, reduceCtorEq, Nat.reduceAdd, Nat.reduceMul, Nat.reduceSub, Nat.reduceBEq, Nat.reduceEqDiff, Nat.reduceLeDiff, Nat.reduceLT, Nat.reduceGT, Int.reduceToNat, Int.reduceLT, Int.reduceLE, Int.reduceNeg, Int.reduceAdd, Int.reduceEq, Int.reduceNe] <;> omega
  · simp (disch := first | omega | (simp only [List.length_set, List.length_append, List.length_cons, List.length_nil, rows_len, zs]; first | done | omega)) only [hv0, rv0, kv0.1, kv0.2.1, kv0.2.2.1, kv0.2.2.2, gs, reduceIte, reduceCtorEq, Nat.reduceAdd, Nat.reduceMul, Nat.reduceSub, Nat.reduceBEq, Nat.reduceEqDiff, Nat.reduceLeDiff, Nat.reduceLT, Nat.reduceGT, Int.reduceToNat, Int.reduceLT, Int.reduceLE, Int.reduceNeg, Int.reduceAdd, Int.reduceEq, Int.reduceNe] <;> omega
  · intro x tt1 hh1 hx
    rcases ee0 with ⟨o7, o8⟩ | r
    · obtain ⟨rfl, ftt1_0, ftt1_1, ftt1_2, ftt1_3, ftt1_4⟩ := hx
      have ztt1_3 := len_rows ftt1_3
      simp only [zs] at ztt1_3
      dsimp only at hp
      have hp := Option.some.inj hp
      subst hp
      simp (disch := first | omega | (simp only [List.length_set, List.length_append, List.length_cons, List.length_nil, rows_len, zs]; first | done | omega)) only [hv0, rv0, kv0.1, kv0.2.1, kv0.2.2.1, kv0.2.2.2, ftt1_0, ftt1_1, ftt1_2, ftt1_3, ftt1_4, gs, reduceIte, reduceCtorEq, Nat.reduceAdd, Nat.reduceMul, Nat.reduceSub, Nat.reduceBEq, Nat.reduceEqDiff, Nat.reduceLeDiff, Nat.reduceLT, Nat.reduceGT, Int.reduceToNat, Int.reduceLT, Int.reduceLE, Int.reduceNeg, Int.reduceAdd, Int.reduceEq, Int.reduceNe]
      refine ⟨1, ?_⟩
      simp (disch := first | omega | (simp only [List.length_set, List.length_append, List.length_cons, List.length_nil, rows_len, zs]; first | done | omega)) only [hv0, rv0, kv0.1, kv0.2.1, kv0.2.2.1, kv0.2.2.2, ftt1_0, ftt1_1, ftt1_2, ftt1_3, ftt1_4, o_laws_toIntS, (show (o7).length = x0.length from by first | omega | rfl), gs, reduceIte, reduceCtorEq, Nat.reduceAdd, Nat.reduceMul, Nat.reduceSub, Nat.reduceBEq, Nat.reduceEqDiff, Nat.reduceLeDiff, Nat.reduceLT, Nat.reduceGT, Int.reduceToNat, Int.reduceLT, Int.reduceLE, Int.reduceNeg, Int.reduceAdd, Int.reduceEq, Int.reduceNe] <;> omega
    · obtain ⟨rfl, hx⟩ := hx
      dsimp only at hp
      cases hp
      simp only [seqK_ret, blockK_ret, retK_RK (K := o_laws_toIntS), hx, and_self, true_and]
theorem ko_laws_toIntS {P : Program} {env : Env}  : k_laws_toIntS (ownFn P env (c_laws_toIntS)) := by
  intro x0 b hp h args has
  obtain ⟨⟨v, H2⟩, hr, n0, rfl, wn0⟩ := w_laws_toIntS x0 hp
  exact ⟨_, own_call has hr rfl, keep_moved, n0 + h.length, rfl, (moved_lt wn0).2, (moved_lt wn0).1, moved_rows wn0⟩

noncomputable def p_spec_l01RunsOK_l0 (x0 : List Int) : Int → Option (Lp (Int) Bool)
  | s0 =>
    if (decide (s0 < (x0.length : Int))) = true then
      (get? x0 s0).bind fun v2 =>
      if (decide (v2 < 0)) = true then
        some (.ret false)
      else
        if (decide (1152921504606846975 < v2)) = true then
          some (.ret false)
        else
          some (.go (w64 (s0 + 1)))
    else
      some (.out s0)
noncomputable def p_spec_l01RunsOK (x0 : List Int) : Option Bool :=
  (loopP (p_spec_l01RunsOK_l0 x0) 0).bind fun ee0 => match ee0 with
  | .ret r => some r
  | .out o5 =>
    some true
def c_spec_l01RunsOK : AFn := ⟨22, (.seq (.ops [⟨(.some 2), (.mv (.const (.bool false))), .none, []⟩]) (.seq (.seq (.ops [⟨(.some 3), (.mv (.const (.int .i64 0))), .none, []⟩]) (.block 0 (.loop (.seq (.seq (.ops [⟨(.some 4), (.mv (.tmp 3)), .none, []⟩, ⟨(.some 5), (.mv (.tmp 0)), .none, []⟩, ⟨(.some 6), (.len (.tmp 5)), .none, []⟩, ⟨(.some 7), (.pu (.n (.ar .lss)) [(.tmp 4), (.tmp 6)]), .none, []⟩]) (.cond (.tmp 7) .skip (.exit 0))) (.seq (.block 1 (.seq (.ops [⟨(.some 10), (.mv (.tmp 0)), .none, []⟩, ⟨(.some 11), (.mv (.tmp 3)), .none, []⟩, ⟨(.some 12), (.idxS 1 (.tmp 10) (.tmp 11)), .none, []⟩, ⟨(.some 13), (.load 1 false (.tmp 12)), .none, []⟩, ⟨(.some 14), (.pu (.n (.ar .lss)) [(.tmp 13), (.const (.int .i64 0))]), .none, []⟩, ⟨(.some 15), (.mv (.tmp 14)), .none, []⟩, ⟨(.some 16), (.mv (.tmp 0)), (.some (15, false)), []⟩, ⟨(.some 17), (.mv (.tmp 3)), (.some (15, false)), []⟩, ⟨(.some 18), (.idxS 1 (.tmp 16) (.tmp 17)), (.some (15, false)), []⟩, ⟨(.some 19), (.load 1 false (.tmp 18)), (.some (15, false)), []⟩, ⟨(.some 20), (.pu (.n (.ar .gtr)) [(.tmp 19), (.const (.int .i64 1152921504606846975))]), (.some (15, false)), []⟩, ⟨(.some 21), (.pick (.tmp 15) (.const (.bool true)) (.tmp 20)), .none, []⟩]) (.cond (.tmp 21) (.seq (.ops [⟨(.some 2), (.mv (.const (.bool false))), .none, []⟩]) .ret) .skip))) (.ops [⟨(.some 8), (.mv (.tmp 3)), .none, []⟩, ⟨(.some 9), (.pu (.n (.ar .add)) [(.tmp 8), (.const (.int .i64 1))]), .none, []⟩, ⟨(.some 3), (.mv (.tmp 9)), .none, []⟩])))))) (.seq (.ops [⟨(.some 2), (.mv (.const (.bool true))), .none, []⟩]) .ret))), [(.tmp 2)]⟩
set_option maxHeartbeats 10000000 in
theorem d_spec_l01RunsOK {P : Program} {env : Env}  (x0 : List Int) {b : Bool} (hp : p_spec_l01RunsOK x0 = some b) : R P env (c_spec_l01RunsOK) ((encA (x0)).map ofI) [] (Tells true b) := by
  refine R_of (by simp [c_spec_l01RunsOK, encA]) ?_
  unfold c_spec_l01RunsOK
  unfold p_spec_l01RunsOK at hp
  obtain ⟨ee0, hee0, hp⟩ := bind_eq hp
  simp (disch := first | omega | (simp only [List.length_set, List.length_append, List.length_cons, List.length_nil, rows_len, zs]; first | done | omega)) only [gs, reduceIte, reduceCtorEq, Nat.reduceAdd, Nat.reduceMul, Nat.reduceSub, Nat.reduceBEq, Nat.reduceEqDiff, Nat.reduceLeDiff, Nat.reduceLT, Nat.reduceGT, Int.reduceToNat, Int.reduceLT, Int.reduceLE, Int.reduceNeg, Int.reduceAdd, Int.reduceEq, Int.reduceNe]
  refine W_loopP 0 (fun s t h => match s with | s0 => t 0 = .i (.sl 1 (x0.map enc)) ∧ t 3 = .i (.s (.int .i64 s0))) (RK [.tmp 2] (Tells true)) ?_ hee0 ?_ ?_
  · rintro s0 ee tt0 hh0 ⟨ftt0_0, ftt0_1⟩ hp
    rw [p_spec_l01RunsOK_l0] at hp
    by_cases hb1 : (decide (s0 < (x0.length : Int))) = true
    · rw [if_t hb1] at hp
      obtain ⟨v2, hv2, hp⟩ := bind_eq hp
      by_cases hb3 : (decide (v2 < 0)) = true
      · rw [if_t hb3] at hp
        have hp := Option.some.inj hp
        subst hp
        simp (disch := first | omega | (simp only [List.length_set, List.length_append, List.length_cons, List.length_nil, rows_len, zs]; first | done | omega)) only [ftt0_0, ftt0_1, hb1, hv2, hb3, gs, reduceIte, reduceCtorEq, Nat.reduceAdd, Nat.reduceMul, Nat.reduceSub, Nat.reduceBEq, Nat.reduceEqDiff, Nat.reduceLeDiff, Nat.reduceLT, Nat.reduceGT, Int.reduceToNat, Int.reduceLT, Int.reduceLE, Int.reduceNeg, Int.reduceAdd, Int.reduceEq, Int.reduceNe]
      · replace hb3 := eq_false_of_ne_true hb3
        rw [if_f hb3] at hp
        by_cases hb4 : (decide (1152921504606846975 < v2)) = true
        · rw [if_t hb4] at hp
          have hp := Option.some.inj hp
          subst hp
          simp (disch := first | omega | (simp only [List.length_set, List.length_append, List.length_cons, List.length_nil, rows_len, zs]; first | done | omega)) only [ftt0_0, ftt0_1, hb1, hv2, hb3, hb4, gs, reduceIte, reduceCtorEq, Nat.reduceAdd, Nat.reduceMul, Nat.reduceSub, Nat.reduceBEq, Nat.reduceEqDiff, Nat.reduceLeDiff, Nat.reduceLT, Nat.reduceGT, Int.reduceToNat, Int.reduceLT, Int.reduceLE, Int.reduceNeg, Int.reduceAdd, Int.reduceEq, Int.reduceNe]
        · replace hb4 := eq_false_of_ne_true hb4
          rw [if_f hb4] at hp
          have hp := Option.some.inj hp
          subst hp
          simp (disch := first | omega | (simp only [List.length_set, List.length_append, List.length_cons, List.length_nil, rows_len, zs]; first | done | omega)) only [ftt0_0, ftt0_1, hb1, hv2, hb3, hb4, gs, reduceIte, reduceCtorEq, Nat.reduceAdd, Nat.reduceMul, Nat.reduceSub, Nat.reduceBEq, Nat.reduceEqDiff, Nat.reduceLeDiff, Nat.reduceLT, Nat.reduceGT, Int.reduceToNat, Int.reduceLT, Int.reduceLE, Int.reduceNeg, Int.reduceAdd, Int.reduceEq, Int.reduceNe] <;> omega
    · replace hb1 := eq_false_of_ne_true hb1
      rw [if_f hb1] at hp
      have hp := Option.some.inj hp
      subst hp
      simp (disch := first | omega | (simp only [List.length_set, List.length_append, List.length_cons, List.length_nil, rows_len, zs]; first | done | omega)) only [ftt0_0, ftt0_1, hb1, gs, reduceIte, reduceCtorEq, Nat.reduceAdd, Nat.reduceMul, Nat.reduceSub, Nat.reduceBEq, Nat.reduceEqDiff, Nat.reduceLeDiff, Nat.reduceLT, Nat.reduceGT, Int.reduceToNat, Int.reduceLT, Int.reduceLE, Int.reduceNeg, Int.reduceAdd, Int.reduceEq, Int.reduceNe] <;> omega
  · simp (disch := first | omega | (simp only [List.length_set, List.length_append, List.length_cons, List.length_nil, rows_len, zs]; first | done | omega)) only [gs, reduceIte, reduceCtorEq, Nat.reduceAdd, Nat.reduceMul, Nat.reduceSub, Nat.reduceBEq, Nat.reduceEqDiff, Nat.reduceLeDiff, Nat.reduceLT, Nat.reduceGT, Int.reduceToNat, Int.reduceLT, Int.reduceLE, Int.reduceNeg, Int.reduceAdd, Int.reduceEq, Int.reduceNe] <;> omega
  · intro x tt1 hh1 hx
    rcases ee0 with o5 | r
    · obtain ⟨rfl, ftt1_0, ftt1_1⟩ := hx
      dsimp only at hp
      have hp := Option.some.inj hp
      subst hp
      simp (disch := first | omega | (simp only [List.length_set, List.length_append, List.length_cons, List.length_nil, rows_len, zs]; first | done | omega)) only [ftt1_0, ftt1_1, gs, reduceIte, reduceCtorEq, Nat.reduceAdd, Nat.reduceMul, Nat.reduceSub, Nat.reduceBEq, Nat.reduceEqDiff, Nat.reduceLeDiff, Nat.reduceLT, Nat.reduceGT, Int.reduceToNat, Int.reduceLT, Int.reduceLE, Int.reduceNeg, Int.reduceAdd, Int.reduceEq, Int.reduceNe]
    · obtain ⟨rfl, hx⟩ := hx
      dsimp only at hp
      cases hp
      simp only [seqK_ret, blockK_ret, retK_RK (K := Tells true), hx, and_self, true_and]

noncomputable def pB_spec_l01Put (rr : Int → Option (List U8)) (x0 : Int) : Option (List U8) :=
  if (decide (x0 < 128)) = true then
    some ([(U8.mk (IntKind.wrap .u8 x0))])
  else
    (rr (w64 (Int.tdiv x0 128))).bind fun v1 =>
    (app? 1 ([(U8.mk (IntKind.wrap .u8 (w64 (128 + (Int.tmod x0 128)))))]) v1).bind fun v2 =>
    some v2
noncomputable def pN_spec_l01Put : Nat → Int → Option (List U8)
  | 0 => fun _ => none
  | n + 1 => pB_spec_l01Put (pN_spec_l01Put n)
noncomputable def p_spec_l01Put (x0 : Int) : Option (List U8) := fixP fun n => pN_spec_l01Put n x0
def c_spec_l01Put (f_spec_l01Put : Nat) : AFn := ⟨17, (.seq (.ops [⟨(.some 2), (.vnil 1 false), .none, []⟩]) (.seq (.seq (.ops [⟨(.some 3), (.mv (.tmp 0)), .none, []⟩, ⟨(.some 4), (.pu (.n (.ar .lss)) [(.tmp 3), (.const (.int .i64 128))]), .none, []⟩]) (.cond (.tmp 4) (.seq (.ops [⟨(.some 5), (.mv (.tmp 0)), .none, []⟩, ⟨(.some 6), (.pu (.n (.conv .u8)) [(.tmp 5)]), .none, []⟩, ⟨(.some 7), (.buildSl 1 false 1 [(.int .u8 0)] [(0, (.tmp 6))]), .none, []⟩, ⟨(.some 2), (.mv (.tmp 7)), .none, []⟩]) .ret) .skip)) (.seq (.ops [⟨(.some 8), (.mv (.tmp 0)), .none, []⟩, ⟨(.some 9), (.pu (.n (.ar .rem)) [(.tmp 8), (.const (.int .i64 128))]), .none, []⟩, ⟨(.some 10), (.pu (.n (.ar .add)) [(.const (.int .i64 128)), (.tmp 9)]), .none, []⟩, ⟨(.some 11), (.pu (.n (.conv .u8)) [(.tmp 10)]), .none, []⟩, ⟨(.some 12), (.buildSl 1 false 1 [(.int .u8 0)] [(0, (.tmp 11))]), .none, []⟩, ⟨(.some 13), (.mv (.tmp 0)), .none, []⟩, ⟨(.some 14), (.pu (.n (.ar .quo)) [(.tmp 13), (.const (.int .i64 128))]), .none, []⟩, ⟨(.some 15), (.call (2 * f_spec_l01Put + 1) [(.tmp 14)]), .none, []⟩, ⟨(.some 16), (.append 1 false 1 (.tmp 12) (.tmp 15)), .none, []⟩, ⟨(.some 2), (.mv (.tmp 16)), .none, []⟩]) .ret))), [(.tmp 2)]⟩
def o_spec_l01Put (b : List U8) (v : V) (h : Heap) : Prop := ∃ n0 : Nat, v = .hsl n0 b.length 0 1 false b.length ∧ getCells h n0 b.length = some (rows b)
def oo_spec_l01Put (b : List U8) (h : Heap) (v : V) (h2 : Heap) : Prop := Keep [] h h2 ∧ ∃ n0 : Nat, v = .hsl n0 b.length 0 1 false b.length ∧ n0 < h2.length ∧ h.length ≤ n0 ∧ getCells h2 n0 b.length = some (rows b)
def kR_spec_l01Put (rr : Int → Option (List U8)) (F : Fun) : Prop := ∀ (x0 : Int) (b : List U8), rr x0 = some b → ∀ (h : Heap) (args : List V), snapA 9 false h args = some (encA (x0)) → ∃ p, F none args h = some p ∧ oo_spec_l01Put b h p.1 p.2
def k_spec_l01Put (F : Fun) : Prop := kR_spec_l01Put p_spec_l01Put F
set_option maxHeartbeats 10000000 in
theorem w_spec_l01Put {P : Program} {env : Env} {f_spec_l01Put : Nat}  {rr : Int → Option (List U8)} (e_spec_l01Put : kR_spec_l01Put rr (env (2 * f_spec_l01Put + 1))) (x0 : Int) {b : List U8} (hp : pB_spec_l01Put rr x0 = some b) : R P env (c_spec_l01Put f_spec_l01Put) ((encA (x0)).map ofI) [] (o_spec_l01Put b) := by
  refine R_of (by simp [c_spec_l01Put, encA]) ?_
  unfold c_spec_l01Put
  unfold pB_spec_l01Put at hp
  by_cases hb0 : (decide (x0 < 128)) = true
  · rw [if_t hb0] at hp
    have hp := Option.some.inj hp
    subst hp
    simp (disch := first | omega | (simp only [List.length_set, List.length_append, List.length_cons, List.length_nil, rows_len, zs]; first | done | omega)) only [hb0, gs, reduceIte, reduceCtorEq, Nat.reduceAdd, Nat.reduceMul, Nat.reduceSub, Nat.reduceBEq, Nat.reduceEqDiff, Nat.reduceLeDiff, Nat.reduceLT, Nat.reduceGT, Int.reduceToNat, Int.reduceLT, Int.reduceLE, Int.reduceNeg, Int.reduceAdd, Int.reduceEq, Int.reduceNe]
    refine ⟨1, ?_⟩
    simp (disch := first | omega | (simp only [List.length_set, List.length_append, List.length_cons, List.length_nil, rows_len, zs]; first | done | omega)) only [hb0, o_spec_l01Put, (show ([(U8.mk (IntKind.wrap .u8 x0))]).length = 1 from by first | omega | rfl), gs, reduceIte, reduceCtorEq, Nat.reduceAdd, Nat.reduceMul, Nat.reduceSub, Nat.reduceBEq, Nat.reduceEqDiff, Nat.reduceLeDiff, Nat.reduceLT, Nat.reduceGT, Int.reduceToNat, Int.reduceLT, Int.reduceLE, Int.reduceNeg, Int.reduceAdd, Int.reduceEq, Int.reduceNe] <;> omega
  · replace hb0 := eq_false_of_ne_true hb0
    rw [if_f hb0] at hp
    obtain ⟨v1, hv1, hp⟩ := bind_eq hp
    simp (disch := first | omega | (simp only [List.length_set, List.length_append, List.length_cons, List.length_nil, rows_len, zs]; first | done | omega)) only [hb0, gs, reduceIte, reduceCtorEq, Nat.reduceAdd, Nat.reduceMul, Nat.reduceSub, Nat.reduceBEq, Nat.reduceEqDiff, Nat.reduceLeDiff, Nat.reduceLT, Nat.reduceGT, Int.reduceToNat, Int.reduceLT, Int.reduceLE, Int.reduceNeg, Int.reduceAdd, Int.reduceEq, Int.reduceNe]
    refine call_f (fun h => getCells h 0 0 = some [] ∧ 0 < h.length ∧ getCells h 1 1 = some (rows ([(U8.mk (IntKind.wrap .u8 (w64 (128 + (Int.tmod x0 128)))))] : List U8)) ∧ 1 < h.length) (fun h v h2 => oo_spec_l01Put v1 h v h2) ?_ ?_ ?_
    · simp (disch := first | omega | (simp only [List.length_set, List.length_append, List.length_cons, List.length_nil, rows_len, zs]; first | done | omega)) only [hb0, hv1, gs, reduceIte, reduceCtorEq, Nat.reduceAdd, Nat.reduceMul, Nat.reduceSub, Nat.reduceBEq, Nat.reduceEqDiff, Nat.reduceLeDiff, Nat.reduceLT, Nat.reduceGT, Int.reduceToNat, Int.reduceLT, Int.reduceLE, Int.reduceNeg, Int.reduceAdd, Int.reduceEq, Int.reduceNe] <;> omega
    · rintro h ⟨c0_0, c0_1, c0_2, c0_3⟩
      exact e_spec_l01Put _ _ hv1 h _ (by simp (disch := first | omega | (simp only [List.length_set, List.length_append, List.length_cons, List.length_nil, rows_len, zs]; first | done | omega)) only [hb0, hv1, c0_0, c0_1, c0_2, c0_3, gs, reduceIte, reduceCtorEq, Nat.reduceAdd, Nat.reduceMul, Nat.reduceSub, Nat.reduceBEq, Nat.reduceEqDiff, Nat.reduceLeDiff, Nat.reduceLT, Nat.reduceGT, Int.reduceToNat, Int.reduceLT, Int.reduceLE, Int.reduceNeg, Int.reduceAdd, Int.reduceEq, Int.reduceNe])
    · rintro h v hh0 ⟨c0_0, c0_1, c0_2, c0_3⟩ hpost
      obtain ⟨kk0, nb0_0, rfl, lnb0_0, gnb0_0, wnb0_0⟩ := hpost
      have d0_0 : getCells hh0 0 0 = some [] := (keep_get kk0 c0_1 (by first | (simp; done) | (simp; omega))).trans c0_0
      have d0_0l := keep_lt kk0 c0_1
      have d0_1 : getCells hh0 1 1 = some (rows ([(U8.mk (IntKind.wrap .u8 (w64 (128 + (Int.tmod x0 128)))))] : List U8)) := (keep_get kk0 c0_3 (by first | (simp; done) | (simp; omega))).trans c0_2
      have d0_1l := keep_lt kk0 c0_3
      have d0_2 := wnb0_0
      obtain ⟨v2, hv2, hp⟩ := bind_eq hp
      simp (disch := first | omega | (simp only [List.length_set, List.length_append, List.length_cons, List.length_nil, rows_len, zs]; first | done | omega)) only [hb0, hv1, d0_0, d0_1, d0_2, gs, reduceIte, reduceCtorEq, Nat.reduceAdd, Nat.reduceMul, Nat.reduceSub, Nat.reduceBEq, Nat.reduceEqDiff, Nat.reduceLeDiff, Nat.reduceLT, Nat.reduceGT, Int.reduceToNat, Int.reduceLT, Int.reduceLE, Int.reduceNeg, Int.reduceAdd, Int.reduceEq, Int.reduceNe]
      refine app_f (b := 1) (xs := ([(U8.mk (IntKind.wrap .u8 (w64 (128 + (Int.tmod x0 128)))))])) (ys := v1) (fun h => getCells h 0 0 = some [] ∧ 0 < h.length ∧ getCells h 1 1 = some (rows ([(U8.mk (IntKind.wrap .u8 (w64 (128 + (Int.tmod x0 128)))))] : List U8)) ∧ 1 < h.length ∧ getCells h nb0_0 v1.length = some (rows (v1 : List U8)) ∧ nb0_0 < h.length) ?_ ?_ hv2 rfl (by first | rfl | omega | (simp; omega)) (by first | rfl | omega | (simp; omega)) (by first | rfl | omega | (simp; omega)) ?_
      · simp (disch := first | omega | (simp only [List.length_set, List.length_append, List.length_cons, List.length_nil, rows_len, zs]; first | done | omega)) only [hb0, hv1, d0_0, d0_1, d0_2, hv2, gs, reduceIte, reduceCtorEq, Nat.reduceAdd, Nat.reduceMul, Nat.reduceSub, Nat.reduceBEq, Nat.reduceEqDiff, Nat.reduceLeDiff, Nat.reduceLT, Nat.reduceGT, Int.reduceToNat, Int.reduceLT, Int.reduceLE, Int.reduceNeg, Int.reduceAdd, Int.reduceEq, Int.reduceNe] <;> omega
      · rintro h ⟨c1_0, c1_1, c1_2, c1_3, c1_4, c1_5⟩
        exact gc_eq c1_2 (by omega)
      · rintro h hh1 ⟨c1_0, c1_1, c1_2, c1_3, c1_4, c1_5⟩ kk1 w1
        have d1_0 : getCells hh1 0 0 = some [] := (keep_get kk1 c1_1 (by first | (simp; done) | (simp; omega))).trans c1_0
        have d1_0l := keep_lt kk1 c1_1
        have d1_1 : getCells hh1 1 v2.length = some (rows (v2 : List U8)) := by simpa only [Nat.mul_one] using w1
        have d1_1l := keep_lt kk1 c1_3
        have d1_2 : getCells hh1 nb0_0 v1.length = some (rows (v1 : List U8)) := (keep_get kk1 c1_5 (by first | (simp; done) | (simp; omega))).trans c1_4
        have d1_2l := keep_lt kk1 c1_5
        have hp := Option.some.inj hp
        subst hp
        simp (disch := first | omega | (simp only [List.length_set, List.length_append, List.length_cons, List.length_nil, rows_len, zs]; first | done | omega)) only [hb0, hv1, d0_0, d0_1, d0_2, hv2, d1_0, d1_1, d1_2, gs, reduceIte, reduceCtorEq, Nat.reduceAdd, Nat.reduceMul, Nat.reduceSub, Nat.reduceBEq, Nat.reduceEqDiff, Nat.reduceLeDiff, Nat.reduceLT, Nat.reduceGT, Int.reduceToNat, Int.reduceLT, Int.reduceLE, Int.reduceNeg, Int.reduceAdd, Int.reduceEq, Int.reduceNe]
        refine ⟨1, ?_⟩
        simp (disch := first | omega | (simp only [List.length_set, List.length_append, List.length_cons, List.length_nil, rows_len, zs]; first | done | omega)) only [hb0, hv1, d0_0, d0_1, d0_2, hv2, d1_0, d1_1, d1_2, o_spec_l01Put, gs, reduceIte, reduceCtorEq, Nat.reduceAdd, Nat.reduceMul, Nat.reduceSub, Nat.reduceBEq, Nat.reduceEqDiff, Nat.reduceLeDiff, Nat.reduceLT, Nat.reduceGT, Int.reduceToNat, Int.reduceLT, Int.reduceLE, Int.reduceNeg, Int.reduceAdd, Int.reduceEq, Int.reduceNe] <;> omega
theorem ko_spec_l01Put {P : Program} {env : Env} {f_spec_l01Put : Nat}  {rr : Int → Option (List U8)} (e_spec_l01Put : kR_spec_l01Put rr (env (2 * f_spec_l01Put + 1))) : kR_spec_l01Put (pB_spec_l01Put rr) (ownFn P env (c_spec_l01Put f_spec_l01Put)) := by
  intro x0 b hp h args has
  obtain ⟨⟨v, H2⟩, hr, n0, rfl, wn0⟩ := w_spec_l01Put e_spec_l01Put x0 hp
  exact ⟨_, own_call has hr rfl, keep_moved, n0 + h.length, rfl, (moved_lt wn0).2, (moved_lt wn0).1, moved_rows wn0⟩

noncomputable def p_spec_l01Signed (x0 : Int) : Option (List U8) :=
  if (decide (x0 < 0)) = true then
    (p_spec_l01Put (w64 ((w64 ((-2) * x0)) - 1))).bind fun v1 =>
    some v1
  else
    (p_spec_l01Put (w64 (2 * x0))).bind fun v2 =>
    some v2
def c_spec_l01Signed (f_spec_l01Put : Nat) : AFn := ⟨12, (.seq (.ops [⟨(.some 2), (.vnil 1 false), .none, []⟩]) (.seq (.seq (.ops [⟨(.some 3), (.mv (.tmp 0)), .none, []⟩, ⟨(.some 4), (.pu (.n (.ar .lss)) [(.tmp 3), (.const (.int .i64 0))]), .none, []⟩]) (.cond (.tmp 4) (.seq (.ops [⟨(.some 5), (.mv (.tmp 0)), .none, []⟩, ⟨(.some 6), (.pu (.n (.ar .mul)) [(.const (.int .i64 (-2))), (.tmp 5)]), .none, []⟩, ⟨(.some 7), (.pu (.n (.ar .sub)) [(.tmp 6), (.const (.int .i64 1))]), .none, []⟩, ⟨(.some 8), (.call (2 * f_spec_l01Put + 1) [(.tmp 7)]), .none, []⟩, ⟨(.some 2), (.mv (.tmp 8)), .none, []⟩]) .ret) .skip)) (.seq (.ops [⟨(.some 9), (.mv (.tmp 0)), .none, []⟩, ⟨(.some 10), (.pu (.n (.ar .mul)) [(.const (.int .i64 2)), (.tmp 9)]), .none, []⟩, ⟨(.some 11), (.call (2 * f_spec_l01Put + 1) [(.tmp 10)]), .none, []⟩, ⟨(.some 2), (.mv (.tmp 11)), .none, []⟩]) .ret))), [(.tmp 2)]⟩
set_option maxHeartbeats 10000000 in
theorem d_spec_l01Signed {P : Program} {env : Env} {f_spec_l01Put : Nat}  (e_spec_l01Put : k_spec_l01Put (env (2 * f_spec_l01Put + 1))) (x0 : Int) {b : List U8} (hp : p_spec_l01Signed x0 = some b) : R P env (c_spec_l01Signed f_spec_l01Put) ((encA (x0)).map ofI) [] (Tells true b) := by
  refine R_of (by simp [c_spec_l01Signed, encA]) ?_
  unfold c_spec_l01Signed
  unfold p_spec_l01Signed at hp
  by_cases hb0 : (decide (x0 < 0)) = true
  · rw [if_t hb0] at hp
    obtain ⟨v1, hv1, hp⟩ := bind_eq hp
    simp (disch := first | omega | (simp only [List.length_set, List.length_append, List.length_cons, List.length_nil, rows_len, zs]; first | done | omega)) only [hb0, gs, reduceIte, reduceCtorEq, Nat.reduceAdd, Nat.reduceMul, Nat.reduceSub, Nat.reduceBEq, Nat.reduceEqDiff, Nat.reduceLeDiff, Nat.reduceLT, Nat.reduceGT, Int.reduceToNat, Int.reduceLT, Int.reduceLE, Int.reduceNeg, Int.reduceAdd, Int.reduceEq, Int.reduceNe]
    refine call_f (fun h => getCells h 0 0 = some [] ∧ 0 < h.length) (fun h v h2 => oo_spec_l01Put v1 h v h2) ?_ ?_ ?_
    · simp (disch := first | omega | (simp only [List.length_set, List.length_append, List.length_cons, List.length_nil, rows_len, zs]; first | done | omega)) only [hb0, hv1, gs, reduceIte, reduceCtorEq, Nat.reduceAdd, Nat.reduceMul, Nat.reduceSub, Nat.reduceBEq, Nat.reduceEqDiff, Nat.reduceLeDiff, Nat.reduceLT, Nat.reduceGT, Int.reduceToNat, Int.reduceLT, Int.reduceLE, Int.reduceNeg, Int.reduceAdd, Int.reduceEq, Int.reduceNe] <;> omega
    · rintro h ⟨c0_0, c0_1⟩
      exact e_spec_l01Put _ _ hv1 h _ (by simp (disch := first | omega | (simp only [List.length_set, List.length_append, List.length_cons, List.length_nil, rows_len, zs]; first | done | omega)) only [hb0, hv1, c0_0, c0_1, gs, reduceIte, reduceCtorEq, Nat.reduceAdd, Nat.reduceMul, Nat.reduceSub, Nat.reduceBEq, Nat.reduceEqDiff, Nat.reduceLeDiff, Nat.reduceLT, Nat.reduceGT, Int.reduceToNat, Int.reduceLT, Int.reduceLE, Int.reduceNeg, Int.reduceAdd, Int.reduceEq, Int.reduceNe])
    · rintro h v hh0 ⟨c0_0, c0_1⟩ hpost
      obtain ⟨kk0, nb0_0, rfl, lnb0_0, gnb0_0, wnb0_0⟩ := hpost
      have d0_0 : getCells hh0 0 0 = some [] := (keep_get kk0 c0_1 (by first | (simp; done) | (simp; omega))).trans c0_0
      have d0_0l := keep_lt kk0 c0_1
      have d0_1 := wnb0_0
      have hp := Option.some.inj hp
      subst hp
      simp (disch := first | omega | (simp only [List.length_set, List.length_append, List.length_cons, List.length_nil, rows_len, zs]; first | done | omega)) only [hb0, hv1, d0_0, d0_1, gs, reduceIte, reduceCtorEq, Nat.reduceAdd, Nat.reduceMul, Nat.reduceSub, Nat.reduceBEq, Nat.reduceEqDiff, Nat.reduceLeDiff, Nat.reduceLT, Nat.reduceGT, Int.reduceToNat, Int.reduceLT, Int.reduceLE, Int.reduceNeg, Int.reduceAdd, Int.reduceEq, Int.reduceNe]
  · replace hb0 := eq_false_of_ne_true hb0
    rw [if_f hb0] at hp
    obtain ⟨v2, hv2, hp⟩ := bind_eq hp
    simp (disch := first | omega | (simp only [List.length_set, List.length_append, List.length_cons, List.length_nil, rows_len, zs]; first | done | omega)) only [hb0, gs, reduceIte, reduceCtorEq, Nat.reduceAdd, Nat.reduceMul, Nat.reduceSub, Nat.reduceBEq, Nat.reduceEqDiff, Nat.reduceLeDiff, Nat.reduceLT, Nat.reduceGT, Int.reduceToNat, Int.reduceLT, Int.reduceLE, Int.reduceNeg, Int.reduceAdd, Int.reduceEq, Int.reduceNe]
    refine call_f (fun h => getCells h 0 0 = some [] ∧ 0 < h.length) (fun h v h2 => oo_spec_l01Put v2 h v h2) ?_ ?_ ?_
    · simp (disch := first | omega | (simp only [List.length_set, List.length_append, List.length_cons, List.length_nil, rows_len, zs]; first | done | omega)) only [hb0, hv2, gs, reduceIte, reduceCtorEq, Nat.reduceAdd, Nat.reduceMul, Nat.reduceSub, Nat.reduceBEq, Nat.reduceEqDiff, Nat.reduceLeDiff, Nat.reduceLT, Nat.reduceGT, Int.reduceToNat, Int.reduceLT, Int.reduceLE, Int.reduceNeg, Int.reduceAdd, Int.reduceEq, Int.reduceNe] <;> omega
    · rintro h ⟨c1_0, c1_1⟩
      exact e_spec_l01Put _ _ hv2 h _ (by simp (disch := first | omega | (simp only [List.length_set, List.length_append, List.length_cons, List.length_nil, rows_len, zs]; first | done | omega)) only [hb0, hv2, c1_0, c1_1, gs, reduceIte, reduceCtorEq, Nat.reduceAdd, Nat.reduceMul, Nat.reduceSub, Nat.reduceBEq, Nat.reduceEqDiff, Nat.reduceLeDiff, Nat.reduceLT, Nat.reduceGT, Int.reduceToNat, Int.reduceLT, Int.reduceLE, Int.reduceNeg, Int.reduceAdd, Int.reduceEq, Int.reduceNe])
    · rintro h v hh1 ⟨c1_0, c1_1⟩ hpost
      obtain ⟨kk1, nb1_0, rfl, lnb1_0, gnb1_0, wnb1_0⟩ := hpost
      have d1_0 : getCells hh1 0 0 = some [] := (keep_get kk1 c1_1 (by first | (simp; done) | (simp; omega))).trans c1_0
      have d1_0l := keep_lt kk1 c1_1
      have d1_1 := wnb1_0
      have hp := Option.some.inj hp
      subst hp
      simp (disch := first | omega | (simp only [List.length_set, List.length_append, List.length_cons, List.length_nil, rows_len, zs]; first | done | omega)) only [hb0, hv2, d1_0, d1_1, gs, reduceIte, reduceCtorEq, Nat.reduceAdd, Nat.reduceMul, Nat.reduceSub, Nat.reduceBEq, Nat.reduceEqDiff, Nat.reduceLeDiff, Nat.reduceLT, Nat.reduceGT, Int.reduceToNat, Int.reduceLT, Int.reduceLE, Int.reduceNeg, Int.reduceAdd, Int.reduceEq, Int.reduceNe]

noncomputable def p_spec_l01PutRuns_l1 (x0 : List Int) (s2 : Int) : Int → Option (Lp (Int) (List U8))
  | s4 =>
    if (decide (s4 < (x0.length : Int))) = true then
      if (decide (s4 = w64 (s2 + 1))) = true then
        some (.go (w64 (s4 + 1)))
      else
        (get? x0 s4).bind fun v7 =>
        (get? x0 (w64 (s4 - 1))).bind fun v8 =>
        (get? x0 (w64 (s2 + 1))).bind fun v9 =>
        (get? x0 s2).bind fun v10 =>
        if (decide (w64 (v7 - v8) = w64 (v9 - v10))) = true then
          some (.go (w64 (s4 + 1)))
        else
          some (.out s4)
    else
      some (.out s4)
noncomputable def p_spec_l01PutRuns_l2 (x0 : List Int) : List U8 × Int → Option (Lp (List U8 × Int) (List U8))
  | (s1, s2) =>
    if (decide (s2 < (x0.length : Int))) = true then
      (loopP (p_spec_l01PutRuns_l1 x0 s2) (w64 (s2 + 1))).bind fun ee1 => match ee1 with
      | .ret r => some (.ret r)
      | .out o12 =>
        (get? x0 s2).bind fun v13 =>
        (p_spec_l01Put v13).bind fun v14 =>
        (app? 1 s1 v14).bind fun v15 =>
        (p_spec_l01Put (w64 (o12 - s2))).bind fun v16 =>
        (app? 1 v15 v16).bind fun v17 =>
        if (decide (1 < w64 (o12 - s2))) = true then
          (get? x0 (w64 (s2 + 1))).bind fun v19 =>
          (p_spec_l01Signed (w64 (v19 - v13))).bind fun v20 =>
          (app? 1 v17 v20).bind fun v21 =>
          some (.go (v21, o12))
        else
          some (.go (v17, o12))
    else
      some (.out (s1, s2))
noncomputable def p_spec_l01PutRuns (x0 : List Int) : Option (List U8) :=
  (p_spec_l01Put (x0.length : Int)).bind fun v0 =>
  (loopP (p_spec_l01PutRuns_l2 x0) (v0, 0)).bind fun ee2 => match ee2 with
  | .ret r => some r
  | .out (o22, o23) =>
    some o22
def c_spec_l01PutRuns (f_spec_l01Put : Nat) (f_spec_l01Signed : Nat) : AFn := ⟨82, (.seq (.ops [⟨(.some 2), (.vnil 1 false), .none, []⟩]) (.seq (.ops [⟨(.some 6), (.mv (.tmp 0)), .none, []⟩, ⟨(.some 7), (.len (.tmp 6)), .none, []⟩, ⟨(.some 8), (.call (2 * f_spec_l01Put + 1) [(.tmp 7)]), .none, []⟩, ⟨(.some 3), (.mv (.tmp 8)), .none, []⟩]) (.seq (.seq (.ops [⟨(.some 4), (.mv (.const (.int .i64 0))), .none, []⟩]) (.block 0 (.loop (.seq (.seq (.ops [⟨(.some 9), (.mv (.tmp 4)), .none, []⟩, ⟨(.some 10), (.mv (.tmp 0)), .none, []⟩, ⟨(.some 11), (.len (.tmp 10)), .none, []⟩, ⟨(.some 12), (.pu (.n (.ar .lss)) [(.tmp 9), (.tmp 11)]), .none, []⟩]) (.cond (.tmp 12) .skip (.exit 0))) (.block 1 (.seq (.ops [⟨(.some 13), (.mv (.tmp 4)), .none, []⟩, ⟨(.some 14), (.pu (.n (.ar .add)) [(.tmp 13), (.const (.int .i64 1))]), .none, []⟩, ⟨(.some 5), (.mv (.tmp 14)), .none, []⟩]) (.seq (.block 2 (.loop (.seq (.seq (.ops [⟨(.some 15), (.mv (.tmp 5)), .none, []⟩, ⟨(.some 16), (.mv (.tmp 0)), .none, []⟩, ⟨(.some 17), (.len (.tmp 16)), .none, []⟩, ⟨(.some 18), (.pu (.n (.ar .lss)) [(.tmp 15), (.tmp 17)]), .none, []⟩, ⟨(.some 19), (.mv (.tmp 18)), .none, []⟩, ⟨(.some 20), (.mv (.tmp 5)), (.some (19, true)), []⟩, ⟨(.some 21), (.mv (.tmp 4)), (.some (19, true)), []⟩, ⟨(.some 22), (.pu (.n (.ar .add)) [(.tmp 21), (.const (.int .i64 1))]), (.some (19, true)), []⟩, ⟨(.some 23), (.pu (.n (.ar .eql)) [(.tmp 20), (.tmp 22)]), (.some (19, true)), []⟩, ⟨(.some 24), (.mv (.tmp 23)), (.some (19, true)), []⟩, ⟨(.some 25), (.mv (.tmp 0)), (.some (24, false)), []⟩, ⟨(.some 26), (.mv (.tmp 5)), (.some (24, false)), []⟩, ⟨(.some 27), (.idxS 1 (.tmp 25) (.tmp 26)), (.some (24, false)), []⟩, ⟨(.some 28), (.load 1 false (.tmp 27)), (.some (24, false)), []⟩, ⟨(.some 29), (.mv (.tmp 0)), (.some (24, false)), []⟩, ⟨(.some 30), (.mv (.tmp 5)), (.some (24, false)), []⟩, ⟨(.some 31), (.pu (.n (.ar .sub)) [(.tmp 30), (.const (.int .i64 1))]), (.some (24, false)), []⟩, ⟨(.some 32), (.idxS 1 (.tmp 29) (.tmp 31)), (.some (24, false)), []⟩, ⟨(.some 33), (.load 1 false (.tmp 32)), (.some (24, false)), []⟩, ⟨(.some 34), (.pu (.n (.ar .sub)) [(.tmp 28), (.tmp 33)]), (.some (24, false)), []⟩, ⟨(.some 35), (.mv (.tmp 0)), (.some (24, false)), []⟩, ⟨(.some 36), (.mv (.tmp 4)), (.some (24, false)), []⟩, ⟨(.some 37), (.pu (.n (.ar .add)) [(.tmp 36), (.const (.int .i64 1))]), (.some (24, false)), []⟩, ⟨(.some 38), (.idxS 1 (.tmp 35) (.tmp 37)), (.some (24, false)), []⟩, ⟨(.some 39), (.load 1 false (.tmp 38)), (.some (24, false)), []⟩, ⟨(.some 40), (.mv (.tmp 0)), (.some (24, false)), []⟩, ⟨(.some 41), (.mv (.tmp 4)), (.some (24, false)), []⟩, ⟨(.some 42), (.idxS 1 (.tmp 40) (.tmp 41)), (.some (24, false)), []⟩, ⟨(.some 43), (.load 1 false (.tmp 42)), (.some (24, false)), []⟩, ⟨(.some 44), (.pu (.n (.ar .sub)) [(.tmp 39), (.tmp 43)]), (.some (24, false)), []⟩, ⟨(.some 45), (.pu (.n (.ar .eql)) [(.tmp 34), (.tmp 44)]), (.some (24, false)), []⟩, ⟨(.some 46), (.pick (.tmp 24) (.const (.bool true)) (.tmp 45)), (.some (19, true)), []⟩, ⟨(.some 47), (.pick (.tmp 19) (.tmp 46) (.const (.bool false))), .none, []⟩]) (.cond (.tmp 47) .skip (.exit 2))) (.block 3 (.ops [⟨(.some 48), (.mv (.tmp 5)), .none, []⟩, ⟨(.some 49), (.pu (.n (.ar .add)) [(.tmp 48), (.const (.int .i64 1))]), .none, []⟩, ⟨(.some 5), (.mv (.tmp 49)), .none, []⟩]))))) (.seq (.ops [⟨(.some 50), (.mv (.tmp 3)), .none, []⟩, ⟨(.some 51), (.mv (.tmp 0)), .none, []⟩, ⟨(.some 52), (.mv (.tmp 4)), .none, []⟩, ⟨(.some 53), (.idxS 1 (.tmp 51) (.tmp 52)), .none, []⟩, ⟨(.some 54), (.load 1 false (.tmp 53)), .none, []⟩, ⟨(.some 55), (.call (2 * f_spec_l01Put + 1) [(.tmp 54)]), .none, []⟩, ⟨(.some 56), (.append 1 false 1 (.tmp 50) (.tmp 55)), .none, []⟩, ⟨(.some 3), (.mv (.tmp 56)), .none, []⟩]) (.seq (.ops [⟨(.some 57), (.mv (.tmp 3)), .none, []⟩, ⟨(.some 58), (.mv (.tmp 5)), .none, []⟩, ⟨(.some 59), (.mv (.tmp 4)), .none, []⟩, ⟨(.some 60), (.pu (.n (.ar .sub)) [(.tmp 58), (.tmp 59)]), .none, []⟩, ⟨(.some 61), (.call (2 * f_spec_l01Put + 1) [(.tmp 60)]), .none, []⟩, ⟨(.some 62), (.append 1 false 1 (.tmp 57) (.tmp 61)), .none, []⟩, ⟨(.some 3), (.mv (.tmp 62)), .none, []⟩]) (.seq (.seq (.ops [⟨(.some 63), (.mv (.tmp 5)), .none, []⟩, ⟨(.some 64), (.mv (.tmp 4)), .none, []⟩, ⟨(.some 65), (.pu (.n (.ar .sub)) [(.tmp 63), (.tmp 64)]), .none, []⟩, ⟨(.some 66), (.pu (.n (.ar .gtr)) [(.tmp 65), (.const (.int .i64 1))]), .none, []⟩]) (.cond (.tmp 66) (.ops [⟨(.some 67), (.mv (.tmp 3)), .none, []⟩, ⟨(.some 68), (.mv (.tmp 0)), .none, []⟩, ⟨(.some 69), (.mv (.tmp 4)), .none, []⟩, ⟨(.some 70), (.pu (.n (.ar .add)) [(.tmp 69), (.const (.int .i64 1))]), .none, []⟩, ⟨(.some 71), (.idxS 1 (.tmp 68) (.tmp 70)), .none, []⟩, ⟨(.some 72), (.load 1 false (.tmp 71)), .none, []⟩, ⟨(.some 73), (.mv (.tmp 0)), .none, []⟩, ⟨(.some 74), (.mv (.tmp 4)), .none, []⟩, ⟨(.some 75), (.idxS 1 (.tmp 73) (.tmp 74)), .none, []⟩, ⟨(.some 76), (.load 1 false (.tmp 75)), .none, []⟩, ⟨(.some 77), (.pu (.n (.ar .sub)) [(.tmp 72), (.tmp 76)]), .none, []⟩, ⟨(.some 78), (.call (2 * f_spec_l01Signed) [(.tmp 77)]), .none, []⟩, ⟨(.some 79), (.append 1 false 1 (.tmp 67) (.tmp 78)), .none, []⟩, ⟨(.some 3), (.mv (.tmp 79)), .none, []⟩]) .skip)) (.ops [⟨(.some 80), (.mv (.tmp 5)), .none, []⟩, ⟨(.some 4), (.mv (.tmp 80)), .none, []⟩]))))))))))) (.seq (.ops [⟨(.some 81), (.mv (.tmp 3)), .none, []⟩, ⟨(.some 2), (.mv (.tmp 81)), .none, []⟩]) .ret)))), [(.tmp 2)]⟩
def o_spec_l01PutRuns (b : List U8) (v : V) (h : Heap) : Prop := ∃ n0 : Nat, v = .hsl n0 b.length 0 1 false b.length ∧ getCells h n0 b.length = some (rows b)
def oo_spec_l01PutRuns (b : List U8) (h : Heap) (v : V) (h2 : Heap) : Prop := Keep [] h h2 ∧ ∃ n0 : Nat, v = .hsl n0 b.length 0 1 false b.length ∧ n0 < h2.length ∧ h.length ≤ n0 ∧ getCells h2 n0 b.length = some (rows b)
def k_spec_l01PutRuns (F : Fun) : Prop := ∀ (x0 : List Int) (b : List U8), p_spec_l01PutRuns x0 = some b → ∀ (h : Heap) (args : List V), snapA 9 false h args = some (encA (x0)) → ∃ p, F none args h = some p ∧ oo_spec_l01PutRuns b h p.1 p.2
set_option maxHeartbeats 10000000 in
theorem w_spec_l01PutRuns {P : Program} {env : Env} {f_spec_l01Put : Nat} {f_spec_l01Signed : Nat}  (ep_spec_l01Signed : env (2 * f_spec_l01Signed) = pureFn true (FA fun a : Int => p_spec_l01Signed a)) (e_spec_l01Put : k_spec_l01Put (env (2 * f_spec_l01Put + 1))) (x0 : List Int) {b : List U8} (hp : p_spec_l01PutRuns x0 = some b) : R P env (c_spec_l01PutRuns f_spec_l01Put f_spec_l01Signed) ((encA (x0)).map ofI) [] (o_spec_l01PutRuns b) := by
  refine R_of (by simp [c_spec_l01PutRuns, encA]) ?_
  unfold c_spec_l01PutRuns
  unfold p_spec_l01PutRuns at hp
  obtain ⟨v0, hv0, hp⟩ := bind_eq hp
  simp (disch := first | omega | (simp only [List.length_set, List.length_append, List.length_cons, List.length_nil, rows_len, zs]; first | done | omega)) only [ep_spec_l01Signed, gs, reduceIte, reduceCtorEq, Nat.reduceAdd, Nat.reduceMul, Nat.reduceSub, Nat.reduceBEq, Nat.reduceEqDiff, Nat.reduceLeDiff, Nat.reduceLT, Nat.reduceGT, Int.reduceToNat, Int.reduceLT, Int.reduceLE, Int.reduceNeg, Int.reduceAdd, Int.reduceEq, Int.reduceNe]
  refine call_f (fun h => getCells h 0 0 = some [] ∧ 0 < h.length) (fun h v h2 => oo_spec_l01Put v0 h v h2) ?_ ?_ ?_
  · simp (disch := first | omega | (simp only [List.length_set, List.length_append, List.length_cons, List.length_nil, rows_len, zs]; first | done | omega)) only [ep_spec_l01Signed, hv0, gs, reduceIte, reduceCtorEq, Nat.reduceAdd, Nat.reduceMul, Nat.reduceSub, Nat.reduceBEq, Nat.reduceEqDiff, Nat.reduceLeDiff, Nat.reduceLT, Nat.reduceGT, Int.reduceToNat, Int.reduceLT, Int.reduceLE, Int.reduceNeg, Int.reduceAdd, Int.reduceEq, Int.reduceNe] <;> omega
  · rintro h ⟨c0_0, c0_1⟩
    exact e_spec_l01Put _ _ hv0 h _ (by simp (disch := first | omega | (simp only [List.length_set, List.length_append, List.length_cons, List.length_nil, rows_len, zs]; first | done | omega)) only [ep_spec_l01Signed, hv0, c0_0, c0_1, gs, reduceIte, reduceCtorEq, Nat.reduceAdd, Nat.reduceMul, Nat.reduceSub, Nat.reduceBEq, Nat.reduceEqDiff, Nat.reduceLeDiff, Nat.reduceLT, Nat.reduceGT, Int.reduceToNat, Int.reduceLT, Int.reduceLE, Int.reduceNeg, Int.reduceAdd, Int.reduceEq, Int.reduceNe])
  · rintro h v hh0 ⟨c0_0, c0_1⟩ hpost
    obtain ⟨kk0, nb0_0, rfl, lnb0_0, gnb0_0, wnb0_0⟩ := hpost
    have d0_0 : getCells hh0 0 0 = some [] := (keep_get kk0 c0_1 (by first | (simp; done) | (simp; omega))).trans c0_0
    have d0_0l := keep_lt kk0 c0_1
    have d0_1 := wnb0_0
    obtain ⟨ee2, hee2, hp⟩ := bind_eq hp
    simp (disch := first | omega | (simp only [List.length_set, List.length_append, List.length_cons, List.length_nil, rows_len, zs]; first | done | omega)) only [ep_spec_l01Signed, hv0, d0_0, d0_1, gs, reduceIte, reduceCtorEq, Nat.reduceAdd, Nat.reduceMul, Nat.reduceSub, Nat.reduceBEq, Nat.reduceEqDiff, Nat.reduceLeDiff, Nat.reduceLT, Nat.reduceGT, Int.reduceToNat, Int.reduceLT, Int.reduceLE, Int.reduceNeg, Int.reduceAdd, Int.reduceEq, Int.reduceNe]
    refine W_loopP 0 (fun s t h => match s with | (s1, s2) => t 0 = .i (.sl 1 (x0.map enc)) ∧ t 3 = .hsl nb0_0 s1.length 0 1 false s1.length ∧ t 4 = .i (.s (.int .i64 s2)) ∧ getCells h nb0_0 s1.length = some (rows (s1 : List U8)) ∧ nb0_0 < h.length) (RK [.tmp 2] (o_spec_l01PutRuns)) ?_ hee2 ?_ ?_
    · rintro ⟨s1, s2⟩ ee tt1 hh1 ⟨ftt1_0, ftt1_1, ftt1_2, ftt1_3, ftt1_4⟩ hp
      rw [p_spec_l01PutRuns_l2] at hp
      by_cases hb3 : (decide (s2 < (x0.length : Int))) = true
      · rw [if_t hb3] at hp
        obtain ⟨ee1, hee1, hp⟩ := bind_eq hp
        simp (disch := first | omega | (simp only [List.length_set, List.length_append, List.length_cons, List.length_nil, rows_len, zs]; first | done | omega)) only [ep_spec_l01Signed, hv0, d0_0, d0_1, ftt1_0, ftt1_1, ftt1_2, ftt1_3, ftt1_4, hb3, gs, reduceIte, reduceCtorEq, Nat.reduceAdd, Nat.reduceMul, Nat.reduceSub, Nat.reduceBEq, Nat.reduceEqDiff, Nat.reduceLeDiff, Nat.reduceLT, Nat.reduceGT, Int.reduceToNat, Int.reduceLT, Int.reduceLE, Int.reduceNeg, Int.reduceAdd, Int.reduceEq, Int.reduceNe]
        refine W_loopP 2 (fun s t h => match s with | s4 => t 0 = .i (.sl 1 (x0.map enc)) ∧ t 3 = .hsl nb0_0 s1.length 0 1 false s1.length ∧ t 4 = .i (.s (.int .i64 s2)) ∧ t 5 = .i (.s (.int .i64 s4)) ∧ getCells h nb0_0 s1.length = some (rows (s1 : List U8)) ∧ nb0_0 < h.length) (RK [.tmp 2] (o_spec_l01PutRuns)) ?_ hee1 ?_ ?_
        · rintro s4 ee tt2 hh2 ⟨ftt2_0, ftt2_1, ftt2_2, ftt2_3, ftt2_4, ftt2_5⟩ hp
          rw [p_spec_l01PutRuns_l1] at hp
          by_cases hb5 : (decide (s4 < (x0.length : Int))) = true
          · rw [if_t hb5] at hp
            by_cases hb6 : (decide (s4 = w64 (s2 + 1))) = true
            · rw [if_t hb6] at hp
              have hp := Option.some.inj hp
              subst hp
              simp (disch := first | omega | (simp only [List.length_set, List.length_append, List.length_cons, List.length_nil, rows_len, zs]; first | done | omega)) only [ep_spec_l01Signed, hv0, d0_0, d0_1, ftt1_0, ftt1_1, ftt1_2, ftt1_3, ftt1_4, hb3, ftt2_0, ftt2_1, ftt2_2, ftt2_3, ftt2_4, ftt2_5, hb5, hb6, gs, reduceIte, reduceCtorEq, Nat.reduceAdd, Nat.reduceMul, Nat.reduceSub, Nat.reduceBEq, Nat.reduceEqDiff, Nat.reduceLeDiff, Nat.reduceLT, Nat.reduceGT, Int.reduceToNat, Int.reduceLT, Int.reduceLE, Int.reduceNeg, Int.reduceAdd, Int.reduceEq, Int.reduceNe] <;> omega
            · replace hb6 := eq_false_of_ne_true hb6
              rw [if_f hb6] at hp
              obtain ⟨v7, hv7, hp⟩ := bind_eq hp
              obtain ⟨v8, hv8, hp⟩ := bind_eq hp
              obtain ⟨v9, hv9, hp⟩ := bind_eq hp
              obtain ⟨v10, hv10, hp⟩ := bind_eq hp
              by_cases hb11 : (decide (w64 (v7 - v8) = w64 (v9 - v10))) = true
              · rw [if_t hb11] at hp
                have hp := Option.some.inj hp
                subst hp
                simp (disch := first | omega | (simp only [List.length_set, List.length_append, List.length_cons, List.length_nil, rows_len, zs]; first | done | omega)) only [ep_spec_l01Signed, hv0, d0_0, d0_1, ftt1_0, ftt1_1, ftt1_2, ftt1_3, ftt1_4, hb3, ftt2_0, ftt2_1, ftt2_2, ftt2_3, ftt2_4, ftt2_5, hb5, hb6, hv7, hv8, hv9, hv10, hb11, gs, reduceIte, reduceCtorEq, Nat.reduceAdd, Nat.reduceMul, Nat.reduceSub, Nat.reduceBEq, Nat.reduceEqDiff, Nat.reduceLeDiff, Nat.reduceLT, Nat.reduceGT, Int.reduceToNat, Int.reduceLT, Int.reduceLE, Int.reduceNeg, Int.reduceAdd, Int.reduceEq, Int.reduceNe] <;> omega
              · replace hb11 := eq_false_of_ne_true hb11
                rw [if_f hb11] at hp
                have hp := Option.some.inj hp
                subst hp
                simp (disch := first | omega | (simp only [List.length_set, List.length_append, List.length_cons, List.length_nil, rows_len, zs]; first | done | omega)) only [ep_spec_l01Signed, hv0, d0_0, d0_1, ftt1_0, ftt1_1, ftt1_2, ftt1_3, ftt1_4, hb3, ftt2_0, ftt2_1, ftt2_2, ftt2_3, ftt2_4, ftt2_5, hb5, hb6, hv7, hv8, hv9, hv10, hb11, gs, reduceIte, reduceCtorEq, Nat.reduceAdd, Nat.reduceMul, Nat.reduceSub, Nat.reduceBEq, Nat.reduceEqDiff, Nat.reduceLeDiff, Nat.reduceLT, Nat.reduceGT, Int.reduceToNat, Int.reduceLT, Int.reduceLE, Int.reduceNeg, Int.reduceAdd, Int.reduceEq, Int.reduceNe] <;> omega
          · replace hb5 := eq_false_of_ne_true hb5
            rw [if_f hb5] at hp
            have hp := Option.some.inj hp
            subst hp
            simp (disch := first | omega | (simp only [List.length_set, List.length_append, List.length_cons, List.length_nil, rows_len, zs]; first | done | omega)) only [ep_spec_l01Signed, hv0, d0_0, d0_1, ftt1_0, ftt1_1, ftt1_2, ftt1_3, ftt1_4, hb3, ftt2_0, ftt2_1, ftt2_2, ftt2_3, ftt2_4, ftt2_5, hb5, gs, reduceIte, reduceCtorEq, Nat.reduceAdd, Nat.reduceMul, Nat.reduceSub, Nat.reduceBEq, Nat.reduceEqDiff, Nat.reduceLeDiff, Nat.reduceLT, Nat.reduceGT, Int.reduceToNat, Int.reduceLT, Int.reduceLE, Int.reduceNeg, Int.reduceAdd, Int.reduceEq, Int.reduceNe] <;> omega
        · simp (disch := first | omega | (simp only [List.length_set, List.length_append, List.length_cons, List.length_nil, rows_len, zs]; first | done | omega)) only [ep_spec_l01Signed, hv0, d0_0, d0_1, ftt1_0, ftt1_1, ftt1_2, ftt1_3, ftt1_4, hb3, gs, reduceIte, reduceCtorEq, Nat.reduceAdd, Nat.reduceMul, Nat.reduceSub, Nat.reduceBEq, Nat.reduceEqDiff, Nat.reduceLeDiff, Nat.reduceLT, Nat.reduceGT, Int.reduceToNat, Int.reduceLT, Int.reduceLE, Int.reduceNeg, Int.reduceAdd, Int.reduceEq, Int.reduceNe] <;> omega
        · intro x tt3 hh3 hx
          rcases ee1 with o12 | r
          · obtain ⟨rfl, ftt3_0, ftt3_1, ftt3_2, ftt3_3, ftt3_4, ftt3_5⟩ := hx
            dsimp only at hp
            obtain ⟨v13, hv13, hp⟩ := bind_eq hp
            obtain ⟨v14, hv14, hp⟩ := bind_eq hp
            simp (disch := first | omega | (simp only [List.length_set, List.length_append, List.length_cons, List.length_nil, rows_len, zs]; first | done | omega)) only [ep_spec_l01Signed, hv0, d0_0, d0_1, ftt1_0, ftt1_1, ftt1_2, ftt1_3, ftt1_4, hb3, ftt3_0, ftt3_1, ftt3_2, ftt3_3, ftt3_4, ftt3_5, hv13, gs, reduceIte, reduceCtorEq, Nat.reduceAdd, Nat.reduceMul, Nat.reduceSub, Nat.reduceBEq, Nat.reduceEqDiff, Nat.reduceLeDiff, Nat.reduceLT, Nat.reduceGT, Int.reduceToNat, Int.reduceLT, Int.reduceLE, Int.reduceNeg, Int.reduceAdd, Int.reduceEq, Int.reduceNe]
            refine call_f (fun h => getCells h nb0_0 s1.length = some (rows (s1 : List U8)) ∧ nb0_0 < h.length) (fun h v h2 => oo_spec_l01Put v14 h v h2) ?_ ?_ ?_
            · simp (disch := first | omega | (simp only [List.length_set, List.length_append, List.length_cons, List.length_nil, rows_len, zs]; first | done | omega)) only [ep_spec_l01Signed, hv0, d0_0, d0_1, ftt1_0, ftt1_1, ftt1_2, ftt1_3, ftt1_4, hb3, ftt3_0, ftt3_1, ftt3_2, ftt3_3, ftt3_4, ftt3_5, hv13, hv14, gs, reduceIte, reduceCtorEq, Nat.reduceAdd, Nat.reduceMul, Nat.reduceSub, Nat.reduceBEq, Nat.reduceEqDiff, Nat.reduceLeDiff, Nat.reduceLT, Nat.reduceGT, Int.reduceToNat, Int.reduceLT, Int.reduceLE, Int.reduceNeg, Int.reduceAdd, Int.reduceEq, Int.reduceNe] <;> omega
            · rintro h ⟨c4_0, c4_1⟩
              exact e_spec_l01Put _ _ hv14 h _ (by simp (disch := first | omega | (simp only [List.length_set, List.length_append, List.length_cons, List.length_nil, rows_len, zs]; first | done | omega)) only [ep_spec_l01Signed, hv0, d0_0, d0_1, ftt1_0, ftt1_1, ftt1_2, ftt1_3, ftt1_4, hb3, ftt3_0, ftt3_1, ftt3_2, ftt3_3, ftt3_4, ftt3_5, hv13, hv14, c4_0, c4_1, gs, reduceIte, reduceCtorEq, Nat.reduceAdd, Nat.reduceMul, Nat.reduceSub, Nat.reduceBEq, Nat.reduceEqDiff, Nat.reduceLeDiff, Nat.reduceLT, Nat.reduceGT, Int.reduceToNat, Int.reduceLT, Int.reduceLE, Int.reduceNeg, Int.reduceAdd, Int.reduceEq, Int.reduceNe])
            · rintro h v hh4 ⟨c4_0, c4_1⟩ hpost
              obtain ⟨kk4, nb4_0, rfl, lnb4_0, gnb4_0, wnb4_0⟩ := hpost
              have d4_0 : getCells hh4 nb0_0 s1.length = some (rows (s1 : List U8)) := (keep_get kk4 c4_1 (by first | (simp; done) | (simp; omega))).trans c4_0
              have d4_0l := keep_lt kk4 c4_1
              have d4_1 := wnb4_0
              obtain ⟨v15, hv15, hp⟩ := bind_eq hp
              simp (disch := first | omega | (simp only [List.length_set, List.length_append, List.length_cons, List.length_nil, rows_len, zs]; first | done | omega)) only [ep_spec_l01Signed, hv0, d0_0, d0_1, ftt1_0, ftt1_1, ftt1_2, ftt1_3, ftt1_4, hb3, ftt3_0, ftt3_1, ftt3_2, ftt3_3, ftt3_4, ftt3_5, hv13, hv14, d4_0, d4_1, gs, reduceIte, reduceCtorEq, Nat.reduceAdd, Nat.reduceMul, Nat.reduceSub, Nat.reduceBEq, Nat.reduceEqDiff, Nat.reduceLeDiff, Nat.reduceLT, Nat.reduceGT, Int.reduceToNat, Int.reduceLT, Int.reduceLE, Int.reduceNeg, Int.reduceAdd, Int.reduceEq, Int.reduceNe]
              refine app_f (b := nb0_0) (xs := s1) (ys := v14) (fun h => getCells h nb0_0 s1.length = some (rows (s1 : List U8)) ∧ nb0_0 < h.length ∧ getCells h nb4_0 v14.length = some (rows (v14 : List U8)) ∧ nb4_0 < h.length) ?_ ?_ hv15 rfl (by first | rfl | omega | (simp; omega)) (by first | rfl | omega | (simp; omega)) (by first | rfl | omega | (simp; omega)) ?_
              · simp (disch := first | omega | (simp only [List.length_set, List.length_append, List.length_cons, List.length_nil, rows_len, zs]; first | done | omega)) only [ep_spec_l01Signed, hv0, d0_0, d0_1, ftt1_0, ftt1_1, ftt1_2, ftt1_3, ftt1_4, hb3, ftt3_0, ftt3_1, ftt3_2, ftt3_3, ftt3_4, ftt3_5, hv13, hv14, d4_0, d4_1, hv15, gs, reduceIte, reduceCtorEq, Nat.reduceAdd, Nat.reduceMul, Nat.reduceSub, Nat.reduceBEq, Nat.reduceEqDiff, Nat.reduceLeDiff, Nat.reduceLT, Nat.reduceGT, Int.reduceToNat, Int.reduceLT, Int.reduceLE, Int.reduceNeg, Int.reduceAdd, Int.reduceEq, Int.reduceNe] <;> omega
              · rintro h ⟨c5_0, c5_1, c5_2, c5_3⟩
                exact gc_eq c5_0 (by omega)
              · rintro h hh5 ⟨c5_0, c5_1, c5_2, c5_3⟩ kk5 w5
                have d5_0 : getCells hh5 nb0_0 v15.length = some (rows (v15 : List U8)) := by simpa only [Nat.mul_one] using w5
                have d5_0l := keep_lt kk5 c5_1
                have d5_1 : getCells hh5 nb4_0 v14.length = some (rows (v14 : List U8)) := (keep_get kk5 c5_3 (by first | (simp; done) | (simp; omega))).trans c5_2
                have d5_1l := keep_lt kk5 c5_3
                obtain ⟨v16, hv16, hp⟩ := bind_eq hp
                simp (disch := first | omega | (simp only [List.length_set, List.length_append, List.length_cons, List.length_nil, rows_len, zs]; first | done | omega)) only [ep_spec_l01Signed, hv0, d0_0, d0_1, ftt1_0, ftt1_1, ftt1_2, ftt1_3, ftt1_4, hb3, ftt3_0, ftt3_1, ftt3_2, ftt3_3, ftt3_4, ftt3_5, hv13, hv14, d4_0, d4_1, hv15, d5_0, d5_1, gs, reduceIte, reduceCtorEq, Nat.reduceAdd, Nat.reduceMul, Nat.reduceSub, Nat.reduceBEq, Nat.reduceEqDiff, Nat.reduceLeDiff, Nat.reduceLT, Nat.reduceGT, Int.reduceToNat, Int.reduceLT, Int.reduceLE, Int.reduceNeg, Int.reduceAdd, Int.reduceEq, Int.reduceNe]
                refine call_f (fun h => getCells h nb0_0 v15.length = some (rows (v15 : List U8)) ∧ nb0_0 < h.length ∧ getCells h nb4_0 v14.length = some (rows (v14 : List U8)) ∧ nb4_0 < h.length) (fun h v h2 => oo_spec_l01Put v16 h v h2) ?_ ?_ ?_
                · simp (disch := first | omega | (simp only [List.length_set, List.length_append, List.length_cons, List.length_nil, rows_len, zs]; first | done | omega)) only [ep_spec_l01Signed, hv0, d0_0, d0_1, ftt1_0, ftt1_1, ftt1_2, ftt1_3, ftt1_4, hb3, ftt3_0, ftt3_1, ftt3_2, ftt3_3, ftt3_4, ftt3_5, hv13, hv14, d4_0, d4_1, hv15, d5_0, d5_1, hv16, gs, reduceIte, reduceCtorEq, Nat.reduceAdd, Nat.reduceMul, Nat.reduceSub, Nat.reduceBEq, Nat.reduceEqDiff, Nat.reduceLeDiff, Nat.reduceLT, Nat.reduceGT, Int.reduceToNat, Int.reduceLT, Int.reduceLE, Int.reduceNeg, Int.reduceAdd, Int.reduceEq, Int.reduceNe] <;> omega
                · rintro h ⟨c6_0, c6_1, c6_2, c6_3⟩
                  exact e_spec_l01Put _ _ hv16 h _ (by simp (disch := first | omega | (simp only [List.length_set, List.length_append, List.length_cons, List.length_nil, rows_len, zs]; first | done | omega)) only [ep_spec_l01Signed, hv0, d0_0, d0_1, ftt1_0, ftt1_1, ftt1_2, ftt1_3, ftt1_4, hb3, ftt3_0, ftt3_1, ftt3_2, ftt3_3, ftt3_4, ftt3_5, hv13, hv14, d4_0, d4_1, hv15, d5_0, d5_1, hv16, c6_0, c6_1, c6_2, c6_3, gs, reduceIte, reduceCtorEq, Nat.reduceAdd, Nat.reduceMul, Nat.reduceSub, Nat.reduceBEq, Nat.reduceEqDiff, Nat.reduceLeDiff, Nat.reduceLT, Nat.reduceGT, Int.reduceToNat, Int.reduceLT, Int.reduceLE, Int.reduceNeg, Int.reduceAdd, Int.reduceEq, Int.reduceNe])
                · rintro h v hh6 ⟨c6_0, c6_1, c6_2, c6_3⟩ hpost
                  obtain ⟨kk6, nb6_0, rfl, lnb6_0, gnb6_0, wnb6_0⟩ := hpost
                  have d6_0 : getCells hh6 nb0_0 v15.length = some (rows (v15 : List U8)) := (keep_get kk6 c6_1 (by first | (simp; done) | (simp; omega))).trans c6_0
                  have d6_0l := keep_lt kk6 c6_1
                  have d6_1 : getCells hh6 nb4_0 v14.length = some (rows (v14 : List U8)) := (keep_get kk6 c6_3 (by first | (simp; done) | (simp; omega))).trans c6_2
                  have d6_1l := keep_lt kk6 c6_3
                  have d6_2 := wnb6_0
                  obtain ⟨v17, hv17, hp⟩ := bind_eq hp
                  simp (disch := first | omega | (simp only [List.length_set, List.length_append, List.length_cons, List.length_nil, rows_len, zs]; first | done | omega)) only [ep_spec_l01Signed, hv0, d0_0, d0_1, ftt1_0, ftt1_1, ftt1_2, ftt1_3, ftt1_4, hb3, ftt3_0, ftt3_1, ftt3_2, ftt3_3, ftt3_4, ftt3_5, hv13, hv14, d4_0, d4_1, hv15, d5_0, d5_1, hv16, d6_0, d6_1, d6_2, gs, reduceIte, reduceCtorEq, Nat.reduceAdd, Nat.reduceMul, Nat.reduceSub, Nat.reduceBEq, Nat.reduceEqDiff, Nat.reduceLeDiff, Nat.reduceLT, Nat.reduceGT, Int.reduceToNat, Int.reduceLT, Int.reduceLE, Int.reduceNeg, Int.reduceAdd, Int.reduceEq, Int.reduceNe]
                  refine app_f (b := nb0_0) (xs := v15) (ys := v16) (fun h => getCells h nb0_0 v15.length = some (rows (v15 : List U8)) ∧ nb0_0 < h.length ∧ getCells h nb4_0 v14.length = some (rows (v14 : List U8)) ∧ nb4_0 < h.length ∧ getCells h nb6_0 v16.length = some (rows (v16 : List U8)) ∧ nb6_0 < h.length) ?_ ?_ hv17 rfl (by first | rfl | omega | (simp; omega)) (by first | rfl | omega | (simp; omega)) (by first | rfl | omega | (simp; omega)) ?_
                  · simp (disch := first | omega | (simp only [List.length_set, List.length_append, List.length_cons, List.length_nil, rows_len, zs]; first | done | omega)) only [ep_spec_l01Signed, hv0, d0_0, d0_1, ftt1_0, ftt1_1, ftt1_2, ftt1_3, ftt1_4, hb3, ftt3_0, ftt3_1, ftt3_2, ftt3_3, ftt3_4, ftt3_5, hv13, hv14, d4_0, d4_1, hv15, d5_0, d5_1, hv16, d6_0, d6_1, d6_2, hv17, gs, reduceIte, reduceCtorEq, Nat.reduceAdd, Nat.reduceMul, Nat.reduceSub, Nat.reduceBEq, Nat.reduceEqDiff, Nat.reduceLeDiff, Nat.reduceLT, Nat.reduceGT, Int.reduceToNat, Int.reduceLT, Int.reduceLE, Int.reduceNeg, Int.reduceAdd, Int.reduceEq, Int.reduceNe] <;> omega
                  · rintro h ⟨c7_0, c7_1, c7_2, c7_3, c7_4, c7_5⟩
                    exact gc_eq c7_0 (by omega)
                  · rintro h hh7 ⟨c7_0, c7_1, c7_2, c7_3, c7_4, c7_5⟩ kk7 w7
                    have d7_0 : getCells hh7 nb0_0 v17.length = some (rows (v17 : List U8)) := by simpa only [Nat.mul_one] using w7
                    have d7_0l := keep_lt kk7 c7_1
                    have d7_1 : getCells hh7 nb4_0 v14.length = some (rows (v14 : List U8)) := (keep_get kk7 c7_3 (by first | (simp; done) | (simp; omega))).trans c7_2
                    have d7_1l := keep_lt kk7 c7_3
                    have d7_2 : getCells hh7 nb6_0 v16.length = some (rows (v16 : List U8)) := (keep_get kk7 c7_5 (by first | (simp; done) | (simp; omega))).trans c7_4
                    have d7_2l := keep_lt kk7 c7_5
                    by_cases hb18 : (decide (1 < w64 (o12 - s2))) = true
                    · rw [if_t hb18] at hp
                      obtain ⟨v19, hv19, hp⟩ := bind_eq hp
                      obtain ⟨v20, hv20, hp⟩ := bind_eq hp
                      obtain ⟨v21, hv21, hp⟩ := bind_eq hp
                      simp (disch := first | omega | (simp only [List.length_set, List.length_append, List.length_cons, List.length_nil, rows_len, zs]; first | done | omega)) only [ep_spec_l01Signed, hv0, d0_0, d0_1, ftt1_0, ftt1_1, ftt1_2, ftt1_3, ftt1_4, hb3, ftt3_0, ftt3_1, ftt3_2, ftt3_3, ftt3_4, ftt3_5, hv13, hv14, d4_0, d4_1, hv15, d5_0, d5_1, hv16, d6_0, d6_1, d6_2, hv17, d7_0, d7_1, d7_2, hb18, hv19, hv20, gs, reduceIte, reduceCtorEq, Nat.reduceAdd, Nat.reduceMul, Nat.reduceSub, Nat.reduceBEq, Nat.reduceEqDiff, Nat.reduceLeDiff, Nat.reduceLT, Nat.reduceGT, Int.reduceToNat, Int.reduceLT, Int.reduceLE, Int.reduceNeg, Int.reduceAdd, Int.reduceEq, Int.reduceNe]
                      refine app_f (b := nb0_0) (xs := v17) (ys := v20) (fun h => getCells h nb0_0 v17.length = some (rows (v17 : List U8)) ∧ nb0_0 < h.length ∧ getCells h nb4_0 v14.length = some (rows (v14 : List U8)) ∧ nb4_0 < h.length ∧ getCells h nb6_0 v16.length = some (rows (v16 : List U8)) ∧ nb6_0 < h.length) ?_ ?_ hv21 rfl (by first | rfl | omega | (simp; omega)) (by first | rfl | omega | (simp; omega)) (by first | rfl | omega | (simp; omega)) ?_
                      · simp (disch := first | omega | (simp only [List.length_set, List.length_append, List.length_cons, List.length_nil, rows_len, zs]; first | done | omega)) only [ep_spec_l01Signed, hv0, d0_0, d0_1, ftt1_0, ftt1_1, ftt1_2, ftt1_3, ftt1_4, hb3, ftt3_0, ftt3_1, ftt3_2, ftt3_3, ftt3_4, ftt3_5, hv13, hv14, d4_0, d4_1, hv15, d5_0, d5_1, hv16, d6_0, d6_1, d6_2, hv17, d7_0, d7_1, d7_2, hb18, hv19, hv20, hv21, gs, reduceIte, reduceCtorEq, Nat.reduceAdd, Nat.reduceMul, Nat.reduceSub, Nat.reduceBEq, Nat.reduceEqDiff, Nat.reduceLeDiff, Nat.reduceLT, Nat.reduceGT, Int.reduceToNat, Int.reduceLT, Int.reduceLE, Int.reduceNeg, Int.reduceAdd, Int.reduceEq, Int.reduceNe] <;> omega
                      · rintro h ⟨c8_0, c8_1, c8_2, c8_3, c8_4, c8_5⟩
                        exact gc_eq c8_0 (by omega)
                      · rintro h hh8 ⟨c8_0, c8_1, c8_2, c8_3, c8_4, c8_5⟩ kk8 w8
                        have d8_0 : getCells hh8 nb0_0 v21.length = some (rows (v21 : List U8)) := by simpa only [Nat.mul_one] using w8
                        have d8_0l := keep_lt kk8 c8_1
                        have d8_1 : getCells hh8 nb4_0 v14.length = some (rows (v14 : List U8)) := (keep_get kk8 c8_3 (by first | (simp; done) | (simp; omega))).trans c8_2
                        have d8_1l := keep_lt kk8 c8_3
                        have d8_2 : getCells hh8 nb6_0 v16.length = some (rows (v16 : List U8)) := (keep_get kk8 c8_5 (by first | (simp; done) | (simp; omega))).trans c8_4
                        have d8_2l := keep_lt kk8 c8_5
                        have hp := Option.some.inj hp
                        subst hp
                        simp (disch := first | omega | (simp only [List.length_set, List.length_append, List.length_cons, List.length_nil, rows_len, zs]; first | done | omega)) only [ep_spec_l01Signed, hv0, d0_0, d0_1, ftt1_0, ftt1_1, ftt1_2, ftt1_3, ftt1_4, hb3, ftt3_0, ftt3_1, ftt3_2, ftt3_3, ftt3_4, ftt3_5, hv13, hv14, d4_0, d4_1, hv15, d5_0, d5_1, hv16, d6_0, d6_1, d6_2, hv17, d7_0, d7_1, d7_2, hb18, hv19, hv20, hv21, d8_0, d8_1, d8_2, gs, reduceIte, reduceCtorEq, Nat.reduceAdd, Nat.reduceMul, Nat.reduceSub, Nat.reduceBEq, Nat.reduceEqDiff, Nat.reduceLeDiff, Nat.reduceLT, Nat.reduceGT, Int.reduceToNat, Int.reduceLT, Int.reduceLE, Int.reduceNeg, Int.reduceAdd, Int.reduceEq, Int.reduceNe] <;> omega
                    · replace hb18 := eq_false_of_ne_true hb18
                      rw [if_f hb18] at hp
                      have hp := Option.some.inj hp
                      subst hp
                      simp (disch := first | omega | (simp only [List.length_set, List.length_append, List.length_cons, List.length_nil, rows_len, zs]; first | done | omega)) only [ep_spec_l01Signed, hv0, d0_0, d0_1, ftt1_0, ftt1_1, ftt1_2, ftt1_3, ftt1_4, hb3, ftt3_0, ftt3_1, ftt3_2, ftt3_3, ftt3_4, ftt3_5, hv13, hv14, d4_0, d4_1, hv15, d5_0, d5_1, hv16, d6_0, d6_1, d6_2, hv17, d7_0, d7_1, d7_2, hb18, gs, reduceIte, reduceCtorEq, Nat.reduceAdd, Nat.reduceMul, Nat.reduceSub, Nat.reduceBEq, Nat.reduceEqDiff, Nat.reduceLeDiff, Nat.reduceLT, Nat.reduceGT, Int.reduceToNat, Int.reduceLT, Int.reduceLE, Int.reduceNeg, Int.reduceAdd, Int.reduceEq, Int.reduceNe] <;> omega
          · obtain ⟨rfl, hx⟩ := hx
            dsimp only at hp
            cases hp
            simp only [seqK_ret, blockK_ret, retK_RK (K := o_spec_l01PutRuns), hx, and_self, true_and]
      · replace hb3 := eq_false_of_ne_true hb3
        rw [if_f hb3] at hp
        have hp := Option.some.inj hp
        subst hp
        simp (disch := first | omega | (simp only [List.length_set, List.length_append, List.length_cons, List.length_nil, rows_len, zs]; first | done | omega)) only [ep_spec_l01Signed, hv0, d0_0, d0_1, ftt1_0, ftt1_1, ftt1_2, ftt1_3, ftt1_4, hb3, gs, reduceIte, reduceCtorEq, Nat.reduceAdd, Nat.reduceMul, Nat.reduceSub, Nat.reduceBEq, Nat.reduceEqDiff, Nat.reduceLeDiff, Nat.reduceLT, Nat.reduceGT, Int.reduceToNat, Int.reduceLT, Int.reduceLE, Int.reduceNeg, Int.reduceAdd, Int.reduceEq, Int.reduceNe] <;> omega
    · simp (disch := first | omega | (simp only [List.length_set, List.length_append, List.length_cons, List.length_nil, rows_len, zs]; first | done | omega)) only [ep_spec_l01Signed, hv0, d0_0, d0_1, gs, reduceIte, reduceCtorEq, Nat.reduceAdd, Nat.reduceMul, Nat.reduceSub, Nat.reduceBEq, Nat.reduceEqDiff, Nat.reduceLeDiff, Nat.reduceLT, Nat.reduceGT, Int.reduceToNat, Int.reduceLT, Int.reduceLE, Int.reduceNeg, Int.reduceAdd, Int.reduceEq, Int.reduceNe] <;> omega
    · intro x tt9 hh9 hx
      rcases ee2 with ⟨o22, o23⟩ | r
      · obtain ⟨rfl, ftt9_0, ftt9_1, ftt9_2, ftt9_3, ftt9_4⟩ := hx
        dsimp only at hp
        have hp := Option.some.inj hp
        subst hp
        simp (disch := first | omega | (simp only [List.length_set, List.length_append, List.length_cons, List.length_nil, rows_len, zs]; first | done | omega)) only [ep_spec_l01Signed, hv0, d0_0, d0_1, ftt9_0, ftt9_1, ftt9_2, ftt9_3, ftt9_4, gs, reduceIte, reduceCtorEq, Nat.reduceAdd, Nat.reduceMul, Nat.reduceSub, Nat.reduceBEq, Nat.reduceEqDiff, Nat.reduceLeDiff, Nat.reduceLT, Nat.reduceGT, Int.reduceToNat, Int.reduceLT, Int.reduceLE, Int.reduceNeg, Int.reduceAdd, Int.reduceEq, Int.reduceNe]
        refine ⟨nb0_0, ?_⟩
        simp (disch := first | omega | (simp only [List.length_set, List.length_append, List.length_cons, List.length_nil, rows_len, zs]; first | done | omega)) only [ep_spec_l01Signed, hv0, d0_0, d0_1, ftt9_0, ftt9_1, ftt9_2, ftt9_3, ftt9_4, o_spec_l01PutRuns, gs, reduceIte, reduceCtorEq, Nat.reduceAdd, Nat.reduceMul, Nat.reduceSub, Nat.reduceBEq, Nat.reduceEqDiff, Nat.reduceLeDiff, Nat.reduceLT, Nat.reduceGT, Int.reduceToNat, Int.reduceLT, Int.reduceLE, Int.reduceNeg, Int.reduceAdd, Int.reduceEq, Int.reduceNe] <;> omega
      · obtain ⟨rfl, hx⟩ := hx
        dsimp only at hp
        cases hp
        simp only [seqK_ret, blockK_ret, retK_RK (K := o_spec_l01PutRuns), hx, and_self, true_and]
theorem ko_spec_l01PutRuns {P : Program} {env : Env} {f_spec_l01Put : Nat} {f_spec_l01Signed : Nat}  (ep_spec_l01Signed : env (2 * f_spec_l01Signed) = pureFn true (FA fun a : Int => p_spec_l01Signed a)) (e_spec_l01Put : k_spec_l01Put (env (2 * f_spec_l01Put + 1))) : k_spec_l01PutRuns (ownFn P env (c_spec_l01PutRuns f_spec_l01Put f_spec_l01Signed)) := by
  intro x0 b hp h args has
  obtain ⟨⟨v, H2⟩, hr, n0, rfl, wn0⟩ := w_spec_l01PutRuns ep_spec_l01Signed e_spec_l01Put x0 hp
  exact ⟨_, own_call has hr rfl, keep_moved, n0 + h.length, rfl, (moved_lt wn0).2, (moved_lt wn0).1, moved_rows wn0⟩

noncomputable def p_spec_PutRuns (x0 : List Int) : Option (T2 (List U8) Int) :=
  if (decide (4096 < (x0.length : Int))) = true then
    some ⟨[], 2⟩
  else
    (p_spec_l01RunsOK x0).bind fun v1 =>
    if (v1) = true then
      (p_spec_l01PutRuns x0).bind fun v3 =>
      some ⟨v3, 0⟩
    else
      some ⟨[], 4⟩
def c_spec_PutRuns (f_spec_l01RunsOK : Nat) (f_spec_l01PutRuns : Nat) : AFn := ⟨14, (.seq (.ops [⟨(.some 2), (.vnil 1 false), .none, []⟩, ⟨(.some 3), (.mv (.const (.int .i64 0))), .none, []⟩]) (.seq (.seq (.ops [⟨(.some 4), (.mv (.tmp 0)), .none, []⟩, ⟨(.some 5), (.len (.tmp 4)), .none, []⟩, ⟨(.some 6), (.pu (.n (.ar .gtr)) [(.tmp 5), (.const (.int .i64 4096))]), .none, []⟩]) (.cond (.tmp 6) (.seq (.ops [⟨(.some 7), (.buildSl 1 false 0 [(.int .u8 0)] []), .none, []⟩, ⟨(.some 2), (.mv (.tmp 7)), .none, []⟩, ⟨(.some 3), (.mv (.const (.int .i64 2))), .none, []⟩]) .ret) .skip)) (.seq (.seq (.ops [⟨(.some 8), (.mv (.tmp 0)), .none, []⟩, ⟨(.some 9), (.call (2 * f_spec_l01RunsOK) [(.tmp 8)]), .none, []⟩, ⟨(.some 10), (.pu (.n (.un .not)) [(.tmp 9)]), .none, []⟩]) (.cond (.tmp 10) (.seq (.ops [⟨(.some 11), (.buildSl 1 false 0 [(.int .u8 0)] []), .none, []⟩, ⟨(.some 2), (.mv (.tmp 11)), .none, []⟩, ⟨(.some 3), (.mv (.const (.int .i64 4))), .none, []⟩]) .ret) .skip)) (.seq (.ops [⟨(.some 12), (.mv (.tmp 0)), .none, []⟩, ⟨(.some 13), (.call (2 * f_spec_l01PutRuns + 1) [(.tmp 12)]), .none, []⟩, ⟨(.some 2), (.mv (.tmp 13)), .none, []⟩, ⟨(.some 3), (.mv (.const (.int .i64 0))), .none, []⟩]) .ret)))), [(.tmp 2), (.tmp 3)]⟩
set_option maxHeartbeats 10000000 in
theorem d_spec_PutRuns {P : Program} {env : Env} {f_spec_l01RunsOK : Nat} {f_spec_l01PutRuns : Nat}  (ep_spec_l01RunsOK : env (2 * f_spec_l01RunsOK) = pureFn true (FA fun a : List Int => p_spec_l01RunsOK a)) (e_spec_l01PutRuns : k_spec_l01PutRuns (env (2 * f_spec_l01PutRuns + 1))) (x0 : List Int) {b : T2 (List U8) Int} (hp : p_spec_PutRuns x0 = some b) : R P env (c_spec_PutRuns f_spec_l01RunsOK f_spec_l01PutRuns) ((encA (x0)).map ofI) [] (Tells true b) := by
  refine R_of (by simp [c_spec_PutRuns, encA]) ?_
  unfold c_spec_PutRuns
  unfold p_spec_PutRuns at hp
  by_cases hb0 : (decide (4096 < (x0.length : Int))) = true
  · rw [if_t hb0] at hp
    have hp := Option.some.inj hp
    subst hp
    simp (disch := first | omega | (simp only [List.length_set, List.length_append, List.length_cons, List.length_nil, rows_len, zs]; first | done | omega)) only [ep_spec_l01RunsOK, hb0, gs, reduceIte, reduceCtorEq, Nat.reduceAdd, Nat.reduceMul, Nat.reduceSub, Nat.reduceBEq, Nat.reduceEqDiff, Nat.reduceLeDiff, Nat.reduceLT, Nat.reduceGT, Int.reduceToNat, Int.reduceLT, Int.reduceLE, Int.reduceNeg, Int.reduceAdd, Int.reduceEq, Int.reduceNe]
  · replace hb0 := eq_false_of_ne_true hb0
    rw [if_f hb0] at hp
    obtain ⟨v1, hv1, hp⟩ := bind_eq hp
    by_cases hb2 : (v1) = true
    · rw [if_t hb2] at hp
      obtain ⟨v3, hv3, hp⟩ := bind_eq hp
      simp (disch := first | omega | (simp only [List.length_set, List.length_append, List.length_cons, List.length_nil, rows_len, zs]; first | done | omega)) only [ep_spec_l01RunsOK, hb0, hv1, hb2, gs, reduceIte, reduceCtorEq, Nat.reduceAdd, Nat.reduceMul, Nat.reduceSub, Nat.reduceBEq, Nat.reduceEqDiff, Nat.reduceLeDiff, Nat.reduceLT, Nat.reduceGT, Int.reduceToNat, Int.reduceLT, Int.reduceLE, Int.reduceNeg, Int.reduceAdd, Int.reduceEq, Int.reduceNe]
      refine call_f (fun h => getCells h 0 0 = some [] ∧ 0 < h.length) (fun h v h2 => oo_spec_l01PutRuns v3 h v h2) ?_ ?_ ?_
      · simp (disch := first | omega | (simp only [List.length_set, List.length_append, List.length_cons, List.length_nil, rows_len, zs]; first | done | omega)) only [ep_spec_l01RunsOK, hb0, hv1, hb2, hv3, gs, reduceIte, reduceCtorEq, Nat.reduceAdd, Nat.reduceMul, Nat.reduceSub, Nat.reduceBEq, Nat.reduceEqDiff, Nat.reduceLeDiff, Nat.reduceLT, Nat.reduceGT, Int.reduceToNat, Int.reduceLT, Int.reduceLE, Int.reduceNeg, Int.reduceAdd, Int.reduceEq, Int.reduceNe] <;> omega
      · rintro h ⟨c0_0, c0_1⟩
        exact e_spec_l01PutRuns _ _ hv3 h _ (by simp (disch := first | omega | (simp only [List.length_set, List.length_append, List.length_cons, List.length_nil, rows_len, zs]; first | done | omega)) only [ep_spec_l01RunsOK, hb0, hv1, hb2, hv3, c0_0, c0_1, gs, reduceIte, reduceCtorEq, Nat.reduceAdd, Nat.reduceMul, Nat.reduceSub, Nat.reduceBEq, Nat.reduceEqDiff, Nat.reduceLeDiff, Nat.reduceLT, Nat.reduceGT, Int.reduceToNat, Int.reduceLT, Int.reduceLE, Int.reduceNeg, Int.reduceAdd, Int.reduceEq, Int.reduceNe])
      · rintro h v hh0 ⟨c0_0, c0_1⟩ hpost
        obtain ⟨kk0, nb0_0, rfl, lnb0_0, gnb0_0, wnb0_0⟩ := hpost
        have d0_0 : getCells hh0 0 0 = some [] := (keep_get kk0 c0_1 (by first | (simp; done) | (simp; omega))).trans c0_0
        have d0_0l := keep_lt kk0 c0_1
        have d0_1 := wnb0_0
        have hp := Option.some.inj hp
        subst hp
        simp (disch := first | omega | (simp only [List.length_set, List.length_append, List.length_cons, List.length_nil, rows_len, zs]; first | done | omega)) only [ep_spec_l01RunsOK, hb0, hv1, hb2, hv3, d0_0, d0_1, gs, reduceIte, reduceCtorEq, Nat.reduceAdd, Nat.reduceMul, Nat.reduceSub, Nat.reduceBEq, Nat.reduceEqDiff, Nat.reduceLeDiff, Nat.reduceLT, Nat.reduceGT, Int.reduceToNat, Int.reduceLT, Int.reduceLE, Int.reduceNeg, Int.reduceAdd, Int.reduceEq, Int.reduceNe]
    · replace hb2 := eq_false_of_ne_true hb2
      rw [if_f hb2] at hp
      have hp := Option.some.inj hp
      subst hp
      simp (disch := first | omega | (simp only [List.length_set, List.length_append, List.length_cons, List.length_nil, rows_len, zs]; first | done | omega)) only [ep_spec_l01RunsOK, hb0, hv1, hb2, gs, reduceIte, reduceCtorEq, Nat.reduceAdd, Nat.reduceMul, Nat.reduceSub, Nat.reduceBEq, Nat.reduceEqDiff, Nat.reduceLeDiff, Nat.reduceLT, Nat.reduceGT, Int.reduceToNat, Int.reduceLT, Int.reduceLE, Int.reduceNeg, Int.reduceAdd, Int.reduceEq, Int.reduceNe]

noncomputable def p_impl_appendInt_l0 : List U8 × Int → Option (Lp (List U8 × Int) (List U8))
  | (s0, s1) =>
    if (decide (128 ≤ s1)) = true then
      (app? 1 s0 ([(U8.mk (orI .u8 (IntKind.wrap .u8 (andI .i64 s1 127)) 128))])).bind fun v3 =>
      (shr? .i64 s1 7).bind fun v4 =>
      some (.go (v3, v4))
    else
      some (.out (s0, s1))
noncomputable def p_impl_appendInt (x0 : List U8) (x1 : Int) : Option (List U8) :=
  (loopP (p_impl_appendInt_l0) (x0, x1)).bind fun ee0 => match ee0 with
  | .ret r => some r
  | .out (o5, o6) =>
    (app? 1 o5 ([(U8.mk (IntKind.wrap .u8 o6))])).bind fun v7 =>
    some v7
def c_impl_appendInt : AFn := ⟨21, (.seq (.ops [⟨(.some 4), (.vnil 1 false), .none, []⟩]) (.seq (.block 0 (.loop (.seq (.seq (.ops [⟨(.some 5), (.mv (.tmp 1)), .none, []⟩, ⟨(.some 6), (.pu (.n (.ar .geq)) [(.tmp 5), (.const (.int .i64 128))]), .none, []⟩]) (.cond (.tmp 6) .skip (.exit 0))) (.block 1 (.seq (.ops [⟨(.some 7), (.mv (.tmp 0)), .none, []⟩, ⟨(.some 8), (.mv (.tmp 1)), .none, []⟩, ⟨(.some 9), (.pu (.n (.ar .and)) [(.tmp 8), (.const (.int .i64 127))]), .none, []⟩, ⟨(.some 10), (.pu (.n (.conv .u8)) [(.tmp 9)]), .none, []⟩, ⟨(.some 11), (.pu (.n (.ar .or)) [(.tmp 10), (.const (.int .u8 128))]), .none, []⟩, ⟨(.some 12), (.buildSl 1 false 1 [(.int .u8 0)] [(0, (.tmp 11))]), .none, []⟩, ⟨(.some 13), (.append 1 false 1 (.tmp 7) (.tmp 12)), .none, []⟩, ⟨(.some 0), (.mv (.tmp 13)), .none, []⟩]) (.ops [⟨(.some 14), (.mv (.tmp 1)), .none, []⟩, ⟨(.some 15), (.pu (.n (.ar .shr)) [(.tmp 14), (.const (.int .u64 7))]), .none, []⟩, ⟨(.some 1), (.mv (.tmp 15)), .none, []⟩])))))) (.seq (.ops [⟨(.some 16), (.mv (.tmp 0)), .none, []⟩, ⟨(.some 17), (.mv (.tmp 1)), .none, []⟩, ⟨(.some 18), (.pu (.n (.conv .u8)) [(.tmp 17)]), .none, []⟩, ⟨(.some 19), (.buildSl 1 false 1 [(.int .u8 0)] [(0, (.tmp 18))]), .none, []⟩, ⟨(.some 20), (.append 1 false 1 (.tmp 16) (.tmp 19)), .none, []⟩, ⟨(.some 4), (.mv (.tmp 20)), .none, []⟩]) .ret))), [(.tmp 4)]⟩
def i_impl_appendInt (pb0 pn0 : Nat) (h : Heap) (b : List U8) (v : V) (h2 : Heap) : Prop := Keep [pb0] h h2 ∧ v = .hsl pb0 b.length 0 1 false b.length ∧ getCells h2 pb0 b.length = some (rows b)
def k_impl_appendInt (F : Fun) : Prop := ∀ (x0 : List U8) (x1 : Int) (b : List U8), p_impl_appendInt x0 x1 = some b → ∀ (pb0 pn0 : Nat) (h : Heap), pn0 = (x0).length → getCells h pb0 pn0 = some (rows x0) → ∃ p, F none [.hsl pb0 pn0 0 1 false pn0, .i (.s (.int .i64 x1))] h = some p ∧ i_impl_appendInt pb0 pn0 h b p.1 p.2
set_option maxHeartbeats 10000000 in
theorem w_impl_appendInt {P : Program} {env : Env}  (x0 : List U8) (x1 : Int) {b : List U8} (hp : p_impl_appendInt x0 x1 = some b) (pb0 pn0 : Nat) (hh : Heap) (pm0 : pn0 = (x0).length) (pf0 : getCells hh pb0 pn0 = some (rows x0)) : R P env (c_impl_appendInt) [.hsl pb0 pn0 0 1 false pn0, .i (.s (.int .i64 x1))] hh (i_impl_appendInt pb0 pn0 hh b) := by
  have pl0 := gc_lt pf0
  have pg0 : getCells hh pb0 x0.length = some (rows x0) := by rw [← pm0]; exact pf0
  refine R_of (by simp [c_impl_appendInt, encA]) ?_
  unfold c_impl_appendInt
  unfold p_impl_appendInt at hp
  obtain ⟨ee0, hee0, hp⟩ := bind_eq hp
  simp (disch := first | omega | (simp only [List.length_set, List.length_append, List.length_cons, List.length_nil, rows_len, zs]; first | done | omega)) only [pf0, pg0, gs, reduceIte, reduceCtorEq, Nat.reduceAdd, Nat.reduceMul, Nat.reduceSub, Nat.reduceBEq, Nat.reduceEqDiff, Nat.reduceLeDiff, Nat.reduceLT, Nat.reduceGT, Int.reduceToNat, Int.reduceLT, Int.reduceLE, Int.reduceNeg, Int.reduceAdd, Int.reduceEq, Int.reduceNe]
  refine W_loopP 0 (fun s t h => match s with | (s0, s1) => t 0 = .hsl pb0 s0.length 0 1 false s0.length ∧ t 1 = .i (.s (.int .i64 s1)) ∧ getCells h pb0 s0.length = some (rows (s0 : List U8)) ∧ pb0 < h.length ∧ Keep [pb0] hh h) (RK [.tmp 4] (i_impl_appendInt pb0 pn0 hh)) ?_ hee0 ?_ ?_
  · rintro ⟨s0, s1⟩ ee tt0 hh0 ⟨ftt0_0, ftt0_1, ftt0_2, ftt0_3, ftt0_4⟩ hp
    rw [p_impl_appendInt_l0] at hp
    by_cases hb2 : (decide (128 ≤ s1)) = true
    · rw [if_t hb2] at hp
      obtain ⟨v3, hv3, hp⟩ := bind_eq hp
      obtain ⟨kv3, qv3, lv3⟩ := app_some hv3
      have rv3 : rows s0 ++ [.i (.s (.int .u8 (orI .u8 (IntKind.wrap .u8 (andI .i64 s1 127)) 128)))] = rows v3 := by rw [qv3, rows_append]; rfl
      have mv3 : s0.length + 1 = v3.length := by simp at lv3; omega
      have nv3 : (s0.length + 1) * 1 ≤ 140737488355328 := by simp at kv3; omega
      obtain ⟨v4, hv4, hp⟩ := bind_eq hp
      have hp := Option.some.inj hp
      subst hp
      simp (disch := first | omega | (simp only [List.length_set, List.length_append, List.length_cons, List.length_nil, rows_len, zs]; first | done | omega)) only [i_impl_appendInt, pf0, pg0, ftt0_0, ftt0_1, ftt0_2, ftt0_3, ftt0_4, hb2, hv3, rv3, nv3, hv4, gs, reduceIte, reduceCtorEq, Nat.reduceAdd, Nat.reduceMul, Nat.reduceSub, Nat.reduceBEq, Nat.reduceEqDiff, Nat.reduceLeDiff, Nat.reduceLT, Nat.reduceGT, Int.reduceToNat, Int.reduceLT, Int.reduceLE, Int.reduceNeg, Int.reduceAdd, Int.reduceEq, Int.reduceNe] <;> (repeat (first | omega | assumption | rfl | exact keep_refl | refine keep_app ?_ | (refine keep_set (by first | (left; simp; done) | (right; simp; omega)) ?_) | refine And.intro ?_ ?_))
    · replace hb2 := eq_false_of_ne_true hb2
      rw [if_f hb2] at hp
      have hp := Option.some.inj hp
      subst hp
      simp (disch := first | omega | (simp only [List.length_set, List.length_append, List.length_cons, List.length_nil, rows_len, zs]; first | done | omega)) only [i_impl_appendInt, pf0, pg0, ftt0_0, ftt0_1, ftt0_2, ftt0_3, ftt0_4, hb2, gs, reduceIte, reduceCtorEq, Nat.reduceAdd, Nat.reduceMul, Nat.reduceSub, Nat.reduceBEq, Nat.reduceEqDiff, Nat.reduceLeDiff, Nat.reduceLT, Nat.reduceGT, Int.reduceToNat, Int.reduceLT, Int.reduceLE, Int.reduceNeg, Int.reduceAdd, Int.reduceEq, Int.reduceNe] <;> (repeat (first | omega | assumption | rfl | exact keep_refl | refine keep_app ?_ | (refine keep_set (by first | (left; simp; done) | (right; simp; omega)) ?_) | refine And.intro ?_ ?_))
  · simp (disch := first | omega | (simp only [List.length_set, List.length_append, List.length_cons, List.length_nil, rows_len, zs]; first | done | omega)) only [i_impl_appendInt, pf0, pg0, gs, reduceIte, reduceCtorEq, Nat.reduceAdd, Nat.reduceMul, Nat.reduceSub, Nat.reduceBEq, Nat.reduceEqDiff, Nat.reduceLeDiff, Nat.reduceLT, Nat.reduceGT, Int.reduceToNat, Int.reduceLT, Int.reduceLE, Int.reduceNeg, Int.reduceAdd, Int.reduceEq, Int.reduceNe] <;> (repeat (first | omega | assumption | rfl | exact keep_refl | refine keep_app ?_ | (refine keep_set (by first | (left; simp; done) | (right; simp; omega)) ?_) | refine And.intro ?_ ?_))
  · intro x tt1 hh1 hx
    rcases ee0 with ⟨o5, o6⟩ | r
    · obtain ⟨rfl, ftt1_0, ftt1_1, ftt1_2, ftt1_3, ftt1_4⟩ := hx
      dsimp only at hp
      obtain ⟨v7, hv7, hp⟩ := bind_eq hp
      obtain ⟨kv7, qv7, lv7⟩ := app_some hv7
      have rv7 : rows o5 ++ [.i (.s (.int .u8 (IntKind.wrap .u8 o6)))] = rows v7 := by rw [qv7, rows_append]; rfl
      have mv7 : o5.length + 1 = v7.length := by simp at lv7; omega
      have nv7 : (o5.length + 1) * 1 ≤ 140737488355328 := by simp at kv7; omega
      have hp := Option.some.inj hp
      subst hp
      simp (disch := first | omega | (simp only [List.length_set, List.length_append, List.length_cons, List.length_nil, rows_len, zs]; first | done | omega)) only [i_impl_appendInt, pf0, pg0, ftt1_0, ftt1_1, ftt1_2, ftt1_3, ftt1_4, hv7, rv7, nv7, gs, reduceIte, reduceCtorEq, Nat.reduceAdd, Nat.reduceMul, Nat.reduceSub, Nat.reduceBEq, Nat.reduceEqDiff, Nat.reduceLeDiff, Nat.reduceLT, Nat.reduceGT, Int.reduceToNat, Int.reduceLT, Int.reduceLE, Int.reduceNeg, Int.reduceAdd, Int.reduceEq, Int.reduceNe] <;> (repeat (first | omega | assumption | rfl | exact keep_refl | refine keep_app ?_ | (refine keep_set (by first | (left; simp; done) | (right; simp; omega)) ?_) | refine And.intro ?_ ?_))
    · obtain ⟨rfl, hx⟩ := hx
      dsimp only at hp
      cases hp
      simp only [seqK_ret, blockK_ret, retK_RK (K := i_impl_appendInt pb0 pn0 hh), hx, and_self, true_and]
theorem ko_impl_appendInt {P : Program} {env : Env}  : k_impl_appendInt (runIn P env (c_impl_appendInt)) := by
  intro x0 x1 b hp pb0 pn0 h a0 a1
  exact w_impl_appendInt x0 x1 hp pb0 pn0 h a0 a1

noncomputable def p_impl_runLen_l0 (x0 : List Int) (x1 : Int) (v1 : Int) (v2 : Int) : Int → Option (Lp (Int) Int)
  | s3 =>
    if (decide (w64 (x1 + s3) < (x0.length : Int))) = true then
      (get? x0 (w64 (x1 + s3))).bind fun v5 =>
      (get? x0 (w64 ((w64 (x1 + s3)) - 1))).bind fun v6 =>
      if (decide (w64 (v5 - v6) = w64 (v1 - v2))) = true then
        some (.go (w64 (s3 + 1)))
      else
        some (.out s3)
    else
      some (.out s3)
noncomputable def p_impl_runLen (x0 : List Int) (x1 : Int) : Option Int :=
  if (decide ((x0.length : Int) ≤ w64 (x1 + 1))) = true then
    some 1
  else
    (get? x0 (w64 (x1 + 1))).bind fun v1 =>
    (get? x0 x1).bind fun v2 =>
    (loopP (p_impl_runLen_l0 x0 x1 v1 v2) 2).bind fun ee0 => match ee0 with
    | .ret r => some r
    | .out o8 =>
      some o8
def c_impl_runLen : AFn := ⟨49, (.seq (.ops [⟨(.some 4), (.mv (.const (.int .i64 0))), .none, []⟩]) (.seq (.seq (.ops [⟨(.some 7), (.mv (.tmp 1)), .none, []⟩, ⟨(.some 8), (.pu (.n (.ar .add)) [(.tmp 7), (.const (.int .i64 1))]), .none, []⟩, ⟨(.some 9), (.mv (.tmp 0)), .none, []⟩, ⟨(.some 10), (.len (.tmp 9)), .none, []⟩, ⟨(.some 11), (.pu (.n (.ar .geq)) [(.tmp 8), (.tmp 10)]), .none, []⟩]) (.cond (.tmp 11) (.seq (.ops [⟨(.some 4), (.mv (.const (.int .i64 1))), .none, []⟩]) .ret) .skip)) (.seq (.ops [⟨(.some 12), (.mv (.tmp 0)), .none, []⟩, ⟨(.some 13), (.mv (.tmp 1)), .none, []⟩, ⟨(.some 14), (.pu (.n (.ar .add)) [(.tmp 13), (.const (.int .i64 1))]), .none, []⟩, ⟨(.some 15), (.idxS 1 (.tmp 12) (.tmp 14)), .none, []⟩, ⟨(.some 16), (.load 1 false (.tmp 15)), .none, []⟩, ⟨(.some 17), (.mv (.tmp 0)), .none, []⟩, ⟨(.some 18), (.mv (.tmp 1)), .none, []⟩, ⟨(.some 19), (.idxS 1 (.tmp 17) (.tmp 18)), .none, []⟩, ⟨(.some 20), (.load 1 false (.tmp 19)), .none, []⟩, ⟨(.some 21), (.pu (.n (.ar .sub)) [(.tmp 16), (.tmp 20)]), .none, []⟩, ⟨(.some 5), (.mv (.tmp 21)), .none, []⟩]) (.seq (.ops [⟨(.some 6), (.mv (.const (.int .i64 2))), .none, []⟩]) (.seq (.block 0 (.loop (.seq (.seq (.ops [⟨(.some 22), (.mv (.tmp 1)), .none, []⟩, ⟨(.some 23), (.mv (.tmp 6)), .none, []⟩, ⟨(.some 24), (.pu (.n (.ar .add)) [(.tmp 22), (.tmp 23)]), .none, []⟩, ⟨(.some 25), (.mv (.tmp 0)), .none, []⟩, ⟨(.some 26), (.len (.tmp 25)), .none, []⟩, ⟨(.some 27), (.pu (.n (.ar .lss)) [(.tmp 24), (.tmp 26)]), .none, []⟩, ⟨(.some 28), (.mv (.tmp 27)), .none, []⟩, ⟨(.some 29), (.mv (.tmp 0)), (.some (28, true)), []⟩, ⟨(.some 30), (.mv (.tmp 1)), (.some (28, true)), []⟩, ⟨(.some 31), (.mv (.tmp 6)), (.some (28, true)), []⟩, ⟨(.some 32), (.pu (.n (.ar .add)) [(.tmp 30), (.tmp 31)]), (.some (28, true)), []⟩, ⟨(.some 33), (.idxS 1 (.tmp 29) (.tmp 32)), (.some (28, true)), []⟩, ⟨(.some 34), (.load 1 false (.tmp 33)), (.some (28, true)), []⟩, ⟨(.some 35), (.mv (.tmp 0)), (.some (28, true)), []⟩, ⟨(.some 36), (.mv (.tmp 1)), (.some (28, true)), []⟩, ⟨(.some 37), (.mv (.tmp 6)), (.some (28, true)), []⟩, ⟨(.some 38), (.pu (.n (.ar .add)) [(.tmp 36), (.tmp 37)]), (.some (28, true)), []⟩, ⟨(.some 39), (.pu (.n (.ar .sub)) [(.tmp 38), (.const (.int .i64 1))]), (.some (28, true)), []⟩, ⟨(.some 40), (.idxS 1 (.tmp 35) (.tmp 39)), (.some (28, true)), []⟩, ⟨(.some 41), (.load 1 false (.tmp 40)), (.some (28, true)), []⟩, ⟨(.some 42), (.pu (.n (.ar .sub)) [(.tmp 34), (.tmp 41)]), (.some (28, true)), []⟩, ⟨(.some 43), (.mv (.tmp 5)), (.some (28, true)), []⟩, ⟨(.some 44), (.pu (.n (.ar .eql)) [(.tmp 42), (.tmp 43)]), (.some (28, true)), []⟩, ⟨(.some 45), (.pick (.tmp 28) (.tmp 44) (.const (.bool false))), .none, []⟩]) (.cond (.tmp 45) .skip (.exit 0))) (.block 1 (.ops [⟨(.some 46), (.mv (.tmp 6)), .none, []⟩, ⟨(.some 47), (.pu (.n (.ar .add)) [(.tmp 46), (.const (.int .i64 1))]), .none, []⟩, ⟨(.some 6), (.mv (.tmp 47)), .none, []⟩]))))) (.seq (.ops [⟨(.some 48), (.mv (.tmp 6)), .none, []⟩, ⟨(.some 4), (.mv (.tmp 48)), .none, []⟩]) .ret)))))), [(.tmp 4)]⟩
set_option maxHeartbeats 10000000 in
theorem d_impl_runLen {P : Program} {env : Env}  (x0 : List Int) (x1 : Int) {b : Int} (hp : p_impl_runLen x0 x1 = some b) : R P env (c_impl_runLen) ((encA (x0, x1)).map ofI) [] (Tells true b) := by
  refine R_of (by simp [c_impl_runLen, encA]) ?_
  unfold c_impl_runLen
  unfold p_impl_runLen at hp
  by_cases hb0 : (decide ((x0.length : Int) ≤ w64 (x1 + 1))) = true
  · rw [if_t hb0] at hp
    have hp := Option.some.inj hp
    subst hp
    simp (disch := first | omega | (simp only [List.length_set, List.length_append, List.length_cons, List.length_nil, rows_len, zs]; first | done | omega)) only [hb0, gs, reduceIte, reduceCtorEq, Nat.reduceAdd, Nat.reduceMul, Nat.reduceSub, Nat.reduceBEq, Nat.reduceEqDiff, Nat.reduceLeDiff, Nat.reduceLT, Nat.reduceGT, Int.reduceToNat, Int.reduceLT, Int.reduceLE, Int.reduceNeg, Int.reduceAdd, Int.reduceEq, Int.reduceNe]
  · replace hb0 := eq_false_of_ne_true hb0
    rw [if_f hb0] at hp
    obtain ⟨v1, hv1, hp⟩ := bind_eq hp
    obtain ⟨v2, hv2, hp⟩ := bind_eq hp
    obtain ⟨ee0, hee0, hp⟩ := bind_eq hp
    simp (disch := first | omega | (simp only [List.length_set, List.length_append, List.length_cons, List.length_nil, rows_len, zs]; first | done | omega)) only [hb0, hv1, hv2, gs, reduceIte, reduceCtorEq, Nat.reduceAdd, Nat.reduceMul, Nat.reduceSub, Nat.reduceBEq, Nat.reduceEqDiff, Nat.reduceLeDiff, Nat.reduceLT, Nat.reduceGT, Int.reduceToNat, Int.reduceLT, Int.reduceLE, Int.reduceNeg, Int.reduceAdd, Int.reduceEq, Int.reduceNe]
    refine W_loopP 0 (fun s t h => match s with | s3 => t 0 = .i (.sl 1 (x0.map enc)) ∧ t 1 = .i (.s (.int .i64 x1)) ∧ t 5 = .i (.s (.int .i64 (w64 (v1 - v2)))) ∧ t 6 = .i (.s (.int .i64 s3))) (RK [.tmp 4] (Tells true)) ?_ hee0 ?_ ?_
    · rintro s3 ee tt0 hh0 ⟨ftt0_0, ftt0_1, ftt0_2, ftt0_3⟩ hp
      rw [p_impl_runLen_l0] at hp
      by_cases hb4 : (decide (w64 (x1 + s3) < (x0.length : Int))) = true
      · rw [if_t hb4] at hp
        obtain ⟨v5, hv5, hp⟩ := bind_eq hp
        obtain ⟨v6, hv6, hp⟩ := bind_eq hp
        by_cases hb7 : (decide (w64 (v5 - v6) = w64 (v1 - v2))) = true
        · rw [if_t hb7] at hp
          have hp := Option.some.inj hp
          subst hp
          simp (disch := first | omega | (simp only [List.length_set, List.length_append, List.length_cons, List.length_nil, rows_len, zs]; first | done | omega)) only [hb0, hv1, hv2, ftt0_0, ftt0_1, ftt0_2, ftt0_3, hb4, hv5, hv6, hb7, gs, reduceIte, reduceCtorEq, Nat.reduceAdd, Nat.reduceMul, Nat.reduceSub, Nat.reduceBEq, Nat.reduceEqDiff, Nat.reduceLeDiff, Nat.reduceLT, Nat.reduceGT, Int.reduceToNat, Int.reduceLT, Int.reduceLE, Int.reduceNeg, Int.reduceAdd, Int.reduceEq, Int.reduceNe] <;> omega
        · replace hb7 := eq_false_of_ne_true hb7
          rw [if_f hb7] at hp
          have hp := Option.some.inj hp
          subst hp
          simp (disch := first | omega | (simp only [List.length_set, List.length_append, List.length_cons, List.length_nil, rows_len, zs]; first | done | omega)) only [hb0, hv1, hv2, ftt0_0, ftt0_1, ftt0_2, ftt0_3, hb4, hv5, hv6, hb7, gs, reduceIte, reduceCtorEq, Nat.reduceAdd, Nat.reduceMul, Nat.reduceSub, Nat.reduceBEq, Nat.reduceEqDiff, Nat.reduceLeDiff, Nat.reduceLT, Nat.reduceGT, Int.reduceToNat, Int.reduceLT, Int.reduceLE, Int.reduceNeg, Int.reduceAdd, Int.reduceEq, Int.reduceNe] <;> omega
      · replace hb4 := eq_false_of_ne_true hb4
        rw [if_f hb4] at hp
        have hp := Option.some.inj hp
        subst hp
        simp (disch := first | omega | (simp only [List.length_set, List.length_append, List.length_cons, List.length_nil, rows_len, zs]; first | done | omega)) only [hb0, hv1, hv2, ftt0_0, ftt0_1, ftt0_2, ftt0_3, hb4, gs, reduceIte, reduceCtorEq, Nat.reduceAdd, Nat.reduceMul, Nat.reduceSub, Nat.reduceBEq, Nat.reduceEqDiff, Nat.reduceLeDiff, Nat.reduceLT, Nat.reduceGT, Int.reduceToNat, Int.reduceLT, Int.reduceLE, Int.reduceNeg, Int.reduceAdd, Int.reduceEq, Int.reduceNe] <;> omega
    · simp (disch := first | omega | (simp only [List.length_set, List.length_append, List.length_cons, List.length_nil, rows_len, zs]; first | done | omega)) only [hb0, hv1, hv2, gs, reduceIte, reduceCtorEq, Nat.reduceAdd, Nat.reduceMul, Nat.reduceSub, Nat.reduceBEq, Nat.reduceEqDiff, Nat.reduceLeDiff, Nat.reduceLT, Nat.reduceGT, Int.reduceToNat, Int.reduceLT, Int.reduceLE, Int.reduceNeg, Int.reduceAdd, Int.reduceEq, Int.reduceNe] <;> omega
    · intro x tt1 hh1 hx
      rcases ee0 with o8 | r
      · obtain ⟨rfl, ftt1_0, ftt1_1, ftt1_2, ftt1_3⟩ := hx
        dsimp only at hp
        have hp := Option.some.inj hp
        subst hp
        simp (disch := first | omega | (simp only [List.length_set, List.length_append, List.length_cons, List.length_nil, rows_len, zs]; first | done | omega)) only [hb0, hv1, hv2, ftt1_0, ftt1_1, ftt1_2, ftt1_3, gs, reduceIte, reduceCtorEq, Nat.reduceAdd, Nat.reduceMul, Nat.reduceSub, Nat.reduceBEq, Nat.reduceEqDiff, Nat.reduceLeDiff, Nat.reduceLT, Nat.reduceGT, Int.reduceToNat, Int.reduceLT, Int.reduceLE, Int.reduceNeg, Int.reduceAdd, Int.reduceEq, Int.reduceNe]
      · obtain ⟨rfl, hx⟩ := hx
        dsimp only at hp
        cases hp
        simp only [seqK_ret, blockK_ret, retK_RK (K := Tells true), hx, and_self, true_and]

noncomputable def p_impl_zig (x0 : Int) : Option Int :=
  if (decide (x0 < 0)) = true then
    some (w64 ((w64 ((-2) * x0)) - 1))
  else
    some (w64 (2 * x0))
def c_impl_zig : AFn := ⟨10, (.seq (.ops [⟨(.some 2), (.mv (.const (.int .i64 0))), .none, []⟩]) (.seq (.seq (.ops [⟨(.some 3), (.mv (.tmp 0)), .none, []⟩, ⟨(.some 4), (.pu (.n (.ar .lss)) [(.tmp 3), (.const (.int .i64 0))]), .none, []⟩]) (.cond (.tmp 4) (.seq (.ops [⟨(.some 5), (.mv (.tmp 0)), .none, []⟩, ⟨(.some 6), (.pu (.n (.ar .mul)) [(.const (.int .i64 (-2))), (.tmp 5)]), .none, []⟩, ⟨(.some 7), (.pu (.n (.ar .sub)) [(.tmp 6), (.const (.int .i64 1))]), .none, []⟩, ⟨(.some 2), (.mv (.tmp 7)), .none, []⟩]) .ret) .skip)) (.seq (.ops [⟨(.some 8), (.mv (.tmp 0)), .none, []⟩, ⟨(.some 9), (.pu (.n (.ar .mul)) [(.const (.int .i64 2)), (.tmp 8)]), .none, []⟩, ⟨(.some 2), (.mv (.tmp 9)), .none, []⟩]) .ret))), [(.tmp 2)]⟩
set_option maxHeartbeats 10000000 in
theorem d_impl_zig {P : Program} {env : Env}  (x0 : Int) {b : Int} (hp : p_impl_zig x0 = some b) : R P env (c_impl_zig) ((encA (x0)).map ofI) [] (Tells true b) := by
  refine R_of (by simp [c_impl_zig, encA]) ?_
  unfold c_impl_zig
  unfold p_impl_zig at hp
  by_cases hb0 : (decide (x0 < 0)) = true
  · rw [if_t hb0] at hp
    have hp := Option.some.inj hp
    subst hp
    simp (disch := first | omega | (simp only [List.length_set, List.length_append, List.length_cons, List.length_nil, rows_len, zs]; first | done | omega)) only [hb0, gs, reduceIte, reduceCtorEq, Nat.reduceAdd, Nat.reduceMul, Nat.reduceSub, Nat.reduceBEq, Nat.reduceEqDiff, Nat.reduceLeDiff, Nat.reduceLT, Nat.reduceGT, Int.reduceToNat, Int.reduceLT, Int.reduceLE, Int.reduceNeg, Int.reduceAdd, Int.reduceEq, Int.reduceNe]
  · replace hb0 := eq_false_of_ne_true hb0
    rw [if_f hb0] at hp
    have hp := Option.some.inj hp
    subst hp
    simp (disch := first | omega | (simp only [List.length_set, List.length_append, List.length_cons, List.length_nil, rows_len, zs]; first | done | omega)) only [hb0, gs, reduceIte, reduceCtorEq, Nat.reduceAdd, Nat.reduceMul, Nat.reduceSub, Nat.reduceBEq, Nat.reduceEqDiff, Nat.reduceLeDiff, Nat.reduceLT, Nat.reduceGT, Int.reduceToNat, Int.reduceLT, Int.reduceLE, Int.reduceNeg, Int.reduceAdd, Int.reduceEq, Int.reduceNe]

noncomputable def p_impl_appendRuns_l0 (x1 : List Int) : List U8 × Int → Option (Lp (List U8 × Int) (List U8))
  | (s1, s2) =>
    if (decide (s2 < (x1.length : Int))) = true then
      (p_impl_runLen x1 s2).bind fun v4 =>
      (get? x1 s2).bind fun v5 =>
      (p_impl_appendInt s1 v5).bind fun v6 =>
      (p_impl_appendInt v6 v4).bind fun v7 =>
      if (decide (2 ≤ v4)) = true then
        (get? x1 (w64 (s2 + 1))).bind fun v9 =>
        (p_impl_zig (w64 (v9 - v5))).bind fun v10 =>
        (p_impl_appendInt v7 v10).bind fun v11 =>
        some (.go (v11, w64 (s2 + v4)))
      else
        some (.go (v7, w64 (s2 + v4)))
    else
      some (.out (s1, s2))
noncomputable def p_impl_appendRuns (x0 : List U8) (x1 : List Int) : Option (List U8) :=
  (p_impl_appendInt x0 (x1.length : Int)).bind fun v0 =>
  (loopP (p_impl_appendRuns_l0 x1) (v0, 0)).bind fun ee0 => match ee0 with
  | .ret r => some r
  | .out (o12, o13) =>
    some o12
def c_impl_appendRuns (f_impl_appendInt : Nat) (f_impl_runLen : Nat) (f_impl_zig : Nat) : AFn := ⟨46, (.seq (.ops [⟨(.some 4), (.vnil 1 false), .none, []⟩]) (.seq (.ops [⟨(.some 7), (.mv (.tmp 0)), .none, []⟩, ⟨(.some 8), (.mv (.tmp 1)), .none, []⟩, ⟨(.some 9), (.len (.tmp 8)), .none, []⟩, ⟨(.some 10), (.call (2 * f_impl_appendInt + 1) [(.tmp 7), (.tmp 9)]), .none, []⟩, ⟨(.some 0), (.mv (.tmp 10)), .none, []⟩]) (.seq (.seq (.ops [⟨(.some 5), (.mv (.const (.int .i64 0))), .none, []⟩]) (.block 0 (.loop (.seq (.seq (.ops [⟨(.some 11), (.mv (.tmp 5)), .none, []⟩, ⟨(.some 12), (.mv (.tmp 1)), .none, []⟩, ⟨(.some 13), (.len (.tmp 12)), .none, []⟩, ⟨(.some 14), (.pu (.n (.ar .lss)) [(.tmp 11), (.tmp 13)]), .none, []⟩]) (.cond (.tmp 14) .skip (.exit 0))) (.block 1 (.seq (.ops [⟨(.some 15), (.mv (.tmp 1)), .none, []⟩, ⟨(.some 16), (.mv (.tmp 5)), .none, []⟩, ⟨(.some 17), (.call (2 * f_impl_runLen) [(.tmp 15), (.tmp 16)]), .none, []⟩, ⟨(.some 6), (.mv (.tmp 17)), .none, []⟩]) (.seq (.ops [⟨(.some 18), (.mv (.tmp 0)), .none, []⟩, ⟨(.some 19), (.mv (.tmp 1)), .none, []⟩, ⟨(.some 20), (.mv (.tmp 5)), .none, []⟩, ⟨(.some 21), (.idxS 1 (.tmp 19) (.tmp 20)), .none, []⟩, ⟨(.some 22), (.load 1 false (.tmp 21)), .none, []⟩, ⟨(.some 23), (.call (2 * f_impl_appendInt + 1) [(.tmp 18), (.tmp 22)]), .none, []⟩, ⟨(.some 0), (.mv (.tmp 23)), .none, []⟩]) (.seq (.ops [⟨(.some 24), (.mv (.tmp 0)), .none, []⟩, ⟨(.some 25), (.mv (.tmp 6)), .none, []⟩, ⟨(.some 26), (.call (2 * f_impl_appendInt + 1) [(.tmp 24), (.tmp 25)]), .none, []⟩, ⟨(.some 0), (.mv (.tmp 26)), .none, []⟩]) (.seq (.seq (.ops [⟨(.some 27), (.mv (.tmp 6)), .none, []⟩, ⟨(.some 28), (.pu (.n (.ar .geq)) [(.tmp 27), (.const (.int .i64 2))]), .none, []⟩]) (.cond (.tmp 28) (.ops [⟨(.some 29), (.mv (.tmp 0)), .none, []⟩, ⟨(.some 30), (.mv (.tmp 1)), .none, []⟩, ⟨(.some 31), (.mv (.tmp 5)), .none, []⟩, ⟨(.some 32), (.pu (.n (.ar .add)) [(.tmp 31), (.const (.int .i64 1))]), .none, []⟩, ⟨(.some 33), (.idxS 1 (.tmp 30) (.tmp 32)), .none, []⟩, ⟨(.some 34), (.load 1 false (.tmp 33)), .none, []⟩, ⟨(.some 35), (.mv (.tmp 1)), .none, []⟩, ⟨(.some 36), (.mv (.tmp 5)), .none, []⟩, ⟨(.some 37), (.idxS 1 (.tmp 35) (.tmp 36)), .none, []⟩, ⟨(.some 38), (.load 1 false (.tmp 37)), .none, []⟩, ⟨(.some 39), (.pu (.n (.ar .sub)) [(.tmp 34), (.tmp 38)]), .none, []⟩, ⟨(.some 40), (.call (2 * f_impl_zig) [(.tmp 39)]), .none, []⟩, ⟨(.some 41), (.call (2 * f_impl_appendInt + 1) [(.tmp 29), (.tmp 40)]), .none, []⟩, ⟨(.some 0), (.mv (.tmp 41)), .none, []⟩]) .skip)) (.ops [⟨(.some 42), (.mv (.tmp 5)), .none, []⟩, ⟨(.some 43), (.mv (.tmp 6)), .none, []⟩, ⟨(.some 44), (.pu (.n (.ar .add)) [(.tmp 42), (.tmp 43)]), .none, []⟩, ⟨(.some 5), (.mv (.tmp 44)), .none, []⟩])))))))))) (.seq (.ops [⟨(.some 45), (.mv (.tmp 0)), .none, []⟩, ⟨(.some 4), (.mv (.tmp 45)), .none, []⟩]) .ret)))), [(.tmp 4)]⟩
def i_impl_appendRuns (pb0 pn0 : Nat) (h : Heap) (b : List U8) (v : V) (h2 : Heap) : Prop := Keep [pb0] h h2 ∧ v = .hsl pb0 b.length 0 1 false b.length ∧ getCells h2 pb0 b.length = some (rows b)
def k_impl_appendRuns (F : Fun) : Prop := ∀ (x0 : List U8) (x1 : List Int) (b : List U8), p_impl_appendRuns x0 x1 = some b → ∀ (pb0 pn0 : Nat) (h : Heap), pn0 = (x0).length → getCells h pb0 pn0 = some (rows x0) → ∃ p, F none [.hsl pb0 pn0 0 1 false pn0, .i (.sl 1 (x1.map enc))] h = some p ∧ i_impl_appendRuns pb0 pn0 h b p.1 p.2
set_option maxHeartbeats 10000000 in
theorem w_impl_appendRuns {P : Program} {env : Env} {f_impl_appendInt : Nat} {f_impl_runLen : Nat} {f_impl_zig : Nat}  (ep_impl_runLen : env (2 * f_impl_runLen) = pureFn true (FA fun a : List Int × Int => p_impl_runLen a.1 a.2)) (ep_impl_zig : env (2 * f_impl_zig) = pureFn true (FA fun a : Int => p_impl_zig a)) (e_impl_appendInt : k_impl_appendInt (env (2 * f_impl_appendInt + 1))) (x0 : List U8) (x1 : List Int) {b : List U8} (hp : p_impl_appendRuns x0 x1 = some b) (pb0 pn0 : Nat) (hh : Heap) (pm0 : pn0 = (x0).length) (pf0 : getCells hh pb0 pn0 = some (rows x0)) : R P env (c_impl_appendRuns f_impl_appendInt f_impl_runLen f_impl_zig) [.hsl pb0 pn0 0 1 false pn0, .i (.sl 1 (x1.map enc))] hh (i_impl_appendRuns pb0 pn0 hh b) := by
  have pl0 := gc_lt pf0
  have pg0 : getCells hh pb0 x0.length = some (rows x0) := by rw [← pm0]; exact pf0
  refine R_of (by simp [c_impl_appendRuns, encA]) ?_
  unfold c_impl_appendRuns
  unfold p_impl_appendRuns at hp
  obtain ⟨v0, hv0, hp⟩ := bind_eq hp
  simp (disch := first | omega | (simp only [List.length_set, List.length_append, List.length_cons, List.length_nil, rows_len, zs]; first | done | omega)) only [ep_impl_runLen, ep_impl_zig, pf0, pg0, gs, reduceIte, reduceCtorEq, Nat.reduceAdd, Nat.reduceMul, Nat.reduceSub, Nat.reduceBEq, Nat.reduceEqDiff, Nat.reduceLeDiff, Nat.reduceLT, Nat.reduceGT, Int.reduceToNat, Int.reduceLT, Int.reduceLE, Int.reduceNeg, Int.reduceAdd, Int.reduceEq, Int.reduceNe]
  refine call_f (fun h => getCells h pb0 pn0 = some (rows (x0 : List U8)) ∧ pb0 < h.length ∧ getCells h hh.length 0 = some [] ∧ hh.length < h.length ∧ Keep [pb0] hh h) (fun h v h2 => i_impl_appendInt pb0 pn0 h v0 v h2) ?_ ?_ ?_
  · simp (disch := first | omega | (simp only [List.length_set, List.length_append, List.length_cons, List.length_nil, rows_len, zs]; first | done | omega)) only [i_impl_appendRuns, ep_impl_runLen, ep_impl_zig, pf0, pg0, hv0, gs, reduceIte, reduceCtorEq, Nat.reduceAdd, Nat.reduceMul, Nat.reduceSub, Nat.reduceBEq, Nat.reduceEqDiff, Nat.reduceLeDiff, Nat.reduceLT, Nat.reduceGT, Int.reduceToNat, Int.reduceLT, Int.reduceLE, Int.reduceNeg, Int.reduceAdd, Int.reduceEq, Int.reduceNe] <;> (repeat (first | omega | assumption | rfl | exact keep_refl | refine keep_app ?_ | (refine keep_set (by first | (left; simp; done) | (right; simp; omega)) ?_) | refine And.intro ?_ ?_))
  · rintro h ⟨c0_0, c0_1, c0_2, c0_3, c0_4⟩
    exact e_impl_appendInt _ _ _ hv0 pb0 pn0 h (by first | omega | rfl) c0_0
  · rintro h v hh0 ⟨c0_0, c0_1, c0_2, c0_3, c0_4⟩ hpost
    obtain ⟨kk0, rfl, w0_0⟩ := hpost
    have d0_0 : getCells hh0 pb0 v0.length = some (rows (v0 : List U8)) := w0_0
    have mm0_0 := len_rows w0_0
    simp only [zs] at mm0_0
    have d0_0l := keep_lt kk0 c0_1
    have d0_1 : getCells hh0 hh.length 0 = some [] := (keep_get kk0 c0_3 (by first | (simp; done) | (simp; omega))).trans c0_2
    have d0_1l := keep_lt kk0 c0_3
    have kp0 : Keep [pb0] hh hh0 := keep_trans c0_4 kk0 (by intro b hb; first | (simp at hb; done) | (simp at hb ⊢; omega))
    obtain ⟨ee0, hee0, hp⟩ := bind_eq hp
    simp (disch := first | omega | (simp only [List.length_set, List.length_append, List.length_cons, List.length_nil, rows_len, zs]; first | done | omega)) only [ep_impl_runLen, ep_impl_zig, pf0, pg0, hv0, d0_0, d0_1, gs, reduceIte, reduceCtorEq, Nat.reduceAdd, Nat.reduceMul, Nat.reduceSub, Nat.reduceBEq, Nat.reduceEqDiff, Nat.reduceLeDiff, Nat.reduceLT, Nat.reduceGT, Int.reduceToNat, Int.reduceLT, Int.reduceLE, Int.reduceNeg, Int.reduceAdd, Int.reduceEq, Int.reduceNe]
    refine W_loopP 0 (fun s t h => match s with | (s1, s2) => t 0 = .hsl pb0 s1.length 0 1 false s1.length ∧ t 1 = .i (.sl 1 (x1.map enc)) ∧ t 5 = .i (.s (.int .i64 s2)) ∧ getCells h pb0 s1.length = some (rows (s1 : List U8)) ∧ pb0 < h.length ∧ Keep [pb0] hh h) (RK [.tmp 4] (i_impl_appendRuns pb0 pn0 hh)) ?_ hee0 ?_ ?_
    · rintro ⟨s1, s2⟩ ee tt1 hh1 ⟨ftt1_0, ftt1_1, ftt1_2, ftt1_3, ftt1_4, ftt1_5⟩ hp
      rw [p_impl_appendRuns_l0] at hp
      by_cases hb3 : (decide (s2 < (x1.length : Int))) = true
      · rw [if_t hb3] at hp
        obtain ⟨v4, hv4, hp⟩ := bind_eq hp
        obtain ⟨v5, hv5, hp⟩ := bind_eq hp
        obtain ⟨v6, hv6, hp⟩ := bind_eq hp
        simp (disch := first | omega | (simp only [List.length_set, List.length_append, List.length_cons, List.length_nil, rows_len, zs]; first | done | omega)) only [ep_impl_runLen, ep_impl_zig, pf0, pg0, hv0, d0_0, d0_1, ftt1_0, ftt1_1, ftt1_2, ftt1_3, ftt1_4, ftt1_5, hb3, hv4, hv5, gs, reduceIte, reduceCtorEq, Nat.reduceAdd, Nat.reduceMul, Nat.reduceSub, Nat.reduceBEq, Nat.reduceEqDiff, Nat.reduceLeDiff, Nat.reduceLT, Nat.reduceGT, Int.reduceToNat, Int.reduceLT, Int.reduceLE, Int.reduceNeg, Int.reduceAdd, Int.reduceEq, Int.reduceNe]
        refine call_f (fun h => getCells h pb0 s1.length = some (rows (s1 : List U8)) ∧ pb0 < h.length ∧ Keep [pb0] hh h) (fun h v h2 => i_impl_appendInt pb0 s1.length h v6 v h2) ?_ ?_ ?_
        · simp (disch := first | omega | (simp only [List.length_set, List.length_append, List.length_cons, List.length_nil, rows_len, zs]; first | done | omega)) only [i_impl_appendRuns, ep_impl_runLen, ep_impl_zig, pf0, pg0, hv0, d0_0, d0_1, ftt1_0, ftt1_1, ftt1_2, ftt1_3, ftt1_4, ftt1_5, hb3, hv4, hv5, hv6, gs, reduceIte, reduceCtorEq, Nat.reduceAdd, Nat.reduceMul, Nat.reduceSub, Nat.reduceBEq, Nat.reduceEqDiff, Nat.reduceLeDiff, Nat.reduceLT, Nat.reduceGT, Int.reduceToNat, Int.reduceLT, Int.reduceLE, Int.reduceNeg, Int.reduceAdd, Int.reduceEq, Int.reduceNe] <;> (repeat (first | omega | assumption | rfl | exact keep_refl | refine keep_app ?_ | (refine keep_set (by first | (left; simp; done) | (right; simp; omega)) ?_) | refine And.intro ?_ ?_))
        · rintro h ⟨c2_0, c2_1, c2_2⟩
          exact e_impl_appendInt _ _ _ hv6 pb0 s1.length h (by first | omega | rfl) c2_0
        · rintro h v hh2 ⟨c2_0, c2_1, c2_2⟩ hpost
          obtain ⟨kk2, rfl, w2_0⟩ := hpost
          have d2_0 : getCells hh2 pb0 v6.length = some (rows (v6 : List U8)) := w2_0
          have mm2_0 := len_rows w2_0
          simp only [zs] at mm2_0
          have d2_0l := keep_lt kk2 c2_1
          have kp2 : Keep [pb0] hh hh2 := keep_trans c2_2 kk2 (by intro b hb; first | (simp at hb; done) | (simp at hb ⊢; omega))
          obtain ⟨v7, hv7, hp⟩ := bind_eq hp
          simp (disch := first | omega | (simp only [List.length_set, List.length_append, List.length_cons, List.length_nil, rows_len, zs]; first | done | omega)) only [ep_impl_runLen, ep_impl_zig, pf0, pg0, hv0, d0_0, d0_1, ftt1_0, ftt1_1, ftt1_2, ftt1_3, ftt1_4, ftt1_5, hb3, hv4, hv5, hv6, d2_0, gs, reduceIte, reduceCtorEq, Nat.reduceAdd, Nat.reduceMul, Nat.reduceSub, Nat.reduceBEq, Nat.reduceEqDiff, Nat.reduceLeDiff, Nat.reduceLT, Nat.reduceGT, Int.reduceToNat, Int.reduceLT, Int.reduceLE, Int.reduceNeg, Int.reduceAdd, Int.reduceEq, Int.reduceNe]
          refine call_f (fun h => getCells h pb0 v6.length = some (rows (v6 : List U8)) ∧ pb0 < h.length ∧ Keep [pb0] hh h) (fun h v h2 => i_impl_appendInt pb0 v6.length h v7 v h2) ?_ ?_ ?_
          · simp (disch := first | omega | (simp only [List.length_set, List.length_append, List.length_cons, List.length_nil, rows_len, zs]; first | done | omega)) only [i_impl_appendRuns, ep_impl_runLen, ep_impl_zig, pf0, pg0, hv0, d0_0, d0_1, ftt1_0, ftt1_1, ftt1_2, ftt1_3, ftt1_4, ftt1_5, hb3, hv4, hv5, hv6, d2_0, hv7, gs, reduceIte, reduceCtorEq, Nat.reduceAdd, Nat.reduceMul, Nat.reduceSub, Nat.reduceBEq, Nat.reduceEqDiff, Nat.reduceLeDiff, Nat.reduceLT, Nat.reduceGT, Int.reduceToNat, Int.reduceLT, Int.reduceLE, Int.reduceNeg, Int.reduceAdd, Int.reduceEq, Int.reduceNe] <;> (repeat (first | omega | assumption | rfl | exact keep_refl | refine keep_app ?_ | (refine keep_set (by first | (left; simp; done) | (right; simp; omega)) ?_) | refine And.intro ?_ ?_))
          · rintro h ⟨c3_0, c3_1, c3_2⟩
            exact e_impl_appendInt _ _ _ hv7 pb0 v6.length h (by first | omega | rfl) c3_0
          · rintro h v hh3 ⟨c3_0, c3_1, c3_2⟩ hpost
            obtain ⟨kk3, rfl, w3_0⟩ := hpost
            have d3_0 : getCells hh3 pb0 v7.length = some (rows (v7 : List U8)) := w3_0
            have mm3_0 := len_rows w3_0
            simp only [zs] at mm3_0
            have d3_0l := keep_lt kk3 c3_1
            have kp3 : Keep [pb0] hh hh3 := keep_trans c3_2 kk3 (by intro b hb; first | (simp at hb; done) | (simp at hb ⊢; omega))
            by_cases hb8 : (decide (2 ≤ v4)) = true
            · rw [if_t hb8] at hp
              obtain ⟨v9, hv9, hp⟩ := bind_eq hp
              obtain ⟨v10, hv10, hp⟩ := bind_eq hp
              obtain ⟨v11, hv11, hp⟩ := bind_eq hp
              simp (disch := first | omega | (simp only [List.length_set, List.length_append, List.length_cons, List.length_nil, rows_len, zs]; first | done | omega)) only [ep_impl_runLen, ep_impl_zig, pf0, pg0, hv0, d0_0, d0_1, ftt1_0, ftt1_1, ftt1_2, ftt1_3, ftt1_4, ftt1_5, hb3, hv4, hv5, hv6, d2_0, hv7, d3_0, hb8, hv9, hv10, gs, reduceIte, reduceCtorEq, Nat.reduceAdd, Nat.reduceMul, Nat.reduceSub, Nat.reduceBEq, Nat.reduceEqDiff, Nat.reduceLeDiff, Nat.reduceLT, Nat.reduceGT, Int.reduceToNat, Int.reduceLT, Int.reduceLE, Int.reduceNeg, Int.reduceAdd, Int.reduceEq, Int.reduceNe]
              refine call_f (fun h => getCells h pb0 v7.length = some (rows (v7 : List U8)) ∧ pb0 < h.length ∧ Keep [pb0] hh h) (fun h v h2 => i_impl_appendInt pb0 v7.length h v11 v h2) ?_ ?_ ?_
              · simp (disch := first | omega | (simp only [List.length_set, List.length_append, List.length_cons, List.length_nil, rows_len, zs]; first | done | omega)) only [i_impl_appendRuns, ep_impl_runLen, ep_impl_zig, pf0, pg0, hv0, d0_0, d0_1, ftt1_0, ftt1_1, ftt1_2, ftt1_3, ftt1_4, ftt1_5, hb3, hv4, hv5, hv6, d2_0, hv7, d3_0, hb8, hv9, hv10, hv11, gs, reduceIte, reduceCtorEq, Nat.reduceAdd, Nat.reduceMul, Nat.reduceSub, Nat.reduceBEq, Nat.reduceEqDiff, Nat.reduceLeDiff, Nat.reduceLT, Nat.reduceGT, Int.reduceToNat, Int.reduceLT, Int.reduceLE, Int.reduceNeg, Int.reduceAdd, Int.reduceEq, Int.reduceNe] <;> (repeat (first | omega | assumption | rfl | exact keep_refl | refine keep_app ?_ | (refine keep_set (by first | (left; simp; done) | (right; simp; omega)) ?_) | refine And.intro ?_ ?_))
              · rintro h ⟨c4_0, c4_1, c4_2⟩
                exact e_impl_appendInt _ _ _ hv11 pb0 v7.length h (by first | omega | rfl) c4_0
              · rintro h v hh4 ⟨c4_0, c4_1, c4_2⟩ hpost
                obtain ⟨kk4, rfl, w4_0⟩ := hpost
                have d4_0 : getCells hh4 pb0 v11.length = some (rows (v11 : List U8)) := w4_0
                have mm4_0 := len_rows w4_0
                simp only [zs] at mm4_0
                have d4_0l := keep_lt kk4 c4_1
                have kp4 : Keep [pb0] hh hh4 := keep_trans c4_2 kk4 (by intro b hb; first | (simp at hb; done) | (simp at hb ⊢; omega))
                have hp := Option.some.inj hp
                subst hp
                simp (disch := first | omega | (simp only [List.length_set, List.length_append, List.length_cons, List.length_nil, rows_len, zs]; first | done | omega)) only [i_impl_appendRuns, ep_impl_runLen, ep_impl_zig, pf0, pg0, hv0, d0_0, d0_1, ftt1_0, ftt1_1, ftt1_2, ftt1_3, ftt1_4, ftt1_5, hb3, hv4, hv5, hv6, d2_0, hv7, d3_0, hb8, hv9, hv10, hv11, d4_0, gs, reduceIte, reduceCtorEq, Nat.reduceAdd, Nat.reduceMul, Nat.reduceSub, Nat.reduceBEq, Nat.reduceEqDiff, Nat.reduceLeDiff, Nat.reduceLT, Nat.reduceGT, Int.reduceToNat, Int.reduceLT, Int.reduceLE, Int.reduceNeg, Int.reduceAdd, Int.reduceEq, Int.reduceNe] <;> (repeat (first | omega | assumption | rfl | exact keep_refl | refine keep_app ?_ | (refine keep_set (by first | (left; simp; done) | (right; simp; omega)) ?_) | refine And.intro ?_ ?_))
            · replace hb8 := eq_false_of_ne_true hb8
              rw [if_f hb8] at hp
              have hp := Option.some.inj hp
              subst hp
              simp (disch := first | omega | (simp only [List.length_set, List.length_append, List.length_cons, List.length_nil, rows_len, zs]; first | done | omega)) only [i_impl_appendRuns, ep_impl_runLen, ep_impl_zig, pf0, pg0, hv0, d0_0, d0_1, ftt1_0, ftt1_1, ftt1_2, ftt1_3, ftt1_4, ftt1_5, hb3, hv4, hv5, hv6, d2_0, hv7, d3_0, hb8, gs, reduceIte, reduceCtorEq, Nat.reduceAdd, Nat.reduceMul, Nat.reduceSub, Nat.reduceBEq, Nat.reduceEqDiff, Nat.reduceLeDiff, Nat.reduceLT, Nat.reduceGT, Int.reduceToNat, Int.reduceLT, Int.reduceLE, Int.reduceNeg, Int.reduceAdd, Int.reduceEq, Int.reduceNe] <;> (repeat (first | omega | assumption | rfl | exact keep_refl | refine keep_app ?_ | (refine keep_set (by first | (left; simp; done) | (right; simp; omega)) ?_) | refine And.intro ?_ ?_))
      · replace hb3 := eq_false_of_ne_true hb3
        rw [if_f hb3] at hp
        have hp := Option.some.inj hp
        subst hp
        simp (disch := first | omega | (simp only [List.length_set, List.length_append, List.length_cons, List.length_nil, rows_len, zs]; first | done | omega)) only [i_impl_appendRuns, ep_impl_runLen, ep_impl_zig, pf0, pg0, hv0, d0_0, d0_1, ftt1_0, ftt1_1, ftt1_2, ftt1_3, ftt1_4, ftt1_5, hb3, gs, reduceIte, reduceCtorEq, Nat.reduceAdd, Nat.reduceMul, Nat.reduceSub, Nat.reduceBEq, Nat.reduceEqDiff, Nat.reduceLeDiff, Nat.reduceLT, Nat.reduceGT, Int.reduceToNat, Int.reduceLT, Int.reduceLE, Int.reduceNeg, Int.reduceAdd, Int.reduceEq, Int.reduceNe] <;> (repeat (first | omega | assumption | rfl | exact keep_refl | refine keep_app ?_ | (refine keep_set (by first | (left; simp; done) | (right; simp; omega)) ?_) | refine And.intro ?_ ?_))
    · simp (disch := first | omega | (simp only [List.length_set, List.length_append, List.length_cons, List.length_nil, rows_len, zs]; first | done | omega)) only [i_impl_appendRuns, ep_impl_runLen, ep_impl_zig, pf0, pg0, hv0, d0_0, d0_1, gs, reduceIte, reduceCtorEq, Nat.reduceAdd, Nat.reduceMul, Nat.reduceSub, Nat.reduceBEq, Nat.reduceEqDiff, Nat.reduceLeDiff, Nat.reduceLT, Nat.reduceGT, Int.reduceToNat, Int.reduceLT, Int.reduceLE, Int.reduceNeg, Int.reduceAdd, Int.reduceEq, Int.reduceNe] <;> (repeat (first | omega | assumption | rfl | exact keep_refl | refine keep_app ?_ | (refine keep_set (by first | (left; simp; done) | (right; simp; omega)) ?_) | refine And.intro ?_ ?_))
    · intro x tt5 hh5 hx
      rcases ee0 with ⟨o12, o13⟩ | r
      · obtain ⟨rfl, ftt5_0, ftt5_1, ftt5_2, ftt5_3, ftt5_4, ftt5_5⟩ := hx
        dsimp only at hp
        have hp := Option.some.inj hp
        subst hp
        simp (disch := first | omega | (simp only [List.length_set, List.length_append, List.length_cons, List.length_nil, rows_len, zs]; first | done | omega)) only [i_impl_appendRuns, ep_impl_runLen, ep_impl_zig, pf0, pg0, hv0, d0_0, d0_1, ftt5_0, ftt5_1, ftt5_2, ftt5_3, ftt5_4, ftt5_5, gs, reduceIte, reduceCtorEq, Nat.reduceAdd, Nat.reduceMul, Nat.reduceSub, Nat.reduceBEq, Nat.reduceEqDiff, Nat.reduceLeDiff, Nat.reduceLT, Nat.reduceGT, Int.reduceToNat, Int.reduceLT, Int.reduceLE, Int.reduceNeg, Int.reduceAdd, Int.reduceEq, Int.reduceNe] <;> (repeat (first | omega | assumption | rfl | exact keep_refl | refine keep_app ?_ | (refine keep_set (by first | (left; simp; done) | (right; simp; omega)) ?_) | refine And.intro ?_ ?_))
      · obtain ⟨rfl, hx⟩ := hx
        dsimp only at hp
        cases hp
        simp only [seqK_ret, blockK_ret, retK_RK (K := i_impl_appendRuns pb0 pn0 hh), hx, and_self, true_and]
theorem ko_impl_appendRuns {P : Program} {env : Env} {f_impl_appendInt : Nat} {f_impl_runLen : Nat} {f_impl_zig : Nat}  (ep_impl_runLen : env (2 * f_impl_runLen) = pureFn true (FA fun a : List Int × Int => p_impl_runLen a.1 a.2)) (ep_impl_zig : env (2 * f_impl_zig) = pureFn true (FA fun a : Int => p_impl_zig a)) (e_impl_appendInt : k_impl_appendInt (env (2 * f_impl_appendInt + 1))) : k_impl_appendRuns (runIn P env (c_impl_appendRuns f_impl_appendInt f_impl_runLen f_impl_zig)) := by
  intro x0 x1 b hp pb0 pn0 h a0 a1
  exact w_impl_appendRuns ep_impl_runLen ep_impl_zig e_impl_appendInt x0 x1 hp pb0 pn0 h a0 a1

noncomputable def p_impl_PutRuns_l0 (x0 : List Int) : Int → Option (Lp (Int) (T2 (List U8) Int))
  | s1 =>
    if (decide (s1 < (x0.length : Int))) = true then
      (get? x0 s1).bind fun v3 =>
      if (decide (v3 < 0)) = true then
        some (.ret ⟨[], 4⟩)
      else
        if (decide (1152921504606846975 < v3)) = true then
          some (.ret ⟨[], 4⟩)
        else
          some (.go (w64 (s1 + 1)))
    else
      some (.out s1)
noncomputable def p_impl_PutRuns (x0 : List Int) : Option (T2 (List U8) Int) :=
  if (decide (4096 < (x0.length : Int))) = true then
    some ⟨[], 2⟩
  else
    (loopP (p_impl_PutRuns_l0 x0) 0).bind fun ee0 => match ee0 with
    | .ret r => some r
    | .out o6 =>
      (p_impl_appendRuns ([]) x0).bind fun v7 =>
      some ⟨v7, 0⟩
def c_impl_PutRuns (f_impl_appendRuns : Nat) : AFn := ⟨24, (.seq (.ops [⟨(.some 2), (.vnil 1 false), .none, []⟩, ⟨(.some 3), (.mv (.const (.int .i64 0))), .none, []⟩]) (.seq (.seq (.ops [⟨(.some 6), (.mv (.tmp 0)), .none, []⟩, ⟨(.some 7), (.len (.tmp 6)), .none, []⟩, ⟨(.some 8), (.pu (.n (.ar .gtr)) [(.tmp 7), (.const (.int .i64 4096))]), .none, []⟩]) (.cond (.tmp 8) (.seq (.ops [⟨(.some 2), (.vnil 1 false), .none, []⟩, ⟨(.some 3), (.mv (.const (.int .i64 2))), .none, []⟩]) .ret) .skip)) (.seq (.seq (.ops [⟨(.some 9), (.mv (.tmp 0)), .none, []⟩, ⟨(.some 10), (.len (.tmp 9)), .none, []⟩, ⟨(.some 11), (.mv (.const (.int .i64 0))), .none, []⟩]) (.block 0 (.loop (.seq (.ops [⟨(.some 12), (.pu (.n (.ar .lss)) [(.tmp 11), (.tmp 10)]), .none, []⟩]) (.seq (.cond (.tmp 12) .skip (.exit 0)) (.seq (.block 1 (.seq (.ops [⟨(.some 13), (.idxS 1 (.tmp 9) (.tmp 11)), .none, []⟩, ⟨(.some 14), (.load 1 false (.tmp 13)), .none, []⟩, ⟨(.some 5), (.mv (.tmp 14)), .none, []⟩]) (.seq (.ops [⟨(.some 15), (.mv (.tmp 5)), .none, []⟩, ⟨(.some 16), (.pu (.n (.ar .lss)) [(.tmp 15), (.const (.int .i64 0))]), .none, []⟩, ⟨(.some 17), (.mv (.tmp 16)), .none, []⟩, ⟨(.some 18), (.mv (.tmp 5)), (.some (17, false)), []⟩, ⟨(.some 19), (.pu (.n (.ar .gtr)) [(.tmp 18), (.const (.int .i64 1152921504606846975))]), (.some (17, false)), []⟩, ⟨(.some 20), (.pick (.tmp 17) (.const (.bool true)) (.tmp 19)), .none, []⟩]) (.cond (.tmp 20) (.seq (.ops [⟨(.some 2), (.vnil 1 false), .none, []⟩, ⟨(.some 3), (.mv (.const (.int .i64 4))), .none, []⟩]) .ret) .skip)))) (.ops [⟨(.some 21), (.pu (.n (.ar .add)) [(.tmp 11), (.const (.int .i64 1))]), .none, []⟩, ⟨(.some 11), (.mv (.tmp 21)), .none, []⟩]))))))) (.seq (.ops [⟨(.some 22), (.mv (.tmp 0)), .none, []⟩, ⟨(.some 23), (.callV (2 * f_impl_appendRuns + 1) [(1, false), (1, false)] [(.const (.slice .none 0 0)), (.tmp 22)]), .none, []⟩, ⟨(.some 2), (.mv (.tmp 23)), .none, []⟩, ⟨(.some 3), (.mv (.const (.int .i64 0))), .none, []⟩]) .ret)))), [(.tmp 2), (.tmp 3)]⟩
def o_impl_PutRuns (b : T2 (List U8) Int) (v : V) (h : Heap) : Prop := ∃ n0 : Nat, v = .tup [.hsl n0 b.a.length 0 1 false b.a.length, .i (.s (.int .i64 b.b))] ∧ getCells h n0 b.a.length = some (rows b.a)
def oo_impl_PutRuns (b : T2 (List U8) Int) (h : Heap) (v : V) (h2 : Heap) : Prop := Keep [] h h2 ∧ ∃ n0 : Nat, v = .tup [.hsl n0 b.a.length 0 1 false b.a.length, .i (.s (.int .i64 b.b))] ∧ n0 < h2.length ∧ h.length ≤ n0 ∧ getCells h2 n0 b.a.length = some (rows b.a)
def k_impl_PutRuns (F : Fun) : Prop := ∀ (x0 : List Int) (b : T2 (List U8) Int), p_impl_PutRuns x0 = some b → ∀ (h : Heap) (args : List V), snapA 9 false h args = some (encA (x0)) → ∃ p, F none args h = some p ∧ oo_impl_PutRuns b h p.1 p.2
set_option maxHeartbeats 10000000 in
theorem w_impl_PutRuns {P : Program} {env : Env} {f_impl_appendRuns : Nat}  (e_impl_appendRuns : k_impl_appendRuns (env (2 * f_impl_appendRuns + 1))) (x0 : List Int) {b : T2 (List U8) Int} (hp : p_impl_PutRuns x0 = some b) : R P env (c_impl_PutRuns f_impl_appendRuns) ((encA (x0)).map ofI) [] (o_impl_PutRuns b) := by
  refine R_of (by simp [c_impl_PutRuns, encA]) ?_
  unfold c_impl_PutRuns
  unfold p_impl_PutRuns at hp
  by_cases hb0 : (decide (4096 < (x0.length : Int))) = true
  · rw [if_t hb0] at hp
    have hp := Option.some.inj hp
    subst hp
    simp (disch := first | omega | (simp only [List.length_set, List.length_append, List.length_cons, List.length_nil, rows_len, zs]; first | done | omega)) only [hb0, gs, reduceIte, reduceCtorEq, Nat.reduceAdd, Nat.reduceMul, Nat.reduceSub, Nat.reduceBEq, Nat.reduceEqDiff, Nat.reduceLeDiff, Nat.reduceLT, Nat.reduceGT, Int.reduceToNat, Int.reduceLT, Int.reduceLE, Int.reduceNeg, Int.reduceAdd, Int.reduceEq, Int.reduceNe]
    refine ⟨1, ?_⟩
    simp (disch := first | omega | (simp only [List.length_set, List.length_append, List.length_cons, List.length_nil, rows_len, zs]; first | done | omega)) only [hb0, o_impl_PutRuns, gs, reduceIte, reduceCtorEq, Nat.reduceAdd, Nat.reduceMul, Nat.reduceSub, Nat.reduceBEq, Nat.reduceEqDiff, Nat.reduceLeDiff, Nat.reduceLT, Nat.reduceGT, Int.reduceToNat, Int.reduceLT, Int.reduceLE, Int.reduceNeg, Int.reduceAdd, Int.reduceEq, Int.reduceNe] <;> omega
  · replace hb0 := eq_false_of_ne_true hb0
    rw [if_f hb0] at hp
    obtain ⟨ee0, hee0, hp⟩ := bind_eq hp
    simp (disch := first | omega | (simp only [List.length_set, List.length_append, List.length_cons, List.length_nil, rows_len, zs]; first | done | omega)) only [hb0, gs, reduceIte, reduceCtorEq, Nat.reduceAdd, Nat.reduceMul, Nat.reduceSub, Nat.reduceBEq, Nat.reduceEqDiff, Nat.reduceLeDiff, Nat.reduceLT, Nat.reduceGT, Int.reduceToNat, Int.reduceLT, Int.reduceLE, Int.reduceNeg, Int.reduceAdd, Int.reduceEq, Int.reduceNe]
    refine W_loopP 0 (fun s t h => match s with | s1 => t 0 = .i (.sl 1 (x0.map enc)) ∧ t 9 = .i (.sl 1 (x0.map enc)) ∧ t 10 = .i (.s (.int .i64 (x0.length : Int))) ∧ t 11 = .i (.s (.int .i64 s1))) (RK [.tmp 2, .tmp 3] (o_impl_PutRuns)) ?_ hee0 ?_ ?_
    · rintro s1 ee tt0 hh0 ⟨ftt0_0, ftt0_1, ftt0_2, ftt0_3⟩ hp
      rw [p_impl_PutRuns_l0] at hp
      by_cases hb2 : (decide (s1 < (x0.length : Int))) = true
      · rw [if_t hb2] at hp
        obtain ⟨v3, hv3, hp⟩ := bind_eq hp
        by_cases hb4 : (decide (v3 < 0)) = true
        · rw [if_t hb4] at hp
          have hp := Option.some.inj hp
          subst hp
          simp (disch := first | omega | (simp only [List.length_set, List.length_append, List.length_cons, List.length_nil, rows_len, zs]; first | done | omega)) only [hb0, ftt0_0, ftt0_1, ftt0_2, ftt0_3, hb2, hv3, hb4, gs, reduceIte, reduceCtorEq, Nat.reduceAdd, Nat.reduceMul, Nat.reduceSub, Nat.reduceBEq, Nat.reduceEqDiff, Nat.reduceLeDiff, Nat.reduceLT, Nat.reduceGT, Int.reduceToNat, Int.reduceLT, Int.reduceLE, Int.reduceNeg, Int.reduceAdd, Int.reduceEq, Int.reduceNe]
          refine ⟨hh0.length, ?_⟩
          simp (disch := first | omega | (simp only [List.length_set, List.length_append, List.length_cons, List.length_nil, rows_len, zs]; first | done | omega)) only [hb0, ftt0_0, ftt0_1, ftt0_2, ftt0_3, hb2, hv3, hb4, o_impl_PutRuns, gs, reduceIte, reduceCtorEq, Nat.reduceAdd, Nat.reduceMul, Nat.reduceSub, Nat.reduceBEq, Nat.reduceEqDiff, Nat.reduceLeDiff, Nat.reduceLT, Nat.reduceGT, Int.reduceToNat, Int.reduceLT, Int.reduceLE, Int.reduceNeg, Int.reduceAdd, Int.reduceEq, Int.reduceNe] <;> omega
        · replace hb4 := eq_false_of_ne_true hb4
          rw [if_f hb4] at hp
          by_cases hb5 : (decide (1152921504606846975 < v3)) = true
          · rw [if_t hb5] at hp
            have hp := Option.some.inj hp
            subst hp
            simp (disch := first | omega | (simp only [List.length_set, List.length_append, List.length_cons, List.length_nil, rows_len, zs]; first | done | omega)) only [hb0, ftt0_0, ftt0_1, ftt0_2, ftt0_3, hb2, hv3, hb4, hb5, gs, reduceIte, reduceCtorEq, Nat.reduceAdd, Nat.reduceMul, Nat.reduceSub, Nat.reduceBEq, Nat.reduceEqDiff, Nat.reduceLeDiff, Nat.reduceLT, Nat.reduceGT, Int.reduceToNat, Int.reduceLT, Int.reduceLE, Int.reduceNeg, Int.reduceAdd, Int.reduceEq, Int.reduceNe]
            refine ⟨hh0.length, ?_⟩
            simp (disch := first | omega | (simp only [List.length_set, List.length_append, List.length_cons, List.length_nil, rows_len, zs]; first | done | omega)) only [hb0, ftt0_0, ftt0_1, ftt0_2, ftt0_3, hb2, hv3, hb4, hb5, o_impl_PutRuns, gs, reduceIte, reduceCtorEq, Nat.reduceAdd, Nat.reduceMul, Nat.reduceSub, Nat.reduceBEq, Nat.reduceEqDiff, Nat.reduceLeDiff, Nat.reduceLT, Nat.reduceGT, Int.reduceToNat, Int.reduceLT, Int.reduceLE, Int.reduceNeg, Int.reduceAdd, Int.reduceEq, Int.reduceNe] <;> omega
          · replace hb5 := eq_false_of_ne_true hb5
            rw [if_f hb5] at hp
            have hp := Option.some.inj hp
            subst hp
            simp (disch := first | omega | (simp only [List.length_set, List.length_append, List.length_cons, List.length_nil, rows_len, zs]; first | done | omega)) only [hb0, ftt0_0, ftt0_1, ftt0_2, ftt0_3, hb2, hv3, hb4, hb5, gs, reduceIte, reduceCtorEq, Nat.reduceAdd, Nat.reduceMul, Nat.reduceSub, Nat.reduceBEq, Nat.reduceEqDiff, Nat.reduceLeDiff, Nat.reduceLT, Nat.reduceGT, Int.reduceToNat, Int.reduceLT, Int.reduceLE, Int.reduceNeg, Int.reduceAdd, Int.reduceEq, Int.reduceNe] <;> omega
      · replace hb2 := eq_false_of_ne_true hb2
        rw [if_f hb2] at hp
        have hp := Option.some.inj hp
        subst hp
        simp (disch := first | omega | (simp only [List.length_set, List.length_append, List.length_cons, List.length_nil, rows_len, zs]; first | done | omega)) only [hb0, ftt0_0, ftt0_1, ftt0_2, ftt0_3, hb2, gs, reduceIte, reduceCtorEq, Nat.reduceAdd, Nat.reduceMul, Nat.reduceSub, Nat.reduceBEq, Nat.reduceEqDiff, Nat.reduceLeDiff, Nat.reduceLT, Nat.reduceGT, Int.reduceToNat, Int.reduceLT, Int.reduceLE, Int.reduceNeg, Int.reduceAdd, Int.reduceEq, Int.reduceNe] <;> omega
    · simp (disch := first | omega | (simp only [List.length_set, List.length_append, List.length_cons, List.length_nil, rows_len, zs]; first | done | omega)) only [hb0, gs, reduceIte, reduceCtorEq, Nat.reduceAdd, Nat.reduceMul, Nat.reduceSub, Nat.reduceBEq, Nat.reduceEqDiff, Nat.reduceLeDiff, Nat.reduceLT, Nat.reduceGT, Int.reduceToNat, Int.reduceLT, Int.reduceLE, Int.reduceNeg, Int.reduceAdd, Int.reduceEq, Int.reduceNe] <;> omega
    · intro x tt1 hh1 hx
      rcases ee0 with o6 | r
      · obtain ⟨rfl, ftt1_0, ftt1_1, ftt1_2, ftt1_3⟩ := hx
        dsimp only at hp
        obtain ⟨v7, hv7, hp⟩ := bind_eq hp
        simp (disch := first | omega | (simp only [List.length_set, List.length_append, List.length_cons, List.length_nil, rows_len, zs]; first | done | omega)) only [hb0, ftt1_0, ftt1_1, ftt1_2, ftt1_3, gs, reduceIte, reduceCtorEq, Nat.reduceAdd, Nat.reduceMul, Nat.reduceSub, Nat.reduceBEq, Nat.reduceEqDiff, Nat.reduceLeDiff, Nat.reduceLT, Nat.reduceGT, Int.reduceToNat, Int.reduceLT, Int.reduceLE, Int.reduceNeg, Int.reduceAdd, Int.reduceEq, Int.reduceNe]
        refine call_f (fun h => getCells h hh1.length 0 = some [] ∧ hh1.length < h.length) (fun h v h2 => i_impl_appendRuns hh1.length 0 h v7 v h2) ?_ ?_ ?_
        · simp (disch := first | omega | (simp only [List.length_set, List.length_append, List.length_cons, List.length_nil, rows_len, zs]; first | done | omega)) only [hb0, ftt1_0, ftt1_1, ftt1_2, ftt1_3, hv7, gs, reduceIte, reduceCtorEq, Nat.reduceAdd, Nat.reduceMul, Nat.reduceSub, Nat.reduceBEq, Nat.reduceEqDiff, Nat.reduceLeDiff, Nat.reduceLT, Nat.reduceGT, Int.reduceToNat, Int.reduceLT, Int.reduceLE, Int.reduceNeg, Int.reduceAdd, Int.reduceEq, Int.reduceNe] <;> omega
        · rintro h ⟨c2_0, c2_1⟩
          exact e_impl_appendRuns _ _ _ hv7 hh1.length 0 h (by first | omega | rfl) c2_0
        · rintro h v hh2 ⟨c2_0, c2_1⟩ hpost
          obtain ⟨kk2, rfl, w2_0⟩ := hpost
          have d2_0 : getCells hh2 hh1.length v7.length = some (rows (v7 : List U8)) := w2_0
          have mm2_0 := len_rows w2_0
          simp only [zs] at mm2_0
          have d2_0l := keep_lt kk2 c2_1
          have hp := Option.some.inj hp
          subst hp
          simp (disch := first | omega | (simp only [List.length_set, List.length_append, List.length_cons, List.length_nil, rows_len, zs]; first | done | omega)) only [hb0, ftt1_0, ftt1_1, ftt1_2, ftt1_3, hv7, d2_0, gs, reduceIte, reduceCtorEq, Nat.reduceAdd, Nat.reduceMul, Nat.reduceSub, Nat.reduceBEq, Nat.reduceEqDiff, Nat.reduceLeDiff, Nat.reduceLT, Nat.reduceGT, Int.reduceToNat, Int.reduceLT, Int.reduceLE, Int.reduceNeg, Int.reduceAdd, Int.reduceEq, Int.reduceNe]
          refine ⟨hh1.length, ?_⟩
          simp (disch := first | omega | (simp only [List.length_set, List.length_append, List.length_cons, List.length_nil, rows_len, zs]; first | done | omega)) only [hb0, ftt1_0, ftt1_1, ftt1_2, ftt1_3, hv7, d2_0, o_impl_PutRuns, gs, reduceIte, reduceCtorEq, Nat.reduceAdd, Nat.reduceMul, Nat.reduceSub, Nat.reduceBEq, Nat.reduceEqDiff, Nat.reduceLeDiff, Nat.reduceLT, Nat.reduceGT, Int.reduceToNat, Int.reduceLT, Int.reduceLE, Int.reduceNeg, Int.reduceAdd, Int.reduceEq, Int.reduceNe] <;> omega
      · obtain ⟨rfl, hx⟩ := hx
        dsimp only at hp
        cases hp
        simp only [seqK_ret, blockK_ret, retK_RK (K := o_impl_PutRuns), hx, and_self, true_and]
theorem ko_impl_PutRuns {P : Program} {env : Env} {f_impl_appendRuns : Nat}  (e_impl_appendRuns : k_impl_appendRuns (env (2 * f_impl_appendRuns + 1))) : k_impl_PutRuns (ownFn P env (c_impl_PutRuns f_impl_appendRuns)) := by
  intro x0 b hp h args has
  obtain ⟨⟨v, H2⟩, hr, n0, rfl, wn0⟩ := w_impl_PutRuns e_impl_appendRuns x0 hp
  exact ⟨_, own_call has hr rfl, keep_moved, n0 + h.length, rfl, (moved_lt wn0).2, (moved_lt wn0).1, moved_rows wn0⟩

noncomputable def p_laws_eqByteS_l0 (x0 : List U8) (x1 : List U8) : Int → Option (Lp (Int) Bool)
  | s1 =>
    if (decide (s1 < (x0.length : Int))) = true then
      (get? x0 s1).bind fun v3 =>
      (get? x1 s1).bind fun v4 =>
      if (decide (v3.v = v4.v)) = true then
        some (.go (w64 (s1 + 1)))
      else
        some (.ret false)
    else
      some (.out s1)
noncomputable def p_laws_eqByteS (x0 : List U8) (x1 : List U8) : Option Bool :=
  if (decide ((x0.length : Int) = (x1.length : Int))) = true then
    (loopP (p_laws_eqByteS_l0 x0 x1) 0).bind fun ee0 => match ee0 with
    | .ret r => some r
    | .out o6 =>
      some true
  else
    some false
def c_laws_eqByteS : AFn := ⟨26, (.seq (.ops [⟨(.some 4), (.mv (.const (.bool false))), .none, []⟩]) (.seq (.seq (.ops [⟨(.some 6), (.mv (.tmp 0)), .none, []⟩, ⟨(.some 7), (.len (.tmp 6)), .none, []⟩, ⟨(.some 8), (.mv (.tmp 1)), .none, []⟩, ⟨(.some 9), (.len (.tmp 8)), .none, []⟩, ⟨(.some 10), (.pu (.n (.ar .neq)) [(.tmp 7), (.tmp 9)]), .none, []⟩]) (.cond (.tmp 10) (.seq (.ops [⟨(.some 4), (.mv (.const (.bool false))), .none, []⟩]) .ret) .skip)) (.seq (.seq (.ops [⟨(.some 5), (.mv (.const (.int .i64 0))), .none, []⟩]) (.block 0 (.loop (.seq (.seq (.ops [⟨(.some 11), (.mv (.tmp 5)), .none, []⟩, ⟨(.some 12), (.mv (.tmp 0)), .none, []⟩, ⟨(.some 13), (.len (.tmp 12)), .none, []⟩, ⟨(.some 14), (.pu (.n (.ar .lss)) [(.tmp 11), (.tmp 13)]), .none, []⟩]) (.cond (.tmp 14) .skip (.exit 0))) (.seq (.block 1 (.seq (.ops [⟨(.some 17), (.mv (.tmp 0)), .none, []⟩, ⟨(.some 18), (.mv (.tmp 5)), .none, []⟩, ⟨(.some 19), (.idxS 1 (.tmp 17) (.tmp 18)), .none, []⟩, ⟨(.some 20), (.load 1 false (.tmp 19)), .none, []⟩, ⟨(.some 21), (.mv (.tmp 1)), .none, []⟩, ⟨(.some 22), (.mv (.tmp 5)), .none, []⟩, ⟨(.some 23), (.idxS 1 (.tmp 21) (.tmp 22)), .none, []⟩, ⟨(.some 24), (.load 1 false (.tmp 23)), .none, []⟩, ⟨(.some 25), (.pu (.n (.ar .neq)) [(.tmp 20), (.tmp 24)]), .none, []⟩]) (.cond (.tmp 25) (.seq (.ops [⟨(.some 4), (.mv (.const (.bool false))), .none, []⟩]) .ret) .skip))) (.ops [⟨(.some 15), (.mv (.tmp 5)), .none, []⟩, ⟨(.some 16), (.pu (.n (.ar .add)) [(.tmp 15), (.const (.int .i64 1))]), .none, []⟩, ⟨(.some 5), (.mv (.tmp 16)), .none, []⟩])))))) (.seq (.ops [⟨(.some 4), (.mv (.const (.bool true))), .none, []⟩]) .ret)))), [(.tmp 4)]⟩
set_option maxHeartbeats 10000000 in
theorem d_laws_eqByteS {P : Program} {env : Env}  (x0 : List U8) (x1 : List U8) {b : Bool} (hp : p_laws_eqByteS x0 x1 = some b) : R P env (c_laws_eqByteS) ((encA (x0, x1)).map ofI) [] (Tells true b) := by
  refine R_of (by simp [c_laws_eqByteS, encA]) ?_
  unfold c_laws_eqByteS
  unfold p_laws_eqByteS at hp
  by_cases hb0 : (decide ((x0.length : Int) = (x1.length : Int))) = true
  · rw [if_t hb0] at hp
    obtain ⟨ee0, hee0, hp⟩ := bind_eq hp
    simp (disch := first | omega | (simp only [List.length_set, List.length_append, List.length_cons, List.length_nil, rows_len, zs]; first | done | omega)) only [hb0, gs, reduceIte, reduceCtorEq, Nat.reduceAdd, Nat.reduceMul, Nat.reduceSub, Nat.reduceBEq, Nat.reduceEqDiff, Nat.reduceLeDiff, Nat.reduceLT, Nat.reduceGT, Int.reduceToNat, Int.reduceLT, Int.reduceLE, Int.reduceNeg, Int.reduceAdd, Int.reduceEq, Int.reduceNe]
    refine W_loopP 0 (fun s t h => match s with | s1 => t 0 = .i (.sl 1 (x0.map enc)) ∧ t 1 = .i (.sl 1 (x1.map enc)) ∧ t 5 = .i (.s (.int .i64 s1))) (RK [.tmp 4] (Tells true)) ?_ hee0 ?_ ?_
    · rintro s1 ee tt0 hh0 ⟨ftt0_0, ftt0_1, ftt0_2⟩ hp
      rw [p_laws_eqByteS_l0] at hp
      by_cases hb2 : (decide (s1 < (x0.length : Int))) = true
      · rw [if_t hb2] at hp
        obtain ⟨v3, hv3, hp⟩ := bind_eq hp
        obtain ⟨v4, hv4, hp⟩ := bind_eq hp
        by_cases hb5 : (decide (v3.v = v4.v)) = true
        · rw [if_t hb5] at hp
          have hp := Option.some.inj hp
          subst hp
          simp (disch := first | omega | (simp only [List.length_set, List.length_append, List.length_cons, List.length_nil, rows_len, zs]; first | done | omega)) only [hb0, ftt0_0, ftt0_1, ftt0_2, hb2, hv3, hv4, hb5, gs, reduceIte, reduceCtorEq, Nat.reduceAdd, Nat.reduceMul, Nat.reduceSub, Nat.reduceBEq, Nat.reduceEqDiff, Nat.reduceLeDiff, Nat.reduceLT, Nat.reduceGT, Int.reduceToNat, Int.reduceLT, Int.reduceLE, Int.reduceNeg, Int.reduceAdd, Int.reduceEq, Int.reduceNe] <;> omega
        · replace hb5 := eq_false_of_ne_true hb5
          rw [if_f hb5] at hp
          have hp := Option.some.inj hp
          subst hp
          simp (disch := first | omega | (simp only [List.length_set, List.length_append, List.length_cons, List.length_nil, rows_len, zs]; first | done | omega)) only [hb0, ftt0_0, ftt0_1, ftt0_2, hb2, hv3, hv4, hb5, gs, reduceIte, reduceCtorEq, Nat.reduceAdd, Nat.reduceMul, Nat.reduceSub, Nat.reduceBEq, Nat.reduceEqDiff, Nat.reduceLeDiff, Nat.reduceLT, Nat.reduceGT, Int.reduceToNat, Int.reduceLT, Int.reduceLE, Int.reduceNeg, Int.reduceAdd, Int.reduceEq, Int.reduceNe]
      · replace hb2 := eq_false_of_ne_true hb2
        rw [if_f hb2] at hp
        have hp := Option.some.inj hp
        subst hp
        simp (disch := first | omega | (simp only [List.length_set, List.length_append, List.length_cons, List.length_nil, rows_len, zs]; first | done | omega)) only [hb0, ftt0_0, ftt0_1, ftt0_2, hb2, gs, reduceIte, reduceCtorEq, Nat.reduceAdd, Nat.reduceMul, Nat.reduceSub, Nat.reduceBEq, Nat.reduceEqDiff, Nat.reduceLeDiff, Nat.reduceLT, Nat.reduceGT, Int.reduceToNat, Int.reduceLT, Int.reduceLE, Int.reduceNeg, Int.reduceAdd, Int.reduceEq, Int.reduceNe] <;> omega
    · simp (disch := first | omega | (simp only [List.length_set, List.length_append, List.length_cons, List.length_nil, rows_len, zs]; first | done | omega)) only [hb0, gs, reduceIte, reduceCtorEq, Nat.reduceAdd, Nat.reduceMul, Nat.reduceSub, Nat.reduceBEq, Nat.reduceEqDiff, Nat.reduceLeDiff, Nat.reduceLT, Nat.reduceGT, Int.reduceToNat, Int.reduceLT, Int.reduceLE, Int.reduceNeg, Int.reduceAdd, Int.reduceEq, Int.reduceNe] <;> omega
    · intro x tt1 hh1 hx
      rcases ee0 with o6 | r
      · obtain ⟨rfl, ftt1_0, ftt1_1, ftt1_2⟩ := hx
        dsimp only at hp
        have hp := Option.some.inj hp
        subst hp
        simp (disch := first | omega | (simp only [List.length_set, List.length_append, List.length_cons, List.length_nil, rows_len, zs]; first | done | omega)) only [hb0, ftt1_0, ftt1_1, ftt1_2, gs, reduceIte, reduceCtorEq, Nat.reduceAdd, Nat.reduceMul, Nat.reduceSub, Nat.reduceBEq, Nat.reduceEqDiff, Nat.reduceLeDiff, Nat.reduceLT, Nat.reduceGT, Int.reduceToNat, Int.reduceLT, Int.reduceLE, Int.reduceNeg, Int.reduceAdd, Int.reduceEq, Int.reduceNe]
      · obtain ⟨rfl, hx⟩ := hx
        dsimp only at hp
        cases hp
        simp only [seqK_ret, blockK_ret, retK_RK (K := Tells true), hx, and_self, true_and]
  · replace hb0 := eq_false_of_ne_true hb0
    rw [if_f hb0] at hp
    have hp := Option.some.inj hp
    subst hp
    simp (disch := first | omega | (simp only [List.length_set, List.length_append, List.length_cons, List.length_nil, rows_len, zs]; first | done | omega)) only [hb0, gs, reduceIte, reduceCtorEq, Nat.reduceAdd, Nat.reduceMul, Nat.reduceSub, Nat.reduceBEq, Nat.reduceEqDiff, Nat.reduceLeDiff, Nat.reduceLT, Nat.reduceGT, Int.reduceToNat, Int.reduceLT, Int.reduceLE, Int.reduceNeg, Int.reduceAdd, Int.reduceEq, Int.reduceNe]

noncomputable def p_laws_eqIntS_l0 (x0 : List Int) (x1 : List Int) : Int → Option (Lp (Int) Bool)
  | s1 =>
    if (decide (s1 < (x0.length : Int))) = true then
      (get? x0 s1).bind fun v3 =>
      (get? x1 s1).bind fun v4 =>
      if (decide (v3 = v4)) = true then
        some (.go (w64 (s1 + 1)))
      else
        some (.ret false)
    else
      some (.out s1)
noncomputable def p_laws_eqIntS (x0 : List Int) (x1 : List Int) : Option Bool :=
  if (decide ((x0.length : Int) = (x1.length : Int))) = true then
    (loopP (p_laws_eqIntS_l0 x0 x1) 0).bind fun ee0 => match ee0 with
    | .ret r => some r
    | .out o6 =>
      some true
  else
    some false
def c_laws_eqIntS : AFn := ⟨26, (.seq (.ops [⟨(.some 4), (.mv (.const (.bool false))), .none, []⟩]) (.seq (.seq (.ops [⟨(.some 6), (.mv (.tmp 0)), .none, []⟩, ⟨(.some 7), (.len (.tmp 6)), .none, []⟩, ⟨(.some 8), (.mv (.tmp 1)), .none, []⟩, ⟨(.some 9), (.len (.tmp 8)), .none, []⟩, ⟨(.some 10), (.pu (.n (.ar .neq)) [(.tmp 7), (.tmp 9)]), .none, []⟩]) (.cond (.tmp 10) (.seq (.ops [⟨(.some 4), (.mv (.const (.bool false))), .none, []⟩]) .ret) .skip)) (.seq (.seq (.ops [⟨(.some 5), (.mv (.const (.int .i64 0))), .none, []⟩]) (.block 0 (.loop (.seq (.seq (.ops [⟨(.some 11), (.mv (.tmp 5)), .none, []⟩, ⟨(.some 12), (.mv (.tmp 0)), .none, []⟩, ⟨(.some 13), (.len (.tmp 12)), .none, []⟩, ⟨(.some 14), (.pu (.n (.ar .lss)) [(.tmp 11), (.tmp 13)]), .none, []⟩]) (.cond (.tmp 14) .skip (.exit 0))) (.seq (.block 1 (.seq (.ops [⟨(.some 17), (.mv (.tmp 0)), .none, []⟩, ⟨(.some 18), (.mv (.tmp 5)), .none, []⟩, ⟨(.some 19), (.idxS 1 (.tmp 17) (.tmp 18)), .none, []⟩, ⟨(.some 20), (.load 1 false (.tmp 19)), .none, []⟩, ⟨(.some 21), (.mv (.tmp 1)), .none, []⟩, ⟨(.some 22), (.mv (.tmp 5)), .none, []⟩, ⟨(.some 23), (.idxS 1 (.tmp 21) (.tmp 22)), .none, []⟩, ⟨(.some 24), (.load 1 false (.tmp 23)), .none, []⟩, ⟨(.some 25), (.pu (.n (.ar .neq)) [(.tmp 20), (.tmp 24)]), .none, []⟩]) (.cond (.tmp 25) (.seq (.ops [⟨(.some 4), (.mv (.const (.bool false))), .none, []⟩]) .ret) .skip))) (.ops [⟨(.some 15), (.mv (.tmp 5)), .none, []⟩, ⟨(.some 16), (.pu (.n (.ar .add)) [(.tmp 15), (.const (.int .i64 1))]), .none, []⟩, ⟨(.some 5), (.mv (.tmp 16)), .none, []⟩])))))) (.seq (.ops [⟨(.some 4), (.mv (.const (.bool true))), .none, []⟩]) .ret)))), [(.tmp 4)]⟩
set_option maxHeartbeats 10000000 in
theorem d_laws_eqIntS {P : Program} {env : Env}  (x0 : List Int) (x1 : List Int) {b : Bool} (hp : p_laws_eqIntS x0 x1 = some b) : R P env (c_laws_eqIntS) ((encA (x0, x1)).map ofI) [] (Tells true b) := by
  refine R_of (by simp [c_laws_eqIntS, encA]) ?_
  unfold c_laws_eqIntS
  unfold p_laws_eqIntS at hp
  by_cases hb0 : (decide ((x0.length : Int) = (x1.length : Int))) = true
  · rw [if_t hb0] at hp
    obtain ⟨ee0, hee0, hp⟩ := bind_eq hp
    simp (disch := first | omega | (simp only [List.length_set, List.length_append, List.length_cons, List.length_nil, rows_len, zs]; first | done | omega)) only [hb0, gs, reduceIte, reduceCtorEq, Nat.reduceAdd, Nat.reduceMul, Nat.reduceSub, Nat.reduceBEq, Nat.reduceEqDiff, Nat.reduceLeDiff, Nat.reduceLT, Nat.reduceGT, Int.reduceToNat, Int.reduceLT, Int.reduceLE, Int.reduceNeg, Int.reduceAdd, Int.reduceEq, Int.reduceNe]
    refine W_loopP 0 (fun s t h => match s with | s1 => t 0 = .i (.sl 1 (x0.map enc)) ∧ t 1 = .i (.sl 1 (x1.map enc)) ∧ t 5 = .i (.s (.int .i64 s1))) (RK [.tmp 4] (Tells true)) ?_ hee0 ?_ ?_
    · rintro s1 ee tt0 hh0 ⟨ftt0_0, ftt0_1, ftt0_2⟩ hp
      rw [p_laws_eqIntS_l0] at hp
      by_cases hb2 : (decide (s1 < (x0.length : Int))) = true
      · rw [if_t hb2] at hp
        obtain ⟨v3, hv3, hp⟩ := bind_eq hp
        obtain ⟨v4, hv4, hp⟩ := bind_eq hp
        by_cases hb5 : (decide (v3 = v4)) = true
        · rw [if_t hb5] at hp
          have hp := Option.some.inj hp
          subst hp
          simp (disch := first | omega | (simp only [List.length_set, List.length_append, List.length_cons, List.length_nil, rows_len, zs]; first | done | omega)) only [hb0, ftt0_0, ftt0_1, ftt0_2, hb2, hv3, hv4, hb5, gs, reduceIte, reduceCtorEq, Nat.reduceAdd, Nat.reduceMul, Nat.reduceSub, Nat.reduceBEq, Nat.reduceEqDiff, Nat.reduceLeDiff, Nat.reduceLT, Nat.reduceGT, Int.reduceToNat, Int.reduceLT, Int.reduceLE, Int.reduceNeg, Int.reduceAdd, Int.reduceEq, Int.reduceNe] <;> omega
        · replace hb5 := eq_false_of_ne_true hb5
          rw [if_f hb5] at hp
          have hp := Option.some.inj hp
          subst hp
          simp (disch := first | omega | (simp only [List.length_set, List.length_append, List.length_cons, List.length_nil, rows_len, zs]; first | done | omega)) only [hb0, ftt0_0, ftt0_1, ftt0_2, hb2, hv3, hv4, hb5, gs, reduceIte, reduceCtorEq, Nat.reduceAdd, Nat.reduceMul, Nat.reduceSub, Nat.reduceBEq, Nat.reduceEqDiff, Nat.reduceLeDiff, Nat.reduceLT, Nat.reduceGT, Int.reduceToNat, Int.reduceLT, Int.reduceLE, Int.reduceNeg, Int.reduceAdd, Int.reduceEq, Int.reduceNe]
      · replace hb2 := eq_false_of_ne_true hb2
        rw [if_f hb2] at hp
        have hp := Option.some.inj hp
        subst hp
        simp (disch := first | omega | (simp only [List.length_set, List.length_append, List.length_cons, List.length_nil, rows_len, zs]; first | done | omega)) only [hb0, ftt0_0, ftt0_1, ftt0_2, hb2, gs, reduceIte, reduceCtorEq, Nat.reduceAdd, Nat.reduceMul, Nat.reduceSub, Nat.reduceBEq, Nat.reduceEqDiff, Nat.reduceLeDiff, Nat.reduceLT, Nat.reduceGT, Int.reduceToNat, Int.reduceLT, Int.reduceLE, Int.reduceNeg, Int.reduceAdd, Int.reduceEq, Int.reduceNe] <;> omega
    · simp (disch := first | omega | (simp only [List.length_set, List.length_append, List.length_cons, List.length_nil, rows_len, zs]; first | done | omega)) only [hb0, gs, reduceIte, reduceCtorEq, Nat.reduceAdd, Nat.reduceMul, Nat.reduceSub, Nat.reduceBEq, Nat.reduceEqDiff, Nat.reduceLeDiff, Nat.reduceLT, Nat.reduceGT, Int.reduceToNat, Int.reduceLT, Int.reduceLE, Int.reduceNeg, Int.reduceAdd, Int.reduceEq, Int.reduceNe] <;> omega
    · intro x tt1 hh1 hx
      rcases ee0 with o6 | r
      · obtain ⟨rfl, ftt1_0, ftt1_1, ftt1_2⟩ := hx
        dsimp only at hp
        have hp := Option.some.inj hp
        subst hp
        simp (disch := first | omega | (simp only [List.length_set, List.length_append, List.length_cons, List.length_nil, rows_len, zs]; first | done | omega)) only [hb0, ftt1_0, ftt1_1, ftt1_2, gs, reduceIte, reduceCtorEq, Nat.reduceAdd, Nat.reduceMul, Nat.reduceSub, Nat.reduceBEq, Nat.reduceEqDiff, Nat.reduceLeDiff, Nat.reduceLT, Nat.reduceGT, Int.reduceToNat, Int.reduceLT, Int.reduceLE, Int.reduceNeg, Int.reduceAdd, Int.reduceEq, Int.reduceNe]
      · obtain ⟨rfl, hx⟩ := hx
        dsimp only at hp
        cases hp
        simp only [seqK_ret, blockK_ret, retK_RK (K := Tells true), hx, and_self, true_and]
  · replace hb0 := eq_false_of_ne_true hb0
    rw [if_f hb0] at hp
    have hp := Option.some.inj hp
    subst hp
    simp (disch := first | omega | (simp only [List.length_set, List.length_append, List.length_cons, List.length_nil, rows_len, zs]; first | done | omega)) only [hb0, gs, reduceIte, reduceCtorEq, Nat.reduceAdd, Nat.reduceMul, Nat.reduceSub, Nat.reduceBEq, Nat.reduceEqDiff, Nat.reduceLeDiff, Nat.reduceLT, Nat.reduceGT, Int.reduceToNat, Int.reduceLT, Int.reduceLE, Int.reduceNeg, Int.reduceAdd, Int.reduceEq, Int.reduceNe]

noncomputable def p_laws_markIntS_l0 : List Int × Int × Int → Option (Lp (List Int × Int × Int) (T2 Int (List Int)))
  | (s0, s1, s2) =>
    if (decide (s2 < (s0.length : Int))) = true then
      (get? s0 s2).bind fun v5 =>
      some (.go ((s0.set s2.toNat s1), w64 (s1 + 1), w64 (s2 + 1)))
    else
      some (.out (s0, s1, s2))
noncomputable def p_laws_markIntS (x0 : List Int) (x1 : Int) : Option (T2 Int (List Int)) :=
  (loopP (p_laws_markIntS_l0) (x0, x1, 0)).bind fun ee0 => match ee0 with
  | .ret r => some r
  | .out (o7, o8, o9) =>
    some ⟨o8, o7⟩
def c_laws_markIntS : AFn := ⟨19, (.seq (.ops [⟨(.some 4), (.mv (.const (.int .i64 0))), .none, []⟩]) (.seq (.seq (.ops [⟨(.some 5), (.mv (.const (.int .i64 0))), .none, []⟩]) (.block 0 (.loop (.seq (.seq (.ops [⟨(.some 6), (.mv (.tmp 5)), .none, []⟩, ⟨(.some 7), (.mv (.tmp 0)), .none, []⟩, ⟨(.some 8), (.len (.tmp 7)), .none, []⟩, ⟨(.some 9), (.pu (.n (.ar .lss)) [(.tmp 6), (.tmp 8)]), .none, []⟩]) (.cond (.tmp 9) .skip (.exit 0))) (.seq (.block 1 (.seq (.ops [⟨(.some 12), (.mv (.tmp 0)), .none, []⟩, ⟨(.some 13), (.mv (.tmp 5)), .none, []⟩, ⟨(.some 14), (.mv (.tmp 1)), .none, []⟩, ⟨(.some 15), (.idxS 1 (.tmp 12) (.tmp 13)), .none, []⟩, ⟨.none, (.storeV [(0, false)] 1 (.tmp 15) (.tmp 14)), .none, []⟩]) (.ops [⟨(.some 16), (.mv (.tmp 1)), .none, []⟩, ⟨(.some 17), (.pu (.n (.ar .add)) [(.tmp 16), (.const (.int .i64 1))]), .none, []⟩, ⟨(.some 1), (.mv (.tmp 17)), .none, []⟩]))) (.ops [⟨(.some 10), (.mv (.tmp 5)), .none, []⟩, ⟨(.some 11), (.pu (.n (.ar .add)) [(.tmp 10), (.const (.int .i64 1))]), .none, []⟩, ⟨(.some 5), (.mv (.tmp 11)), .none, []⟩])))))) (.seq (.ops [⟨(.some 18), (.mv (.tmp 1)), .none, []⟩, ⟨(.some 4), (.mv (.tmp 18)), .none, []⟩]) .ret))), [(.tmp 4)]⟩
def i_laws_markIntS (pb0 pn0 : Nat) (h : Heap) (b : T2 Int (List Int)) (v : V) (h2 : Heap) : Prop := Keep [pb0] h h2 ∧ v = .i (.s (.int .i64 b.a)) ∧ getCells h2 pb0 pn0 = some (rows b.b)
def k_laws_markIntS (F : Fun) : Prop := ∀ (x0 : List Int) (x1 : Int) (b : T2 Int (List Int)), p_laws_markIntS x0 x1 = some b → ∀ (pb0 pn0 : Nat) (h : Heap), pn0 = (x0).length → getCells h pb0 pn0 = some (rows x0) → ∃ p, F none [.hsl pb0 pn0 0 1 false pn0, .i (.s (.int .i64 x1))] h = some p ∧ i_laws_markIntS pb0 pn0 h b p.1 p.2
set_option maxHeartbeats 10000000 in
theorem w_laws_markIntS {P : Program} {env : Env}  (x0 : List Int) (x1 : Int) {b : T2 Int (List Int)} (hp : p_laws_markIntS x0 x1 = some b) (pb0 pn0 : Nat) (hh : Heap) (pm0 : pn0 = (x0).length) (pf0 : getCells hh pb0 pn0 = some (rows x0)) : R P env (c_laws_markIntS) [.hsl pb0 pn0 0 1 false pn0, .i (.s (.int .i64 x1))] hh (i_laws_markIntS pb0 pn0 hh b) := by
  have pl0 := gc_lt pf0
  have pg0 : getCells hh pb0 x0.length = some (rows x0) := by rw [← pm0]; exact pf0
  refine R_of (by simp [c_laws_markIntS, encA]) ?_
  unfold c_laws_markIntS
  unfold p_laws_markIntS at hp
  obtain ⟨ee0, hee0, hp⟩ := bind_eq hp
  simp (disch := first | omega | (simp only [List.length_set, List.length_append, List.length_cons, List.length_nil, rows_len, zs]; first | done | omega)) only [pf0, pg0, gs, reduceIte, reduceCtorEq, Nat.reduceAdd, Nat.reduceMul, Nat.reduceSub, Nat.reduceBEq, Nat.reduceEqDiff, Nat.reduceLeDiff, Nat.reduceLT, Nat.reduceGT, Int.reduceToNat, Int.reduceLT, Int.reduceLE, Int.reduceNeg, Int.reduceAdd, Int.reduceEq, Int.reduceNe]
  refine W_loopP 0 (fun s t h => match s with | (s0, s1, s2) => t 0 = .hsl pb0 pn0 0 1 false pn0 ∧ t 1 = .i (.s (.int .i64 s1)) ∧ t 5 = .i (.s (.int .i64 s2)) ∧ getCells h pb0 pn0 = some (rows (s0 : List Int)) ∧ pb0 < h.length ∧ Keep [pb0] hh h) (RK [.tmp 4] (i_laws_markIntS pb0 pn0 hh)) ?_ hee0 ?_ ?_
  · rintro ⟨s0, s1, s2⟩ ee tt0 hh0 ⟨ftt0_0, ftt0_1, ftt0_2, ftt0_3, ftt0_4, ftt0_5⟩ hp
    have ztt0_3 := len_rows ftt0_3
    simp only [zs] at ztt0_3
    rw [p_laws_markIntS_l0] at hp
    have hz3 : ((pn0 : Nat) : Int) = (s0.length : Int) := by omega
    by_cases hb4 : (decide (s2 < (s0.length : Int))) = true
    · rw [if_t hb4] at hp
      obtain ⟨v5, hv5, hp⟩ := bind_eq hp
      have gv5 := get_some hv5
      have hs6 : List.take s2.toNat (rows s0) ++ .i (.s (.int .i64 s1)) :: List.drop (s2.toNat + 1) (rows s0) = rows (s0.set s2.toNat s1) := by simpa [splice, zs, cellsV, I.cells, enc_int] using rows_set_off (y := s1) (ys := [.i (.s (.int .i64 s1))]) (k := 0) gv5.2.2 (Nat.le_of_ble_eq_true rfl) (by rfl)
      have hp := Option.some.inj hp
      subst hp
      simp (disch := first | omega | (simp only [List.length_set, List.length_append, List.length_cons, List.length_nil, rows_len, zs]; first | done | omega)) only [i_laws_markIntS, pf0, pg0, ftt0_0, ftt0_1, ftt0_2, ftt0_3, ftt0_4, ftt0_5, hz3, hb4, hv5, (gv5).1, (gv5).2.1, hs6, gs, reduceIte, reduceCtorEq, Nat.reduceAdd, Nat.reduceMul, Nat.reduceSub, Nat.reduceBEq, Nat.reduceEqDiff, Nat.reduceLeDiff, Nat.reduceLT, Nat.reduceGT, Int.reduceToNat, Int.reduceLT, Int.reduceLE, Int.reduceNeg, Int.reduceAdd, Int.reduceEq, Int.reduceNe] <;> (repeat (first | omega | assumption | rfl | exact keep_refl | refine keep_app ?_ | (refine keep_set (by first | (left; simp; done) | (right; simp; omega)) ?_) | refine And.intro ?_ ?_))
    · replace hb4 := eq_false_of_ne_true hb4
      rw [if_f hb4] at hp
      have hp := Option.some.inj hp
      subst hp
      simp (disch := first | omega | (simp only [List.length_set, List.length_append, List.length_cons, List.length_nil, rows_len, zs]; first | done | omega)) only [i_laws_markIntS, pf0, pg0, ftt0_0, ftt0_1, ftt0_2, ftt0_3, ftt0_4, ftt0_5, hz3, hb4, gs, reduceIte, reduceCtorEq, Nat.reduceAdd, Nat.reduceMul, Nat.reduceSub, Nat.reduceBEq, Nat.reduceEqDiff, Nat.reduceLeDiff, Nat.reduceLT, Nat.reduceGT, Int.reduceToNat, Int.reduceLT, Int.reduceLE, Int.reduceNeg, Int.reduceAdd, Int.reduceEq, Int.reduceNe] <;> (repeat (first | omega | assumption | rfl | exact keep_refl | refine keep_app ?_ | (refine keep_set (by first | (left; simp; done) | (right; simp; omega)) ?_) | refine And.intro ?_ ?_))
  · simp (disch := first | omega | (simp only [List.length_set, List.length_append, List.length_cons, List.length_nil, rows_len, zs]; first | done | omega)) only [i_laws_markIntS, pf0, pg0, gs, reduceIte, reduceCtorEq, Nat.reduceAdd, Nat.reduceMul, Nat.reduceSub, Nat.reduceBEq, Nat.reduceEqDiff, Nat.reduceLeDiff, Nat.reduceLT, Nat.reduceGT, Int.reduceToNat, Int.reduceLT, Int.reduceLE, Int.reduceNeg, Int.reduceAdd, Int.reduceEq, Int.reduceNe] <;> (repeat (first | omega | assumption | rfl | exact keep_refl | refine keep_app ?_ | (refine keep_set (by first | (left; simp; done) | (right; simp; omega)) ?_) | refine And.intro ?_ ?_))
  · intro x tt1 hh1 hx
    rcases ee0 with ⟨o7, o8, o9⟩ | r
    · obtain ⟨rfl, ftt1_0, ftt1_1, ftt1_2, ftt1_3, ftt1_4, ftt1_5⟩ := hx
      have ztt1_3 := len_rows ftt1_3
      simp only [zs] at ztt1_3
      dsimp only at hp
      have hp := Option.some.inj hp
      subst hp
      simp (disch := first | omega | (simp only [List.length_set, List.length_append, List.length_cons, List.length_nil, rows_len, zs]; first | done | omega)) only [i_laws_markIntS, pf0, pg0, ftt1_0, ftt1_1, ftt1_2, ftt1_3, ftt1_4, ftt1_5, gs, reduceIte, reduceCtorEq, Nat.reduceAdd, Nat.reduceMul, Nat.reduceSub, Nat.reduceBEq, Nat.reduceEqDiff, Nat.reduceLeDiff, Nat.reduceLT, Nat.reduceGT, Int.reduceToNat, Int.reduceLT, Int.reduceLE, Int.reduceNeg, Int.reduceAdd, Int.reduceEq, Int.reduceNe] <;> (repeat (first | omega | assumption | rfl | exact keep_refl | refine keep_app ?_ | (refine keep_set (by first | (left; simp; done) | (right; simp; omega)) ?_) | refine And.intro ?_ ?_))
    · obtain ⟨rfl, hx⟩ := hx
      dsimp only at hp
      cases hp
      simp only [seqK_ret, blockK_ret, retK_RK (K := i_laws_markIntS pb0 pn0 hh), hx, and_self, true_and]
theorem ko_laws_markIntS {P : Program} {env : Env}  : k_laws_markIntS (runIn P env (c_laws_markIntS)) := by
  intro x0 x1 b hp pb0 pn0 h a0 a1
  exact w_laws_markIntS x0 x1 hp pb0 pn0 h a0 a1

noncomputable def p_laws_markByteS_l0 : List U8 × Int × Int → Option (Lp (List U8 × Int × Int) (T2 Int (List U8)))
  | (s0, s1, s2) =>
    if (decide (s2 < (s0.length : Int))) = true then
      (get? s0 s2).bind fun v5 =>
      some (.go ((s0.set s2.toNat (U8.mk (IntKind.wrap .u8 s1))), w64 (s1 + 1), w64 (s2 + 1)))
    else
      some (.out (s0, s1, s2))
noncomputable def p_laws_markByteS (x0 : List U8) (x1 : Int) : Option (T2 Int (List U8)) :=
  (loopP (p_laws_markByteS_l0) (x0, x1, 0)).bind fun ee0 => match ee0 with
  | .ret r => some r
  | .out (o7, o8, o9) =>
    some ⟨o8, o7⟩
def c_laws_markByteS : AFn := ⟨20, (.seq (.ops [⟨(.some 4), (.mv (.const (.int .i64 0))), .none, []⟩]) (.seq (.seq (.ops [⟨(.some 5), (.mv (.const (.int .i64 0))), .none, []⟩]) (.block 0 (.loop (.seq (.seq (.ops [⟨(.some 6), (.mv (.tmp 5)), .none, []⟩, ⟨(.some 7), (.mv (.tmp 0)), .none, []⟩, ⟨(.some 8), (.len (.tmp 7)), .none, []⟩, ⟨(.some 9), (.pu (.n (.ar .lss)) [(.tmp 6), (.tmp 8)]), .none, []⟩]) (.cond (.tmp 9) .skip (.exit 0))) (.seq (.block 1 (.seq (.ops [⟨(.some 12), (.mv (.tmp 0)), .none, []⟩, ⟨(.some 13), (.mv (.tmp 5)), .none, []⟩, ⟨(.some 14), (.mv (.tmp 1)), .none, []⟩, ⟨(.some 15), (.pu (.n (.conv .u8)) [(.tmp 14)]), .none, []⟩, ⟨(.some 16), (.idxS 1 (.tmp 12) (.tmp 13)), .none, []⟩, ⟨.none, (.storeV [(0, false)] 1 (.tmp 16) (.tmp 15)), .none, []⟩]) (.ops [⟨(.some 17), (.mv (.tmp 1)), .none, []⟩, ⟨(.some 18), (.pu (.n (.ar .add)) [(.tmp 17), (.const (.int .i64 1))]), .none, []⟩, ⟨(.some 1), (.mv (.tmp 18)), .none, []⟩]))) (.ops [⟨(.some 10), (.mv (.tmp 5)), .none, []⟩, ⟨(.some 11), (.pu (.n (.ar .add)) [(.tmp 10), (.const (.int .i64 1))]), .none, []⟩, ⟨(.some 5), (.mv (.tmp 11)), .none, []⟩])))))) (.seq (.ops [⟨(.some 19), (.mv (.tmp 1)), .none, []⟩, ⟨(.some 4), (.mv (.tmp 19)), .none, []⟩]) .ret))), [(.tmp 4)]⟩
def i_laws_markByteS (pb0 pn0 : Nat) (h : Heap) (b : T2 Int (List U8)) (v : V) (h2 : Heap) : Prop := Keep [pb0] h h2 ∧ v = .i (.s (.int .i64 b.a)) ∧ getCells h2 pb0 pn0 = some (rows b.b)
def k_laws_markByteS (F : Fun) : Prop := ∀ (x0 : List U8) (x1 : Int) (b : T2 Int (List U8)), p_laws_markByteS x0 x1 = some b → ∀ (pb0 pn0 : Nat) (h : Heap), pn0 = (x0).length → getCells h pb0 pn0 = some (rows x0) → ∃ p, F none [.hsl pb0 pn0 0 1 false pn0, .i (.s (.int .i64 x1))] h = some p ∧ i_laws_markByteS pb0 pn0 h b p.1 p.2
set_option maxHeartbeats 10000000 in
theorem w_laws_markByteS {P : Program} {env : Env}  (x0 : List U8) (x1 : Int) {b : T2 Int (List U8)} (hp : p_laws_markByteS x0 x1 = some b) (pb0 pn0 : Nat) (hh : Heap) (pm0 : pn0 = (x0).length) (pf0 : getCells hh pb0 pn0 = some (rows x0)) : R P env (c_laws_markByteS) [.hsl pb0 pn0 0 1 false pn0, .i (.s (.int .i64 x1))] hh (i_laws_markByteS pb0 pn0 hh b) := by
  have pl0 := gc_lt pf0
  have pg0 : getCells hh pb0 x0.length = some (rows x0) := by rw [← pm0]; exact pf0
  refine R_of (by simp [c_laws_markByteS, encA]) ?_
  unfold c_laws_markByteS
  unfold p_laws_markByteS at hp
  obtain ⟨ee0, hee0, hp⟩ := bind_eq hp
  simp (disch := first | omega | (simp only [List.length_set, List.length_append, List.length_cons, List.length_nil, rows_len, zs]; first | done | omega)) only [pf0, pg0, gs, reduceIte, reduceCtorEq, Nat.reduceAdd, Nat.reduceMul, Nat.reduceSub, Nat.reduceBEq, Nat.reduceEqDiff, Nat.reduceLeDiff, Nat.reduceLT, Nat.reduceGT, Int.reduceToNat, Int.reduceLT, Int.reduceLE, Int.reduceNeg, Int.reduceAdd, Int.reduceEq, Int.reduceNe]
  refine W_loopP 0 (fun s t h => match s with | (s0, s1, s2) => t 0 = .hsl pb0 pn0 0 1 false pn0 ∧ t 1 = .i (.s (.int .i64 s1)) ∧ t 5 = .i (.s (.int .i64 s2)) ∧ getCells h pb0 pn0 = some (rows (s0 : List U8)) ∧ pb0 < h.length ∧ Keep [pb0] hh h) (RK [.tmp 4] (i_laws_markByteS pb0 pn0 hh)) ?_ hee0 ?_ ?_
  · rintro ⟨s0, s1, s2⟩ ee tt0 hh0 ⟨ftt0_0, ftt0_1, ftt0_2, ftt0_3, ftt0_4, ftt0_5⟩ hp
    have ztt0_3 := len_rows ftt0_3
    simp only [zs] at ztt0_3
    rw [p_laws_markByteS_l0] at hp
    have hz3 : ((pn0 : Nat) : Int) = (s0.length : Int) := by omega
    by_cases hb4 : (decide (s2 < (s0.length : Int))) = true
    · rw [if_t hb4] at hp
      obtain ⟨v5, hv5, hp⟩ := bind_eq hp
      have gv5 := get_some hv5
      have hs6 : List.take s2.toNat (rows s0) ++ .i (.s (.int .u8 (IntKind.wrap .u8 s1))) :: List.drop (s2.toNat + 1) (rows s0) = rows (s0.set s2.toNat (U8.mk (IntKind.wrap .u8 s1))) := by simpa [splice, zs, cellsV, I.cells, enc_u8] using rows_set_off (y := (U8.mk (IntKind.wrap .u8 s1))) (ys := [.i (.s (.int .u8 (IntKind.wrap .u8 s1)))]) (k := 0) gv5.2.2 (Nat.le_of_ble_eq_true rfl) (by rfl)
      have hp := Option.some.inj hp
      subst hp
      simp (disch := first | omega | (simp only [List.length_set, List.length_append, List.length_cons, List.length_nil, rows_len, zs]; first | done | omega)) only [i_laws_markByteS, pf0, pg0, ftt0_0, ftt0_1, ftt0_2, ftt0_3, ftt0_4, ftt0_5, hz3, hb4, hv5, (gv5).1, (gv5).2.1, hs6, gs, reduceIte, reduceCtorEq, Nat.reduceAdd, Nat.reduceMul, Nat.reduceSub, Nat.reduceBEq, Nat.reduceEqDiff, Nat.reduceLeDiff, Nat.reduceLT, Nat.reduceGT, Int.reduceToNat, Int.reduceLT, Int.reduceLE, Int.reduceNeg, Int.reduceAdd, Int.reduceEq, Int.reduceNe] <;> (repeat (first | omega | assumption | rfl | exact keep_refl | refine keep_app ?_ | (refine keep_set (by first | (left; simp; done) | (right; simp; omega)) ?_) | refine And.intro ?_ ?_))
    · replace hb4 := eq_false_of_ne_true hb4
      rw [if_f hb4] at hp
      have hp := Option.some.inj hp
      subst hp
      simp (disch := first | omega | (simp only [List.length_set, List.length_append, List.length_cons, List.length_nil, rows_len, zs]; first | done | omega)) only [i_laws_markByteS, pf0, pg0, ftt0_0, ftt0_1, ftt0_2, ftt0_3, ftt0_4, ftt0_5, hz3, hb4, gs, reduceIte, reduceCtorEq, Nat.reduceAdd, Nat.reduceMul, Nat.reduceSub, Nat.reduceBEq, Nat.reduceEqDiff, Nat.reduceLeDiff, Nat.reduceLT, Nat.reduceGT, Int.reduceToNat, Int.reduceLT, Int.reduceLE, Int.reduceNeg, Int.reduceAdd, Int.reduceEq, Int.reduceNe] <;> (repeat (first | omega | assumption | rfl | exact keep_refl | refine keep_app ?_ | (refine keep_set (by first | (left; simp; done) | (right; simp; omega)) ?_) | refine And.intro ?_ ?_))
  · simp (disch := first | omega | (simp only [List.length_set, List.length_append, List.length_cons, List.length_nil, rows_len, zs]; first | done | omega)) only [i_laws_markByteS, pf0, pg0, gs, reduceIte, reduceCtorEq, Nat.reduceAdd, Nat.reduceMul, Nat.reduceSub, Nat.reduceBEq, Nat.reduceEqDiff, Nat.reduceLeDiff, Nat.reduceLT, Nat.reduceGT, Int.reduceToNat, Int.reduceLT, Int.reduceLE, Int.reduceNeg, Int.reduceAdd, Int.reduceEq, Int.reduceNe] <;> (repeat (first | omega | assumption | rfl | exact keep_refl | refine keep_app ?_ | (refine keep_set (by first | (left; simp; done) | (right; simp; omega)) ?_) | refine And.intro ?_ ?_))
  · intro x tt1 hh1 hx
    rcases ee0 with ⟨o7, o8, o9⟩ | r
    · obtain ⟨rfl, ftt1_0, ftt1_1, ftt1_2, ftt1_3, ftt1_4, ftt1_5⟩ := hx
      have ztt1_3 := len_rows ftt1_3
      simp only [zs] at ztt1_3
      dsimp only at hp
      have hp := Option.some.inj hp
      subst hp
      simp (disch := first | omega | (simp only [List.length_set, List.length_append, List.length_cons, List.length_nil, rows_len, zs]; first | done | omega)) only [i_laws_markByteS, pf0, pg0, ftt1_0, ftt1_1, ftt1_2, ftt1_3, ftt1_4, ftt1_5, gs, reduceIte, reduceCtorEq, Nat.reduceAdd, Nat.reduceMul, Nat.reduceSub, Nat.reduceBEq, Nat.reduceEqDiff, Nat.reduceLeDiff, Nat.reduceLT, Nat.reduceGT, Int.reduceToNat, Int.reduceLT, Int.reduceLE, Int.reduceNeg, Int.reduceAdd, Int.reduceEq, Int.reduceNe] <;> (repeat (first | omega | assumption | rfl | exact keep_refl | refine keep_app ?_ | (refine keep_set (by first | (left; simp; done) | (right; simp; omega)) ?_) | refine And.intro ?_ ?_))
    · obtain ⟨rfl, hx⟩ := hx
      dsimp only at hp
      cases hp
      simp only [seqK_ret, blockK_ret, retK_RK (K := i_laws_markByteS pb0 pn0 hh), hx, and_self, true_and]
theorem ko_laws_markByteS {P : Program} {env : Env}  : k_laws_markByteS (runIn P env (c_laws_markByteS)) := by
  intro x0 x1 b hp pb0 pn0 h a0 a1
  exact w_laws_markByteS x0 x1 hp pb0 pn0 h a0 a1

noncomputable def p_laws_heldByteS_l0 (x0 : List U8) : Int × Int → Option (Lp (Int × Int) Int)
  | (s0, s1) =>
    if (decide (s1 < (x0.length : Int))) = true then
      (get? x0 s1).bind fun v3 =>
      if (decide (v3.v = IntKind.wrap .u8 s0)) = true then
        some (.go (w64 (s0 + 1), w64 (s1 + 1)))
      else
        some (.ret (-1))
    else
      some (.out (s0, s1))
noncomputable def p_laws_heldByteS (x0 : List U8) (x1 : Int) : Option Int :=
  (loopP (p_laws_heldByteS_l0 x0) (x1, 0)).bind fun ee0 => match ee0 with
  | .ret r => some r
  | .out (o5, o6) =>
    some o5
def c_laws_heldByteS : AFn := ⟨22, (.seq (.ops [⟨(.some 4), (.mv (.const (.int .i64 0))), .none, []⟩]) (.seq (.seq (.ops [⟨(.some 5), (.mv (.const (.int .i64 0))), .none, []⟩]) (.block 0 (.loop (.seq (.seq (.ops [⟨(.some 6), (.mv (.tmp 5)), .none, []⟩, ⟨(.some 7), (.mv (.tmp 0)), .none, []⟩, ⟨(.some 8), (.len (.tmp 7)), .none, []⟩, ⟨(.some 9), (.pu (.n (.ar .lss)) [(.tmp 6), (.tmp 8)]), .none, []⟩]) (.cond (.tmp 9) .skip (.exit 0))) (.seq (.block 1 (.seq (.seq (.ops [⟨(.some 12), (.mv (.tmp 0)), .none, []⟩, ⟨(.some 13), (.mv (.tmp 5)), .none, []⟩, ⟨(.some 14), (.idxS 1 (.tmp 12) (.tmp 13)), .none, []⟩, ⟨(.some 15), (.load 1 false (.tmp 14)), .none, []⟩, ⟨(.some 16), (.mv (.tmp 1)), .none, []⟩, ⟨(.some 17), (.pu (.n (.conv .u8)) [(.tmp 16)]), .none, []⟩, ⟨(.some 18), (.pu (.n (.ar .neq)) [(.tmp 15), (.tmp 17)]), .none, []⟩]) (.cond (.tmp 18) (.seq (.ops [⟨(.some 4), (.mv (.const (.int .i64 (-1)))), .none, []⟩]) .ret) .skip)) (.ops [⟨(.some 19), (.mv (.tmp 1)), .none, []⟩, ⟨(.some 20), (.pu (.n (.ar .add)) [(.tmp 19), (.const (.int .i64 1))]), .none, []⟩, ⟨(.some 1), (.mv (.tmp 20)), .none, []⟩]))) (.ops [⟨(.some 10), (.mv (.tmp 5)), .none, []⟩, ⟨(.some 11), (.pu (.n (.ar .add)) [(.tmp 10), (.const (.int .i64 1))]), .none, []⟩, ⟨(.some 5), (.mv (.tmp 11)), .none, []⟩])))))) (.seq (.ops [⟨(.some 21), (.mv (.tmp 1)), .none, []⟩, ⟨(.some 4), (.mv (.tmp 21)), .none, []⟩]) .ret))), [(.tmp 4)]⟩
set_option maxHeartbeats 10000000 in
theorem d_laws_heldByteS {P : Program} {env : Env}  (x0 : List U8) (x1 : Int) {b : Int} (hp : p_laws_heldByteS x0 x1 = some b) : R P env (c_laws_heldByteS) ((encA (x0, x1)).map ofI) [] (Tells true b) := by
  refine R_of (by simp [c_laws_heldByteS, encA]) ?_
  unfold c_laws_heldByteS
  unfold p_laws_heldByteS at hp
  obtain ⟨ee0, hee0, hp⟩ := bind_eq hp
  simp (disch := first | omega | (simp only [List.length_set, List.length_append, List.length_cons, List.length_nil, rows_len, zs]; first | done | omega)) only [gs, reduceIte, reduceCtorEq, Nat.reduceAdd, Nat.reduceMul, Nat.reduceSub, Nat.reduceBEq, Nat.reduceEqDiff, Nat.reduceLeDiff, Nat.reduceLT, Nat.reduceGT, Int.reduceToNat, Int.reduceLT, Int.reduceLE, Int.reduceNeg, Int.reduceAdd, Int.reduceEq, Int.reduceNe]
  refine W_loopP 0 (fun s t h => match s with | (s0, s1) => t 0 = .i (.sl 1 (x0.map enc)) ∧ t 1 = .i (.s (.int .i64 s0)) ∧ t 5 = .i (.s (.int .i64 s1))) (RK [.tmp 4] (Tells true)) ?_ hee0 ?_ ?_
  · rintro ⟨s0, s1⟩ ee tt0 hh0 ⟨ftt0_0, ftt0_1, ftt0_2⟩ hp
    rw [p_laws_heldByteS_l0] at hp
    by_cases hb2 : (decide (s1 < (x0.length : Int))) = true
    · rw [if_t hb2] at hp
      obtain ⟨v3, hv3, hp⟩ := bind_eq hp
      by_cases hb4 : (decide (v3.v = IntKind.wrap .u8 s0)) = true
      · rw [if_t hb4] at hp
        have hp := Option.some.inj hp
        subst hp
        simp (disch := first | omega | (simp only [List.length_set, List.length_append, List.length_cons, List.length_nil, rows_len, zs]; first | done | omega)) only [ftt0_0, ftt0_1, ftt0_2, hb2, hv3, hb4, gs, reduceIte, reduceCtorEq, Nat.reduceAdd, Nat.reduceMul, Nat.reduceSub, Nat.reduceBEq, Nat.reduceEqDiff, Nat.reduceLeDiff, Nat.reduceLT, Nat.reduceGT, Int.reduceToNat, Int.reduceLT, Int.reduceLE, Int.reduceNeg, Int.reduceAdd, Int.reduceEq, Int.reduceNe] <;> omega
      · replace hb4 := eq_false_of_ne_true hb4
        rw [if_f hb4] at hp
        have hp := Option.some.inj hp
        subst hp
        simp (disch := first | omega | (simp only [List.length_set, List.length_append, List.length_cons, List.length_nil, rows_len, zs]; first | done | omega)) only [ftt0_0, ftt0_1, ftt0_2, hb2, hv3, hb4, gs, reduceIte, reduceCtorEq, Nat.reduceAdd, Nat.reduceMul, Nat.reduceSub, Nat.reduceBEq, Nat.reduceEqDiff, Nat.reduceLeDiff, Nat.reduceLT, Nat.reduceGT, Int.reduceToNat, Int.reduceLT, Int.reduceLE, Int.reduceNeg, Int.reduceAdd, Int.reduceEq, Int.reduceNe]
    · replace hb2 := eq_false_of_ne_true hb2
      rw [if_f hb2] at hp
      have hp := Option.some.inj hp
      subst hp
      simp (disch := first | omega | (simp only [List.length_set, List.length_append, List.length_cons, List.length_nil, rows_len, zs]; first | done | omega)) only [ftt0_0, ftt0_1, ftt0_2, hb2, gs, reduceIte, reduceCtorEq, Nat.reduceAdd, Nat.reduceMul, Nat.reduceSub, Nat.reduceBEq, Nat.reduceEqDiff, Nat.reduceLeDiff, Nat.reduceLT, Nat.reduceGT, Int.reduceToNat, Int.reduceLT, Int.reduceLE, Int.reduceNeg, Int.reduceAdd, Int.reduceEq, Int.reduceNe] <;> omega
  · simp (disch := first | omega | (simp only [List.length_set, List.length_append, List.length_cons, List.length_nil, rows_len, zs]; first | done | omega)) only [gs, reduceIte, reduceCtorEq, Nat.reduceAdd, Nat.reduceMul, Nat.reduceSub, Nat.reduceBEq, Nat.reduceEqDiff, Nat.reduceLeDiff, Nat.reduceLT, Nat.reduceGT, Int.reduceToNat, Int.reduceLT, Int.reduceLE, Int.reduceNeg, Int.reduceAdd, Int.reduceEq, Int.reduceNe] <;> omega
  · intro x tt1 hh1 hx
    rcases ee0 with ⟨o5, o6⟩ | r
    · obtain ⟨rfl, ftt1_0, ftt1_1, ftt1_2⟩ := hx
      dsimp only at hp
      have hp := Option.some.inj hp
      subst hp
      simp (disch := first | omega | (simp only [List.length_set, List.length_append, List.length_cons, List.length_nil, rows_len, zs]; first | done | omega)) only [ftt1_0, ftt1_1, ftt1_2, gs, reduceIte, reduceCtorEq, Nat.reduceAdd, Nat.reduceMul, Nat.reduceSub, Nat.reduceBEq, Nat.reduceEqDiff, Nat.reduceLeDiff, Nat.reduceLT, Nat.reduceGT, Int.reduceToNat, Int.reduceLT, Int.reduceLE, Int.reduceNeg, Int.reduceAdd, Int.reduceEq, Int.reduceNe]
    · obtain ⟨rfl, hx⟩ := hx
      dsimp only at hp
      cases hp
      simp only [seqK_ret, blockK_ret, retK_RK (K := Tells true), hx, and_self, true_and]

noncomputable def p_laws_FnExactPutRuns (x0 : List Int) : Option Bool :=
  if (decide (1048576 < (x0.length : Int))) = true then
    some true
  else
    (p_laws_toIntS x0).bind fun v1 =>
    (p_spec_PutRuns v1).bind fun v2 =>
    (p_impl_PutRuns v1).bind fun v3 =>
    (p_laws_eqByteS v3.a v2.a).bind fun v4 =>
    if (v4) = true then
      if (decide (v3.b = v2.b)) = true then
        (p_laws_eqIntS v1 v1).bind fun v7 =>
        if (v7) = true then
          (p_laws_markIntS v1 1).bind fun v9 =>
          if (decide (v9.a < 0)) = true then
            some false
          else
            (p_laws_markByteS v3.a 1).bind fun v11 =>
            (p_laws_heldByteS v11.b 1).bind fun v12 =>
            if (decide (v12 < 0)) = true then
              some false
            else
              if (decide (v12 = v11.a)) = true then
                some true
              else
                some false
        else
          some false
      else
        some false
    else
      some false
def c_laws_FnExactPutRuns (f_laws_toIntS : Nat) (f_spec_PutRuns : Nat) (f_impl_PutRuns : Nat) (f_laws_eqByteS : Nat) (f_laws_eqIntS : Nat) (f_laws_markIntS : Nat) (f_laws_markByteS : Nat) (f_laws_heldByteS : Nat) : AFn := ⟨93, (.seq (.ops [⟨(.some 2), (.mv (.const (.bool false))), .none, []⟩]) (.seq (.seq (.ops [⟨(.some 13), (.mv (.tmp 0)), .none, []⟩, ⟨(.some 14), (.len (.tmp 13)), .none, []⟩, ⟨(.some 15), (.pu (.n (.ar .gtr)) [(.tmp 14), (.const (.int .i64 1048576))]), .none, []⟩]) (.cond (.tmp 15) (.seq (.ops [⟨(.some 2), (.mv (.const (.bool true))), .none, []⟩]) .ret) .skip)) (.seq (.ops [⟨(.some 17), (.mv (.tmp 0)), .none, []⟩, ⟨(.some 18), (.call (2 * f_laws_toIntS) [(.tmp 17)]), .none, []⟩, ⟨(.some 19), (.call (2 * f_spec_PutRuns) [(.tmp 18)]), .none, []⟩, ⟨(.some 16), (.mv (.tmp 19)), .none, []⟩, ⟨(.some 20), (.extract 0 (.tmp 16)), .none, []⟩, ⟨(.some 21), (.extract 1 (.tmp 16)), .none, []⟩, ⟨(.some 3), (.mv (.tmp 20)), .none, []⟩, ⟨(.some 4), (.mv (.tmp 21)), .none, []⟩]) (.seq (.ops [⟨(.some 22), (.mv (.tmp 0)), .none, []⟩, ⟨(.some 23), (.call (2 * f_laws_toIntS + 1) [(.tmp 22)]), .none, []⟩, ⟨(.some 5), (.mv (.tmp 23)), .none, []⟩]) (.seq (.ops [⟨(.some 25), (.mv (.tmp 5)), .none, []⟩, ⟨(.some 26), (.call (2 * f_impl_PutRuns + 1) [(.tmp 25)]), .none, []⟩, ⟨(.some 24), (.mv (.tmp 26)), .none, []⟩, ⟨(.some 27), (.extract 0 (.tmp 24)), .none, []⟩, ⟨(.some 28), (.extract 1 (.tmp 24)), .none, []⟩, ⟨(.some 6), (.mv (.tmp 27)), .none, []⟩, ⟨(.some 7), (.mv (.tmp 28)), .none, []⟩]) (.seq (.seq (.ops [⟨(.some 29), (.mv (.tmp 6)), .none, []⟩, ⟨(.some 30), (.mv (.tmp 3)), .none, []⟩, ⟨(.some 31), (.call (2 * f_laws_eqByteS) [(.tmp 29), (.tmp 30)]), .none, []⟩, ⟨(.some 32), (.pu (.n (.un .not)) [(.tmp 31)]), .none, []⟩, ⟨(.some 33), (.mv (.tmp 32)), .none, []⟩, ⟨(.some 34), (.mv (.tmp 7)), (.some (33, false)), []⟩, ⟨(.some 35), (.mv (.tmp 4)), (.some (33, false)), []⟩, ⟨(.some 36), (.pu (.n (.ar .neq)) [(.tmp 34), (.tmp 35)]), (.some (33, false)), []⟩, ⟨(.some 37), (.pick (.tmp 33) (.const (.bool true)) (.tmp 36)), .none, []⟩]) (.cond (.tmp 37) (.seq (.ops [⟨(.some 2), (.mv (.const (.bool false))), .none, []⟩]) .ret) .skip)) (.seq (.seq (.ops [⟨(.some 38), (.mv (.tmp 5)), .none, []⟩, ⟨(.some 39), (.mv (.tmp 0)), .none, []⟩, ⟨(.some 40), (.call (2 * f_laws_toIntS + 1) [(.tmp 39)]), .none, []⟩, ⟨(.some 41), (.call (2 * f_laws_eqIntS) [(.tmp 38), (.tmp 40)]), .none, []⟩, ⟨(.some 42), (.pu (.n (.un .not)) [(.tmp 41)]), .none, []⟩]) (.cond (.tmp 42) (.seq (.ops [⟨(.some 2), (.mv (.const (.bool false))), .none, []⟩]) .ret) .skip)) (.seq (.ops [⟨(.some 8), (.mv (.const (.int .i64 1))), .none, []⟩]) (.seq (.ops [⟨(.some 43), (.mv (.tmp 5)), .none, []⟩, ⟨(.some 44), (.mv (.tmp 8)), .none, []⟩, ⟨(.some 45), (.call (2 * f_laws_markIntS + 1) [(.tmp 43), (.tmp 44)]), .none, []⟩, ⟨(.some 8), (.mv (.tmp 45)), .none, []⟩]) (.seq (.seq (.ops [⟨(.some 46), (.mv (.tmp 8)), .none, []⟩, ⟨(.some 47), (.pu (.n (.ar .lss)) [(.tmp 46), (.const (.int .i64 0))]), .none, []⟩, ⟨(.some 48), (.mv (.tmp 47)), .none, []⟩, ⟨(.some 49), (.mv (.tmp 6)), (.some (48, false)), []⟩, ⟨(.some 50), (.mv (.tmp 3)), (.some (48, false)), []⟩, ⟨(.some 51), (.call (2 * f_laws_eqByteS) [(.tmp 49), (.tmp 50)]), (.some (48, false)), []⟩, ⟨(.some 52), (.pu (.n (.un .not)) [(.tmp 51)]), (.some (48, false)), []⟩, ⟨(.some 53), (.pick (.tmp 48) (.const (.bool true)) (.tmp 52)), .none, []⟩, ⟨(.some 54), (.mv (.tmp 53)), .none, []⟩, ⟨(.some 55), (.mv (.tmp 7)), (.some (54, false)), []⟩, ⟨(.some 56), (.mv (.tmp 4)), (.some (54, false)), []⟩, ⟨(.some 57), (.pu (.n (.ar .neq)) [(.tmp 55), (.tmp 56)]), (.some (54, false)), []⟩, ⟨(.some 58), (.pick (.tmp 54) (.const (.bool true)) (.tmp 57)), .none, []⟩]) (.cond (.tmp 58) (.seq (.ops [⟨(.some 2), (.mv (.const (.bool false))), .none, []⟩]) .ret) .skip)) (.seq (.ops [⟨(.some 9), (.mv (.const (.int .i64 1))), .none, []⟩]) (.seq (.ops [⟨(.some 59), (.mv (.tmp 6)), .none, []⟩, ⟨(.some 60), (.mv (.tmp 9)), .none, []⟩, ⟨(.some 61), (.call (2 * f_laws_markByteS + 1) [(.tmp 59), (.tmp 60)]), .none, []⟩, ⟨(.some 9), (.mv (.tmp 61)), .none, []⟩]) (.seq (.ops [⟨(.some 10), (.mv (.const (.int .i64 1))), .none, []⟩]) (.seq (.ops [⟨(.some 62), (.mv (.tmp 6)), .none, []⟩, ⟨(.some 63), (.mv (.tmp 10)), .none, []⟩, ⟨(.some 64), (.call (2 * f_laws_heldByteS) [(.tmp 62), (.tmp 63)]), .none, []⟩, ⟨(.some 10), (.mv (.tmp 64)), .none, []⟩]) (.seq (.seq (.ops [⟨(.some 65), (.mv (.tmp 10)), .none, []⟩, ⟨(.some 66), (.pu (.n (.ar .lss)) [(.tmp 65), (.const (.int .i64 0))]), .none, []⟩]) (.cond (.tmp 66) (.seq (.ops [⟨(.some 2), (.mv (.const (.bool false))), .none, []⟩]) .ret) .skip)) (.seq (.seq (.ops [⟨(.some 67), (.mv (.tmp 10)), .none, []⟩, ⟨(.some 68), (.mv (.tmp 9)), .none, []⟩, ⟨(.some 69), (.pu (.n (.ar .neq)) [(.tmp 67), (.tmp 68)]), .none, []⟩]) (.cond (.tmp 69) (.seq (.ops [⟨(.some 2), (.mv (.const (.bool false))), .none, []⟩]) .ret) .skip)) (.seq (.ops [⟨(.some 71), (.mv (.tmp 0)), .none, []⟩, ⟨(.some 72), (.call (2 * f_laws_toIntS + 1) [(.tmp 71)]), .none, []⟩, ⟨(.some 73), (.call (2 * f_impl_PutRuns + 1) [(.tmp 72)]), .none, []⟩, ⟨(.some 70), (.mv (.tmp 73)), .none, []⟩, ⟨(.some 74), (.extract 0 (.tmp 70)), .none, []⟩, ⟨(.some 75), (.extract 1 (.tmp 70)), .none, []⟩, ⟨(.some 11), (.mv (.tmp 74)), .none, []⟩, ⟨(.some 12), (.mv (.tmp 75)), .none, []⟩]) (.seq (.seq (.ops [⟨(.some 76), (.mv (.tmp 11)), .none, []⟩, ⟨(.some 77), (.mv (.tmp 3)), .none, []⟩, ⟨(.some 78), (.call (2 * f_laws_eqByteS) [(.tmp 76), (.tmp 77)]), .none, []⟩, ⟨(.some 79), (.pu (.n (.un .not)) [(.tmp 78)]), .none, []⟩, ⟨(.some 80), (.mv (.tmp 79)), .none, []⟩, ⟨(.some 81), (.mv (.tmp 12)), (.some (80, false)), []⟩, ⟨(.some 82), (.mv (.tmp 4)), (.some (80, false)), []⟩, ⟨(.some 83), (.pu (.n (.ar .neq)) [(.tmp 81), (.tmp 82)]), (.some (80, false)), []⟩, ⟨(.some 84), (.pick (.tmp 80) (.const (.bool true)) (.tmp 83)), .none, []⟩]) (.cond (.tmp 84) (.seq (.ops [⟨(.some 2), (.mv (.const (.bool false))), .none, []⟩]) .ret) .skip)) (.seq (.ops [⟨(.some 10), (.mv (.const (.int .i64 1))), .none, []⟩]) (.seq (.ops [⟨(.some 85), (.mv (.tmp 6)), .none, []⟩, ⟨(.some 86), (.mv (.tmp 10)), .none, []⟩, ⟨(.some 87), (.call (2 * f_laws_heldByteS) [(.tmp 85), (.tmp 86)]), .none, []⟩, ⟨(.some 10), (.mv (.tmp 87)), .none, []⟩]) (.seq (.seq (.ops [⟨(.some 88), (.mv (.tmp 10)), .none, []⟩, ⟨(.some 89), (.pu (.n (.ar .lss)) [(.tmp 88), (.const (.int .i64 0))]), .none, []⟩]) (.cond (.tmp 89) (.seq (.ops [⟨(.some 2), (.mv (.const (.bool false))), .none, []⟩]) .ret) .skip)) (.seq (.seq (.ops [⟨(.some 90), (.mv (.tmp 10)), .none, []⟩, ⟨(.some 91), (.mv (.tmp 9)), .none, []⟩, ⟨(.some 92), (.pu (.n (.ar .neq)) [(.tmp 90), (.tmp 91)]), .none, []⟩]) (.cond (.tmp 92) (.seq (.ops [⟨(.some 2), (.mv (.const (.bool false))), .none, []⟩]) .ret) .skip)) (.seq (.ops [⟨(.some 2), (.mv (.const (.bool true))), .none, []⟩]) .ret))))))))))))))))))))))), [(.tmp 2)]⟩
set_option maxHeartbeats 10000000 in
theorem d_laws_FnExactPutRuns {P : Program} {env : Env} {f_laws_toIntS : Nat} {f_spec_PutRuns : Nat} {f_impl_PutRuns : Nat} {f_laws_eqByteS : Nat} {f_laws_eqIntS : Nat} {f_laws_markIntS : Nat} {f_laws_markByteS : Nat} {f_laws_heldByteS : Nat}  (ep_laws_toIntS : env (2 * f_laws_toIntS) = pureFn true (FA fun a : List Int => p_laws_toIntS a)) (ep_spec_PutRuns : env (2 * f_spec_PutRuns) = pureFn true (FA fun a : List Int => p_spec_PutRuns a)) (ep_laws_eqByteS : env (2 * f_laws_eqByteS) = pureFn true (FA fun a : List U8 × List U8 => p_laws_eqByteS a.1 a.2)) (ep_laws_eqIntS : env (2 * f_laws_eqIntS) = pureFn true (FA fun a : List Int × List Int => p_laws_eqIntS a.1 a.2)) (ep_laws_heldByteS : env (2 * f_laws_heldByteS) = pureFn true (FA fun a : List U8 × Int => p_laws_heldByteS a.1 a.2)) (e_laws_toIntS : k_laws_toIntS (env (2 * f_laws_toIntS + 1))) (e_impl_PutRuns : k_impl_PutRuns (env (2 * f_impl_PutRuns + 1))) (e_laws_markIntS : k_laws_markIntS (env (2 * f_laws_markIntS + 1))) (e_laws_markByteS : k_laws_markByteS (env (2 * f_laws_markByteS + 1))) (x0 : List Int) (hp : p_laws_FnExactPutRuns x0 = some true) : R P env (c_laws_FnExactPutRuns f_laws_toIntS f_spec_PutRuns f_impl_PutRuns f_laws_eqByteS f_laws_eqIntS f_laws_markIntS f_laws_markByteS f_laws_heldByteS) ((encA (x0)).map ofI) [] (fun v _ => v = .i (iB true)) := by
  refine R_of (by simp [c_laws_FnExactPutRuns, encA]) ?_
  unfold c_laws_FnExactPutRuns
  unfold p_laws_FnExactPutRuns at hp
  by_cases hb0 : (decide (1048576 < (x0.length : Int))) = true
  · rw [if_t hb0] at hp
    cases hp
    simp (disch := first | omega | (simp only [List.length_set, List.length_append, List.length_cons, List.length_nil, rows_len, zs]; first | done | omega)) only [ep_laws_toIntS, ep_spec_PutRuns, ep_laws_eqByteS, ep_laws_eqIntS, ep_laws_heldByteS, hb0, gs, reduceIte, reduceCtorEq, Nat.reduceAdd, Nat.reduceMul, Nat.reduceSub, Nat.reduceBEq, Nat.reduceEqDiff, Nat.reduceLeDiff, Nat.reduceLT, Nat.reduceGT, Int.reduceToNat, Int.reduceLT, Int.reduceLE, Int.reduceNeg, Int.reduceAdd, Int.reduceEq, Int.reduceNe]
  · replace hb0 := eq_false_of_ne_true hb0
    rw [if_f hb0] at hp
    obtain ⟨v1, hv1, hp⟩ := bind_eq hp
    obtain ⟨v2, hv2, hp⟩ := bind_eq hp
    simp (disch := first | omega | (simp only [List.length_set, List.length_append, List.length_cons, List.length_nil, rows_len, zs]; first | done | omega)) only [ep_laws_toIntS, ep_spec_PutRuns, ep_laws_eqByteS, ep_laws_eqIntS, ep_laws_heldByteS, hb0, hv1, hv2, gs, reduceIte, reduceCtorEq, Nat.reduceAdd, Nat.reduceMul, Nat.reduceSub, Nat.reduceBEq, Nat.reduceEqDiff, Nat.reduceLeDiff, Nat.reduceLT, Nat.reduceGT, Int.reduceToNat, Int.reduceLT, Int.reduceLE, Int.reduceNeg, Int.reduceAdd, Int.reduceEq, Int.reduceNe]
    refine call_f (fun h => True) (fun h v h2 => oo_laws_toIntS v1 h v h2) ?_ ?_ ?_
    · simp (disch := first | omega | (simp only [List.length_set, List.length_append, List.length_cons, List.length_nil, rows_len, zs]; first | done | omega)) only [ep_laws_toIntS, ep_spec_PutRuns, ep_laws_eqByteS, ep_laws_eqIntS, ep_laws_heldByteS, hb0, hv1, hv2, gs, reduceIte, reduceCtorEq, Nat.reduceAdd, Nat.reduceMul, Nat.reduceSub, Nat.reduceBEq, Nat.reduceEqDiff, Nat.reduceLeDiff, Nat.reduceLT, Nat.reduceGT, Int.reduceToNat, Int.reduceLT, Int.reduceLE, Int.reduceNeg, Int.reduceAdd, Int.reduceEq, Int.reduceNe] <;> omega
    · rintro h _
      exact e_laws_toIntS _ _ hv1 h _ (by simp (disch := first | omega | (simp only [List.length_set, List.length_append, List.length_cons, List.length_nil, rows_len, zs]; first | done | omega)) only [ep_laws_toIntS, ep_spec_PutRuns, ep_laws_eqByteS, ep_laws_eqIntS, ep_laws_heldByteS, hb0, hv1, hv2, gs, reduceIte, reduceCtorEq, Nat.reduceAdd, Nat.reduceMul, Nat.reduceSub, Nat.reduceBEq, Nat.reduceEqDiff, Nat.reduceLeDiff, Nat.reduceLT, Nat.reduceGT, Int.reduceToNat, Int.reduceLT, Int.reduceLE, Int.reduceNeg, Int.reduceAdd, Int.reduceEq, Int.reduceNe])
    · rintro h v hh0 _ hpost
      obtain ⟨kk0, nb0_0, rfl, lnb0_0, gnb0_0, wnb0_0⟩ := hpost
      have d0_0 := wnb0_0
      obtain ⟨v3, hv3, hp⟩ := bind_eq hp
      simp (disch := first | omega | (simp only [List.length_set, List.length_append, List.length_cons, List.length_nil, rows_len, zs]; first | done | omega)) only [ep_laws_toIntS, ep_spec_PutRuns, ep_laws_eqByteS, ep_laws_eqIntS, ep_laws_heldByteS, hb0, hv1, hv2, d0_0, gs, reduceIte, reduceCtorEq, Nat.reduceAdd, Nat.reduceMul, Nat.reduceSub, Nat.reduceBEq, Nat.reduceEqDiff, Nat.reduceLeDiff, Nat.reduceLT, Nat.reduceGT, Int.reduceToNat, Int.reduceLT, Int.reduceLE, Int.reduceNeg, Int.reduceAdd, Int.reduceEq, Int.reduceNe]
      refine call_f (fun h => getCells h nb0_0 v1.length = some (rows (v1 : List Int)) ∧ nb0_0 < h.length) (fun h v h2 => oo_impl_PutRuns v3 h v h2) ?_ ?_ ?_
      · simp (disch := first | omega | (simp only [List.length_set, List.length_append, List.length_cons, List.length_nil, rows_len, zs]; first | done | omega)) only [ep_laws_toIntS, ep_spec_PutRuns, ep_laws_eqByteS, ep_laws_eqIntS, ep_laws_heldByteS, hb0, hv1, hv2, d0_0, hv3, gs, reduceIte, reduceCtorEq, Nat.reduceAdd, Nat.reduceMul, Nat.reduceSub, Nat.reduceBEq, Nat.reduceEqDiff, Nat.reduceLeDiff, Nat.reduceLT, Nat.reduceGT, Int.reduceToNat, Int.reduceLT, Int.reduceLE, Int.reduceNeg, Int.reduceAdd, Int.reduceEq, Int.reduceNe] <;> omega
      · rintro h ⟨c1_0, c1_1⟩
        exact e_impl_PutRuns _ _ hv3 h _ (by simp (disch := first | omega | (simp only [List.length_set, List.length_append, List.length_cons, List.length_nil, rows_len, zs]; first | done | omega)) only [ep_laws_toIntS, ep_spec_PutRuns, ep_laws_eqByteS, ep_laws_eqIntS, ep_laws_heldByteS, hb0, hv1, hv2, d0_0, hv3, c1_0, c1_1, gs, reduceIte, reduceCtorEq, Nat.reduceAdd, Nat.reduceMul, Nat.reduceSub, Nat.reduceBEq, Nat.reduceEqDiff, Nat.reduceLeDiff, Nat.reduceLT, Nat.reduceGT, Int.reduceToNat, Int.reduceLT, Int.reduceLE, Int.reduceNeg, Int.reduceAdd, Int.reduceEq, Int.reduceNe])
      · rintro h v hh1 ⟨c1_0, c1_1⟩ hpost
        obtain ⟨kk1, nb1_0, rfl, lnb1_0, gnb1_0, wnb1_0⟩ := hpost
        have d1_0 : getCells hh1 nb0_0 v1.length = some (rows (v1 : List Int)) := (keep_get kk1 c1_1 (by first | (simp; done) | (simp; omega))).trans c1_0
        have d1_0l := keep_lt kk1 c1_1
        have d1_1 := wnb1_0
        obtain ⟨v4, hv4, hp⟩ := bind_eq hp
        by_cases hb5 : (v4) = true
        · rw [if_t hb5] at hp
          by_cases hb6 : (decide (v3.b = v2.b)) = true
          · rw [if_t hb6] at hp
            simp (disch := first | omega | (simp only [List.length_set, List.length_append, List.length_cons, List.length_nil, rows_len, zs]; first | done | omega)) only [ep_laws_toIntS, ep_spec_PutRuns, ep_laws_eqByteS, ep_laws_eqIntS, ep_laws_heldByteS, hb0, hv1, hv2, d0_0, hv3, d1_0, d1_1, hv4, hb5, hb6, gs, reduceIte, reduceCtorEq, Nat.reduceAdd, Nat.reduceMul, Nat.reduceSub, Nat.reduceBEq, Nat.reduceEqDiff, Nat.reduceLeDiff, Nat.reduceLT, Nat.reduceGT, Int.reduceToNat, Int.reduceLT, Int.reduceLE, Int.reduceNeg, Int.reduceAdd, Int.reduceEq, Int.reduceNe]
            refine call_f (fun h => getCells h nb0_0 v1.length = some (rows (v1 : List Int)) ∧ nb0_0 < h.length ∧ getCells h nb1_0 v3.a.length = some (rows (v3.a : List U8)) ∧ nb1_0 < h.length) (fun h v h2 => oo_laws_toIntS v1 h v h2) ?_ ?_ ?_
            · simp (disch := first | omega | (simp only [List.length_set, List.length_append, List.length_cons, List.length_nil, rows_len, zs]; first | done | omega)) only [ep_laws_toIntS, ep_spec_PutRuns, ep_laws_eqByteS, ep_laws_eqIntS, ep_laws_heldByteS, hb0, hv1, hv2, d0_0, hv3, d1_0, d1_1, hv4, hb5, hb6, gs, reduceIte, reduceCtorEq, Nat.reduceAdd, Nat.reduceMul, Nat.reduceSub, Nat.reduceBEq, Nat.reduceEqDiff, Nat.reduceLeDiff, Nat.reduceLT, Nat.reduceGT, Int.reduceToNat, Int.reduceLT, Int.reduceLE, Int.reduceNeg, Int.reduceAdd, Int.reduceEq, Int.reduceNe] <;> omega
            · rintro h ⟨c2_0, c2_1, c2_2, c2_3⟩
              exact e_laws_toIntS _ _ hv1 h _ (by simp (disch := first | omega | (simp only [List.length_set, List.length_append, List.length_cons, List.length_nil, rows_len, zs]; first | done | omega)) only [ep_laws_toIntS, ep_spec_PutRuns, ep_laws_eqByteS, ep_laws_eqIntS, ep_laws_heldByteS, hb0, hv1, hv2, d0_0, hv3, d1_0, d1_1, hv4, hb5, hb6, c2_0, c2_1, c2_2, c2_3, gs, reduceIte, reduceCtorEq, Nat.reduceAdd, Nat.reduceMul, Nat.reduceSub, Nat.reduceBEq, Nat.reduceEqDiff, Nat.reduceLeDiff, Nat.reduceLT, Nat.reduceGT, Int.reduceToNat, Int.reduceLT, Int.reduceLE, Int.reduceNeg, Int.reduceAdd, Int.reduceEq, Int.reduceNe])
            · rintro h v hh2 ⟨c2_0, c2_1, c2_2, c2_3⟩ hpost
              obtain ⟨kk2, nb2_0, rfl, lnb2_0, gnb2_0, wnb2_0⟩ := hpost
              have d2_0 : getCells hh2 nb0_0 v1.length = some (rows (v1 : List Int)) := (keep_get kk2 c2_1 (by first | (simp; done) | (simp; omega))).trans c2_0
              have d2_0l := keep_lt kk2 c2_1
              have d2_1 : getCells hh2 nb1_0 v3.a.length = some (rows (v3.a : List U8)) := (keep_get kk2 c2_3 (by first | (simp; done) | (simp; omega))).trans c2_2
              have d2_1l := keep_lt kk2 c2_3
              have d2_2 := wnb2_0
              obtain ⟨v7, hv7, hp⟩ := bind_eq hp
              by_cases hb8 : (v7) = true
              · rw [if_t hb8] at hp
                obtain ⟨v9, hv9, hp⟩ := bind_eq hp
                simp (disch := first | omega | (simp only [List.length_set, List.length_append, List.length_cons, List.length_nil, rows_len, zs]; first | done | omega)) only [ep_laws_toIntS, ep_spec_PutRuns, ep_laws_eqByteS, ep_laws_eqIntS, ep_laws_heldByteS, hb0, hv1, hv2, d0_0, hv3, d1_0, d1_1, hv4, hb5, hb6, d2_0, d2_1, d2_2, hv7, hb8, gs, reduceIte, reduceCtorEq, Nat.reduceAdd, Nat.reduceMul, Nat.reduceSub, Nat.reduceBEq, Nat.reduceEqDiff, Nat.reduceLeDiff, Nat.reduceLT, Nat.reduceGT, Int.reduceToNat, Int.reduceLT, Int.reduceLE, Int.reduceNeg, Int.reduceAdd, Int.reduceEq, Int.reduceNe]
                refine call_f (fun h => getCells h nb0_0 v1.length = some (rows (v1 : List Int)) ∧ nb0_0 < h.length ∧ getCells h nb1_0 v3.a.length = some (rows (v3.a : List U8)) ∧ nb1_0 < h.length ∧ getCells h nb2_0 v1.length = some (rows (v1 : List Int)) ∧ nb2_0 < h.length) (fun h v h2 => i_laws_markIntS nb0_0 v1.length h v9 v h2) ?_ ?_ ?_
                · simp (disch := first | omega | (simp only [List.length_set, List.length_append, List.length_cons, List.length_nil, rows_len, zs]; first | done | omega)) only [ep_laws_toIntS, ep_spec_PutRuns, ep_laws_eqByteS, ep_laws_eqIntS, ep_laws_heldByteS, hb0, hv1, hv2, d0_0, hv3, d1_0, d1_1, hv4, hb5, hb6, d2_0, d2_1, d2_2, hv7, hb8, hv9, gs, reduceIte, reduceCtorEq, Nat.reduceAdd, Nat.reduceMul, Nat.reduceSub, Nat.reduceBEq, Nat.reduceEqDiff, Nat.reduceLeDiff, Nat.reduceLT, Nat.reduceGT, Int.reduceToNat, Int.reduceLT, Int.reduceLE, Int.reduceNeg, Int.reduceAdd, Int.reduceEq, Int.reduceNe] <;> omega
                · rintro h ⟨c3_0, c3_1, c3_2, c3_3, c3_4, c3_5⟩
                  exact e_laws_markIntS _ _ _ hv9 nb0_0 v1.length h (by first | omega | rfl) c3_0
                · rintro h v hh3 ⟨c3_0, c3_1, c3_2, c3_3, c3_4, c3_5⟩ hpost
                  obtain ⟨kk3, rfl, w3_0⟩ := hpost
                  have d3_0 : getCells hh3 nb0_0 v1.length = some (rows (v9.b : List Int)) := w3_0
                  have mm3_0 := len_rows w3_0
                  simp only [zs] at mm3_0
                  have d3_0l := keep_lt kk3 c3_1
                  have d3_1 : getCells hh3 nb1_0 v3.a.length = some (rows (v3.a : List U8)) := (keep_get kk3 c3_3 (by first | (simp; done) | (simp; omega))).trans c3_2
                  have d3_1l := keep_lt kk3 c3_3
                  have d3_2 : getCells hh3 nb2_0 v1.length = some (rows (v1 : List Int)) := (keep_get kk3 c3_5 (by first | (simp; done) | (simp; omega))).trans c3_4
                  have d3_2l := keep_lt kk3 c3_5
                  by_cases hb10 : (decide (v9.a < 0)) = true
                  · rw [if_t hb10] at hp
                    cases hp
                  · replace hb10 := eq_false_of_ne_true hb10
                    rw [if_f hb10] at hp
                    obtain ⟨v11, hv11, hp⟩ := bind_eq hp
                    simp (disch := first | omega | (simp only [List.length_set, List.length_append, List.length_cons, List.length_nil, rows_len, zs]; first | done | omega)) only [ep_laws_toIntS, ep_spec_PutRuns, ep_laws_eqByteS, ep_laws_eqIntS, ep_laws_heldByteS, hb0, hv1, hv2, d0_0, hv3, d1_0, d1_1, hv4, hb5, hb6, d2_0, d2_1, d2_2, hv7, hb8, hv9, d3_0, d3_1, d3_2, hb10, gs, reduceIte, reduceCtorEq, Nat.reduceAdd, Nat.reduceMul, Nat.reduceSub, Nat.reduceBEq, Nat.reduceEqDiff, Nat.reduceLeDiff, Nat.reduceLT, Nat.reduceGT, Int.reduceToNat, Int.reduceLT, Int.reduceLE, Int.reduceNeg, Int.reduceAdd, Int.reduceEq, Int.reduceNe]
                    refine call_f (fun h => getCells h nb0_0 v1.length = some (rows (v9.b : List Int)) ∧ nb0_0 < h.length ∧ getCells h nb1_0 v3.a.length = some (rows (v3.a : List U8)) ∧ nb1_0 < h.length ∧ getCells h nb2_0 v1.length = some (rows (v1 : List Int)) ∧ nb2_0 < h.length) (fun h v h2 => i_laws_markByteS nb1_0 v3.a.length h v11 v h2) ?_ ?_ ?_
                    · simp (disch := first | omega | (simp only [List.length_set, List.length_append, List.length_cons, List.length_nil, rows_len, zs]; first | done | omega)) only [ep_laws_toIntS, ep_spec_PutRuns, ep_laws_eqByteS, ep_laws_eqIntS, ep_laws_heldByteS, hb0, hv1, hv2, d0_0, hv3, d1_0, d1_1, hv4, hb5, hb6, d2_0, d2_1, d2_2, hv7, hb8, hv9, d3_0, d3_1, d3_2, hb10, hv11, gs, reduceIte, reduceCtorEq, Nat.reduceAdd, Nat.reduceMul, Nat.reduceSub, Nat.reduceBEq, Nat.reduceEqDiff, Nat.reduceLeDiff, Nat.reduceLT, Nat.reduceGT, Int.reduceToNat, Int.reduceLT, Int.reduceLE, Int.reduceNeg, Int.reduceAdd, Int.reduceEq, Int.reduceNe] <;> omega
                    · rintro h ⟨c4_0, c4_1, c4_2, c4_3, c4_4, c4_5⟩
                      exact e_laws_markByteS _ _ _ hv11 nb1_0 v3.a.length h (by first | omega | rfl) c4_2
                    · rintro h v hh4 ⟨c4_0, c4_1, c4_2, c4_3, c4_4, c4_5⟩ hpost
                      obtain ⟨kk4, rfl, w4_0⟩ := hpost
                      have d4_0 : getCells hh4 nb0_0 v1.length = some (rows (v9.b : List Int)) := (keep_get kk4 c4_1 (by first | (simp; done) | (simp; omega))).trans c4_0
                      have d4_0l := keep_lt kk4 c4_1
                      have d4_1 : getCells hh4 nb1_0 v3.a.length = some (rows (v11.b : List U8)) := w4_0
                      have mm4_0 := len_rows w4_0
                      simp only [zs] at mm4_0
                      have d4_1l := keep_lt kk4 c4_3
                      have d4_2 : getCells hh4 nb2_0 v1.length = some (rows (v1 : List Int)) := (keep_get kk4 c4_5 (by first | (simp; done) | (simp; omega))).trans c4_4
                      have d4_2l := keep_lt kk4 c4_5
                      obtain ⟨v12, hv12, hp⟩ := bind_eq hp
                      by_cases hb13 : (decide (v12 < 0)) = true
                      · rw [if_t hb13] at hp
                        cases hp
                      · replace hb13 := eq_false_of_ne_true hb13
                        rw [if_f hb13] at hp
                        by_cases hb14 : (decide (v12 = v11.a)) = true
                        · rw [if_t hb14] at hp
                          simp (disch := first | omega | (simp only [List.length_set, List.length_append, List.length_cons, List.length_nil, rows_len, zs]; first | done | omega)) only [ep_laws_toIntS, ep_spec_PutRuns, ep_laws_eqByteS, ep_laws_eqIntS, ep_laws_heldByteS, hb0, hv1, hv2, d0_0, hv3, d1_0, d1_1, hv4, hb5, hb6, d2_0, d2_1, d2_2, hv7, hb8, hv9, d3_0, d3_1, d3_2, hb10, hv11, d4_0, d4_1, d4_2, hv12, hb13, hb14, gs, reduceIte, reduceCtorEq, Nat.reduceAdd, Nat.reduceMul, Nat.reduceSub, Nat.reduceBEq, Nat.reduceEqDiff, Nat.reduceLeDiff, Nat.reduceLT, Nat.reduceGT, Int.reduceToNat, Int.reduceLT, Int.reduceLE, Int.reduceNeg, Int.reduceAdd, Int.reduceEq, Int.reduceNe]
                          refine call_f (fun h => getCells h nb0_0 v1.length = some (rows (v9.b : List Int)) ∧ nb0_0 < h.length ∧ getCells h nb1_0 v3.a.length = some (rows (v11.b : List U8)) ∧ nb1_0 < h.length ∧ getCells h nb2_0 v1.length = some (rows (v1 : List Int)) ∧ nb2_0 < h.length) (fun h v h2 => oo_laws_toIntS v1 h v h2) ?_ ?_ ?_
                          · simp (disch := first | omega | (simp only [List.length_set, List.length_append, List.length_cons, List.length_nil, rows_len, zs]; first | done | omega)) only [ep_laws_toIntS, ep_spec_PutRuns, ep_laws_eqByteS, ep_laws_eqIntS, ep_laws_heldByteS, hb0, hv1, hv2, d0_0, hv3, d1_0, d1_1, hv4, hb5, hb6, d2_0, d2_1, d2_2, hv7, hb8, hv9, d3_0, d3_1, d3_2, hb10, hv11, d4_0, d4_1, d4_2, hv12, hb13, hb14, gs, reduceIte, reduceCtorEq, Nat.reduceAdd, Nat.reduceMul, Nat.reduceSub, Nat.reduceBEq, Nat.reduceEqDiff, Nat.reduceLeDiff, Nat.reduceLT, Nat.reduceGT, Int.reduceToNat, Int.reduceLT, Int.reduceLE, Int.reduceNeg, Int.reduceAdd, Int.reduceEq, Int.reduceNe] <;> omega
                          · rintro h ⟨c5_0, c5_1, c5_2, c5_3, c5_4, c5_5⟩
                            exact e_laws_toIntS _ _ hv1 h _ (by simp (disch := first | omega | (simp only [List.length_set, List.length_append, List.length_cons, List.length_nil, rows_len, zs]; first | done | omega)) only [ep_laws_toIntS, ep_spec_PutRuns, ep_laws_eqByteS, ep_laws_eqIntS, ep_laws_heldByteS, hb0, hv1, hv2, d0_0, hv3, d1_0, d1_1, hv4, hb5, hb6, d2_0, d2_1, d2_2, hv7, hb8, hv9, d3_0, d3_1, d3_2, hb10, hv11, d4_0, d4_1, d4_2, hv12, hb13, hb14, c5_0, c5_1, c5_2, c5_3, c5_4, c5_5, gs, reduceIte, reduceCtorEq, Nat.reduceAdd, Nat.reduceMul, Nat.reduceSub, Nat.reduceBEq, Nat.reduceEqDiff, Nat.reduceLeDiff, Nat.reduceLT, Nat.reduceGT, Int.reduceToNat, Int.reduceLT, Int.reduceLE, Int.reduceNeg, Int.reduceAdd, Int.reduceEq, Int.reduceNe])
                          · rintro h v hh5 ⟨c5_0, c5_1, c5_2, c5_3, c5_4, c5_5⟩ hpost
                            obtain ⟨kk5, nb5_0, rfl, lnb5_0, gnb5_0, wnb5_0⟩ := hpost
                            have d5_0 : getCells hh5 nb0_0 v1.length = some (rows (v9.b : List Int)) := (keep_get kk5 c5_1 (by first | (simp; done) | (simp; omega))).trans c5_0
                            have d5_0l := keep_lt kk5 c5_1
                            have d5_1 : getCells hh5 nb1_0 v3.a.length = some (rows (v11.b : List U8)) := (keep_get kk5 c5_3 (by first | (simp; done) | (simp; omega))).trans c5_2
                            have d5_1l := keep_lt kk5 c5_3
                            have d5_2 : getCells hh5 nb2_0 v1.length = some (rows (v1 : List Int)) := (keep_get kk5 c5_5 (by first | (simp; done) | (simp; omega))).trans c5_4
                            have d5_2l := keep_lt kk5 c5_5
                            have d5_3 := wnb5_0
                            simp (disch := first | omega | (simp only [List.length_set, List.length_append, List.length_cons, List.length_nil, rows_len, zs]; first | done | omega)) only [ep_laws_toIntS, ep_spec_PutRuns, ep_laws_eqByteS, ep_laws_eqIntS, ep_laws_heldByteS, hb0, hv1, hv2, d0_0, hv3, d1_0, d1_1, hv4, hb5, hb6, d2_0, d2_1, d2_2, hv7, hb8, hv9, d3_0, d3_1, d3_2, hb10, hv11, d4_0, d4_1, d4_2, hv12, hb13, hb14, d5_0, d5_1, d5_2, d5_3, gs, reduceIte, reduceCtorEq, Nat.reduceAdd, Nat.reduceMul, Nat.reduceSub, Nat.reduceBEq, Nat.reduceEqDiff, Nat.reduceLeDiff, Nat.reduceLT, Nat.reduceGT, Int.reduceToNat, Int.reduceLT, Int.reduceLE, Int.reduceNeg, Int.reduceAdd, Int.reduceEq, Int.reduceNe]
                            refine call_f (fun h => getCells h nb0_0 v1.length = some (rows (v9.b : List Int)) ∧ nb0_0 < h.length ∧ getCells h nb1_0 v3.a.length = some (rows (v11.b : List U8)) ∧ nb1_0 < h.length ∧ getCells h nb2_0 v1.length = some (rows (v1 : List Int)) ∧ nb2_0 < h.length ∧ getCells h nb5_0 v1.length = some (rows (v1 : List Int)) ∧ nb5_0 < h.length) (fun h v h2 => oo_impl_PutRuns v3 h v h2) ?_ ?_ ?_
                            · simp (disch := first | omega | (simp only [List.length_set, List.length_append, List.length_cons, List.length_nil, rows_len, zs]; first | done | omega)) only [ep_laws_toIntS, ep_spec_PutRuns, ep_laws_eqByteS, ep_laws_eqIntS, ep_laws_heldByteS, hb0, hv1, hv2, d0_0, hv3, d1_0, d1_1, hv4, hb5, hb6, d2_0, d2_1, d2_2, hv7, hb8, hv9, d3_0, d3_1, d3_2, hb10, hv11, d4_0, d4_1, d4_2, hv12, hb13, hb14, d5_0, d5_1, d5_2, d5_3, gs, reduceIte, reduceCtorEq, Nat.reduceAdd, Nat.reduceMul, Nat.reduceSub, Nat.reduceBEq, Nat.reduceEqDiff, Nat.reduceLeDiff, Nat.reduceLT, Nat.reduceGT, Int.reduceToNat, Int.reduceLT, Int.reduceLE, Int.reduceNeg, Int.reduceAdd, Int.reduceEq, Int.reduceNe] <;> omega
                            · rintro h ⟨c6_0, c6_1, c6_2, c6_3, c6_4, c6_5, c6_6, c6_7⟩
                              exact e_impl_PutRuns _ _ hv3 h _ (by simp (disch := first | omega | (simp only [List.length_set, List.length_append, List.length_cons, List.length_nil, rows_len, zs]; first | done | omega)) only [ep_laws_toIntS, ep_spec_PutRuns, ep_laws_eqByteS, ep_laws_eqIntS, ep_laws_heldByteS, hb0, hv1, hv2, d0_0, hv3, d1_0, d1_1, hv4, hb5, hb6, d2_0, d2_1, d2_2, hv7, hb8, hv9, d3_0, d3_1, d3_2, hb10, hv11, d4_0, d4_1, d4_2, hv12, hb13, hb14, d5_0, d5_1, d5_2, d5_3, c6_0, c6_1, c6_2, c6_3, c6_4, c6_5, c6_6, c6_7, gs, reduceIte, reduceCtorEq, Nat.reduceAdd, Nat.reduceMul, Nat.reduceSub, Nat.reduceBEq, Nat.reduceEqDiff, Nat.reduceLeDiff, Nat.reduceLT, Nat.reduceGT, Int.reduceToNat, Int.reduceLT, Int.reduceLE, Int.reduceNeg, Int.reduceAdd, Int.reduceEq, Int.reduceNe])
                            · rintro h v hh6 ⟨c6_0, c6_1, c6_2, c6_3, c6_4, c6_5, c6_6, c6_7⟩ hpost
                              obtain ⟨kk6, nb6_0, rfl, lnb6_0, gnb6_0, wnb6_0⟩ := hpost
                              have d6_0 : getCells hh6 nb0_0 v1.length = some (rows (v9.b : List Int)) := (keep_get kk6 c6_1 (by first | (simp; done) | (simp; omega))).trans c6_0
                              have d6_0l := keep_lt kk6 c6_1
                              have d6_1 : getCells hh6 nb1_0 v3.a.length = some (rows (v11.b : List U8)) := (keep_get kk6 c6_3 (by first | (simp; done) | (simp; omega))).trans c6_2
                              have d6_1l := keep_lt kk6 c6_3
                              have d6_2 : getCells hh6 nb2_0 v1.length = some (rows (v1 : List Int)) := (keep_get kk6 c6_5 (by first | (simp; done) | (simp; omega))).trans c6_4
                              have d6_2l := keep_lt kk6 c6_5
                              have d6_3 : getCells hh6 nb5_0 v1.length = some (rows (v1 : List Int)) := (keep_get kk6 c6_7 (by first | (simp; done) | (simp; omega))).trans c6_6
                              have d6_3l := keep_lt kk6 c6_7
                              have d6_4 := wnb6_0
                              cases hp
                              simp (disch := first | omega | (simp only [List.length_set, List.length_append, List.length_cons, List.length_nil, rows_len, zs]; first | done | omega)) only [ep_laws_toIntS, ep_spec_PutRuns, ep_laws_eqByteS, ep_laws_eqIntS, ep_laws_heldByteS, hb0, hv1, hv2, d0_0, hv3, d1_0, d1_1, hv4, hb5, hb6, d2_0, d2_1, d2_2, hv7, hb8, hv9, d3_0, d3_1, d3_2, hb10, hv11, d4_0, d4_1, d4_2, hv12, hb13, hb14, d5_0, d5_1, d5_2, d5_3, d6_0, d6_1, d6_2, d6_3, d6_4, gs, reduceIte, reduceCtorEq, Nat.reduceAdd, Nat.reduceMul, Nat.reduceSub, Nat.reduceBEq, Nat.reduceEqDiff, Nat.reduceLeDiff, Nat.reduceLT, Nat.reduceGT, Int.reduceToNat, Int.reduceLT, Int.reduceLE, Int.reduceNeg, Int.reduceAdd, Int.reduceEq, Int.reduceNe]
                        · replace hb14 := eq_false_of_ne_true hb14
                          rw [if_f hb14] at hp
                          cases hp
              · replace hb8 := eq_false_of_ne_true hb8
                rw [if_f hb8] at hp
                cases hp
          · replace hb6 := eq_false_of_ne_true hb6
            rw [if_f hb6] at hp
            cases hp
        · replace hb5 := eq_false_of_ne_true hb5
          rw [if_f hb5] at hp
          cases hp

end Go.AM
