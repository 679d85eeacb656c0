/- Plain functions of GetInt and their walks. No condition. -/
import Derived.Test.YtlfbhelaehdemaaLabB34
set_option linter.unusedVariables false
set_option linter.unusedSimpArgs false
namespace Go.AM
open Pic (enc dec dec_enc dec_sub)
open PicA (encA decA decA_encA decA_sub)
noncomputable def p_laws_toByteS_l0 (x0 : List U8) : List U8 × Int → Option (Lp (List U8 × Int) (List U8))
  | (s1, s2) =>
    if (decide (s2 < (x0.length : Int))) = true then
      (get? x0 s2).bind fun v4 =>
      (get? s1 s2).bind fun v5 =>
      some (.go ((s1.set s2.toNat v4), w64 (s2 + 1)))
    else
      some (.out (s1, s2))
noncomputable def p_laws_toByteS (x0 : List U8) : Option (List U8) :=
  ((mkL (x0.length : Int) 1 (x0.length : Int) (U8.mk 0) : Option (List U8))).bind fun v0 =>
  (loopP (p_laws_toByteS_l0 x0) (v0, 0)).bind fun ee0 => match ee0 with
  | .ret r => some r
  | .out (o7, o8) =>
    some o7
def c_laws_toByteS : AFn := ⟨22, (.seq (.ops [⟨(.some 2), (.vnil 1 false), .none, []⟩]) (.seq (.ops [⟨(.some 5), (.mv (.tmp 0)), .none, []⟩, ⟨(.some 6), (.len (.tmp 5)), .none, []⟩, ⟨(.some 7), (.makeSl 1 false 1 [(.int .u8 0)] (.tmp 6) (.tmp 6)), .none, []⟩, ⟨(.some 3), (.mv (.tmp 7)), .none, []⟩]) (.seq (.seq (.ops [⟨(.some 4), (.mv (.const (.int .i64 0))), .none, []⟩]) (.block 0 (.loop (.seq (.seq (.ops [⟨(.some 8), (.mv (.tmp 4)), .none, []⟩, ⟨(.some 9), (.mv (.tmp 0)), .none, []⟩, ⟨(.some 10), (.len (.tmp 9)), .none, []⟩, ⟨(.some 11), (.pu (.n (.ar .lss)) [(.tmp 8), (.tmp 10)]), .none, []⟩]) (.cond (.tmp 11) .skip (.exit 0))) (.seq (.block 1 (.ops [⟨(.some 14), (.mv (.tmp 3)), .none, []⟩, ⟨(.some 15), (.mv (.tmp 4)), .none, []⟩, ⟨(.some 16), (.mv (.tmp 0)), .none, []⟩, ⟨(.some 17), (.mv (.tmp 4)), .none, []⟩, ⟨(.some 18), (.idxS 1 (.tmp 16) (.tmp 17)), .none, []⟩, ⟨(.some 19), (.load 1 false (.tmp 18)), .none, []⟩, ⟨(.some 20), (.idxS 1 (.tmp 14) (.tmp 15)), .none, []⟩, ⟨.none, (.storeV [(0, false)] 1 (.tmp 20) (.tmp 19)), .none, []⟩])) (.ops [⟨(.some 12), (.mv (.tmp 4)), .none, []⟩, ⟨(.some 13), (.pu (.n (.ar .add)) [(.tmp 12), (.const (.int .i64 1))]), .none, []⟩, ⟨(.some 4), (.mv (.tmp 13)), .none, []⟩])))))) (.seq (.ops [⟨(.some 21), (.mv (.tmp 3)), .none, []⟩, ⟨(.some 2), (.mv (.tmp 21)), .none, []⟩]) .ret)))), [(.tmp 2)]⟩
def o_laws_toByteS (b : List U8) (v : V) (h : Heap) : Prop := ∃ n0 : Nat, v = .hsl n0 b.length 0 1 false b.length ∧ getCells h n0 b.length = some (rows b)
def oo_laws_toByteS (b : List U8) (h : Heap) (v : V) (h2 : Heap) : Prop := Keep [] h h2 ∧ ∃ n0 : Nat, v = .hsl n0 b.length 0 1 false b.length ∧ n0 < h2.length ∧ h.length ≤ n0 ∧ getCells h2 n0 b.length = some (rows b)
def k_laws_toByteS (F : Fun) : Prop := ∀ (x0 : List U8) (b : List U8), p_laws_toByteS x0 = some b → ∀ (h : Heap) (args : List V), snapA 9 false h args = some (encA (x0)) → ∃ p, F none args h = some p ∧ oo_laws_toByteS b h p.1 p.2
set_option maxHeartbeats 10000000 in
theorem w_laws_toByteS {P : Program} {env : Env}  (x0 : List U8) {b : List U8} (hp : p_laws_toByteS x0 = some b) : R P env (c_laws_toByteS) ((encA (x0)).map ofI) [] (o_laws_toByteS b) := by
  refine R_of (by simp [c_laws_toByteS, encA]) ?_
  unfold c_laws_toByteS
  unfold p_laws_toByteS at hp
  obtain ⟨v0, hv0, hp⟩ := bind_eq hp
  obtain ⟨kv0, qv0, lv0⟩ := mkL_some hv0
  have rv0 : (List.replicate x0.length [.i (.s (.int .u8 0))]).flatten = rows v0 := by rw [qv0]; exact rows_rep (x := ((U8.mk 0) : U8)) rfl
  have mv0 : x0.length = v0.length := by rw [lv0]; simp
  obtain ⟨ee0, hee0, hp⟩ := bind_eq hp
  simp (disch := first | omega | (simp only [List.length_set, List.length_append, List.length_cons, List.length_nil, rows_len, zs]; first | done | omega)) only [hv0, rv0, kv0.1, kv0.2.1, kv0.2.2.1, kv0.2.2.2, gs, app_hsl, app_nil, reduceIte, reduceCtorEq, Nat.reduceAdd, Nat.reduceMul, Nat.reduceSub, Nat.reduceBEq, Nat.reduceEqDiff, Nat.reduceLeDiff, Nat.reduceLT, Nat.reduceGT, Int.reduceToNat, Int.reduceLT, Int.reduceLE, Int.reduceNeg, Int.reduceAdd, Int.reduceEq, Int.reduceNe]
  refine W_loopP 0 (fun s t h => match s with | (s1, s2) => t 0 = .i (.sl 1 (x0.map enc)) ∧ t 3 = .hsl 1 x0.length 0 1 false x0.length ∧ t 4 = .i (.s (.int .i64 s2)) ∧ getCells h 1 x0.length = some (rows (s1 : List U8)) ∧ 1 < h.length) (RK [.tmp 2] (o_laws_toByteS)) ?_ hee0 ?_ ?_
  · rintro ⟨s1, s2⟩ ee tt0 hh0 ⟨ftt0_0, ftt0_1, ftt0_2, ftt0_3, ftt0_4⟩ hp
    have ztt0_3 := len_rows ftt0_3
    simp only [zs] at ztt0_3
    rw [p_laws_toByteS_l0] at hp
    by_cases hb3 : (decide (s2 < (x0.length : Int))) = true
    · rw [if_t hb3] at hp
      obtain ⟨v4, hv4, hp⟩ := bind_eq hp
      obtain ⟨v5, hv5, hp⟩ := bind_eq hp
      have gv5 := get_some hv5
      have hs6 : List.take s2.toNat (rows s1) ++ .i (.s (.int .u8 v4.v)) :: List.drop (s2.toNat + 1) (rows s1) = rows (s1.set s2.toNat v4) := by simpa [splice, zs, cellsV, I.cells, enc_u8] using rows_set_off (y := v4) (ys := [.i (.s (.int .u8 v4.v))]) (k := 0) gv5.2.2 (Nat.le_of_ble_eq_true rfl) (by rfl)
      have hp := Option.some.inj hp
      subst hp
      simp (disch := first | omega | (simp only [List.length_set, List.length_append, List.length_cons, List.length_nil, rows_len, zs]; first | done | omega)) only [hv0, rv0, kv0.1, kv0.2.1, kv0.2.2.1, kv0.2.2.2, ftt0_0, ftt0_1, ftt0_2, ftt0_3, ftt0_4, hb3, hv4, hv5, (gv5).1, (gv5).2.1, hs6, gs, app_hsl, app_nil, reduceIte, reduceCtorEq, Nat.reduceAdd, Nat.reduceMul, Nat.reduceSub, Nat.reduceBEq, Nat.reduceEqDiff, Nat.reduceLeDiff, Nat.reduceLT, Nat.reduceGT, Int.reduceToNat, Int.reduceLT, Int.reduceLE, Int.reduceNeg, Int.reduceAdd, Int.reduceEq, Int.reduceNe] <;> omega
    · replace hb3 := eq_false_of_ne_true hb3
      rw [if_f hb3] at hp
      have hp := Option.some.inj hp
      subst hp
      simp (disch := first | omega | (simp only [List.length_set, List.length_append, List.length_cons, List.length_nil, rows_len, zs]; first | done | omega)) only [hv0, rv0, kv0.1, kv0.2.1, kv0.2.2.1, kv0.2.2.2, ftt0_0, ftt0_1, ftt0_2, ftt0_3, ftt0_4, hb3, gs, app_hsl, app_nil, reduceIte, reduceCtorEq, Nat.reduceAdd, Nat.reduceMul, Nat.reduceSub, Nat.reduceBEq, Nat.reduceEqDiff, Nat.reduceLeDiff, Nat.reduceLT, Nat.reduceGT, Int.reduceToNat, Int.reduceLT, Int.reduceLE, Int.reduceNeg, Int.reduceAdd, Int.reduceEq, Int.reduceNe] <;> omega
  · simp (disch := first | omega | (simp only [List.length_set, List.length_append, List.length_cons, List.length_nil, rows_len, zs]; first | done | omega)) only [hv0, rv0, kv0.1, kv0.2.1, kv0.2.2.1, kv0.2.2.2, gs, app_hsl, app_nil, reduceIte, reduceCtorEq, Nat.reduceAdd, Nat.reduceMul, Nat.reduceSub, Nat.reduceBEq, Nat.reduceEqDiff, Nat.reduceLeDiff, Nat.reduceLT, Nat.reduceGT, Int.reduceToNat, Int.reduceLT, Int.reduceLE, Int.reduceNeg, Int.reduceAdd, Int.reduceEq, Int.reduceNe] <;> omega
  · intro x tt1 hh1 hx
    rcases ee0 with ⟨o7, o8⟩ | r
    · obtain ⟨rfl, ftt1_0, ftt1_1, ftt1_2, ftt1_3, ftt1_4⟩ := hx
      have ztt1_3 := len_rows ftt1_3
      simp only [zs] at ztt1_3
      dsimp only at hp
      have hp := Option.some.inj hp
      subst hp
      simp (disch := first | omega | (simp only [List.length_set, List.length_append, List.length_cons, List.length_nil, rows_len, zs]; first | done | omega)) only [hv0, rv0, kv0.1, kv0.2.1, kv0.2.2.1, kv0.2.2.2, ftt1_0, ftt1_1, ftt1_2, ftt1_3, ftt1_4, gs, app_hsl, app_nil, reduceIte, reduceCtorEq, Nat.reduceAdd, Nat.reduceMul, Nat.reduceSub, Nat.reduceBEq, Nat.reduceEqDiff, Nat.reduceLeDiff, Nat.reduceLT, Nat.reduceGT, Int.reduceToNat, Int.reduceLT, Int.reduceLE, Int.reduceNeg, Int.reduceAdd, Int.reduceEq, Int.reduceNe]
      refine ⟨1, ?_⟩
      simp (disch := first | omega | (simp only [List.length_set, List.length_append, List.length_cons, List.length_nil, rows_len, zs]; first | done | omega)) only [hv0, rv0, kv0.1, kv0.2.1, kv0.2.2.1, kv0.2.2.2, ftt1_0, ftt1_1, ftt1_2, ftt1_3, ftt1_4, o_laws_toByteS, (show (o7).length = x0.length from by omega), gs, app_hsl, app_nil, reduceIte, reduceCtorEq, Nat.reduceAdd, Nat.reduceMul, Nat.reduceSub, Nat.reduceBEq, Nat.reduceEqDiff, Nat.reduceLeDiff, Nat.reduceLT, Nat.reduceGT, Int.reduceToNat, Int.reduceLT, Int.reduceLE, Int.reduceNeg, Int.reduceAdd, Int.reduceEq, Int.reduceNe] <;> omega
    · obtain ⟨rfl, hx⟩ := hx
      dsimp only at hp
      cases hp
      simp only [seqK_ret, blockK_ret, retK_RK (K := o_laws_toByteS), hx, and_self, true_and]
theorem ko_laws_toByteS {P : Program} {env : Env}  : k_laws_toByteS (ownFn P env (c_laws_toByteS)) := by
  intro x0 b hp h args has
  obtain ⟨⟨v, H2⟩, hr, n0, rfl, wn0⟩ := w_laws_toByteS x0 hp
  exact ⟨_, own_call has hr rfl, keep_moved, n0 + h.length, rfl, (moved_lt wn0).2, (moved_lt wn0).1, moved_rows wn0⟩

noncomputable def p_spec_l01Get_l0 (x0 : List U8) (x1 : Int) : Int × Int × Int → Option (Lp (Int × Int × Int) (T3 Int Int Bool))
  | (s0, s1, s2) =>
    if (decide (s2 < 9)) = true then
      if (decide (w64 (x1 + s2) < (x0.length : Int))) = true then
        (get? x0 (w64 (x1 + s2))).bind fun v5 =>
        if (decide (s2 = 8)) = true then
          if (decide (63 < w64 v5.v)) = true then
            some (.ret ⟨0, 0, false⟩)
          else
            if (decide (w64 v5.v < 128)) = true then
              if (decide (s2 = 0)) = true then
                some (.ret ⟨w64 (s0 + (w64 ((Int.tmod (w64 v5.v) 128) * s1))), w64 ((w64 (x1 + s2)) + 1), true⟩)
              else
                some (.ret ⟨w64 (s0 + (w64 ((Int.tmod (w64 v5.v) 128) * s1))), w64 ((w64 (x1 + s2)) + 1), decide (0 < w64 v5.v)⟩)
            else
              if (decide (s2 < 8)) = true then
                some (.go (w64 (s0 + (w64 ((Int.tmod (w64 v5.v) 128) * s1))), w64 (s1 * 128), w64 (s2 + 1)))
              else
                some (.go (w64 (s0 + (w64 ((Int.tmod (w64 v5.v) 128) * s1))), s1, w64 (s2 + 1)))
        else
          if (decide (w64 v5.v < 128)) = true then
            if (decide (s2 = 0)) = true then
              some (.ret ⟨w64 (s0 + (w64 ((Int.tmod (w64 v5.v) 128) * s1))), w64 ((w64 (x1 + s2)) + 1), true⟩)
            else
              some (.ret ⟨w64 (s0 + (w64 ((Int.tmod (w64 v5.v) 128) * s1))), w64 ((w64 (x1 + s2)) + 1), decide (0 < w64 v5.v)⟩)
          else
            if (decide (s2 < 8)) = true then
              some (.go (w64 (s0 + (w64 ((Int.tmod (w64 v5.v) 128) * s1))), w64 (s1 * 128), w64 (s2 + 1)))
            else
              some (.go (w64 (s0 + (w64 ((Int.tmod (w64 v5.v) 128) * s1))), s1, w64 (s2 + 1)))
      else
        some (.out (s0, s1, s2))
    else
      some (.out (s0, s1, s2))
noncomputable def p_spec_l01Get (x0 : List U8) (x1 : Int) : Option (T3 Int Int Bool) :=
  (loopP (p_spec_l01Get_l0 x0 x1) (0, 1, 0)).bind fun ee0 => match ee0 with
  | .ret r => some r
  | .out (o14, o15, o16) =>
    some ⟨0, 0, false⟩
def c_spec_l01Get : AFn := ⟨59, (.seq (.ops [⟨(.some 4), (.mv (.const (.int .i64 0))), .none, []⟩, ⟨(.some 5), (.mv (.const (.int .i64 0))), .none, []⟩, ⟨(.some 6), (.mv (.const (.bool false))), .none, []⟩]) (.seq (.ops [⟨(.some 7), (.mv (.const (.int .i64 0))), .none, []⟩]) (.seq (.ops [⟨(.some 8), (.mv (.const (.int .i64 1))), .none, []⟩]) (.seq (.seq (.ops [⟨(.some 9), (.mv (.const (.int .i64 0))), .none, []⟩]) (.block 0 (.loop (.seq (.seq (.ops [⟨(.some 11), (.mv (.tmp 9)), .none, []⟩, ⟨(.some 12), (.pu (.n (.ar .lss)) [(.tmp 11), (.const (.int .i64 9))]), .none, []⟩, ⟨(.some 13), (.mv (.tmp 12)), .none, []⟩, ⟨(.some 14), (.mv (.tmp 1)), (.some (13, true)), []⟩, ⟨(.some 15), (.mv (.tmp 9)), (.some (13, true)), []⟩, ⟨(.some 16), (.pu (.n (.ar .add)) [(.tmp 14), (.tmp 15)]), (.some (13, true)), []⟩, ⟨(.some 17), (.mv (.tmp 0)), (.some (13, true)), []⟩, ⟨(.some 18), (.len (.tmp 17)), (.some (13, true)), []⟩, ⟨(.some 19), (.pu (.n (.ar .lss)) [(.tmp 16), (.tmp 18)]), (.some (13, true)), []⟩, ⟨(.some 20), (.pick (.tmp 13) (.tmp 19) (.const (.bool false))), .none, []⟩]) (.cond (.tmp 20) .skip (.exit 0))) (.seq (.block 1 (.seq (.ops [⟨(.some 23), (.mv (.tmp 0)), .none, []⟩, ⟨(.some 24), (.mv (.tmp 1)), .none, []⟩, ⟨(.some 25), (.mv (.tmp 9)), .none, []⟩, ⟨(.some 26), (.pu (.n (.ar .add)) [(.tmp 24), (.tmp 25)]), .none, []⟩, ⟨(.some 27), (.idxS 1 (.tmp 23) (.tmp 26)), .none, []⟩, ⟨(.some 28), (.load 1 false (.tmp 27)), .none, []⟩, ⟨(.some 29), (.pu (.n (.conv .i64)) [(.tmp 28)]), .none, []⟩, ⟨(.some 10), (.mv (.tmp 29)), .none, []⟩]) (.seq (.seq (.ops [⟨(.some 30), (.mv (.tmp 9)), .none, []⟩, ⟨(.some 31), (.pu (.n (.ar .eql)) [(.tmp 30), (.const (.int .i64 8))]), .none, []⟩, ⟨(.some 32), (.mv (.tmp 31)), .none, []⟩, ⟨(.some 33), (.mv (.tmp 10)), (.some (32, true)), []⟩, ⟨(.some 34), (.pu (.n (.ar .gtr)) [(.tmp 33), (.const (.int .i64 63))]), (.some (32, true)), []⟩, ⟨(.some 35), (.pick (.tmp 32) (.tmp 34) (.const (.bool false))), .none, []⟩]) (.cond (.tmp 35) (.seq (.ops [⟨(.some 4), (.mv (.const (.int .i64 0))), .none, []⟩, ⟨(.some 5), (.mv (.const (.int .i64 0))), .none, []⟩, ⟨(.some 6), (.mv (.const (.bool false))), .none, []⟩]) .ret) .skip)) (.seq (.ops [⟨(.some 36), (.mv (.tmp 7)), .none, []⟩, ⟨(.some 37), (.mv (.tmp 10)), .none, []⟩, ⟨(.some 38), (.pu (.n (.ar .rem)) [(.tmp 37), (.const (.int .i64 128))]), .none, []⟩, ⟨(.some 39), (.mv (.tmp 8)), .none, []⟩, ⟨(.some 40), (.pu (.n (.ar .mul)) [(.tmp 38), (.tmp 39)]), .none, []⟩, ⟨(.some 41), (.pu (.n (.ar .add)) [(.tmp 36), (.tmp 40)]), .none, []⟩, ⟨(.some 7), (.mv (.tmp 41)), .none, []⟩]) (.seq (.seq (.ops [⟨(.some 42), (.mv (.tmp 10)), .none, []⟩, ⟨(.some 43), (.pu (.n (.ar .lss)) [(.tmp 42), (.const (.int .i64 128))]), .none, []⟩]) (.cond (.tmp 43) (.seq (.ops [⟨(.some 44), (.mv (.tmp 7)), .none, []⟩, ⟨(.some 45), (.mv (.tmp 1)), .none, []⟩, ⟨(.some 46), (.mv (.tmp 9)), .none, []⟩, ⟨(.some 47), (.pu (.n (.ar .add)) [(.tmp 45), (.tmp 46)]), .none, []⟩, ⟨(.some 48), (.pu (.n (.ar .add)) [(.tmp 47), (.const (.int .i64 1))]), .none, []⟩, ⟨(.some 49), (.mv (.tmp 9)), .none, []⟩, ⟨(.some 50), (.pu (.n (.ar .eql)) [(.tmp 49), (.const (.int .i64 0))]), .none, []⟩, ⟨(.some 51), (.mv (.tmp 50)), .none, []⟩, ⟨(.some 52), (.mv (.tmp 10)), (.some (51, false)), []⟩, ⟨(.some 53), (.pu (.n (.ar .gtr)) [(.tmp 52), (.const (.int .i64 0))]), (.some (51, false)), []⟩, ⟨(.some 54), (.pick (.tmp 51) (.const (.bool true)) (.tmp 53)), .none, []⟩, ⟨(.some 4), (.mv (.tmp 44)), .none, []⟩, ⟨(.some 5), (.mv (.tmp 48)), .none, []⟩, ⟨(.some 6), (.mv (.tmp 54)), .none, []⟩]) .ret) .skip)) (.seq (.ops [⟨(.some 55), (.mv (.tmp 9)), .none, []⟩, ⟨(.some 56), (.pu (.n (.ar .lss)) [(.tmp 55), (.const (.int .i64 8))]), .none, []⟩]) (.cond (.tmp 56) (.ops [⟨(.some 57), (.mv (.tmp 8)), .none, []⟩, ⟨(.some 58), (.pu (.n (.ar .mul)) [(.tmp 57), (.const (.int .i64 128))]), .none, []⟩, ⟨(.some 8), (.mv (.tmp 58)), .none, []⟩]) .skip))))))) (.ops [⟨(.some 21), (.mv (.tmp 9)), .none, []⟩, ⟨(.some 22), (.pu (.n (.ar .add)) [(.tmp 21), (.const (.int .i64 1))]), .none, []⟩, ⟨(.some 9), (.mv (.tmp 22)), .none, []⟩])))))) (.seq (.ops [⟨(.some 4), (.mv (.const (.int .i64 0))), .none, []⟩, ⟨(.some 5), (.mv (.const (.int .i64 0))), .none, []⟩, ⟨(.some 6), (.mv (.const (.bool false))), .none, []⟩]) .ret))))), [(.tmp 4), (.tmp 5), (.tmp 6)]⟩
set_option maxHeartbeats 10000000 in
theorem d_spec_l01Get {P : Program} {env : Env}  (x0 : List U8) (x1 : Int) {b : T3 Int Int Bool} (hp : p_spec_l01Get x0 x1 = some b) : R P env (c_spec_l01Get) ((encA (x0, x1)).map ofI) [] (Tells true b) := by
  refine R_of (by simp [c_spec_l01Get, encA]) ?_
  unfold c_spec_l01Get
  unfold p_spec_l01Get at hp
  obtain ⟨ee0, hee0, hp⟩ := bind_eq hp
  simp (disch := first | omega | (simp only [List.length_set, List.length_append, List.length_cons, List.length_nil, rows_len, zs]; first | done | omega)) only [gs, app_hsl, app_nil, reduceIte, reduceCtorEq, Nat.reduceAdd, Nat.reduceMul, Nat.reduceSub, Nat.reduceBEq, Nat.reduceEqDiff, Nat.reduceLeDiff, Nat.reduceLT, Nat.reduceGT, Int.reduceToNat, Int.reduceLT, Int.reduceLE, Int.reduceNeg, Int.reduceAdd, Int.reduceEq, Int.reduceNe]
  refine W_loopP 0 (fun s t h => match s with | (s0, s1, s2) => t 0 = .i (.sl 1 (x0.map enc)) ∧ t 1 = .i (.s (.int .i64 x1)) ∧ t 7 = .i (.s (.int .i64 s0)) ∧ t 8 = .i (.s (.int .i64 s1)) ∧ t 9 = .i (.s (.int .i64 s2))) (RK [.tmp 4, .tmp 5, .tmp 6] (Tells true)) ?_ hee0 ?_ ?_
  · rintro ⟨s0, s1, s2⟩ ee tt0 hh0 ⟨ftt0_0, ftt0_1, ftt0_2, ftt0_3, ftt0_4⟩ hp
    rw [p_spec_l01Get_l0] at hp
    by_cases hb3 : (decide (s2 < 9)) = true
    · rw [if_t hb3] at hp
      by_cases hb4 : (decide (w64 (x1 + s2) < (x0.length : Int))) = true
      · rw [if_t hb4] at hp
        obtain ⟨v5, hv5, hp⟩ := bind_eq hp
        by_cases hb6 : (decide (s2 = 8)) = true
        · rw [if_t hb6] at hp
          by_cases hb7 : (decide (63 < w64 v5.v)) = true
          · rw [if_t hb7] at hp
            have hp := Option.some.inj hp
            subst hp
            simp (disch := first | omega | (simp only [List.length_set, List.length_append, List.length_cons, List.length_nil, rows_len, zs]; first | done | omega)) only [ftt0_0, ftt0_1, ftt0_2, ftt0_3, ftt0_4, hb3, hb4, hv5, hb6, hb7, gs, app_hsl, app_nil, reduceIte, reduceCtorEq, Nat.reduceAdd, Nat.reduceMul, Nat.reduceSub, Nat.reduceBEq, Nat.reduceEqDiff, Nat.reduceLeDiff, Nat.reduceLT, Nat.reduceGT, Int.reduceToNat, Int.reduceLT, Int.reduceLE, Int.reduceNeg, Int.reduceAdd, Int.reduceEq, Int.reduceNe]
          · replace hb7 := eq_false_of_ne_true hb7
            rw [if_f hb7] at hp
            by_cases hb8 : (decide (w64 v5.v < 128)) = true
            · rw [if_t hb8] at hp
              by_cases hb9 : (decide (s2 = 0)) = true
              · rw [if_t hb9] at hp
                have hp := Option.some.inj hp
                subst hp
                simp (disch := first | omega | (simp only [List.length_set, List.length_append, List.length_cons, List.length_nil, rows_len, zs]; first | done | omega)) only [ftt0_0, ftt0_1, ftt0_2, ftt0_3, ftt0_4, hb3, hb4, hv5, hb6, hb7, hb8, hb9, gs, app_hsl, app_nil, reduceIte, reduceCtorEq, Nat.reduceAdd, Nat.reduceMul, Nat.reduceSub, Nat.reduceBEq, Nat.reduceEqDiff, Nat.reduceLeDiff, Nat.reduceLT, Nat.reduceGT, Int.reduceToNat, Int.reduceLT, Int.reduceLE, Int.reduceNeg, Int.reduceAdd, Int.reduceEq, Int.reduceNe]
              · replace hb9 := eq_false_of_ne_true hb9
                rw [if_f hb9] at hp
                have hp := Option.some.inj hp
                subst hp
                simp (disch := first | omega | (simp only [List.length_set, List.length_append, List.length_cons, List.length_nil, rows_len, zs]; first | done | omega)) only [ftt0_0, ftt0_1, ftt0_2, ftt0_3, ftt0_4, hb3, hb4, hv5, hb6, hb7, hb8, hb9, gs, app_hsl, app_nil, reduceIte, reduceCtorEq, Nat.reduceAdd, Nat.reduceMul, Nat.reduceSub, Nat.reduceBEq, Nat.reduceEqDiff, Nat.reduceLeDiff, Nat.reduceLT, Nat.reduceGT, Int.reduceToNat, Int.reduceLT, Int.reduceLE, Int.reduceNeg, Int.reduceAdd, Int.reduceEq, Int.reduceNe]
            · replace hb8 := eq_false_of_ne_true hb8
              rw [if_f hb8] at hp
              by_cases hb10 : (decide (s2 < 8)) = true
              · rw [if_t hb10] at hp
                have hp := Option.some.inj hp
                subst hp
                simp (disch := first | omega | (simp only [List.length_set, List.length_append, List.length_cons, List.length_nil, rows_len, zs]; first | done | omega)) only [ftt0_0, ftt0_1, ftt0_2, ftt0_3, ftt0_4, hb3, hb4, hv5, hb6, hb7, hb8, hb10, gs, app_hsl, app_nil, reduceIte, reduceCtorEq, Nat.reduceAdd, Nat.reduceMul, Nat.reduceSub, Nat.reduceBEq, Nat.reduceEqDiff, Nat.reduceLeDiff, Nat.reduceLT, Nat.reduceGT, Int.reduceToNat, Int.reduceLT, Int.reduceLE, Int.reduceNeg, Int.reduceAdd, Int.reduceEq, Int.reduceNe] <;> omega
              · replace hb10 := eq_false_of_ne_true hb10
                rw [if_f hb10] at hp
                have hp := Option.some.inj hp
                subst hp
                simp (disch := first | omega | (simp only [List.length_set, List.length_append, List.length_cons, List.length_nil, rows_len, zs]; first | done | omega)) only [ftt0_0, ftt0_1, ftt0_2, ftt0_3, ftt0_4, hb3, hb4, hv5, hb6, hb7, hb8, hb10, gs, app_hsl, app_nil, reduceIte, reduceCtorEq, Nat.reduceAdd, Nat.reduceMul, Nat.reduceSub, Nat.reduceBEq, Nat.reduceEqDiff, Nat.reduceLeDiff, Nat.reduceLT, Nat.reduceGT, Int.reduceToNat, Int.reduceLT, Int.reduceLE, Int.reduceNeg, Int.reduceAdd, Int.reduceEq, Int.reduceNe] <;> omega
        · replace hb6 := eq_false_of_ne_true hb6
          rw [if_f hb6] at hp
          by_cases hb11 : (decide (w64 v5.v < 128)) = true
          · rw [if_t hb11] at hp
            by_cases hb12 : (decide (s2 = 0)) = true
            · rw [if_t hb12] at hp
              have hp := Option.some.inj hp
              subst hp
              simp (disch := first | omega | (simp only [List.length_set, List.length_append, List.length_cons, List.length_nil, rows_len, zs]; first | done | omega)) only [ftt0_0, ftt0_1, ftt0_2, ftt0_3, ftt0_4, hb3, hb4, hv5, hb6, hb11, hb12, gs, app_hsl, app_nil, reduceIte, reduceCtorEq, Nat.reduceAdd, Nat.reduceMul, Nat.reduceSub, Nat.reduceBEq, Nat.reduceEqDiff, Nat.reduceLeDiff, Nat.reduceLT, Nat.reduceGT, Int.reduceToNat, Int.reduceLT, Int.reduceLE, Int.reduceNeg, Int.reduceAdd, Int.reduceEq, Int.reduceNe]
            · replace hb12 := eq_false_of_ne_true hb12
              rw [if_f hb12] at hp
              have hp := Option.some.inj hp
              subst hp
              simp (disch := first | omega | (simp only [List.length_set, List.length_append, List.length_cons, List.length_nil, rows_len, zs]; first | done | omega)) only [ftt0_0, ftt0_1, ftt0_2, ftt0_3, ftt0_4, hb3, hb4, hv5, hb6, hb11, hb12, gs, app_hsl, app_nil, reduceIte, reduceCtorEq, Nat.reduceAdd, Nat.reduceMul, Nat.reduceSub, Nat.reduceBEq, Nat.reduceEqDiff, Nat.reduceLeDiff, Nat.reduceLT, Nat.reduceGT, Int.reduceToNat, Int.reduceLT, Int.reduceLE, Int.reduceNeg, Int.reduceAdd, Int.reduceEq, Int.reduceNe]
          · replace hb11 := eq_false_of_ne_true hb11
            rw [if_f hb11] at hp
            by_cases hb13 : (decide (s2 < 8)) = true
            · rw [if_t hb13] at hp
              have hp := Option.some.inj hp
              subst hp
              simp (disch := first | omega | (simp only [List.length_set, List.length_append, List.length_cons, List.length_nil, rows_len, zs]; first | done | omega)) only [ftt0_0, ftt0_1, ftt0_2, ftt0_3, ftt0_4, hb3, hb4, hv5, hb6, hb11, hb13, gs, app_hsl, app_nil, reduceIte, reduceCtorEq, Nat.reduceAdd, Nat.reduceMul, Nat.reduceSub, Nat.reduceBEq, Nat.reduceEqDiff, Nat.reduceLeDiff, Nat.reduceLT, Nat.reduceGT, Int.reduceToNat, Int.reduceLT, Int.reduceLE, Int.reduceNeg, Int.reduceAdd, Int.reduceEq, Int.reduceNe] <;> omega
            · replace hb13 := eq_false_of_ne_true hb13
              rw [if_f hb13] at hp
              have hp := Option.some.inj hp
              subst hp
              simp (disch := first | omega | (simp only [List.length_set, List.length_append, List.length_cons, List.length_nil, rows_len, zs]; first | done | omega)) only [ftt0_0, ftt0_1, ftt0_2, ftt0_3, ftt0_4, hb3, hb4, hv5, hb6, hb11, hb13, gs, app_hsl, app_nil, reduceIte, reduceCtorEq, Nat.reduceAdd, Nat.reduceMul, Nat.reduceSub, Nat.reduceBEq, Nat.reduceEqDiff, Nat.reduceLeDiff, Nat.reduceLT, Nat.reduceGT, Int.reduceToNat, Int.reduceLT, Int.reduceLE, Int.reduceNeg, Int.reduceAdd, Int.reduceEq, Int.reduceNe] <;> omega
      · replace hb4 := eq_false_of_ne_true hb4
        rw [if_f hb4] at hp
        have hp := Option.some.inj hp
        subst hp
        simp (disch := first | omega | (simp only [List.length_set, List.length_append, List.length_cons, List.length_nil, rows_len, zs]; first | done | omega)) only [ftt0_0, ftt0_1, ftt0_2, ftt0_3, ftt0_4, hb3, hb4, gs, app_hsl, app_nil, reduceIte, reduceCtorEq, Nat.reduceAdd, Nat.reduceMul, Nat.reduceSub, Nat.reduceBEq, Nat.reduceEqDiff, Nat.reduceLeDiff, Nat.reduceLT, Nat.reduceGT, Int.reduceToNat, Int.reduceLT, Int.reduceLE, Int.reduceNeg, Int.reduceAdd, Int.reduceEq, Int.reduceNe] <;> omega
    · replace hb3 := eq_false_of_ne_true hb3
      rw [if_f hb3] at hp
      have hp := Option.some.inj hp
      subst hp
      simp (disch := first | omega | (simp only [List.length_set, List.length_append, List.length_cons, List.length_nil, rows_len, zs]; first | done | omega)) only [ftt0_0, ftt0_1, ftt0_2, ftt0_3, ftt0_4, hb3, gs, app_hsl, app_nil, reduceIte, reduceCtorEq, Nat.reduceAdd, Nat.reduceMul, Nat.reduceSub, Nat.reduceBEq, Nat.reduceEqDiff, Nat.reduceLeDiff, Nat.reduceLT, Nat.reduceGT, Int.reduceToNat, Int.reduceLT, Int.reduceLE, Int.reduceNeg, Int.reduceAdd, Int.reduceEq, Int.reduceNe] <;> omega
  · simp (disch := first | omega | (simp only [List.length_set, List.length_append, List.length_cons, List.length_nil, rows_len, zs]; first | done | omega)) only [gs, app_hsl, app_nil, reduceIte, reduceCtorEq, Nat.reduceAdd, Nat.reduceMul, Nat.reduceSub, Nat.reduceBEq, Nat.reduceEqDiff, Nat.reduceLeDiff, Nat.reduceLT, Nat.reduceGT, Int.reduceToNat, Int.reduceLT, Int.reduceLE, Int.reduceNeg, Int.reduceAdd, Int.reduceEq, Int.reduceNe] <;> omega
  · intro x tt1 hh1 hx
    rcases ee0 with ⟨o14, o15, o16⟩ | r
    · obtain ⟨rfl, ftt1_0, ftt1_1, ftt1_2, ftt1_3, ftt1_4⟩ := hx
      dsimp only at hp
      have hp := Option.some.inj hp
      subst hp
      simp (disch := first | omega | (simp only [List.length_set, List.length_append, List.length_cons, List.length_nil, rows_len, zs]; first | done | omega)) only [ftt1_0, ftt1_1, ftt1_2, ftt1_3, ftt1_4, gs, app_hsl, app_nil, reduceIte, reduceCtorEq, Nat.reduceAdd, Nat.reduceMul, Nat.reduceSub, Nat.reduceBEq, Nat.reduceEqDiff, Nat.reduceLeDiff, Nat.reduceLT, Nat.reduceGT, Int.reduceToNat, Int.reduceLT, Int.reduceLE, Int.reduceNeg, Int.reduceAdd, Int.reduceEq, Int.reduceNe]
    · obtain ⟨rfl, hx⟩ := hx
      dsimp only at hp
      cases hp
      simp only [seqK_ret, blockK_ret, retK_RK (K := Tells true), hx, and_self, true_and]

noncomputable def p_spec_GetInt (x0 : List U8) (x1 : Int) : Option (T3 Int Int Int) :=
  if (decide (1048576 < (x0.length : Int))) = true then
    some ⟨0, 0, 2⟩
  else
    if (decide (x1 < 0)) = true then
      some ⟨0, 0, 1⟩
    else
      if (decide ((x0.length : Int) < x1)) = true then
        some ⟨0, 0, 1⟩
      else
        (p_spec_l01Get x0 x1).bind fun v3 =>
        if (v3.c) = true then
          some ⟨v3.a, v3.b, 0⟩
        else
          some ⟨0, 0, 3⟩
def c_spec_GetInt (f_spec_l01Get : Nat) : AFn := ⟨32, (.seq (.ops [⟨(.some 4), (.mv (.const (.int .i64 0))), .none, []⟩, ⟨(.some 5), (.mv (.const (.int .i64 0))), .none, []⟩, ⟨(.some 6), (.mv (.const (.int .i64 0))), .none, []⟩]) (.seq (.seq (.ops [⟨(.some 10), (.mv (.tmp 0)), .none, []⟩, ⟨(.some 11), (.len (.tmp 10)), .none, []⟩, ⟨(.some 12), (.pu (.n (.ar .gtr)) [(.tmp 11), (.const (.int .i64 1048576))]), .none, []⟩]) (.cond (.tmp 12) (.seq (.ops [⟨(.some 4), (.mv (.const (.int .i64 0))), .none, []⟩, ⟨(.some 5), (.mv (.const (.int .i64 0))), .none, []⟩, ⟨(.some 6), (.mv (.const (.int .i64 2))), .none, []⟩]) .ret) .skip)) (.seq (.seq (.ops [⟨(.some 13), (.mv (.tmp 1)), .none, []⟩, ⟨(.some 14), (.pu (.n (.ar .lss)) [(.tmp 13), (.const (.int .i64 0))]), .none, []⟩, ⟨(.some 15), (.mv (.tmp 14)), .none, []⟩, ⟨(.some 16), (.mv (.tmp 1)), (.some (15, false)), []⟩, ⟨(.some 17), (.mv (.tmp 0)), (.some (15, false)), []⟩, ⟨(.some 18), (.len (.tmp 17)), (.some (15, false)), []⟩, ⟨(.some 19), (.pu (.n (.ar .gtr)) [(.tmp 16), (.tmp 18)]), (.some (15, false)), []⟩, ⟨(.some 20), (.pick (.tmp 15) (.const (.bool true)) (.tmp 19)), .none, []⟩]) (.cond (.tmp 20) (.seq (.ops [⟨(.some 4), (.mv (.const (.int .i64 0))), .none, []⟩, ⟨(.some 5), (.mv (.const (.int .i64 0))), .none, []⟩, ⟨(.some 6), (.mv (.const (.int .i64 1))), .none, []⟩]) .ret) .skip)) (.seq (.ops [⟨(.some 22), (.mv (.tmp 0)), .none, []⟩, ⟨(.some 23), (.mv (.tmp 1)), .none, []⟩, ⟨(.some 24), (.call (2 * f_spec_l01Get) [(.tmp 22), (.tmp 23)]), .none, []⟩, ⟨(.some 21), (.mv (.tmp 24)), .none, []⟩, ⟨(.some 25), (.extract 0 (.tmp 21)), .none, []⟩, ⟨(.some 26), (.extract 1 (.tmp 21)), .none, []⟩, ⟨(.some 27), (.extract 2 (.tmp 21)), .none, []⟩, ⟨(.some 7), (.mv (.tmp 25)), .none, []⟩, ⟨(.some 8), (.mv (.tmp 26)), .none, []⟩, ⟨(.some 9), (.mv (.tmp 27)), .none, []⟩]) (.seq (.seq (.ops [⟨(.some 28), (.mv (.tmp 9)), .none, []⟩, ⟨(.some 29), (.pu (.n (.un .not)) [(.tmp 28)]), .none, []⟩]) (.cond (.tmp 29) (.seq (.ops [⟨(.some 4), (.mv (.const (.int .i64 0))), .none, []⟩, ⟨(.some 5), (.mv (.const (.int .i64 0))), .none, []⟩, ⟨(.some 6), (.mv (.const (.int .i64 3))), .none, []⟩]) .ret) .skip)) (.seq (.ops [⟨(.some 30), (.mv (.tmp 7)), .none, []⟩, ⟨(.some 31), (.mv (.tmp 8)), .none, []⟩, ⟨(.some 4), (.mv (.tmp 30)), .none, []⟩, ⟨(.some 5), (.mv (.tmp 31)), .none, []⟩, ⟨(.some 6), (.mv (.const (.int .i64 0))), .none, []⟩]) .ret)))))), [(.tmp 4), (.tmp 5), (.tmp 6)]⟩
set_option maxHeartbeats 10000000 in
theorem d_spec_GetInt {P : Program} {env : Env} {f_spec_l01Get : Nat}  (ep_spec_l01Get : env (2 * f_spec_l01Get) = pureFn true (FA fun a : List U8 × Int => p_spec_l01Get a.1 a.2)) (x0 : List U8) (x1 : Int) {b : T3 Int Int Int} (hp : p_spec_GetInt x0 x1 = some b) : R P env (c_spec_GetInt f_spec_l01Get) ((encA (x0, x1)).map ofI) [] (Tells true b) := by
  refine R_of (by simp [c_spec_GetInt, encA]) ?_
  unfold c_spec_GetInt
  unfold p_spec_GetInt at hp
  by_cases hb0 : (decide (1048576 < (x0.length : Int))) = true
  · rw [if_t hb0] at hp
    have hp := Option.some.inj hp
    subst hp
    simp (disch := first | omega | (simp only [List.length_set, List.length_append, List.length_cons, List.length_nil, rows_len, zs]; first | done | omega)) only [ep_spec_l01Get, hb0, gs, app_hsl, app_nil, reduceIte, reduceCtorEq, Nat.reduceAdd, Nat.reduceMul, Nat.reduceSub, Nat.reduceBEq, Nat.reduceEqDiff, Nat.reduceLeDiff, Nat.reduceLT, Nat.reduceGT, Int.reduceToNat, Int.reduceLT, Int.reduceLE, Int.reduceNeg, Int.reduceAdd, Int.reduceEq, Int.reduceNe]
  · replace hb0 := eq_false_of_ne_true hb0
    rw [if_f hb0] at hp
    by_cases hb1 : (decide (x1 < 0)) = true
    · rw [if_t hb1] at hp
      have hp := Option.some.inj hp
      subst hp
      simp (disch := first | omega | (simp only [List.length_set, List.length_append, List.length_cons, List.length_nil, rows_len, zs]; first | done | omega)) only [ep_spec_l01Get, hb0, hb1, gs, app_hsl, app_nil, reduceIte, reduceCtorEq, Nat.reduceAdd, Nat.reduceMul, Nat.reduceSub, Nat.reduceBEq, Nat.reduceEqDiff, Nat.reduceLeDiff, Nat.reduceLT, Nat.reduceGT, Int.reduceToNat, Int.reduceLT, Int.reduceLE, Int.reduceNeg, Int.reduceAdd, Int.reduceEq, Int.reduceNe]
    · replace hb1 := eq_false_of_ne_true hb1
      rw [if_f hb1] at hp
      by_cases hb2 : (decide ((x0.length : Int) < x1)) = true
      · rw [if_t hb2] at hp
        have hp := Option.some.inj hp
        subst hp
        simp (disch := first | omega | (simp only [List.length_set, List.length_append, List.length_cons, List.length_nil, rows_len, zs]; first | done | omega)) only [ep_spec_l01Get, hb0, hb1, hb2, gs, app_hsl, app_nil, reduceIte, reduceCtorEq, Nat.reduceAdd, Nat.reduceMul, Nat.reduceSub, Nat.reduceBEq, Nat.reduceEqDiff, Nat.reduceLeDiff, Nat.reduceLT, Nat.reduceGT, Int.reduceToNat, Int.reduceLT, Int.reduceLE, Int.reduceNeg, Int.reduceAdd, Int.reduceEq, Int.reduceNe]
      · replace hb2 := eq_false_of_ne_true hb2
        rw [if_f hb2] at hp
        obtain ⟨v3, hv3, hp⟩ := bind_eq hp
        by_cases hb4 : (v3.c) = true
        · rw [if_t hb4] at hp
          have hp := Option.some.inj hp
          subst hp
          simp (disch := first | omega | (simp only [List.length_set, List.length_append, List.length_cons, List.length_nil, rows_len, zs]; first | done | omega)) only [ep_spec_l01Get, hb0, hb1, hb2, hv3, hb4, gs, app_hsl, app_nil, reduceIte, reduceCtorEq, Nat.reduceAdd, Nat.reduceMul, Nat.reduceSub, Nat.reduceBEq, Nat.reduceEqDiff, Nat.reduceLeDiff, Nat.reduceLT, Nat.reduceGT, Int.reduceToNat, Int.reduceLT, Int.reduceLE, Int.reduceNeg, Int.reduceAdd, Int.reduceEq, Int.reduceNe]
        · replace hb4 := eq_false_of_ne_true hb4
          rw [if_f hb4] at hp
          have hp := Option.some.inj hp
          subst hp
          simp (disch := first | omega | (simp only [List.length_set, List.length_append, List.length_cons, List.length_nil, rows_len, zs]; first | done | omega)) only [ep_spec_l01Get, hb0, hb1, hb2, hv3, hb4, gs, app_hsl, app_nil, reduceIte, reduceCtorEq, Nat.reduceAdd, Nat.reduceMul, Nat.reduceSub, Nat.reduceBEq, Nat.reduceEqDiff, Nat.reduceLeDiff, Nat.reduceLT, Nat.reduceGT, Int.reduceToNat, Int.reduceLT, Int.reduceLE, Int.reduceNeg, Int.reduceAdd, Int.reduceEq, Int.reduceNe]

noncomputable def p_impl_reader_num_l0 (x0 : TReader) : Int × Int × Int → Option (Lp (Int × Int × Int) (T2 Int TReader))
  | (s0, s1, s2) =>
    if (x0.bad) = true then
      some (.out (s0, s1, s2))
    else
      if (decide ((x0.b.length : Int) ≤ s0)) = true then
        some (.ret ⟨0, (TReader.mk x0.b s0 true)⟩)
      else
        if (decide (56 < s2)) = true then
          some (.ret ⟨0, (TReader.mk x0.b s0 true)⟩)
        else
          (get? x0.b s0).bind fun v6 =>
          if (decide (s2 = 56)) = true then
            if (decide (63 < v6.v)) = true then
              some (.ret ⟨0, (TReader.mk x0.b (w64 (s0 + 1)) true)⟩)
            else
              (shl? .u64 (IntKind.wrap .u64 (andI .u8 v6.v 127)) s2).bind fun v9 =>
              if (decide (v6.v < 128)) = true then
                if (decide (v6.v = 0)) = true then
                  if (decide (0 < s2)) = true then
                    some (.ret ⟨0, (TReader.mk x0.b (w64 (s0 + 1)) true)⟩)
                  else
                    some (.ret ⟨w64 (orI .u64 s1 v9), (TReader.mk x0.b (w64 (s0 + 1)) x0.bad)⟩)
                else
                  some (.ret ⟨w64 (orI .u64 s1 v9), (TReader.mk x0.b (w64 (s0 + 1)) x0.bad)⟩)
              else
                some (.go (w64 (s0 + 1), orI .u64 s1 v9, IntKind.wrap .u64 (s2 + 7)))
          else
            (shl? .u64 (IntKind.wrap .u64 (andI .u8 v6.v 127)) s2).bind fun v13 =>
            if (decide (v6.v < 128)) = true then
              if (decide (v6.v = 0)) = true then
                if (decide (0 < s2)) = true then
                  some (.ret ⟨0, (TReader.mk x0.b (w64 (s0 + 1)) true)⟩)
                else
                  some (.ret ⟨w64 (orI .u64 s1 v13), (TReader.mk x0.b (w64 (s0 + 1)) x0.bad)⟩)
              else
                some (.ret ⟨w64 (orI .u64 s1 v13), (TReader.mk x0.b (w64 (s0 + 1)) x0.bad)⟩)
            else
              some (.go (w64 (s0 + 1), orI .u64 s1 v13, IntKind.wrap .u64 (s2 + 7)))
noncomputable def p_impl_reader_num (x0 : TReader) : Option (T2 Int TReader) :=
  (loopP (p_impl_reader_num_l0 x0) (x0.at_, 0, 0)).bind fun ee0 => match ee0 with
  | .ret r => some r
  | .out (o17, o18, o19) =>
    some ⟨0, (TReader.mk x0.b o17 x0.bad)⟩
def c_impl_reader_num : AFn := ⟨76, (.seq (.ops [⟨(.some 2), (.mv (.const (.int .i64 0))), .none, []⟩]) (.seq (.ops [⟨(.some 3), (.mv (.const (.int .u64 0))), .none, []⟩, ⟨(.some 4), (.mv (.const (.int .u64 0))), .none, []⟩]) (.seq (.block 0 (.loop (.seq (.seq (.ops [⟨(.some 6), (.mv (.tmp 0)), .none, []⟩, ⟨(.some 7), (.nilChk (.tmp 6)), .none, []⟩, ⟨(.some 8), (.fieldA 2 (.tmp 7)), .none, []⟩, ⟨(.some 9), (.load 1 false (.tmp 8)), .none, []⟩, ⟨(.some 10), (.pu (.n (.un .not)) [(.tmp 9)]), .none, []⟩]) (.cond (.tmp 10) .skip (.exit 0))) (.block 1 (.seq (.seq (.ops [⟨(.some 11), (.mv (.tmp 0)), .none, []⟩, ⟨(.some 12), (.nilChk (.tmp 11)), .none, []⟩, ⟨(.some 13), (.fieldA 1 (.tmp 12)), .none, []⟩, ⟨(.some 14), (.load 1 false (.tmp 13)), .none, []⟩, ⟨(.some 15), (.mv (.tmp 0)), .none, []⟩, ⟨(.some 16), (.nilChk (.tmp 15)), .none, []⟩, ⟨(.some 17), (.fieldA 0 (.tmp 16)), .none, []⟩, ⟨(.some 18), (.load 1 false (.tmp 17)), .none, []⟩, ⟨(.some 19), (.len (.tmp 18)), .none, []⟩, ⟨(.some 20), (.pu (.n (.ar .geq)) [(.tmp 14), (.tmp 19)]), .none, []⟩, ⟨(.some 21), (.mv (.tmp 20)), .none, []⟩, ⟨(.some 22), (.mv (.tmp 4)), (.some (21, false)), []⟩, ⟨(.some 23), (.pu (.n (.ar .gtr)) [(.tmp 22), (.const (.int .u64 56))]), (.some (21, false)), []⟩, ⟨(.some 24), (.pick (.tmp 21) (.const (.bool true)) (.tmp 23)), .none, []⟩]) (.cond (.tmp 24) (.seq (.ops [⟨(.some 25), (.mv (.tmp 0)), .none, []⟩, ⟨(.some 26), (.nilChk (.tmp 25)), .none, []⟩, ⟨(.some 27), (.fieldA 2 (.tmp 26)), .none, []⟩, ⟨.none, (.storeV [(0, false)] 1 (.tmp 27) (.const (.bool true))), .none, []⟩]) (.seq (.ops [⟨(.some 2), (.mv (.const (.int .i64 0))), .none, []⟩]) .ret)) .skip)) (.seq (.ops [⟨(.some 28), (.mv (.tmp 0)), .none, []⟩, ⟨(.some 29), (.nilChk (.tmp 28)), .none, []⟩, ⟨(.some 30), (.fieldA 0 (.tmp 29)), .none, []⟩, ⟨(.some 31), (.load 1 false (.tmp 30)), .none, []⟩, ⟨(.some 32), (.mv (.tmp 0)), .none, []⟩, ⟨(.some 33), (.nilChk (.tmp 32)), .none, []⟩, ⟨(.some 34), (.fieldA 1 (.tmp 33)), .none, []⟩, ⟨(.some 35), (.load 1 false (.tmp 34)), .none, []⟩, ⟨(.some 36), (.idxS 1 (.tmp 31) (.tmp 35)), .none, []⟩, ⟨(.some 37), (.load 1 false (.tmp 36)), .none, []⟩, ⟨(.some 5), (.mv (.tmp 37)), .none, []⟩]) (.seq (.ops [⟨(.some 38), (.mv (.tmp 0)), .none, []⟩, ⟨(.some 39), (.nilChk (.tmp 38)), .none, []⟩, ⟨(.some 40), (.fieldA 1 (.tmp 39)), .none, []⟩, ⟨(.some 41), (.load 1 false (.tmp 40)), .none, []⟩, ⟨(.some 42), (.pu (.n (.ar .add)) [(.tmp 41), (.const (.int .i64 1))]), .none, []⟩, ⟨(.some 43), (.nilChk (.tmp 38)), .none, []⟩, ⟨(.some 44), (.fieldA 1 (.tmp 43)), .none, []⟩, ⟨.none, (.storeV [(0, false)] 1 (.tmp 44) (.tmp 42)), .none, []⟩]) (.seq (.seq (.ops [⟨(.some 45), (.mv (.tmp 4)), .none, []⟩, ⟨(.some 46), (.pu (.n (.ar .eql)) [(.tmp 45), (.const (.int .u64 56))]), .none, []⟩, ⟨(.some 47), (.mv (.tmp 46)), .none, []⟩, ⟨(.some 48), (.mv (.tmp 5)), (.some (47, true)), []⟩, ⟨(.some 49), (.pu (.n (.ar .gtr)) [(.tmp 48), (.const (.int .u8 63))]), (.some (47, true)), []⟩, ⟨(.some 50), (.pick (.tmp 47) (.tmp 49) (.const (.bool false))), .none, []⟩]) (.cond (.tmp 50) (.seq (.ops [⟨(.some 51), (.mv (.tmp 0)), .none, []⟩, ⟨(.some 52), (.nilChk (.tmp 51)), .none, []⟩, ⟨(.some 53), (.fieldA 2 (.tmp 52)), .none, []⟩, ⟨.none, (.storeV [(0, false)] 1 (.tmp 53) (.const (.bool true))), .none, []⟩]) (.seq (.ops [⟨(.some 2), (.mv (.const (.int .i64 0))), .none, []⟩]) .ret)) .skip)) (.seq (.ops [⟨(.some 54), (.mv (.tmp 3)), .none, []⟩, ⟨(.some 55), (.mv (.tmp 5)), .none, []⟩, ⟨(.some 56), (.pu (.n (.ar .and)) [(.tmp 55), (.const (.int .u8 127))]), .none, []⟩, ⟨(.some 57), (.pu (.n (.conv .u64)) [(.tmp 56)]), .none, []⟩, ⟨(.some 58), (.mv (.tmp 4)), .none, []⟩, ⟨(.some 59), (.pu (.n (.ar .shl)) [(.tmp 57), (.tmp 58)]), .none, []⟩, ⟨(.some 60), (.pu (.n (.ar .or)) [(.tmp 54), (.tmp 59)]), .none, []⟩, ⟨(.some 3), (.mv (.tmp 60)), .none, []⟩]) (.seq (.seq (.ops [⟨(.some 61), (.mv (.tmp 5)), .none, []⟩, ⟨(.some 62), (.pu (.n (.ar .lss)) [(.tmp 61), (.const (.int .u8 128))]), .none, []⟩]) (.cond (.tmp 62) (.seq (.seq (.ops [⟨(.some 63), (.mv (.tmp 5)), .none, []⟩, ⟨(.some 64), (.pu (.n (.ar .eql)) [(.tmp 63), (.const (.int .u8 0))]), .none, []⟩, ⟨(.some 65), (.mv (.tmp 64)), .none, []⟩, ⟨(.some 66), (.mv (.tmp 4)), (.some (65, true)), []⟩, ⟨(.some 67), (.pu (.n (.ar .gtr)) [(.tmp 66), (.const (.int .u64 0))]), (.some (65, true)), []⟩, ⟨(.some 68), (.pick (.tmp 65) (.tmp 67) (.const (.bool false))), .none, []⟩]) (.cond (.tmp 68) (.seq (.ops [⟨(.some 69), (.mv (.tmp 0)), .none, []⟩, ⟨(.some 70), (.nilChk (.tmp 69)), .none, []⟩, ⟨(.some 71), (.fieldA 2 (.tmp 70)), .none, []⟩, ⟨.none, (.storeV [(0, false)] 1 (.tmp 71) (.const (.bool true))), .none, []⟩]) (.seq (.ops [⟨(.some 2), (.mv (.const (.int .i64 0))), .none, []⟩]) .ret)) .skip)) (.seq (.ops [⟨(.some 72), (.mv (.tmp 3)), .none, []⟩, ⟨(.some 73), (.pu (.n (.conv .i64)) [(.tmp 72)]), .none, []⟩, ⟨(.some 2), (.mv (.tmp 73)), .none, []⟩]) .ret)) .skip)) (.ops [⟨(.some 74), (.mv (.tmp 4)), .none, []⟩, ⟨(.some 75), (.pu (.n (.ar .add)) [(.tmp 74), (.const (.int .u64 7))]), .none, []⟩, ⟨(.some 4), (.mv (.tmp 75)), .none, []⟩]))))))))))) (.seq (.ops [⟨(.some 2), (.mv (.const (.int .i64 0))), .none, []⟩]) .ret)))), [(.tmp 2)]⟩
def i_impl_reader_num (pb0 : Nat) (h : Heap) (b : T2 Int TReader) (v : V) (h2 : Heap) : Prop := Keep [pb0] h h2 ∧ v = .i (.s (.int .i64 b.a)) ∧ getCells h2 pb0 3 = some [.i (.sl 1 (b.b.b.map enc)), .i (.s (.int .i64 b.b.at_)), .i (.s (.bool b.b.bad))]
def k_impl_reader_num (F : Fun) : Prop := ∀ (x0 : TReader) (b : T2 Int TReader), p_impl_reader_num x0 = some b → ∀ (pb0 : Nat) (h : Heap), getCells h pb0 3 = some [.i (.sl 1 (x0.b.map enc)), .i (.s (.int .i64 x0.at_)), .i (.s (.bool x0.bad))] → ∃ p, F none [.ptr pb0 3 0] h = some p ∧ i_impl_reader_num pb0 h b p.1 p.2
set_option maxHeartbeats 10000000 in
theorem w_impl_reader_num {P : Program} {env : Env}  (x0 : TReader) {b : T2 Int TReader} (hp : p_impl_reader_num x0 = some b) (pb0 : Nat) (hh : Heap) (pf0 : getCells hh pb0 3 = some [.i (.sl 1 (x0.b.map enc)), .i (.s (.int .i64 x0.at_)), .i (.s (.bool x0.bad))]) : R P env (c_impl_reader_num) [.ptr pb0 3 0] hh (i_impl_reader_num pb0 hh b) := by
  have pl0 := gc_lt pf0
  refine R_of (by simp [c_impl_reader_num, encA]) ?_
  unfold c_impl_reader_num
  unfold p_impl_reader_num at hp
  obtain ⟨ee0, hee0, hp⟩ := bind_eq hp
  simp (disch := first | omega | (simp only [List.length_set, List.length_append, List.length_cons, List.length_nil, rows_len, zs]; first | done | omega)) only [pf0, gs, app_hsl, app_nil, reduceIte, reduceCtorEq, Nat.reduceAdd, Nat.reduceMul, Nat.reduceSub, Nat.reduceBEq, Nat.reduceEqDiff, Nat.reduceLeDiff, Nat.reduceLT, Nat.reduceGT, Int.reduceToNat, Int.reduceLT, Int.reduceLE, Int.reduceNeg, Int.reduceAdd, Int.reduceEq, Int.reduceNe]
  refine W_loopP 0 (fun s t h => match s with | (s0, s1, s2) => t 0 = .ptr pb0 3 0 ∧ t 3 = .i (.s (.int .u64 s1)) ∧ t 4 = .i (.s (.int .u64 s2)) ∧ getCells h pb0 3 = some [.i (.sl 1 (x0.b.map enc)), .i (.s (.int .i64 s0)), .i (.s (.bool x0.bad))] ∧ pb0 < h.length ∧ Keep [pb0] hh h) (RK [.tmp 2] (i_impl_reader_num pb0 hh)) ?_ hee0 ?_ ?_
  · rintro ⟨s0, s1, s2⟩ ee tt0 hh0 ⟨ftt0_0, ftt0_1, ftt0_2, ftt0_3, ftt0_4, ftt0_5⟩ hp
    rw [p_impl_reader_num_l0] at hp
    by_cases hb3 : (x0.bad) = true
    · rw [if_t hb3] at hp
      have hp := Option.some.inj hp
      subst hp
      simp (disch := first | omega | (simp only [List.length_set, List.length_append, List.length_cons, List.length_nil, rows_len, zs]; first | done | omega)) only [i_impl_reader_num, pf0, ftt0_0, ftt0_1, ftt0_2, ftt0_3, ftt0_4, ftt0_5, hb3, gs, app_hsl, app_nil, reduceIte, reduceCtorEq, Nat.reduceAdd, Nat.reduceMul, Nat.reduceSub, Nat.reduceBEq, Nat.reduceEqDiff, Nat.reduceLeDiff, Nat.reduceLT, Nat.reduceGT, Int.reduceToNat, Int.reduceLT, Int.reduceLE, Int.reduceNeg, Int.reduceAdd, Int.reduceEq, Int.reduceNe] <;> (repeat (first | omega | assumption | rfl | exact keep_refl | refine keep_app ?_ | (refine keep_set (by first | (left; simp; done) | (right; simp; omega)) ?_) | refine And.intro ?_ ?_))
    · replace hb3 := eq_false_of_ne_true hb3
      rw [if_f hb3] at hp
      by_cases hb4 : (decide ((x0.b.length : Int) ≤ s0)) = true
      · rw [if_t hb4] at hp
        have hp := Option.some.inj hp
        subst hp
        simp (disch := first | omega | (simp only [List.length_set, List.length_append, List.length_cons, List.length_nil, rows_len, zs]; first | done | omega)) only [i_impl_reader_num, pf0, ftt0_0, ftt0_1, ftt0_2, ftt0_3, ftt0_4, ftt0_5, hb3, hb4, gs, app_hsl, app_nil, reduceIte, reduceCtorEq, Nat.reduceAdd, Nat.reduceMul, Nat.reduceSub, Nat.reduceBEq, Nat.reduceEqDiff, Nat.reduceLeDiff, Nat.reduceLT, Nat.reduceGT, Int.reduceToNat, Int.reduceLT, Int.reduceLE, Int.reduceNeg, Int.reduceAdd, Int.reduceEq, Int.reduceNe] <;> (repeat (first | omega | assumption | rfl | exact keep_refl | refine keep_app ?_ | (refine keep_set (by first | (left; simp; done) | (right; simp; omega)) ?_) | refine And.intro ?_ ?_))
      · replace hb4 := eq_false_of_ne_true hb4
        rw [if_f hb4] at hp
        by_cases hb5 : (decide (56 < s2)) = true
        · rw [if_t hb5] at hp
          have hp := Option.some.inj hp
          subst hp
          simp (disch := first | omega | (simp only [List.length_set, List.length_append, List.length_cons, List.length_nil, rows_len, zs]; first | done | omega)) only [i_impl_reader_num, pf0, ftt0_0, ftt0_1, ftt0_2, ftt0_3, ftt0_4, ftt0_5, hb3, hb4, hb5, gs, app_hsl, app_nil, reduceIte, reduceCtorEq, Nat.reduceAdd, Nat.reduceMul, Nat.reduceSub, Nat.reduceBEq, Nat.reduceEqDiff, Nat.reduceLeDiff, Nat.reduceLT, Nat.reduceGT, Int.reduceToNat, Int.reduceLT, Int.reduceLE, Int.reduceNeg, Int.reduceAdd, Int.reduceEq, Int.reduceNe] <;> (repeat (first | omega | assumption | rfl | exact keep_refl | refine keep_app ?_ | (refine keep_set (by first | (left; simp; done) | (right; simp; omega)) ?_) | refine And.intro ?_ ?_))
        · replace hb5 := eq_false_of_ne_true hb5
          rw [if_f hb5] at hp
          obtain ⟨v6, hv6, hp⟩ := bind_eq hp
          by_cases hb7 : (decide (s2 = 56)) = true
          · rw [if_t hb7] at hp
            by_cases hb8 : (decide (63 < v6.v)) = true
            · rw [if_t hb8] at hp
              have hp := Option.some.inj hp
              subst hp
              simp (disch := first | omega | (simp only [List.length_set, List.length_append, List.length_cons, List.length_nil, rows_len, zs]; first | done | omega)) only [i_impl_reader_num, pf0, ftt0_0, ftt0_1, ftt0_2, ftt0_3, ftt0_4, ftt0_5, hb3, hb4, hb5, hv6, hb7, hb8, gs, app_hsl, app_nil, reduceIte, reduceCtorEq, Nat.reduceAdd, Nat.reduceMul, Nat.reduceSub, Nat.reduceBEq, Nat.reduceEqDiff, Nat.reduceLeDiff, Nat.reduceLT, Nat.reduceGT, Int.reduceToNat, Int.reduceLT, Int.reduceLE, Int.reduceNeg, Int.reduceAdd, Int.reduceEq, Int.reduceNe] <;> (repeat (first | omega | assumption | rfl | exact keep_refl | refine keep_app ?_ | (refine keep_set (by first | (left; simp; done) | (right; simp; omega)) ?_) | refine And.intro ?_ ?_))
            · replace hb8 := eq_false_of_ne_true hb8
              rw [if_f hb8] at hp
              obtain ⟨v9, hv9, hp⟩ := bind_eq hp
              by_cases hb10 : (decide (v6.v < 128)) = true
              · rw [if_t hb10] at hp
                by_cases hb11 : (decide (v6.v = 0)) = true
                · rw [if_t hb11] at hp
                  by_cases hb12 : (decide (0 < s2)) = true
                  · rw [if_t hb12] at hp
                    have hp := Option.some.inj hp
                    subst hp
                    simp (disch := first | omega | (simp only [List.length_set, List.length_append, List.length_cons, List.length_nil, rows_len, zs]; first | done | omega)) only [i_impl_reader_num, pf0, ftt0_0, ftt0_1, ftt0_2, ftt0_3, ftt0_4, ftt0_5, hb3, hb4, hb5, hv6, hb7, hb8, hv9, hb10, hb11, hb12, gs, app_hsl, app_nil, reduceIte, reduceCtorEq, Nat.reduceAdd, Nat.reduceMul, Nat.reduceSub, Nat.reduceBEq, Nat.reduceEqDiff, Nat.reduceLeDiff, Nat.reduceLT, Nat.reduceGT, Int.reduceToNat, Int.reduceLT, Int.reduceLE, Int.reduceNeg, Int.reduceAdd, Int.reduceEq, Int.reduceNe] <;> (repeat (first | omega | assumption | rfl | exact keep_refl | refine keep_app ?_ | (refine keep_set (by first | (left; simp; done) | (right; simp; omega)) ?_) | refine And.intro ?_ ?_))
                  · replace hb12 := eq_false_of_ne_true hb12
                    rw [if_f hb12] at hp
                    have hp := Option.some.inj hp
                    subst hp
                    simp (disch := first | omega | (simp only [List.length_set, List.length_append, List.length_cons, List.length_nil, rows_len, zs]; first | done | omega)) only [i_impl_reader_num, pf0, ftt0_0, ftt0_1, ftt0_2, ftt0_3, ftt0_4, ftt0_5, hb3, hb4, hb5, hv6, hb7, hb8, hv9, hb10, hb11, hb12, gs, app_hsl, app_nil, reduceIte, reduceCtorEq, Nat.reduceAdd, Nat.reduceMul, Nat.reduceSub, Nat.reduceBEq, Nat.reduceEqDiff, Nat.reduceLeDiff, Nat.reduceLT, Nat.reduceGT, Int.reduceToNat, Int.reduceLT, Int.reduceLE, Int.reduceNeg, Int.reduceAdd, Int.reduceEq, Int.reduceNe] <;> (repeat (first | omega | assumption | rfl | exact keep_refl | refine keep_app ?_ | (refine keep_set (by first | (left; simp; done) | (right; simp; omega)) ?_) | refine And.intro ?_ ?_))
                · replace hb11 := eq_false_of_ne_true hb11
                  rw [if_f hb11] at hp
                  have hp := Option.some.inj hp
                  subst hp
                  simp (disch := first | omega | (simp only [List.length_set, List.length_append, List.length_cons, List.length_nil, rows_len, zs]; first | done | omega)) only [i_impl_reader_num, pf0, ftt0_0, ftt0_1, ftt0_2, ftt0_3, ftt0_4, ftt0_5, hb3, hb4, hb5, hv6, hb7, hb8, hv9, hb10, hb11, gs, app_hsl, app_nil, reduceIte, reduceCtorEq, Nat.reduceAdd, Nat.reduceMul, Nat.reduceSub, Nat.reduceBEq, Nat.reduceEqDiff, Nat.reduceLeDiff, Nat.reduceLT, Nat.reduceGT, Int.reduceToNat, Int.reduceLT, Int.reduceLE, Int.reduceNeg, Int.reduceAdd, Int.reduceEq, Int.reduceNe] <;> (repeat (first | omega | assumption | rfl | exact keep_refl | refine keep_app ?_ | (refine keep_set (by first | (left; simp; done) | (right; simp; omega)) ?_) | refine And.intro ?_ ?_))
              · replace hb10 := eq_false_of_ne_true hb10
                rw [if_f hb10] at hp
                have hp := Option.some.inj hp
                subst hp
                simp (disch := first | omega | (simp only [List.length_set, List.length_append, List.length_cons, List.length_nil, rows_len, zs]; first | done | omega)) only [i_impl_reader_num, pf0, ftt0_0, ftt0_1, ftt0_2, ftt0_3, ftt0_4, ftt0_5, hb3, hb4, hb5, hv6, hb7, hb8, hv9, hb10, gs, app_hsl, app_nil, reduceIte, reduceCtorEq, Nat.reduceAdd, Nat.reduceMul, Nat.reduceSub, Nat.reduceBEq, Nat.reduceEqDiff, Nat.reduceLeDiff, Nat.reduceLT, Nat.reduceGT, Int.reduceToNat, Int.reduceLT, Int.reduceLE, Int.reduceNeg, Int.reduceAdd, Int.reduceEq, Int.reduceNe] <;> (repeat (first | omega | assumption | rfl | exact keep_refl | refine keep_app ?_ | (refine keep_set (by first | (left; simp; done) | (right; simp; omega)) ?_) | refine And.intro ?_ ?_))
          · replace hb7 := eq_false_of_ne_true hb7
            rw [if_f hb7] at hp
            obtain ⟨v13, hv13, hp⟩ := bind_eq hp
            by_cases hb14 : (decide (v6.v < 128)) = true
            · rw [if_t hb14] at hp
              by_cases hb15 : (decide (v6.v = 0)) = true
              · rw [if_t hb15] at hp
                by_cases hb16 : (decide (0 < s2)) = true
                · rw [if_t hb16] at hp
                  have hp := Option.some.inj hp
                  subst hp
                  simp (disch := first | omega | (simp only [List.length_set, List.length_append, List.length_cons, List.length_nil, rows_len, zs]; first | done | omega)) only [i_impl_reader_num, pf0, ftt0_0, ftt0_1, ftt0_2, ftt0_3, ftt0_4, ftt0_5, hb3, hb4, hb5, hv6, hb7, hv13, hb14, hb15, hb16, gs, app_hsl, app_nil, reduceIte, reduceCtorEq, Nat.reduceAdd, Nat.reduceMul, Nat.reduceSub, Nat.reduceBEq, Nat.reduceEqDiff, Nat.reduceLeDiff, Nat.reduceLT, Nat.reduceGT, Int.reduceToNat, Int.reduceLT, Int.reduceLE, Int.reduceNeg, Int.reduceAdd, Int.reduceEq, Int.reduceNe] <;> (repeat (first | omega | assumption | rfl | exact keep_refl | refine keep_app ?_ | (refine keep_set (by first | (left; simp; done) | (right; simp; omega)) ?_) | refine And.intro ?_ ?_))
                · replace hb16 := eq_false_of_ne_true hb16
                  rw [if_f hb16] at hp
                  have hp := Option.some.inj hp
                  subst hp
                  simp (disch := first | omega | (simp only [List.length_set, List.length_append, List.length_cons, List.length_nil, rows_len, zs]; first | done | omega)) only [i_impl_reader_num, pf0, ftt0_0, ftt0_1, ftt0_2, ftt0_3, ftt0_4, ftt0_5, hb3, hb4, hb5, hv6, hb7, hv13, hb14, hb15, hb16, gs, app_hsl, app_nil, reduceIte, reduceCtorEq, Nat.reduceAdd, Nat.reduceMul, Nat.reduceSub, Nat.reduceBEq, Nat.reduceEqDiff, Nat.reduceLeDiff, Nat.reduceLT, Nat.reduceGT, Int.reduceToNat, Int.reduceLT, Int.reduceLE, Int.reduceNeg, Int.reduceAdd, Int.reduceEq, Int.reduceNe] <;> (repeat (first | omega | assumption | rfl | exact keep_refl | refine keep_app ?_ | (refine keep_set (by first | (left; simp; done) | (right; simp; omega)) ?_) | refine And.intro ?_ ?_))
              · replace hb15 := eq_false_of_ne_true hb15
                rw [if_f hb15] at hp
                have hp := Option.some.inj hp
                subst hp
                simp (disch := first | omega | (simp only [List.length_set, List.length_append, List.length_cons, List.length_nil, rows_len, zs]; first | done | omega)) only [i_impl_reader_num, pf0, ftt0_0, ftt0_1, ftt0_2, ftt0_3, ftt0_4, ftt0_5, hb3, hb4, hb5, hv6, hb7, hv13, hb14, hb15, gs, app_hsl, app_nil, reduceIte, reduceCtorEq, Nat.reduceAdd, Nat.reduceMul, Nat.reduceSub, Nat.reduceBEq, Nat.reduceEqDiff, Nat.reduceLeDiff, Nat.reduceLT, Nat.reduceGT, Int.reduceToNat, Int.reduceLT, Int.reduceLE, Int.reduceNeg, Int.reduceAdd, Int.reduceEq, Int.reduceNe] <;> (repeat (first | omega | assumption | rfl | exact keep_refl | refine keep_app ?_ | (refine keep_set (by first | (left; simp; done) | (right; simp; omega)) ?_) | refine And.intro ?_ ?_))
            · replace hb14 := eq_false_of_ne_true hb14
              rw [if_f hb14] at hp
              have hp := Option.some.inj hp
              subst hp
              simp (disch := first | omega | (simp only [List.length_set, List.length_append, List.length_cons, List.length_nil, rows_len, zs]; first | done | omega)) only [i_impl_reader_num, pf0, ftt0_0, ftt0_1, ftt0_2, ftt0_3, ftt0_4, ftt0_5, hb3, hb4, hb5, hv6, hb7, hv13, hb14, gs, app_hsl, app_nil, reduceIte, reduceCtorEq, Nat.reduceAdd, Nat.reduceMul, Nat.reduceSub, Nat.reduceBEq, Nat.reduceEqDiff, Nat.reduceLeDiff, Nat.reduceLT, Nat.reduceGT, Int.reduceToNat, Int.reduceLT, Int.reduceLE, Int.reduceNeg, Int.reduceAdd, Int.reduceEq, Int.reduceNe] <;> (repeat (first | omega | assumption | rfl | exact keep_refl | refine keep_app ?_ | (refine keep_set (by first | (left; simp; done) | (right; simp; omega)) ?_) | refine And.intro ?_ ?_))
  · simp (disch := first | omega | (simp only [List.length_set, List.length_append, List.length_cons, List.length_nil, rows_len, zs]; first | done | omega)) only [i_impl_reader_num, pf0, gs, app_hsl, app_nil, reduceIte, reduceCtorEq, Nat.reduceAdd, Nat.reduceMul, Nat.reduceSub, Nat.reduceBEq, Nat.reduceEqDiff, Nat.reduceLeDiff, Nat.reduceLT, Nat.reduceGT, Int.reduceToNat, Int.reduceLT, Int.reduceLE, Int.reduceNeg, Int.reduceAdd, Int.reduceEq, Int.reduceNe] <;> (repeat (first | omega | assumption | rfl | exact keep_refl | refine keep_app ?_ | (refine keep_set (by first | (left; simp; done) | (right; simp; omega)) ?_) | refine And.intro ?_ ?_))
  · intro x tt1 hh1 hx
    rcases ee0 with ⟨o17, o18, o19⟩ | r
    · obtain ⟨rfl, ftt1_0, ftt1_1, ftt1_2, ftt1_3, ftt1_4, ftt1_5⟩ := hx
      dsimp only at hp
      have hp := Option.some.inj hp
      subst hp
      simp (disch := first | omega | (simp only [List.length_set, List.length_append, List.length_cons, List.length_nil, rows_len, zs]; first | done | omega)) only [i_impl_reader_num, pf0, ftt1_0, ftt1_1, ftt1_2, ftt1_3, ftt1_4, ftt1_5, gs, app_hsl, app_nil, reduceIte, reduceCtorEq, Nat.reduceAdd, Nat.reduceMul, Nat.reduceSub, Nat.reduceBEq, Nat.reduceEqDiff, Nat.reduceLeDiff, Nat.reduceLT, Nat.reduceGT, Int.reduceToNat, Int.reduceLT, Int.reduceLE, Int.reduceNeg, Int.reduceAdd, Int.reduceEq, Int.reduceNe] <;> (repeat (first | omega | assumption | rfl | exact keep_refl | refine keep_app ?_ | (refine keep_set (by first | (left; simp; done) | (right; simp; omega)) ?_) | refine And.intro ?_ ?_))
    · obtain ⟨rfl, hx⟩ := hx
      dsimp only at hp
      cases hp
      simp only [seqK_ret, blockK_ret, retK_RK (K := i_impl_reader_num pb0 hh), hx, and_self, true_and]
theorem ko_impl_reader_num {P : Program} {env : Env}  : k_impl_reader_num (runIn P env (c_impl_reader_num)) := by
  intro x0 b hp pb0 h a0
  exact w_impl_reader_num x0 hp pb0 h a0

noncomputable def p_impl_GetInt (x0 : List U8) (x1 : Int) : Option (T3 Int Int Int) :=
  if (decide (1048576 < (x0.length : Int))) = true then
    some ⟨0, 0, 2⟩
  else
    if (decide (x1 < 0)) = true then
      some ⟨0, 0, 1⟩
    else
      if (decide ((x0.length : Int) < x1)) = true then
        some ⟨0, 0, 1⟩
      else
        (p_impl_reader_num (TReader.mk x0 x1 false)).bind fun v3 =>
        if (v3.b.bad) = true then
          some ⟨0, 0, 3⟩
        else
          some ⟨v3.a, v3.b.at_, 0⟩
def c_impl_GetInt (f_impl_reader_num : Nat) : AFn := ⟨29, (.seq (.ops [⟨(.some 4), (.mv (.const (.int .i64 0))), .none, []⟩, ⟨(.some 5), (.mv (.const (.int .i64 0))), .none, []⟩, ⟨(.some 6), (.mv (.const (.int .i64 0))), .none, []⟩]) (.seq (.seq (.ops [⟨(.some 9), (.mv (.tmp 0)), .none, []⟩, ⟨(.some 10), (.len (.tmp 9)), .none, []⟩, ⟨(.some 11), (.pu (.n (.ar .gtr)) [(.tmp 10), (.const (.int .i64 1048576))]), .none, []⟩]) (.cond (.tmp 11) (.seq (.ops [⟨(.some 4), (.mv (.const (.int .i64 0))), .none, []⟩, ⟨(.some 5), (.mv (.const (.int .i64 0))), .none, []⟩, ⟨(.some 6), (.mv (.const (.int .i64 2))), .none, []⟩]) .ret) .skip)) (.seq (.seq (.ops [⟨(.some 12), (.mv (.tmp 1)), .none, []⟩, ⟨(.some 13), (.pu (.n (.ar .lss)) [(.tmp 12), (.const (.int .i64 0))]), .none, []⟩, ⟨(.some 14), (.mv (.tmp 13)), .none, []⟩, ⟨(.some 15), (.mv (.tmp 1)), (.some (14, false)), []⟩, ⟨(.some 16), (.mv (.tmp 0)), (.some (14, false)), []⟩, ⟨(.some 17), (.len (.tmp 16)), (.some (14, false)), []⟩, ⟨(.some 18), (.pu (.n (.ar .gtr)) [(.tmp 15), (.tmp 17)]), (.some (14, false)), []⟩, ⟨(.some 19), (.pick (.tmp 14) (.const (.bool true)) (.tmp 18)), .none, []⟩]) (.cond (.tmp 19) (.seq (.ops [⟨(.some 4), (.mv (.const (.int .i64 0))), .none, []⟩, ⟨(.some 5), (.mv (.const (.int .i64 0))), .none, []⟩, ⟨(.some 6), (.mv (.const (.int .i64 1))), .none, []⟩]) .ret) .skip)) (.seq (.ops [⟨(.some 20), (.mv (.tmp 0)), .none, []⟩, ⟨(.some 21), (.mv (.tmp 1)), .none, []⟩, ⟨(.some 22), (.build [(.slice .none 0 0), (.int .i64 0), (.bool false)] [(0, (1, (.tmp 20))), (1, (1, (.tmp 21)))]), .none, []⟩, ⟨(.some 7), (.allocV [(1, false), (0, false), (0, false)] [(.slice .none 0 0), (.int .i64 0), (.bool false)]), .none, []⟩, ⟨.none, (.storeV [(1, false), (0, false), (0, false)] 3 (.tmp 7) (.tmp 22)), .none, []⟩]) (.seq (.ops [⟨(.some 23), (.call (2 * f_impl_reader_num + 1) [(.tmp 7)]), .none, []⟩, ⟨(.some 8), (.mv (.tmp 23)), .none, []⟩]) (.seq (.seq (.ops [⟨(.some 24), (.fieldA 2 (.tmp 7)), .none, []⟩, ⟨(.some 25), (.load 1 false (.tmp 24)), .none, []⟩]) (.cond (.tmp 25) (.seq (.ops [⟨(.some 4), (.mv (.const (.int .i64 0))), .none, []⟩, ⟨(.some 5), (.mv (.const (.int .i64 0))), .none, []⟩, ⟨(.some 6), (.mv (.const (.int .i64 3))), .none, []⟩]) .ret) .skip)) (.seq (.ops [⟨(.some 26), (.mv (.tmp 8)), .none, []⟩, ⟨(.some 27), (.fieldA 1 (.tmp 7)), .none, []⟩, ⟨(.some 28), (.load 1 false (.tmp 27)), .none, []⟩, ⟨(.some 4), (.mv (.tmp 26)), .none, []⟩, ⟨(.some 5), (.mv (.tmp 28)), .none, []⟩, ⟨(.some 6), (.mv (.const (.int .i64 0))), .none, []⟩]) .ret))))))), [(.tmp 4), (.tmp 5), (.tmp 6)]⟩
set_option maxHeartbeats 10000000 in
theorem d_impl_GetInt {P : Program} {env : Env} {f_impl_reader_num : Nat}  (e_impl_reader_num : k_impl_reader_num (env (2 * f_impl_reader_num + 1))) (x0 : List U8) (x1 : Int) {b : T3 Int Int Int} (hp : p_impl_GetInt x0 x1 = some b) : R P env (c_impl_GetInt f_impl_reader_num) ((encA (x0, x1)).map ofI) [] (Tells true b) := by
  refine R_of (by simp [c_impl_GetInt, encA]) ?_
  unfold c_impl_GetInt
  unfold p_impl_GetInt at hp
  by_cases hb0 : (decide (1048576 < (x0.length : Int))) = true
  · rw [if_t hb0] at hp
    have hp := Option.some.inj hp
    subst hp
    simp (disch := first | omega | (simp only [List.length_set, List.length_append, List.length_cons, List.length_nil, rows_len, zs]; first | done | omega)) only [hb0, gs, app_hsl, app_nil, reduceIte, reduceCtorEq, Nat.reduceAdd, Nat.reduceMul, Nat.reduceSub, Nat.reduceBEq, Nat.reduceEqDiff, Nat.reduceLeDiff, Nat.reduceLT, Nat.reduceGT, Int.reduceToNat, Int.reduceLT, Int.reduceLE, Int.reduceNeg, Int.reduceAdd, Int.reduceEq, Int.reduceNe]
  · replace hb0 := eq_false_of_ne_true hb0
    rw [if_f hb0] at hp
    by_cases hb1 : (decide (x1 < 0)) = true
    · rw [if_t hb1] at hp
      have hp := Option.some.inj hp
      subst hp
      simp (disch := first | omega | (simp only [List.length_set, List.length_append, List.length_cons, List.length_nil, rows_len, zs]; first | done | omega)) only [hb0, hb1, gs, app_hsl, app_nil, reduceIte, reduceCtorEq, Nat.reduceAdd, Nat.reduceMul, Nat.reduceSub, Nat.reduceBEq, Nat.reduceEqDiff, Nat.reduceLeDiff, Nat.reduceLT, Nat.reduceGT, Int.reduceToNat, Int.reduceLT, Int.reduceLE, Int.reduceNeg, Int.reduceAdd, Int.reduceEq, Int.reduceNe]
    · replace hb1 := eq_false_of_ne_true hb1
      rw [if_f hb1] at hp
      by_cases hb2 : (decide ((x0.length : Int) < x1)) = true
      · rw [if_t hb2] at hp
        have hp := Option.some.inj hp
        subst hp
        simp (disch := first | omega | (simp only [List.length_set, List.length_append, List.length_cons, List.length_nil, rows_len, zs]; first | done | omega)) only [hb0, hb1, hb2, gs, app_hsl, app_nil, reduceIte, reduceCtorEq, Nat.reduceAdd, Nat.reduceMul, Nat.reduceSub, Nat.reduceBEq, Nat.reduceEqDiff, Nat.reduceLeDiff, Nat.reduceLT, Nat.reduceGT, Int.reduceToNat, Int.reduceLT, Int.reduceLE, Int.reduceNeg, Int.reduceAdd, Int.reduceEq, Int.reduceNe]
      · replace hb2 := eq_false_of_ne_true hb2
        rw [if_f hb2] at hp
        obtain ⟨v3, hv3, hp⟩ := bind_eq hp
        simp (disch := first | omega | (simp only [List.length_set, List.length_append, List.length_cons, List.length_nil, rows_len, zs]; first | done | omega)) only [hb0, hb1, hb2, gs, app_hsl, app_nil, reduceIte, reduceCtorEq, Nat.reduceAdd, Nat.reduceMul, Nat.reduceSub, Nat.reduceBEq, Nat.reduceEqDiff, Nat.reduceLeDiff, Nat.reduceLT, Nat.reduceGT, Int.reduceToNat, Int.reduceLT, Int.reduceLE, Int.reduceNeg, Int.reduceAdd, Int.reduceEq, Int.reduceNe]
        refine call_f (fun h => getCells h 0 0 = some [] ∧ 0 < h.length ∧ getCells h 1 3 = some [.i (.sl 1 (x0.map enc)), .i (.s (.int .i64 x1)), .i (.s (.bool false))] ∧ 1 < h.length) (fun h v h2 => i_impl_reader_num 1 h v3 v h2) ?_ ?_ ?_
        · simp (disch := first | omega | (simp only [List.length_set, List.length_append, List.length_cons, List.length_nil, rows_len, zs]; first | done | omega)) only [hb0, hb1, hb2, hv3, gs, app_hsl, app_nil, reduceIte, reduceCtorEq, Nat.reduceAdd, Nat.reduceMul, Nat.reduceSub, Nat.reduceBEq, Nat.reduceEqDiff, Nat.reduceLeDiff, Nat.reduceLT, Nat.reduceGT, Int.reduceToNat, Int.reduceLT, Int.reduceLE, Int.reduceNeg, Int.reduceAdd, Int.reduceEq, Int.reduceNe] <;> omega
        · rintro h ⟨c0_0, c0_1, c0_2, c0_3⟩
          exact e_impl_reader_num _ _ hv3 1  h c0_2
        · rintro h v hh0 ⟨c0_0, c0_1, c0_2, c0_3⟩ hpost
          obtain ⟨kk0, rfl, w0_0⟩ := hpost
          have d0_0 : getCells hh0 0 0 = some [] := (keep_get kk0 c0_1 (by first | (simp; done) | (simp; omega))).trans c0_0
          have d0_0l := keep_lt kk0 c0_1
          have d0_1 : getCells hh0 1 3 = some [.i (.sl 1 (v3.b.b.map enc)), .i (.s (.int .i64 v3.b.at_)), .i (.s (.bool v3.b.bad))] := w0_0
          have d0_1l := keep_lt kk0 c0_3
          by_cases hb4 : (v3.b.bad) = true
          · rw [if_t hb4] at hp
            have hp := Option.some.inj hp
            subst hp
            simp (disch := first | omega | (simp only [List.length_set, List.length_append, List.length_cons, List.length_nil, rows_len, zs]; first | done | omega)) only [hb0, hb1, hb2, hv3, d0_0, d0_1, hb4, gs, app_hsl, app_nil, reduceIte, reduceCtorEq, Nat.reduceAdd, Nat.reduceMul, Nat.reduceSub, Nat.reduceBEq, Nat.reduceEqDiff, Nat.reduceLeDiff, Nat.reduceLT, Nat.reduceGT, Int.reduceToNat, Int.reduceLT, Int.reduceLE, Int.reduceNeg, Int.reduceAdd, Int.reduceEq, Int.reduceNe]
          · replace hb4 := eq_false_of_ne_true hb4
            rw [if_f hb4] at hp
            have hp := Option.some.inj hp
            subst hp
            simp (disch := first | omega | (simp only [List.length_set, List.length_append, List.length_cons, List.length_nil, rows_len, zs]; first | done | omega)) only [hb0, hb1, hb2, hv3, d0_0, d0_1, hb4, gs, app_hsl, app_nil, reduceIte, reduceCtorEq, Nat.reduceAdd, Nat.reduceMul, Nat.reduceSub, Nat.reduceBEq, Nat.reduceEqDiff, Nat.reduceLeDiff, Nat.reduceLT, Nat.reduceGT, Int.reduceToNat, Int.reduceLT, Int.reduceLE, Int.reduceNeg, Int.reduceAdd, Int.reduceEq, Int.reduceNe]

noncomputable def p_laws_eqByteS_l0 (x0 : List U8) (x1 : List U8) : Int → Option (Lp (Int) Bool)
  | s1 =>
    if (decide (s1 < (x0.length : Int))) = true then
      (get? x0 s1).bind fun v3 =>
      (get? x1 s1).bind fun v4 =>
      if (decide (v3.v = v4.v)) = true then
        some (.go (w64 (s1 + 1)))
      else
        some (.ret false)
    else
      some (.out s1)
noncomputable def p_laws_eqByteS (x0 : List U8) (x1 : List U8) : Option Bool :=
  if (decide ((x0.length : Int) = (x1.length : Int))) = true then
    (loopP (p_laws_eqByteS_l0 x0 x1) 0).bind fun ee0 => match ee0 with
    | .ret r => some r
    | .out o6 =>
      some true
  else
    some false
def c_laws_eqByteS : AFn := ⟨26, (.seq (.ops [⟨(.some 4), (.mv (.const (.bool false))), .none, []⟩]) (.seq (.seq (.ops [⟨(.some 6), (.mv (.tmp 0)), .none, []⟩, ⟨(.some 7), (.len (.tmp 6)), .none, []⟩, ⟨(.some 8), (.mv (.tmp 1)), .none, []⟩, ⟨(.some 9), (.len (.tmp 8)), .none, []⟩, ⟨(.some 10), (.pu (.n (.ar .neq)) [(.tmp 7), (.tmp 9)]), .none, []⟩]) (.cond (.tmp 10) (.seq (.ops [⟨(.some 4), (.mv (.const (.bool false))), .none, []⟩]) .ret) .skip)) (.seq (.seq (.ops [⟨(.some 5), (.mv (.const (.int .i64 0))), .none, []⟩]) (.block 0 (.loop (.seq (.seq (.ops [⟨(.some 11), (.mv (.tmp 5)), .none, []⟩, ⟨(.some 12), (.mv (.tmp 0)), .none, []⟩, ⟨(.some 13), (.len (.tmp 12)), .none, []⟩, ⟨(.some 14), (.pu (.n (.ar .lss)) [(.tmp 11), (.tmp 13)]), .none, []⟩]) (.cond (.tmp 14) .skip (.exit 0))) (.seq (.block 1 (.seq (.ops [⟨(.some 17), (.mv (.tmp 0)), .none, []⟩, ⟨(.some 18), (.mv (.tmp 5)), .none, []⟩, ⟨(.some 19), (.idxS 1 (.tmp 17) (.tmp 18)), .none, []⟩, ⟨(.some 20), (.load 1 false (.tmp 19)), .none, []⟩, ⟨(.some 21), (.mv (.tmp 1)), .none, []⟩, ⟨(.some 22), (.mv (.tmp 5)), .none, []⟩, ⟨(.some 23), (.idxS 1 (.tmp 21) (.tmp 22)), .none, []⟩, ⟨(.some 24), (.load 1 false (.tmp 23)), .none, []⟩, ⟨(.some 25), (.pu (.n (.ar .neq)) [(.tmp 20), (.tmp 24)]), .none, []⟩]) (.cond (.tmp 25) (.seq (.ops [⟨(.some 4), (.mv (.const (.bool false))), .none, []⟩]) .ret) .skip))) (.ops [⟨(.some 15), (.mv (.tmp 5)), .none, []⟩, ⟨(.some 16), (.pu (.n (.ar .add)) [(.tmp 15), (.const (.int .i64 1))]), .none, []⟩, ⟨(.some 5), (.mv (.tmp 16)), .none, []⟩])))))) (.seq (.ops [⟨(.some 4), (.mv (.const (.bool true))), .none, []⟩]) .ret)))), [(.tmp 4)]⟩
set_option maxHeartbeats 10000000 in
theorem d_laws_eqByteS {P : Program} {env : Env}  (x0 : List U8) (x1 : List U8) {b : Bool} (hp : p_laws_eqByteS x0 x1 = some b) : R P env (c_laws_eqByteS) ((encA (x0, x1)).map ofI) [] (Tells true b) := by
  refine R_of (by simp [c_laws_eqByteS, encA]) ?_
  unfold c_laws_eqByteS
  unfold p_laws_eqByteS at hp
  by_cases hb0 : (decide ((x0.length : Int) = (x1.length : Int))) = true
  · rw [if_t hb0] at hp
    obtain ⟨ee0, hee0, hp⟩ := bind_eq hp
    simp (disch := first | omega | (simp only [List.length_set, List.length_append, List.length_cons, List.length_nil, rows_len, zs]; first | done | omega)) only [hb0, gs, app_hsl, app_nil, reduceIte, reduceCtorEq, Nat.reduceAdd, Nat.reduceMul, Nat.reduceSub, Nat.reduceBEq, Nat.reduceEqDiff, Nat.reduceLeDiff, Nat.reduceLT, Nat.reduceGT, Int.reduceToNat, Int.reduceLT, Int.reduceLE, Int.reduceNeg, Int.reduceAdd, Int.reduceEq, Int.reduceNe]
    refine W_loopP 0 (fun s t h => match s with | s1 => t 0 = .i (.sl 1 (x0.map enc)) ∧ t 1 = .i (.sl 1 (x1.map enc)) ∧ t 5 = .i (.s (.int .i64 s1))) (RK [.tmp 4] (Tells true)) ?_ hee0 ?_ ?_
    · rintro s1 ee tt0 hh0 ⟨ftt0_0, ftt0_1, ftt0_2⟩ hp
      rw [p_laws_eqByteS_l0] at hp
      by_cases hb2 : (decide (s1 < (x0.length : Int))) = true
      · rw [if_t hb2] at hp
        obtain ⟨v3, hv3, hp⟩ := bind_eq hp
        obtain ⟨v4, hv4, hp⟩ := bind_eq hp
        by_cases hb5 : (decide (v3.v = v4.v)) = true
        · rw [if_t hb5] at hp
          have hp := Option.some.inj hp
          subst hp
          simp (disch := first | omega | (simp only [List.length_set, List.length_append, List.length_cons, List.length_nil, rows_len, zs]; first | done | omega)) only [hb0, ftt0_0, ftt0_1, ftt0_2, hb2, hv3, hv4, hb5, gs, app_hsl, app_nil, reduceIte, reduceCtorEq, Nat.reduceAdd, Nat.reduceMul, Nat.reduceSub, Nat.reduceBEq, Nat.reduceEqDiff, Nat.reduceLeDiff, Nat.reduceLT, Nat.reduceGT, Int.reduceToNat, Int.reduceLT, Int.reduceLE, Int.reduceNeg, Int.reduceAdd, Int.reduceEq, Int.reduceNe] <;> omega
        · replace hb5 := eq_false_of_ne_true hb5
          rw [if_f hb5] at hp
          have hp := Option.some.inj hp
          subst hp
          simp (disch := first | omega | (simp only [List.length_set, List.length_append, List.length_cons, List.length_nil, rows_len, zs]; first | done | omega)) only [hb0, ftt0_0, ftt0_1, ftt0_2, hb2, hv3, hv4, hb5, gs, app_hsl, app_nil, reduceIte, reduceCtorEq, Nat.reduceAdd, Nat.reduceMul, Nat.reduceSub, Nat.reduceBEq, Nat.reduceEqDiff, Nat.reduceLeDiff, Nat.reduceLT, Nat.reduceGT, Int.reduceToNat, Int.reduceLT, Int.reduceLE, Int.reduceNeg, Int.reduceAdd, Int.reduceEq, Int.reduceNe]
      · replace hb2 := eq_false_of_ne_true hb2
        rw [if_f hb2] at hp
        have hp := Option.some.inj hp
        subst hp
        simp (disch := first | omega | (simp only [List.length_set, List.length_append, List.length_cons, List.length_nil, rows_len, zs]; first | done | omega)) only [hb0, ftt0_0, ftt0_1, ftt0_2, hb2, gs, app_hsl, app_nil, reduceIte, reduceCtorEq, Nat.reduceAdd, Nat.reduceMul, Nat.reduceSub, Nat.reduceBEq, Nat.reduceEqDiff, Nat.reduceLeDiff, Nat.reduceLT, Nat.reduceGT, Int.reduceToNat, Int.reduceLT, Int.reduceLE, Int.reduceNeg, Int.reduceAdd, Int.reduceEq, Int.reduceNe] <;> omega
    · simp (disch := first | omega | (simp only [List.length_set, List.length_append, List.length_cons, List.length_nil, rows_len, zs]; first | done | omega)) only [hb0, gs, app_hsl, app_nil, reduceIte, reduceCtorEq, Nat.reduceAdd, Nat.reduceMul, Nat.reduceSub, Nat.reduceBEq, Nat.reduceEqDiff, Nat.reduceLeDiff, Nat.reduceLT, Nat.reduceGT, Int.reduceToNat, Int.reduceLT, Int.reduceLE, Int.reduceNeg, Int.reduceAdd, Int.reduceEq, Int.reduceNe] <;> omega
    · intro x tt1 hh1 hx
      rcases ee0 with o6 | r
      · obtain ⟨rfl, ftt1_0, ftt1_1, ftt1_2⟩ := hx
        dsimp only at hp
        have hp := Option.some.inj hp
        subst hp
        simp (disch := first | omega | (simp only [List.length_set, List.length_append, List.length_cons, List.length_nil, rows_len, zs]; first | done | omega)) only [hb0, ftt1_0, ftt1_1, ftt1_2, gs, app_hsl, app_nil, reduceIte, reduceCtorEq, Nat.reduceAdd, Nat.reduceMul, Nat.reduceSub, Nat.reduceBEq, Nat.reduceEqDiff, Nat.reduceLeDiff, Nat.reduceLT, Nat.reduceGT, Int.reduceToNat, Int.reduceLT, Int.reduceLE, Int.reduceNeg, Int.reduceAdd, Int.reduceEq, Int.reduceNe]
      · obtain ⟨rfl, hx⟩ := hx
        dsimp only at hp
        cases hp
        simp only [seqK_ret, blockK_ret, retK_RK (K := Tells true), hx, and_self, true_and]
  · replace hb0 := eq_false_of_ne_true hb0
    rw [if_f hb0] at hp
    have hp := Option.some.inj hp
    subst hp
    simp (disch := first | omega | (simp only [List.length_set, List.length_append, List.length_cons, List.length_nil, rows_len, zs]; first | done | omega)) only [hb0, gs, app_hsl, app_nil, reduceIte, reduceCtorEq, Nat.reduceAdd, Nat.reduceMul, Nat.reduceSub, Nat.reduceBEq, Nat.reduceEqDiff, Nat.reduceLeDiff, Nat.reduceLT, Nat.reduceGT, Int.reduceToNat, Int.reduceLT, Int.reduceLE, Int.reduceNeg, Int.reduceAdd, Int.reduceEq, Int.reduceNe]

noncomputable def p_laws_FnExactGetInt (x0 : List U8) (x1 : Int) : Option Bool :=
  if (decide (1048576 < (x0.length : Int))) = true then
    some true
  else
    (p_laws_toByteS x0).bind fun v1 =>
    (p_spec_GetInt v1 x1).bind fun v2 =>
    (p_impl_GetInt v1 x1).bind fun v3 =>
    if (decide (v3.a = v2.a)) = true then
      if (decide (v3.b = v2.b)) = true then
        if (decide (v3.c = v2.c)) = true then
          (p_laws_eqByteS v1 v1).bind fun v7 =>
          if (v7) = true then
            some true
          else
            some false
        else
          some false
      else
        some false
    else
      some false
def c_laws_FnExactGetInt (f_laws_toByteS : Nat) (f_spec_GetInt : Nat) (f_impl_GetInt : Nat) (f_laws_eqByteS : Nat) : AFn := ⟨50, (.seq (.ops [⟨(.some 4), (.mv (.const (.bool false))), .none, []⟩]) (.seq (.seq (.ops [⟨(.some 12), (.mv (.tmp 0)), .none, []⟩, ⟨(.some 13), (.len (.tmp 12)), .none, []⟩, ⟨(.some 14), (.pu (.n (.ar .gtr)) [(.tmp 13), (.const (.int .i64 1048576))]), .none, []⟩]) (.cond (.tmp 14) (.seq (.ops [⟨(.some 4), (.mv (.const (.bool true))), .none, []⟩]) .ret) .skip)) (.seq (.ops [⟨(.some 16), (.mv (.tmp 0)), .none, []⟩, ⟨(.some 17), (.call (2 * f_laws_toByteS + 1) [(.tmp 16)]), .none, []⟩, ⟨(.some 18), (.mv (.tmp 1)), .none, []⟩, ⟨(.some 19), (.call (2 * f_spec_GetInt) [(.tmp 17), (.tmp 18)]), .none, []⟩, ⟨(.some 15), (.mv (.tmp 19)), .none, []⟩, ⟨(.some 20), (.extract 0 (.tmp 15)), .none, []⟩, ⟨(.some 21), (.extract 1 (.tmp 15)), .none, []⟩, ⟨(.some 22), (.extract 2 (.tmp 15)), .none, []⟩, ⟨(.some 5), (.mv (.tmp 20)), .none, []⟩, ⟨(.some 6), (.mv (.tmp 21)), .none, []⟩, ⟨(.some 7), (.mv (.tmp 22)), .none, []⟩]) (.seq (.ops [⟨(.some 23), (.mv (.tmp 0)), .none, []⟩, ⟨(.some 24), (.call (2 * f_laws_toByteS + 1) [(.tmp 23)]), .none, []⟩, ⟨(.some 8), (.mv (.tmp 24)), .none, []⟩]) (.seq (.ops [⟨(.some 26), (.mv (.tmp 8)), .none, []⟩, ⟨(.some 27), (.mv (.tmp 1)), .none, []⟩, ⟨(.some 28), (.call (2 * f_impl_GetInt) [(.tmp 26), (.tmp 27)]), .none, []⟩, ⟨(.some 25), (.mv (.tmp 28)), .none, []⟩, ⟨(.some 29), (.extract 0 (.tmp 25)), .none, []⟩, ⟨(.some 30), (.extract 1 (.tmp 25)), .none, []⟩, ⟨(.some 31), (.extract 2 (.tmp 25)), .none, []⟩, ⟨(.some 9), (.mv (.tmp 29)), .none, []⟩, ⟨(.some 10), (.mv (.tmp 30)), .none, []⟩, ⟨(.some 11), (.mv (.tmp 31)), .none, []⟩]) (.seq (.seq (.ops [⟨(.some 32), (.mv (.tmp 9)), .none, []⟩, ⟨(.some 33), (.mv (.tmp 5)), .none, []⟩, ⟨(.some 34), (.pu (.n (.ar .neq)) [(.tmp 32), (.tmp 33)]), .none, []⟩, ⟨(.some 35), (.mv (.tmp 34)), .none, []⟩, ⟨(.some 36), (.mv (.tmp 10)), (.some (35, false)), []⟩, ⟨(.some 37), (.mv (.tmp 6)), (.some (35, false)), []⟩, ⟨(.some 38), (.pu (.n (.ar .neq)) [(.tmp 36), (.tmp 37)]), (.some (35, false)), []⟩, ⟨(.some 39), (.pick (.tmp 35) (.const (.bool true)) (.tmp 38)), .none, []⟩, ⟨(.some 40), (.mv (.tmp 39)), .none, []⟩, ⟨(.some 41), (.mv (.tmp 11)), (.some (40, false)), []⟩, ⟨(.some 42), (.mv (.tmp 7)), (.some (40, false)), []⟩, ⟨(.some 43), (.pu (.n (.ar .neq)) [(.tmp 41), (.tmp 42)]), (.some (40, false)), []⟩, ⟨(.some 44), (.pick (.tmp 40) (.const (.bool true)) (.tmp 43)), .none, []⟩]) (.cond (.tmp 44) (.seq (.ops [⟨(.some 4), (.mv (.const (.bool false))), .none, []⟩]) .ret) .skip)) (.seq (.seq (.ops [⟨(.some 45), (.mv (.tmp 8)), .none, []⟩, ⟨(.some 46), (.mv (.tmp 0)), .none, []⟩, ⟨(.some 47), (.call (2 * f_laws_toByteS + 1) [(.tmp 46)]), .none, []⟩, ⟨(.some 48), (.call (2 * f_laws_eqByteS) [(.tmp 45), (.tmp 47)]), .none, []⟩, ⟨(.some 49), (.pu (.n (.un .not)) [(.tmp 48)]), .none, []⟩]) (.cond (.tmp 49) (.seq (.ops [⟨(.some 4), (.mv (.const (.bool false))), .none, []⟩]) .ret) .skip)) (.seq (.ops [⟨(.some 4), (.mv (.const (.bool true))), .none, []⟩]) .ret)))))))), [(.tmp 4)]⟩
set_option maxHeartbeats 10000000 in
theorem d_laws_FnExactGetInt {P : Program} {env : Env} {f_laws_toByteS : Nat} {f_spec_GetInt : Nat} {f_impl_GetInt : Nat} {f_laws_eqByteS : Nat}  (ep_spec_GetInt : env (2 * f_spec_GetInt) = pureFn true (FA fun a : List U8 × Int => p_spec_GetInt a.1 a.2)) (ep_impl_GetInt : env (2 * f_impl_GetInt) = pureFn true (FA fun a : List U8 × Int => p_impl_GetInt a.1 a.2)) (ep_laws_eqByteS : env (2 * f_laws_eqByteS) = pureFn true (FA fun a : List U8 × List U8 => p_laws_eqByteS a.1 a.2)) (e_laws_toByteS : k_laws_toByteS (env (2 * f_laws_toByteS + 1))) (x0 : List U8) (x1 : Int) (hp : p_laws_FnExactGetInt x0 x1 = some true) : R P env (c_laws_FnExactGetInt f_laws_toByteS f_spec_GetInt f_impl_GetInt f_laws_eqByteS) ((encA (x0, x1)).map ofI) [] (fun v _ => v = .i (iB true)) := by
  refine R_of (by simp [c_laws_FnExactGetInt, encA]) ?_
  unfold c_laws_FnExactGetInt
  unfold p_laws_FnExactGetInt at hp
  by_cases hb0 : (decide (1048576 < (x0.length : Int))) = true
  · rw [if_t hb0] at hp
    cases hp
    simp (disch := first | omega | (simp only [List.length_set, List.length_append, List.length_cons, List.length_nil, rows_len, zs]; first | done | omega)) only [ep_spec_GetInt, ep_impl_GetInt, ep_laws_eqByteS, hb0, gs, app_hsl, app_nil, reduceIte, reduceCtorEq, Nat.reduceAdd, Nat.reduceMul, Nat.reduceSub, Nat.reduceBEq, Nat.reduceEqDiff, Nat.reduceLeDiff, Nat.reduceLT, Nat.reduceGT, Int.reduceToNat, Int.reduceLT, Int.reduceLE, Int.reduceNeg, Int.reduceAdd, Int.reduceEq, Int.reduceNe]
  · replace hb0 := eq_false_of_ne_true hb0
    rw [if_f hb0] at hp
    obtain ⟨v1, hv1, hp⟩ := bind_eq hp
    simp (disch := first | omega | (simp only [List.length_set, List.length_append, List.length_cons, List.length_nil, rows_len, zs]; first | done | omega)) only [ep_spec_GetInt, ep_impl_GetInt, ep_laws_eqByteS, hb0, gs, app_hsl, app_nil, reduceIte, reduceCtorEq, Nat.reduceAdd, Nat.reduceMul, Nat.reduceSub, Nat.reduceBEq, Nat.reduceEqDiff, Nat.reduceLeDiff, Nat.reduceLT, Nat.reduceGT, Int.reduceToNat, Int.reduceLT, Int.reduceLE, Int.reduceNeg, Int.reduceAdd, Int.reduceEq, Int.reduceNe]
    refine call_f (fun h => True) (fun h v h2 => oo_laws_toByteS v1 h v h2) ?_ ?_ ?_
    · simp (disch := first | omega | (simp only [List.length_set, List.length_append, List.length_cons, List.length_nil, rows_len, zs]; first | done | omega)) only [ep_spec_GetInt, ep_impl_GetInt, ep_laws_eqByteS, hb0, hv1, gs, app_hsl, app_nil, reduceIte, reduceCtorEq, Nat.reduceAdd, Nat.reduceMul, Nat.reduceSub, Nat.reduceBEq, Nat.reduceEqDiff, Nat.reduceLeDiff, Nat.reduceLT, Nat.reduceGT, Int.reduceToNat, Int.reduceLT, Int.reduceLE, Int.reduceNeg, Int.reduceAdd, Int.reduceEq, Int.reduceNe] <;> omega
    · rintro h _
      exact e_laws_toByteS _ _ hv1 h _ (by simp (disch := first | omega | (simp only [List.length_set, List.length_append, List.length_cons, List.length_nil, rows_len, zs]; first | done | omega)) only [ep_spec_GetInt, ep_impl_GetInt, ep_laws_eqByteS, hb0, hv1, gs, app_hsl, app_nil, reduceIte, reduceCtorEq, Nat.reduceAdd, Nat.reduceMul, Nat.reduceSub, Nat.reduceBEq, Nat.reduceEqDiff, Nat.reduceLeDiff, Nat.reduceLT, Nat.reduceGT, Int.reduceToNat, Int.reduceLT, Int.reduceLE, Int.reduceNeg, Int.reduceAdd, Int.reduceEq, Int.reduceNe])
    · rintro h v hh0 _ hpost
      obtain ⟨kk0, nb0_0, rfl, lnb0_0, gnb0_0, wnb0_0⟩ := hpost
      have d0_0 := wnb0_0
      obtain ⟨v2, hv2, hp⟩ := bind_eq hp
      simp (disch := first | omega | (simp only [List.length_set, List.length_append, List.length_cons, List.length_nil, rows_len, zs]; first | done | omega)) only [ep_spec_GetInt, ep_impl_GetInt, ep_laws_eqByteS, hb0, hv1, d0_0, hv2, gs, app_hsl, app_nil, reduceIte, reduceCtorEq, Nat.reduceAdd, Nat.reduceMul, Nat.reduceSub, Nat.reduceBEq, Nat.reduceEqDiff, Nat.reduceLeDiff, Nat.reduceLT, Nat.reduceGT, Int.reduceToNat, Int.reduceLT, Int.reduceLE, Int.reduceNeg, Int.reduceAdd, Int.reduceEq, Int.reduceNe]
      refine call_f (fun h => getCells h nb0_0 v1.length = some (rows (v1 : List U8)) ∧ nb0_0 < h.length) (fun h v h2 => oo_laws_toByteS v1 h v h2) ?_ ?_ ?_
      · simp (disch := first | omega | (simp only [List.length_set, List.length_append, List.length_cons, List.length_nil, rows_len, zs]; first | done | omega)) only [ep_spec_GetInt, ep_impl_GetInt, ep_laws_eqByteS, hb0, hv1, d0_0, hv2, gs, app_hsl, app_nil, reduceIte, reduceCtorEq, Nat.reduceAdd, Nat.reduceMul, Nat.reduceSub, Nat.reduceBEq, Nat.reduceEqDiff, Nat.reduceLeDiff, Nat.reduceLT, Nat.reduceGT, Int.reduceToNat, Int.reduceLT, Int.reduceLE, Int.reduceNeg, Int.reduceAdd, Int.reduceEq, Int.reduceNe] <;> omega
      · rintro h ⟨c1_0, c1_1⟩
        exact e_laws_toByteS _ _ hv1 h _ (by simp (disch := first | omega | (simp only [List.length_set, List.length_append, List.length_cons, List.length_nil, rows_len, zs]; first | done | omega)) only [ep_spec_GetInt, ep_impl_GetInt, ep_laws_eqByteS, hb0, hv1, d0_0, hv2, c1_0, c1_1, gs, app_hsl, app_nil, reduceIte, reduceCtorEq, Nat.reduceAdd, Nat.reduceMul, Nat.reduceSub, Nat.reduceBEq, Nat.reduceEqDiff, Nat.reduceLeDiff, Nat.reduceLT, Nat.reduceGT, Int.reduceToNat, Int.reduceLT, Int.reduceLE, Int.reduceNeg, Int.reduceAdd, Int.reduceEq, Int.reduceNe])
      · rintro h v hh1 ⟨c1_0, c1_1⟩ hpost
        obtain ⟨kk1, nb1_0, rfl, lnb1_0, gnb1_0, wnb1_0⟩ := hpost
        have d1_0 : getCells hh1 nb0_0 v1.length = some (rows (v1 : List U8)) := (keep_get kk1 c1_1 (by first | (simp; done) | (simp; omega))).trans c1_0
        have d1_0l := keep_lt kk1 c1_1
        have d1_1 := wnb1_0
        obtain ⟨v3, hv3, hp⟩ := bind_eq hp
        by_cases hb4 : (decide (v3.a = v2.a)) = true
        · rw [if_t hb4] at hp
          by_cases hb5 : (decide (v3.b = v2.b)) = true
          · rw [if_t hb5] at hp
            by_cases hb6 : (decide (v3.c = v2.c)) = true
            · rw [if_t hb6] at hp
              simp (disch := first | omega | (simp only [List.length_set, List.length_append, List.length_cons, List.length_nil, rows_len, zs]; first | done | omega)) only [ep_spec_GetInt, ep_impl_GetInt, ep_laws_eqByteS, hb0, hv1, d0_0, hv2, d1_0, d1_1, hv3, hb4, hb5, hb6, gs, app_hsl, app_nil, reduceIte, reduceCtorEq, Nat.reduceAdd, Nat.reduceMul, Nat.reduceSub, Nat.reduceBEq, Nat.reduceEqDiff, Nat.reduceLeDiff, Nat.reduceLT, Nat.reduceGT, Int.reduceToNat, Int.reduceLT, Int.reduceLE, Int.reduceNeg, Int.reduceAdd, Int.reduceEq, Int.reduceNe]
              refine call_f (fun h => getCells h nb0_0 v1.length = some (rows (v1 : List U8)) ∧ nb0_0 < h.length ∧ getCells h nb1_0 v1.length = some (rows (v1 : List U8)) ∧ nb1_0 < h.length) (fun h v h2 => oo_laws_toByteS v1 h v h2) ?_ ?_ ?_
              · simp (disch := first | omega | (simp only [List.length_set, List.length_append, List.length_cons, List.length_nil, rows_len, zs]; first | done | omega)) only [ep_spec_GetInt, ep_impl_GetInt, ep_laws_eqByteS, hb0, hv1, d0_0, hv2, d1_0, d1_1, hv3, hb4, hb5, hb6, gs, app_hsl, app_nil, reduceIte, reduceCtorEq, Nat.reduceAdd, Nat.reduceMul, Nat.reduceSub, Nat.reduceBEq, Nat.reduceEqDiff, Nat.reduceLeDiff, Nat.reduceLT, Nat.reduceGT, Int.reduceToNat, Int.reduceLT, Int.reduceLE, Int.reduceNeg, Int.reduceAdd, Int.reduceEq, Int.reduceNe] <;> omega
              · rintro h ⟨c2_0, c2_1, c2_2, c2_3⟩
                exact e_laws_toByteS _ _ hv1 h _ (by simp (disch := first | omega | (simp only [List.length_set, List.length_append, List.length_cons, List.length_nil, rows_len, zs]; first | done | omega)) only [ep_spec_GetInt, ep_impl_GetInt, ep_laws_eqByteS, hb0, hv1, d0_0, hv2, d1_0, d1_1, hv3, hb4, hb5, hb6, c2_0, c2_1, c2_2, c2_3, gs, app_hsl, app_nil, reduceIte, reduceCtorEq, Nat.reduceAdd, Nat.reduceMul, Nat.reduceSub, Nat.reduceBEq, Nat.reduceEqDiff, Nat.reduceLeDiff, Nat.reduceLT, Nat.reduceGT, Int.reduceToNat, Int.reduceLT, Int.reduceLE, Int.reduceNeg, Int.reduceAdd, Int.reduceEq, Int.reduceNe])
              · rintro h v hh2 ⟨c2_0, c2_1, c2_2, c2_3⟩ hpost
                obtain ⟨kk2, nb2_0, rfl, lnb2_0, gnb2_0, wnb2_0⟩ := hpost
                have d2_0 : getCells hh2 nb0_0 v1.length = some (rows (v1 : List U8)) := (keep_get kk2 c2_1 (by first | (simp; done) | (simp; omega))).trans c2_0
                have d2_0l := keep_lt kk2 c2_1
                have d2_1 : getCells hh2 nb1_0 v1.length = some (rows (v1 : List U8)) := (keep_get kk2 c2_3 (by first | (simp; done) | (simp; omega))).trans c2_2
                have d2_1l := keep_lt kk2 c2_3
                have d2_2 := wnb2_0
                obtain ⟨v7, hv7, hp⟩ := bind_eq hp
                by_cases hb8 : (v7) = true
                · rw [if_t hb8] at hp
                  cases hp
                  simp (disch := first | omega | (simp only [List.length_set, List.length_append, List.length_cons, List.length_nil, rows_len, zs]; first | done | omega)) only [ep_spec_GetInt, ep_impl_GetInt, ep_laws_eqByteS, hb0, hv1, d0_0, hv2, d1_0, d1_1, hv3, hb4, hb5, hb6, d2_0, d2_1, d2_2, hv7, hb8, gs, app_hsl, app_nil, reduceIte, reduceCtorEq, Nat.reduceAdd, Nat.reduceMul, Nat.reduceSub, Nat.reduceBEq, Nat.reduceEqDiff, Nat.reduceLeDiff, Nat.reduceLT, Nat.reduceGT, Int.reduceToNat, Int.reduceLT, Int.reduceLE, Int.reduceNeg, Int.reduceAdd, Int.reduceEq, Int.reduceNe]
                · replace hb8 := eq_false_of_ne_true hb8
                  rw [if_f hb8] at hp
                  cases hp
            · replace hb6 := eq_false_of_ne_true hb6
              rw [if_f hb6] at hp
              cases hp
          · replace hb5 := eq_false_of_ne_true hb5
            rw [if_f hb5] at hp
            cases hp
        · replace hb4 := eq_false_of_ne_true hb4
          rw [if_f hb4] at hp
          cases hp

end Go.AM
