/- Plain functions of ReadVec and their walks. No condition. -/
import Derived.Test.YtjnkmdphjopboaaLabB35
set_option linter.unusedVariables false
set_option linter.unusedSimpArgs false
namespace Go.AM
open Pic (enc dec dec_enc dec_sub)
open PicA (encA decA decA_encA decA_sub)
noncomputable def p_laws_toByteS_l0 (x0 : List U8) : List U8 × Int → Option (Lp (List U8 × Int) (List U8))
  | (s1, s2) =>
    if (decide (s2 < (x0.length : Int))) = true then
      (get? x0 s2).bind fun v4 =>
      (get? s1 s2).bind fun v5 =>
      some (.go ((s1.set s2.toNat v4), w64 (s2 + 1)))
    else
      some (.out (s1, s2))
noncomputable def p_laws_toByteS (x0 : List U8) : Option (List U8) :=
  ((mkL (x0.length : Int) 1 (x0.length : Int) (U8.mk 0) : Option (List U8))).bind fun v0 =>
  (loopP (p_laws_toByteS_l0 x0) (v0, 0)).bind fun ee0 => match ee0 with
  | .ret r => some r
  | .out (o7, o8) =>
    some o7
def c_laws_toByteS : AFn := ⟨22, (.seq (.ops [⟨(.some 2), (.vnil 1 false), .none, []⟩]) (.seq (.ops [⟨(.some 5), (.mv (.tmp 0)), .none, []⟩, ⟨(.some 6), (.len (.tmp 5)), .none, []⟩, ⟨(.some 7), (.makeSl 1 false 1 [(.int .u8 0)] (.tmp 6) (.tmp 6)), .none, []⟩, ⟨(.some 3), (.mv (.tmp 7)), .none, []⟩]) (.seq (.seq (.ops [⟨(.some 4), (.mv (.const (.int .i64 0))), .none, []⟩]) (.block 0 (.loop (.seq (.seq (.ops [⟨(.some 8), (.mv (.tmp 4)), .none, []⟩, ⟨(.some 9), (.mv (.tmp 0)), .none, []⟩, ⟨(.some 10), (.len (.tmp 9)), .none, []⟩, ⟨(.some 11), (.pu (.n (.ar .lss)) [(.tmp 8), (.tmp 10)]), .none, []⟩]) (.cond (.tmp 11) .skip (.exit 0))) (.seq (.block 1 (.ops [⟨(.some 14), (.mv (.tmp 3)), .none, []⟩, ⟨(.some 15), (.mv (.tmp 4)), .none, []⟩, ⟨(.some 16), (.mv (.tmp 0)), .none, []⟩, ⟨(.some 17), (.mv (.tmp 4)), .none, []⟩, ⟨(.some 18), (.idxS 1 (.tmp 16) (.tmp 17)), .none, []⟩, ⟨(.some 19), (.load 1 false (.tmp 18)), .none, []⟩, ⟨(.some 20), (.idxS 1 (.tmp 14) (.tmp 15)), .none, []⟩, ⟨.none, (.storeV [(0, false)] 1 (.tmp 20) (.tmp 19)), .none, []⟩])) (.ops [⟨(.some 12), (.mv (.tmp 4)), .none, []⟩, ⟨(.some 13), (.pu (.n (.ar .add)) [(.tmp 12), (.const (.int .i64 1))]), .none, []⟩, ⟨(.some 4), (.mv (.tmp 13)), .none, []⟩])))))) (.seq (.ops [⟨(.some 21), (.mv (.tmp 3)), .none, []⟩, ⟨(.some 2), (.mv (.tmp 21)), .none, []⟩]) .ret)))), [(.tmp 2)]⟩
set_option maxHeartbeats 10000000 in
theorem d_laws_toByteS {P : Program} {env : Env}  (x0 : List U8) {b : List U8} (hp : p_laws_toByteS x0 = some b) : R P env (c_laws_toByteS) ((encA (x0)).map ofI) [] (Tells true b) := by
  refine R_of (by simp [c_laws_toByteS, encA]) ?_
  unfold c_laws_toByteS
  unfold p_laws_toByteS at hp
  obtain ⟨v0, hv0, hp⟩ := bind_eq hp
  obtain ⟨kv0, qv0, lv0⟩ := mkL_some hv0
  have rv0 : (List.replicate x0.length [.i (.s (.int .u8 0))]).flatten = rows v0 := by rw [qv0]; exact rows_rep (x := ((U8.mk 0) : U8)) rfl
  have mv0 : x0.length = v0.length := by rw [lv0]; simp
  obtain ⟨ee0, hee0, hp⟩ := bind_eq hp
  simp (disch := first | omega | (simp only [List.length_set, List.length_append, List.length_cons, List.length_nil, rows_len, zs]; first | done | omega)) only [hv0, rv0, kv0.1, kv0.2.1, kv0.2.2.1, kv0.2.2.2, gs, reduceIte, reduceCtorEq, Nat.reduceAdd, Nat.reduceMul, Nat.reduceSub, Nat.reduceBEq, Nat.reduceEqDiff, Nat.reduceLeDiff, Nat.reduceLT, Nat.reduceGT, Int.reduceToNat, Int.reduceLT, Int.reduceLE, Int.reduceNeg, Int.reduceAdd, Int.reduceEq, Int.reduceNe]
  refine W_loopP 0 (fun s t h => match s with | (s1, s2) => t 0 = .i (.sl 1 (x0.map enc)) ∧ t 3 = .hsl 1 x0.length 0 1 false x0.length ∧ t 4 = .i (.s (.int .i64 s2)) ∧ getCells h 1 x0.length = some (rows (s1 : List U8)) ∧ 1 < h.length) (RK [.tmp 2] (Tells true)) ?_ hee0 ?_ ?_
  · rintro ⟨s1, s2⟩ ee tt0 hh0 ⟨ftt0_0, ftt0_1, ftt0_2, ftt0_3, ftt0_4⟩ hp
    have ztt0_3 := len_rows ftt0_3
    simp only [zs] at ztt0_3
    rw [p_laws_toByteS_l0] at hp
    by_cases hb3 : (decide (s2 < (x0.length : Int))) = true
    · rw [if_t hb3] at hp
      obtain ⟨v4, hv4, hp⟩ := bind_eq hp
      obtain ⟨v5, hv5, hp⟩ := bind_eq hp
      have gv5 := get_some hv5
      have hs6 : List.take s2.toNat (rows s1) ++ .i (.s (.int .u8 v4.v)) :: List.drop (s2.toNat + 1) (rows s1) = rows (s1.set s2.toNat v4) := by simpa [splice, zs, cellsV, I.cells, enc_u8] using rows_set_off (y := v4) (ys := [.i (.s (.int .u8 v4.v))]) (k := 0) gv5.2.2 (Nat.le_of_ble_eq_true rfl) (by rfl)
      have hp := Option.some.inj hp
      subst hp
      simp (disch := first | omega | (simp only [List.length_set, List.length_append, List.length_cons, List.length_nil, rows_len, zs]; first | done | omega)) only [hv0, rv0, kv0.1, kv0.2.1, kv0.2.2.1, kv0.2.2.2, ftt0_0, ftt0_1, ftt0_2, ftt0_3, ftt0_4, hb3, hv4, hv5, (gv5).1, (gv5).2.1, hs6, gs, reduceIte, reduceCtorEq, Nat.reduceAdd, Nat.reduceMul, Nat.reduceSub, Nat.reduceBEq, Nat.reduceEqDiff, Nat.reduceLeDiff, Nat.reduceLT, Nat.reduceGT, Int.reduceToNat, Int.reduceLT, Int.reduceLE, Int.reduceNeg, Int.reduceAdd, Int.reduceEq, Int.reduceNe] <;> omega
    · replace hb3 := eq_false_of_ne_true hb3
      rw [if_f hb3] at hp
      have hp := Option.some.inj hp
      subst hp
      simp (disch := first | omega | (simp only [List.length_set, List.length_append, List.length_cons, List.length_nil, rows_len, zs]; first | done | omega)) only [hv0, rv0, kv0.1, kv0.2.1, kv0.2.2.1, kv0.2.2.2, ftt0_0, ftt0_1, ftt0_2, ftt0_3, ftt0_4, hb3, gs, reduceIte, reduceCtorEq, Nat.reduceAdd, Nat.reduceMul, Nat.reduceSub, Nat.reduceBEq, Nat.reduceEqDiff, Nat.reduceLeDiff, Nat.reduceLT, Nat.reduceGT, Int.reduceToNat, Int.reduceLT, Int.reduceLE, Int.reduceNeg, Int.reduceAdd, Int.reduceEq, Int.reduceNe] <;> omega
  · simp (disch := first | omega | (simp only [List.length_set, List.length_append, List.length_cons, List.length_nil, rows_len, zs]; first | done | omega)) only [hv0, rv0, kv0.1, kv0.2.1, kv0.2.2.1, kv0.2.2.2, gs, reduceIte, reduceCtorEq, Nat.reduceAdd, Nat.reduceMul, Nat.reduceSub, Nat.reduceBEq, Nat.reduceEqDiff, Nat.reduceLeDiff, Nat.reduceLT, Nat.reduceGT, Int.reduceToNat, Int.reduceLT, Int.reduceLE, Int.reduceNeg, Int.reduceAdd, Int.reduceEq, Int.reduceNe] <;> omega
  · intro x tt1 hh1 hx
    rcases ee0 with ⟨o7, o8⟩ | r
    · obtain ⟨rfl, ftt1_0, ftt1_1, ftt1_2, ftt1_3, ftt1_4⟩ := hx
      have ztt1_3 := len_rows ftt1_3
      simp only [zs] at ztt1_3
      dsimp only at hp
      have hp := Option.some.inj hp
      subst hp
      simp (disch := first | omega | (simp only [List.length_set, List.length_append, List.length_cons, List.length_nil, rows_len, zs]; first | done | omega)) only [hv0, rv0, kv0.1, kv0.2.1, kv0.2.2.1, kv0.2.2.2, ftt1_0, ftt1_1, ftt1_2, ftt1_3, ftt1_4, gs, reduceIte, reduceCtorEq, Nat.reduceAdd, Nat.reduceMul, Nat.reduceSub, Nat.reduceBEq, Nat.reduceEqDiff, Nat.reduceLeDiff, Nat.reduceLT, Nat.reduceGT, Int.reduceToNat, Int.reduceLT, Int.reduceLE, Int.reduceNeg, Int.reduceAdd, Int.reduceEq, Int.reduceNe]
    · obtain ⟨rfl, hx⟩ := hx
      dsimp only at hp
      cases hp
      simp only [seqK_ret, blockK_ret, retK_RK (K := Tells true), hx, and_self, true_and]

def o_laws_toByteS (b : List U8) (v : V) (h : Heap) : Prop := ∃ n0 : Nat, v = .hsl n0 b.length 0 1 false b.length ∧ getCells h n0 b.length = some (rows b)
def oo_laws_toByteS (b : List U8) (h : Heap) (v : V) (h2 : Heap) : Prop := Keep [] h h2 ∧ ∃ n0 : Nat, v = .hsl n0 b.length 0 1 false b.length ∧ n0 < h2.length ∧ h.length ≤ n0 ∧ getCells h2 n0 b.length = some (rows b)
def k_laws_toByteS (F : Fun) : Prop := ∀ (x0 : List U8) (b : List U8), p_laws_toByteS x0 = some b → ∀ (h : Heap) (args : List V), snapA 9 false h args = some (encA (x0)) → ∃ p, F none args h = some p ∧ oo_laws_toByteS b h p.1 p.2
set_option maxHeartbeats 10000000 in
theorem w_laws_toByteS {P : Program} {env : Env}  (x0 : List U8) {b : List U8} (hp : p_laws_toByteS x0 = some b) : R P env (c_laws_toByteS) ((encA (x0)).map ofI) [] (o_laws_toByteS b) := by
  refine R_of (by simp [c_laws_toByteS, encA]) ?_
  unfold c_laws_toByteS
  unfold p_laws_toByteS at hp
  obtain ⟨v0, hv0, hp⟩ := bind_eq hp
  obtain ⟨kv0, qv0, lv0⟩ := mkL_some hv0
  have rv0 : (List.replicate x0.length [.i (.s (.int .u8 0))]).flatten = rows v0 := by rw [qv0]; exact rows_rep (x := ((U8.mk 0) : U8)) rfl
  have mv0 : x0.length = v0.length := by rw [lv0]; simp
  obtain ⟨ee0, hee0, hp⟩ := bind_eq hp
  simp (disch := first | omega | (simp only [List.length_set, List.length_append, List.length_cons, List.length_nil, rows_len, zs]; first | done | omega)) only [hv0, rv0, kv0.1, kv0.2.1, kv0.2.2.1, kv0.2.2.2, gs, reduceIte, reduceCtorEq, Nat.reduceAdd, Nat.reduceMul, Nat.reduceSub, Nat.reduceBEq, Nat.reduceEqDiff, Nat.reduceLeDiff, Nat.reduceLT, Nat.reduceGT, Int.reduceToNat, Int.reduceLT, Int.reduceLE, Int.reduceNeg, Int.reduceAdd, Int.reduceEq, Int.reduceNe]
  refine W_loopP 0 (fun s t h => match s with | (s1, s2) => t 0 = .i (.sl 1 (x0.map enc)) ∧ t 3 = .hsl 1 x0.length 0 1 false x0.length ∧ t 4 = .i (.s (.int .i64 s2)) ∧ getCells h 1 x0.length = some (rows (s1 : List U8)) ∧ 1 < h.length) (RK [.tmp 2] (o_laws_toByteS)) ?_ hee0 ?_ ?_
  · rintro ⟨s1, s2⟩ ee tt0 hh0 ⟨ftt0_0, ftt0_1, ftt0_2, ftt0_3, ftt0_4⟩ hp
    have ztt0_3 := len_rows ftt0_3
    simp only [zs] at ztt0_3
    rw [p_laws_toByteS_l0] at hp
    by_cases hb3 : (decide (s2 < (x0.length : Int))) = true
    · rw [if_t hb3] at hp
      obtain ⟨v4, hv4, hp⟩ := bind_eq hp
      obtain ⟨v5, hv5, hp⟩ := bind_eq hp
      have gv5 := get_some hv5
      have hs6 : List.take s2.toNat (rows s1) ++ .i (.s (.int .u8 v4.v)) :: List.drop (s2.toNat + 1) (rows s1) = rows (s1.set s2.toNat v4) := by simpa [splice, zs, cellsV, I.cells, enc_u8] using rows_set_off (y := v4) (ys := [.i (.s (.int .u8 v4.v))]) (k := 0) gv5.2.2 (Nat.le_of_ble_eq_true rfl) (by rfl)
      have hp := Option.some.inj hp
      subst hp
      simp (disch := first | omega | (simp only [List.length_set, List.length_append, List.length_cons, List.length_nil, rows_len, zs]; first | done | omega)) only [hv0, rv0, kv0.1, kv0.2.1, kv0.2.2.1, kv0.2.2.2, ftt0_0, ftt0_1, ftt0_2, ftt0_3, ftt0_4, hb3, hv4, hv5, (gv5).1, (gv5).2.1, hs6, gs, reduceIte, reduceCtorEq, Nat.reduceAdd, Nat.reduceMul, Nat.reduceSub, Nat.reduceBEq, Nat.reduceEqDiff, Nat.reduceLeDiff, Nat.reduceLT, Nat.reduceGT, Int.reduceToNat, Int.reduceLT, Int.reduceLE, Int.reduceNeg, Int.reduceAdd, Int.reduceEq, Int.reduceNe] <;> omega
    · replace hb3 := eq_false_of_ne_true hb3
      rw [if_f hb3] at hp
      have hp := Option.some.inj hp
      subst hp
      simp (disch := first | omega | (simp only [List.length_set, List.length_append, List.length_cons, List.length_nil, rows_len, zs]; first | done | omega)) only [hv0, rv0, kv0.1, kv0.2.1, kv0.2.2.1, kv0.2.2.2, ftt0_0, ftt0_1, ftt0_2, ftt0_3, ftt0_4, hb3, gs, reduceIte, reduceCtorEq, Nat.reduceAdd, Nat.reduceMul, Nat.reduceSub, Nat.reduceBEq, Nat.reduceEqDiff, Nat.reduceLeDiff, Nat.reduceLT, Nat.reduceGT, Int.reduceToNat, Int.reduceLT, Int.reduceLE, Int.reduceNeg, Int.reduceAdd, Int.reduceEq, Int.reduceNe] <;> omega
  · simp (disch := first | omega | (simp only [List.length_set, List.length_append, List.length_cons, List.length_nil, rows_len, zs]; first | done | omega)) only [hv0, rv0, kv0.1, kv0.2.1, kv0.2.2.1, kv0.2.2.2, gs, reduceIte, reduceCtorEq, Nat.reduceAdd, Nat.reduceMul, Nat.reduceSub, Nat.reduceBEq, Nat.reduceEqDiff, Nat.reduceLeDiff, Nat.reduceLT, Nat.reduceGT, Int.reduceToNat, Int.reduceLT, Int.reduceLE, Int.reduceNeg, Int.reduceAdd, Int.reduceEq, Int.reduceNe] <;> omega
  · intro x tt1 hh1 hx
    rcases ee0 with ⟨o7, o8⟩ | r
    · obtain ⟨rfl, ftt1_0, ftt1_1, ftt1_2, ftt1_3, ftt1_4⟩ := hx
      have ztt1_3 := len_rows ftt1_3
      simp only [zs] at ztt1_3
      dsimp only at hp
      have hp := Option.some.inj hp
      subst hp
      simp (disch := first | omega | (simp only [List.length_set, List.length_append, List.length_cons, List.length_nil, rows_len, zs]; first | done | omega)) only [hv0, rv0, kv0.1, kv0.2.1, kv0.2.2.1, kv0.2.2.2, ftt1_0, ftt1_1, ftt1_2, ftt1_3, ftt1_4, gs, reduceIte, reduceCtorEq, Nat.reduceAdd, Nat.reduceMul, Nat.reduceSub, Nat.reduceBEq, Nat.reduceEqDiff, Nat.reduceLeDiff, Nat.reduceLT, Nat.reduceGT, Int.reduceToNat, Int.reduceLT, Int.reduceLE, Int.reduceNeg, Int.reduceAdd, Int.reduceEq, Int.reduceNe]
      refine ⟨1, ?_⟩
      simp (disch := first | omega | (simp only [List.length_set, List.length_append, List.length_cons, List.length_nil, rows_len, zs]; first | done | omega)) only [hv0, rv0, kv0.1, kv0.2.1, kv0.2.2.1, kv0.2.2.2, ftt1_0, ftt1_1, ftt1_2, ftt1_3, ftt1_4, o_laws_toByteS, (show (o7).length = x0.length from by first | omega | rfl), gs, reduceIte, reduceCtorEq, Nat.reduceAdd, Nat.reduceMul, Nat.reduceSub, Nat.reduceBEq, Nat.reduceEqDiff, Nat.reduceLeDiff, Nat.reduceLT, Nat.reduceGT, Int.reduceToNat, Int.reduceLT, Int.reduceLE, Int.reduceNeg, Int.reduceAdd, Int.reduceEq, Int.reduceNe] <;> omega
    · obtain ⟨rfl, hx⟩ := hx
      dsimp only at hp
      cases hp
      simp only [seqK_ret, blockK_ret, retK_RK (K := o_laws_toByteS), hx, and_self, true_and]
theorem ko_laws_toByteS {P : Program} {env : Env}  : k_laws_toByteS (ownFn P env (c_laws_toByteS)) := by
  intro x0 b hp h args has
  obtain ⟨⟨v, H2⟩, hr, n0, rfl, wn0⟩ := w_laws_toByteS x0 hp
  exact ⟨_, own_call has hr rfl, keep_moved, n0 + h.length, rfl, (moved_lt wn0).2, (moved_lt wn0).1, moved_rows wn0⟩

noncomputable def p_spec_l02New  : Option TVec :=
  ((mkL 16 8 16 0 : Option (List Int))).bind fun v0 =>
  some (TVec.mk v0)
def c_spec_l02New : AFn := ⟨3, (.seq (.ops [⟨(.some 0), (.allocV [(1, false)] [(.slice .none 0 0)]), .none, []⟩]) (.seq (.ops [⟨(.some 1), (.makeSl 1 false 8 [(.int .i64 0)] (.const (.int .i64 16)) (.const (.int .i64 16))), .none, []⟩, ⟨(.some 2), (.build [(.slice .none 0 0)] [(0, (1, (.tmp 1)))]), .none, []⟩, ⟨.none, (.storeV [(1, false)] 1 (.tmp 0) (.tmp 2)), .none, []⟩]) .ret)), [(.cell 0 1 true)]⟩
def o_spec_l02New (b : TVec) (v : V) (h : Heap) : Prop := ∃ n0 : Nat, v = .agg [.hsl n0 b.counts.length 0 1 false b.counts.length] ∧ getCells h n0 b.counts.length = some (rows b.counts)
def oo_spec_l02New (b : TVec) (h : Heap) (v : V) (h2 : Heap) : Prop := Keep [] h h2 ∧ ∃ n0 : Nat, v = .agg [.hsl n0 b.counts.length 0 1 false b.counts.length] ∧ n0 < h2.length ∧ h.length ≤ n0 ∧ getCells h2 n0 b.counts.length = some (rows b.counts)
def k_spec_l02New (F : Fun) : Prop := ∀  (b : TVec), p_spec_l02New  = some b → ∀ (h : Heap) (args : List V), snapA 9 false h args = some (encA ()) → ∃ p, F none args h = some p ∧ oo_spec_l02New b h p.1 p.2
set_option maxHeartbeats 10000000 in
theorem w_spec_l02New {P : Program} {env : Env}   {b : TVec} (hp : p_spec_l02New  = some b) : R P env (c_spec_l02New) ((encA ()).map ofI) [] (o_spec_l02New b) := by
  refine R_of (by simp [c_spec_l02New, encA]) ?_
  unfold c_spec_l02New
  unfold p_spec_l02New at hp
  obtain ⟨v0, hv0, hp⟩ := bind_eq hp
  obtain ⟨kv0, qv0, lv0⟩ := mkL_some hv0
  have rv0 : [.i (.s (.int .i64 0)), .i (.s (.int .i64 0)), .i (.s (.int .i64 0)), .i (.s (.int .i64 0)), .i (.s (.int .i64 0)), .i (.s (.int .i64 0)), .i (.s (.int .i64 0)), .i (.s (.int .i64 0)), .i (.s (.int .i64 0)), .i (.s (.int .i64 0)), .i (.s (.int .i64 0)), .i (.s (.int .i64 0)), .i (.s (.int .i64 0)), .i (.s (.int .i64 0)), .i (.s (.int .i64 0)), .i (.s (.int .i64 0))] = rows v0 := by rw [qv0]; rfl
  have mv0 : 16 = v0.length := by rw [lv0]; simp
  have hp := Option.some.inj hp
  subst hp
  simp (disch := first | omega | (simp only [List.length_set, List.length_append, List.length_cons, List.length_nil, rows_len, zs]; first | done | omega)) only [hv0, rv0, kv0.1, kv0.2.1, kv0.2.2.1, kv0.2.2.2, gs, reduceIte, reduceCtorEq, Nat.reduceAdd, Nat.reduceMul, Nat.reduceSub, Nat.reduceBEq, Nat.reduceEqDiff, Nat.reduceLeDiff, Nat.reduceLT, Nat.reduceGT, Int.reduceToNat, Int.reduceLT, Int.reduceLE, Int.reduceNeg, Int.reduceAdd, Int.reduceEq, Int.reduceNe]
  refine ⟨2, ?_⟩
  simp (disch := first | omega | (simp only [List.length_set, List.length_append, List.length_cons, List.length_nil, rows_len, zs]; first | done | omega)) only [hv0, rv0, kv0.1, kv0.2.1, kv0.2.2.1, kv0.2.2.2, o_spec_l02New, (show (v0).length = 16 from by first | omega | rfl), gs, reduceIte, reduceCtorEq, Nat.reduceAdd, Nat.reduceMul, Nat.reduceSub, Nat.reduceBEq, Nat.reduceEqDiff, Nat.reduceLeDiff, Nat.reduceLT, Nat.reduceGT, Int.reduceToNat, Int.reduceLT, Int.reduceLE, Int.reduceNeg, Int.reduceAdd, Int.reduceEq, Int.reduceNe] <;> omega
theorem ko_spec_l02New {P : Program} {env : Env}  : k_spec_l02New (ownFn P env (c_spec_l02New)) := by
  intro  b hp h args has
  obtain ⟨⟨v, H2⟩, hr, n0, rfl, wn0⟩ := w_spec_l02New  hp
  exact ⟨_, own_call has hr rfl, keep_moved, n0 + h.length, rfl, (moved_lt wn0).2, (moved_lt wn0).1, moved_rows wn0⟩

noncomputable def p_spec_l01Get_l0 (x0 : List U8) (x1 : Int) : Int × Int × Int → Option (Lp (Int × Int × Int) (T3 Int Int Bool))
  | (s0, s1, s2) =>
    if (decide (s2 < 9)) = true then
      if (decide (w64 (x1 + s2) < (x0.length : Int))) = true then
        (get? x0 (w64 (x1 + s2))).bind fun v5 =>
        if (decide (s2 = 8)) = true then
          if (decide (63 < w64 v5.v)) = true then
            some (.ret ⟨0, 0, false⟩)
          else
            if (decide (w64 v5.v < 128)) = true then
              if (decide (s2 = 0)) = true then
                some (.ret ⟨w64 (s0 + (w64 ((Int.tmod (w64 v5.v) 128) * s1))), w64 ((w64 (x1 + s2)) + 1), true⟩)
              else
                some (.ret ⟨w64 (s0 + (w64 ((Int.tmod (w64 v5.v) 128) * s1))), w64 ((w64 (x1 + s2)) + 1), decide (0 < w64 v5.v)⟩)
            else
              if (decide (s2 < 8)) = true then
                some (.go (w64 (s0 + (w64 ((Int.tmod (w64 v5.v) 128) * s1))), w64 (s1 * 128), w64 (s2 + 1)))
              else
                some (.go (w64 (s0 + (w64 ((Int.tmod (w64 v5.v) 128) * s1))), s1, w64 (s2 + 1)))
        else
          if (decide (w64 v5.v < 128)) = true then
            if (decide (s2 = 0)) = true then
              some (.ret ⟨w64 (s0 + (w64 ((Int.tmod (w64 v5.v) 128) * s1))), w64 ((w64 (x1 + s2)) + 1), true⟩)
            else
              some (.ret ⟨w64 (s0 + (w64 ((Int.tmod (w64 v5.v) 128) * s1))), w64 ((w64 (x1 + s2)) + 1), decide (0 < w64 v5.v)⟩)
          else
            if (decide (s2 < 8)) = true then
              some (.go (w64 (s0 + (w64 ((Int.tmod (w64 v5.v) 128) * s1))), w64 (s1 * 128), w64 (s2 + 1)))
            else
              some (.go (w64 (s0 + (w64 ((Int.tmod (w64 v5.v) 128) * s1))), s1, w64 (s2 + 1)))
      else
        some (.out (s0, s1, s2))
    else
      some (.out (s0, s1, s2))
noncomputable def p_spec_l01Get (x0 : List U8) (x1 : Int) : Option (T3 Int Int Bool) :=
  (loopP (p_spec_l01Get_l0 x0 x1) (0, 1, 0)).bind fun ee0 => match ee0 with
  | .ret r => some r
  | .out (o14, o15, o16) =>
    some ⟨0, 0, false⟩
def c_spec_l01Get : AFn := ⟨59, (.seq (.ops [⟨(.some 4), (.mv (.const (.int .i64 0))), .none, []⟩, ⟨(.some 5), (.mv (.const (.int .i64 0))), .none, []⟩, ⟨(.some 6), (.mv (.const (.bool false))), .none, []⟩]) (.seq (.ops [⟨(.some 7), (.mv (.const (.int .i64 0))), .none, []⟩]) (.seq (.ops [⟨(.some 8), (.mv (.const (.int .i64 1))), .none, []⟩]) (.seq (.seq (.ops [⟨(.some 9), (.mv (.const (.int .i64 0))), .none, []⟩]) (.block 0 (.loop (.seq (.seq (.ops [⟨(.some 11), (.mv (.tmp 9)), .none, []⟩, ⟨(.some 12), (.pu (.n (.ar .lss)) [(.tmp 11), (.const (.int .i64 9))]), .none, []⟩, ⟨(.some 13), (.mv (.tmp 12)), .none, []⟩, ⟨(.some 14), (.mv (.tmp 1)), (.some (13, true)), []⟩, ⟨(.some 15), (.mv (.tmp 9)), (.some (13, true)), []⟩, ⟨(.some 16), (.pu (.n (.ar .add)) [(.tmp 14), (.tmp 15)]), (.some (13, true)), []⟩, ⟨(.some 17), (.mv (.tmp 0)), (.some (13, true)), []⟩, ⟨(.some 18), (.len (.tmp 17)), (.some (13, true)), []⟩, ⟨(.some 19), (.pu (.n (.ar .lss)) [(.tmp 16), (.tmp 18)]), (.some (13, true)), []⟩, ⟨(.some 20), (.pick (.tmp 13) (.tmp 19) (.const (.bool false))), .none, []⟩]) (.cond (.tmp 20) .skip (.exit 0))) (.seq (.block 1 (.seq (.ops [⟨(.some 23), (.mv (.tmp 0)), .none, []⟩, ⟨(.some 24), (.mv (.tmp 1)), .none, []⟩, ⟨(.some 25), (.mv (.tmp 9)), .none, []⟩, ⟨(.some 26), (.pu (.n (.ar .add)) [(.tmp 24), (.tmp 25)]), .none, []⟩, ⟨(.some 27), (.idxS 1 (.tmp 23) (.tmp 26)), .none, []⟩, ⟨(.some 28), (.load 1 false (.tmp 27)), .none, []⟩, ⟨(.some 29), (.pu (.n (.conv .i64)) [(.tmp 28)]), .none, []⟩, ⟨(.some 10), (.mv (.tmp 29)), .none, []⟩]) (.seq (.seq (.ops [⟨(.some 30), (.mv (.tmp 9)), .none, []⟩, ⟨(.some 31), (.pu (.n (.ar .eql)) [(.tmp 30), (.const (.int .i64 8))]), .none, []⟩, ⟨(.some 32), (.mv (.tmp 31)), .none, []⟩, ⟨(.some 33), (.mv (.tmp 10)), (.some (32, true)), []⟩, ⟨(.some 34), (.pu (.n (.ar .gtr)) [(.tmp 33), (.const (.int .i64 63))]), (.some (32, true)), []⟩, ⟨(.some 35), (.pick (.tmp 32) (.tmp 34) (.const (.bool false))), .none, []⟩]) (.cond (.tmp 35) (.seq (.ops [⟨(.some 4), (.mv (.const (.int .i64 0))), .none, []⟩, ⟨(.some 5), (.mv (.const (.int .i64 0))), .none, []⟩, ⟨(.some 6), (.mv (.const (.bool false))), .none, []⟩]) .ret) .skip)) (.seq (.ops [⟨(.some 36), (.mv (.tmp 7)), .none, []⟩, ⟨(.some 37), (.mv (.tmp 10)), .none, []⟩, ⟨(.some 38), (.pu (.n (.ar .rem)) [(.tmp 37), (.const (.int .i64 128))]), .none, []⟩, ⟨(.some 39), (.mv (.tmp 8)), .none, []⟩, ⟨(.some 40), (.pu (.n (.ar .mul)) [(.tmp 38), (.tmp 39)]), .none, []⟩, ⟨(.some 41), (.pu (.n (.ar .add)) [(.tmp 36), (.tmp 40)]), .none, []⟩, ⟨(.some 7), (.mv (.tmp 41)), .none, []⟩]) (.seq (.seq (.ops [⟨(.some 42), (.mv (.tmp 10)), .none, []⟩, ⟨(.some 43), (.pu (.n (.ar .lss)) [(.tmp 42), (.const (.int .i64 128))]), .none, []⟩]) (.cond (.tmp 43) (.seq (.ops [⟨(.some 44), (.mv (.tmp 7)), .none, []⟩, ⟨(.some 45), (.mv (.tmp 1)), .none, []⟩, ⟨(.some 46), (.mv (.tmp 9)), .none, []⟩, ⟨(.some 47), (.pu (.n (.ar .add)) [(.tmp 45), (.tmp 46)]), .none, []⟩, ⟨(.some 48), (.pu (.n (.ar .add)) [(.tmp 47), (.const (.int .i64 1))]), .none, []⟩, ⟨(.some 49), (.mv (.tmp 9)), .none, []⟩, ⟨(.some 50), (.pu (.n (.ar .eql)) [(.tmp 49), (.const (.int .i64 0))]), .none, []⟩, ⟨(.some 51), (.mv (.tmp 50)), .none, []⟩, ⟨(.some 52), (.mv (.tmp 10)), (.some (51, false)), []⟩, ⟨(.some 53), (.pu (.n (.ar .gtr)) [(.tmp 52), (.const (.int .i64 0))]), (.some (51, false)), []⟩, ⟨(.some 54), (.pick (.tmp 51) (.const (.bool true)) (.tmp 53)), .none, []⟩, ⟨(.some 4), (.mv (.tmp 44)), .none, []⟩, ⟨(.some 5), (.mv (.tmp 48)), .none, []⟩, ⟨(.some 6), (.mv (.tmp 54)), .none, []⟩]) .ret) .skip)) (.seq (.ops [⟨(.some 55), (.mv (.tmp 9)), .none, []⟩, ⟨(.some 56), (.pu (.n (.ar .lss)) [(.tmp 55), (.const (.int .i64 8))]), .none, []⟩]) (.cond (.tmp 56) (.ops [⟨(.some 57), (.mv (.tmp 8)), .none, []⟩, ⟨(.some 58), (.pu (.n (.ar .mul)) [(.tmp 57), (.const (.int .i64 128))]), .none, []⟩, ⟨(.some 8), (.mv (.tmp 58)), .none, []⟩]) .skip))))))) (.ops [⟨(.some 21), (.mv (.tmp 9)), .none, []⟩, ⟨(.some 22), (.pu (.n (.ar .add)) [(.tmp 21), (.const (.int .i64 1))]), .none, []⟩, ⟨(.some 9), (.mv (.tmp 22)), .none, []⟩])))))) (.seq (.ops [⟨(.some 4), (.mv (.const (.int .i64 0))), .none, []⟩, ⟨(.some 5), (.mv (.const (.int .i64 0))), .none, []⟩, ⟨(.some 6), (.mv (.const (.bool false))), .none, []⟩]) .ret))))), [(.tmp 4), (.tmp 5), (.tmp 6)]⟩
set_option maxHeartbeats 10000000 in
theorem d_spec_l01Get {P : Program} {env : Env}  (x0 : List U8) (x1 : Int) {b : T3 Int Int Bool} (hp : p_spec_l01Get x0 x1 = some b) : R P env (c_spec_l01Get) ((encA (x0, x1)).map ofI) [] (Tells true b) := by
  refine R_of (by simp [c_spec_l01Get, encA]) ?_
  unfold c_spec_l01Get
  unfold p_spec_l01Get at hp
  obtain ⟨ee0, hee0, hp⟩ := bind_eq hp
  simp (disch := first | omega | (simp only [List.length_set, List.length_append, List.length_cons, List.length_nil, rows_len, zs]; first | done | omega)) only [gs, reduceIte, reduceCtorEq, Nat.reduceAdd, Nat.reduceMul, Nat.reduceSub, Nat.reduceBEq, Nat.reduceEqDiff, Nat.reduceLeDiff, Nat.reduceLT, Nat.reduceGT, Int.reduceToNat, Int.reduceLT, Int.reduceLE, Int.reduceNeg, Int.reduceAdd, Int.reduceEq, Int.reduceNe]
  refine W_loopP 0 (fun s t h => match s with | (s0, s1, s2) => t 0 = .i (.sl 1 (x0.map enc)) ∧ t 1 = .i (.s (.int .i64 x1)) ∧ t 7 = .i (.s (.int .i64 s0)) ∧ t 8 = .i (.s (.int .i64 s1)) ∧ t 9 = .i (.s (.int .i64 s2))) (RK [.tmp 4, .tmp 5, .tmp 6] (Tells true)) ?_ hee0 ?_ ?_
  · rintro ⟨s0, s1, s2⟩ ee tt0 hh0 ⟨ftt0_0, ftt0_1, ftt0_2, ftt0_3, ftt0_4⟩ hp
    rw [p_spec_l01Get_l0] at hp
    by_cases hb3 : (decide (s2 < 9)) = true
    · rw [if_t hb3] at hp
      by_cases hb4 : (decide (w64 (x1 + s2) < (x0.length : Int))) = true
      · rw [if_t hb4] at hp
        obtain ⟨v5, hv5, hp⟩ := bind_eq hp
        by_cases hb6 : (decide (s2 = 8)) = true
        · rw [if_t hb6] at hp
          by_cases hb7 : (decide (63 < w64 v5.v)) = true
          · rw [if_t hb7] at hp
            have hp := Option.some.inj hp
            subst hp
            simp (disch := first | omega | (simp only [List.length_set, List.length_append, List.length_cons, List.length_nil, rows_len, zs]; first | done | omega)) only [ftt0_0, ftt0_1, ftt0_2, ftt0_3, ftt0_4, hb3, hb4, hv5, hb6, hb7, gs, reduceIte, reduceCtorEq, Nat.reduceAdd, Nat.reduceMul, Nat.reduceSub, Nat.reduceBEq, Nat.reduceEqDiff, Nat.reduceLeDiff, Nat.reduceLT, Nat.reduceGT, Int.reduceToNat, Int.reduceLT, Int.reduceLE, Int.reduceNeg, Int.reduceAdd, Int.reduceEq, Int.reduceNe]
          · replace hb7 := eq_false_of_ne_true hb7
            rw [if_f hb7] at hp
            by_cases hb8 : (decide (w64 v5.v < 128)) = true
            · rw [if_t hb8] at hp
              by_cases hb9 : (decide (s2 = 0)) = true
              · rw [if_t hb9] at hp
                have hp := Option.some.inj hp
                subst hp
                simp (disch := first | omega | (simp only [List.length_set, List.length_append, List.length_cons, List.length_nil, rows_len, zs]; first | done | omega)) only [ftt0_0, ftt0_1, ftt0_2, ftt0_3, ftt0_4, hb3, hb4, hv5, hb6, hb7, hb8, hb9, gs, reduceIte, reduceCtorEq, Nat.reduceAdd, Nat.reduceMul, Nat.reduceSub, Nat.reduceBEq, Nat.reduceEqDiff, Nat.reduceLeDiff, Nat.reduceLT, Nat.reduceGT, Int.reduceToNat, Int.reduceLT, Int.reduceLE, Int.reduceNeg, Int.reduceAdd, Int.reduceEq, Int.reduceNe]
              · replace hb9 := eq_false_of_ne_true hb9
                rw [if_f hb9] at hp
                have hp := Option.some.inj hp
                subst hp
                simp (disch := first | omega | (simp only [List.length_set, List.length_append, List.length_cons, List.length_nil, rows_len, zs]; first | done | omega)) only [ftt0_0, ftt0_1, ftt0_2, ftt0_3, ftt0_4, hb3, hb4, hv5, hb6, hb7, hb8, hb9, gs, reduceIte, reduceCtorEq, Nat.reduceAdd, Nat.reduceMul, Nat.reduceSub, Nat.reduceBEq, Nat.reduceEqDiff, Nat.reduceLeDiff, Nat.reduceLT, Nat.reduceGT, Int.reduceToNat, Int.reduceLT, Int.reduceLE, Int.reduceNeg, Int.reduceAdd, Int.reduceEq, Int.reduceNe]
            · replace hb8 := eq_false_of_ne_true hb8
              rw [if_f hb8] at hp
              by_cases hb10 : (decide (s2 < 8)) = true
              · rw [if_t hb10] at hp
                have hp := Option.some.inj hp
                subst hp
                simp (disch := first | omega | (simp only [List.length_set, List.length_append, List.length_cons, List.length_nil, rows_len, zs]; first | done | omega)) only [ftt0_0, ftt0_1, ftt0_2, ftt0_3, ftt0_4, hb3, hb4, hv5, hb6, hb7, hb8, hb10, gs, reduceIte, reduceCtorEq, Nat.reduceAdd, Nat.reduceMul, Nat.reduceSub, Nat.reduceBEq, Nat.reduceEqDiff, Nat.reduceLeDiff, Nat.reduceLT, Nat.reduceGT, Int.reduceToNat, Int.reduceLT, Int.reduceLE, Int.reduceNeg, Int.reduceAdd, Int.reduceEq, Int.reduceNe] <;> omega
              · replace hb10 := eq_false_of_ne_true hb10
                rw [if_f hb10] at hp
                have hp := Option.some.inj hp
                subst hp
                simp (disch := first | omega | (simp only [List.length_set, List.length_append, List.length_cons, List.length_nil, rows_len, zs]; first | done | omega)) only [ftt0_0, ftt0_1, ftt0_2, ftt0_3, ftt0_4, hb3, hb4, hv5, hb6, hb7, hb8, hb10, gs, reduceIte, reduceCtorEq, Nat.reduceAdd, Nat.reduceMul, Nat.reduceSub, Nat.reduceBEq, Nat.reduceEqDiff, Nat.reduceLeDiff, Nat.reduceLT, Nat.reduceGT, Int.reduceToNat, Int.reduceLT, Int.reduceLE, Int.reduceNeg, Int.reduceAdd, Int.reduceEq, Int.reduceNe] <;> omega
        · replace hb6 := eq_false_of_ne_true hb6
          rw [if_f hb6] at hp
          by_cases hb11 : (decide (w64 v5.v < 128)) = true
          · rw [if_t hb11] at hp
            by_cases hb12 : (decide (s2 = 0)) = true
            · rw [if_t hb12] at hp
              have hp := Option.some.inj hp
              subst hp
              simp (disch := first | omega | (simp only [List.length_set, List.length_append, List.length_cons, List.length_nil, rows_len, zs]; first | done | omega)) only [ftt0_0, ftt0_1, ftt0_2, ftt0_3, ftt0_4, hb3, hb4, hv5, hb6, hb11, hb12, gs, reduceIte, reduceCtorEq, Nat.reduceAdd, Nat.reduceMul, Nat.reduceSub, Nat.reduceBEq, Nat.reduceEqDiff, Nat.reduceLeDiff, Nat.reduceLT, Nat.reduceGT, Int.reduceToNat, Int.reduceLT, Int.reduceLE, Int.reduceNeg, Int.reduceAdd, Int.reduceEq, Int.reduceNe]
            · replace hb12 := eq_false_of_ne_true hb12
              rw [if_f hb12] at hp
              have hp := Option.some.inj hp
              subst hp
              simp (disch := first | omega | (simp only [List.length_set, List.length_append, List.length_cons, List.length_nil, rows_len, zs]; first | done | omega)) only [ftt0_0, ftt0_1, ftt0_2, ftt0_3, ftt0_4, hb3, hb4, hv5, hb6, hb11, hb12, gs, reduceIte, reduceCtorEq, Nat.reduceAdd, Nat.reduceMul, Nat.reduceSub, Nat.reduceBEq, Nat.reduceEqDiff, Nat.reduceLeDiff, Nat.reduceLT, Nat.reduceGT, Int.reduceToNat, Int.reduceLT, Int.reduceLE, Int.reduceNeg, Int.reduceAdd, Int.reduceEq, Int.reduceNe]
          · replace hb11 := eq_false_of_ne_true hb11
            rw [if_f hb11] at hp
            by_cases hb13 : (decide (s2 < 8)) = true
            · rw [if_t hb13] at hp
              have hp := Option.some.inj hp
              subst hp
              simp (disch := first | omega | (simp only [List.length_set, List.length_append, List.length_cons, List.length_nil, rows_len, zs]; first | done | omega)) only [ftt0_0, ftt0_1, ftt0_2, ftt0_3, ftt0_4, hb3, hb4, hv5, hb6, hb11, hb13, gs, reduceIte, reduceCtorEq, Nat.reduceAdd, Nat.reduceMul, Nat.reduceSub, Nat.reduceBEq, Nat.reduceEqDiff, Nat.reduceLeDiff, Nat.reduceLT, Nat.reduceGT, Int.reduceToNat, Int.reduceLT, Int.reduceLE, Int.reduceNeg, Int.reduceAdd, Int.reduceEq, Int.reduceNe] <;> omega
            · replace hb13 := eq_false_of_ne_true hb13
              rw [if_f hb13] at hp
              have hp := Option.some.inj hp
              subst hp
              simp (disch := first | omega | (simp only [List.length_set, List.length_append, List.length_cons, List.length_nil, rows_len, zs]; first | done | omega)) only [ftt0_0, ftt0_1, ftt0_2, ftt0_3, ftt0_4, hb3, hb4, hv5, hb6, hb11, hb13, gs, reduceIte, reduceCtorEq, Nat.reduceAdd, Nat.reduceMul, Nat.reduceSub, Nat.reduceBEq, Nat.reduceEqDiff, Nat.reduceLeDiff, Nat.reduceLT, Nat.reduceGT, Int.reduceToNat, Int.reduceLT, Int.reduceLE, Int.reduceNeg, Int.reduceAdd, Int.reduceEq, Int.reduceNe] <;> omega
      · replace hb4 := eq_false_of_ne_true hb4
        rw [if_f hb4] at hp
        have hp := Option.some.inj hp
        subst hp
        simp (disch := first | omega | (simp only [List.length_set, List.length_append, List.length_cons, List.length_nil, rows_len, zs]; first | done | omega)) only [ftt0_0, ftt0_1, ftt0_2, ftt0_3, ftt0_4, hb3, hb4, gs, reduceIte, reduceCtorEq, Nat.reduceAdd, Nat.reduceMul, Nat.reduceSub, Nat.reduceBEq, Nat.reduceEqDiff, Nat.reduceLeDiff, Nat.reduceLT, Nat.reduceGT, Int.reduceToNat, Int.reduceLT, Int.reduceLE, Int.reduceNeg, Int.reduceAdd, Int.reduceEq, Int.reduceNe] <;> omega
    · replace hb3 := eq_false_of_ne_true hb3
      rw [if_f hb3] at hp
      have hp := Option.some.inj hp
      subst hp
      simp (disch := first | omega | (simp only [List.length_set, List.length_append, List.length_cons, List.length_nil, rows_len, zs]; first | done | omega)) only [ftt0_0, ftt0_1, ftt0_2, ftt0_3, ftt0_4, hb3, gs, reduceIte, reduceCtorEq, Nat.reduceAdd, Nat.reduceMul, Nat.reduceSub, Nat.reduceBEq, Nat.reduceEqDiff, Nat.reduceLeDiff, Nat.reduceLT, Nat.reduceGT, Int.reduceToNat, Int.reduceLT, Int.reduceLE, Int.reduceNeg, Int.reduceAdd, Int.reduceEq, Int.reduceNe] <;> omega
  · simp (disch := first | omega | (simp only [List.length_set, List.length_append, List.length_cons, List.length_nil, rows_len, zs]; first | done | omega)) only [gs, reduceIte, reduceCtorEq, Nat.reduceAdd, Nat.reduceMul, Nat.reduceSub, Nat.reduceBEq, Nat.reduceEqDiff, Nat.reduceLeDiff, Nat.reduceLT, Nat.reduceGT, Int.reduceToNat, Int.reduceLT, Int.reduceLE, Int.reduceNeg, Int.reduceAdd, Int.reduceEq, Int.reduceNe] <;> omega
  · intro x tt1 hh1 hx
    rcases ee0 with ⟨o14, o15, o16⟩ | r
    · obtain ⟨rfl, ftt1_0, ftt1_1, ftt1_2, ftt1_3, ftt1_4⟩ := hx
      dsimp only at hp
      have hp := Option.some.inj hp
      subst hp
      simp (disch := first | omega | (simp only [List.length_set, List.length_append, List.length_cons, List.length_nil, rows_len, zs]; first | done | omega)) only [ftt1_0, ftt1_1, ftt1_2, ftt1_3, ftt1_4, gs, reduceIte, reduceCtorEq, Nat.reduceAdd, Nat.reduceMul, Nat.reduceSub, Nat.reduceBEq, Nat.reduceEqDiff, Nat.reduceLeDiff, Nat.reduceLT, Nat.reduceGT, Int.reduceToNat, Int.reduceLT, Int.reduceLE, Int.reduceNeg, Int.reduceAdd, Int.reduceEq, Int.reduceNe]
    · obtain ⟨rfl, hx⟩ := hx
      dsimp only at hp
      cases hp
      simp only [seqK_ret, blockK_ret, retK_RK (K := Tells true), hx, and_self, true_and]

noncomputable def p_spec_l01Reader_num (x0 : TReader) : Option (T2 Int TReader) :=
  if (x0.bad) = true then
    some ⟨0, x0⟩
  else
    (p_spec_l01Get x0.b x0.at_).bind fun v1 =>
    if (v1.c) = true then
      some ⟨v1.a, (TReader.mk x0.b v1.b x0.bad)⟩
    else
      some ⟨0, (TReader.mk x0.b x0.at_ true)⟩
def c_spec_l01Reader_num (f_spec_l01Get : Nat) : AFn := ⟨33, (.seq (.ops [⟨(.some 2), (.mv (.const (.int .i64 0))), .none, []⟩]) (.seq (.seq (.ops [⟨(.some 6), (.mv (.tmp 0)), .none, []⟩, ⟨(.some 7), (.nilChk (.tmp 6)), .none, []⟩, ⟨(.some 8), (.fieldA 2 (.tmp 7)), .none, []⟩, ⟨(.some 9), (.load 1 false (.tmp 8)), .none, []⟩]) (.cond (.tmp 9) (.seq (.ops [⟨(.some 2), (.mv (.const (.int .i64 0))), .none, []⟩]) .ret) .skip)) (.seq (.ops [⟨(.some 11), (.mv (.tmp 0)), .none, []⟩, ⟨(.some 12), (.nilChk (.tmp 11)), .none, []⟩, ⟨(.some 13), (.fieldA 0 (.tmp 12)), .none, []⟩, ⟨(.some 14), (.load 1 false (.tmp 13)), .none, []⟩, ⟨(.some 15), (.mv (.tmp 0)), .none, []⟩, ⟨(.some 16), (.nilChk (.tmp 15)), .none, []⟩, ⟨(.some 17), (.fieldA 1 (.tmp 16)), .none, []⟩, ⟨(.some 18), (.load 1 false (.tmp 17)), .none, []⟩, ⟨(.some 19), (.call (2 * f_spec_l01Get) [(.tmp 14), (.tmp 18)]), .none, []⟩, ⟨(.some 10), (.mv (.tmp 19)), .none, []⟩, ⟨(.some 20), (.extract 0 (.tmp 10)), .none, []⟩, ⟨(.some 21), (.extract 1 (.tmp 10)), .none, []⟩, ⟨(.some 22), (.extract 2 (.tmp 10)), .none, []⟩, ⟨(.some 3), (.mv (.tmp 20)), .none, []⟩, ⟨(.some 4), (.mv (.tmp 21)), .none, []⟩, ⟨(.some 5), (.mv (.tmp 22)), .none, []⟩]) (.seq (.seq (.ops [⟨(.some 23), (.mv (.tmp 5)), .none, []⟩, ⟨(.some 24), (.pu (.n (.un .not)) [(.tmp 23)]), .none, []⟩]) (.cond (.tmp 24) (.seq (.ops [⟨(.some 25), (.mv (.tmp 0)), .none, []⟩, ⟨(.some 26), (.nilChk (.tmp 25)), .none, []⟩, ⟨(.some 27), (.fieldA 2 (.tmp 26)), .none, []⟩, ⟨.none, (.storeV [(0, false)] 1 (.tmp 27) (.const (.bool true))), .none, []⟩]) (.seq (.ops [⟨(.some 2), (.mv (.const (.int .i64 0))), .none, []⟩]) .ret)) .skip)) (.seq (.ops [⟨(.some 28), (.mv (.tmp 0)), .none, []⟩, ⟨(.some 29), (.mv (.tmp 4)), .none, []⟩, ⟨(.some 30), (.nilChk (.tmp 28)), .none, []⟩, ⟨(.some 31), (.fieldA 1 (.tmp 30)), .none, []⟩, ⟨.none, (.storeV [(0, false)] 1 (.tmp 31) (.tmp 29)), .none, []⟩]) (.seq (.ops [⟨(.some 32), (.mv (.tmp 3)), .none, []⟩, ⟨(.some 2), (.mv (.tmp 32)), .none, []⟩]) .ret)))))), [(.tmp 2)]⟩
def i_spec_l01Reader_num (pb0 : Nat) (h : Heap) (b : T2 Int TReader) (v : V) (h2 : Heap) : Prop := Keep [pb0] h h2 ∧ v = .i (.s (.int .i64 b.a)) ∧ getCells h2 pb0 3 = some [.i (.sl 1 (b.b.b.map enc)), .i (.s (.int .i64 b.b.at_)), .i (.s (.bool b.b.bad))]
def k_spec_l01Reader_num (F : Fun) : Prop := ∀ (x0 : TReader) (b : T2 Int TReader), p_spec_l01Reader_num x0 = some b → ∀ (pb0 : Nat) (h : Heap), getCells h pb0 3 = some [.i (.sl 1 (x0.b.map enc)), .i (.s (.int .i64 x0.at_)), .i (.s (.bool x0.bad))] → ∃ p, F none [.ptr pb0 3 0] h = some p ∧ i_spec_l01Reader_num pb0 h b p.1 p.2
set_option maxHeartbeats 10000000 in
theorem w_spec_l01Reader_num {P : Program} {env : Env} {f_spec_l01Get : Nat}  (ep_spec_l01Get : env (2 * f_spec_l01Get) = pureFn true (FA fun a : List U8 × Int => p_spec_l01Get a.1 a.2)) (x0 : TReader) {b : T2 Int TReader} (hp : p_spec_l01Reader_num x0 = some b) (pb0 : Nat) (hh : Heap) (pf0 : getCells hh pb0 3 = some [.i (.sl 1 (x0.b.map enc)), .i (.s (.int .i64 x0.at_)), .i (.s (.bool x0.bad))]) : R P env (c_spec_l01Reader_num f_spec_l01Get) [.ptr pb0 3 0] hh (i_spec_l01Reader_num pb0 hh b) := by
  have pl0 := gc_lt pf0
  refine R_of (by simp [c_spec_l01Reader_num, encA]) ?_
  unfold c_spec_l01Reader_num
  unfold p_spec_l01Reader_num at hp
  by_cases hb0 : (x0.bad) = true
  · rw [if_t hb0] at hp
    have hp := Option.some.inj hp
    subst hp
    simp (disch := first | omega | (simp only [List.length_set, List.length_append, List.length_cons, List.length_nil, rows_len, zs]; first | done | omega)) only [i_spec_l01Reader_num, ep_spec_l01Get, pf0, hb0, gs, reduceIte, reduceCtorEq, Nat.reduceAdd, Nat.reduceMul, Nat.reduceSub, Nat.reduceBEq, Nat.reduceEqDiff, Nat.reduceLeDiff, Nat.reduceLT, Nat.reduceGT, Int.reduceToNat, Int.reduceLT, Int.reduceLE, Int.reduceNeg, Int.reduceAdd, Int.reduceEq, Int.reduceNe] <;> (repeat (first | omega | assumption | rfl | exact keep_refl | refine keep_app ?_ | (refine keep_set (by first | (left; simp; done) | (right; simp; omega)) ?_) | refine And.intro ?_ ?_))
  · replace hb0 := eq_false_of_ne_true hb0
    rw [if_f hb0] at hp
    obtain ⟨v1, hv1, hp⟩ := bind_eq hp
    by_cases hb2 : (v1.c) = true
    · rw [if_t hb2] at hp
      have hp := Option.some.inj hp
      subst hp
      simp (disch := first | omega | (simp only [List.length_set, List.length_append, List.length_cons, List.length_nil, rows_len, zs]; first | done | omega)) only [i_spec_l01Reader_num, ep_spec_l01Get, pf0, hb0, hv1, hb2, gs, reduceIte, reduceCtorEq, Nat.reduceAdd, Nat.reduceMul, Nat.reduceSub, Nat.reduceBEq, Nat.reduceEqDiff, Nat.reduceLeDiff, Nat.reduceLT, Nat.reduceGT, Int.reduceToNat, Int.reduceLT, Int.reduceLE, Int.reduceNeg, Int.reduceAdd, Int.reduceEq, Int.reduceNe] <;> (repeat (first | omega | assumption | rfl | exact keep_refl | refine keep_app ?_ | (refine keep_set (by first | (left; simp; done) | (right; simp; omega)) ?_) | refine And.intro ?_ ?_))
    · replace hb2 := eq_false_of_ne_true hb2
      rw [if_f hb2] at hp
      have hp := Option.some.inj hp
      subst hp
      simp (disch := first | omega | (simp only [List.length_set, List.length_append, List.length_cons, List.length_nil, rows_len, zs]; first | done | omega)) only [i_spec_l01Reader_num, ep_spec_l01Get, pf0, hb0, hv1, hb2, gs, reduceIte, reduceCtorEq, Nat.reduceAdd, Nat.reduceMul, Nat.reduceSub, Nat.reduceBEq, Nat.reduceEqDiff, Nat.reduceLeDiff, Nat.reduceLT, Nat.reduceGT, Int.reduceToNat, Int.reduceLT, Int.reduceLE, Int.reduceNeg, Int.reduceAdd, Int.reduceEq, Int.reduceNe] <;> (repeat (first | omega | assumption | rfl | exact keep_refl | refine keep_app ?_ | (refine keep_set (by first | (left; simp; done) | (right; simp; omega)) ?_) | refine And.intro ?_ ?_))
theorem ko_spec_l01Reader_num {P : Program} {env : Env} {f_spec_l01Get : Nat}  (ep_spec_l01Get : env (2 * f_spec_l01Get) = pureFn true (FA fun a : List U8 × Int => p_spec_l01Get a.1 a.2)) : k_spec_l01Reader_num (runIn P env (c_spec_l01Reader_num f_spec_l01Get)) := by
  intro x0 b hp pb0 h a0
  exact w_spec_l01Reader_num ep_spec_l01Get x0 hp pb0 h a0

noncomputable def p_spec_VecOK_l0 (x0 : TVec) : Int → Option (Lp (Int) Bool)
  | s1 =>
    if (decide (s1 < 16)) = true then
      (get? x0.counts s1).bind fun v3 =>
      if (decide (v3 < 0)) = true then
        some (.ret false)
      else
        if (decide (1000000000000 < v3)) = true then
          some (.ret false)
        else
          some (.go (w64 (s1 + 1)))
    else
      some (.out s1)
noncomputable def p_spec_VecOK (x0 : TVec) : Option Bool :=
  if (decide ((x0.counts.length : Int) = 16)) = true then
    (loopP (p_spec_VecOK_l0 x0) 0).bind fun ee0 => match ee0 with
    | .ret r => some r
    | .out o6 =>
      some true
  else
    some false
def c_spec_VecOK : AFn := ⟨26, (.seq (.ops [⟨(.some 1), (.box (.tmp 0)), .none, []⟩, ⟨(.some 2), (.mv (.const (.bool false))), .none, []⟩]) (.seq (.seq (.ops [⟨(.some 4), (.fieldA 0 (.tmp 1)), .none, []⟩, ⟨(.some 5), (.load 1 false (.tmp 4)), .none, []⟩, ⟨(.some 6), (.len (.tmp 5)), .none, []⟩, ⟨(.some 7), (.pu (.n (.ar .neq)) [(.tmp 6), (.const (.int .i64 16))]), .none, []⟩]) (.cond (.tmp 7) (.seq (.ops [⟨(.some 2), (.mv (.const (.bool false))), .none, []⟩]) .ret) .skip)) (.seq (.seq (.ops [⟨(.some 3), (.mv (.const (.int .i64 0))), .none, []⟩]) (.block 0 (.loop (.seq (.seq (.ops [⟨(.some 8), (.mv (.tmp 3)), .none, []⟩, ⟨(.some 9), (.pu (.n (.ar .lss)) [(.tmp 8), (.const (.int .i64 16))]), .none, []⟩]) (.cond (.tmp 9) .skip (.exit 0))) (.seq (.block 1 (.seq (.ops [⟨(.some 12), (.fieldA 0 (.tmp 1)), .none, []⟩, ⟨(.some 13), (.load 1 false (.tmp 12)), .none, []⟩, ⟨(.some 14), (.mv (.tmp 3)), .none, []⟩, ⟨(.some 15), (.idxS 1 (.tmp 13) (.tmp 14)), .none, []⟩, ⟨(.some 16), (.load 1 false (.tmp 15)), .none, []⟩, ⟨(.some 17), (.pu (.n (.ar .lss)) [(.tmp 16), (.const (.int .i64 0))]), .none, []⟩, ⟨(.some 18), (.mv (.tmp 17)), .none, []⟩, ⟨(.some 19), (.fieldA 0 (.tmp 1)), (.some (18, false)), []⟩, ⟨(.some 20), (.load 1 false (.tmp 19)), (.some (18, false)), []⟩, ⟨(.some 21), (.mv (.tmp 3)), (.some (18, false)), []⟩, ⟨(.some 22), (.idxS 1 (.tmp 20) (.tmp 21)), (.some (18, false)), []⟩, ⟨(.some 23), (.load 1 false (.tmp 22)), (.some (18, false)), []⟩, ⟨(.some 24), (.pu (.n (.ar .gtr)) [(.tmp 23), (.const (.int .i64 1000000000000))]), (.some (18, false)), []⟩, ⟨(.some 25), (.pick (.tmp 18) (.const (.bool true)) (.tmp 24)), .none, []⟩]) (.cond (.tmp 25) (.seq (.ops [⟨(.some 2), (.mv (.const (.bool false))), .none, []⟩]) .ret) .skip))) (.ops [⟨(.some 10), (.mv (.tmp 3)), .none, []⟩, ⟨(.some 11), (.pu (.n (.ar .add)) [(.tmp 10), (.const (.int .i64 1))]), .none, []⟩, ⟨(.some 3), (.mv (.tmp 11)), .none, []⟩])))))) (.seq (.ops [⟨(.some 2), (.mv (.const (.bool true))), .none, []⟩]) .ret)))), [(.tmp 2)]⟩
set_option maxHeartbeats 10000000 in
theorem d_spec_VecOK {P : Program} {env : Env}  (x0 : TVec) {b : Bool} (hp : p_spec_VecOK x0 = some b) : R P env (c_spec_VecOK) ((encA (x0)).map ofI) [] (Tells true b) := by
  refine R_of (by simp [c_spec_VecOK, encA]) ?_
  unfold c_spec_VecOK
  unfold p_spec_VecOK at hp
  by_cases hb0 : (decide ((x0.counts.length : Int) = 16)) = true
  · rw [if_t hb0] at hp
    obtain ⟨ee0, hee0, hp⟩ := bind_eq hp
    simp (disch := first | omega | (simp only [List.length_set, List.length_append, List.length_cons, List.length_nil, rows_len, zs]; first | done | omega)) only [hb0, gs, reduceIte, reduceCtorEq, Nat.reduceAdd, Nat.reduceMul, Nat.reduceSub, Nat.reduceBEq, Nat.reduceEqDiff, Nat.reduceLeDiff, Nat.reduceLT, Nat.reduceGT, Int.reduceToNat, Int.reduceLT, Int.reduceLE, Int.reduceNeg, Int.reduceAdd, Int.reduceEq, Int.reduceNe]
    refine W_loopP 0 (fun s t h => match s with | s1 => t 1 = .ptr 0 1 0 ∧ t 3 = .i (.s (.int .i64 s1)) ∧ getCells h 0 1 = some [.i (.sl 1 (x0.counts.map enc))] ∧ 0 < h.length) (RK [.tmp 2] (Tells true)) ?_ hee0 ?_ ?_
    · rintro s1 ee tt0 hh0 ⟨ftt0_0, ftt0_1, ftt0_2, ftt0_3⟩ hp
      rw [p_spec_VecOK_l0] at hp
      by_cases hb2 : (decide (s1 < 16)) = true
      · rw [if_t hb2] at hp
        obtain ⟨v3, hv3, hp⟩ := bind_eq hp
        by_cases hb4 : (decide (v3 < 0)) = true
        · rw [if_t hb4] at hp
          have hp := Option.some.inj hp
          subst hp
          simp (disch := first | omega | (simp only [List.length_set, List.length_append, List.length_cons, List.length_nil, rows_len, zs]; first | done | omega)) only [hb0, ftt0_0, ftt0_1, ftt0_2, ftt0_3, hb2, hv3, hb4, gs, reduceIte, reduceCtorEq, Nat.reduceAdd, Nat.reduceMul, Nat.reduceSub, Nat.reduceBEq, Nat.reduceEqDiff, Nat.reduceLeDiff, Nat.reduceLT, Nat.reduceGT, Int.reduceToNat, Int.reduceLT, Int.reduceLE, Int.reduceNeg, Int.reduceAdd, Int.reduceEq, Int.reduceNe]
        · replace hb4 := eq_false_of_ne_true hb4
          rw [if_f hb4] at hp
          by_cases hb5 : (decide (1000000000000 < v3)) = true
          · rw [if_t hb5] at hp
            have hp := Option.some.inj hp
            subst hp
            simp (disch := first | omega | (simp only [List.length_set, List.length_append, List.length_cons, List.length_nil, rows_len, zs]; first | done | omega)) only [hb0, ftt0_0, ftt0_1, ftt0_2, ftt0_3, hb2, hv3, hb4, hb5, gs, reduceIte, reduceCtorEq, Nat.reduceAdd, Nat.reduceMul, Nat.reduceSub, Nat.reduceBEq, Nat.reduceEqDiff, Nat.reduceLeDiff, Nat.reduceLT, Nat.reduceGT, Int.reduceToNat, Int.reduceLT, Int.reduceLE, Int.reduceNeg, Int.reduceAdd, Int.reduceEq, Int.reduceNe]
          · replace hb5 := eq_false_of_ne_true hb5
            rw [if_f hb5] at hp
            have hp := Option.some.inj hp
            subst hp
            simp (disch := first | omega | (simp only [List.length_set, List.length_append, List.length_cons, List.length_nil, rows_len, zs]; first | done | omega)) only [hb0, ftt0_0, ftt0_1, ftt0_2, ftt0_3, hb2, hv3, hb4, hb5, gs, reduceIte, reduceCtorEq, Nat.reduceAdd, Nat.reduceMul, Nat.reduceSub, Nat.reduceBEq, Nat.reduceEqDiff, Nat.reduceLeDiff, Nat.reduceLT, Nat.reduceGT, Int.reduceToNat, Int.reduceLT, Int.reduceLE, Int.reduceNeg, Int.reduceAdd, Int.reduceEq, Int.reduceNe] <;> omega
      · replace hb2 := eq_false_of_ne_true hb2
        rw [if_f hb2] at hp
        have hp := Option.some.inj hp
        subst hp
        simp (disch := first | omega | (simp only [List.length_set, List.length_append, List.length_cons, List.length_nil, rows_len, zs]; first | done | omega)) only [hb0, ftt0_0, ftt0_1, ftt0_2, ftt0_3, hb2, gs, reduceIte, reduceCtorEq, Nat.reduceAdd, Nat.reduceMul, Nat.reduceSub, Nat.reduceBEq, Nat.reduceEqDiff, Nat.reduceLeDiff, Nat.reduceLT, Nat.reduceGT, Int.reduceToNat, Int.reduceLT, Int.reduceLE, Int.reduceNeg, Int.reduceAdd, Int.reduceEq, Int.reduceNe] <;> omega
    · simp (disch := first | omega | (simp only [List.length_set, List.length_append, List.length_cons, List.length_nil, rows_len, zs]; first | done | omega)) only [hb0, gs, reduceIte, reduceCtorEq, Nat.reduceAdd, Nat.reduceMul, Nat.reduceSub, Nat.reduceBEq, Nat.reduceEqDiff, Nat.reduceLeDiff, Nat.reduceLT, Nat.reduceGT, Int.reduceToNat, Int.reduceLT, Int.reduceLE, Int.reduceNeg, Int.reduceAdd, Int.reduceEq, Int.reduceNe] <;> omega
    · intro x tt1 hh1 hx
      rcases ee0 with o6 | r
      · obtain ⟨rfl, ftt1_0, ftt1_1, ftt1_2, ftt1_3⟩ := hx
        dsimp only at hp
        have hp := Option.some.inj hp
        subst hp
        simp (disch := first | omega | (simp only [List.length_set, List.length_append, List.length_cons, List.length_nil, rows_len, zs]; first | done | omega)) only [hb0, ftt1_0, ftt1_1, ftt1_2, ftt1_3, gs, reduceIte, reduceCtorEq, Nat.reduceAdd, Nat.reduceMul, Nat.reduceSub, Nat.reduceBEq, Nat.reduceEqDiff, Nat.reduceLeDiff, Nat.reduceLT, Nat.reduceGT, Int.reduceToNat, Int.reduceLT, Int.reduceLE, Int.reduceNeg, Int.reduceAdd, Int.reduceEq, Int.reduceNe]
      · obtain ⟨rfl, hx⟩ := hx
        dsimp only at hp
        cases hp
        simp only [seqK_ret, blockK_ret, retK_RK (K := Tells true), hx, and_self, true_and]
  · replace hb0 := eq_false_of_ne_true hb0
    rw [if_f hb0] at hp
    have hp := Option.some.inj hp
    subst hp
    simp (disch := first | omega | (simp only [List.length_set, List.length_append, List.length_cons, List.length_nil, rows_len, zs]; first | done | omega)) only [hb0, gs, reduceIte, reduceCtorEq, Nat.reduceAdd, Nat.reduceMul, Nat.reduceSub, Nat.reduceBEq, Nat.reduceEqDiff, Nat.reduceLeDiff, Nat.reduceLT, Nat.reduceGT, Int.reduceToNat, Int.reduceLT, Int.reduceLE, Int.reduceNeg, Int.reduceAdd, Int.reduceEq, Int.reduceNe]

noncomputable def pB_spec_l01Put (rr : Int → Option (List U8)) (x0 : Int) : Option (List U8) :=
  if (decide (x0 < 128)) = true then
    some ([(U8.mk (IntKind.wrap .u8 x0))])
  else
    (rr (w64 (Int.tdiv x0 128))).bind fun v1 =>
    (app? 1 ([(U8.mk (IntKind.wrap .u8 (w64 (128 + (Int.tmod x0 128)))))]) v1).bind fun v2 =>
    some v2
noncomputable def pN_spec_l01Put : Nat → Int → Option (List U8)
  | 0 => fun _ => none
  | n + 1 => pB_spec_l01Put (pN_spec_l01Put n)
noncomputable def p_spec_l01Put (x0 : Int) : Option (List U8) := fixP fun n => pN_spec_l01Put n x0
def c_spec_l01Put (f_spec_l01Put : Nat) : AFn := ⟨17, (.seq (.ops [⟨(.some 2), (.vnil 1 false), .none, []⟩]) (.seq (.seq (.ops [⟨(.some 3), (.mv (.tmp 0)), .none, []⟩, ⟨(.some 4), (.pu (.n (.ar .lss)) [(.tmp 3), (.const (.int .i64 128))]), .none, []⟩]) (.cond (.tmp 4) (.seq (.ops [⟨(.some 5), (.mv (.tmp 0)), .none, []⟩, ⟨(.some 6), (.pu (.n (.conv .u8)) [(.tmp 5)]), .none, []⟩, ⟨(.some 7), (.buildSl 1 false 1 [(.int .u8 0)] [(0, (.tmp 6))]), .none, []⟩, ⟨(.some 2), (.mv (.tmp 7)), .none, []⟩]) .ret) .skip)) (.seq (.ops [⟨(.some 8), (.mv (.tmp 0)), .none, []⟩, ⟨(.some 9), (.pu (.n (.ar .rem)) [(.tmp 8), (.const (.int .i64 128))]), .none, []⟩, ⟨(.some 10), (.pu (.n (.ar .add)) [(.const (.int .i64 128)), (.tmp 9)]), .none, []⟩, ⟨(.some 11), (.pu (.n (.conv .u8)) [(.tmp 10)]), .none, []⟩, ⟨(.some 12), (.buildSl 1 false 1 [(.int .u8 0)] [(0, (.tmp 11))]), .none, []⟩, ⟨(.some 13), (.mv (.tmp 0)), .none, []⟩, ⟨(.some 14), (.pu (.n (.ar .quo)) [(.tmp 13), (.const (.int .i64 128))]), .none, []⟩, ⟨(.some 15), (.call (2 * f_spec_l01Put + 1) [(.tmp 14)]), .none, []⟩, ⟨(.some 16), (.append 1 false 1 (.tmp 12) (.tmp 15)), .none, []⟩, ⟨(.some 2), (.mv (.tmp 16)), .none, []⟩]) .ret))), [(.tmp 2)]⟩
def o_spec_l01Put (b : List U8) (v : V) (h : Heap) : Prop := ∃ n0 : Nat, v = .hsl n0 b.length 0 1 false b.length ∧ getCells h n0 b.length = some (rows b)
def oo_spec_l01Put (b : List U8) (h : Heap) (v : V) (h2 : Heap) : Prop := Keep [] h h2 ∧ ∃ n0 : Nat, v = .hsl n0 b.length 0 1 false b.length ∧ n0 < h2.length ∧ h.length ≤ n0 ∧ getCells h2 n0 b.length = some (rows b)
def kR_spec_l01Put (rr : Int → Option (List U8)) (F : Fun) : Prop := ∀ (x0 : Int) (b : List U8), rr x0 = some b → ∀ (h : Heap) (args : List V), snapA 9 false h args = some (encA (x0)) → ∃ p, F none args h = some p ∧ oo_spec_l01Put b h p.1 p.2
def k_spec_l01Put (F : Fun) : Prop := kR_spec_l01Put p_spec_l01Put F
set_option maxHeartbeats 10000000 in
theorem w_spec_l01Put {P : Program} {env : Env} {f_spec_l01Put : Nat}  {rr : Int → Option (List U8)} (e_spec_l01Put : kR_spec_l01Put rr (env (2 * f_spec_l01Put + 1))) (x0 : Int) {b : List U8} (hp : pB_spec_l01Put rr x0 = some b) : R P env (c_spec_l01Put f_spec_l01Put) ((encA (x0)).map ofI) [] (o_spec_l01Put b) := by
  refine R_of (by simp [c_spec_l01Put, encA]) ?_
  unfold c_spec_l01Put
  unfold pB_spec_l01Put at hp
  by_cases hb0 : (decide (x0 < 128)) = true
  · rw [if_t hb0] at hp
    have hp := Option.some.inj hp
    subst hp
    simp (disch := first | omega | (simp only [List.length_set, List.length_append, List.length_cons, List.length_nil, rows_len, zs]; first | done | omega)) only [hb0, gs, reduceIte, reduceCtorEq, Nat.reduceAdd, Nat.reduceMul, Nat.reduceSub, Nat.reduceBEq, Nat.reduceEqDiff, Nat.reduceLeDiff, Nat.reduceLT, Nat.reduceGT, Int.reduceToNat, Int.reduceLT, Int.reduceLE, Int.reduceNeg, Int.reduceAdd, Int.reduceEq, Int.reduceNe]
    refine ⟨1, ?_⟩
    simp (disch := first | omega | (simp only [List.length_set, List.length_append, List.length_cons, List.length_nil, rows_len, zs]; first | done | omega)) only [hb0, o_spec_l01Put, (show ([(U8.mk (IntKind.wrap .u8 x0))]).length = 1 from by first | omega | rfl), gs, reduceIte, reduceCtorEq, Nat.reduceAdd, Nat.reduceMul, Nat.reduceSub, Nat.reduceBEq, Nat.reduceEqDiff, Nat.reduceLeDiff, Nat.reduceLT, Nat.reduceGT, Int.reduceToNat, Int.reduceLT, Int.reduceLE, Int.reduceNeg, Int.reduceAdd, Int.reduceEq, Int.reduceNe] <;> omega
  · replace hb0 := eq_false_of_ne_true hb0
    rw [if_f hb0] at hp
    obtain ⟨v1, hv1, hp⟩ := bind_eq hp
    simp (disch := first | omega | (simp only [List.length_set, List.length_append, List.length_cons, List.length_nil, rows_len, zs]; first | done | omega)) only [hb0, gs, reduceIte, reduceCtorEq, Nat.reduceAdd, Nat.reduceMul, Nat.reduceSub, Nat.reduceBEq, Nat.reduceEqDiff, Nat.reduceLeDiff, Nat.reduceLT, Nat.reduceGT, Int.reduceToNat, Int.reduceLT, Int.reduceLE, Int.reduceNeg, Int.reduceAdd, Int.reduceEq, Int.reduceNe]
    refine call_f (fun h => getCells h 0 0 = some [] ∧ 0 < h.length ∧ getCells h 1 1 = some (rows ([(U8.mk (IntKind.wrap .u8 (w64 (128 + (Int.tmod x0 128)))))] : List U8)) ∧ 1 < h.length) (fun h v h2 => oo_spec_l01Put v1 h v h2) ?_ ?_ ?_
    · simp (disch := first | omega | (simp only [List.length_set, List.length_append, List.length_cons, List.length_nil, rows_len, zs]; first | done | omega)) only [hb0, hv1, gs, reduceIte, reduceCtorEq, Nat.reduceAdd, Nat.reduceMul, Nat.reduceSub, Nat.reduceBEq, Nat.reduceEqDiff, Nat.reduceLeDiff, Nat.reduceLT, Nat.reduceGT, Int.reduceToNat, Int.reduceLT, Int.reduceLE, Int.reduceNeg, Int.reduceAdd, Int.reduceEq, Int.reduceNe] <;> omega
    · rintro h ⟨c0_0, c0_1, c0_2, c0_3⟩
      exact e_spec_l01Put _ _ hv1 h _ (by simp (disch := first | omega | (simp only [List.length_set, List.length_append, List.length_cons, List.length_nil, rows_len, zs]; first | done | omega)) only [hb0, hv1, c0_0, c0_1, c0_2, c0_3, gs, reduceIte, reduceCtorEq, Nat.reduceAdd, Nat.reduceMul, Nat.reduceSub, Nat.reduceBEq, Nat.reduceEqDiff, Nat.reduceLeDiff, Nat.reduceLT, Nat.reduceGT, Int.reduceToNat, Int.reduceLT, Int.reduceLE, Int.reduceNeg, Int.reduceAdd, Int.reduceEq, Int.reduceNe])
    · rintro h v hh0 ⟨c0_0, c0_1, c0_2, c0_3⟩ hpost
      obtain ⟨kk0, nb0_0, rfl, lnb0_0, gnb0_0, wnb0_0⟩ := hpost
      have d0_0 : getCells hh0 0 0 = some [] := (keep_get kk0 c0_1 (by first | (simp; done) | (simp; omega))).trans c0_0
      have d0_0l := keep_lt kk0 c0_1
      have d0_1 : getCells hh0 1 1 = some (rows ([(U8.mk (IntKind.wrap .u8 (w64 (128 + (Int.tmod x0 128)))))] : List U8)) := (keep_get kk0 c0_3 (by first | (simp; done) | (simp; omega))).trans c0_2
      have d0_1l := keep_lt kk0 c0_3
      have d0_2 := wnb0_0
      obtain ⟨v2, hv2, hp⟩ := bind_eq hp
      simp (disch := first | omega | (simp only [List.length_set, List.length_append, List.length_cons, List.length_nil, rows_len, zs]; first | done | omega)) only [hb0, hv1, d0_0, d0_1, d0_2, gs, reduceIte, reduceCtorEq, Nat.reduceAdd, Nat.reduceMul, Nat.reduceSub, Nat.reduceBEq, Nat.reduceEqDiff, Nat.reduceLeDiff, Nat.reduceLT, Nat.reduceGT, Int.reduceToNat, Int.reduceLT, Int.reduceLE, Int.reduceNeg, Int.reduceAdd, Int.reduceEq, Int.reduceNe]
      refine app_f (b := 1) (xs := ([(U8.mk (IntKind.wrap .u8 (w64 (128 + (Int.tmod x0 128)))))])) (ys := v1) (fun h => getCells h 0 0 = some [] ∧ 0 < h.length ∧ getCells h 1 1 = some (rows ([(U8.mk (IntKind.wrap .u8 (w64 (128 + (Int.tmod x0 128)))))] : List U8)) ∧ 1 < h.length ∧ getCells h nb0_0 v1.length = some (rows (v1 : List U8)) ∧ nb0_0 < h.length) ?_ ?_ hv2 rfl (by first | rfl | omega | (simp; omega)) (by first | rfl | omega | (simp; omega)) (by first | rfl | omega | (simp; omega)) ?_
      · simp (disch := first | omega | (simp only [List.length_set, List.length_append, List.length_cons, List.length_nil, rows_len, zs]; first | done | omega)) only [hb0, hv1, d0_0, d0_1, d0_2, hv2, gs, reduceIte, reduceCtorEq, Nat.reduceAdd, Nat.reduceMul, Nat.reduceSub, Nat.reduceBEq, Nat.reduceEqDiff, Nat.reduceLeDiff, Nat.reduceLT, Nat.reduceGT, Int.reduceToNat, Int.reduceLT, Int.reduceLE, Int.reduceNeg, Int.reduceAdd, Int.reduceEq, Int.reduceNe] <;> omega
      · rintro h ⟨c1_0, c1_1, c1_2, c1_3, c1_4, c1_5⟩
        exact gc_eq c1_2 (by omega)
      · rintro h hh1 ⟨c1_0, c1_1, c1_2, c1_3, c1_4, c1_5⟩ kk1 w1
        have d1_0 : getCells hh1 0 0 = some [] := (keep_get kk1 c1_1 (by first | (simp; done) | (simp; omega))).trans c1_0
        have d1_0l := keep_lt kk1 c1_1
        have d1_1 : getCells hh1 1 v2.length = some (rows (v2 : List U8)) := by simpa only [Nat.mul_one] using w1
        have d1_1l := keep_lt kk1 c1_3
        have d1_2 : getCells hh1 nb0_0 v1.length = some (rows (v1 : List U8)) := (keep_get kk1 c1_5 (by first | (simp; done) | (simp; omega))).trans c1_4
        have d1_2l := keep_lt kk1 c1_5
        have hp := Option.some.inj hp
        subst hp
        simp (disch := first | omega | (simp only [List.length_set, List.length_append, List.length_cons, List.length_nil, rows_len, zs]; first | done | omega)) only [hb0, hv1, d0_0, d0_1, d0_2, hv2, d1_0, d1_1, d1_2, gs, reduceIte, reduceCtorEq, Nat.reduceAdd, Nat.reduceMul, Nat.reduceSub, Nat.reduceBEq, Nat.reduceEqDiff, Nat.reduceLeDiff, Nat.reduceLT, Nat.reduceGT, Int.reduceToNat, Int.reduceLT, Int.reduceLE, Int.reduceNeg, Int.reduceAdd, Int.reduceEq, Int.reduceNe]
        refine ⟨1, ?_⟩
        simp (disch := first | omega | (simp only [List.length_set, List.length_append, List.length_cons, List.length_nil, rows_len, zs]; first | done | omega)) only [hb0, hv1, d0_0, d0_1, d0_2, hv2, d1_0, d1_1, d1_2, o_spec_l01Put, gs, reduceIte, reduceCtorEq, Nat.reduceAdd, Nat.reduceMul, Nat.reduceSub, Nat.reduceBEq, Nat.reduceEqDiff, Nat.reduceLeDiff, Nat.reduceLT, Nat.reduceGT, Int.reduceToNat, Int.reduceLT, Int.reduceLE, Int.reduceNeg, Int.reduceAdd, Int.reduceEq, Int.reduceNe] <;> omega
theorem ko_spec_l01Put {P : Program} {env : Env} {f_spec_l01Put : Nat}  {rr : Int → Option (List U8)} (e_spec_l01Put : kR_spec_l01Put rr (env (2 * f_spec_l01Put + 1))) : kR_spec_l01Put (pB_spec_l01Put rr) (ownFn P env (c_spec_l01Put f_spec_l01Put)) := by
  intro x0 b hp h args has
  obtain ⟨⟨v, H2⟩, hr, n0, rfl, wn0⟩ := w_spec_l01Put e_spec_l01Put x0 hp
  exact ⟨_, own_call has hr rfl, keep_moved, n0 + h.length, rfl, (moved_lt wn0).2, (moved_lt wn0).1, moved_rows wn0⟩

noncomputable def p_spec_l02Bytes_l0 (x0 : TVec) : Int → Option (Lp (Int) (List U8))
  | s0 =>
    if (decide (0 < s0)) = true then
      (get? x0.counts (w64 (s0 - 1))).bind fun v2 =>
      if (decide (v2 = 0)) = true then
        some (.go (w64 (s0 - 1)))
      else
        some (.out s0)
    else
      some (.out s0)
noncomputable def p_spec_l02Bytes_l1 (x0 : TVec) (o4 : Int) : List U8 × Int → Option (Lp (List U8 × Int) (List U8))
  | (s5, s6) =>
    if (decide (s6 < o4)) = true then
      (get? x0.counts s6).bind fun v8 =>
      (p_spec_l01Put v8).bind fun v9 =>
      (app? 1 s5 v9).bind fun v10 =>
      some (.go (v10, w64 (s6 + 1)))
    else
      some (.out (s5, s6))
noncomputable def p_spec_l02Bytes (x0 : TVec) : Option (List U8) :=
  (loopP (p_spec_l02Bytes_l0 x0) 16).bind fun ee0 => match ee0 with
  | .ret r => some r
  | .out o4 =>
    (loopP (p_spec_l02Bytes_l1 x0 o4) (([] : List U8), 0)).bind fun ee1 => match ee1 with
    | .ret r => some r
    | .out (o11, o12) =>
      some o11
def c_spec_l02Bytes (f_spec_l01Put : Nat) : AFn := ⟨34, (.seq (.ops [⟨(.some 1), (.box (.tmp 0)), .none, []⟩, ⟨(.some 2), (.vnil 1 false), .none, []⟩]) (.seq (.ops [⟨(.some 3), (.mv (.const (.int .i64 16))), .none, []⟩]) (.seq (.block 0 (.loop (.seq (.seq (.ops [⟨(.some 6), (.mv (.tmp 3)), .none, []⟩, ⟨(.some 7), (.pu (.n (.ar .gtr)) [(.tmp 6), (.const (.int .i64 0))]), .none, []⟩, ⟨(.some 8), (.mv (.tmp 7)), .none, []⟩, ⟨(.some 9), (.fieldA 0 (.tmp 1)), (.some (8, true)), []⟩, ⟨(.some 10), (.load 1 false (.tmp 9)), (.some (8, true)), []⟩, ⟨(.some 11), (.mv (.tmp 3)), (.some (8, true)), []⟩, ⟨(.some 12), (.pu (.n (.ar .sub)) [(.tmp 11), (.const (.int .i64 1))]), (.some (8, true)), []⟩, ⟨(.some 13), (.idxS 1 (.tmp 10) (.tmp 12)), (.some (8, true)), []⟩, ⟨(.some 14), (.load 1 false (.tmp 13)), (.some (8, true)), []⟩, ⟨(.some 15), (.pu (.n (.ar .eql)) [(.tmp 14), (.const (.int .i64 0))]), (.some (8, true)), []⟩, ⟨(.some 16), (.pick (.tmp 8) (.tmp 15) (.const (.bool false))), .none, []⟩]) (.cond (.tmp 16) .skip (.exit 0))) (.block 1 (.ops [⟨(.some 17), (.mv (.tmp 3)), .none, []⟩, ⟨(.some 18), (.pu (.n (.ar .sub)) [(.tmp 17), (.const (.int .i64 1))]), .none, []⟩, ⟨(.some 3), (.mv (.tmp 18)), .none, []⟩]))))) (.seq (.ops [⟨(.some 19), (.buildSl 1 false 0 [(.int .u8 0)] []), .none, []⟩, ⟨(.some 4), (.mv (.tmp 19)), .none, []⟩]) (.seq (.seq (.ops [⟨(.some 5), (.mv (.const (.int .i64 0))), .none, []⟩]) (.block 2 (.loop (.seq (.seq (.ops [⟨(.some 20), (.mv (.tmp 5)), .none, []⟩, ⟨(.some 21), (.mv (.tmp 3)), .none, []⟩, ⟨(.some 22), (.pu (.n (.ar .lss)) [(.tmp 20), (.tmp 21)]), .none, []⟩]) (.cond (.tmp 22) .skip (.exit 2))) (.seq (.block 3 (.ops [⟨(.some 25), (.mv (.tmp 4)), .none, []⟩, ⟨(.some 26), (.fieldA 0 (.tmp 1)), .none, []⟩, ⟨(.some 27), (.load 1 false (.tmp 26)), .none, []⟩, ⟨(.some 28), (.mv (.tmp 5)), .none, []⟩, ⟨(.some 29), (.idxS 1 (.tmp 27) (.tmp 28)), .none, []⟩, ⟨(.some 30), (.load 1 false (.tmp 29)), .none, []⟩, ⟨(.some 31), (.call (2 * f_spec_l01Put + 1) [(.tmp 30)]), .none, []⟩, ⟨(.some 32), (.append 1 false 1 (.tmp 25) (.tmp 31)), .none, []⟩, ⟨(.some 4), (.mv (.tmp 32)), .none, []⟩])) (.ops [⟨(.some 23), (.mv (.tmp 5)), .none, []⟩, ⟨(.some 24), (.pu (.n (.ar .add)) [(.tmp 23), (.const (.int .i64 1))]), .none, []⟩, ⟨(.some 5), (.mv (.tmp 24)), .none, []⟩])))))) (.seq (.ops [⟨(.some 33), (.mv (.tmp 4)), .none, []⟩, ⟨(.some 2), (.mv (.tmp 33)), .none, []⟩]) .ret)))))), [(.tmp 2)]⟩
def o_spec_l02Bytes (b : List U8) (v : V) (h : Heap) : Prop := ∃ n0 : Nat, v = .hsl n0 b.length 0 1 false b.length ∧ getCells h n0 b.length = some (rows b)
def oo_spec_l02Bytes (b : List U8) (h : Heap) (v : V) (h2 : Heap) : Prop := Keep [] h h2 ∧ ∃ n0 : Nat, v = .hsl n0 b.length 0 1 false b.length ∧ n0 < h2.length ∧ h.length ≤ n0 ∧ getCells h2 n0 b.length = some (rows b)
def k_spec_l02Bytes (F : Fun) : Prop := ∀ (x0 : TVec) (b : List U8), p_spec_l02Bytes x0 = some b → ∀ (h : Heap) (args : List V), snapA 9 false h args = some (encA (x0)) → ∃ p, F none args h = some p ∧ oo_spec_l02Bytes b h p.1 p.2
set_option maxHeartbeats 10000000 in
theorem w_spec_l02Bytes {P : Program} {env : Env} {f_spec_l01Put : Nat}  (e_spec_l01Put : k_spec_l01Put (env (2 * f_spec_l01Put + 1))) (x0 : TVec) {b : List U8} (hp : p_spec_l02Bytes x0 = some b) : R P env (c_spec_l02Bytes f_spec_l01Put) ((encA (x0)).map ofI) [] (o_spec_l02Bytes b) := by
  refine R_of (by simp [c_spec_l02Bytes, encA]) ?_
  unfold c_spec_l02Bytes
  unfold p_spec_l02Bytes at hp
  obtain ⟨ee0, hee0, hp⟩ := bind_eq hp
  simp (disch := first | omega | (simp only [List.length_set, List.length_append, List.length_cons, List.length_nil, rows_len, zs]; first | done | omega)) only [gs, reduceIte, reduceCtorEq, Nat.reduceAdd, Nat.reduceMul, Nat.reduceSub, Nat.reduceBEq, Nat.reduceEqDiff, Nat.reduceLeDiff, Nat.reduceLT, Nat.reduceGT, Int.reduceToNat, Int.reduceLT, Int.reduceLE, Int.reduceNeg, Int.reduceAdd, Int.reduceEq, Int.reduceNe]
  refine W_loopP 0 (fun s t h => match s with | s0 => t 1 = .ptr 0 1 0 ∧ t 3 = .i (.s (.int .i64 s0)) ∧ getCells h 0 1 = some [.i (.sl 1 (x0.counts.map enc))] ∧ 0 < h.length) (RK [.tmp 2] (o_spec_l02Bytes)) ?_ hee0 ?_ ?_
  · rintro s0 ee tt0 hh0 ⟨ftt0_0, ftt0_1, ftt0_2, ftt0_3⟩ hp
    rw [p_spec_l02Bytes_l0] at hp
    by_cases hb1 : (decide (0 < s0)) = true
    · rw [if_t hb1] at hp
      obtain ⟨v2, hv2, hp⟩ := bind_eq hp
      by_cases hb3 : (decide (v2 = 0)) = true
      · rw [if_t hb3] at hp
        have hp := Option.some.inj hp
        subst hp
        simp (disch := first | omega | (simp only [List.length_set, List.length_append, List.length_cons, List.length_nil, rows_len, zs]; first | done | omega)) only [ftt0_0, ftt0_1, ftt0_2, ftt0_3, hb1, hv2, hb3, gs, reduceIte, reduceCtorEq, Nat.reduceAdd, Nat.reduceMul, Nat.reduceSub, Nat.reduceBEq, Nat.reduceEqDiff, Nat.reduceLeDiff, Nat.reduceLT, Nat.reduceGT, Int.reduceToNat, Int.reduceLT, Int.reduceLE, Int.reduceNeg, Int.reduceAdd, Int.reduceEq, Int.reduceNe] <;> omega
      · replace hb3 := eq_false_of_ne_true hb3
        rw [if_f hb3] at hp
        have hp := Option.some.inj hp
        subst hp
        simp (disch := first | omega | (simp only [List.length_set, List.length_append, List.length_cons, List.length_nil, rows_len, zs]; first | done | omega)) only [ftt0_0, ftt0_1, ftt0_2, ftt0_3, hb1, hv2, hb3, gs, reduceIte, reduceCtorEq, Nat.reduceAdd, Nat.reduceMul, Nat.reduceSub, Nat.reduceBEq, Nat.reduceEqDiff, Nat.reduceLeDiff, Nat.reduceLT, Nat.reduceGT, Int.reduceToNat, Int.reduceLT, Int.reduceLE, Int.reduceNeg, Int.reduceAdd, Int.reduceEq, Int.reduceNe] <;> omega
    · replace hb1 := eq_false_of_ne_true hb1
      rw [if_f hb1] at hp
      have hp := Option.some.inj hp
      subst hp
      simp (disch := first | omega | (simp only [List.length_set, List.length_append, List.length_cons, List.length_nil, rows_len, zs]; first | done | omega)) only [ftt0_0, ftt0_1, ftt0_2, ftt0_3, hb1, gs, reduceIte, reduceCtorEq, Nat.reduceAdd, Nat.reduceMul, Nat.reduceSub, Nat.reduceBEq, Nat.reduceEqDiff, Nat.reduceLeDiff, Nat.reduceLT, Nat.reduceGT, Int.reduceToNat, Int.reduceLT, Int.reduceLE, Int.reduceNeg, Int.reduceAdd, Int.reduceEq, Int.reduceNe] <;> omega
  · simp (disch := first | omega | (simp only [List.length_set, List.length_append, List.length_cons, List.length_nil, rows_len, zs]; first | done | omega)) only [gs, reduceIte, reduceCtorEq, Nat.reduceAdd, Nat.reduceMul, Nat.reduceSub, Nat.reduceBEq, Nat.reduceEqDiff, Nat.reduceLeDiff, Nat.reduceLT, Nat.reduceGT, Int.reduceToNat, Int.reduceLT, Int.reduceLE, Int.reduceNeg, Int.reduceAdd, Int.reduceEq, Int.reduceNe] <;> omega
  · intro x tt1 hh1 hx
    rcases ee0 with o4 | r
    · obtain ⟨rfl, ftt1_0, ftt1_1, ftt1_2, ftt1_3⟩ := hx
      dsimp only at hp
      obtain ⟨ee1, hee1, hp⟩ := bind_eq hp
      simp (disch := first | omega | (simp only [List.length_set, List.length_append, List.length_cons, List.length_nil, rows_len, zs]; first | done | omega)) only [ftt1_0, ftt1_1, ftt1_2, ftt1_3, gs, reduceIte, reduceCtorEq, Nat.reduceAdd, Nat.reduceMul, Nat.reduceSub, Nat.reduceBEq, Nat.reduceEqDiff, Nat.reduceLeDiff, Nat.reduceLT, Nat.reduceGT, Int.reduceToNat, Int.reduceLT, Int.reduceLE, Int.reduceNeg, Int.reduceAdd, Int.reduceEq, Int.reduceNe]
      refine W_loopP 2 (fun s t h => match s with | (s5, s6) => t 1 = .ptr 0 1 0 ∧ t 3 = .i (.s (.int .i64 o4)) ∧ t 4 = .hsl hh1.length s5.length 0 1 false s5.length ∧ t 5 = .i (.s (.int .i64 s6)) ∧ getCells h 0 1 = some [.i (.sl 1 (x0.counts.map enc))] ∧ 0 < h.length ∧ getCells h hh1.length s5.length = some (rows (s5 : List U8)) ∧ hh1.length < h.length) (RK [.tmp 2] (o_spec_l02Bytes)) ?_ hee1 ?_ ?_
      · rintro ⟨s5, s6⟩ ee tt2 hh2 ⟨ftt2_0, ftt2_1, ftt2_2, ftt2_3, ftt2_4, ftt2_5, ftt2_6, ftt2_7⟩ hp
        rw [p_spec_l02Bytes_l1] at hp
        by_cases hb7 : (decide (s6 < o4)) = true
        · rw [if_t hb7] at hp
          obtain ⟨v8, hv8, hp⟩ := bind_eq hp
          obtain ⟨v9, hv9, hp⟩ := bind_eq hp
          simp (disch := first | omega | (simp only [List.length_set, List.length_append, List.length_cons, List.length_nil, rows_len, zs]; first | done | omega)) only [ftt1_0, ftt1_1, ftt1_2, ftt1_3, ftt2_0, ftt2_1, ftt2_2, ftt2_3, ftt2_4, ftt2_5, ftt2_6, ftt2_7, hb7, hv8, gs, reduceIte, reduceCtorEq, Nat.reduceAdd, Nat.reduceMul, Nat.reduceSub, Nat.reduceBEq, Nat.reduceEqDiff, Nat.reduceLeDiff, Nat.reduceLT, Nat.reduceGT, Int.reduceToNat, Int.reduceLT, Int.reduceLE, Int.reduceNeg, Int.reduceAdd, Int.reduceEq, Int.reduceNe]
          refine call_f (fun h => getCells h 0 1 = some [.i (.sl 1 (x0.counts.map enc))] ∧ 0 < h.length ∧ getCells h hh1.length s5.length = some (rows (s5 : List U8)) ∧ hh1.length < h.length) (fun h v h2 => oo_spec_l01Put v9 h v h2) ?_ ?_ ?_
          · simp (disch := first | omega | (simp only [List.length_set, List.length_append, List.length_cons, List.length_nil, rows_len, zs]; first | done | omega)) only [ftt1_0, ftt1_1, ftt1_2, ftt1_3, ftt2_0, ftt2_1, ftt2_2, ftt2_3, ftt2_4, ftt2_5, ftt2_6, ftt2_7, hb7, hv8, hv9, gs, reduceIte, reduceCtorEq, Nat.reduceAdd, Nat.reduceMul, Nat.reduceSub, Nat.reduceBEq, Nat.reduceEqDiff, Nat.reduceLeDiff, Nat.reduceLT, Nat.reduceGT, Int.reduceToNat, Int.reduceLT, Int.reduceLE, Int.reduceNeg, Int.reduceAdd, Int.reduceEq, Int.reduceNe] <;> omega
          · rintro h ⟨c3_0, c3_1, c3_2, c3_3⟩
            exact e_spec_l01Put _ _ hv9 h _ (by simp (disch := first | omega | (simp only [List.length_set, List.length_append, List.length_cons, List.length_nil, rows_len, zs]; first | done | omega)) only [ftt1_0, ftt1_1, ftt1_2, ftt1_3, ftt2_0, ftt2_1, ftt2_2, ftt2_3, ftt2_4, ftt2_5, ftt2_6, ftt2_7, hb7, hv8, hv9, c3_0, c3_1, c3_2, c3_3, gs, reduceIte, reduceCtorEq, Nat.reduceAdd, Nat.reduceMul, Nat.reduceSub, Nat.reduceBEq, Nat.reduceEqDiff, Nat.reduceLeDiff, Nat.reduceLT, Nat.reduceGT, Int.reduceToNat, Int.reduceLT, Int.reduceLE, Int.reduceNeg, Int.reduceAdd, Int.reduceEq, Int.reduceNe])
          · rintro h v hh3 ⟨c3_0, c3_1, c3_2, c3_3⟩ hpost
            obtain ⟨kk3, nb3_0, rfl, lnb3_0, gnb3_0, wnb3_0⟩ := hpost
            have d3_0 : getCells hh3 0 1 = some [.i (.sl 1 (x0.counts.map enc))] := (keep_get kk3 c3_1 (by first | (simp; done) | (simp; omega))).trans c3_0
            have d3_0l := keep_lt kk3 c3_1
            have d3_1 : getCells hh3 hh1.length s5.length = some (rows (s5 : List U8)) := (keep_get kk3 c3_3 (by first | (simp; done) | (simp; omega))).trans c3_2
            have d3_1l := keep_lt kk3 c3_3
            have d3_2 := wnb3_0
            obtain ⟨v10, hv10, hp⟩ := bind_eq hp
            simp (disch := first | omega | (simp only [List.length_set, List.length_append, List.length_cons, List.length_nil, rows_len, zs]; first | done | omega)) only [ftt1_0, ftt1_1, ftt1_2, ftt1_3, ftt2_0, ftt2_1, ftt2_2, ftt2_3, ftt2_4, ftt2_5, ftt2_6, ftt2_7, hb7, hv8, hv9, d3_0, d3_1, d3_2, gs, reduceIte, reduceCtorEq, Nat.reduceAdd, Nat.reduceMul, Nat.reduceSub, Nat.reduceBEq, Nat.reduceEqDiff, Nat.reduceLeDiff, Nat.reduceLT, Nat.reduceGT, Int.reduceToNat, Int.reduceLT, Int.reduceLE, Int.reduceNeg, Int.reduceAdd, Int.reduceEq, Int.reduceNe]
            refine app_f (b := hh1.length) (xs := s5) (ys := v9) (fun h => getCells h 0 1 = some [.i (.sl 1 (x0.counts.map enc))] ∧ 0 < h.length ∧ getCells h hh1.length s5.length = some (rows (s5 : List U8)) ∧ hh1.length < h.length ∧ getCells h nb3_0 v9.length = some (rows (v9 : List U8)) ∧ nb3_0 < h.length) ?_ ?_ hv10 rfl (by first | rfl | omega | (simp; omega)) (by first | rfl | omega | (simp; omega)) (by first | rfl | omega | (simp; omega)) ?_
            · simp (disch := first | omega | (simp only [List.length_set, List.length_append, List.length_cons, List.length_nil, rows_len, zs]; first | done | omega)) only [ftt1_0, ftt1_1, ftt1_2, ftt1_3, ftt2_0, ftt2_1, ftt2_2, ftt2_3, ftt2_4, ftt2_5, ftt2_6, ftt2_7, hb7, hv8, hv9, d3_0, d3_1, d3_2, hv10, gs, reduceIte, reduceCtorEq, Nat.reduceAdd, Nat.reduceMul, Nat.reduceSub, Nat.reduceBEq, Nat.reduceEqDiff, Nat.reduceLeDiff, Nat.reduceLT, Nat.reduceGT, Int.reduceToNat, Int.reduceLT, Int.reduceLE, Int.reduceNeg, Int.reduceAdd, Int.reduceEq, Int.reduceNe] <;> omega
            · rintro h ⟨c4_0, c4_1, c4_2, c4_3, c4_4, c4_5⟩
              exact gc_eq c4_2 (by omega)
            · rintro h hh4 ⟨c4_0, c4_1, c4_2, c4_3, c4_4, c4_5⟩ kk4 w4
              have d4_0 : getCells hh4 0 1 = some [.i (.sl 1 (x0.counts.map enc))] := (keep_get kk4 c4_1 (by first | (simp; done) | (simp; omega))).trans c4_0
              have d4_0l := keep_lt kk4 c4_1
              have d4_1 : getCells hh4 hh1.length v10.length = some (rows (v10 : List U8)) := by simpa only [Nat.mul_one] using w4
              have d4_1l := keep_lt kk4 c4_3
              have d4_2 : getCells hh4 nb3_0 v9.length = some (rows (v9 : List U8)) := (keep_get kk4 c4_5 (by first | (simp; done) | (simp; omega))).trans c4_4
              have d4_2l := keep_lt kk4 c4_5
              have hp := Option.some.inj hp
              subst hp
              simp (disch := first | omega | (simp only [List.length_set, List.length_append, List.length_cons, List.length_nil, rows_len, zs]; first | done | omega)) only [ftt1_0, ftt1_1, ftt1_2, ftt1_3, ftt2_0, ftt2_1, ftt2_2, ftt2_3, ftt2_4, ftt2_5, ftt2_6, ftt2_7, hb7, hv8, hv9, d3_0, d3_1, d3_2, hv10, d4_0, d4_1, d4_2, gs, reduceIte, reduceCtorEq, Nat.reduceAdd, Nat.reduceMul, Nat.reduceSub, Nat.reduceBEq, Nat.reduceEqDiff, Nat.reduceLeDiff, Nat.reduceLT, Nat.reduceGT, Int.reduceToNat, Int.reduceLT, Int.reduceLE, Int.reduceNeg, Int.reduceAdd, Int.reduceEq, Int.reduceNe] <;> omega
        · replace hb7 := eq_false_of_ne_true hb7
          rw [if_f hb7] at hp
          have hp := Option.some.inj hp
          subst hp
          simp (disch := first | omega | (simp only [List.length_set, List.length_append, List.length_cons, List.length_nil, rows_len, zs]; first | done | omega)) only [ftt1_0, ftt1_1, ftt1_2, ftt1_3, ftt2_0, ftt2_1, ftt2_2, ftt2_3, ftt2_4, ftt2_5, ftt2_6, ftt2_7, hb7, gs, reduceIte, reduceCtorEq, Nat.reduceAdd, Nat.reduceMul, Nat.reduceSub, Nat.reduceBEq, Nat.reduceEqDiff, Nat.reduceLeDiff, Nat.reduceLT, Nat.reduceGT, Int.reduceToNat, Int.reduceLT, Int.reduceLE, Int.reduceNeg, Int.reduceAdd, Int.reduceEq, Int.reduceNe] <;> omega
      · simp (disch := first | omega | (simp only [List.length_set, List.length_append, List.length_cons, List.length_nil, rows_len, zs]; first | done | omega)) only [ftt1_0, ftt1_1, ftt1_2, ftt1_3, gs, reduceIte, reduceCtorEq, Nat.reduceAdd, Nat.reduceMul, Nat.reduceSub, Nat.reduceBEq, Nat.reduceEqDiff, Nat.reduceLeDiff, Nat.reduceLT, Nat.reduceGT, Int.reduceToNat, Int.reduceLT, Int.reduceLE, Int.reduceNeg, Int.reduceAdd, Int.reduceEq, Int.reduceNe] <;> omega
      · intro x tt5 hh5 hx
        rcases ee1 with ⟨o11, o12⟩ | r
        · obtain ⟨rfl, ftt5_0, ftt5_1, ftt5_2, ftt5_3, ftt5_4, ftt5_5, ftt5_6, ftt5_7⟩ := hx
          dsimp only at hp
          have hp := Option.some.inj hp
          subst hp
          simp (disch := first | omega | (simp only [List.length_set, List.length_append, List.length_cons, List.length_nil, rows_len, zs]; first | done | omega)) only [ftt1_0, ftt1_1, ftt1_2, ftt1_3, ftt5_0, ftt5_1, ftt5_2, ftt5_3, ftt5_4, ftt5_5, ftt5_6, ftt5_7, gs, reduceIte, reduceCtorEq, Nat.reduceAdd, Nat.reduceMul, Nat.reduceSub, Nat.reduceBEq, Nat.reduceEqDiff, Nat.reduceLeDiff, Nat.reduceLT, Nat.reduceGT, Int.reduceToNat, Int.reduceLT, Int.reduceLE, Int.reduceNeg, Int.reduceAdd, Int.reduceEq, Int.reduceNe]
          refine ⟨hh1.length, ?_⟩
          simp (disch := first | omega | (simp only [List.length_set, List.length_append, List.length_cons, List.length_nil, rows_len, zs]; first | done | omega)) only [ftt1_0, ftt1_1, ftt1_2, ftt1_3, ftt5_0, ftt5_1, ftt5_2, ftt5_3, ftt5_4, ftt5_5, ftt5_6, ftt5_7, o_spec_l02Bytes, gs, reduceIte, reduceCtorEq, Nat.reduceAdd, Nat.reduceMul, Nat.reduceSub, Nat.reduceBEq, Nat.reduceEqDiff, Nat.reduceLeDiff, Nat.reduceLT, Nat.reduceGT, Int.reduceToNat, Int.reduceLT, Int.reduceLE, Int.reduceNeg, Int.reduceAdd, Int.reduceEq, Int.reduceNe] <;> omega
        · obtain ⟨rfl, hx⟩ := hx
          dsimp only at hp
          cases hp
          simp only [seqK_ret, blockK_ret, retK_RK (K := o_spec_l02Bytes), hx, and_self, true_and]
    · obtain ⟨rfl, hx⟩ := hx
      dsimp only at hp
      cases hp
      simp only [seqK_ret, blockK_ret, retK_RK (K := o_spec_l02Bytes), hx, and_self, true_and]
theorem ko_spec_l02Bytes {P : Program} {env : Env} {f_spec_l01Put : Nat}  (e_spec_l01Put : k_spec_l01Put (env (2 * f_spec_l01Put + 1))) : k_spec_l02Bytes (ownFn P env (c_spec_l02Bytes f_spec_l01Put)) := by
  intro x0 b hp h args has
  obtain ⟨⟨v, H2⟩, hr, n0, rfl, wn0⟩ := w_spec_l02Bytes e_spec_l01Put x0 hp
  exact ⟨_, own_call has hr rfl, keep_moved, n0 + h.length, rfl, (moved_lt wn0).2, (moved_lt wn0).1, moved_rows wn0⟩

noncomputable def p_spec_ReadVec_l0 (x0 : List U8) : List Int × List U8 × Int × Bool × Int → Option (Lp (List Int × List U8 × Int × Bool × Int) (T2 TVec Int))
  | (s2, s3, s4, s5, s6) =>
    if (decide (s6 < 16)) = true then
      if (decide (s4 < (x0.length : Int))) = true then
        if (s5) = true then
          some (.out (s2, s3, s4, s5, s6))
        else
          (p_spec_l01Reader_num (TReader.mk s3 s4 s5)).bind fun v10 =>
          (get? s2 s6).bind fun v11 =>
          some (.go ((s2.set s6.toNat v10.a), v10.b.b, v10.b.at_, v10.b.bad, w64 (s6 + 1)))
      else
        some (.out (s2, s3, s4, s5, s6))
    else
      some (.out (s2, s3, s4, s5, s6))
noncomputable def p_spec_ReadVec (x0 : List U8) : Option (T2 TVec Int) :=
  if (decide (1048576 < (x0.length : Int))) = true then
    some ⟨(TVec.mk ([])), 2⟩
  else
    (p_spec_l02New ).bind fun v1 =>
    (loopP (p_spec_ReadVec_l0 x0) (v1.counts, x0, 0, false, 0)).bind fun ee0 => match ee0 with
    | .ret r => some r
    | .out (o13, o14, o15, o16, o17) =>
      if (o16) = true then
        some ⟨(TVec.mk ([])), 3⟩
      else
        if (decide (o15 = (x0.length : Int))) = true then
          (p_spec_VecOK (TVec.mk o13)).bind fun v20 =>
          if (v20) = true then
            (p_spec_l02Bytes (TVec.mk o13)).bind fun v22 =>
            if (decide ((strOfNums (nums v22)) = (strOfNums (nums x0)))) = true then
              some ⟨(TVec.mk o13), 0⟩
            else
              some ⟨(TVec.mk ([])), 3⟩
          else
            some ⟨(TVec.mk ([])), 3⟩
        else
          some ⟨(TVec.mk ([])), 3⟩
def c_spec_ReadVec (f_spec_l02New : Nat) (f_spec_l01Reader_num : Nat) (f_spec_VecOK : Nat) (f_spec_l02Bytes : Nat) : AFn := ⟨69, (.seq (.ops [⟨(.some 2), (.allocV [(1, false)] [(.slice .none 0 0)]), .none, []⟩, ⟨(.some 3), (.mv (.const (.int .i64 0))), .none, []⟩]) (.seq (.seq (.ops [⟨(.some 7), (.mv (.tmp 0)), .none, []⟩, ⟨(.some 8), (.len (.tmp 7)), .none, []⟩, ⟨(.some 9), (.pu (.n (.ar .gtr)) [(.tmp 8), (.const (.int .i64 1048576))]), .none, []⟩]) (.cond (.tmp 9) (.seq (.ops [⟨(.some 10), (.build [(.slice .none 0 0)] []), .none, []⟩, ⟨.none, (.storeV [(1, false)] 1 (.tmp 2) (.tmp 10)), .none, []⟩, ⟨(.some 3), (.mv (.const (.int .i64 2))), .none, []⟩]) .ret) .skip)) (.seq (.ops [⟨(.some 11), (.call (2 * f_spec_l02New + 1) []), .none, []⟩, ⟨(.some 4), (.allocV [(1, false)] [(.slice .none 0 0)]), .none, []⟩, ⟨.none, (.storeV [(1, false)] 1 (.tmp 4) (.tmp 11)), .none, []⟩]) (.seq (.ops [⟨(.some 12), (.mv (.tmp 0)), .none, []⟩, ⟨(.some 13), (.build [(.slice .none 0 0), (.int .i64 0), (.bool false)] [(0, (1, (.tmp 12)))]), .none, []⟩, ⟨(.some 14), (.box (.tmp 13)), .none, []⟩, ⟨(.some 5), (.mv (.tmp 14)), .none, []⟩]) (.seq (.seq (.ops [⟨(.some 6), (.mv (.const (.int .i64 0))), .none, []⟩]) (.block 0 (.loop (.seq (.seq (.ops [⟨(.some 15), (.mv (.tmp 6)), .none, []⟩, ⟨(.some 16), (.pu (.n (.ar .lss)) [(.tmp 15), (.const (.int .i64 16))]), .none, []⟩, ⟨(.some 17), (.mv (.tmp 16)), .none, []⟩, ⟨(.some 18), (.mv (.tmp 5)), (.some (17, true)), []⟩, ⟨(.some 19), (.nilChk (.tmp 18)), (.some (17, true)), []⟩, ⟨(.some 20), (.fieldA 1 (.tmp 19)), (.some (17, true)), []⟩, ⟨(.some 21), (.load 1 false (.tmp 20)), (.some (17, true)), []⟩, ⟨(.some 22), (.mv (.tmp 0)), (.some (17, true)), []⟩, ⟨(.some 23), (.len (.tmp 22)), (.some (17, true)), []⟩, ⟨(.some 24), (.pu (.n (.ar .lss)) [(.tmp 21), (.tmp 23)]), (.some (17, true)), []⟩, ⟨(.some 25), (.pick (.tmp 17) (.tmp 24) (.const (.bool false))), .none, []⟩, ⟨(.some 26), (.mv (.tmp 25)), .none, []⟩, ⟨(.some 27), (.mv (.tmp 5)), (.some (26, true)), []⟩, ⟨(.some 28), (.nilChk (.tmp 27)), (.some (26, true)), []⟩, ⟨(.some 29), (.fieldA 2 (.tmp 28)), (.some (26, true)), []⟩, ⟨(.some 30), (.load 1 false (.tmp 29)), (.some (26, true)), []⟩, ⟨(.some 31), (.pu (.n (.un .not)) [(.tmp 30)]), (.some (26, true)), []⟩, ⟨(.some 32), (.pick (.tmp 26) (.tmp 31) (.const (.bool false))), .none, []⟩]) (.cond (.tmp 32) .skip (.exit 0))) (.seq (.block 1 (.ops [⟨(.some 35), (.fieldA 0 (.tmp 4)), .none, []⟩, ⟨(.some 36), (.load 1 false (.tmp 35)), .none, []⟩, ⟨(.some 37), (.mv (.tmp 6)), .none, []⟩, ⟨(.some 38), (.mv (.tmp 5)), .none, []⟩, ⟨(.some 39), (.call (2 * f_spec_l01Reader_num + 1) [(.tmp 38)]), .none, [(.tmp 35)]⟩, ⟨(.some 40), (.idxS 1 (.tmp 36) (.tmp 37)), .none, []⟩, ⟨.none, (.store 1 (.tmp 40) (.tmp 39)), .none, []⟩])) (.ops [⟨(.some 33), (.mv (.tmp 6)), .none, []⟩, ⟨(.some 34), (.pu (.n (.ar .add)) [(.tmp 33), (.const (.int .i64 1))]), .none, []⟩, ⟨(.some 6), (.mv (.tmp 34)), .none, []⟩])))))) (.seq (.seq (.ops [⟨(.some 41), (.mv (.tmp 5)), .none, []⟩, ⟨(.some 42), (.nilChk (.tmp 41)), .none, []⟩, ⟨(.some 43), (.fieldA 2 (.tmp 42)), .none, []⟩, ⟨(.some 44), (.load 1 false (.tmp 43)), .none, []⟩, ⟨(.some 45), (.mv (.tmp 44)), .none, []⟩, ⟨(.some 46), (.mv (.tmp 5)), (.some (45, false)), []⟩, ⟨(.some 47), (.nilChk (.tmp 46)), (.some (45, false)), []⟩, ⟨(.some 48), (.fieldA 1 (.tmp 47)), (.some (45, false)), []⟩, ⟨(.some 49), (.load 1 false (.tmp 48)), (.some (45, false)), []⟩, ⟨(.some 50), (.mv (.tmp 0)), (.some (45, false)), []⟩, ⟨(.some 51), (.len (.tmp 50)), (.some (45, false)), []⟩, ⟨(.some 52), (.pu (.n (.ar .neq)) [(.tmp 49), (.tmp 51)]), (.some (45, false)), []⟩, ⟨(.some 53), (.pick (.tmp 45) (.const (.bool true)) (.tmp 52)), .none, []⟩, ⟨(.some 54), (.mv (.tmp 53)), .none, []⟩, ⟨(.some 55), (.load 1 true (.tmp 4)), (.some (54, false)), []⟩, ⟨(.some 56), (.call (2 * f_spec_VecOK) [(.tmp 55)]), (.some (54, false)), []⟩, ⟨(.some 57), (.pu (.n (.un .not)) [(.tmp 56)]), (.some (54, false)), []⟩, ⟨(.some 58), (.pick (.tmp 54) (.const (.bool true)) (.tmp 57)), .none, []⟩, ⟨(.some 59), (.mv (.tmp 58)), .none, []⟩, ⟨(.some 60), (.load 1 true (.tmp 4)), (.some (59, false)), []⟩, ⟨(.some 61), (.call (2 * f_spec_l02Bytes + 1) [(.tmp 60)]), (.some (59, false)), []⟩, ⟨(.some 62), (.b2s (.tmp 61)), (.some (59, false)), []⟩, ⟨(.some 63), (.mv (.tmp 0)), (.some (59, false)), []⟩, ⟨(.some 64), (.b2s (.tmp 63)), (.some (59, false)), []⟩, ⟨(.some 65), (.pu (.n (.ar .neq)) [(.tmp 62), (.tmp 64)]), (.some (59, false)), []⟩, ⟨(.some 66), (.pick (.tmp 59) (.const (.bool true)) (.tmp 65)), .none, []⟩]) (.cond (.tmp 66) (.seq (.ops [⟨(.some 67), (.build [(.slice .none 0 0)] []), .none, []⟩, ⟨.none, (.storeV [(1, false)] 1 (.tmp 2) (.tmp 67)), .none, []⟩, ⟨(.some 3), (.mv (.const (.int .i64 3))), .none, []⟩]) .ret) .skip)) (.seq (.ops [⟨(.some 68), (.load 1 true (.tmp 4)), .none, []⟩, ⟨.none, (.storeV [(1, false)] 1 (.tmp 2) (.tmp 68)), .none, []⟩, ⟨(.some 3), (.mv (.const (.int .i64 0))), .none, []⟩]) .ret))))))), [(.cell 2 1 true), (.tmp 3)]⟩
set_option maxHeartbeats 10000000 in
theorem d_spec_ReadVec {P : Program} {env : Env} {f_spec_l02New : Nat} {f_spec_l01Reader_num : Nat} {f_spec_VecOK : Nat} {f_spec_l02Bytes : Nat}  (ep_spec_VecOK : env (2 * f_spec_VecOK) = pureFn true (FA fun a : TVec => p_spec_VecOK a)) (e_spec_l02New : k_spec_l02New (env (2 * f_spec_l02New + 1))) (e_spec_l01Reader_num : k_spec_l01Reader_num (env (2 * f_spec_l01Reader_num + 1))) (e_spec_l02Bytes : k_spec_l02Bytes (env (2 * f_spec_l02Bytes + 1))) (x0 : List U8) {b : T2 TVec Int} (hp : p_spec_ReadVec x0 = some b) : R P env (c_spec_ReadVec f_spec_l02New f_spec_l01Reader_num f_spec_VecOK f_spec_l02Bytes) ((encA (x0)).map ofI) [] (Tells true b) := by
  refine R_of (by simp [c_spec_ReadVec, encA]) ?_
  unfold c_spec_ReadVec
  unfold p_spec_ReadVec at hp
  by_cases hb0 : (decide (1048576 < (x0.length : Int))) = true
  · rw [if_t hb0] at hp
    have hp := Option.some.inj hp
    subst hp
    simp (disch := first | omega | (simp only [List.length_set, List.length_append, List.length_cons, List.length_nil, rows_len, zs]; first | done | omega)) only [ep_spec_VecOK, hb0, gs, reduceIte, reduceCtorEq, Nat.reduceAdd, Nat.reduceMul, Nat.reduceSub, Nat.reduceBEq, Nat.reduceEqDiff, Nat.reduceLeDiff, Nat.reduceLT, Nat.reduceGT, Int.reduceToNat, Int.reduceLT, Int.reduceLE, Int.reduceNeg, Int.reduceAdd, Int.reduceEq, Int.reduceNe]
  · replace hb0 := eq_false_of_ne_true hb0
    rw [if_f hb0] at hp
    obtain ⟨v1, hv1, hp⟩ := bind_eq hp
    simp (disch := first | omega | (simp only [List.length_set, List.length_append, List.length_cons, List.length_nil, rows_len, zs]; first | done | omega)) only [ep_spec_VecOK, hb0, gs, reduceIte, reduceCtorEq, Nat.reduceAdd, Nat.reduceMul, Nat.reduceSub, Nat.reduceBEq, Nat.reduceEqDiff, Nat.reduceLeDiff, Nat.reduceLT, Nat.reduceGT, Int.reduceToNat, Int.reduceLT, Int.reduceLE, Int.reduceNeg, Int.reduceAdd, Int.reduceEq, Int.reduceNe]
    refine call_f (fun h => getCells h 0 0 = some [] ∧ 0 < h.length ∧ getCells h 1 1 = some [.hsl 0 0 0 1 false 0] ∧ 1 < h.length) (fun h v h2 => oo_spec_l02New v1 h v h2) ?_ ?_ ?_
    · simp (disch := first | omega | (simp only [List.length_set, List.length_append, List.length_cons, List.length_nil, rows_len, zs]; first | done | omega)) only [ep_spec_VecOK, hb0, hv1, gs, reduceIte, reduceCtorEq, Nat.reduceAdd, Nat.reduceMul, Nat.reduceSub, Nat.reduceBEq, Nat.reduceEqDiff, Nat.reduceLeDiff, Nat.reduceLT, Nat.reduceGT, Int.reduceToNat, Int.reduceLT, Int.reduceLE, Int.reduceNeg, Int.reduceAdd, Int.reduceEq, Int.reduceNe] <;> omega
    · rintro h ⟨c0_0, c0_1, c0_2, c0_3⟩
      exact e_spec_l02New  _ hv1 h _ (by simp (disch := first | omega | (simp only [List.length_set, List.length_append, List.length_cons, List.length_nil, rows_len, zs]; first | done | omega)) only [ep_spec_VecOK, hb0, hv1, c0_0, c0_1, c0_2, c0_3, gs, reduceIte, reduceCtorEq, Nat.reduceAdd, Nat.reduceMul, Nat.reduceSub, Nat.reduceBEq, Nat.reduceEqDiff, Nat.reduceLeDiff, Nat.reduceLT, Nat.reduceGT, Int.reduceToNat, Int.reduceLT, Int.reduceLE, Int.reduceNeg, Int.reduceAdd, Int.reduceEq, Int.reduceNe])
    · rintro h v hh0 ⟨c0_0, c0_1, c0_2, c0_3⟩ hpost
      obtain ⟨kk0, nb0_0, rfl, lnb0_0, gnb0_0, wnb0_0⟩ := hpost
      have d0_0 : getCells hh0 0 0 = some [] := (keep_get kk0 c0_1 (by first | (simp; done) | (simp; omega))).trans c0_0
      have d0_0l := keep_lt kk0 c0_1
      have d0_1 : getCells hh0 1 1 = some [.hsl 0 0 0 1 false 0] := (keep_get kk0 c0_3 (by first | (simp; done) | (simp; omega))).trans c0_2
      have d0_1l := keep_lt kk0 c0_3
      have d0_2 := wnb0_0
      obtain ⟨ee0, hee0, hp⟩ := bind_eq hp
      simp (disch := first | omega | (simp only [List.length_set, List.length_append, List.length_cons, List.length_nil, rows_len, zs]; first | done | omega)) only [ep_spec_VecOK, hb0, hv1, d0_0, d0_1, d0_2, gs, reduceIte, reduceCtorEq, Nat.reduceAdd, Nat.reduceMul, Nat.reduceSub, Nat.reduceBEq, Nat.reduceEqDiff, Nat.reduceLeDiff, Nat.reduceLT, Nat.reduceGT, Int.reduceToNat, Int.reduceLT, Int.reduceLE, Int.reduceNeg, Int.reduceAdd, Int.reduceEq, Int.reduceNe]
      refine W_loopP 0 (fun s t h => match s with | (s2, s3, s4, s5, s6) => t 0 = .i (.sl 1 (x0.map enc)) ∧ t 2 = .ptr 1 1 0 ∧ t 4 = .ptr (hh0.length + 1) 1 0 ∧ t 5 = .ptr (hh0.length + 2) 3 0 ∧ t 6 = .i (.s (.int .i64 s6)) ∧ getCells h 0 0 = some (rows ([] : List Int)) ∧ 0 < h.length ∧ getCells h 1 1 = some [.hsl 0 0 0 1 false 0] ∧ 1 < h.length ∧ getCells h nb0_0 v1.counts.length = some (rows (s2 : List Int)) ∧ nb0_0 < h.length ∧ getCells h (hh0.length + 1) 1 = some [.hsl nb0_0 v1.counts.length 0 1 false v1.counts.length] ∧ hh0.length + 1 < h.length ∧ getCells h (hh0.length + 2) 3 = some [.i (.sl 1 (s3.map enc)), .i (.s (.int .i64 s4)), .i (.s (.bool s5))] ∧ hh0.length + 2 < h.length) (RK [.cell 2 1 true, .tmp 3] (Tells true)) ?_ hee0 ?_ ?_
      · rintro ⟨s2, s3, s4, s5, s6⟩ ee tt1 hh1 ⟨ftt1_0, ftt1_1, ftt1_2, ftt1_3, ftt1_4, ftt1_5, ftt1_6, ftt1_7, ftt1_8, ftt1_9, ftt1_10, ftt1_11, ftt1_12, ftt1_13, ftt1_14⟩ hp
        have ztt1_5 := len_rows ftt1_5
        simp only [zs] at ztt1_5
        have ztt1_9 := len_rows ftt1_9
        simp only [zs] at ztt1_9
        rw [p_spec_ReadVec_l0] at hp
        by_cases hb7 : (decide (s6 < 16)) = true
        · rw [if_t hb7] at hp
          by_cases hb8 : (decide (s4 < (x0.length : Int))) = true
          · rw [if_t hb8] at hp
            by_cases hb9 : (s5) = true
            · rw [if_t hb9] at hp
              have hp := Option.some.inj hp
              subst hp
              simp (disch := first | omega | (simp only [List.length_set, List.length_append, List.length_cons, List.length_nil, rows_len, zs]; first | done | omega)) only [ep_spec_VecOK, hb0, hv1, d0_0, d0_1, d0_2, ftt1_0, ftt1_1, ftt1_2, ftt1_3, ftt1_4, ftt1_5, ftt1_6, ftt1_7, ftt1_8, ftt1_9, ftt1_10, ftt1_11, ftt1_12, ftt1_13, ftt1_14, hb7, hb8, hb9, gs, reduceIte, reduceCtorEq, Nat.reduceAdd, Nat.reduceMul, Nat.reduceSub, Nat.reduceBEq, Nat.reduceEqDiff, Nat.reduceLeDiff, Nat.reduceLT, Nat.reduceGT, Int.reduceToNat, Int.reduceLT, Int.reduceLE, Int.reduceNeg, Int.reduceAdd, Int.reduceEq, Int.reduceNe] <;> omega
            · replace hb9 := eq_false_of_ne_true hb9
              rw [if_f hb9] at hp
              obtain ⟨v10, hv10, hp⟩ := bind_eq hp
              simp (disch := first | omega | (simp only [List.length_set, List.length_append, List.length_cons, List.length_nil, rows_len, zs]; first | done | omega)) only [ep_spec_VecOK, hb0, hv1, d0_0, d0_1, d0_2, ftt1_0, ftt1_1, ftt1_2, ftt1_3, ftt1_4, ftt1_5, ftt1_6, ftt1_7, ftt1_8, ftt1_9, ftt1_10, ftt1_11, ftt1_12, ftt1_13, ftt1_14, hb7, hb8, hb9, gs, reduceIte, reduceCtorEq, Nat.reduceAdd, Nat.reduceMul, Nat.reduceSub, Nat.reduceBEq, Nat.reduceEqDiff, Nat.reduceLeDiff, Nat.reduceLT, Nat.reduceGT, Int.reduceToNat, Int.reduceLT, Int.reduceLE, Int.reduceNeg, Int.reduceAdd, Int.reduceEq, Int.reduceNe]
              refine call_fa (fun h => getCells h 0 0 = some [] ∧ 0 < h.length ∧ getCells h 1 1 = some [.hsl 0 0 0 1 false 0] ∧ 1 < h.length ∧ getCells h nb0_0 v1.counts.length = some (rows (s2 : List Int)) ∧ nb0_0 < h.length ∧ getCells h (hh0.length + 1) 1 = some [.hsl nb0_0 v1.counts.length 0 1 false v1.counts.length] ∧ hh0.length + 1 < h.length ∧ getCells h (hh0.length + 2) 3 = some [.i (.sl 1 (s3.map enc)), .i (.s (.int .i64 s4)), .i (.s (.bool s5))] ∧ hh0.length + 2 < h.length) (fun h v h2 => i_spec_l01Reader_num (hh0.length + 2) h v10 v h2) ?_ ?_ ?_
              · simp (disch := first | omega | (simp only [List.length_set, List.length_append, List.length_cons, List.length_nil, rows_len, zs]; first | done | omega)) only [ep_spec_VecOK, hb0, hv1, d0_0, d0_1, d0_2, ftt1_0, ftt1_1, ftt1_2, ftt1_3, ftt1_4, ftt1_5, ftt1_6, ftt1_7, ftt1_8, ftt1_9, ftt1_10, ftt1_11, ftt1_12, ftt1_13, ftt1_14, hb7, hb8, hb9, hv10, gs, reduceIte, reduceCtorEq, Nat.reduceAdd, Nat.reduceMul, Nat.reduceSub, Nat.reduceBEq, Nat.reduceEqDiff, Nat.reduceLeDiff, Nat.reduceLT, Nat.reduceGT, Int.reduceToNat, Int.reduceLT, Int.reduceLE, Int.reduceNeg, Int.reduceAdd, Int.reduceEq, Int.reduceNe] <;> omega
              · rintro h ⟨c2_0, c2_1, c2_2, c2_3, c2_4, c2_5, c2_6, c2_7, c2_8, c2_9⟩
                exact e_spec_l01Reader_num _ _ hv10 (hh0.length + 2)  h c2_8
              · rintro v hh2 ⟨c2_0, c2_1, c2_2, c2_3, c2_4, c2_5, c2_6, c2_7, c2_8, c2_9⟩ hpost
                obtain ⟨kk2, rfl, w2_0⟩ := hpost
                have d2_0 : getCells hh2 0 0 = some [] := (keep_get kk2 c2_1 (by first | (simp; done) | (simp; omega))).trans c2_0
                have d2_0l := keep_lt kk2 c2_1
                have d2_1 : getCells hh2 1 1 = some [.hsl 0 0 0 1 false 0] := (keep_get kk2 c2_3 (by first | (simp; done) | (simp; omega))).trans c2_2
                have d2_1l := keep_lt kk2 c2_3
                have d2_2 : getCells hh2 nb0_0 v1.counts.length = some (rows (s2 : List Int)) := (keep_get kk2 c2_5 (by first | (simp; done) | (simp; omega))).trans c2_4
                have d2_2l := keep_lt kk2 c2_5
                have d2_3 : getCells hh2 (hh0.length + 1) 1 = some [.hsl nb0_0 v1.counts.length 0 1 false v1.counts.length] := (keep_get kk2 c2_7 (by first | (simp; done) | (simp; omega))).trans c2_6
                have d2_3l := keep_lt kk2 c2_7
                have d2_4 : getCells hh2 (hh0.length + 2) 3 = some [.i (.sl 1 (v10.b.b.map enc)), .i (.s (.int .i64 v10.b.at_)), .i (.s (.bool v10.b.bad))] := w2_0
                have d2_4l := keep_lt kk2 c2_9
                have ka2_0 := kk2.at_ _ c2_7 (by first | (simp; done) | (simp; omega))
                obtain ⟨v11, hv11, hp⟩ := bind_eq hp
                have gv11 := get_some hv11
                have hs12 : List.take s6.toNat (rows s2) ++ .i (.s (.int .i64 v10.a)) :: List.drop (s6.toNat + 1) (rows s2) = rows (s2.set s6.toNat v10.a) := by simpa [splice, zs, cellsV, I.cells, enc_int] using rows_set_off (y := v10.a) (ys := [.i (.s (.int .i64 v10.a))]) (k := 0) gv11.2.2 (Nat.le_of_ble_eq_true rfl) (by rfl)
                have hp := Option.some.inj hp
                subst hp
                simp (disch := first | omega | (simp only [List.length_set, List.length_append, List.length_cons, List.length_nil, rows_len, zs]; first | done | omega)) only [ep_spec_VecOK, hb0, hv1, d0_0, d0_1, d0_2, ftt1_0, ftt1_1, ftt1_2, ftt1_3, ftt1_4, ftt1_5, ftt1_6, ftt1_7, ftt1_8, ftt1_9, ftt1_10, ftt1_11, ftt1_12, ftt1_13, ftt1_14, hb7, hb8, hb9, hv10, d2_0, d2_1, d2_2, d2_3, d2_4, ka2_0, hv11, (gv11).1, (gv11).2.1, hs12, gs, reduceIte, reduceCtorEq, Nat.reduceAdd, Nat.reduceMul, Nat.reduceSub, Nat.reduceBEq, Nat.reduceEqDiff, Nat.reduceLeDiff, Nat.reduceLT, Nat.reduceGT, Int.reduceToNat, Int.reduceLT, Int.reduceLE, Int.reduceNeg, Int.reduceAdd, Int.reduceEq, Int.reduceNe] <;> omega
          · replace hb8 := eq_false_of_ne_true hb8
            rw [if_f hb8] at hp
            have hp := Option.some.inj hp
            subst hp
            simp (disch := first | omega | (simp only [List.length_set, List.length_append, List.length_cons, List.length_nil, rows_len, zs]; first | done | omega)) only [ep_spec_VecOK, hb0, hv1, d0_0, d0_1, d0_2, ftt1_0, ftt1_1, ftt1_2, ftt1_3, ftt1_4, ftt1_5, ftt1_6, ftt1_7, ftt1_8, ftt1_9, ftt1_10, ftt1_11, ftt1_12, ftt1_13, ftt1_14, hb7, hb8, gs, reduceIte, reduceCtorEq, Nat.reduceAdd, Nat.reduceMul, Nat.reduceSub, Nat.reduceBEq, Nat.reduceEqDiff, Nat.reduceLeDiff, Nat.reduceLT, Nat.reduceGT, Int.reduceToNat, Int.reduceLT, Int.reduceLE, Int.reduceNeg, Int.reduceAdd, Int.reduceEq, Int.reduceNe] <;> omega
        · replace hb7 := eq_false_of_ne_true hb7
          rw [if_f hb7] at hp
          have hp := Option.some.inj hp
          subst hp
          simp (disch := first | omega | (simp only [List.length_set, List.length_append, List.length_cons, List.length_nil, rows_len, zs]; first | done | omega)) only [ep_spec_VecOK, hb0, hv1, d0_0, d0_1, d0_2, ftt1_0, ftt1_1, ftt1_2, ftt1_3, ftt1_4, ftt1_5, ftt1_6, ftt1_7, ftt1_8, ftt1_9, ftt1_10, ftt1_11, ftt1_12, ftt1_13, ftt1_14, hb7, gs, reduceIte, reduceCtorEq, Nat.reduceAdd, Nat.reduceMul, Nat.reduceSub, Nat.reduceBEq, Nat.reduceEqDiff, Nat.reduceLeDiff, Nat.reduceLT, Nat.reduceGT, Int.reduceToNat, Int.reduceLT, Int.reduceLE, Int.reduceNeg, Int.reduceAdd, Int.reduceEq, Int.reduceNe] <;> omega
      · simp (disch := first | omega | (simp only [List.length_set, List.length_append, List.length_cons, List.length_nil, rows_len, zs]; first | done | omega)) only [ep_spec_VecOK, hb0, hv1, d0_0, d0_1, d0_2, gs, reduceIte, reduceCtorEq, Nat.reduceAdd, Nat.reduceMul, Nat.reduceSub, Nat.reduceBEq, Nat.reduceEqDiff, Nat.reduceLeDiff, Nat.reduceLT, Nat.reduceGT, Int.reduceToNat, Int.reduceLT, Int.reduceLE, Int.reduceNeg, Int.reduceAdd, Int.reduceEq, Int.reduceNe] <;> omega
      · intro x tt3 hh3 hx
        rcases ee0 with ⟨o13, o14, o15, o16, o17⟩ | r
        · obtain ⟨rfl, ftt3_0, ftt3_1, ftt3_2, ftt3_3, ftt3_4, ftt3_5, ftt3_6, ftt3_7, ftt3_8, ftt3_9, ftt3_10, ftt3_11, ftt3_12, ftt3_13, ftt3_14⟩ := hx
          have ztt3_5 := len_rows ftt3_5
          simp only [zs] at ztt3_5
          have ztt3_9 := len_rows ftt3_9
          simp only [zs] at ztt3_9
          dsimp only at hp
          by_cases hb18 : (o16) = true
          · rw [if_t hb18] at hp
            have hp := Option.some.inj hp
            subst hp
            simp (disch := first | omega | (simp only [List.length_set, List.length_append, List.length_cons, List.length_nil, rows_len, zs]; first | done | omega)) only [ep_spec_VecOK, hb0, hv1, d0_0, d0_1, d0_2, ftt3_0, ftt3_1, ftt3_2, ftt3_3, ftt3_4, ftt3_5, ftt3_6, ftt3_7, ftt3_8, ftt3_9, ftt3_10, ftt3_11, ftt3_12, ftt3_13, ftt3_14, hb18, gs, reduceIte, reduceCtorEq, Nat.reduceAdd, Nat.reduceMul, Nat.reduceSub, Nat.reduceBEq, Nat.reduceEqDiff, Nat.reduceLeDiff, Nat.reduceLT, Nat.reduceGT, Int.reduceToNat, Int.reduceLT, Int.reduceLE, Int.reduceNeg, Int.reduceAdd, Int.reduceEq, Int.reduceNe]
          · replace hb18 := eq_false_of_ne_true hb18
            rw [if_f hb18] at hp
            by_cases hb19 : (decide (o15 = (x0.length : Int))) = true
            · rw [if_t hb19] at hp
              obtain ⟨v20, hv20, hp⟩ := bind_eq hp
              by_cases hb21 : (v20) = true
              · rw [if_t hb21] at hp
                obtain ⟨v22, hv22, hp⟩ := bind_eq hp
                simp (disch := first | omega | (simp only [List.length_set, List.length_append, List.length_cons, List.length_nil, rows_len, zs]; first | done | omega)) only [ep_spec_VecOK, hb0, hv1, d0_0, d0_1, d0_2, ftt3_0, ftt3_1, ftt3_2, ftt3_3, ftt3_4, ftt3_5, ftt3_6, ftt3_7, ftt3_8, ftt3_9, ftt3_10, ftt3_11, ftt3_12, ftt3_13, ftt3_14, hb18, hb19, hv20, hb21, gs, reduceIte, reduceCtorEq, Nat.reduceAdd, Nat.reduceMul, Nat.reduceSub, Nat.reduceBEq, Nat.reduceEqDiff, Nat.reduceLeDiff, Nat.reduceLT, Nat.reduceGT, Int.reduceToNat, Int.reduceLT, Int.reduceLE, Int.reduceNeg, Int.reduceAdd, Int.reduceEq, Int.reduceNe]
                refine call_f (fun h => getCells h 0 0 = some [] ∧ 0 < h.length ∧ getCells h 1 1 = some [.hsl 0 0 0 1 false 0] ∧ 1 < h.length ∧ getCells h nb0_0 v1.counts.length = some (rows (o13 : List Int)) ∧ nb0_0 < h.length ∧ getCells h (hh0.length + 1) 1 = some [.hsl nb0_0 v1.counts.length 0 1 false v1.counts.length] ∧ hh0.length + 1 < h.length ∧ getCells h (hh0.length + 2) 3 = some [.i (.sl 1 (o14.map enc)), .i (.s (.int .i64 o15)), .i (.s (.bool o16))] ∧ hh0.length + 2 < h.length) (fun h v h2 => oo_spec_l02Bytes v22 h v h2) ?_ ?_ ?_
                · simp (disch := first | omega | (simp only [List.length_set, List.length_append, List.length_cons, List.length_nil, rows_len, zs]; first | done | omega)) only [ep_spec_VecOK, hb0, hv1, d0_0, d0_1, d0_2, ftt3_0, ftt3_1, ftt3_2, ftt3_3, ftt3_4, ftt3_5, ftt3_6, ftt3_7, ftt3_8, ftt3_9, ftt3_10, ftt3_11, ftt3_12, ftt3_13, ftt3_14, hb18, hb19, hv20, hb21, hv22, gs, reduceIte, reduceCtorEq, Nat.reduceAdd, Nat.reduceMul, Nat.reduceSub, Nat.reduceBEq, Nat.reduceEqDiff, Nat.reduceLeDiff, Nat.reduceLT, Nat.reduceGT, Int.reduceToNat, Int.reduceLT, Int.reduceLE, Int.reduceNeg, Int.reduceAdd, Int.reduceEq, Int.reduceNe] <;> omega
                · rintro h ⟨c4_0, c4_1, c4_2, c4_3, c4_4, c4_5, c4_6, c4_7, c4_8, c4_9⟩
                  exact e_spec_l02Bytes _ _ hv22 h _ (by simp (disch := first | omega | (simp only [List.length_set, List.length_append, List.length_cons, List.length_nil, rows_len, zs]; first | done | omega)) only [ep_spec_VecOK, hb0, hv1, d0_0, d0_1, d0_2, ftt3_0, ftt3_1, ftt3_2, ftt3_3, ftt3_4, ftt3_5, ftt3_6, ftt3_7, ftt3_8, ftt3_9, ftt3_10, ftt3_11, ftt3_12, ftt3_13, ftt3_14, hb18, hb19, hv20, hb21, hv22, c4_0, c4_1, c4_2, c4_3, c4_4, c4_5, c4_6, c4_7, c4_8, c4_9, gs, reduceIte, reduceCtorEq, Nat.reduceAdd, Nat.reduceMul, Nat.reduceSub, Nat.reduceBEq, Nat.reduceEqDiff, Nat.reduceLeDiff, Nat.reduceLT, Nat.reduceGT, Int.reduceToNat, Int.reduceLT, Int.reduceLE, Int.reduceNeg, Int.reduceAdd, Int.reduceEq, Int.reduceNe])
                · rintro h v hh4 ⟨c4_0, c4_1, c4_2, c4_3, c4_4, c4_5, c4_6, c4_7, c4_8, c4_9⟩ hpost
                  obtain ⟨kk4, nb4_0, rfl, lnb4_0, gnb4_0, wnb4_0⟩ := hpost
                  have d4_0 : getCells hh4 0 0 = some [] := (keep_get kk4 c4_1 (by first | (simp; done) | (simp; omega))).trans c4_0
                  have d4_0l := keep_lt kk4 c4_1
                  have d4_1 : getCells hh4 1 1 = some [.hsl 0 0 0 1 false 0] := (keep_get kk4 c4_3 (by first | (simp; done) | (simp; omega))).trans c4_2
                  have d4_1l := keep_lt kk4 c4_3
                  have d4_2 : getCells hh4 nb0_0 v1.counts.length = some (rows (o13 : List Int)) := (keep_get kk4 c4_5 (by first | (simp; done) | (simp; omega))).trans c4_4
                  have d4_2l := keep_lt kk4 c4_5
                  have d4_3 : getCells hh4 (hh0.length + 1) 1 = some [.hsl nb0_0 v1.counts.length 0 1 false v1.counts.length] := (keep_get kk4 c4_7 (by first | (simp; done) | (simp; omega))).trans c4_6
                  have d4_3l := keep_lt kk4 c4_7
                  have d4_4 : getCells hh4 (hh0.length + 2) 3 = some [.i (.sl 1 (o14.map enc)), .i (.s (.int .i64 o15)), .i (.s (.bool o16))] := (keep_get kk4 c4_9 (by first | (simp; done) | (simp; omega))).trans c4_8
                  have d4_4l := keep_lt kk4 c4_9
                  have d4_5 := wnb4_0
                  have hb23 : v22.length = v22.length := by omega
                  by_cases hb24 : (decide ((strOfNums (nums v22)) = (strOfNums (nums x0)))) = true
                  · rw [if_t hb24] at hp
                    have hp := Option.some.inj hp
                    subst hp
                    simp (disch := first | omega | (simp only [List.length_set, List.length_append, List.length_cons, List.length_nil, rows_len, zs]; first | done | omega)) only [ep_spec_VecOK, hb0, hv1, d0_0, d0_1, d0_2, ftt3_0, ftt3_1, ftt3_2, ftt3_3, ftt3_4, ftt3_5, ftt3_6, ftt3_7, ftt3_8, ftt3_9, ftt3_10, ftt3_11, ftt3_12, ftt3_13, ftt3_14, hb18, hb19, hv20, hb21, hv22, d4_0, d4_1, d4_2, d4_3, d4_4, d4_5, hb23, hb24, gs, reduceIte, reduceCtorEq, Nat.reduceAdd, Nat.reduceMul, Nat.reduceSub, Nat.reduceBEq, Nat.reduceEqDiff, Nat.reduceLeDiff, Nat.reduceLT, Nat.reduceGT, Int.reduceToNat, Int.reduceLT, Int.reduceLE, Int.reduceNeg, Int.reduceAdd, Int.reduceEq, Int.reduceNe]
                  · replace hb24 := eq_false_of_ne_true hb24
                    rw [if_f hb24] at hp
                    have hp := Option.some.inj hp
                    subst hp
                    simp (disch := first | omega | (simp only [List.length_set, List.length_append, List.length_cons, List.length_nil, rows_len, zs]; first | done | omega)) only [ep_spec_VecOK, hb0, hv1, d0_0, d0_1, d0_2, ftt3_0, ftt3_1, ftt3_2, ftt3_3, ftt3_4, ftt3_5, ftt3_6, ftt3_7, ftt3_8, ftt3_9, ftt3_10, ftt3_11, ftt3_12, ftt3_13, ftt3_14, hb18, hb19, hv20, hb21, hv22, d4_0, d4_1, d4_2, d4_3, d4_4, d4_5, hb23, hb24, gs, reduceIte, reduceCtorEq, Nat.reduceAdd, Nat.reduceMul, Nat.reduceSub, Nat.reduceBEq, Nat.reduceEqDiff, Nat.reduceLeDiff, Nat.reduceLT, Nat.reduceGT, Int.reduceToNat, Int.reduceLT, Int.reduceLE, Int.reduceNeg, Int.reduceAdd, Int.reduceEq, Int.reduceNe]
              · replace hb21 := eq_false_of_ne_true hb21
                rw [if_f hb21] at hp
                have hp := Option.some.inj hp
                subst hp
                simp (disch := first | omega | (simp only [List.length_set, List.length_append, List.length_cons, List.length_nil, rows_len, zs]; first | done | omega)) only [ep_spec_VecOK, hb0, hv1, d0_0, d0_1, d0_2, ftt3_0, ftt3_1, ftt3_2, ftt3_3, ftt3_4, ftt3_5, ftt3_6, ftt3_7, ftt3_8, ftt3_9, ftt3_10, ftt3_11, ftt3_12, ftt3_13, ftt3_14, hb18, hb19, hv20, hb21, gs, reduceIte, reduceCtorEq, Nat.reduceAdd, Nat.reduceMul, Nat.reduceSub, Nat.reduceBEq, Nat.reduceEqDiff, Nat.reduceLeDiff, Nat.reduceLT, Nat.reduceGT, Int.reduceToNat, Int.reduceLT, Int.reduceLE, Int.reduceNeg, Int.reduceAdd, Int.reduceEq, Int.reduceNe]
            · replace hb19 := eq_false_of_ne_true hb19
              rw [if_f hb19] at hp
              have hp := Option.some.inj hp
              subst hp
              simp (disch := first | omega | (simp only [List.length_set, List.length_append, List.length_cons, List.length_nil, rows_len, zs]; first | done | omega)) only [ep_spec_VecOK, hb0, hv1, d0_0, d0_1, d0_2, ftt3_0, ftt3_1, ftt3_2, ftt3_3, ftt3_4, ftt3_5, ftt3_6, ftt3_7, ftt3_8, ftt3_9, ftt3_10, ftt3_11, ftt3_12, ftt3_13, ftt3_14, hb18, hb19, gs, reduceIte, reduceCtorEq, Nat.reduceAdd, Nat.reduceMul, Nat.reduceSub, Nat.reduceBEq, Nat.reduceEqDiff, Nat.reduceLeDiff, Nat.reduceLT, Nat.reduceGT, Int.reduceToNat, Int.reduceLT, Int.reduceLE, Int.reduceNeg, Int.reduceAdd, Int.reduceEq, Int.reduceNe]
        · obtain ⟨rfl, hx⟩ := hx
          dsimp only at hp
          cases hp
          simp only [seqK_ret, blockK_ret, retK_RK (K := Tells true), hx, and_self, true_and]

noncomputable def p_impl_reader_num_l0 (x0 : TReader) : Int × Int × Int → Option (Lp (Int × Int × Int) (T2 Int TReader))
  | (s0, s1, s2) =>
    if (x0.bad) = true then
      some (.out (s0, s1, s2))
    else
      if (decide ((x0.b.length : Int) ≤ s0)) = true then
        some (.ret ⟨0, (TReader.mk x0.b s0 true)⟩)
      else
        if (decide (56 < s2)) = true then
          some (.ret ⟨0, (TReader.mk x0.b s0 true)⟩)
        else
          (get? x0.b s0).bind fun v6 =>
          if (decide (s2 = 56)) = true then
            if (decide (63 < v6.v)) = true then
              some (.ret ⟨0, (TReader.mk x0.b (w64 (s0 + 1)) true)⟩)
            else
              (shl? .u64 (IntKind.wrap .u64 (andI .u8 v6.v 127)) s2).bind fun v9 =>
              if (decide (v6.v < 128)) = true then
                if (decide (v6.v = 0)) = true then
                  if (decide (0 < s2)) = true then
                    some (.ret ⟨0, (TReader.mk x0.b (w64 (s0 + 1)) true)⟩)
                  else
                    some (.ret ⟨w64 (orI .u64 s1 v9), (TReader.mk x0.b (w64 (s0 + 1)) x0.bad)⟩)
                else
                  some (.ret ⟨w64 (orI .u64 s1 v9), (TReader.mk x0.b (w64 (s0 + 1)) x0.bad)⟩)
              else
                some (.go (w64 (s0 + 1), orI .u64 s1 v9, IntKind.wrap .u64 (s2 + 7)))
          else
            (shl? .u64 (IntKind.wrap .u64 (andI .u8 v6.v 127)) s2).bind fun v13 =>
            if (decide (v6.v < 128)) = true then
              if (decide (v6.v = 0)) = true then
                if (decide (0 < s2)) = true then
                  some (.ret ⟨0, (TReader.mk x0.b (w64 (s0 + 1)) true)⟩)
                else
                  some (.ret ⟨w64 (orI .u64 s1 v13), (TReader.mk x0.b (w64 (s0 + 1)) x0.bad)⟩)
              else
                some (.ret ⟨w64 (orI .u64 s1 v13), (TReader.mk x0.b (w64 (s0 + 1)) x0.bad)⟩)
            else
              some (.go (w64 (s0 + 1), orI .u64 s1 v13, IntKind.wrap .u64 (s2 + 7)))
noncomputable def p_impl_reader_num (x0 : TReader) : Option (T2 Int TReader) :=
  (loopP (p_impl_reader_num_l0 x0) (x0.at_, 0, 0)).bind fun ee0 => match ee0 with
  | .ret r => some r
  | .out (o17, o18, o19) =>
    some ⟨0, (TReader.mk x0.b o17 x0.bad)⟩
def c_impl_reader_num : AFn := ⟨76, (.seq (.ops [⟨(.some 2), (.mv (.const (.int .i64 0))), .none, []⟩]) (.seq (.ops [⟨(.some 3), (.mv (.const (.int .u64 0))), .none, []⟩, ⟨(.some 4), (.mv (.const (.int .u64 0))), .none, []⟩]) (.seq (.block 0 (.loop (.seq (.seq (.ops [⟨(.some 6), (.mv (.tmp 0)), .none, []⟩, ⟨(.some 7), (.nilChk (.tmp 6)), .none, []⟩, ⟨(.some 8), (.fieldA 2 (.tmp 7)), .none, []⟩, ⟨(.some 9), (.load 1 false (.tmp 8)), .none, []⟩, ⟨(.some 10), (.pu (.n (.un .not)) [(.tmp 9)]), .none, []⟩]) (.cond (.tmp 10) .skip (.exit 0))) (.block 1 (.seq (.seq (.ops [⟨(.some 11), (.mv (.tmp 0)), .none, []⟩, ⟨(.some 12), (.nilChk (.tmp 11)), .none, []⟩, ⟨(.some 13), (.fieldA 1 (.tmp 12)), .none, []⟩, ⟨(.some 14), (.load 1 false (.tmp 13)), .none, []⟩, ⟨(.some 15), (.mv (.tmp 0)), .none, []⟩, ⟨(.some 16), (.nilChk (.tmp 15)), .none, []⟩, ⟨(.some 17), (.fieldA 0 (.tmp 16)), .none, []⟩, ⟨(.some 18), (.load 1 false (.tmp 17)), .none, []⟩, ⟨(.some 19), (.len (.tmp 18)), .none, []⟩, ⟨(.some 20), (.pu (.n (.ar .geq)) [(.tmp 14), (.tmp 19)]), .none, []⟩, ⟨(.some 21), (.mv (.tmp 20)), .none, []⟩, ⟨(.some 22), (.mv (.tmp 4)), (.some (21, false)), []⟩, ⟨(.some 23), (.pu (.n (.ar .gtr)) [(.tmp 22), (.const (.int .u64 56))]), (.some (21, false)), []⟩, ⟨(.some 24), (.pick (.tmp 21) (.const (.bool true)) (.tmp 23)), .none, []⟩]) (.cond (.tmp 24) (.seq (.ops [⟨(.some 25), (.mv (.tmp 0)), .none, []⟩, ⟨(.some 26), (.nilChk (.tmp 25)), .none, []⟩, ⟨(.some 27), (.fieldA 2 (.tmp 26)), .none, []⟩, ⟨.none, (.storeV [(0, false)] 1 (.tmp 27) (.const (.bool true))), .none, []⟩]) (.seq (.ops [⟨(.some 2), (.mv (.const (.int .i64 0))), .none, []⟩]) .ret)) .skip)) (.seq (.ops [⟨(.some 28), (.mv (.tmp 0)), .none, []⟩, ⟨(.some 29), (.nilChk (.tmp 28)), .none, []⟩, ⟨(.some 30), (.fieldA 0 (.tmp 29)), .none, []⟩, ⟨(.some 31), (.load 1 false (.tmp 30)), .none, []⟩, ⟨(.some 32), (.mv (.tmp 0)), .none, []⟩, ⟨(.some 33), (.nilChk (.tmp 32)), .none, []⟩, ⟨(.some 34), (.fieldA 1 (.tmp 33)), .none, []⟩, ⟨(.some 35), (.load 1 false (.tmp 34)), .none, []⟩, ⟨(.some 36), (.idxS 1 (.tmp 31) (.tmp 35)), .none, []⟩, ⟨(.some 37), (.load 1 false (.tmp 36)), .none, []⟩, ⟨(.some 5), (.mv (.tmp 37)), .none, []⟩]) (.seq (.ops [⟨(.some 38), (.mv (.tmp 0)), .none, []⟩, ⟨(.some 39), (.nilChk (.tmp 38)), .none, []⟩, ⟨(.some 40), (.fieldA 1 (.tmp 39)), .none, []⟩, ⟨(.some 41), (.load 1 false (.tmp 40)), .none, []⟩, ⟨(.some 42), (.pu (.n (.ar .add)) [(.tmp 41), (.const (.int .i64 1))]), .none, []⟩, ⟨(.some 43), (.nilChk (.tmp 38)), .none, []⟩, ⟨(.some 44), (.fieldA 1 (.tmp 43)), .none, []⟩, ⟨.none, (.storeV [(0, false)] 1 (.tmp 44) (.tmp 42)), .none, []⟩]) (.seq (.seq (.ops [⟨(.some 45), (.mv (.tmp 4)), .none, []⟩, ⟨(.some 46), (.pu (.n (.ar .eql)) [(.tmp 45), (.const (.int .u64 56))]), .none, []⟩, ⟨(.some 47), (.mv (.tmp 46)), .none, []⟩, ⟨(.some 48), (.mv (.tmp 5)), (.some (47, true)), []⟩, ⟨(.some 49), (.pu (.n (.ar .gtr)) [(.tmp 48), (.const (.int .u8 63))]), (.some (47, true)), []⟩, ⟨(.some 50), (.pick (.tmp 47) (.tmp 49) (.const (.bool false))), .none, []⟩]) (.cond (.tmp 50) (.seq (.ops [⟨(.some 51), (.mv (.tmp 0)), .none, []⟩, ⟨(.some 52), (.nilChk (.tmp 51)), .none, []⟩, ⟨(.some 53), (.fieldA 2 (.tmp 52)), .none, []⟩, ⟨.none, (.storeV [(0, false)] 1 (.tmp 53) (.const (.bool true))), .none, []⟩]) (.seq (.ops [⟨(.some 2), (.mv (.const (.int .i64 0))), .none, []⟩]) .ret)) .skip)) (.seq (.ops [⟨(.some 54), (.mv (.tmp 3)), .none, []⟩, ⟨(.some 55), (.mv (.tmp 5)), .none, []⟩, ⟨(.some 56), (.pu (.n (.ar .and)) [(.tmp 55), (.const (.int .u8 127))]), .none, []⟩, ⟨(.some 57), (.pu (.n (.conv .u64)) [(.tmp 56)]), .none, []⟩, ⟨(.some 58), (.mv (.tmp 4)), .none, []⟩, ⟨(.some 59), (.pu (.n (.ar .shl)) [(.tmp 57), (.tmp 58)]), .none, []⟩, ⟨(.some 60), (.pu (.n (.ar .or)) [(.tmp 54), (.tmp 59)]), .none, []⟩, ⟨(.some 3), (.mv (.tmp 60)), .none, []⟩]) (.seq (.seq (.ops [⟨(.some 61), (.mv (.tmp 5)), .none, []⟩, ⟨(.some 62), (.pu (.n (.ar .lss)) [(.tmp 61), (.const (.int .u8 128))]), .none, []⟩]) (.cond (.tmp 62) (.seq (.seq (.ops [⟨(.some 63), (.mv (.tmp 5)), .none, []⟩, ⟨(.some 64), (.pu (.n (.ar .eql)) [(.tmp 63), (.const (.int .u8 0))]), .none, []⟩, ⟨(.some 65), (.mv (.tmp 64)), .none, []⟩, ⟨(.some 66), (.mv (.tmp 4)), (.some (65, true)), []⟩, ⟨(.some 67), (.pu (.n (.ar .gtr)) [(.tmp 66), (.const (.int .u64 0))]), (.some (65, true)), []⟩, ⟨(.some 68), (.pick (.tmp 65) (.tmp 67) (.const (.bool false))), .none, []⟩]) (.cond (.tmp 68) (.seq (.ops [⟨(.some 69), (.mv (.tmp 0)), .none, []⟩, ⟨(.some 70), (.nilChk (.tmp 69)), .none, []⟩, ⟨(.some 71), (.fieldA 2 (.tmp 70)), .none, []⟩, ⟨.none, (.storeV [(0, false)] 1 (.tmp 71) (.const (.bool true))), .none, []⟩]) (.seq (.ops [⟨(.some 2), (.mv (.const (.int .i64 0))), .none, []⟩]) .ret)) .skip)) (.seq (.ops [⟨(.some 72), (.mv (.tmp 3)), .none, []⟩, ⟨(.some 73), (.pu (.n (.conv .i64)) [(.tmp 72)]), .none, []⟩, ⟨(.some 2), (.mv (.tmp 73)), .none, []⟩]) .ret)) .skip)) (.ops [⟨(.some 74), (.mv (.tmp 4)), .none, []⟩, ⟨(.some 75), (.pu (.n (.ar .add)) [(.tmp 74), (.const (.int .u64 7))]), .none, []⟩, ⟨(.some 4), (.mv (.tmp 75)), .none, []⟩]))))))))))) (.seq (.ops [⟨(.some 2), (.mv (.const (.int .i64 0))), .none, []⟩]) .ret)))), [(.tmp 2)]⟩
def i_impl_reader_num (pb0 : Nat) (h : Heap) (b : T2 Int TReader) (v : V) (h2 : Heap) : Prop := Keep [pb0] h h2 ∧ v = .i (.s (.int .i64 b.a)) ∧ getCells h2 pb0 3 = some [.i (.sl 1 (b.b.b.map enc)), .i (.s (.int .i64 b.b.at_)), .i (.s (.bool b.b.bad))]
def k_impl_reader_num (F : Fun) : Prop := ∀ (x0 : TReader) (b : T2 Int TReader), p_impl_reader_num x0 = some b → ∀ (pb0 : Nat) (h : Heap), getCells h pb0 3 = some [.i (.sl 1 (x0.b.map enc)), .i (.s (.int .i64 x0.at_)), .i (.s (.bool x0.bad))] → ∃ p, F none [.ptr pb0 3 0] h = some p ∧ i_impl_reader_num pb0 h b p.1 p.2
set_option maxHeartbeats 10000000 in
theorem w_impl_reader_num {P : Program} {env : Env}  (x0 : TReader) {b : T2 Int TReader} (hp : p_impl_reader_num x0 = some b) (pb0 : Nat) (hh : Heap) (pf0 : getCells hh pb0 3 = some [.i (.sl 1 (x0.b.map enc)), .i (.s (.int .i64 x0.at_)), .i (.s (.bool x0.bad))]) : R P env (c_impl_reader_num) [.ptr pb0 3 0] hh (i_impl_reader_num pb0 hh b) := by
  have pl0 := gc_lt pf0
  refine R_of (by simp [c_impl_reader_num, encA]) ?_
  unfold c_impl_reader_num
  unfold p_impl_reader_num at hp
  obtain ⟨ee0, hee0, hp⟩ := bind_eq hp
  simp (disch := first | omega | (simp only [List.length_set, List.length_append, List.length_cons, List.length_nil, rows_len, zs]; first | done | omega)) only [pf0, gs, reduceIte, reduceCtorEq, Nat.reduceAdd, Nat.reduceMul, Nat.reduceSub, Nat.reduceBEq, Nat.reduceEqDiff, Nat.reduceLeDiff, Nat.reduceLT, Nat.reduceGT, Int.reduceToNat, Int.reduceLT, Int.reduceLE, Int.reduceNeg, Int.reduceAdd, Int.reduceEq, Int.reduceNe]
  refine W_loopP 0 (fun s t h => match s with | (s0, s1, s2) => t 0 = .ptr pb0 3 0 ∧ t 3 = .i (.s (.int .u64 s1)) ∧ t 4 = .i (.s (.int .u64 s2)) ∧ getCells h pb0 3 = some [.i (.sl 1 (x0.b.map enc)), .i (.s (.int .i64 s0)), .i (.s (.bool x0.bad))] ∧ pb0 < h.length ∧ Keep [pb0] hh h) (RK [.tmp 2] (i_impl_reader_num pb0 hh)) ?_ hee0 ?_ ?_
  · rintro ⟨s0, s1, s2⟩ ee tt0 hh0 ⟨ftt0_0, ftt0_1, ftt0_2, ftt0_3, ftt0_4, ftt0_5⟩ hp
    rw [p_impl_reader_num_l0] at hp
    by_cases hb3 : (x0.bad) = true
    · rw [if_t hb3] at hp
      have hp := Option.some.inj hp
      subst hp
      simp (disch := first | omega | (simp only [List.length_set, List.length_append, List.length_cons, List.length_nil, rows_len, zs]; first | done | omega)) only [i_impl_reader_num, pf0, ftt0_0, ftt0_1, ftt0_2, ftt0_3, ftt0_4, ftt0_5, hb3, gs, reduceIte, reduceCtorEq, Nat.reduceAdd, Nat.reduceMul, Nat.reduceSub, Nat.reduceBEq, Nat.reduceEqDiff, Nat.reduceLeDiff, Nat.reduceLT, Nat.reduceGT, Int.reduceToNat, Int.reduceLT, Int.reduceLE, Int.reduceNeg, Int.reduceAdd, Int.reduceEq, Int.reduceNe] <;> (repeat (first | omega | assumption | rfl | exact keep_refl | refine keep_app ?_ | (refine keep_set (by first | (left; simp; done) | (right; simp; omega)) ?_) | refine And.intro ?_ ?_))
    · replace hb3 := eq_false_of_ne_true hb3
      rw [if_f hb3] at hp
      by_cases hb4 : (decide ((x0.b.length : Int) ≤ s0)) = true
      · rw [if_t hb4] at hp
        have hp := Option.some.inj hp
        subst hp
        simp (disch := first | omega | (simp only [List.length_set, List.length_append, List.length_cons, List.length_nil, rows_len, zs]; first | done | omega)) only [i_impl_reader_num, pf0, ftt0_0, ftt0_1, ftt0_2, ftt0_3, ftt0_4, ftt0_5, hb3, hb4, gs, reduceIte, reduceCtorEq, Nat.reduceAdd, Nat.reduceMul, Nat.reduceSub, Nat.reduceBEq, Nat.reduceEqDiff, Nat.reduceLeDiff, Nat.reduceLT, Nat.reduceGT, Int.reduceToNat, Int.reduceLT, Int.reduceLE, Int.reduceNeg, Int.reduceAdd, Int.reduceEq, Int.reduceNe] <;> (repeat (first | omega | assumption | rfl | exact keep_refl | refine keep_app ?_ | (refine keep_set (by first | (left; simp; done) | (right; simp; omega)) ?_) | refine And.intro ?_ ?_))
      · replace hb4 := eq_false_of_ne_true hb4
        rw [if_f hb4] at hp
        by_cases hb5 : (decide (56 < s2)) = true
        · rw [if_t hb5] at hp
          have hp := Option.some.inj hp
          subst hp
          simp (disch := first | omega | (simp only [List.length_set, List.length_append, List.length_cons, List.length_nil, rows_len, zs]; first | done | omega)) only [i_impl_reader_num, pf0, ftt0_0, ftt0_1, ftt0_2, ftt0_3, ftt0_4, ftt0_5, hb3, hb4, hb5, gs, reduceIte, reduceCtorEq, Nat.reduceAdd, Nat.reduceMul, Nat.reduceSub, Nat.reduceBEq, Nat.reduceEqDiff, Nat.reduceLeDiff, Nat.reduceLT, Nat.reduceGT, Int.reduceToNat, Int.reduceLT, Int.reduceLE, Int.reduceNeg, Int.reduceAdd, Int.reduceEq, Int.reduceNe] <;> (repeat (first | omega | assumption | rfl | exact keep_refl | refine keep_app ?_ | (refine keep_set (by first | (left; simp; done) | (right; simp; omega)) ?_) | refine And.intro ?_ ?_))
        · replace hb5 := eq_false_of_ne_true hb5
          rw [if_f hb5] at hp
          obtain ⟨v6, hv6, hp⟩ := bind_eq hp
          by_cases hb7 : (decide (s2 = 56)) = true
          · rw [if_t hb7] at hp
            by_cases hb8 : (decide (63 < v6.v)) = true
            · rw [if_t hb8] at hp
              have hp := Option.some.inj hp
              subst hp
              simp (disch := first | omega | (simp only [List.length_set, List.length_append, List.length_cons, List.length_nil, rows_len, zs]; first | done | omega)) only [i_impl_reader_num, pf0, ftt0_0, ftt0_1, ftt0_2, ftt0_3, ftt0_4, ftt0_5, hb3, hb4, hb5, hv6, hb7, hb8, gs, reduceIte, reduceCtorEq, Nat.reduceAdd, Nat.reduceMul, Nat.reduceSub, Nat.reduceBEq, Nat.reduceEqDiff, Nat.reduceLeDiff, Nat.reduceLT, Nat.reduceGT, Int.reduceToNat, Int.reduceLT, Int.reduceLE, Int.reduceNeg, Int.reduceAdd, Int.reduceEq, Int.reduceNe] <;> (repeat (first | omega | assumption | rfl | exact keep_refl | refine keep_app ?_ | (refine keep_set (by first | (left; simp; done) | (right; simp; omega)) ?_) | refine And.intro ?_ ?_))
            · replace hb8 := eq_false_of_ne_true hb8
              rw [if_f hb8] at hp
              obtain ⟨v9, hv9, hp⟩ := bind_eq hp
              by_cases hb10 : (decide (v6.v < 128)) = true
              · rw [if_t hb10] at hp
                by_cases hb11 : (decide (v6.v = 0)) = true
                · rw [if_t hb11] at hp
                  by_cases hb12 : (decide (0 < s2)) = true
                  · rw [if_t hb12] at hp
                    have hp := Option.some.inj hp
                    subst hp
                    simp (disch := first | omega | (simp only [List.length_set, List.length_append, List.length_cons, List.length_nil, rows_len, zs]; first | done | omega)) only [i_impl_reader_num, pf0, ftt0_0, ftt0_1, ftt0_2, ftt0_3, ftt0_4, ftt0_5, hb3, hb4, hb5, hv6, hb7, hb8, hv9, hb10, hb11, hb12, gs, reduceIte, reduceCtorEq, Nat.reduceAdd, Nat.reduceMul, Nat.reduceSub, Nat.reduceBEq, Nat.reduceEqDiff, Nat.reduceLeDiff, Nat.reduceLT, Nat.reduceGT, Int.reduceToNat, Int.reduceLT, Int.reduceLE, Int.reduceNeg, Int.reduceAdd, Int.reduceEq, Int.reduceNe] <;> (repeat (first | omega | assumption | rfl | exact keep_refl | refine keep_app ?_ | (refine keep_set (by first | (left; simp; done) | (right; simp; omega)) ?_) | refine And.intro ?_ ?_))
                  · replace hb12 := eq_false_of_ne_true hb12
                    rw [if_f hb12] at hp
                    have hp := Option.some.inj hp
                    subst hp
                    simp (disch := first | omega | (simp only [List.length_set, List.length_append, List.length_cons, List.length_nil, rows_len, zs]; first | done | omega)) only [i_impl_reader_num, pf0, ftt0_0, ftt0_1, ftt0_2, ftt0_3, ftt0_4, ftt0_5, hb3, hb4, hb5, hv6, hb7, hb8, hv9, hb10, hb11, hb12, gs, reduceIte, reduceCtorEq, Nat.reduceAdd, Nat.reduceMul, Nat.reduceSub, Nat.reduceBEq, Nat.reduceEqDiff, Nat.reduceLeDiff, Nat.reduceLT, Nat.reduceGT, Int.reduceToNat, Int.reduceLT, Int.reduceLE, Int.reduceNeg, Int.reduceAdd, Int.reduceEq, Int.reduceNe] <;> (repeat (first | omega | assumption | rfl | exact keep_refl | refine keep_app ?_ | (refine keep_set (by first | (left; simp; done) | (right; simp; omega)) ?_) | refine And.intro ?_ ?_))
                · replace hb11 := eq_false_of_ne_true hb11
                  rw [if_f hb11] at hp
                  have hp := Option.some.inj hp
                  subst hp
                  simp (disch := first | omega | (simp only [List.length_set, List.length_append, List.length_cons, List.length_nil, rows_len, zs]; first | done | omega)) only [i_impl_reader_num, pf0, ftt0_0, ftt0_1, ftt0_2, ftt0_3, ftt0_4, ftt0_5, hb3, hb4, hb5, hv6, hb7, hb8, hv9, hb10, hb11, gs, reduceIte, reduceCtorEq, Nat.reduceAdd, Nat.reduceMul, Nat.reduceSub, Nat.reduceBEq, Nat.reduceEqDiff, Nat.reduceLeDiff, Nat.reduceLT, Nat.reduceGT, Int.reduceToNat, Int.reduceLT, Int.reduceLE, Int.reduceNeg, Int.reduceAdd, Int.reduceEq, Int.reduceNe] <;> (repeat (first | omega | assumption | rfl | exact keep_refl | refine keep_app ?_ | (refine keep_set (by first | (left; simp; done) | (right; simp; omega)) ?_) | refine And.intro ?_ ?_))
              · replace hb10 := eq_false_of_ne_true hb10
                rw [if_f hb10] at hp
                have hp := Option.some.inj hp
                subst hp
                simp (disch := first | omega | (simp only [List.length_set, List.length_append, List.length_cons, List.length_nil, rows_len, zs]; first | done | omega)) only [i_impl_reader_num, pf0, ftt0_0, ftt0_1, ftt0_2, ftt0_3, ftt0_4, ftt0_5, hb3, hb4, hb5, hv6, hb7, hb8, hv9, hb10, gs, reduceIte, reduceCtorEq, Nat.reduceAdd, Nat.reduceMul, Nat.reduceSub, Nat.reduceBEq, Nat.reduceEqDiff, Nat.reduceLeDiff, Nat.reduceLT, Nat.reduceGT, Int.reduceToNat, Int.reduceLT, Int.reduceLE, Int.reduceNeg, Int.reduceAdd, Int.reduceEq, Int.reduceNe] <;> (repeat (first | omega | assumption | rfl | exact keep_refl | refine keep_app ?_ | (refine keep_set (by first | (left; simp; done) | (right; simp; omega)) ?_) | refine And.intro ?_ ?_))
          · replace hb7 := eq_false_of_ne_true hb7
            rw [if_f hb7] at hp
            obtain ⟨v13, hv13, hp⟩ := bind_eq hp
            by_cases hb14 : (decide (v6.v < 128)) = true
            · rw [if_t hb14] at hp
              by_cases hb15 : (decide (v6.v = 0)) = true
              · rw [if_t hb15] at hp
                by_cases hb16 : (decide (0 < s2)) = true
                · rw [if_t hb16] at hp
                  have hp := Option.some.inj hp
                  subst hp
                  simp (disch := first | omega | (simp only [List.length_set, List.length_append, List.length_cons, List.length_nil, rows_len, zs]; first | done | omega)) only [i_impl_reader_num, pf0, ftt0_0, ftt0_1, ftt0_2, ftt0_3, ftt0_4, ftt0_5, hb3, hb4, hb5, hv6, hb7, hv13, hb14, hb15, hb16, gs, reduceIte, reduceCtorEq, Nat.reduceAdd, Nat.reduceMul, Nat.reduceSub, Nat.reduceBEq, Nat.reduceEqDiff, Nat.reduceLeDiff, Nat.reduceLT, Nat.reduceGT, Int.reduceToNat, Int.reduceLT, Int.reduceLE, Int.reduceNeg, Int.reduceAdd, Int.reduceEq, Int.reduceNe] <;> (repeat (first | omega | assumption | rfl | exact keep_refl | refine keep_app ?_ | (refine keep_set (by first | (left; simp; done) | (right; simp; omega)) ?_) | refine And.intro ?_ ?_))
                · replace hb16 := eq_false_of_ne_true hb16
                  rw [if_f hb16] at hp
                  have hp := Option.some.inj hp
                  subst hp
                  simp (disch := first | omega | (simp only [List.length_set, List.length_append, List.length_cons, List.length_nil, rows_len, zs]; first | done | omega)) only [i_impl_reader_num, pf0, ftt0_0, ftt0_1, ftt0_2, ftt0_3, ftt0_4, ftt0_5, hb3, hb4, hb5, hv6, hb7, hv13, hb14, hb15, hb16, gs, reduceIte, reduceCtorEq, Nat.reduceAdd, Nat.reduceMul, Nat.reduceSub, Nat.reduceBEq, Nat.reduceEqDiff, Nat.reduceLeDiff, Nat.reduceLT, Nat.reduceGT, Int.reduceToNat, Int.reduceLT, Int.reduceLE, Int.reduceNeg, Int.reduceAdd, Int.reduceEq, Int.reduceNe] <;> (repeat (first | omega | assumption | rfl | exact keep_refl | refine keep_app ?_ | (refine keep_set (by first | (left; simp; done) | (right; simp; omega)) ?_) | refine And.intro ?_ ?_))
              · replace hb15 := eq_false_of_ne_true hb15
                rw [if_f hb15] at hp
                have hp := Option.some.inj hp
                subst hp
                simp (disch := first | omega | (simp only [List.length_set, List.length_append, List.length_cons, List.length_nil, rows_len, zs]; first | done | omega)) only [i_impl_reader_num, pf0, ftt0_0, ftt0_1, ftt0_2, ftt0_3, ftt0_4, ftt0_5, hb3, hb4, hb5, hv6, hb7, hv13, hb14, hb15, gs, reduceIte, reduceCtorEq, Nat.reduceAdd, Nat.reduceMul, Nat.reduceSub, Nat.reduceBEq, Nat.reduceEqDiff, Nat.reduceLeDiff, Nat.reduceLT, Nat.reduceGT, Int.reduceToNat, Int.reduceLT, Int.reduceLE, Int.reduceNeg, Int.reduceAdd, Int.reduceEq, Int.reduceNe] <;> (repeat (first | omega | assumption | rfl | exact keep_refl | refine keep_app ?_ | (refine keep_set (by first | (left; simp; done) | (right; simp; omega)) ?_) | refine And.intro ?_ ?_))
            · replace hb14 := eq_false_of_ne_true hb14
              rw [if_f hb14] at hp
              have hp := Option.some.inj hp
              subst hp
              simp (disch := first | omega | (simp only [List.length_set, List.length_append, List.length_cons, List.length_nil, rows_len, zs]; first | done | omega)) only [i_impl_reader_num, pf0, ftt0_0, ftt0_1, ftt0_2, ftt0_3, ftt0_4, ftt0_5, hb3, hb4, hb5, hv6, hb7, hv13, hb14, gs, reduceIte, reduceCtorEq, Nat.reduceAdd, Nat.reduceMul, Nat.reduceSub, Nat.reduceBEq, Nat.reduceEqDiff, Nat.reduceLeDiff, Nat.reduceLT, Nat.reduceGT, Int.reduceToNat, Int.reduceLT, Int.reduceLE, Int.reduceNeg, Int.reduceAdd, Int.reduceEq, Int.reduceNe] <;> (repeat (first | omega | assumption | rfl | exact keep_refl | refine keep_app ?_ | (refine keep_set (by first | (left; simp; done) | (right; simp; omega)) ?_) | refine And.intro ?_ ?_))
  · simp (disch := first | omega | (simp only [List.length_set, List.length_append, List.length_cons, List.length_nil, rows_len, zs]; first | done | omega)) only [i_impl_reader_num, pf0, gs, reduceIte, reduceCtorEq, Nat.reduceAdd, Nat.reduceMul, Nat.reduceSub, Nat.reduceBEq, Nat.reduceEqDiff, Nat.reduceLeDiff, Nat.reduceLT, Nat.reduceGT, Int.reduceToNat, Int.reduceLT, Int.reduceLE, Int.reduceNeg, Int.reduceAdd, Int.reduceEq, Int.reduceNe] <;> (repeat (first | omega | assumption | rfl | exact keep_refl | refine keep_app ?_ | (refine keep_set (by first | (left; simp; done) | (right; simp; omega)) ?_) | refine And.intro ?_ ?_))
  · intro x tt1 hh1 hx
    rcases ee0 with ⟨o17, o18, o19⟩ | r
    · obtain ⟨rfl, ftt1_0, ftt1_1, ftt1_2, ftt1_3, ftt1_4, ftt1_5⟩ := hx
      dsimp only at hp
      have hp := Option.some.inj hp
      subst hp
      simp (disch := first | omega | (simp only [List.length_set, List.length_append, List.length_cons, List.length_nil, rows_len, zs]; first | done | omega)) only [i_impl_reader_num, pf0, ftt1_0, ftt1_1, ftt1_2, ftt1_3, ftt1_4, ftt1_5, gs, reduceIte, reduceCtorEq, Nat.reduceAdd, Nat.reduceMul, Nat.reduceSub, Nat.reduceBEq, Nat.reduceEqDiff, Nat.reduceLeDiff, Nat.reduceLT, Nat.reduceGT, Int.reduceToNat, Int.reduceLT, Int.reduceLE, Int.reduceNeg, Int.reduceAdd, Int.reduceEq, Int.reduceNe] <;> (repeat (first | omega | assumption | rfl | exact keep_refl | refine keep_app ?_ | (refine keep_set (by first | (left; simp; done) | (right; simp; omega)) ?_) | refine And.intro ?_ ?_))
    · obtain ⟨rfl, hx⟩ := hx
      dsimp only at hp
      cases hp
      simp only [seqK_ret, blockK_ret, retK_RK (K := i_impl_reader_num pb0 hh), hx, and_self, true_and]
theorem ko_impl_reader_num {P : Program} {env : Env}  : k_impl_reader_num (runIn P env (c_impl_reader_num)) := by
  intro x0 b hp pb0 h a0
  exact w_impl_reader_num x0 hp pb0 h a0

noncomputable def p_impl_ReadVec_l0 (x0 : List U8) : List Int × List U8 × Int × Bool × Int × Int → Option (Lp (List Int × List U8 × Int × Bool × Int × Int) (T2 TVec Int))
  | (s2, s3, s4, s5, s6, s7) =>
    if (decide (s4 < (x0.length : Int))) = true then
      (p_impl_reader_num (TReader.mk s3 s4 s5)).bind fun v9 =>
      if (v9.b.bad) = true then
        some (.ret ⟨(TVec.mk ([])), 3⟩)
      else
        if (decide (16 ≤ s7)) = true then
          some (.ret ⟨(TVec.mk ([])), 3⟩)
        else
          if (decide (1000000000000 < v9.a)) = true then
            some (.ret ⟨(TVec.mk ([])), 3⟩)
          else
            (get? s2 s7).bind fun v13 =>
            some (.go ((s2.set s7.toNat v9.a), v9.b.b, v9.b.at_, v9.b.bad, v9.a, w64 (s7 + 1)))
    else
      some (.out (s2, s3, s4, s5, s6, s7))
noncomputable def p_impl_ReadVec (x0 : List U8) : Option (T2 TVec Int) :=
  if (decide (1048576 < (x0.length : Int))) = true then
    some ⟨(TVec.mk ([])), 2⟩
  else
    ((mkL 16 8 16 0 : Option (List Int))).bind fun v1 =>
    (loopP (p_impl_ReadVec_l0 x0) (v1, x0, 0, false, 1, 0)).bind fun ee0 => match ee0 with
    | .ret r => some r
    | .out (o15, o16, o17, o18, o19, o20) =>
      if (decide (o19 = 0)) = true then
        some ⟨(TVec.mk ([])), 3⟩
      else
        some ⟨(TVec.mk o15), 0⟩
def c_impl_ReadVec (f_impl_reader_num : Nat) : AFn := ⟨45, (.seq (.ops [⟨(.some 2), (.allocV [(1, false)] [(.slice .none 0 0)]), .none, []⟩, ⟨(.some 3), (.mv (.const (.int .i64 0))), .none, []⟩]) (.seq (.seq (.ops [⟨(.some 9), (.mv (.tmp 0)), .none, []⟩, ⟨(.some 10), (.len (.tmp 9)), .none, []⟩, ⟨(.some 11), (.pu (.n (.ar .gtr)) [(.tmp 10), (.const (.int .i64 1048576))]), .none, []⟩]) (.cond (.tmp 11) (.seq (.ops [⟨(.some 12), (.build [(.slice .none 0 0)] []), .none, []⟩, ⟨.none, (.storeV [(1, false)] 1 (.tmp 2) (.tmp 12)), .none, []⟩, ⟨(.some 3), (.mv (.const (.int .i64 2))), .none, []⟩]) .ret) .skip)) (.seq (.ops [⟨(.some 13), (.mv (.tmp 0)), .none, []⟩, ⟨(.some 14), (.build [(.slice .none 0 0), (.int .i64 0), (.bool false)] [(0, (1, (.tmp 13)))]), .none, []⟩, ⟨(.some 4), (.allocV [(1, false), (0, false), (0, false)] [(.slice .none 0 0), (.int .i64 0), (.bool false)]), .none, []⟩, ⟨.none, (.storeV [(1, false), (0, false), (0, false)] 3 (.tmp 4) (.tmp 14)), .none, []⟩]) (.seq (.ops [⟨(.some 15), (.makeSl 1 false 8 [(.int .i64 0)] (.const (.int .i64 16)) (.const (.int .i64 16))), .none, []⟩, ⟨(.some 5), (.mv (.tmp 15)), .none, []⟩]) (.seq (.ops [⟨(.some 6), (.mv (.const (.int .i64 1))), .none, []⟩]) (.seq (.seq (.ops [⟨(.some 7), (.mv (.const (.int .i64 0))), .none, []⟩]) (.block 0 (.loop (.seq (.seq (.ops [⟨(.some 16), (.fieldA 1 (.tmp 4)), .none, []⟩, ⟨(.some 17), (.load 1 false (.tmp 16)), .none, []⟩, ⟨(.some 18), (.mv (.tmp 0)), .none, []⟩, ⟨(.some 19), (.len (.tmp 18)), .none, []⟩, ⟨(.some 20), (.pu (.n (.ar .lss)) [(.tmp 17), (.tmp 19)]), .none, []⟩]) (.cond (.tmp 20) .skip (.exit 0))) (.seq (.block 1 (.seq (.ops [⟨(.some 23), (.call (2 * f_impl_reader_num + 1) [(.tmp 4)]), .none, []⟩, ⟨(.some 8), (.mv (.tmp 23)), .none, []⟩]) (.seq (.seq (.ops [⟨(.some 24), (.fieldA 2 (.tmp 4)), .none, []⟩, ⟨(.some 25), (.load 1 false (.tmp 24)), .none, []⟩, ⟨(.some 26), (.mv (.tmp 25)), .none, []⟩, ⟨(.some 27), (.mv (.tmp 7)), (.some (26, false)), []⟩, ⟨(.some 28), (.pu (.n (.ar .geq)) [(.tmp 27), (.const (.int .i64 16))]), (.some (26, false)), []⟩, ⟨(.some 29), (.pick (.tmp 26) (.const (.bool true)) (.tmp 28)), .none, []⟩, ⟨(.some 30), (.mv (.tmp 29)), .none, []⟩, ⟨(.some 31), (.mv (.tmp 8)), (.some (30, false)), []⟩, ⟨(.some 32), (.pu (.n (.ar .gtr)) [(.tmp 31), (.const (.int .i64 1000000000000))]), (.some (30, false)), []⟩, ⟨(.some 33), (.pick (.tmp 30) (.const (.bool true)) (.tmp 32)), .none, []⟩]) (.cond (.tmp 33) (.seq (.ops [⟨(.some 34), (.build [(.slice .none 0 0)] []), .none, []⟩, ⟨.none, (.storeV [(1, false)] 1 (.tmp 2) (.tmp 34)), .none, []⟩, ⟨(.some 3), (.mv (.const (.int .i64 3))), .none, []⟩]) .ret) .skip)) (.seq (.ops [⟨(.some 35), (.mv (.tmp 5)), .none, []⟩, ⟨(.some 36), (.mv (.tmp 7)), .none, []⟩, ⟨(.some 37), (.mv (.tmp 8)), .none, []⟩, ⟨(.some 38), (.idxS 1 (.tmp 35) (.tmp 36)), .none, []⟩, ⟨.none, (.storeV [(0, false)] 1 (.tmp 38) (.tmp 37)), .none, []⟩]) (.ops [⟨(.some 39), (.mv (.tmp 8)), .none, []⟩, ⟨(.some 6), (.mv (.tmp 39)), .none, []⟩]))))) (.ops [⟨(.some 21), (.mv (.tmp 7)), .none, []⟩, ⟨(.some 22), (.pu (.n (.ar .add)) [(.tmp 21), (.const (.int .i64 1))]), .none, []⟩, ⟨(.some 7), (.mv (.tmp 22)), .none, []⟩])))))) (.seq (.seq (.ops [⟨(.some 40), (.mv (.tmp 6)), .none, []⟩, ⟨(.some 41), (.pu (.n (.ar .eql)) [(.tmp 40), (.const (.int .i64 0))]), .none, []⟩]) (.cond (.tmp 41) (.seq (.ops [⟨(.some 42), (.build [(.slice .none 0 0)] []), .none, []⟩, ⟨.none, (.storeV [(1, false)] 1 (.tmp 2) (.tmp 42)), .none, []⟩, ⟨(.some 3), (.mv (.const (.int .i64 3))), .none, []⟩]) .ret) .skip)) (.seq (.ops [⟨(.some 43), (.mv (.tmp 5)), .none, []⟩, ⟨(.some 44), (.build [(.slice .none 0 0)] [(0, (1, (.tmp 43)))]), .none, []⟩, ⟨.none, (.storeV [(1, false)] 1 (.tmp 2) (.tmp 44)), .none, []⟩, ⟨(.some 3), (.mv (.const (.int .i64 0))), .none, []⟩]) .ret)))))))), [(.cell 2 1 true), (.tmp 3)]⟩
def o_impl_ReadVec (b : T2 TVec Int) (v : V) (h : Heap) : Prop := ∃ n0 : Nat, v = .tup [.agg [.hsl n0 b.a.counts.length 0 1 false b.a.counts.length], .i (.s (.int .i64 b.b))] ∧ getCells h n0 b.a.counts.length = some (rows b.a.counts)
def oo_impl_ReadVec (b : T2 TVec Int) (h : Heap) (v : V) (h2 : Heap) : Prop := Keep [] h h2 ∧ ∃ n0 : Nat, v = .tup [.agg [.hsl n0 b.a.counts.length 0 1 false b.a.counts.length], .i (.s (.int .i64 b.b))] ∧ n0 < h2.length ∧ h.length ≤ n0 ∧ getCells h2 n0 b.a.counts.length = some (rows b.a.counts)
def k_impl_ReadVec (F : Fun) : Prop := ∀ (x0 : List U8) (b : T2 TVec Int), p_impl_ReadVec x0 = some b → ∀ (h : Heap) (args : List V), snapA 9 false h args = some (encA (x0)) → ∃ p, F none args h = some p ∧ oo_impl_ReadVec b h p.1 p.2
set_option maxHeartbeats 10000000 in
theorem w_impl_ReadVec {P : Program} {env : Env} {f_impl_reader_num : Nat}  (e_impl_reader_num : k_impl_reader_num (env (2 * f_impl_reader_num + 1))) (x0 : List U8) {b : T2 TVec Int} (hp : p_impl_ReadVec x0 = some b) : R P env (c_impl_ReadVec f_impl_reader_num) ((encA (x0)).map ofI) [] (o_impl_ReadVec b) := by
  refine R_of (by simp [c_impl_ReadVec, encA]) ?_
  unfold c_impl_ReadVec
  unfold p_impl_ReadVec at hp
  by_cases hb0 : (decide (1048576 < (x0.length : Int))) = true
  · rw [if_t hb0] at hp
    have hp := Option.some.inj hp
    subst hp
    simp (disch := first | omega | (simp only [List.length_set, List.length_append, List.length_cons, List.length_nil, rows_len, zs]; first | done | omega)) only [hb0, gs, reduceIte, reduceCtorEq, Nat.reduceAdd, Nat.reduceMul, Nat.reduceSub, Nat.reduceBEq, Nat.reduceEqDiff, Nat.reduceLeDiff, Nat.reduceLT, Nat.reduceGT, Int.reduceToNat, Int.reduceLT, Int.reduceLE, Int.reduceNeg, Int.reduceAdd, Int.reduceEq, Int.reduceNe]
    refine ⟨2, ?_⟩
    simp (disch := first | omega | (simp only [List.length_set, List.length_append, List.length_cons, List.length_nil, rows_len, zs]; first | done | omega)) only [hb0, o_impl_ReadVec, gs, reduceIte, reduceCtorEq, Nat.reduceAdd, Nat.reduceMul, Nat.reduceSub, Nat.reduceBEq, Nat.reduceEqDiff, Nat.reduceLeDiff, Nat.reduceLT, Nat.reduceGT, Int.reduceToNat, Int.reduceLT, Int.reduceLE, Int.reduceNeg, Int.reduceAdd, Int.reduceEq, Int.reduceNe] <;> omega
  · replace hb0 := eq_false_of_ne_true hb0
    rw [if_f hb0] at hp
    obtain ⟨v1, hv1, hp⟩ := bind_eq hp
    obtain ⟨kv1, qv1, lv1⟩ := mkL_some hv1
    have rv1 : [.i (.s (.int .i64 0)), .i (.s (.int .i64 0)), .i (.s (.int .i64 0)), .i (.s (.int .i64 0)), .i (.s (.int .i64 0)), .i (.s (.int .i64 0)), .i (.s (.int .i64 0)), .i (.s (.int .i64 0)), .i (.s (.int .i64 0)), .i (.s (.int .i64 0)), .i (.s (.int .i64 0)), .i (.s (.int .i64 0)), .i (.s (.int .i64 0)), .i (.s (.int .i64 0)), .i (.s (.int .i64 0)), .i (.s (.int .i64 0))] = rows v1 := by rw [qv1]; rfl
    have mv1 : 16 = v1.length := by rw [lv1]; simp
    obtain ⟨ee0, hee0, hp⟩ := bind_eq hp
    simp (disch := first | omega | (simp only [List.length_set, List.length_append, List.length_cons, List.length_nil, rows_len, zs]; first | done | omega)) only [hb0, hv1, rv1, kv1.1, kv1.2.1, kv1.2.2.1, kv1.2.2.2, gs, reduceIte, reduceCtorEq, Nat.reduceAdd, Nat.reduceMul, Nat.reduceSub, Nat.reduceBEq, Nat.reduceEqDiff, Nat.reduceLeDiff, Nat.reduceLT, Nat.reduceGT, Int.reduceToNat, Int.reduceLT, Int.reduceLE, Int.reduceNeg, Int.reduceAdd, Int.reduceEq, Int.reduceNe]
    refine W_loopP 0 (fun s t h => match s with | (s2, s3, s4, s5, s6, s7) => t 0 = .i (.sl 1 (x0.map enc)) ∧ t 2 = .ptr 1 1 0 ∧ t 4 = .ptr 3 3 0 ∧ t 5 = .hsl 4 16 0 1 false 16 ∧ t 6 = .i (.s (.int .i64 s6)) ∧ t 7 = .i (.s (.int .i64 s7)) ∧ getCells h 0 0 = some (rows ([] : List Int)) ∧ 0 < h.length ∧ getCells h 1 1 = some [.hsl 0 0 0 1 false 0] ∧ 1 < h.length ∧ getCells h 3 3 = some [.i (.sl 1 (s3.map enc)), .i (.s (.int .i64 s4)), .i (.s (.bool s5))] ∧ 3 < h.length ∧ getCells h 4 16 = some (rows (s2 : List Int)) ∧ 4 < h.length) (RK [.cell 2 1 true, .tmp 3] (o_impl_ReadVec)) ?_ hee0 ?_ ?_
    · rintro ⟨s2, s3, s4, s5, s6, s7⟩ ee tt0 hh0 ⟨ftt0_0, ftt0_1, ftt0_2, ftt0_3, ftt0_4, ftt0_5, ftt0_6, ftt0_7, ftt0_8, ftt0_9, ftt0_10, ftt0_11, ftt0_12, ftt0_13⟩ hp
      have ztt0_6 := len_rows ftt0_6
      simp only [zs] at ztt0_6
      have ztt0_12 := len_rows ftt0_12
      simp only [zs] at ztt0_12
      rw [p_impl_ReadVec_l0] at hp
      by_cases hb8 : (decide (s4 < (x0.length : Int))) = true
      · rw [if_t hb8] at hp
        obtain ⟨v9, hv9, hp⟩ := bind_eq hp
        simp (disch := first | omega | (simp only [List.length_set, List.length_append, List.length_cons, List.length_nil, rows_len, zs]; first | done | omega)) only [hb0, hv1, rv1, kv1.1, kv1.2.1, kv1.2.2.1, kv1.2.2.2, ftt0_0, ftt0_1, ftt0_2, ftt0_3, ftt0_4, ftt0_5, ftt0_6, ftt0_7, ftt0_8, ftt0_9, ftt0_10, ftt0_11, ftt0_12, ftt0_13, hb8, gs, reduceIte, reduceCtorEq, Nat.reduceAdd, Nat.reduceMul, Nat.reduceSub, Nat.reduceBEq, Nat.reduceEqDiff, Nat.reduceLeDiff, Nat.reduceLT, Nat.reduceGT, Int.reduceToNat, Int.reduceLT, Int.reduceLE, Int.reduceNeg, Int.reduceAdd, Int.reduceEq, Int.reduceNe]
        refine call_f (fun h => getCells h 0 0 = some [] ∧ 0 < h.length ∧ getCells h 1 1 = some [.hsl 0 0 0 1 false 0] ∧ 1 < h.length ∧ getCells h 3 3 = some [.i (.sl 1 (s3.map enc)), .i (.s (.int .i64 s4)), .i (.s (.bool s5))] ∧ 3 < h.length ∧ getCells h 4 16 = some (rows (s2 : List Int)) ∧ 4 < h.length) (fun h v h2 => i_impl_reader_num 3 h v9 v h2) ?_ ?_ ?_
        · simp (disch := first | omega | (simp only [List.length_set, List.length_append, List.length_cons, List.length_nil, rows_len, zs]; first | done | omega)) only [hb0, hv1, rv1, kv1.1, kv1.2.1, kv1.2.2.1, kv1.2.2.2, ftt0_0, ftt0_1, ftt0_2, ftt0_3, ftt0_4, ftt0_5, ftt0_6, ftt0_7, ftt0_8, ftt0_9, ftt0_10, ftt0_11, ftt0_12, ftt0_13, hb8, hv9, gs, reduceIte, reduceCtorEq, Nat.reduceAdd, Nat.reduceMul, Nat.reduceSub, Nat.reduceBEq, Nat.reduceEqDiff, Nat.reduceLeDiff, Nat.reduceLT, Nat.reduceGT, Int.reduceToNat, Int.reduceLT, Int.reduceLE, Int.reduceNeg, Int.reduceAdd, Int.reduceEq, Int.reduceNe] <;> omega
        · rintro h ⟨c1_0, c1_1, c1_2, c1_3, c1_4, c1_5, c1_6, c1_7⟩
          exact e_impl_reader_num _ _ hv9 3  h c1_4
        · rintro h v hh1 ⟨c1_0, c1_1, c1_2, c1_3, c1_4, c1_5, c1_6, c1_7⟩ hpost
          obtain ⟨kk1, rfl, w1_0⟩ := hpost
          have d1_0 : getCells hh1 0 0 = some [] := (keep_get kk1 c1_1 (by first | (simp; done) | (simp; omega))).trans c1_0
          have d1_0l := keep_lt kk1 c1_1
          have d1_1 : getCells hh1 1 1 = some [.hsl 0 0 0 1 false 0] := (keep_get kk1 c1_3 (by first | (simp; done) | (simp; omega))).trans c1_2
          have d1_1l := keep_lt kk1 c1_3
          have d1_2 : getCells hh1 3 3 = some [.i (.sl 1 (v9.b.b.map enc)), .i (.s (.int .i64 v9.b.at_)), .i (.s (.bool v9.b.bad))] := w1_0
          have d1_2l := keep_lt kk1 c1_5
          have d1_3 : getCells hh1 4 16 = some (rows (s2 : List Int)) := (keep_get kk1 c1_7 (by first | (simp; done) | (simp; omega))).trans c1_6
          have d1_3l := keep_lt kk1 c1_7
          by_cases hb10 : (v9.b.bad) = true
          · rw [if_t hb10] at hp
            have hp := Option.some.inj hp
            subst hp
            simp (disch := first | omega | (simp only [List.length_set, List.length_append, List.length_cons, List.length_nil, rows_len, zs]; first | done | omega)) only [hb0, hv1, rv1, kv1.1, kv1.2.1, kv1.2.2.1, kv1.2.2.2, ftt0_0, ftt0_1, ftt0_2, ftt0_3, ftt0_4, ftt0_5, ftt0_6, ftt0_7, ftt0_8, ftt0_9, ftt0_10, ftt0_11, ftt0_12, ftt0_13, hb8, hv9, d1_0, d1_1, d1_2, d1_3, hb10, gs, reduceIte, reduceCtorEq, Nat.reduceAdd, Nat.reduceMul, Nat.reduceSub, Nat.reduceBEq, Nat.reduceEqDiff, Nat.reduceLeDiff, Nat.reduceLT, Nat.reduceGT, Int.reduceToNat, Int.reduceLT, Int.reduceLE, Int.reduceNeg, Int.reduceAdd, Int.reduceEq, Int.reduceNe]
            refine ⟨hh1.length, ?_⟩
            simp (disch := first | omega | (simp only [List.length_set, List.length_append, List.length_cons, List.length_nil, rows_len, zs]; first | done | omega)) only [hb0, hv1, rv1, kv1.1, kv1.2.1, kv1.2.2.1, kv1.2.2.2, ftt0_0, ftt0_1, ftt0_2, ftt0_3, ftt0_4, ftt0_5, ftt0_6, ftt0_7, ftt0_8, ftt0_9, ftt0_10, ftt0_11, ftt0_12, ftt0_13, hb8, hv9, d1_0, d1_1, d1_2, d1_3, hb10, o_impl_ReadVec, gs, reduceIte, reduceCtorEq, Nat.reduceAdd, Nat.reduceMul, Nat.reduceSub, Nat.reduceBEq, Nat.reduceEqDiff, Nat.reduceLeDiff, Nat.reduceLT, Nat.reduceGT, Int.reduceToNat, Int.reduceLT, Int.reduceLE, Int.reduceNeg, Int.reduceAdd, Int.reduceEq, Int.reduceNe] <;> omega
          · replace hb10 := eq_false_of_ne_true hb10
            rw [if_f hb10] at hp
            by_cases hb11 : (decide (16 ≤ s7)) = true
            · rw [if_t hb11] at hp
              have hp := Option.some.inj hp
              subst hp
              simp (disch := first | omega | (simp only [List.length_set, List.length_append, List.length_cons, List.length_nil, rows_len, zs]; first | done | omega)) only [hb0, hv1, rv1, kv1.1, kv1.2.1, kv1.2.2.1, kv1.2.2.2, ftt0_0, ftt0_1, ftt0_2, ftt0_3, ftt0_4, ftt0_5, ftt0_6, ftt0_7, ftt0_8, ftt0_9, ftt0_10, ftt0_11, ftt0_12, ftt0_13, hb8, hv9, d1_0, d1_1, d1_2, d1_3, hb10, hb11, gs, reduceIte, reduceCtorEq, Nat.reduceAdd, Nat.reduceMul, Nat.reduceSub, Nat.reduceBEq, Nat.reduceEqDiff, Nat.reduceLeDiff, Nat.reduceLT, Nat.reduceGT, Int.reduceToNat, Int.reduceLT, Int.reduceLE, Int.reduceNeg, Int.reduceAdd, Int.reduceEq, Int.reduceNe]
              refine ⟨hh1.length, ?_⟩
              simp (disch := first | omega | (simp only [List.length_set, List.length_append, List.length_cons, List.length_nil, rows_len, zs]; first | done | omega)) only [hb0, hv1, rv1, kv1.1, kv1.2.1, kv1.2.2.1, kv1.2.2.2, ftt0_0, ftt0_1, ftt0_2, ftt0_3, ftt0_4, ftt0_5, ftt0_6, ftt0_7, ftt0_8, ftt0_9, ftt0_10, ftt0_11, ftt0_12, ftt0_13, hb8, hv9, d1_0, d1_1, d1_2, d1_3, hb10, hb11, o_impl_ReadVec, gs, reduceIte, reduceCtorEq, Nat.reduceAdd, Nat.reduceMul, Nat.reduceSub, Nat.reduceBEq, Nat.reduceEqDiff, Nat.reduceLeDiff, Nat.reduceLT, Nat.reduceGT, Int.reduceToNat, Int.reduceLT, Int.reduceLE, Int.reduceNeg, Int.reduceAdd, Int.reduceEq, Int.reduceNe] <;> omega
            · replace hb11 := eq_false_of_ne_true hb11
              rw [if_f hb11] at hp
              by_cases hb12 : (decide (1000000000000 < v9.a)) = true
              · rw [if_t hb12] at hp
                have hp := Option.some.inj hp
                subst hp
                simp (disch := first | omega | (simp only [List.length_set, List.length_append, List.length_cons, List.length_nil, rows_len, zs]; first | done | omega)) only [hb0, hv1, rv1, kv1.1, kv1.2.1, kv1.2.2.1, kv1.2.2.2, ftt0_0, ftt0_1, ftt0_2, ftt0_3, ftt0_4, ftt0_5, ftt0_6, ftt0_7, ftt0_8, ftt0_9, ftt0_10, ftt0_11, ftt0_12, ftt0_13, hb8, hv9, d1_0, d1_1, d1_2, d1_3, hb10, hb11, hb12, gs, reduceIte, reduceCtorEq, Nat.reduceAdd, Nat.reduceMul, Nat.reduceSub, Nat.reduceBEq, Nat.reduceEqDiff, Nat.reduceLeDiff, Nat.reduceLT, Nat.reduceGT, Int.reduceToNat, Int.reduceLT, Int.reduceLE, Int.reduceNeg, Int.reduceAdd, Int.reduceEq, Int.reduceNe]
                refine ⟨hh1.length, ?_⟩
                simp (disch := first | omega | (simp only [List.length_set, List.length_append, List.length_cons, List.length_nil, rows_len, zs]; first | done | omega)) only [hb0, hv1, rv1, kv1.1, kv1.2.1, kv1.2.2.1, kv1.2.2.2, ftt0_0, ftt0_1, ftt0_2, ftt0_3, ftt0_4, ftt0_5, ftt0_6, ftt0_7, ftt0_8, ftt0_9, ftt0_10, ftt0_11, ftt0_12, ftt0_13, hb8, hv9, d1_0, d1_1, d1_2, d1_3, hb10, hb11, hb12, o_impl_ReadVec, gs, reduceIte, reduceCtorEq, Nat.reduceAdd, Nat.reduceMul, Nat.reduceSub, Nat.reduceBEq, Nat.reduceEqDiff, Nat.reduceLeDiff, Nat.reduceLT, Nat.reduceGT, Int.reduceToNat, Int.reduceLT, Int.reduceLE, Int.reduceNeg, Int.reduceAdd, Int.reduceEq, Int.reduceNe] <;> omega
              · replace hb12 := eq_false_of_ne_true hb12
                rw [if_f hb12] at hp
                obtain ⟨v13, hv13, hp⟩ := bind_eq hp
                have gv13 := get_some hv13
                have hs14 : List.take s7.toNat (rows s2) ++ .i (.s (.int .i64 v9.a)) :: List.drop (s7.toNat + 1) (rows s2) = rows (s2.set s7.toNat v9.a) := by simpa [splice, zs, cellsV, I.cells, enc_int] using rows_set_off (y := v9.a) (ys := [.i (.s (.int .i64 v9.a))]) (k := 0) gv13.2.2 (Nat.le_of_ble_eq_true rfl) (by rfl)
                have hp := Option.some.inj hp
                subst hp
                simp (disch := first | omega | (simp only [List.length_set, List.length_append, List.length_cons, List.length_nil, rows_len, zs]; first | done | omega)) only [hb0, hv1, rv1, kv1.1, kv1.2.1, kv1.2.2.1, kv1.2.2.2, ftt0_0, ftt0_1, ftt0_2, ftt0_3, ftt0_4, ftt0_5, ftt0_6, ftt0_7, ftt0_8, ftt0_9, ftt0_10, ftt0_11, ftt0_12, ftt0_13, hb8, hv9, d1_0, d1_1, d1_2, d1_3, hb10, hb11, hb12, hv13, (gv13).1, (gv13).2.1, hs14, gs, reduceIte, reduceCtorEq, Nat.reduceAdd, Nat.reduceMul, Nat.reduceSub, Nat.reduceBEq, Nat.reduceEqDiff, Nat.reduceLeDiff, Nat.reduceLT, Nat.reduceGT, Int.reduceToNat, Int.reduceLT, Int.reduceLE, Int.reduceNeg, Int.reduceAdd, Int.reduceEq, Int.reduceNe] <;> omega
      · replace hb8 := eq_false_of_ne_true hb8
        rw [if_f hb8] at hp
        have hp := Option.some.inj hp
        subst hp
        simp (disch := first | omega | (simp only [List.length_set, List.length_append, List.length_cons, List.length_nil, rows_len, zs]; first | done | omega)) only [hb0, hv1, rv1, kv1.1, kv1.2.1, kv1.2.2.1, kv1.2.2.2, ftt0_0, ftt0_1, ftt0_2, ftt0_3, ftt0_4, ftt0_5, ftt0_6, ftt0_7, ftt0_8, ftt0_9, ftt0_10, ftt0_11, ftt0_12, ftt0_13, hb8, gs, reduceIte, reduceCtorEq, Nat.reduceAdd, Nat.reduceMul, Nat.reduceSub, Nat.reduceBEq, Nat.reduceEqDiff, Nat.reduceLeDiff, Nat.reduceLT, Nat.reduceGT, Int.reduceToNat, Int.reduceLT, Int.reduceLE, Int.reduceNeg, Int.reduceAdd, Int.reduceEq, Int.reduceNe] <;> omega
    · simp (disch := first | omega | (simp only [List.length_set, List.length_append, List.length_cons, List.length_nil, rows_len, zs]; first | done | omega)) only [hb0, hv1, rv1, kv1.1, kv1.2.1, kv1.2.2.1, kv1.2.2.2, gs, reduceIte, reduceCtorEq, Nat.reduceAdd, Nat.reduceMul, Nat.reduceSub, Nat.reduceBEq, Nat.reduceEqDiff, Nat.reduceLeDiff, Nat.reduceLT, Nat.reduceGT, Int.reduceToNat, Int.reduceLT, Int.reduceLE, Int.reduceNeg, Int.reduceAdd, Int.reduceEq, Int.reduceNe] <;> omega
    · intro x tt2 hh2 hx
      rcases ee0 with ⟨o15, o16, o17, o18, o19, o20⟩ | r
      · obtain ⟨rfl, ftt2_0, ftt2_1, ftt2_2, ftt2_3, ftt2_4, ftt2_5, ftt2_6, ftt2_7, ftt2_8, ftt2_9, ftt2_10, ftt2_11, ftt2_12, ftt2_13⟩ := hx
        have ztt2_6 := len_rows ftt2_6
        simp only [zs] at ztt2_6
        have ztt2_12 := len_rows ftt2_12
        simp only [zs] at ztt2_12
        dsimp only at hp
        by_cases hb21 : (decide (o19 = 0)) = true
        · rw [if_t hb21] at hp
          have hp := Option.some.inj hp
          subst hp
          simp (disch := first | omega | (simp only [List.length_set, List.length_append, List.length_cons, List.length_nil, rows_len, zs]; first | done | omega)) only [hb0, hv1, rv1, kv1.1, kv1.2.1, kv1.2.2.1, kv1.2.2.2, ftt2_0, ftt2_1, ftt2_2, ftt2_3, ftt2_4, ftt2_5, ftt2_6, ftt2_7, ftt2_8, ftt2_9, ftt2_10, ftt2_11, ftt2_12, ftt2_13, hb21, gs, reduceIte, reduceCtorEq, Nat.reduceAdd, Nat.reduceMul, Nat.reduceSub, Nat.reduceBEq, Nat.reduceEqDiff, Nat.reduceLeDiff, Nat.reduceLT, Nat.reduceGT, Int.reduceToNat, Int.reduceLT, Int.reduceLE, Int.reduceNeg, Int.reduceAdd, Int.reduceEq, Int.reduceNe]
          refine ⟨hh2.length, ?_⟩
          simp (disch := first | omega | (simp only [List.length_set, List.length_append, List.length_cons, List.length_nil, rows_len, zs]; first | done | omega)) only [hb0, hv1, rv1, kv1.1, kv1.2.1, kv1.2.2.1, kv1.2.2.2, ftt2_0, ftt2_1, ftt2_2, ftt2_3, ftt2_4, ftt2_5, ftt2_6, ftt2_7, ftt2_8, ftt2_9, ftt2_10, ftt2_11, ftt2_12, ftt2_13, hb21, o_impl_ReadVec, gs, reduceIte, reduceCtorEq, Nat.reduceAdd, Nat.reduceMul, Nat.reduceSub, Nat.reduceBEq, Nat.reduceEqDiff, Nat.reduceLeDiff, Nat.reduceLT, Nat.reduceGT, Int.reduceToNat, Int.reduceLT, Int.reduceLE, Int.reduceNeg, Int.reduceAdd, Int.reduceEq, Int.reduceNe] <;> omega
        · replace hb21 := eq_false_of_ne_true hb21
          rw [if_f hb21] at hp
          have hp := Option.some.inj hp
          subst hp
          simp (disch := first | omega | (simp only [List.length_set, List.length_append, List.length_cons, List.length_nil, rows_len, zs]; first | done | omega)) only [hb0, hv1, rv1, kv1.1, kv1.2.1, kv1.2.2.1, kv1.2.2.2, ftt2_0, ftt2_1, ftt2_2, ftt2_3, ftt2_4, ftt2_5, ftt2_6, ftt2_7, ftt2_8, ftt2_9, ftt2_10, ftt2_11, ftt2_12, ftt2_13, hb21, gs, reduceIte, reduceCtorEq, Nat.reduceAdd, Nat.reduceMul, Nat.reduceSub, Nat.reduceBEq, Nat.reduceEqDiff, Nat.reduceLeDiff, Nat.reduceLT, Nat.reduceGT, Int.reduceToNat, Int.reduceLT, Int.reduceLE, Int.reduceNeg, Int.reduceAdd, Int.reduceEq, Int.reduceNe]
          refine ⟨4, ?_⟩
          simp (disch := first | omega | (simp only [List.length_set, List.length_append, List.length_cons, List.length_nil, rows_len, zs]; first | done | omega)) only [hb0, hv1, rv1, kv1.1, kv1.2.1, kv1.2.2.1, kv1.2.2.2, ftt2_0, ftt2_1, ftt2_2, ftt2_3, ftt2_4, ftt2_5, ftt2_6, ftt2_7, ftt2_8, ftt2_9, ftt2_10, ftt2_11, ftt2_12, ftt2_13, hb21, o_impl_ReadVec, (show (o15).length = 16 from by first | omega | rfl), gs, reduceIte, reduceCtorEq, Nat.reduceAdd, Nat.reduceMul, Nat.reduceSub, Nat.reduceBEq, Nat.reduceEqDiff, Nat.reduceLeDiff, Nat.reduceLT, Nat.reduceGT, Int.reduceToNat, Int.reduceLT, Int.reduceLE, Int.reduceNeg, Int.reduceAdd, Int.reduceEq, Int.reduceNe] <;> omega
      · obtain ⟨rfl, hx⟩ := hx
        dsimp only at hp
        cases hp
        simp only [seqK_ret, blockK_ret, retK_RK (K := o_impl_ReadVec), hx, and_self, true_and]
theorem ko_impl_ReadVec {P : Program} {env : Env} {f_impl_reader_num : Nat}  (e_impl_reader_num : k_impl_reader_num (env (2 * f_impl_reader_num + 1))) : k_impl_ReadVec (ownFn P env (c_impl_ReadVec f_impl_reader_num)) := by
  intro x0 b hp h args has
  obtain ⟨⟨v, H2⟩, hr, n0, rfl, wn0⟩ := w_impl_ReadVec e_impl_reader_num x0 hp
  exact ⟨_, own_call has hr rfl, keep_moved, n0 + h.length, rfl, (moved_lt wn0).2, (moved_lt wn0).1, moved_rows wn0⟩

noncomputable def p_laws_eqIntS_l0 (x0 : List Int) (x1 : List Int) : Int → Option (Lp (Int) Bool)
  | s1 =>
    if (decide (s1 < (x0.length : Int))) = true then
      (get? x0 s1).bind fun v3 =>
      (get? x1 s1).bind fun v4 =>
      if (decide (v3 = v4)) = true then
        some (.go (w64 (s1 + 1)))
      else
        some (.ret false)
    else
      some (.out s1)
noncomputable def p_laws_eqIntS (x0 : List Int) (x1 : List Int) : Option Bool :=
  if (decide ((x0.length : Int) = (x1.length : Int))) = true then
    (loopP (p_laws_eqIntS_l0 x0 x1) 0).bind fun ee0 => match ee0 with
    | .ret r => some r
    | .out o6 =>
      some true
  else
    some false
def c_laws_eqIntS : AFn := ⟨26, (.seq (.ops [⟨(.some 4), (.mv (.const (.bool false))), .none, []⟩]) (.seq (.seq (.ops [⟨(.some 6), (.mv (.tmp 0)), .none, []⟩, ⟨(.some 7), (.len (.tmp 6)), .none, []⟩, ⟨(.some 8), (.mv (.tmp 1)), .none, []⟩, ⟨(.some 9), (.len (.tmp 8)), .none, []⟩, ⟨(.some 10), (.pu (.n (.ar .neq)) [(.tmp 7), (.tmp 9)]), .none, []⟩]) (.cond (.tmp 10) (.seq (.ops [⟨(.some 4), (.mv (.const (.bool false))), .none, []⟩]) .ret) .skip)) (.seq (.seq (.ops [⟨(.some 5), (.mv (.const (.int .i64 0))), .none, []⟩]) (.block 0 (.loop (.seq (.seq (.ops [⟨(.some 11), (.mv (.tmp 5)), .none, []⟩, ⟨(.some 12), (.mv (.tmp 0)), .none, []⟩, ⟨(.some 13), (.len (.tmp 12)), .none, []⟩, ⟨(.some 14), (.pu (.n (.ar .lss)) [(.tmp 11), (.tmp 13)]), .none, []⟩]) (.cond (.tmp 14) .skip (.exit 0))) (.seq (.block 1 (.seq (.ops [⟨(.some 17), (.mv (.tmp 0)), .none, []⟩, ⟨(.some 18), (.mv (.tmp 5)), .none, []⟩, ⟨(.some 19), (.idxS 1 (.tmp 17) (.tmp 18)), .none, []⟩, ⟨(.some 20), (.load 1 false (.tmp 19)), .none, []⟩, ⟨(.some 21), (.mv (.tmp 1)), .none, []⟩, ⟨(.some 22), (.mv (.tmp 5)), .none, []⟩, ⟨(.some 23), (.idxS 1 (.tmp 21) (.tmp 22)), .none, []⟩, ⟨(.some 24), (.load 1 false (.tmp 23)), .none, []⟩, ⟨(.some 25), (.pu (.n (.ar .neq)) [(.tmp 20), (.tmp 24)]), .none, []⟩]) (.cond (.tmp 25) (.seq (.ops [⟨(.some 4), (.mv (.const (.bool false))), .none, []⟩]) .ret) .skip))) (.ops [⟨(.some 15), (.mv (.tmp 5)), .none, []⟩, ⟨(.some 16), (.pu (.n (.ar .add)) [(.tmp 15), (.const (.int .i64 1))]), .none, []⟩, ⟨(.some 5), (.mv (.tmp 16)), .none, []⟩])))))) (.seq (.ops [⟨(.some 4), (.mv (.const (.bool true))), .none, []⟩]) .ret)))), [(.tmp 4)]⟩
set_option maxHeartbeats 10000000 in
theorem d_laws_eqIntS {P : Program} {env : Env}  (x0 : List Int) (x1 : List Int) {b : Bool} (hp : p_laws_eqIntS x0 x1 = some b) : R P env (c_laws_eqIntS) ((encA (x0, x1)).map ofI) [] (Tells true b) := by
  refine R_of (by simp [c_laws_eqIntS, encA]) ?_
  unfold c_laws_eqIntS
  unfold p_laws_eqIntS at hp
  by_cases hb0 : (decide ((x0.length : Int) = (x1.length : Int))) = true
  · rw [if_t hb0] at hp
    obtain ⟨ee0, hee0, hp⟩ := bind_eq hp
    simp (disch := first | omega | (simp only [List.length_set, List.length_append, List.length_cons, List.length_nil, rows_len, zs]; first | done | omega)) only [hb0, gs, reduceIte, reduceCtorEq, Nat.reduceAdd, Nat.reduceMul, Nat.reduceSub, Nat.reduceBEq, Nat.reduceEqDiff, Nat.reduceLeDiff, Nat.reduceLT, Nat.reduceGT, Int.reduceToNat, Int.reduceLT, Int.reduceLE, Int.reduceNeg, Int.reduceAdd, Int.reduceEq, Int.reduceNe]
    refine W_loopP 0 (fun s t h => match s with | s1 => t 0 = .i (.sl 1 (x0.map enc)) ∧ t 1 = .i (.sl 1 (x1.map enc)) ∧ t 5 = .i (.s (.int .i64 s1))) (RK [.tmp 4] (Tells true)) ?_ hee0 ?_ ?_
    · rintro s1 ee tt0 hh0 ⟨ftt0_0, ftt0_1, ftt0_2⟩ hp
      rw [p_laws_eqIntS_l0] at hp
      by_cases hb2 : (decide (s1 < (x0.length : Int))) = true
      · rw [if_t hb2] at hp
        obtain ⟨v3, hv3, hp⟩ := bind_eq hp
        obtain ⟨v4, hv4, hp⟩ := bind_eq hp
        by_cases hb5 : (decide (v3 = v4)) = true
        · rw [if_t hb5] at hp
          have hp := Option.some.inj hp
          subst hp
          simp (disch := first | omega | (simp only [List.length_set, List.length_append, List.length_cons, List.length_nil, rows_len, zs]; first | done | omega)) only [hb0, ftt0_0, ftt0_1, ftt0_2, hb2, hv3, hv4, hb5, gs, reduceIte, reduceCtorEq, Nat.reduceAdd, Nat.reduceMul, Nat.reduceSub, Nat.reduceBEq, Nat.reduceEqDiff, Nat.reduceLeDiff, Nat.reduceLT, Nat.reduceGT, Int.reduceToNat, Int.reduceLT, Int.reduceLE, Int.reduceNeg, Int.reduceAdd, Int.reduceEq, Int.reduceNe] <;> omega
        · replace hb5 := eq_false_of_ne_true hb5
          rw [if_f hb5] at hp
          have hp := Option.some.inj hp
          subst hp
          simp (disch := first | omega | (simp only [List.length_set, List.length_append, List.length_cons, List.length_nil, rows_len, zs]; first | done | omega)) only [hb0, ftt0_0, ftt0_1, ftt0_2, hb2, hv3, hv4, hb5, gs, reduceIte, reduceCtorEq, Nat.reduceAdd, Nat.reduceMul, Nat.reduceSub, Nat.reduceBEq, Nat.reduceEqDiff, Nat.reduceLeDiff, Nat.reduceLT, Nat.reduceGT, Int.reduceToNat, Int.reduceLT, Int.reduceLE, Int.reduceNeg, Int.reduceAdd, Int.reduceEq, Int.reduceNe]
      · replace hb2 := eq_false_of_ne_true hb2
        rw [if_f hb2] at hp
        have hp := Option.some.inj hp
        subst hp
        simp (disch := first | omega | (simp only [List.length_set, List.length_append, List.length_cons, List.length_nil, rows_len, zs]; first | done | omega)) only [hb0, ftt0_0, ftt0_1, ftt0_2, hb2, gs, reduceIte, reduceCtorEq, Nat.reduceAdd, Nat.reduceMul, Nat.reduceSub, Nat.reduceBEq, Nat.reduceEqDiff, Nat.reduceLeDiff, Nat.reduceLT, Nat.reduceGT, Int.reduceToNat, Int.reduceLT, Int.reduceLE, Int.reduceNeg, Int.reduceAdd, Int.reduceEq, Int.reduceNe] <;> omega
    · simp (disch := first | omega | (simp only [List.length_set, List.length_append, List.length_cons, List.length_nil, rows_len, zs]; first | done | omega)) only [hb0, gs, reduceIte, reduceCtorEq, Nat.reduceAdd, Nat.reduceMul, Nat.reduceSub, Nat.reduceBEq, Nat.reduceEqDiff, Nat.reduceLeDiff, Nat.reduceLT, Nat.reduceGT, Int.reduceToNat, Int.reduceLT, Int.reduceLE, Int.reduceNeg, Int.reduceAdd, Int.reduceEq, Int.reduceNe] <;> omega
    · intro x tt1 hh1 hx
      rcases ee0 with o6 | r
      · obtain ⟨rfl, ftt1_0, ftt1_1, ftt1_2⟩ := hx
        dsimp only at hp
        have hp := Option.some.inj hp
        subst hp
        simp (disch := first | omega | (simp only [List.length_set, List.length_append, List.length_cons, List.length_nil, rows_len, zs]; first | done | omega)) only [hb0, ftt1_0, ftt1_1, ftt1_2, gs, reduceIte, reduceCtorEq, Nat.reduceAdd, Nat.reduceMul, Nat.reduceSub, Nat.reduceBEq, Nat.reduceEqDiff, Nat.reduceLeDiff, Nat.reduceLT, Nat.reduceGT, Int.reduceToNat, Int.reduceLT, Int.reduceLE, Int.reduceNeg, Int.reduceAdd, Int.reduceEq, Int.reduceNe]
      · obtain ⟨rfl, hx⟩ := hx
        dsimp only at hp
        cases hp
        simp only [seqK_ret, blockK_ret, retK_RK (K := Tells true), hx, and_self, true_and]
  · replace hb0 := eq_false_of_ne_true hb0
    rw [if_f hb0] at hp
    have hp := Option.some.inj hp
    subst hp
    simp (disch := first | omega | (simp only [List.length_set, List.length_append, List.length_cons, List.length_nil, rows_len, zs]; first | done | omega)) only [hb0, gs, reduceIte, reduceCtorEq, Nat.reduceAdd, Nat.reduceMul, Nat.reduceSub, Nat.reduceBEq, Nat.reduceEqDiff, Nat.reduceLeDiff, Nat.reduceLT, Nat.reduceGT, Int.reduceToNat, Int.reduceLT, Int.reduceLE, Int.reduceNeg, Int.reduceAdd, Int.reduceEq, Int.reduceNe]

noncomputable def p_laws_eqVector (x0 : TVec) (x1 : TVec) : Option Bool :=
  (p_laws_eqIntS x0.counts x1.counts).bind fun v0 =>
  if (v0) = true then
    some true
  else
    some false
def c_laws_eqVector (f_laws_eqIntS : Nat) : AFn := ⟨11, (.seq (.ops [⟨(.some 2), (.box (.tmp 0)), .none, []⟩, ⟨(.some 3), (.box (.tmp 1)), .none, []⟩, ⟨(.some 4), (.mv (.const (.bool false))), .none, []⟩]) (.seq (.seq (.ops [⟨(.some 5), (.fieldA 0 (.tmp 2)), .none, []⟩, ⟨(.some 6), (.load 1 false (.tmp 5)), .none, []⟩, ⟨(.some 7), (.fieldA 0 (.tmp 3)), .none, []⟩, ⟨(.some 8), (.load 1 false (.tmp 7)), .none, []⟩, ⟨(.some 9), (.call (2 * f_laws_eqIntS) [(.tmp 6), (.tmp 8)]), .none, []⟩, ⟨(.some 10), (.pu (.n (.un .not)) [(.tmp 9)]), .none, []⟩]) (.cond (.tmp 10) (.seq (.ops [⟨(.some 4), (.mv (.const (.bool false))), .none, []⟩]) .ret) .skip)) (.seq (.ops [⟨(.some 4), (.mv (.const (.bool true))), .none, []⟩]) .ret))), [(.tmp 4)]⟩
set_option maxHeartbeats 10000000 in
theorem d_laws_eqVector {P : Program} {env : Env} {f_laws_eqIntS : Nat}  (ep_laws_eqIntS : env (2 * f_laws_eqIntS) = pureFn true (FA fun a : List Int × List Int => p_laws_eqIntS a.1 a.2)) (x0 : TVec) (x1 : TVec) {b : Bool} (hp : p_laws_eqVector x0 x1 = some b) : R P env (c_laws_eqVector f_laws_eqIntS) ((encA (x0, x1)).map ofI) [] (Tells true b) := by
  refine R_of (by simp [c_laws_eqVector, encA]) ?_
  unfold c_laws_eqVector
  unfold p_laws_eqVector at hp
  obtain ⟨v0, hv0, hp⟩ := bind_eq hp
  by_cases hb1 : (v0) = true
  · rw [if_t hb1] at hp
    have hp := Option.some.inj hp
    subst hp
    simp (disch := first | omega | (simp only [List.length_set, List.length_append, List.length_cons, List.length_nil, rows_len, zs]; first | done | omega)) only [ep_laws_eqIntS, hv0, hb1, gs, reduceIte, reduceCtorEq, Nat.reduceAdd, Nat.reduceMul, Nat.reduceSub, Nat.reduceBEq, Nat.reduceEqDiff, Nat.reduceLeDiff, Nat.reduceLT, Nat.reduceGT, Int.reduceToNat, Int.reduceLT, Int.reduceLE, Int.reduceNeg, Int.reduceAdd, Int.reduceEq, Int.reduceNe]
  · replace hb1 := eq_false_of_ne_true hb1
    rw [if_f hb1] at hp
    have hp := Option.some.inj hp
    subst hp
    simp (disch := first | omega | (simp only [List.length_set, List.length_append, List.length_cons, List.length_nil, rows_len, zs]; first | done | omega)) only [ep_laws_eqIntS, hv0, hb1, gs, reduceIte, reduceCtorEq, Nat.reduceAdd, Nat.reduceMul, Nat.reduceSub, Nat.reduceBEq, Nat.reduceEqDiff, Nat.reduceLeDiff, Nat.reduceLT, Nat.reduceGT, Int.reduceToNat, Int.reduceLT, Int.reduceLE, Int.reduceNeg, Int.reduceAdd, Int.reduceEq, Int.reduceNe]

noncomputable def p_laws_eqByteS_l0 (x0 : List U8) (x1 : List U8) : Int → Option (Lp (Int) Bool)
  | s1 =>
    if (decide (s1 < (x0.length : Int))) = true then
      (get? x0 s1).bind fun v3 =>
      (get? x1 s1).bind fun v4 =>
      if (decide (v3.v = v4.v)) = true then
        some (.go (w64 (s1 + 1)))
      else
        some (.ret false)
    else
      some (.out s1)
noncomputable def p_laws_eqByteS (x0 : List U8) (x1 : List U8) : Option Bool :=
  if (decide ((x0.length : Int) = (x1.length : Int))) = true then
    (loopP (p_laws_eqByteS_l0 x0 x1) 0).bind fun ee0 => match ee0 with
    | .ret r => some r
    | .out o6 =>
      some true
  else
    some false
def c_laws_eqByteS : AFn := ⟨26, (.seq (.ops [⟨(.some 4), (.mv (.const (.bool false))), .none, []⟩]) (.seq (.seq (.ops [⟨(.some 6), (.mv (.tmp 0)), .none, []⟩, ⟨(.some 7), (.len (.tmp 6)), .none, []⟩, ⟨(.some 8), (.mv (.tmp 1)), .none, []⟩, ⟨(.some 9), (.len (.tmp 8)), .none, []⟩, ⟨(.some 10), (.pu (.n (.ar .neq)) [(.tmp 7), (.tmp 9)]), .none, []⟩]) (.cond (.tmp 10) (.seq (.ops [⟨(.some 4), (.mv (.const (.bool false))), .none, []⟩]) .ret) .skip)) (.seq (.seq (.ops [⟨(.some 5), (.mv (.const (.int .i64 0))), .none, []⟩]) (.block 0 (.loop (.seq (.seq (.ops [⟨(.some 11), (.mv (.tmp 5)), .none, []⟩, ⟨(.some 12), (.mv (.tmp 0)), .none, []⟩, ⟨(.some 13), (.len (.tmp 12)), .none, []⟩, ⟨(.some 14), (.pu (.n (.ar .lss)) [(.tmp 11), (.tmp 13)]), .none, []⟩]) (.cond (.tmp 14) .skip (.exit 0))) (.seq (.block 1 (.seq (.ops [⟨(.some 17), (.mv (.tmp 0)), .none, []⟩, ⟨(.some 18), (.mv (.tmp 5)), .none, []⟩, ⟨(.some 19), (.idxS 1 (.tmp 17) (.tmp 18)), .none, []⟩, ⟨(.some 20), (.load 1 false (.tmp 19)), .none, []⟩, ⟨(.some 21), (.mv (.tmp 1)), .none, []⟩, ⟨(.some 22), (.mv (.tmp 5)), .none, []⟩, ⟨(.some 23), (.idxS 1 (.tmp 21) (.tmp 22)), .none, []⟩, ⟨(.some 24), (.load 1 false (.tmp 23)), .none, []⟩, ⟨(.some 25), (.pu (.n (.ar .neq)) [(.tmp 20), (.tmp 24)]), .none, []⟩]) (.cond (.tmp 25) (.seq (.ops [⟨(.some 4), (.mv (.const (.bool false))), .none, []⟩]) .ret) .skip))) (.ops [⟨(.some 15), (.mv (.tmp 5)), .none, []⟩, ⟨(.some 16), (.pu (.n (.ar .add)) [(.tmp 15), (.const (.int .i64 1))]), .none, []⟩, ⟨(.some 5), (.mv (.tmp 16)), .none, []⟩])))))) (.seq (.ops [⟨(.some 4), (.mv (.const (.bool true))), .none, []⟩]) .ret)))), [(.tmp 4)]⟩
set_option maxHeartbeats 10000000 in
theorem d_laws_eqByteS {P : Program} {env : Env}  (x0 : List U8) (x1 : List U8) {b : Bool} (hp : p_laws_eqByteS x0 x1 = some b) : R P env (c_laws_eqByteS) ((encA (x0, x1)).map ofI) [] (Tells true b) := by
  refine R_of (by simp [c_laws_eqByteS, encA]) ?_
  unfold c_laws_eqByteS
  unfold p_laws_eqByteS at hp
  by_cases hb0 : (decide ((x0.length : Int) = (x1.length : Int))) = true
  · rw [if_t hb0] at hp
    obtain ⟨ee0, hee0, hp⟩ := bind_eq hp
    simp (disch := first | omega | (simp only [List.length_set, List.length_append, List.length_cons, List.length_nil, rows_len, zs]; first | done | omega)) only [hb0, gs, reduceIte, reduceCtorEq, Nat.reduceAdd, Nat.reduceMul, Nat.reduceSub, Nat.reduceBEq, Nat.reduceEqDiff, Nat.reduceLeDiff, Nat.reduceLT, Nat.reduceGT, Int.reduceToNat, Int.reduceLT, Int.reduceLE, Int.reduceNeg, Int.reduceAdd, Int.reduceEq, Int.reduceNe]
    refine W_loopP 0 (fun s t h => match s with | s1 => t 0 = .i (.sl 1 (x0.map enc)) ∧ t 1 = .i (.sl 1 (x1.map enc)) ∧ t 5 = .i (.s (.int .i64 s1))) (RK [.tmp 4] (Tells true)) ?_ hee0 ?_ ?_
    · rintro s1 ee tt0 hh0 ⟨ftt0_0, ftt0_1, ftt0_2⟩ hp
      rw [p_laws_eqByteS_l0] at hp
      by_cases hb2 : (decide (s1 < (x0.length : Int))) = true
      · rw [if_t hb2] at hp
        obtain ⟨v3, hv3, hp⟩ := bind_eq hp
        obtain ⟨v4, hv4, hp⟩ := bind_eq hp
        by_cases hb5 : (decide (v3.v = v4.v)) = true
        · rw [if_t hb5] at hp
          have hp := Option.some.inj hp
          subst hp
          simp (disch := first | omega | (simp only [List.length_set, List.length_append, List.length_cons, List.length_nil, rows_len, zs]; first | done | omega)) only [hb0, ftt0_0, ftt0_1, ftt0_2, hb2, hv3, hv4, hb5, gs, reduceIte, reduceCtorEq, Nat.reduceAdd, Nat.reduceMul, Nat.reduceSub, Nat.reduceBEq, Nat.reduceEqDiff, Nat.reduceLeDiff, Nat.reduceLT, Nat.reduceGT, Int.reduceToNat, Int.reduceLT, Int.reduceLE, Int.reduceNeg, Int.reduceAdd, Int.reduceEq, Int.reduceNe] <;> omega
        · replace hb5 := eq_false_of_ne_true hb5
          rw [if_f hb5] at hp
          have hp := Option.some.inj hp
          subst hp
          simp (disch := first | omega | (simp only [List.length_set, List.length_append, List.length_cons, List.length_nil, rows_len, zs]; first | done | omega)) only [hb0, ftt0_0, ftt0_1, ftt0_2, hb2, hv3, hv4, hb5, gs, reduceIte, reduceCtorEq, Nat.reduceAdd, Nat.reduceMul, Nat.reduceSub, Nat.reduceBEq, Nat.reduceEqDiff, Nat.reduceLeDiff, Nat.reduceLT, Nat.reduceGT, Int.reduceToNat, Int.reduceLT, Int.reduceLE, Int.reduceNeg, Int.reduceAdd, Int.reduceEq, Int.reduceNe]
      · replace hb2 := eq_false_of_ne_true hb2
        rw [if_f hb2] at hp
        have hp := Option.some.inj hp
        subst hp
        simp (disch := first | omega | (simp only [List.length_set, List.length_append, List.length_cons, List.length_nil, rows_len, zs]; first | done | omega)) only [hb0, ftt0_0, ftt0_1, ftt0_2, hb2, gs, reduceIte, reduceCtorEq, Nat.reduceAdd, Nat.reduceMul, Nat.reduceSub, Nat.reduceBEq, Nat.reduceEqDiff, Nat.reduceLeDiff, Nat.reduceLT, Nat.reduceGT, Int.reduceToNat, Int.reduceLT, Int.reduceLE, Int.reduceNeg, Int.reduceAdd, Int.reduceEq, Int.reduceNe] <;> omega
    · simp (disch := first | omega | (simp only [List.length_set, List.length_append, List.length_cons, List.length_nil, rows_len, zs]; first | done | omega)) only [hb0, gs, reduceIte, reduceCtorEq, Nat.reduceAdd, Nat.reduceMul, Nat.reduceSub, Nat.reduceBEq, Nat.reduceEqDiff, Nat.reduceLeDiff, Nat.reduceLT, Nat.reduceGT, Int.reduceToNat, Int.reduceLT, Int.reduceLE, Int.reduceNeg, Int.reduceAdd, Int.reduceEq, Int.reduceNe] <;> omega
    · intro x tt1 hh1 hx
      rcases ee0 with o6 | r
      · obtain ⟨rfl, ftt1_0, ftt1_1, ftt1_2⟩ := hx
        dsimp only at hp
        have hp := Option.some.inj hp
        subst hp
        simp (disch := first | omega | (simp only [List.length_set, List.length_append, List.length_cons, List.length_nil, rows_len, zs]; first | done | omega)) only [hb0, ftt1_0, ftt1_1, ftt1_2, gs, reduceIte, reduceCtorEq, Nat.reduceAdd, Nat.reduceMul, Nat.reduceSub, Nat.reduceBEq, Nat.reduceEqDiff, Nat.reduceLeDiff, Nat.reduceLT, Nat.reduceGT, Int.reduceToNat, Int.reduceLT, Int.reduceLE, Int.reduceNeg, Int.reduceAdd, Int.reduceEq, Int.reduceNe]
      · obtain ⟨rfl, hx⟩ := hx
        dsimp only at hp
        cases hp
        simp only [seqK_ret, blockK_ret, retK_RK (K := Tells true), hx, and_self, true_and]
  · replace hb0 := eq_false_of_ne_true hb0
    rw [if_f hb0] at hp
    have hp := Option.some.inj hp
    subst hp
    simp (disch := first | omega | (simp only [List.length_set, List.length_append, List.length_cons, List.length_nil, rows_len, zs]; first | done | omega)) only [hb0, gs, reduceIte, reduceCtorEq, Nat.reduceAdd, Nat.reduceMul, Nat.reduceSub, Nat.reduceBEq, Nat.reduceEqDiff, Nat.reduceLeDiff, Nat.reduceLT, Nat.reduceGT, Int.reduceToNat, Int.reduceLT, Int.reduceLE, Int.reduceNeg, Int.reduceAdd, Int.reduceEq, Int.reduceNe]

noncomputable def p_laws_markByteS_l0 : List U8 × Int × Int → Option (Lp (List U8 × Int × Int) (T2 Int (List U8)))
  | (s0, s1, s2) =>
    if (decide (s2 < (s0.length : Int))) = true then
      (get? s0 s2).bind fun v5 =>
      some (.go ((s0.set s2.toNat (U8.mk (IntKind.wrap .u8 s1))), w64 (s1 + 1), w64 (s2 + 1)))
    else
      some (.out (s0, s1, s2))
noncomputable def p_laws_markByteS (x0 : List U8) (x1 : Int) : Option (T2 Int (List U8)) :=
  (loopP (p_laws_markByteS_l0) (x0, x1, 0)).bind fun ee0 => match ee0 with
  | .ret r => some r
  | .out (o7, o8, o9) =>
    some ⟨o8, o7⟩
def c_laws_markByteS : AFn := ⟨20, (.seq (.ops [⟨(.some 4), (.mv (.const (.int .i64 0))), .none, []⟩]) (.seq (.seq (.ops [⟨(.some 5), (.mv (.const (.int .i64 0))), .none, []⟩]) (.block 0 (.loop (.seq (.seq (.ops [⟨(.some 6), (.mv (.tmp 5)), .none, []⟩, ⟨(.some 7), (.mv (.tmp 0)), .none, []⟩, ⟨(.some 8), (.len (.tmp 7)), .none, []⟩, ⟨(.some 9), (.pu (.n (.ar .lss)) [(.tmp 6), (.tmp 8)]), .none, []⟩]) (.cond (.tmp 9) .skip (.exit 0))) (.seq (.block 1 (.seq (.ops [⟨(.some 12), (.mv (.tmp 0)), .none, []⟩, ⟨(.some 13), (.mv (.tmp 5)), .none, []⟩, ⟨(.some 14), (.mv (.tmp 1)), .none, []⟩, ⟨(.some 15), (.pu (.n (.conv .u8)) [(.tmp 14)]), .none, []⟩, ⟨(.some 16), (.idxS 1 (.tmp 12) (.tmp 13)), .none, []⟩, ⟨.none, (.storeV [(0, false)] 1 (.tmp 16) (.tmp 15)), .none, []⟩]) (.ops [⟨(.some 17), (.mv (.tmp 1)), .none, []⟩, ⟨(.some 18), (.pu (.n (.ar .add)) [(.tmp 17), (.const (.int .i64 1))]), .none, []⟩, ⟨(.some 1), (.mv (.tmp 18)), .none, []⟩]))) (.ops [⟨(.some 10), (.mv (.tmp 5)), .none, []⟩, ⟨(.some 11), (.pu (.n (.ar .add)) [(.tmp 10), (.const (.int .i64 1))]), .none, []⟩, ⟨(.some 5), (.mv (.tmp 11)), .none, []⟩])))))) (.seq (.ops [⟨(.some 19), (.mv (.tmp 1)), .none, []⟩, ⟨(.some 4), (.mv (.tmp 19)), .none, []⟩]) .ret))), [(.tmp 4)]⟩
def i_laws_markByteS (pb0 pn0 : Nat) (h : Heap) (b : T2 Int (List U8)) (v : V) (h2 : Heap) : Prop := Keep [pb0] h h2 ∧ v = .i (.s (.int .i64 b.a)) ∧ getCells h2 pb0 pn0 = some (rows b.b)
def k_laws_markByteS (F : Fun) : Prop := ∀ (x0 : List U8) (x1 : Int) (b : T2 Int (List U8)), p_laws_markByteS x0 x1 = some b → ∀ (pb0 pn0 : Nat) (h : Heap), pn0 = (x0).length → getCells h pb0 pn0 = some (rows x0) → ∃ p, F none [.hsl pb0 pn0 0 1 false pn0, .i (.s (.int .i64 x1))] h = some p ∧ i_laws_markByteS pb0 pn0 h b p.1 p.2
set_option maxHeartbeats 10000000 in
theorem w_laws_markByteS {P : Program} {env : Env}  (x0 : List U8) (x1 : Int) {b : T2 Int (List U8)} (hp : p_laws_markByteS x0 x1 = some b) (pb0 pn0 : Nat) (hh : Heap) (pm0 : pn0 = (x0).length) (pf0 : getCells hh pb0 pn0 = some (rows x0)) : R P env (c_laws_markByteS) [.hsl pb0 pn0 0 1 false pn0, .i (.s (.int .i64 x1))] hh (i_laws_markByteS pb0 pn0 hh b) := by
  have pl0 := gc_lt pf0
  have pg0 : getCells hh pb0 x0.length = some (rows x0) := by rw [← pm0]; exact pf0
  refine R_of (by simp [c_laws_markByteS, encA]) ?_
  unfold c_laws_markByteS
  unfold p_laws_markByteS at hp
  obtain ⟨ee0, hee0, hp⟩ := bind_eq hp
  simp (disch := first | omega | (simp only [List.length_set, List.length_append, List.length_cons, List.length_nil, rows_len, zs]; first | done | omega)) only [pf0, pg0, gs, reduceIte, reduceCtorEq, Nat.reduceAdd, Nat.reduceMul, Nat.reduceSub, Nat.reduceBEq, Nat.reduceEqDiff, Nat.reduceLeDiff, Nat.reduceLT, Nat.reduceGT, Int.reduceToNat, Int.reduceLT, Int.reduceLE, Int.reduceNeg, Int.reduceAdd, Int.reduceEq, Int.reduceNe]
  refine W_loopP 0 (fun s t h => match s with | (s0, s1, s2) => t 0 = .hsl pb0 pn0 0 1 false pn0 ∧ t 1 = .i (.s (.int .i64 s1)) ∧ t 5 = .i (.s (.int .i64 s2)) ∧ getCells h pb0 pn0 = some (rows (s0 : List U8)) ∧ pb0 < h.length ∧ Keep [pb0] hh h) (RK [.tmp 4] (i_laws_markByteS pb0 pn0 hh)) ?_ hee0 ?_ ?_
  · rintro ⟨s0, s1, s2⟩ ee tt0 hh0 ⟨ftt0_0, ftt0_1, ftt0_2, ftt0_3, ftt0_4, ftt0_5⟩ hp
    have ztt0_3 := len_rows ftt0_3
    simp only [zs] at ztt0_3
    rw [p_laws_markByteS_l0] at hp
    have hz3 : ((pn0 : Nat) : Int) = (s0.length : Int) := by omega
    by_cases hb4 : (decide (s2 < (s0.length : Int))) = true
    · rw [if_t hb4] at hp
      obtain ⟨v5, hv5, hp⟩ := bind_eq hp
      have gv5 := get_some hv5
      have hs6 : List.take s2.toNat (rows s0) ++ .i (.s (.int .u8 (IntKind.wrap .u8 s1))) :: List.drop (s2.toNat + 1) (rows s0) = rows (s0.set s2.toNat (U8.mk (IntKind.wrap .u8 s1))) := by simpa [splice, zs, cellsV, I.cells, enc_u8] using rows_set_off (y := (U8.mk (IntKind.wrap .u8 s1))) (ys := [.i (.s (.int .u8 (IntKind.wrap .u8 s1)))]) (k := 0) gv5.2.2 (Nat.le_of_ble_eq_true rfl) (by rfl)
      have hp := Option.some.inj hp
      subst hp
      simp (disch := first | omega | (simp only [List.length_set, List.length_append, List.length_cons, List.length_nil, rows_len, zs]; first | done | omega)) only [i_laws_markByteS, pf0, pg0, ftt0_0, ftt0_1, ftt0_2, ftt0_3, ftt0_4, ftt0_5, hz3, hb4, hv5, (gv5).1, (gv5).2.1, hs6, gs, reduceIte, reduceCtorEq, Nat.reduceAdd, Nat.reduceMul, Nat.reduceSub, Nat.reduceBEq, Nat.reduceEqDiff, Nat.reduceLeDiff, Nat.reduceLT, Nat.reduceGT, Int.reduceToNat, Int.reduceLT, Int.reduceLE, Int.reduceNeg, Int.reduceAdd, Int.reduceEq, Int.reduceNe] <;> (repeat (first | omega | assumption | rfl | exact keep_refl | refine keep_app ?_ | (refine keep_set (by first | (left; simp; done) | (right; simp; omega)) ?_) | refine And.intro ?_ ?_))
    · replace hb4 := eq_false_of_ne_true hb4
      rw [if_f hb4] at hp
      have hp := Option.some.inj hp
      subst hp
      simp (disch := first | omega | (simp only [List.length_set, List.length_append, List.length_cons, List.length_nil, rows_len, zs]; first | done | omega)) only [i_laws_markByteS, pf0, pg0, ftt0_0, ftt0_1, ftt0_2, ftt0_3, ftt0_4, ftt0_5, hz3, hb4, gs, reduceIte, reduceCtorEq, Nat.reduceAdd, Nat.reduceMul, Nat.reduceSub, Nat.reduceBEq, Nat.reduceEqDiff, Nat.reduceLeDiff, Nat.reduceLT, Nat.reduceGT, Int.reduceToNat, Int.reduceLT, Int.reduceLE, Int.reduceNeg, Int.reduceAdd, Int.reduceEq, Int.reduceNe] <;> (repeat (first | omega | assumption | rfl | exact keep_refl | refine keep_app ?_ | (refine keep_set (by first | (left; simp; done) | (right; simp; omega)) ?_) | refine And.intro ?_ ?_))
  · simp (disch := first | omega | (simp only [List.length_set, List.length_append, List.length_cons, List.length_nil, rows_len, zs]; first | done | omega)) only [i_laws_markByteS, pf0, pg0, gs, reduceIte, reduceCtorEq, Nat.reduceAdd, Nat.reduceMul, Nat.reduceSub, Nat.reduceBEq, Nat.reduceEqDiff, Nat.reduceLeDiff, Nat.reduceLT, Nat.reduceGT, Int.reduceToNat, Int.reduceLT, Int.reduceLE, Int.reduceNeg, Int.reduceAdd, Int.reduceEq, Int.reduceNe] <;> (repeat (first | omega | assumption | rfl | exact keep_refl | refine keep_app ?_ | (refine keep_set (by first | (left; simp; done) | (right; simp; omega)) ?_) | refine And.intro ?_ ?_))
  · intro x tt1 hh1 hx
    rcases ee0 with ⟨o7, o8, o9⟩ | r
    · obtain ⟨rfl, ftt1_0, ftt1_1, ftt1_2, ftt1_3, ftt1_4, ftt1_5⟩ := hx
      have ztt1_3 := len_rows ftt1_3
      simp only [zs] at ztt1_3
      dsimp only at hp
      have hp := Option.some.inj hp
      subst hp
      simp (disch := first | omega | (simp only [List.length_set, List.length_append, List.length_cons, List.length_nil, rows_len, zs]; first | done | omega)) only [i_laws_markByteS, pf0, pg0, ftt1_0, ftt1_1, ftt1_2, ftt1_3, ftt1_4, ftt1_5, gs, reduceIte, reduceCtorEq, Nat.reduceAdd, Nat.reduceMul, Nat.reduceSub, Nat.reduceBEq, Nat.reduceEqDiff, Nat.reduceLeDiff, Nat.reduceLT, Nat.reduceGT, Int.reduceToNat, Int.reduceLT, Int.reduceLE, Int.reduceNeg, Int.reduceAdd, Int.reduceEq, Int.reduceNe] <;> (repeat (first | omega | assumption | rfl | exact keep_refl | refine keep_app ?_ | (refine keep_set (by first | (left; simp; done) | (right; simp; omega)) ?_) | refine And.intro ?_ ?_))
    · obtain ⟨rfl, hx⟩ := hx
      dsimp only at hp
      cases hp
      simp only [seqK_ret, blockK_ret, retK_RK (K := i_laws_markByteS pb0 pn0 hh), hx, and_self, true_and]
theorem ko_laws_markByteS {P : Program} {env : Env}  : k_laws_markByteS (runIn P env (c_laws_markByteS)) := by
  intro x0 x1 b hp pb0 pn0 h a0 a1
  exact w_laws_markByteS x0 x1 hp pb0 pn0 h a0 a1

noncomputable def p_laws_markIntS_l0 : List Int × Int × Int → Option (Lp (List Int × Int × Int) (T2 Int (List Int)))
  | (s0, s1, s2) =>
    if (decide (s2 < (s0.length : Int))) = true then
      (get? s0 s2).bind fun v5 =>
      some (.go ((s0.set s2.toNat s1), w64 (s1 + 1), w64 (s2 + 1)))
    else
      some (.out (s0, s1, s2))
noncomputable def p_laws_markIntS (x0 : List Int) (x1 : Int) : Option (T2 Int (List Int)) :=
  (loopP (p_laws_markIntS_l0) (x0, x1, 0)).bind fun ee0 => match ee0 with
  | .ret r => some r
  | .out (o7, o8, o9) =>
    some ⟨o8, o7⟩
def c_laws_markIntS : AFn := ⟨19, (.seq (.ops [⟨(.some 4), (.mv (.const (.int .i64 0))), .none, []⟩]) (.seq (.seq (.ops [⟨(.some 5), (.mv (.const (.int .i64 0))), .none, []⟩]) (.block 0 (.loop (.seq (.seq (.ops [⟨(.some 6), (.mv (.tmp 5)), .none, []⟩, ⟨(.some 7), (.mv (.tmp 0)), .none, []⟩, ⟨(.some 8), (.len (.tmp 7)), .none, []⟩, ⟨(.some 9), (.pu (.n (.ar .lss)) [(.tmp 6), (.tmp 8)]), .none, []⟩]) (.cond (.tmp 9) .skip (.exit 0))) (.seq (.block 1 (.seq (.ops [⟨(.some 12), (.mv (.tmp 0)), .none, []⟩, ⟨(.some 13), (.mv (.tmp 5)), .none, []⟩, ⟨(.some 14), (.mv (.tmp 1)), .none, []⟩, ⟨(.some 15), (.idxS 1 (.tmp 12) (.tmp 13)), .none, []⟩, ⟨.none, (.storeV [(0, false)] 1 (.tmp 15) (.tmp 14)), .none, []⟩]) (.ops [⟨(.some 16), (.mv (.tmp 1)), .none, []⟩, ⟨(.some 17), (.pu (.n (.ar .add)) [(.tmp 16), (.const (.int .i64 1))]), .none, []⟩, ⟨(.some 1), (.mv (.tmp 17)), .none, []⟩]))) (.ops [⟨(.some 10), (.mv (.tmp 5)), .none, []⟩, ⟨(.some 11), (.pu (.n (.ar .add)) [(.tmp 10), (.const (.int .i64 1))]), .none, []⟩, ⟨(.some 5), (.mv (.tmp 11)), .none, []⟩])))))) (.seq (.ops [⟨(.some 18), (.mv (.tmp 1)), .none, []⟩, ⟨(.some 4), (.mv (.tmp 18)), .none, []⟩]) .ret))), [(.tmp 4)]⟩
def i_laws_markIntS (pb0 pn0 : Nat) (h : Heap) (b : T2 Int (List Int)) (v : V) (h2 : Heap) : Prop := Keep [pb0] h h2 ∧ v = .i (.s (.int .i64 b.a)) ∧ getCells h2 pb0 pn0 = some (rows b.b)
def k_laws_markIntS (F : Fun) : Prop := ∀ (x0 : List Int) (x1 : Int) (b : T2 Int (List Int)), p_laws_markIntS x0 x1 = some b → ∀ (pb0 pn0 : Nat) (h : Heap), pn0 = (x0).length → getCells h pb0 pn0 = some (rows x0) → ∃ p, F none [.hsl pb0 pn0 0 1 false pn0, .i (.s (.int .i64 x1))] h = some p ∧ i_laws_markIntS pb0 pn0 h b p.1 p.2
set_option maxHeartbeats 10000000 in
theorem w_laws_markIntS {P : Program} {env : Env}  (x0 : List Int) (x1 : Int) {b : T2 Int (List Int)} (hp : p_laws_markIntS x0 x1 = some b) (pb0 pn0 : Nat) (hh : Heap) (pm0 : pn0 = (x0).length) (pf0 : getCells hh pb0 pn0 = some (rows x0)) : R P env (c_laws_markIntS) [.hsl pb0 pn0 0 1 false pn0, .i (.s (.int .i64 x1))] hh (i_laws_markIntS pb0 pn0 hh b) := by
  have pl0 := gc_lt pf0
  have pg0 : getCells hh pb0 x0.length = some (rows x0) := by rw [← pm0]; exact pf0
  refine R_of (by simp [c_laws_markIntS, encA]) ?_
  unfold c_laws_markIntS
  unfold p_laws_markIntS at hp
  obtain ⟨ee0, hee0, hp⟩ := bind_eq hp
  simp (disch := first | omega | (simp only [List.length_set, List.length_append, List.length_cons, List.length_nil, rows_len, zs]; first | done | omega)) only [pf0, pg0, gs, reduceIte, reduceCtorEq, Nat.reduceAdd, Nat.reduceMul, Nat.reduceSub, Nat.reduceBEq, Nat.reduceEqDiff, Nat.reduceLeDiff, Nat.reduceLT, Nat.reduceGT, Int.reduceToNat, Int.reduceLT, Int.reduceLE, Int.reduceNeg, Int.reduceAdd, Int.reduceEq, Int.reduceNe]
  refine W_loopP 0 (fun s t h => match s with | (s0, s1, s2) => t 0 = .hsl pb0 pn0 0 1 false pn0 ∧ t 1 = .i (.s (.int .i64 s1)) ∧ t 5 = .i (.s (.int .i64 s2)) ∧ getCells h pb0 pn0 = some (rows (s0 : List Int)) ∧ pb0 < h.length ∧ Keep [pb0] hh h) (RK [.tmp 4] (i_laws_markIntS pb0 pn0 hh)) ?_ hee0 ?_ ?_
  · rintro ⟨s0, s1, s2⟩ ee tt0 hh0 ⟨ftt0_0, ftt0_1, ftt0_2, ftt0_3, ftt0_4, ftt0_5⟩ hp
    have ztt0_3 := len_rows ftt0_3
    simp only [zs] at ztt0_3
    rw [p_laws_markIntS_l0] at hp
    have hz3 : ((pn0 : Nat) : Int) = (s0.length : Int) := by omega
    by_cases hb4 : (decide (s2 < (s0.length : Int))) = true
    · rw [if_t hb4] at hp
      obtain ⟨v5, hv5, hp⟩ := bind_eq hp
      have gv5 := get_some hv5
      have hs6 : List.take s2.toNat (rows s0) ++ .i (.s (.int .i64 s1)) :: List.drop (s2.toNat + 1) (rows s0) = rows (s0.set s2.toNat s1) := by simpa [splice, zs, cellsV, I.cells, enc_int] using rows_set_off (y := s1) (ys := [.i (.s (.int .i64 s1))]) (k := 0) gv5.2.2 (Nat.le_of_ble_eq_true rfl) (by rfl)
      have hp := Option.some.inj hp
      subst hp
      simp (disch := first | omega | (simp only [List.length_set, List.length_append, List.length_cons, List.length_nil, rows_len, zs]; first | done | omega)) only [i_laws_markIntS, pf0, pg0, ftt0_0, ftt0_1, ftt0_2, ftt0_3, ftt0_4, ftt0_5, hz3, hb4, hv5, (gv5).1, (gv5).2.1, hs6, gs, reduceIte, reduceCtorEq, Nat.reduceAdd, Nat.reduceMul, Nat.reduceSub, Nat.reduceBEq, Nat.reduceEqDiff, Nat.reduceLeDiff, Nat.reduceLT, Nat.reduceGT, Int.reduceToNat, Int.reduceLT, Int.reduceLE, Int.reduceNeg, Int.reduceAdd, Int.reduceEq, Int.reduceNe] <;> (repeat (first | omega | assumption | rfl | exact keep_refl | refine keep_app ?_ | (refine keep_set (by first | (left; simp; done) | (right; simp; omega)) ?_) | refine And.intro ?_ ?_))
    · replace hb4 := eq_false_of_ne_true hb4
      rw [if_f hb4] at hp
      have hp := Option.some.inj hp
      subst hp
      simp (disch := first | omega | (simp only [List.length_set, List.length_append, List.length_cons, List.length_nil, rows_len, zs]; first | done | omega)) only [i_laws_markIntS, pf0, pg0, ftt0_0, ftt0_1, ftt0_2, ftt0_3, ftt0_4, ftt0_5, hz3, hb4, gs, reduceIte, reduceCtorEq, Nat.reduceAdd, Nat.reduceMul, Nat.reduceSub, Nat.reduceBEq, Nat.reduceEqDiff, Nat.reduceLeDiff, Nat.reduceLT, Nat.reduceGT, Int.reduceToNat, Int.reduceLT, Int.reduceLE, Int.reduceNeg, Int.reduceAdd, Int.reduceEq, Int.reduceNe] <;> (repeat (first | omega | assumption | rfl | exact keep_refl | refine keep_app ?_ | (refine keep_set (by first | (left; simp; done) | (right; simp; omega)) ?_) | refine And.intro ?_ ?_))
  · simp (disch := first | omega | (simp only [List.length_set, List.length_append, List.length_cons, List.length_nil, rows_len, zs]; first | done | omega)) only [i_laws_markIntS, pf0, pg0, gs, reduceIte, reduceCtorEq, Nat.reduceAdd, Nat.reduceMul, Nat.reduceSub, Nat.reduceBEq, Nat.reduceEqDiff, Nat.reduceLeDiff, Nat.reduceLT, Nat.reduceGT, Int.reduceToNat, Int.reduceLT, Int.reduceLE, Int.reduceNeg, Int.reduceAdd, Int.reduceEq, Int.reduceNe] <;> (repeat (first | omega | assumption | rfl | exact keep_refl | refine keep_app ?_ | (refine keep_set (by first | (left; simp; done) | (right; simp; omega)) ?_) | refine And.intro ?_ ?_))
  · intro x tt1 hh1 hx
    rcases ee0 with ⟨o7, o8, o9⟩ | r
    · obtain ⟨rfl, ftt1_0, ftt1_1, ftt1_2, ftt1_3, ftt1_4, ftt1_5⟩ := hx
      have ztt1_3 := len_rows ftt1_3
      simp only [zs] at ztt1_3
      dsimp only at hp
      have hp := Option.some.inj hp
      subst hp
      simp (disch := first | omega | (simp only [List.length_set, List.length_append, List.length_cons, List.length_nil, rows_len, zs]; first | done | omega)) only [i_laws_markIntS, pf0, pg0, ftt1_0, ftt1_1, ftt1_2, ftt1_3, ftt1_4, ftt1_5, gs, reduceIte, reduceCtorEq, Nat.reduceAdd, Nat.reduceMul, Nat.reduceSub, Nat.reduceBEq, Nat.reduceEqDiff, Nat.reduceLeDiff, Nat.reduceLT, Nat.reduceGT, Int.reduceToNat, Int.reduceLT, Int.reduceLE, Int.reduceNeg, Int.reduceAdd, Int.reduceEq, Int.reduceNe] <;> (repeat (first | omega | assumption | rfl | exact keep_refl | refine keep_app ?_ | (refine keep_set (by first | (left; simp; done) | (right; simp; omega)) ?_) | refine And.intro ?_ ?_))
    · obtain ⟨rfl, hx⟩ := hx
      dsimp only at hp
      cases hp
      simp only [seqK_ret, blockK_ret, retK_RK (K := i_laws_markIntS pb0 pn0 hh), hx, and_self, true_and]
theorem ko_laws_markIntS {P : Program} {env : Env}  : k_laws_markIntS (runIn P env (c_laws_markIntS)) := by
  intro x0 x1 b hp pb0 pn0 h a0 a1
  exact w_laws_markIntS x0 x1 hp pb0 pn0 h a0 a1

noncomputable def p_laws_markVector (x0 : TVec) (x1 : Int) : Option (T2 Int TVec) :=
  (p_laws_markIntS x0.counts x1).bind fun v0 =>
  some ⟨v0.a, (TVec.mk v0.b)⟩
def c_laws_markVector (f_laws_markIntS : Nat) : AFn := ⟨10, (.seq (.ops [⟨(.some 2), (.box (.tmp 0)), .none, []⟩, ⟨(.some 4), (.mv (.const (.int .i64 0))), .none, []⟩]) (.seq (.ops [⟨(.some 5), (.fieldA 0 (.tmp 2)), .none, []⟩, ⟨(.some 6), (.load 1 false (.tmp 5)), .none, []⟩, ⟨(.some 7), (.mv (.tmp 1)), .none, []⟩, ⟨(.some 8), (.call (2 * f_laws_markIntS + 1) [(.tmp 6), (.tmp 7)]), .none, []⟩, ⟨(.some 1), (.mv (.tmp 8)), .none, []⟩]) (.seq (.ops [⟨(.some 9), (.mv (.tmp 1)), .none, []⟩, ⟨(.some 4), (.mv (.tmp 9)), .none, []⟩]) .ret))), [(.tmp 4)]⟩
def i_laws_markVector (pb0 pn0 : Nat) (h : Heap) (b : T2 Int TVec) (v : V) (h2 : Heap) : Prop := Keep [pb0] h h2 ∧ v = .i (.s (.int .i64 b.a)) ∧ getCells h2 pb0 pn0 = some (rows b.b.counts)
def k_laws_markVector (F : Fun) : Prop := ∀ (x0 : TVec) (x1 : Int) (b : T2 Int TVec), p_laws_markVector x0 x1 = some b → ∀ (pb0 pn0 : Nat) (h : Heap), pn0 = (x0.counts).length → getCells h pb0 pn0 = some (rows x0.counts) → ∃ p, F none [.agg [.hsl pb0 pn0 0 1 false pn0], .i (.s (.int .i64 x1))] h = some p ∧ i_laws_markVector pb0 pn0 h b p.1 p.2
set_option maxHeartbeats 10000000 in
theorem w_laws_markVector {P : Program} {env : Env} {f_laws_markIntS : Nat}  (e_laws_markIntS : k_laws_markIntS (env (2 * f_laws_markIntS + 1))) (x0 : TVec) (x1 : Int) {b : T2 Int TVec} (hp : p_laws_markVector x0 x1 = some b) (pb0 pn0 : Nat) (hh : Heap) (pm0 : pn0 = (x0.counts).length) (pf0 : getCells hh pb0 pn0 = some (rows x0.counts)) : R P env (c_laws_markVector f_laws_markIntS) [.agg [.hsl pb0 pn0 0 1 false pn0], .i (.s (.int .i64 x1))] hh (i_laws_markVector pb0 pn0 hh b) := by
  have pl0 := gc_lt pf0
  have pg0 : getCells hh pb0 x0.counts.length = some (rows x0.counts) := by rw [← pm0]; exact pf0
  refine R_of (by simp [c_laws_markVector, encA]) ?_
  unfold c_laws_markVector
  unfold p_laws_markVector at hp
  obtain ⟨v0, hv0, hp⟩ := bind_eq hp
  simp (disch := first | omega | (simp only [List.length_set, List.length_append, List.length_cons, List.length_nil, rows_len, zs]; first | done | omega)) only [pf0, pg0, gs, reduceIte, reduceCtorEq, Nat.reduceAdd, Nat.reduceMul, Nat.reduceSub, Nat.reduceBEq, Nat.reduceEqDiff, Nat.reduceLeDiff, Nat.reduceLT, Nat.reduceGT, Int.reduceToNat, Int.reduceLT, Int.reduceLE, Int.reduceNeg, Int.reduceAdd, Int.reduceEq, Int.reduceNe]
  refine call_f (fun h => getCells h pb0 pn0 = some (rows (x0.counts : List Int)) ∧ pb0 < h.length ∧ getCells h hh.length 1 = some [.hsl pb0 pn0 0 1 false pn0] ∧ hh.length < h.length ∧ Keep [pb0] hh h) (fun h v h2 => i_laws_markIntS pb0 pn0 h v0 v h2) ?_ ?_ ?_
  · simp (disch := first | omega | (simp only [List.length_set, List.length_append, List.length_cons, List.length_nil, rows_len, zs]; first | done | omega)) only [i_laws_markVector, pf0, pg0, hv0, gs, reduceIte, reduceCtorEq, Nat.reduceAdd, Nat.reduceMul, Nat.reduceSub, Nat.reduceBEq, Nat.reduceEqDiff, Nat.reduceLeDiff, Nat.reduceLT, Nat.reduceGT, Int.reduceToNat, Int.reduceLT, Int.reduceLE, Int.reduceNeg, Int.reduceAdd, Int.reduceEq, Int.reduceNe] <;> (repeat (first | omega | assumption | rfl | exact keep_refl | refine keep_app ?_ | (refine keep_set (by first | (left; simp; done) | (right; simp; omega)) ?_) | refine And.intro ?_ ?_))
  · rintro h ⟨c0_0, c0_1, c0_2, c0_3, c0_4⟩
    exact e_laws_markIntS _ _ _ hv0 pb0 pn0 h (by first | omega | rfl) c0_0
  · rintro h v hh0 ⟨c0_0, c0_1, c0_2, c0_3, c0_4⟩ hpost
    obtain ⟨kk0, rfl, w0_0⟩ := hpost
    have d0_0 : getCells hh0 pb0 pn0 = some (rows (v0.b : List Int)) := w0_0
    have mm0_0 := len_rows w0_0
    simp only [zs] at mm0_0
    have d0_0l := keep_lt kk0 c0_1
    have d0_1 : getCells hh0 hh.length 1 = some [.hsl pb0 pn0 0 1 false pn0] := (keep_get kk0 c0_3 (by first | (simp; done) | (simp; omega))).trans c0_2
    have d0_1l := keep_lt kk0 c0_3
    have kp0 : Keep [pb0] hh hh0 := keep_trans c0_4 kk0 (by intro b hb; first | (simp at hb; done) | (simp at hb ⊢; omega))
    have hp := Option.some.inj hp
    subst hp
    simp (disch := first | omega | (simp only [List.length_set, List.length_append, List.length_cons, List.length_nil, rows_len, zs]; first | done | omega)) only [i_laws_markVector, pf0, pg0, hv0, d0_0, d0_1, gs, reduceIte, reduceCtorEq, Nat.reduceAdd, Nat.reduceMul, Nat.reduceSub, Nat.reduceBEq, Nat.reduceEqDiff, Nat.reduceLeDiff, Nat.reduceLT, Nat.reduceGT, Int.reduceToNat, Int.reduceLT, Int.reduceLE, Int.reduceNeg, Int.reduceAdd, Int.reduceEq, Int.reduceNe] <;> (repeat (first | omega | assumption | rfl | exact keep_refl | refine keep_app ?_ | (refine keep_set (by first | (left; simp; done) | (right; simp; omega)) ?_) | refine And.intro ?_ ?_))
theorem ko_laws_markVector {P : Program} {env : Env} {f_laws_markIntS : Nat}  (e_laws_markIntS : k_laws_markIntS (env (2 * f_laws_markIntS + 1))) : k_laws_markVector (runIn P env (c_laws_markVector f_laws_markIntS)) := by
  intro x0 x1 b hp pb0 pn0 h a0 a1
  exact w_laws_markVector e_laws_markIntS x0 x1 hp pb0 pn0 h a0 a1

noncomputable def p_laws_heldIntS_l0 (x0 : List Int) : Int × Int → Option (Lp (Int × Int) Int)
  | (s0, s1) =>
    if (decide (s1 < (x0.length : Int))) = true then
      (get? x0 s1).bind fun v3 =>
      if (decide (v3 = s0)) = true then
        some (.go (w64 (s0 + 1), w64 (s1 + 1)))
      else
        some (.ret (-1))
    else
      some (.out (s0, s1))
noncomputable def p_laws_heldIntS (x0 : List Int) (x1 : Int) : Option Int :=
  (loopP (p_laws_heldIntS_l0 x0) (x1, 0)).bind fun ee0 => match ee0 with
  | .ret r => some r
  | .out (o5, o6) =>
    some o5
def c_laws_heldIntS : AFn := ⟨21, (.seq (.ops [⟨(.some 4), (.mv (.const (.int .i64 0))), .none, []⟩]) (.seq (.seq (.ops [⟨(.some 5), (.mv (.const (.int .i64 0))), .none, []⟩]) (.block 0 (.loop (.seq (.seq (.ops [⟨(.some 6), (.mv (.tmp 5)), .none, []⟩, ⟨(.some 7), (.mv (.tmp 0)), .none, []⟩, ⟨(.some 8), (.len (.tmp 7)), .none, []⟩, ⟨(.some 9), (.pu (.n (.ar .lss)) [(.tmp 6), (.tmp 8)]), .none, []⟩]) (.cond (.tmp 9) .skip (.exit 0))) (.seq (.block 1 (.seq (.seq (.ops [⟨(.some 12), (.mv (.tmp 0)), .none, []⟩, ⟨(.some 13), (.mv (.tmp 5)), .none, []⟩, ⟨(.some 14), (.idxS 1 (.tmp 12) (.tmp 13)), .none, []⟩, ⟨(.some 15), (.load 1 false (.tmp 14)), .none, []⟩, ⟨(.some 16), (.mv (.tmp 1)), .none, []⟩, ⟨(.some 17), (.pu (.n (.ar .neq)) [(.tmp 15), (.tmp 16)]), .none, []⟩]) (.cond (.tmp 17) (.seq (.ops [⟨(.some 4), (.mv (.const (.int .i64 (-1)))), .none, []⟩]) .ret) .skip)) (.ops [⟨(.some 18), (.mv (.tmp 1)), .none, []⟩, ⟨(.some 19), (.pu (.n (.ar .add)) [(.tmp 18), (.const (.int .i64 1))]), .none, []⟩, ⟨(.some 1), (.mv (.tmp 19)), .none, []⟩]))) (.ops [⟨(.some 10), (.mv (.tmp 5)), .none, []⟩, ⟨(.some 11), (.pu (.n (.ar .add)) [(.tmp 10), (.const (.int .i64 1))]), .none, []⟩, ⟨(.some 5), (.mv (.tmp 11)), .none, []⟩])))))) (.seq (.ops [⟨(.some 20), (.mv (.tmp 1)), .none, []⟩, ⟨(.some 4), (.mv (.tmp 20)), .none, []⟩]) .ret))), [(.tmp 4)]⟩
set_option maxHeartbeats 10000000 in
theorem d_laws_heldIntS {P : Program} {env : Env}  (x0 : List Int) (x1 : Int) {b : Int} (hp : p_laws_heldIntS x0 x1 = some b) : R P env (c_laws_heldIntS) ((encA (x0, x1)).map ofI) [] (Tells true b) := by
  refine R_of (by simp [c_laws_heldIntS, encA]) ?_
  unfold c_laws_heldIntS
  unfold p_laws_heldIntS at hp
  obtain ⟨ee0, hee0, hp⟩ := bind_eq hp
  simp (disch := first | omega | (simp only [List.length_set, List.length_append, List.length_cons, List.length_nil, rows_len, zs]; first | done | omega)) only [gs, reduceIte, reduceCtorEq, Nat.reduceAdd, Nat.reduceMul, Nat.reduceSub, Nat.reduceBEq, Nat.reduceEqDiff, Nat.reduceLeDiff, Nat.reduceLT, Nat.reduceGT, Int.reduceToNat, Int.reduceLT, Int.reduceLE, Int.reduceNeg, Int.reduceAdd, Int.reduceEq, Int.reduceNe]
  refine W_loopP 0 (fun s t h => match s with | (s0, s1) => t 0 = .i (.sl 1 (x0.map enc)) ∧ t 1 = .i (.s (.int .i64 s0)) ∧ t 5 = .i (.s (.int .i64 s1))) (RK [.tmp 4] (Tells true)) ?_ hee0 ?_ ?_
  · rintro ⟨s0, s1⟩ ee tt0 hh0 ⟨ftt0_0, ftt0_1, ftt0_2⟩ hp
    rw [p_laws_heldIntS_l0] at hp
    by_cases hb2 : (decide (s1 < (x0.length : Int))) = true
    · rw [if_t hb2] at hp
      obtain ⟨v3, hv3, hp⟩ := bind_eq hp
      by_cases hb4 : (decide (v3 = s0)) = true
      · rw [if_t hb4] at hp
        have hp := Option.some.inj hp
        subst hp
        simp (disch := first | omega | (simp only [List.length_set, List.length_append, List.length_cons, List.length_nil, rows_len, zs]; first | done | omega)) only [ftt0_0, ftt0_1, ftt0_2, hb2, hv3, hb4, gs, reduceIte, reduceCtorEq, Nat.reduceAdd, Nat.reduceMul, Nat.reduceSub, Nat.reduceBEq, Nat.reduceEqDiff, Nat.reduceLeDiff, Nat.reduceLT, Nat.reduceGT, Int.reduceToNat, Int.reduceLT, Int.reduceLE, Int.reduceNeg, Int.reduceAdd, Int.reduceEq, Int.reduceNe] <;> omega
      · replace hb4 := eq_false_of_ne_true hb4
        rw [if_f hb4] at hp
        have hp := Option.some.inj hp
        subst hp
        simp (disch := first | omega | (simp only [List.length_set, List.length_append, List.length_cons, List.length_nil, rows_len, zs]; first | done | omega)) only [ftt0_0, ftt0_1, ftt0_2, hb2, hv3, hb4, gs, reduceIte, reduceCtorEq, Nat.reduceAdd, Nat.reduceMul, Nat.reduceSub, Nat.reduceBEq, Nat.reduceEqDiff, Nat.reduceLeDiff, Nat.reduceLT, Nat.reduceGT, Int.reduceToNat, Int.reduceLT, Int.reduceLE, Int.reduceNeg, Int.reduceAdd, Int.reduceEq, Int.reduceNe]
    · replace hb2 := eq_false_of_ne_true hb2
      rw [if_f hb2] at hp
      have hp := Option.some.inj hp
      subst hp
      simp (disch := first | omega | (simp only [List.length_set, List.length_append, List.length_cons, List.length_nil, rows_len, zs]; first | done | omega)) only [ftt0_0, ftt0_1, ftt0_2, hb2, gs, reduceIte, reduceCtorEq, Nat.reduceAdd, Nat.reduceMul, Nat.reduceSub, Nat.reduceBEq, Nat.reduceEqDiff, Nat.reduceLeDiff, Nat.reduceLT, Nat.reduceGT, Int.reduceToNat, Int.reduceLT, Int.reduceLE, Int.reduceNeg, Int.reduceAdd, Int.reduceEq, Int.reduceNe] <;> omega
  · simp (disch := first | omega | (simp only [List.length_set, List.length_append, List.length_cons, List.length_nil, rows_len, zs]; first | done | omega)) only [gs, reduceIte, reduceCtorEq, Nat.reduceAdd, Nat.reduceMul, Nat.reduceSub, Nat.reduceBEq, Nat.reduceEqDiff, Nat.reduceLeDiff, Nat.reduceLT, Nat.reduceGT, Int.reduceToNat, Int.reduceLT, Int.reduceLE, Int.reduceNeg, Int.reduceAdd, Int.reduceEq, Int.reduceNe] <;> omega
  · intro x tt1 hh1 hx
    rcases ee0 with ⟨o5, o6⟩ | r
    · obtain ⟨rfl, ftt1_0, ftt1_1, ftt1_2⟩ := hx
      dsimp only at hp
      have hp := Option.some.inj hp
      subst hp
      simp (disch := first | omega | (simp only [List.length_set, List.length_append, List.length_cons, List.length_nil, rows_len, zs]; first | done | omega)) only [ftt1_0, ftt1_1, ftt1_2, gs, reduceIte, reduceCtorEq, Nat.reduceAdd, Nat.reduceMul, Nat.reduceSub, Nat.reduceBEq, Nat.reduceEqDiff, Nat.reduceLeDiff, Nat.reduceLT, Nat.reduceGT, Int.reduceToNat, Int.reduceLT, Int.reduceLE, Int.reduceNeg, Int.reduceAdd, Int.reduceEq, Int.reduceNe]
    · obtain ⟨rfl, hx⟩ := hx
      dsimp only at hp
      cases hp
      simp only [seqK_ret, blockK_ret, retK_RK (K := Tells true), hx, and_self, true_and]

noncomputable def p_laws_heldVector (x0 : TVec) (x1 : Int) : Option Int :=
  (p_laws_heldIntS x0.counts x1).bind fun v0 =>
  if (decide (v0 < 0)) = true then
    some (-1)
  else
    some v0
def c_laws_heldVector (f_laws_heldIntS : Nat) : AFn := ⟨12, (.seq (.ops [⟨(.some 2), (.box (.tmp 0)), .none, []⟩, ⟨(.some 4), (.mv (.const (.int .i64 0))), .none, []⟩]) (.seq (.ops [⟨(.some 5), (.fieldA 0 (.tmp 2)), .none, []⟩, ⟨(.some 6), (.load 1 false (.tmp 5)), .none, []⟩, ⟨(.some 7), (.mv (.tmp 1)), .none, []⟩, ⟨(.some 8), (.call (2 * f_laws_heldIntS) [(.tmp 6), (.tmp 7)]), .none, []⟩, ⟨(.some 1), (.mv (.tmp 8)), .none, []⟩]) (.seq (.seq (.ops [⟨(.some 9), (.mv (.tmp 1)), .none, []⟩, ⟨(.some 10), (.pu (.n (.ar .lss)) [(.tmp 9), (.const (.int .i64 0))]), .none, []⟩]) (.cond (.tmp 10) (.seq (.ops [⟨(.some 4), (.mv (.const (.int .i64 (-1)))), .none, []⟩]) .ret) .skip)) (.seq (.ops [⟨(.some 11), (.mv (.tmp 1)), .none, []⟩, ⟨(.some 4), (.mv (.tmp 11)), .none, []⟩]) .ret)))), [(.tmp 4)]⟩
set_option maxHeartbeats 10000000 in
theorem d_laws_heldVector {P : Program} {env : Env} {f_laws_heldIntS : Nat}  (ep_laws_heldIntS : env (2 * f_laws_heldIntS) = pureFn true (FA fun a : List Int × Int => p_laws_heldIntS a.1 a.2)) (x0 : TVec) (x1 : Int) {b : Int} (hp : p_laws_heldVector x0 x1 = some b) : R P env (c_laws_heldVector f_laws_heldIntS) ((encA (x0, x1)).map ofI) [] (Tells true b) := by
  refine R_of (by simp [c_laws_heldVector, encA]) ?_
  unfold c_laws_heldVector
  unfold p_laws_heldVector at hp
  obtain ⟨v0, hv0, hp⟩ := bind_eq hp
  by_cases hb1 : (decide (v0 < 0)) = true
  · rw [if_t hb1] at hp
    have hp := Option.some.inj hp
    subst hp
    simp (disch := first | omega | (simp only [List.length_set, List.length_append, List.length_cons, List.length_nil, rows_len, zs]; first | done | omega)) only [ep_laws_heldIntS, hv0, hb1, gs, reduceIte, reduceCtorEq, Nat.reduceAdd, Nat.reduceMul, Nat.reduceSub, Nat.reduceBEq, Nat.reduceEqDiff, Nat.reduceLeDiff, Nat.reduceLT, Nat.reduceGT, Int.reduceToNat, Int.reduceLT, Int.reduceLE, Int.reduceNeg, Int.reduceAdd, Int.reduceEq, Int.reduceNe]
  · replace hb1 := eq_false_of_ne_true hb1
    rw [if_f hb1] at hp
    have hp := Option.some.inj hp
    subst hp
    simp (disch := first | omega | (simp only [List.length_set, List.length_append, List.length_cons, List.length_nil, rows_len, zs]; first | done | omega)) only [ep_laws_heldIntS, hv0, hb1, gs, reduceIte, reduceCtorEq, Nat.reduceAdd, Nat.reduceMul, Nat.reduceSub, Nat.reduceBEq, Nat.reduceEqDiff, Nat.reduceLeDiff, Nat.reduceLT, Nat.reduceGT, Int.reduceToNat, Int.reduceLT, Int.reduceLE, Int.reduceNeg, Int.reduceAdd, Int.reduceEq, Int.reduceNe]

noncomputable def p_laws_FnExactReadVec (x0 : List U8) : Option Bool :=
  if (decide (1048576 < (x0.length : Int))) = true then
    some true
  else
    (p_laws_toByteS x0).bind fun v1 =>
    (p_spec_ReadVec v1).bind fun v2 =>
    (p_impl_ReadVec v1).bind fun v3 =>
    (p_laws_eqVector v3.a v2.a).bind fun v4 =>
    if (v4) = true then
      if (decide (v3.b = v2.b)) = true then
        (p_laws_eqByteS v1 v1).bind fun v7 =>
        if (v7) = true then
          (p_laws_markByteS v1 1).bind fun v9 =>
          if (decide (v9.a < 0)) = true then
            some false
          else
            (p_laws_markVector v3.a 1).bind fun v11 =>
            (p_laws_heldVector v11.b 1).bind fun v12 =>
            if (decide (v12 < 0)) = true then
              some false
            else
              if (decide (v12 = v11.a)) = true then
                some true
              else
                some false
        else
          some false
      else
        some false
    else
      some false
def c_laws_FnExactReadVec (f_laws_toByteS : Nat) (f_spec_ReadVec : Nat) (f_impl_ReadVec : Nat) (f_laws_eqVector : Nat) (f_laws_eqByteS : Nat) (f_laws_markByteS : Nat) (f_laws_markVector : Nat) (f_laws_heldVector : Nat) : AFn := ⟨93, (.seq (.ops [⟨(.some 2), (.mv (.const (.bool false))), .none, []⟩]) (.seq (.seq (.ops [⟨(.some 13), (.mv (.tmp 0)), .none, []⟩, ⟨(.some 14), (.len (.tmp 13)), .none, []⟩, ⟨(.some 15), (.pu (.n (.ar .gtr)) [(.tmp 14), (.const (.int .i64 1048576))]), .none, []⟩]) (.cond (.tmp 15) (.seq (.ops [⟨(.some 2), (.mv (.const (.bool true))), .none, []⟩]) .ret) .skip)) (.seq (.ops [⟨(.some 17), (.mv (.tmp 0)), .none, []⟩, ⟨(.some 18), (.call (2 * f_laws_toByteS) [(.tmp 17)]), .none, []⟩, ⟨(.some 19), (.call (2 * f_spec_ReadVec) [(.tmp 18)]), .none, []⟩, ⟨(.some 16), (.mv (.tmp 19)), .none, []⟩, ⟨(.some 20), (.extract 0 (.tmp 16)), .none, []⟩, ⟨(.some 21), (.extract 1 (.tmp 16)), .none, []⟩, ⟨(.some 3), (.allocV [(1, false)] [(.slice .none 0 0)]), .none, []⟩, ⟨.none, (.storeV [(1, false)] 1 (.tmp 3) (.tmp 20)), .none, []⟩, ⟨(.some 4), (.mv (.tmp 21)), .none, []⟩]) (.seq (.ops [⟨(.some 22), (.mv (.tmp 0)), .none, []⟩, ⟨(.some 23), (.call (2 * f_laws_toByteS + 1) [(.tmp 22)]), .none, []⟩, ⟨(.some 5), (.mv (.tmp 23)), .none, []⟩]) (.seq (.ops [⟨(.some 25), (.mv (.tmp 5)), .none, []⟩, ⟨(.some 26), (.call (2 * f_impl_ReadVec + 1) [(.tmp 25)]), .none, []⟩, ⟨(.some 24), (.mv (.tmp 26)), .none, []⟩, ⟨(.some 27), (.extract 0 (.tmp 24)), .none, []⟩, ⟨(.some 28), (.extract 1 (.tmp 24)), .none, []⟩, ⟨(.some 6), (.allocV [(1, false)] [(.slice .none 0 0)]), .none, []⟩, ⟨.none, (.storeV [(1, false)] 1 (.tmp 6) (.tmp 27)), .none, []⟩, ⟨(.some 7), (.mv (.tmp 28)), .none, []⟩]) (.seq (.seq (.ops [⟨(.some 29), (.load 1 true (.tmp 6)), .none, []⟩, ⟨(.some 30), (.load 1 true (.tmp 3)), .none, []⟩, ⟨(.some 31), (.call (2 * f_laws_eqVector) [(.tmp 29), (.tmp 30)]), .none, []⟩, ⟨(.some 32), (.pu (.n (.un .not)) [(.tmp 31)]), .none, []⟩, ⟨(.some 33), (.mv (.tmp 32)), .none, []⟩, ⟨(.some 34), (.mv (.tmp 7)), (.some (33, false)), []⟩, ⟨(.some 35), (.mv (.tmp 4)), (.some (33, false)), []⟩, ⟨(.some 36), (.pu (.n (.ar .neq)) [(.tmp 34), (.tmp 35)]), (.some (33, false)), []⟩, ⟨(.some 37), (.pick (.tmp 33) (.const (.bool true)) (.tmp 36)), .none, []⟩]) (.cond (.tmp 37) (.seq (.ops [⟨(.some 2), (.mv (.const (.bool false))), .none, []⟩]) .ret) .skip)) (.seq (.seq (.ops [⟨(.some 38), (.mv (.tmp 5)), .none, []⟩, ⟨(.some 39), (.mv (.tmp 0)), .none, []⟩, ⟨(.some 40), (.call (2 * f_laws_toByteS + 1) [(.tmp 39)]), .none, []⟩, ⟨(.some 41), (.call (2 * f_laws_eqByteS) [(.tmp 38), (.tmp 40)]), .none, []⟩, ⟨(.some 42), (.pu (.n (.un .not)) [(.tmp 41)]), .none, []⟩]) (.cond (.tmp 42) (.seq (.ops [⟨(.some 2), (.mv (.const (.bool false))), .none, []⟩]) .ret) .skip)) (.seq (.ops [⟨(.some 8), (.mv (.const (.int .i64 1))), .none, []⟩]) (.seq (.ops [⟨(.some 43), (.mv (.tmp 5)), .none, []⟩, ⟨(.some 44), (.mv (.tmp 8)), .none, []⟩, ⟨(.some 45), (.call (2 * f_laws_markByteS + 1) [(.tmp 43), (.tmp 44)]), .none, []⟩, ⟨(.some 8), (.mv (.tmp 45)), .none, []⟩]) (.seq (.seq (.ops [⟨(.some 46), (.mv (.tmp 8)), .none, []⟩, ⟨(.some 47), (.pu (.n (.ar .lss)) [(.tmp 46), (.const (.int .i64 0))]), .none, []⟩, ⟨(.some 48), (.mv (.tmp 47)), .none, []⟩, ⟨(.some 49), (.load 1 true (.tmp 6)), (.some (48, false)), []⟩, ⟨(.some 50), (.load 1 true (.tmp 3)), (.some (48, false)), []⟩, ⟨(.some 51), (.call (2 * f_laws_eqVector) [(.tmp 49), (.tmp 50)]), (.some (48, false)), []⟩, ⟨(.some 52), (.pu (.n (.un .not)) [(.tmp 51)]), (.some (48, false)), []⟩, ⟨(.some 53), (.pick (.tmp 48) (.const (.bool true)) (.tmp 52)), .none, []⟩, ⟨(.some 54), (.mv (.tmp 53)), .none, []⟩, ⟨(.some 55), (.mv (.tmp 7)), (.some (54, false)), []⟩, ⟨(.some 56), (.mv (.tmp 4)), (.some (54, false)), []⟩, ⟨(.some 57), (.pu (.n (.ar .neq)) [(.tmp 55), (.tmp 56)]), (.some (54, false)), []⟩, ⟨(.some 58), (.pick (.tmp 54) (.const (.bool true)) (.tmp 57)), .none, []⟩]) (.cond (.tmp 58) (.seq (.ops [⟨(.some 2), (.mv (.const (.bool false))), .none, []⟩]) .ret) .skip)) (.seq (.ops [⟨(.some 9), (.mv (.const (.int .i64 1))), .none, []⟩]) (.seq (.ops [⟨(.some 59), (.load 1 true (.tmp 6)), .none, []⟩, ⟨(.some 60), (.mv (.tmp 9)), .none, []⟩, ⟨(.some 61), (.call (2 * f_laws_markVector + 1) [(.tmp 59), (.tmp 60)]), .none, []⟩, ⟨(.some 9), (.mv (.tmp 61)), .none, []⟩]) (.seq (.ops [⟨(.some 10), (.mv (.const (.int .i64 1))), .none, []⟩]) (.seq (.ops [⟨(.some 62), (.load 1 true (.tmp 6)), .none, []⟩, ⟨(.some 63), (.mv (.tmp 10)), .none, []⟩, ⟨(.some 64), (.call (2 * f_laws_heldVector) [(.tmp 62), (.tmp 63)]), .none, []⟩, ⟨(.some 10), (.mv (.tmp 64)), .none, []⟩]) (.seq (.seq (.ops [⟨(.some 65), (.mv (.tmp 10)), .none, []⟩, ⟨(.some 66), (.pu (.n (.ar .lss)) [(.tmp 65), (.const (.int .i64 0))]), .none, []⟩]) (.cond (.tmp 66) (.seq (.ops [⟨(.some 2), (.mv (.const (.bool false))), .none, []⟩]) .ret) .skip)) (.seq (.seq (.ops [⟨(.some 67), (.mv (.tmp 10)), .none, []⟩, ⟨(.some 68), (.mv (.tmp 9)), .none, []⟩, ⟨(.some 69), (.pu (.n (.ar .neq)) [(.tmp 67), (.tmp 68)]), .none, []⟩]) (.cond (.tmp 69) (.seq (.ops [⟨(.some 2), (.mv (.const (.bool false))), .none, []⟩]) .ret) .skip)) (.seq (.ops [⟨(.some 71), (.mv (.tmp 0)), .none, []⟩, ⟨(.some 72), (.call (2 * f_laws_toByteS + 1) [(.tmp 71)]), .none, []⟩, ⟨(.some 73), (.call (2 * f_impl_ReadVec + 1) [(.tmp 72)]), .none, []⟩, ⟨(.some 70), (.mv (.tmp 73)), .none, []⟩, ⟨(.some 74), (.extract 0 (.tmp 70)), .none, []⟩, ⟨(.some 75), (.extract 1 (.tmp 70)), .none, []⟩, ⟨(.some 11), (.allocV [(1, false)] [(.slice .none 0 0)]), .none, []⟩, ⟨.none, (.storeV [(1, false)] 1 (.tmp 11) (.tmp 74)), .none, []⟩, ⟨(.some 12), (.mv (.tmp 75)), .none, []⟩]) (.seq (.seq (.ops [⟨(.some 76), (.load 1 true (.tmp 11)), .none, []⟩, ⟨(.some 77), (.load 1 true (.tmp 3)), .none, []⟩, ⟨(.some 78), (.call (2 * f_laws_eqVector) [(.tmp 76), (.tmp 77)]), .none, []⟩, ⟨(.some 79), (.pu (.n (.un .not)) [(.tmp 78)]), .none, []⟩, ⟨(.some 80), (.mv (.tmp 79)), .none, []⟩, ⟨(.some 81), (.mv (.tmp 12)), (.some (80, false)), []⟩, ⟨(.some 82), (.mv (.tmp 4)), (.some (80, false)), []⟩, ⟨(.some 83), (.pu (.n (.ar .neq)) [(.tmp 81), (.tmp 82)]), (.some (80, false)), []⟩, ⟨(.some 84), (.pick (.tmp 80) (.const (.bool true)) (.tmp 83)), .none, []⟩]) (.cond (.tmp 84) (.seq (.ops [⟨(.some 2), (.mv (.const (.bool false))), .none, []⟩]) .ret) .skip)) (.seq (.ops [⟨(.some 10), (.mv (.const (.int .i64 1))), .none, []⟩]) (.seq (.ops [⟨(.some 85), (.load 1 true (.tmp 6)), .none, []⟩, ⟨(.some 86), (.mv (.tmp 10)), .none, []⟩, ⟨(.some 87), (.call (2 * f_laws_heldVector) [(.tmp 85), (.tmp 86)]), .none, []⟩, ⟨(.some 10), (.mv (.tmp 87)), .none, []⟩]) (.seq (.seq (.ops [⟨(.some 88), (.mv (.tmp 10)), .none, []⟩, ⟨(.some 89), (.pu (.n (.ar .lss)) [(.tmp 88), (.const (.int .i64 0))]), .none, []⟩]) (.cond (.tmp 89) (.seq (.ops [⟨(.some 2), (.mv (.const (.bool false))), .none, []⟩]) .ret) .skip)) (.seq (.seq (.ops [⟨(.some 90), (.mv (.tmp 10)), .none, []⟩, ⟨(.some 91), (.mv (.tmp 9)), .none, []⟩, ⟨(.some 92), (.pu (.n (.ar .neq)) [(.tmp 90), (.tmp 91)]), .none, []⟩]) (.cond (.tmp 92) (.seq (.ops [⟨(.some 2), (.mv (.const (.bool false))), .none, []⟩]) .ret) .skip)) (.seq (.ops [⟨(.some 2), (.mv (.const (.bool true))), .none, []⟩]) .ret))))))))))))))))))))))), [(.tmp 2)]⟩
set_option maxHeartbeats 10000000 in
theorem d_laws_FnExactReadVec {P : Program} {env : Env} {f_laws_toByteS : Nat} {f_spec_ReadVec : Nat} {f_impl_ReadVec : Nat} {f_laws_eqVector : Nat} {f_laws_eqByteS : Nat} {f_laws_markByteS : Nat} {f_laws_markVector : Nat} {f_laws_heldVector : Nat}  (ep_laws_toByteS : env (2 * f_laws_toByteS) = pureFn true (FA fun a : List U8 => p_laws_toByteS a)) (ep_spec_ReadVec : env (2 * f_spec_ReadVec) = pureFn true (FA fun a : List U8 => p_spec_ReadVec a)) (ep_laws_eqVector : env (2 * f_laws_eqVector) = pureFn true (FA fun a : TVec × TVec => p_laws_eqVector a.1 a.2)) (ep_laws_eqByteS : env (2 * f_laws_eqByteS) = pureFn true (FA fun a : List U8 × List U8 => p_laws_eqByteS a.1 a.2)) (ep_laws_heldVector : env (2 * f_laws_heldVector) = pureFn true (FA fun a : TVec × Int => p_laws_heldVector a.1 a.2)) (e_laws_toByteS : k_laws_toByteS (env (2 * f_laws_toByteS + 1))) (e_impl_ReadVec : k_impl_ReadVec (env (2 * f_impl_ReadVec + 1))) (e_laws_markByteS : k_laws_markByteS (env (2 * f_laws_markByteS + 1))) (e_laws_markVector : k_laws_markVector (env (2 * f_laws_markVector + 1))) (x0 : List U8) (hp : p_laws_FnExactReadVec x0 = some true) : R P env (c_laws_FnExactReadVec f_laws_toByteS f_spec_ReadVec f_impl_ReadVec f_laws_eqVector f_laws_eqByteS f_laws_markByteS f_laws_markVector f_laws_heldVector) ((encA (x0)).map ofI) [] (fun v _ => v = .i (iB true)) := by
  refine R_of (by simp [c_laws_FnExactReadVec, encA]) ?_
  unfold c_laws_FnExactReadVec
  unfold p_laws_FnExactReadVec at hp
  by_cases hb0 : (decide (1048576 < (x0.length : Int))) = true
  · rw [if_t hb0] at hp
    cases hp
    simp (disch := first | omega | (simp only [List.length_set, List.length_append, List.length_cons, List.length_nil, rows_len, zs]; first | done | omega)) only [ep_laws_toByteS, ep_spec_ReadVec, ep_laws_eqVector, ep_laws_eqByteS, ep_laws_heldVector, hb0, gs, reduceIte, reduceCtorEq, Nat.reduceAdd, Nat.reduceMul, Nat.reduceSub, Nat.reduceBEq, Nat.reduceEqDiff, Nat.reduceLeDiff, Nat.reduceLT, Nat.reduceGT, Int.reduceToNat, Int.reduceLT, Int.reduceLE, Int.reduceNeg, Int.reduceAdd, Int.reduceEq, Int.reduceNe]
  · replace hb0 := eq_false_of_ne_true hb0
    rw [if_f hb0] at hp
    obtain ⟨v1, hv1, hp⟩ := bind_eq hp
    obtain ⟨v2, hv2, hp⟩ := bind_eq hp
    simp (disch := first | omega | (simp only [List.length_set, List.length_append, List.length_cons, List.length_nil, rows_len, zs]; first | done | omega)) only [ep_laws_toByteS, ep_spec_ReadVec, ep_laws_eqVector, ep_laws_eqByteS, ep_laws_heldVector, hb0, hv1, hv2, gs, reduceIte, reduceCtorEq, Nat.reduceAdd, Nat.reduceMul, Nat.reduceSub, Nat.reduceBEq, Nat.reduceEqDiff, Nat.reduceLeDiff, Nat.reduceLT, Nat.reduceGT, Int.reduceToNat, Int.reduceLT, Int.reduceLE, Int.reduceNeg, Int.reduceAdd, Int.reduceEq, Int.reduceNe]
    refine call_f (fun h => getCells h 0 0 = some [] ∧ 0 < h.length ∧ getCells h 1 1 = some [.i (.sl 1 (v2.a.counts.map enc))] ∧ 1 < h.length) (fun h v h2 => oo_laws_toByteS v1 h v h2) ?_ ?_ ?_
    · simp (disch := first | omega | (simp only [List.length_set, List.length_append, List.length_cons, List.length_nil, rows_len, zs]; first | done | omega)) only [ep_laws_toByteS, ep_spec_ReadVec, ep_laws_eqVector, ep_laws_eqByteS, ep_laws_heldVector, hb0, hv1, hv2, gs, reduceIte, reduceCtorEq, Nat.reduceAdd, Nat.reduceMul, Nat.reduceSub, Nat.reduceBEq, Nat.reduceEqDiff, Nat.reduceLeDiff, Nat.reduceLT, Nat.reduceGT, Int.reduceToNat, Int.reduceLT, Int.reduceLE, Int.reduceNeg, Int.reduceAdd, Int.reduceEq, Int.reduceNe] <;> omega
    · rintro h ⟨c0_0, c0_1, c0_2, c0_3⟩
      exact e_laws_toByteS _ _ hv1 h _ (by simp (disch := first | omega | (simp only [List.length_set, List.length_append, List.length_cons, List.length_nil, rows_len, zs]; first | done | omega)) only [ep_laws_toByteS, ep_spec_ReadVec, ep_laws_eqVector, ep_laws_eqByteS, ep_laws_heldVector, hb0, hv1, hv2, c0_0, c0_1, c0_2, c0_3, gs, reduceIte, reduceCtorEq, Nat.reduceAdd, Nat.reduceMul, Nat.reduceSub, Nat.reduceBEq, Nat.reduceEqDiff, Nat.reduceLeDiff, Nat.reduceLT, Nat.reduceGT, Int.reduceToNat, Int.reduceLT, Int.reduceLE, Int.reduceNeg, Int.reduceAdd, Int.reduceEq, Int.reduceNe])
    · rintro h v hh0 ⟨c0_0, c0_1, c0_2, c0_3⟩ hpost
      obtain ⟨kk0, nb0_0, rfl, lnb0_0, gnb0_0, wnb0_0⟩ := hpost
      have d0_0 : getCells hh0 0 0 = some [] := (keep_get kk0 c0_1 (by first | (simp; done) | (simp; omega))).trans c0_0
      have d0_0l := keep_lt kk0 c0_1
      have d0_1 : getCells hh0 1 1 = some [.i (.sl 1 (v2.a.counts.map enc))] := (keep_get kk0 c0_3 (by first | (simp; done) | (simp; omega))).trans c0_2
      have d0_1l := keep_lt kk0 c0_3
      have d0_2 := wnb0_0
      obtain ⟨v3, hv3, hp⟩ := bind_eq hp
      simp (disch := first | omega | (simp only [List.length_set, List.length_append, List.length_cons, List.length_nil, rows_len, zs]; first | done | omega)) only [ep_laws_toByteS, ep_spec_ReadVec, ep_laws_eqVector, ep_laws_eqByteS, ep_laws_heldVector, hb0, hv1, hv2, d0_0, d0_1, d0_2, gs, reduceIte, reduceCtorEq, Nat.reduceAdd, Nat.reduceMul, Nat.reduceSub, Nat.reduceBEq, Nat.reduceEqDiff, Nat.reduceLeDiff, Nat.reduceLT, Nat.reduceGT, Int.reduceToNat, Int.reduceLT, Int.reduceLE, Int.reduceNeg, Int.reduceAdd, Int.reduceEq, Int.reduceNe]
      refine call_f (fun h => getCells h 0 0 = some [] ∧ 0 < h.length ∧ getCells h 1 1 = some [.i (.sl 1 (v2.a.counts.map enc))] ∧ 1 < h.length ∧ getCells h nb0_0 v1.length = some (rows (v1 : List U8)) ∧ nb0_0 < h.length) (fun h v h2 => oo_impl_ReadVec v3 h v h2) ?_ ?_ ?_
      · simp (disch := first | omega | (simp only [List.length_set, List.length_append, List.length_cons, List.length_nil, rows_len, zs]; first | done | omega)) only [ep_laws_toByteS, ep_spec_ReadVec, ep_laws_eqVector, ep_laws_eqByteS, ep_laws_heldVector, hb0, hv1, hv2, d0_0, d0_1, d0_2, hv3, gs, reduceIte, reduceCtorEq, Nat.reduceAdd, Nat.reduceMul, Nat.reduceSub, Nat.reduceBEq, Nat.reduceEqDiff, Nat.reduceLeDiff, Nat.reduceLT, Nat.reduceGT, Int.reduceToNat, Int.reduceLT, Int.reduceLE, Int.reduceNeg, Int.reduceAdd, Int.reduceEq, Int.reduceNe] <;> omega
      · rintro h ⟨c1_0, c1_1, c1_2, c1_3, c1_4, c1_5⟩
        exact e_impl_ReadVec _ _ hv3 h _ (by simp (disch := first | omega | (simp only [List.length_set, List.length_append, List.length_cons, List.length_nil, rows_len, zs]; first | done | omega)) only [ep_laws_toByteS, ep_spec_ReadVec, ep_laws_eqVector, ep_laws_eqByteS, ep_laws_heldVector, hb0, hv1, hv2, d0_0, d0_1, d0_2, hv3, c1_0, c1_1, c1_2, c1_3, c1_4, c1_5, gs, reduceIte, reduceCtorEq, Nat.reduceAdd, Nat.reduceMul, Nat.reduceSub, Nat.reduceBEq, Nat.reduceEqDiff, Nat.reduceLeDiff, Nat.reduceLT, Nat.reduceGT, Int.reduceToNat, Int.reduceLT, Int.reduceLE, Int.reduceNeg, Int.reduceAdd, Int.reduceEq, Int.reduceNe])
      · rintro h v hh1 ⟨c1_0, c1_1, c1_2, c1_3, c1_4, c1_5⟩ hpost
        obtain ⟨kk1, nb1_0, rfl, lnb1_0, gnb1_0, wnb1_0⟩ := hpost
        have d1_0 : getCells hh1 0 0 = some [] := (keep_get kk1 c1_1 (by first | (simp; done) | (simp; omega))).trans c1_0
        have d1_0l := keep_lt kk1 c1_1
        have d1_1 : getCells hh1 1 1 = some [.i (.sl 1 (v2.a.counts.map enc))] := (keep_get kk1 c1_3 (by first | (simp; done) | (simp; omega))).trans c1_2
        have d1_1l := keep_lt kk1 c1_3
        have d1_2 : getCells hh1 nb0_0 v1.length = some (rows (v1 : List U8)) := (keep_get kk1 c1_5 (by first | (simp; done) | (simp; omega))).trans c1_4
        have d1_2l := keep_lt kk1 c1_5
        have d1_3 := wnb1_0
        obtain ⟨v4, hv4, hp⟩ := bind_eq hp
        by_cases hb5 : (v4) = true
        · rw [if_t hb5] at hp
          by_cases hb6 : (decide (v3.b = v2.b)) = true
          · rw [if_t hb6] at hp
            simp (disch := first | omega | (simp only [List.length_set, List.length_append, List.length_cons, List.length_nil, rows_len, zs]; first | done | omega)) only [ep_laws_toByteS, ep_spec_ReadVec, ep_laws_eqVector, ep_laws_eqByteS, ep_laws_heldVector, hb0, hv1, hv2, d0_0, d0_1, d0_2, hv3, d1_0, d1_1, d1_2, d1_3, hv4, hb5, hb6, gs, reduceIte, reduceCtorEq, Nat.reduceAdd, Nat.reduceMul, Nat.reduceSub, Nat.reduceBEq, Nat.reduceEqDiff, Nat.reduceLeDiff, Nat.reduceLT, Nat.reduceGT, Int.reduceToNat, Int.reduceLT, Int.reduceLE, Int.reduceNeg, Int.reduceAdd, Int.reduceEq, Int.reduceNe]
            refine call_f (fun h => getCells h 0 0 = some [] ∧ 0 < h.length ∧ getCells h 1 1 = some [.i (.sl 1 (v2.a.counts.map enc))] ∧ 1 < h.length ∧ getCells h nb0_0 v1.length = some (rows (v1 : List U8)) ∧ nb0_0 < h.length ∧ getCells h nb1_0 v3.a.counts.length = some (rows (v3.a.counts : List Int)) ∧ nb1_0 < h.length ∧ getCells h hh1.length 0 = some [] ∧ hh1.length < h.length ∧ getCells h (hh1.length + 1) 1 = some [.hsl nb1_0 v3.a.counts.length 0 1 false v3.a.counts.length] ∧ hh1.length + 1 < h.length) (fun h v h2 => oo_laws_toByteS v1 h v h2) ?_ ?_ ?_
            · simp (disch := first | omega | (simp only [List.length_set, List.length_append, List.length_cons, List.length_nil, rows_len, zs]; first | done | omega)) only [ep_laws_toByteS, ep_spec_ReadVec, ep_laws_eqVector, ep_laws_eqByteS, ep_laws_heldVector, hb0, hv1, hv2, d0_0, d0_1, d0_2, hv3, d1_0, d1_1, d1_2, d1_3, hv4, hb5, hb6, gs, reduceIte, reduceCtorEq, Nat.reduceAdd, Nat.reduceMul, Nat.reduceSub, Nat.reduceBEq, Nat.reduceEqDiff, Nat.reduceLeDiff, Nat.reduceLT, Nat.reduceGT, Int.reduceToNat, Int.reduceLT, Int.reduceLE, Int.reduceNeg, Int.reduceAdd, Int.reduceEq, Int.reduceNe] <;> omega
            · rintro h ⟨c2_0, c2_1, c2_2, c2_3, c2_4, c2_5, c2_6, c2_7, c2_8, c2_9, c2_10, c2_11⟩
              exact e_laws_toByteS _ _ hv1 h _ (by simp (disch := first | omega | (simp only [List.length_set, List.length_append, List.length_cons, List.length_nil, rows_len, zs]; first | done | omega)) only [ep_laws_toByteS, ep_spec_ReadVec, ep_laws_eqVector, ep_laws_eqByteS, ep_laws_heldVector, hb0, hv1, hv2, d0_0, d0_1, d0_2, hv3, d1_0, d1_1, d1_2, d1_3, hv4, hb5, hb6, c2_0, c2_1, c2_2, c2_3, c2_4, c2_5, c2_6, c2_7, c2_8, c2_9, c2_10, c2_11, gs, reduceIte, reduceCtorEq, Nat.reduceAdd, Nat.reduceMul, Nat.reduceSub, Nat.reduceBEq, Nat.reduceEqDiff, Nat.reduceLeDiff, Nat.reduceLT, Nat.reduceGT, Int.reduceToNat, Int.reduceLT, Int.reduceLE, Int.reduceNeg, Int.reduceAdd, Int.reduceEq, Int.reduceNe])
            · rintro h v hh2 ⟨c2_0, c2_1, c2_2, c2_3, c2_4, c2_5, c2_6, c2_7, c2_8, c2_9, c2_10, c2_11⟩ hpost
              obtain ⟨kk2, nb2_0, rfl, lnb2_0, gnb2_0, wnb2_0⟩ := hpost
              have d2_0 : getCells hh2 0 0 = some [] := (keep_get kk2 c2_1 (by first | (simp; done) | (simp; omega))).trans c2_0
              have d2_0l := keep_lt kk2 c2_1
              have d2_1 : getCells hh2 1 1 = some [.i (.sl 1 (v2.a.counts.map enc))] := (keep_get kk2 c2_3 (by first | (simp; done) | (simp; omega))).trans c2_2
              have d2_1l := keep_lt kk2 c2_3
              have d2_2 : getCells hh2 nb0_0 v1.length = some (rows (v1 : List U8)) := (keep_get kk2 c2_5 (by first | (simp; done) | (simp; omega))).trans c2_4
              have d2_2l := keep_lt kk2 c2_5
              have d2_3 : getCells hh2 nb1_0 v3.a.counts.length = some (rows (v3.a.counts : List Int)) := (keep_get kk2 c2_7 (by first | (simp; done) | (simp; omega))).trans c2_6
              have d2_3l := keep_lt kk2 c2_7
              have d2_4 : getCells hh2 hh1.length 0 = some [] := (keep_get kk2 c2_9 (by first | (simp; done) | (simp; omega))).trans c2_8
              have d2_4l := keep_lt kk2 c2_9
              have d2_5 : getCells hh2 (hh1.length + 1) 1 = some [.hsl nb1_0 v3.a.counts.length 0 1 false v3.a.counts.length] := (keep_get kk2 c2_11 (by first | (simp; done) | (simp; omega))).trans c2_10
              have d2_5l := keep_lt kk2 c2_11
              have d2_6 := wnb2_0
              obtain ⟨v7, hv7, hp⟩ := bind_eq hp
              by_cases hb8 : (v7) = true
              · rw [if_t hb8] at hp
                obtain ⟨v9, hv9, hp⟩ := bind_eq hp
                simp (disch := first | omega | (simp only [List.length_set, List.length_append, List.length_cons, List.length_nil, rows_len, zs]; first | done | omega)) only [ep_laws_toByteS, ep_spec_ReadVec, ep_laws_eqVector, ep_laws_eqByteS, ep_laws_heldVector, hb0, hv1, hv2, d0_0, d0_1, d0_2, hv3, d1_0, d1_1, d1_2, d1_3, hv4, hb5, hb6, d2_0, d2_1, d2_2, d2_3, d2_4, d2_5, d2_6, hv7, hb8, gs, reduceIte, reduceCtorEq, Nat.reduceAdd, Nat.reduceMul, Nat.reduceSub, Nat.reduceBEq, Nat.reduceEqDiff, Nat.reduceLeDiff, Nat.reduceLT, Nat.reduceGT, Int.reduceToNat, Int.reduceLT, Int.reduceLE, Int.reduceNeg, Int.reduceAdd, Int.reduceEq, Int.reduceNe]
                refine call_f (fun h => getCells h 0 0 = some [] ∧ 0 < h.length ∧ getCells h 1 1 = some [.i (.sl 1 (v2.a.counts.map enc))] ∧ 1 < h.length ∧ getCells h nb0_0 v1.length = some (rows (v1 : List U8)) ∧ nb0_0 < h.length ∧ getCells h nb1_0 v3.a.counts.length = some (rows (v3.a.counts : List Int)) ∧ nb1_0 < h.length ∧ getCells h hh1.length 0 = some [] ∧ hh1.length < h.length ∧ getCells h (hh1.length + 1) 1 = some [.hsl nb1_0 v3.a.counts.length 0 1 false v3.a.counts.length] ∧ hh1.length + 1 < h.length ∧ getCells h nb2_0 v1.length = some (rows (v1 : List U8)) ∧ nb2_0 < h.length) (fun h v h2 => i_laws_markByteS nb0_0 v1.length h v9 v h2) ?_ ?_ ?_
                · simp (disch := first | omega | (simp only [List.length_set, List.length_append, List.length_cons, List.length_nil, rows_len, zs]; first | done | omega)) only [ep_laws_toByteS, ep_spec_ReadVec, ep_laws_eqVector, ep_laws_eqByteS, ep_laws_heldVector, hb0, hv1, hv2, d0_0, d0_1, d0_2, hv3, d1_0, d1_1, d1_2, d1_3, hv4, hb5, hb6, d2_0, d2_1, d2_2, d2_3, d2_4, d2_5, d2_6, hv7, hb8, hv9, gs, reduceIte, reduceCtorEq, Nat.reduceAdd, Nat.reduceMul, Nat.reduceSub, Nat.reduceBEq, Nat.reduceEqDiff, Nat.reduceLeDiff, Nat.reduceLT, Nat.reduceGT, Int.reduceToNat, Int.reduceLT, Int.reduceLE, Int.reduceNeg, Int.reduceAdd, Int.reduceEq, Int.reduceNe] <;> omega
                · rintro h ⟨c3_0, c3_1, c3_2, c3_3, c3_4, c3_5, c3_6, c3_7, c3_8, c3_9, c3_10, c3_11, c3_12, c3_13⟩
                  exact e_laws_markByteS _ _ _ hv9 nb0_0 v1.length h (by first | omega | rfl) c3_4
                · rintro h v hh3 ⟨c3_0, c3_1, c3_2, c3_3, c3_4, c3_5, c3_6, c3_7, c3_8, c3_9, c3_10, c3_11, c3_12, c3_13⟩ hpost
                  obtain ⟨kk3, rfl, w3_0⟩ := hpost
                  have d3_0 : getCells hh3 0 0 = some [] := (keep_get kk3 c3_1 (by first | (simp; done) | (simp; omega))).trans c3_0
                  have d3_0l := keep_lt kk3 c3_1
                  have d3_1 : getCells hh3 1 1 = some [.i (.sl 1 (v2.a.counts.map enc))] := (keep_get kk3 c3_3 (by first | (simp; done) | (simp; omega))).trans c3_2
                  have d3_1l := keep_lt kk3 c3_3
                  have d3_2 : getCells hh3 nb0_0 v1.length = some (rows (v9.b : List U8)) := w3_0
                  have mm3_0 := len_rows w3_0
                  simp only [zs] at mm3_0
                  have d3_2l := keep_lt kk3 c3_5
                  have d3_3 : getCells hh3 nb1_0 v3.a.counts.length = some (rows (v3.a.counts : List Int)) := (keep_get kk3 c3_7 (by first | (simp; done) | (simp; omega))).trans c3_6
                  have d3_3l := keep_lt kk3 c3_7
                  have d3_4 : getCells hh3 hh1.length 0 = some [] := (keep_get kk3 c3_9 (by first | (simp; done) | (simp; omega))).trans c3_8
                  have d3_4l := keep_lt kk3 c3_9
                  have d3_5 : getCells hh3 (hh1.length + 1) 1 = some [.hsl nb1_0 v3.a.counts.length 0 1 false v3.a.counts.length] := (keep_get kk3 c3_11 (by first | (simp; done) | (simp; omega))).trans c3_10
                  have d3_5l := keep_lt kk3 c3_11
                  have d3_6 : getCells hh3 nb2_0 v1.length = some (rows (v1 : List U8)) := (keep_get kk3 c3_13 (by first | (simp; done) | (simp; omega))).trans c3_12
                  have d3_6l := keep_lt kk3 c3_13
                  by_cases hb10 : (decide (v9.a < 0)) = true
                  · rw [if_t hb10] at hp
                    cases hp
                  · replace hb10 := eq_false_of_ne_true hb10
                    rw [if_f hb10] at hp
                    obtain ⟨v11, hv11, hp⟩ := bind_eq hp
                    simp (disch := first | omega | (simp only [List.length_set, List.length_append, List.length_cons, List.length_nil, rows_len, zs]; first | done | omega)) only [ep_laws_toByteS, ep_spec_ReadVec, ep_laws_eqVector, ep_laws_eqByteS, ep_laws_heldVector, hb0, hv1, hv2, d0_0, d0_1, d0_2, hv3, d1_0, d1_1, d1_2, d1_3, hv4, hb5, hb6, d2_0, d2_1, d2_2, d2_3, d2_4, d2_5, d2_6, hv7, hb8, hv9, d3_0, d3_1, d3_2, d3_3, d3_4, d3_5, d3_6, hb10, gs, reduceIte, reduceCtorEq, Nat.reduceAdd, Nat.reduceMul, Nat.reduceSub, Nat.reduceBEq, Nat.reduceEqDiff, Nat.reduceLeDiff, Nat.reduceLT, Nat.reduceGT, Int.reduceToNat, Int.reduceLT, Int.reduceLE, Int.reduceNeg, Int.reduceAdd, Int.reduceEq, Int.reduceNe]
                    refine call_f (fun h => getCells h 0 0 = some [] ∧ 0 < h.length ∧ getCells h 1 1 = some [.i (.sl 1 (v2.a.counts.map enc))] ∧ 1 < h.length ∧ getCells h nb0_0 v1.length = some (rows (v9.b : List U8)) ∧ nb0_0 < h.length ∧ getCells h nb1_0 v3.a.counts.length = some (rows (v3.a.counts : List Int)) ∧ nb1_0 < h.length ∧ getCells h hh1.length 0 = some [] ∧ hh1.length < h.length ∧ getCells h (hh1.length + 1) 1 = some [.hsl nb1_0 v3.a.counts.length 0 1 false v3.a.counts.length] ∧ hh1.length + 1 < h.length ∧ getCells h nb2_0 v1.length = some (rows (v1 : List U8)) ∧ nb2_0 < h.length) (fun h v h2 => i_laws_markVector nb1_0 v3.a.counts.length h v11 v h2) ?_ ?_ ?_
                    · simp (disch := first | omega | (simp only [List.length_set, List.length_append, List.length_cons, List.length_nil, rows_len, zs]; first | done | omega)) only [ep_laws_toByteS, ep_spec_ReadVec, ep_laws_eqVector, ep_laws_eqByteS, ep_laws_heldVector, hb0, hv1, hv2, d0_0, d0_1, d0_2, hv3, d1_0, d1_1, d1_2, d1_3, hv4, hb5, hb6, d2_0, d2_1, d2_2, d2_3, d2_4, d2_5, d2_6, hv7, hb8, hv9, d3_0, d3_1, d3_2, d3_3, d3_4, d3_5, d3_6, hb10, hv11, gs, reduceIte, reduceCtorEq, Nat.reduceAdd, Nat.reduceMul, Nat.reduceSub, Nat.reduceBEq, Nat.reduceEqDiff, Nat.reduceLeDiff, Nat.reduceLT, Nat.reduceGT, Int.reduceToNat, Int.reduceLT, Int.reduceLE, Int.reduceNeg, Int.reduceAdd, Int.reduceEq, Int.reduceNe] <;> omega
                    · rintro h ⟨c4_0, c4_1, c4_2, c4_3, c4_4, c4_5, c4_6, c4_7, c4_8, c4_9, c4_10, c4_11, c4_12, c4_13⟩
                      exact e_laws_markVector _ _ _ hv11 nb1_0 v3.a.counts.length h (by first | omega | rfl) c4_6
                    · rintro h v hh4 ⟨c4_0, c4_1, c4_2, c4_3, c4_4, c4_5, c4_6, c4_7, c4_8, c4_9, c4_10, c4_11, c4_12, c4_13⟩ hpost
                      obtain ⟨kk4, rfl, w4_0⟩ := hpost
                      have d4_0 : getCells hh4 0 0 = some [] := (keep_get kk4 c4_1 (by first | (simp; done) | (simp; omega))).trans c4_0
                      have d4_0l := keep_lt kk4 c4_1
                      have d4_1 : getCells hh4 1 1 = some [.i (.sl 1 (v2.a.counts.map enc))] := (keep_get kk4 c4_3 (by first | (simp; done) | (simp; omega))).trans c4_2
                      have d4_1l := keep_lt kk4 c4_3
                      have d4_2 : getCells hh4 nb0_0 v1.length = some (rows (v9.b : List U8)) := (keep_get kk4 c4_5 (by first | (simp; done) | (simp; omega))).trans c4_4
                      have d4_2l := keep_lt kk4 c4_5
                      have d4_3 : getCells hh4 nb1_0 v3.a.counts.length = some (rows (v11.b.counts : List Int)) := w4_0
                      have mm4_0 := len_rows w4_0
                      simp only [zs] at mm4_0
                      have d4_3l := keep_lt kk4 c4_7
                      have d4_4 : getCells hh4 hh1.length 0 = some [] := (keep_get kk4 c4_9 (by first | (simp; done) | (simp; omega))).trans c4_8
                      have d4_4l := keep_lt kk4 c4_9
                      have d4_5 : getCells hh4 (hh1.length + 1) 1 = some [.hsl nb1_0 v3.a.counts.length 0 1 false v3.a.counts.length] := (keep_get kk4 c4_11 (by first | (simp; done) | (simp; omega))).trans c4_10
                      have d4_5l := keep_lt kk4 c4_11
                      have d4_6 : getCells hh4 nb2_0 v1.length = some (rows (v1 : List U8)) := (keep_get kk4 c4_13 (by first | (simp; done) | (simp; omega))).trans c4_12
                      have d4_6l := keep_lt kk4 c4_13
                      obtain ⟨v12, hv12, hp⟩ := bind_eq hp
                      by_cases hb13 : (decide (v12 < 0)) = true
                      · rw [if_t hb13] at hp
                        cases hp
                      · replace hb13 := eq_false_of_ne_true hb13
                        rw [if_f hb13] at hp
                        by_cases hb14 : (decide (v12 = v11.a)) = true
                        · rw [if_t hb14] at hp
                          simp (disch := first | omega | (simp only [List.length_set, List.length_append, List.length_cons, List.length_nil, rows_len, zs]; first | done | omega)) only [ep_laws_toByteS, ep_spec_ReadVec, ep_laws_eqVector, ep_laws_eqByteS, ep_laws_heldVector, hb0, hv1, hv2, d0_0, d0_1, d0_2, hv3, d1_0, d1_1, d1_2, d1_3, hv4, hb5, hb6, d2_0, d2_1, d2_2, d2_3, d2_4, d2_5, d2_6, hv7, hb8, hv9, d3_0, d3_1, d3_2, d3_3, d3_4, d3_5, d3_6, hb10, hv11, d4_0, d4_1, d4_2, d4_3, d4_4, d4_5, d4_6, hv12, hb13, hb14, gs, reduceIte, reduceCtorEq, Nat.reduceAdd, Nat.reduceMul, Nat.reduceSub, Nat.reduceBEq, Nat.reduceEqDiff, Nat.reduceLeDiff, Nat.reduceLT, Nat.reduceGT, Int.reduceToNat, Int.reduceLT, Int.reduceLE, Int.reduceNeg, Int.reduceAdd, Int.reduceEq, Int.reduceNe]
                          refine call_f (fun h => getCells h 0 0 = some [] ∧ 0 < h.length ∧ getCells h 1 1 = some [.i (.sl 1 (v2.a.counts.map enc))] ∧ 1 < h.length ∧ getCells h nb0_0 v1.length = some (rows (v9.b : List U8)) ∧ nb0_0 < h.length ∧ getCells h nb1_0 v3.a.counts.length = some (rows (v11.b.counts : List Int)) ∧ nb1_0 < h.length ∧ getCells h hh1.length 0 = some [] ∧ hh1.length < h.length ∧ getCells h (hh1.length + 1) 1 = some [.hsl nb1_0 v3.a.counts.length 0 1 false v3.a.counts.length] ∧ hh1.length + 1 < h.length ∧ getCells h nb2_0 v1.length = some (rows (v1 : List U8)) ∧ nb2_0 < h.length) (fun h v h2 => oo_laws_toByteS v1 h v h2) ?_ ?_ ?_
                          · simp (disch := first | omega | (simp only [List.length_set, List.length_append, List.length_cons, List.length_nil, rows_len, zs]; first | done | omega)) only [ep_laws_toByteS, ep_spec_ReadVec, ep_laws_eqVector, ep_laws_eqByteS, ep_laws_heldVector, hb0, hv1, hv2, d0_0, d0_1, d0_2, hv3, d1_0, d1_1, d1_2, d1_3, hv4, hb5, hb6, d2_0, d2_1, d2_2, d2_3, d2_4, d2_5, d2_6, hv7, hb8, hv9, d3_0, d3_1, d3_2, d3_3, d3_4, d3_5, d3_6, hb10, hv11, d4_0, d4_1, d4_2, d4_3, d4_4, d4_5, d4_6, hv12, hb13, hb14, gs, reduceIte, reduceCtorEq, Nat.reduceAdd, Nat.reduceMul, Nat.reduceSub, Nat.reduceBEq, Nat.reduceEqDiff, Nat.reduceLeDiff, Nat.reduceLT, Nat.reduceGT, Int.reduceToNat, Int.reduceLT, Int.reduceLE, Int.reduceNeg, Int.reduceAdd, Int.reduceEq, Int.reduceNe] <;> omega
                          · rintro h ⟨c5_0, c5_1, c5_2, c5_3, c5_4, c5_5, c5_6, c5_7, c5_8, c5_9, c5_10, c5_11, c5_12, c5_13⟩
                            exact e_laws_toByteS _ _ hv1 h _ (by simp (disch := first | omega | (simp only [List.length_set, List.length_append, List.length_cons, List.length_nil, rows_len, zs]; first | done | omega)) only [ep_laws_toByteS, ep_spec_ReadVec, ep_laws_eqVector, ep_laws_eqByteS, ep_laws_heldVector, hb0, hv1, hv2, d0_0, d0_1, d0_2, hv3, d1_0, d1_1, d1_2, d1_3, hv4, hb5, hb6, d2_0, d2_1, d2_2, d2_3, d2_4, d2_5, d2_6, hv7, hb8, hv9, d3_0, d3_1, d3_2, d3_3, d3_4, d3_5, d3_6, hb10, hv11, d4_0, d4_1, d4_2, d4_3, d4_4, d4_5, d4_6, hv12, hb13, hb14, c5_0, c5_1, c5_2, c5_3, c5_4, c5_5, c5_6, c5_7, c5_8, c5_9, c5_10, c5_11, c5_12, c5_13, gs, reduceIte, reduceCtorEq, Nat.reduceAdd, Nat.reduceMul, Nat.reduceSub, Nat.reduceBEq, Nat.reduceEqDiff, Nat.reduceLeDiff, Nat.reduceLT, Nat.reduceGT, Int.reduceToNat, Int.reduceLT, Int.reduceLE, Int.reduceNeg, Int.reduceAdd, Int.reduceEq, Int.reduceNe])
                          · rintro h v hh5 ⟨c5_0, c5_1, c5_2, c5_3, c5_4, c5_5, c5_6, c5_7, c5_8, c5_9, c5_10, c5_11, c5_12, c5_13⟩ hpost
                            obtain ⟨kk5, nb5_0, rfl, lnb5_0, gnb5_0, wnb5_0⟩ := hpost
                            have d5_0 : getCells hh5 0 0 = some [] := (keep_get kk5 c5_1 (by first | (simp; done) | (simp; omega))).trans c5_0
                            have d5_0l := keep_lt kk5 c5_1
                            have d5_1 : getCells hh5 1 1 = some [.i (.sl 1 (v2.a.counts.map enc))] := (keep_get kk5 c5_3 (by first | (simp; done) | (simp; omega))).trans c5_2
                            have d5_1l := keep_lt kk5 c5_3
                            have d5_2 : getCells hh5 nb0_0 v1.length = some (rows (v9.b : List U8)) := (keep_get kk5 c5_5 (by first | (simp; done) | (simp; omega))).trans c5_4
                            have d5_2l := keep_lt kk5 c5_5
                            have d5_3 : getCells hh5 nb1_0 v3.a.counts.length = some (rows (v11.b.counts : List Int)) := (keep_get kk5 c5_7 (by first | (simp; done) | (simp; omega))).trans c5_6
                            have d5_3l := keep_lt kk5 c5_7
                            have d5_4 : getCells hh5 hh1.length 0 = some [] := (keep_get kk5 c5_9 (by first | (simp; done) | (simp; omega))).trans c5_8
                            have d5_4l := keep_lt kk5 c5_9
                            have d5_5 : getCells hh5 (hh1.length + 1) 1 = some [.hsl nb1_0 v3.a.counts.length 0 1 false v3.a.counts.length] := (keep_get kk5 c5_11 (by first | (simp; done) | (simp; omega))).trans c5_10
                            have d5_5l := keep_lt kk5 c5_11
                            have d5_6 : getCells hh5 nb2_0 v1.length = some (rows (v1 : List U8)) := (keep_get kk5 c5_13 (by first | (simp; done) | (simp; omega))).trans c5_12
                            have d5_6l := keep_lt kk5 c5_13
                            have d5_7 := wnb5_0
                            simp (disch := first | omega | (simp only [List.length_set, List.length_append, List.length_cons, List.length_nil, rows_len, zs]; first | done | omega)) only [ep_laws_toByteS, ep_spec_ReadVec, ep_laws_eqVector, ep_laws_eqByteS, ep_laws_heldVector, hb0, hv1, hv2, d0_0, d0_1, d0_2, hv3, d1_0, d1_1, d1_2, d1_3, hv4, hb5, hb6, d2_0, d2_1, d2_2, d2_3, d2_4, d2_5, d2_6, hv7, hb8, hv9, d3_0, d3_1, d3_2, d3_3, d3_4, d3_5, d3_6, hb10, hv11, d4_0, d4_1, d4_2, d4_3, d4_4, d4_5, d4_6, hv12, hb13, hb14, d5_0, d5_1, d5_2, d5_3, d5_4, d5_5, d5_6, d5_7, gs, reduceIte, reduceCtorEq, Nat.reduceAdd, Nat.reduceMul, Nat.reduceSub, Nat.reduceBEq, Nat.reduceEqDiff, Nat.reduceLeDiff, Nat.reduceLT, Nat.reduceGT, Int.reduceToNat, Int.reduceLT, Int.reduceLE, Int.reduceNeg, Int.reduceAdd, Int.reduceEq, Int.reduceNe]
                            refine call_f (fun h => getCells h 0 0 = some [] ∧ 0 < h.length ∧ getCells h 1 1 = some [.i (.sl 1 (v2.a.counts.map enc))] ∧ 1 < h.length ∧ getCells h nb0_0 v1.length = some (rows (v9.b : List U8)) ∧ nb0_0 < h.length ∧ getCells h nb1_0 v3.a.counts.length = some (rows (v11.b.counts : List Int)) ∧ nb1_0 < h.length ∧ getCells h hh1.length 0 = some [] ∧ hh1.length < h.length ∧ getCells h (hh1.length + 1) 1 = some [.hsl nb1_0 v3.a.counts.length 0 1 false v3.a.counts.length] ∧ hh1.length + 1 < h.length ∧ getCells h nb2_0 v1.length = some (rows (v1 : List U8)) ∧ nb2_0 < h.length ∧ getCells h nb5_0 v1.length = some (rows (v1 : List U8)) ∧ nb5_0 < h.length) (fun h v h2 => oo_impl_ReadVec v3 h v h2) ?_ ?_ ?_
                            · simp (disch := first | omega | (simp only [List.length_set, List.length_append, List.length_cons, List.length_nil, rows_len, zs]; first | done | omega)) only [ep_laws_toByteS, ep_spec_ReadVec, ep_laws_eqVector, ep_laws_eqByteS, ep_laws_heldVector, hb0, hv1, hv2, d0_0, d0_1, d0_2, hv3, d1_0, d1_1, d1_2, d1_3, hv4, hb5, hb6, d2_0, d2_1, d2_2, d2_3, d2_4, d2_5, d2_6, hv7, hb8, hv9, d3_0, d3_1, d3_2, d3_3, d3_4, d3_5, d3_6, hb10, hv11, d4_0, d4_1, d4_2, d4_3, d4_4, d4_5, d4_6, hv12, hb13, hb14, d5_0, d5_1, d5_2, d5_3, d5_4, d5_5, d5_6, d5_7, gs, reduceIte, reduceCtorEq, Nat.reduceAdd, Nat.reduceMul, Nat.reduceSub, Nat.reduceBEq, Nat.reduceEqDiff, Nat.reduceLeDiff, Nat.reduceLT, Nat.reduceGT, Int.reduceToNat, Int.reduceLT, Int.reduceLE, Int.reduceNeg, Int.reduceAdd, Int.reduceEq, Int.reduceNe] <;> omega
                            · rintro h ⟨c6_0, c6_1, c6_2, c6_3, c6_4, c6_5, c6_6, c6_7, c6_8, c6_9, c6_10, c6_11, c6_12, c6_13, c6_14, c6_15⟩
                              exact e_impl_ReadVec _ _ hv3 h _ (by simp (disch := first | omega | (simp only [List.length_set, List.length_append, List.length_cons, List.length_nil, rows_len, zs]; first | done | omega)) only [ep_laws_toByteS, ep_spec_ReadVec, ep_laws_eqVector, ep_laws_eqByteS, ep_laws_heldVector, hb0, hv1, hv2, d0_0, d0_1, d0_2, hv3, d1_0, d1_1, d1_2, d1_3, hv4, hb5, hb6, d2_0, d2_1, d2_2, d2_3, d2_4, d2_5, d2_6, hv7, hb8, hv9, d3_0, d3_1, d3_2, d3_3, d3_4, d3_5, d3_6, hb10, hv11, d4_0, d4_1, d4_2, d4_3, d4_4, d4_5, d4_6, hv12, hb13, hb14, d5_0, d5_1, d5_2, d5_3, d5_4, d5_5, d5_6, d5_7, c6_0, c6_1, c6_2, c6_3, c6_4, c6_5, c6_6, c6_7, c6_8, c6_9, c6_10, c6_11, c6_12, c6_13, c6_14, c6_15, gs, reduceIte, reduceCtorEq, Nat.reduceAdd, Nat.reduceMul, Nat.reduceSub, Nat.reduceBEq, Nat.reduceEqDiff, Nat.reduceLeDiff, Nat.reduceLT, Nat.reduceGT, Int.reduceToNat, Int.reduceLT, Int.reduceLE, Int.reduceNeg, Int.reduceAdd, Int.reduceEq, Int.reduceNe])
                            · rintro h v hh6 ⟨c6_0, c6_1, c6_2, c6_3, c6_4, c6_5, c6_6, c6_7, c6_8, c6_9, c6_10, c6_11, c6_12, c6_13, c6_14, c6_15⟩ hpost
                              obtain ⟨kk6, nb6_0, rfl, lnb6_0, gnb6_0, wnb6_0⟩ := hpost
                              have d6_0 : getCells hh6 0 0 = some [] := (keep_get kk6 c6_1 (by first | (simp; done) | (simp; omega))).trans c6_0
                              have d6_0l := keep_lt kk6 c6_1
                              have d6_1 : getCells hh6 1 1 = some [.i (.sl 1 (v2.a.counts.map enc))] := (keep_get kk6 c6_3 (by first | (simp; done) | (simp; omega))).trans c6_2
                              have d6_1l := keep_lt kk6 c6_3
                              have d6_2 : getCells hh6 nb0_0 v1.length = some (rows (v9.b : List U8)) := (keep_get kk6 c6_5 (by first | (simp; done) | (simp; omega))).trans c6_4
                              have d6_2l := keep_lt kk6 c6_5
                              have d6_3 : getCells hh6 nb1_0 v3.a.counts.length = some (rows (v11.b.counts : List Int)) := (keep_get kk6 c6_7 (by first | (simp; done) | (simp; omega))).trans c6_6
                              have d6_3l := keep_lt kk6 c6_7
                              have d6_4 : getCells hh6 hh1.length 0 = some [] := (keep_get kk6 c6_9 (by first | (simp; done) | (simp; omega))).trans c6_8
                              have d6_4l := keep_lt kk6 c6_9
                              have d6_5 : getCells hh6 (hh1.length + 1) 1 = some [.hsl nb1_0 v3.a.counts.length 0 1 false v3.a.counts.length] := (keep_get kk6 c6_11 (by first | (simp; done) | (simp; omega))).trans c6_10
                              have d6_5l := keep_lt kk6 c6_11
                              have d6_6 : getCells hh6 nb2_0 v1.length = some (rows (v1 : List U8)) := (keep_get kk6 c6_13 (by first | (simp; done) | (simp; omega))).trans c6_12
                              have d6_6l := keep_lt kk6 c6_13
                              have d6_7 : getCells hh6 nb5_0 v1.length = some (rows (v1 : List U8)) := (keep_get kk6 c6_15 (by first | (simp; done) | (simp; omega))).trans c6_14
                              have d6_7l := keep_lt kk6 c6_15
                              have d6_8 := wnb6_0
                              cases hp
                              simp (disch := first | omega | (simp only [List.length_set, List.length_append, List.length_cons, List.length_nil, rows_len, zs]; first | done | omega)) only [ep_laws_toByteS, ep_spec_ReadVec, ep_laws_eqVector, ep_laws_eqByteS, ep_laws_heldVector, hb0, hv1, hv2, d0_0, d0_1, d0_2, hv3, d1_0, d1_1, d1_2, d1_3, hv4, hb5, hb6, d2_0, d2_1, d2_2, d2_3, d2_4, d2_5, d2_6, hv7, hb8, hv9, d3_0, d3_1, d3_2, d3_3, d3_4, d3_5, d3_6, hb10, hv11, d4_0, d4_1, d4_2, d4_3, d4_4, d4_5, d4_6, hv12, hb13, hb14, d5_0, d5_1, d5_2, d5_3, d5_4, d5_5, d5_6, d5_7, d6_0, d6_1, d6_2, d6_3, d6_4, d6_5, d6_6, d6_7, d6_8, gs, reduceIte, reduceCtorEq, Nat.reduceAdd, Nat.reduceMul, Nat.reduceSub, Nat.reduceBEq, Nat.reduceEqDiff, Nat.reduceLeDiff, Nat.reduceLT, Nat.reduceGT, Int.reduceToNat, Int.reduceLT, Int.reduceLE, Int.reduceNeg, Int.reduceAdd, Int.reduceEq, Int.reduceNe]
                        · replace hb14 := eq_false_of_ne_true hb14
                          rw [if_f hb14] at hp
                          cases hp
              · replace hb8 := eq_false_of_ne_true hb8
                rw [if_f hb8] at hp
                cases hp
          · replace hb6 := eq_false_of_ne_true hb6
            rw [if_f hb6] at hp
            cases hp
        · replace hb5 := eq_false_of_ne_true hb5
          rw [if_f hb5] at hp
          cases hp

end Go.AM
