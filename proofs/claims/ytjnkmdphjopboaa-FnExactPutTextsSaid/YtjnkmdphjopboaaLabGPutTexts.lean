/- Plain functions of PutTexts and their walks. No condition. -/
import Derived.Test.YtjnkmdphjopboaaLabB35
set_option linter.unusedVariables false
set_option linter.unusedSimpArgs false
namespace Go.AM
open Pic (enc dec dec_enc dec_sub)
open PicA (encA decA decA_encA decA_sub)
noncomputable def p_laws_szStringS_l0 (x0 : List ByteArray) : Int × Int → Option (Lp (Int × Int) Int)
  | (s1, s2) =>
    if (decide (s2 < (x0.length : Int))) = true then
      (get? x0 s2).bind fun v4 =>
      if (decide (w64 (s1 - (v4.size : Int)) < 0)) = true then
        some (.ret (-1))
      else
        some (.go (w64 (s1 - (v4.size : Int)), w64 (s2 + 1)))
    else
      some (.out (s1, s2))
noncomputable def p_laws_szStringS (x0 : List ByteArray) (x1 : Int) : Option Int :=
  if (decide (w64 (x1 - (x0.length : Int)) < 0)) = true then
    some (-1)
  else
    (loopP (p_laws_szStringS_l0 x0) (w64 (x1 - (x0.length : Int)), 0)).bind fun ee0 => match ee0 with
    | .ret r => some r
    | .out (o6, o7) =>
      some o6
def c_laws_szStringS : AFn := ⟨28, (.seq (.ops [⟨(.some 4), (.mv (.const (.int .i64 0))), .none, []⟩]) (.seq (.ops [⟨(.some 6), (.mv (.tmp 1)), .none, []⟩, ⟨(.some 7), (.mv (.tmp 0)), .none, []⟩, ⟨(.some 8), (.len (.tmp 7)), .none, []⟩, ⟨(.some 9), (.pu (.n (.ar .sub)) [(.tmp 6), (.tmp 8)]), .none, []⟩, ⟨(.some 1), (.mv (.tmp 9)), .none, []⟩]) (.seq (.seq (.ops [⟨(.some 10), (.mv (.tmp 1)), .none, []⟩, ⟨(.some 11), (.pu (.n (.ar .lss)) [(.tmp 10), (.const (.int .i64 0))]), .none, []⟩]) (.cond (.tmp 11) (.seq (.ops [⟨(.some 4), (.mv (.const (.int .i64 (-1)))), .none, []⟩]) .ret) .skip)) (.seq (.seq (.ops [⟨(.some 5), (.mv (.const (.int .i64 0))), .none, []⟩]) (.block 0 (.loop (.seq (.seq (.ops [⟨(.some 12), (.mv (.tmp 5)), .none, []⟩, ⟨(.some 13), (.mv (.tmp 0)), .none, []⟩, ⟨(.some 14), (.len (.tmp 13)), .none, []⟩, ⟨(.some 15), (.pu (.n (.ar .lss)) [(.tmp 12), (.tmp 14)]), .none, []⟩]) (.cond (.tmp 15) .skip (.exit 0))) (.seq (.block 1 (.seq (.ops [⟨(.some 18), (.mv (.tmp 1)), .none, []⟩, ⟨(.some 19), (.mv (.tmp 0)), .none, []⟩, ⟨(.some 20), (.mv (.tmp 5)), .none, []⟩, ⟨(.some 21), (.idxS 1 (.tmp 19) (.tmp 20)), .none, []⟩, ⟨(.some 22), (.load 1 false (.tmp 21)), .none, []⟩, ⟨(.some 23), (.pu (.n .len) [(.tmp 22)]), .none, []⟩, ⟨(.some 24), (.pu (.n (.ar .sub)) [(.tmp 18), (.tmp 23)]), .none, []⟩, ⟨(.some 1), (.mv (.tmp 24)), .none, []⟩]) (.seq (.ops [⟨(.some 25), (.mv (.tmp 1)), .none, []⟩, ⟨(.some 26), (.pu (.n (.ar .lss)) [(.tmp 25), (.const (.int .i64 0))]), .none, []⟩]) (.cond (.tmp 26) (.seq (.ops [⟨(.some 4), (.mv (.const (.int .i64 (-1)))), .none, []⟩]) .ret) .skip)))) (.ops [⟨(.some 16), (.mv (.tmp 5)), .none, []⟩, ⟨(.some 17), (.pu (.n (.ar .add)) [(.tmp 16), (.const (.int .i64 1))]), .none, []⟩, ⟨(.some 5), (.mv (.tmp 17)), .none, []⟩])))))) (.seq (.ops [⟨(.some 27), (.mv (.tmp 1)), .none, []⟩, ⟨(.some 4), (.mv (.tmp 27)), .none, []⟩]) .ret))))), [(.tmp 4)]⟩
set_option maxHeartbeats 10000000 in
theorem d_laws_szStringS {P : Program} {env : Env}  (x0 : List ByteArray) (x1 : Int) {b : Int} (hp : p_laws_szStringS x0 x1 = some b) : R P env (c_laws_szStringS) ((encA (x0, x1)).map ofI) [] (Tells true b) := by
  refine R_of (by simp [c_laws_szStringS, encA]) ?_
  unfold c_laws_szStringS
  unfold p_laws_szStringS at hp
  by_cases hb0 : (decide (w64 (x1 - (x0.length : Int)) < 0)) = true
  · rw [if_t hb0] at hp
    have hp := Option.some.inj hp
    subst hp
    simp (disch := first | omega | (simp only [List.length_set, List.length_append, List.length_cons, List.length_nil, rows_len, zs]; first | done | omega)) only [hb0, gs, reduceIte, reduceCtorEq, Nat.reduceAdd, Nat.reduceMul, Nat.reduceSub, Nat.reduceBEq, Nat.reduceEqDiff, Nat.reduceLeDiff, Nat.reduceLT, Nat.reduceGT, Int.reduceToNat, Int.reduceLT, Int.reduceLE, Int.reduceNeg, Int.reduceAdd, Int.reduceEq, Int.reduceNe]
  · replace hb0 := eq_false_of_ne_true hb0
    rw [if_f hb0] at hp
    obtain ⟨ee0, hee0, hp⟩ := bind_eq hp
    simp (disch := first | omega | (simp only [List.length_set, List.length_append, List.length_cons, List.length_nil, rows_len, zs]; first | done | omega)) only [hb0, gs, reduceIte, reduceCtorEq, Nat.reduceAdd, Nat.reduceMul, Nat.reduceSub, Nat.reduceBEq, Nat.reduceEqDiff, Nat.reduceLeDiff, Nat.reduceLT, Nat.reduceGT, Int.reduceToNat, Int.reduceLT, Int.reduceLE, Int.reduceNeg, Int.reduceAdd, Int.reduceEq, Int.reduceNe]
    refine W_loopP 0 (fun s t h => match s with | (s1, s2) => t 0 = .i (.sl 1 (x0.map enc)) ∧ t 1 = .i (.s (.int .i64 s1)) ∧ t 5 = .i (.s (.int .i64 s2))) (RK [.tmp 4] (Tells true)) ?_ hee0 ?_ ?_
    · rintro ⟨s1, s2⟩ ee tt0 hh0 ⟨ftt0_0, ftt0_1, ftt0_2⟩ hp
      rw [p_laws_szStringS_l0] at hp
      by_cases hb3 : (decide (s2 < (x0.length : Int))) = true
      · rw [if_t hb3] at hp
        obtain ⟨v4, hv4, hp⟩ := bind_eq hp
        by_cases hb5 : (decide (w64 (s1 - (v4.size : Int)) < 0)) = true
        · rw [if_t hb5] at hp
          have hp := Option.some.inj hp
          subst hp
          simp (disch := first | omega | (simp only [List.length_set, List.length_append, List.length_cons, List.length_nil, rows_len, zs]; first | done | omega)) only [hb0, ftt0_0, ftt0_1, ftt0_2, hb3, hv4, hb5, gs, reduceIte, reduceCtorEq, Nat.reduceAdd, Nat.reduceMul, Nat.reduceSub, Nat.reduceBEq, Nat.reduceEqDiff, Nat.reduceLeDiff, Nat.reduceLT, Nat.reduceGT, Int.reduceToNat, Int.reduceLT, Int.reduceLE, Int.reduceNeg, Int.reduceAdd, Int.reduceEq, Int.reduceNe]
        · replace hb5 := eq_false_of_ne_true hb5
          rw [if_f hb5] at hp
          have hp := Option.some.inj hp
          subst hp
          simp (disch := first | omega | (simp only [List.length_set, List.length_append, List.length_cons, List.length_nil, rows_len, zs]; first | done | omega)) only [hb0, ftt0_0, ftt0_1, ftt0_2, hb3, hv4, hb5, gs, reduceIte, reduceCtorEq, Nat.reduceAdd, Nat.reduceMul, Nat.reduceSub, Nat.reduceBEq, Nat.reduceEqDiff, Nat.reduceLeDiff, Nat.reduceLT, Nat.reduceGT, Int.reduceToNat, Int.reduceLT, Int.reduceLE, Int.reduceNeg, Int.reduceAdd, Int.reduceEq, Int.reduceNe] <;> omega
      · replace hb3 := eq_false_of_ne_true hb3
        rw [if_f hb3] at hp
        have hp := Option.some.inj hp
        subst hp
        simp (disch := first | omega | (simp only [List.length_set, List.length_append, List.length_cons, List.length_nil, rows_len, zs]; first | done | omega)) only [hb0, ftt0_0, ftt0_1, ftt0_2, hb3, gs, reduceIte, reduceCtorEq, Nat.reduceAdd, Nat.reduceMul, Nat.reduceSub, Nat.reduceBEq, Nat.reduceEqDiff, Nat.reduceLeDiff, Nat.reduceLT, Nat.reduceGT, Int.reduceToNat, Int.reduceLT, Int.reduceLE, Int.reduceNeg, Int.reduceAdd, Int.reduceEq, Int.reduceNe] <;> omega
    · simp (disch := first | omega | (simp only [List.length_set, List.length_append, List.length_cons, List.length_nil, rows_len, zs]; first | done | omega)) only [hb0, gs, reduceIte, reduceCtorEq, Nat.reduceAdd, Nat.reduceMul, Nat.reduceSub, Nat.reduceBEq, Nat.reduceEqDiff, Nat.reduceLeDiff, Nat.reduceLT, Nat.reduceGT, Int.reduceToNat, Int.reduceLT, Int.reduceLE, Int.reduceNeg, Int.reduceAdd, Int.reduceEq, Int.reduceNe] <;> omega
    · intro x tt1 hh1 hx
      rcases ee0 with ⟨o6, o7⟩ | r
      · obtain ⟨rfl, ftt1_0, ftt1_1, ftt1_2⟩ := hx
        dsimp only at hp
        have hp := Option.some.inj hp
        subst hp
        simp (disch := first | omega | (simp only [List.length_set, List.length_append, List.length_cons, List.length_nil, rows_len, zs]; first | done | omega)) only [hb0, ftt1_0, ftt1_1, ftt1_2, gs, reduceIte, reduceCtorEq, Nat.reduceAdd, Nat.reduceMul, Nat.reduceSub, Nat.reduceBEq, Nat.reduceEqDiff, Nat.reduceLeDiff, Nat.reduceLT, Nat.reduceGT, Int.reduceToNat, Int.reduceLT, Int.reduceLE, Int.reduceNeg, Int.reduceAdd, Int.reduceEq, Int.reduceNe]
      · obtain ⟨rfl, hx⟩ := hx
        dsimp only at hp
        cases hp
        simp only [seqK_ret, blockK_ret, retK_RK (K := Tells true), hx, and_self, true_and]

noncomputable def p_laws_toStringS_l0 (x0 : List ByteArray) : List ByteArray × Int → Option (Lp (List ByteArray × Int) (List ByteArray))
  | (s1, s2) =>
    if (decide (s2 < (x0.length : Int))) = true then
      (get? x0 s2).bind fun v4 =>
      (get? s1 s2).bind fun v5 =>
      some (.go ((s1.set s2.toNat v4), w64 (s2 + 1)))
    else
      some (.out (s1, s2))
noncomputable def p_laws_toStringS (x0 : List ByteArray) : Option (List ByteArray) :=
  ((mkL (x0.length : Int) 16 (x0.length : Int) (ByteArray.mk #[]) : Option (List ByteArray))).bind fun v0 =>
  (loopP (p_laws_toStringS_l0 x0) (v0, 0)).bind fun ee0 => match ee0 with
  | .ret r => some r
  | .out (o7, o8) =>
    some o7
def c_laws_toStringS : AFn := ⟨22, (.seq (.ops [⟨(.some 2), (.vnil 1 false), .none, []⟩]) (.seq (.ops [⟨(.some 5), (.mv (.tmp 0)), .none, []⟩, ⟨(.some 6), (.len (.tmp 5)), .none, []⟩, ⟨(.some 7), (.makeSl 1 false 16 [(.string ⟨#[]⟩)] (.tmp 6) (.tmp 6)), .none, []⟩, ⟨(.some 3), (.mv (.tmp 7)), .none, []⟩]) (.seq (.seq (.ops [⟨(.some 4), (.mv (.const (.int .i64 0))), .none, []⟩]) (.block 0 (.loop (.seq (.seq (.ops [⟨(.some 8), (.mv (.tmp 4)), .none, []⟩, ⟨(.some 9), (.mv (.tmp 0)), .none, []⟩, ⟨(.some 10), (.len (.tmp 9)), .none, []⟩, ⟨(.some 11), (.pu (.n (.ar .lss)) [(.tmp 8), (.tmp 10)]), .none, []⟩]) (.cond (.tmp 11) .skip (.exit 0))) (.seq (.block 1 (.ops [⟨(.some 14), (.mv (.tmp 3)), .none, []⟩, ⟨(.some 15), (.mv (.tmp 4)), .none, []⟩, ⟨(.some 16), (.mv (.tmp 0)), .none, []⟩, ⟨(.some 17), (.mv (.tmp 4)), .none, []⟩, ⟨(.some 18), (.idxS 1 (.tmp 16) (.tmp 17)), .none, []⟩, ⟨(.some 19), (.load 1 false (.tmp 18)), .none, []⟩, ⟨(.some 20), (.idxS 1 (.tmp 14) (.tmp 15)), .none, []⟩, ⟨.none, (.storeV [(0, false)] 1 (.tmp 20) (.tmp 19)), .none, []⟩])) (.ops [⟨(.some 12), (.mv (.tmp 4)), .none, []⟩, ⟨(.some 13), (.pu (.n (.ar .add)) [(.tmp 12), (.const (.int .i64 1))]), .none, []⟩, ⟨(.some 4), (.mv (.tmp 13)), .none, []⟩])))))) (.seq (.ops [⟨(.some 21), (.mv (.tmp 3)), .none, []⟩, ⟨(.some 2), (.mv (.tmp 21)), .none, []⟩]) .ret)))), [(.tmp 2)]⟩
set_option maxHeartbeats 10000000 in
theorem d_laws_toStringS {P : Program} {env : Env}  (x0 : List ByteArray) {b : List ByteArray} (hp : p_laws_toStringS x0 = some b) : R P env (c_laws_toStringS) ((encA (x0)).map ofI) [] (Tells true b) := by
  refine R_of (by simp [c_laws_toStringS, encA]) ?_
  unfold c_laws_toStringS
  unfold p_laws_toStringS at hp
  obtain ⟨v0, hv0, hp⟩ := bind_eq hp
  obtain ⟨kv0, qv0, lv0⟩ := mkL_some hv0
  have rv0 : (List.replicate x0.length [.i (.s (.string (ByteArray.mk #[])))]).flatten = rows v0 := by rw [qv0]; exact rows_rep (x := ((ByteArray.mk #[]) : ByteArray)) rfl
  have mv0 : x0.length = v0.length := by rw [lv0]; simp
  obtain ⟨ee0, hee0, hp⟩ := bind_eq hp
  simp (disch := first | omega | (simp only [List.length_set, List.length_append, List.length_cons, List.length_nil, rows_len, zs]; first | done | omega)) only [hv0, rv0, kv0.1, kv0.2.1, kv0.2.2.1, kv0.2.2.2, gs, reduceIte, reduceCtorEq, Nat.reduceAdd, Nat.reduceMul, Nat.reduceSub, Nat.reduceBEq, Nat.reduceEqDiff, Nat.reduceLeDiff, Nat.reduceLT, Nat.reduceGT, Int.reduceToNat, Int.reduceLT, Int.reduceLE, Int.reduceNeg, Int.reduceAdd, Int.reduceEq, Int.reduceNe]
  refine W_loopP 0 (fun s t h => match s with | (s1, s2) => t 0 = .i (.sl 1 (x0.map enc)) ∧ t 3 = .hsl 1 x0.length 0 1 false x0.length ∧ t 4 = .i (.s (.int .i64 s2)) ∧ getCells h 1 x0.length = some (rows (s1 : List ByteArray)) ∧ 1 < h.length) (RK [.tmp 2] (Tells true)) ?_ hee0 ?_ ?_
  · rintro ⟨s1, s2⟩ ee tt0 hh0 ⟨ftt0_0, ftt0_1, ftt0_2, ftt0_3, ftt0_4⟩ hp
    have ztt0_3 := len_rows ftt0_3
    simp only [zs] at ztt0_3
    rw [p_laws_toStringS_l0] at hp
    by_cases hb3 : (decide (s2 < (x0.length : Int))) = true
    · rw [if_t hb3] at hp
      obtain ⟨v4, hv4, hp⟩ := bind_eq hp
      obtain ⟨v5, hv5, hp⟩ := bind_eq hp
      have gv5 := get_some hv5
      have hs6 : List.take s2.toNat (rows s1) ++ .i (.s (.string v4)) :: List.drop (s2.toNat + 1) (rows s1) = rows (s1.set s2.toNat v4) := by simpa [splice, zs, cellsV, I.cells, enc_str] using rows_set_off (y := v4) (ys := [.i (.s (.string v4))]) (k := 0) gv5.2.2 (Nat.le_of_ble_eq_true rfl) (by rfl)
      have hp := Option.some.inj hp
      subst hp
      simp (disch := first | omega | (simp only [List.length_set, List.length_append, List.length_cons, List.length_nil, rows_len, zs]; first | done | omega)) only [hv0, rv0, kv0.1, kv0.2.1, kv0.2.2.1, kv0.2.2.2, ftt0_0, ftt0_1, ftt0_2, ftt0_3, ftt0_4, hb3, hv4, hv5, (gv5).1, (gv5).2.1, hs6, gs, reduceIte, reduceCtorEq, Nat.reduceAdd, Nat.reduceMul, Nat.reduceSub, Nat.reduceBEq, Nat.reduceEqDiff, Nat.reduceLeDiff, Nat.reduceLT, Nat.reduceGT, Int.reduceToNat, Int.reduceLT, Int.reduceLE, Int.reduceNeg, Int.reduceAdd, Int.reduceEq, Int.reduceNe] <;> omega
    · replace hb3 := eq_false_of_ne_true hb3
      rw [if_f hb3] at hp
      have hp := Option.some.inj hp
      subst hp
      simp (disch := first | omega | (simp only [List.length_set, List.length_append, List.length_cons, List.length_nil, rows_len, zs]; first | done | omega)) only [hv0, rv0, kv0.1, kv0.2.1, kv0.2.2.1, kv0.2.2.2, ftt0_0, ftt0_1, ftt0_2, ftt0_3, ftt0_4, hb3, gs, reduceIte, reduceCtorEq, Nat.reduceAdd, Nat.reduceMul, Nat.reduceSub, Nat.reduceBEq, Nat.reduceEqDiff, Nat.reduceLeDiff, Nat.reduceLT, Nat.reduceGT, Int.reduceToNat, Int.reduceLT, Int.reduceLE, Int.reduceNeg, Int.reduceAdd, Int.reduceEq, Int.reduceNe] <;> omega
  · simp (disch := first | omega | (simp only [List.length_set, List.length_append, List.length_cons, List.length_nil, rows_len, zs]; first | done | omega)) only [hv0, rv0, kv0.1, kv0.2.1, kv0.2.2.1, kv0.2.2.2, gs, reduceIte, reduceCtorEq, Nat.reduceAdd, Nat.reduceMul, Nat.reduceSub, Nat.reduceBEq, Nat.reduceEqDiff, Nat.reduceLeDiff, Nat.reduceLT, Nat.reduceGT, Int.reduceToNat, Int.reduceLT, Int.reduceLE, Int.reduceNeg, Int.reduceAdd, Int.reduceEq, Int.reduceNe] <;> omega
  · intro x tt1 hh1 hx
    rcases ee0 with ⟨o7, o8⟩ | r
    · obtain ⟨rfl, ftt1_0, ftt1_1, ftt1_2, ftt1_3, ftt1_4⟩ := hx
      have ztt1_3 := len_rows ftt1_3
      simp only [zs] at ztt1_3
      dsimp only at hp
      have hp := Option.some.inj hp
      subst hp
      simp (disch := first | omega | (simp only [List.length_set, List.length_append, List.length_cons, List.length_nil, rows_len, zs]; first | done | omega)) only [hv0, rv0, kv0.1, kv0.2.1, kv0.2.2.1, kv0.2.2.2, ftt1_0, ftt1_1, ftt1_2, ftt1_3, ftt1_4, gs, reduceIte, reduceCtorEq, Nat.reduceAdd, Nat.reduceMul, Nat.reduceSub, Nat.reduceBEq, Nat.reduceEqDiff, Nat.reduceLeDiff, Nat.reduceLT, Nat.reduceGT, Int.reduceToNat, Int.reduceLT, Int.reduceLE, Int.reduceNeg, Int.reduceAdd, Int.reduceEq, Int.reduceNe]
    · obtain ⟨rfl, hx⟩ := hx
      dsimp only at hp
      cases hp
      simp only [seqK_ret, blockK_ret, retK_RK (K := Tells true), hx, and_self, true_and]

def o_laws_toStringS (b : List ByteArray) (v : V) (h : Heap) : Prop := ∃ n0 : Nat, v = .hsl n0 b.length 0 1 false b.length ∧ getCells h n0 b.length = some (rows b)
def oo_laws_toStringS (b : List ByteArray) (h : Heap) (v : V) (h2 : Heap) : Prop := Keep [] h h2 ∧ ∃ n0 : Nat, v = .hsl n0 b.length 0 1 false b.length ∧ n0 < h2.length ∧ h.length ≤ n0 ∧ getCells h2 n0 b.length = some (rows b)
def k_laws_toStringS (F : Fun) : Prop := ∀ (x0 : List ByteArray) (b : List ByteArray), p_laws_toStringS x0 = some b → ∀ (h : Heap) (args : List V), snapA 9 false h args = some (encA (x0)) → ∃ p, F none args h = some p ∧ oo_laws_toStringS b h p.1 p.2
set_option maxHeartbeats 10000000 in
theorem w_laws_toStringS {P : Program} {env : Env}  (x0 : List ByteArray) {b : List ByteArray} (hp : p_laws_toStringS x0 = some b) : R P env (c_laws_toStringS) ((encA (x0)).map ofI) [] (o_laws_toStringS b) := by
  refine R_of (by simp [c_laws_toStringS, encA]) ?_
  unfold c_laws_toStringS
  unfold p_laws_toStringS at hp
  obtain ⟨v0, hv0, hp⟩ := bind_eq hp
  obtain ⟨kv0, qv0, lv0⟩ := mkL_some hv0
  have rv0 : (List.replicate x0.length [.i (.s (.string (ByteArray.mk #[])))]).flatten = rows v0 := by rw [qv0]; exact rows_rep (x := ((ByteArray.mk #[]) : ByteArray)) rfl
  have mv0 : x0.length = v0.length := by rw [lv0]; simp
  obtain ⟨ee0, hee0, hp⟩ := bind_eq hp
  simp (disch := first | omega | (simp only [List.length_set, List.length_append, List.length_cons, List.length_nil, rows_len, zs]; first | done | omega)) only [hv0, rv0, kv0.1, kv0.2.1, kv0.2.2.1, kv0.2.2.2, gs, reduceIte, reduceCtorEq, Nat.reduceAdd, Nat.reduceMul, Nat.reduceSub, Nat.reduceBEq, Nat.reduceEqDiff, Nat.reduceLeDiff, Nat.reduceLT, Nat.reduceGT, Int.reduceToNat, Int.reduceLT, Int.reduceLE, Int.reduceNeg, Int.reduceAdd, Int.reduceEq, Int.reduceNe]
  refine W_loopP 0 (fun s t h => match s with | (s1, s2) => t 0 = .i (.sl 1 (x0.map enc)) ∧ t 3 = .hsl 1 x0.length 0 1 false x0.length ∧ t 4 = .i (.s (.int .i64 s2)) ∧ getCells h 1 x0.length = some (rows (s1 : List ByteArray)) ∧ 1 < h.length) (RK [.tmp 2] (o_laws_toStringS)) ?_ hee0 ?_ ?_
  · rintro ⟨s1, s2⟩ ee tt0 hh0 ⟨ftt0_0, ftt0_1, ftt0_2, ftt0_3, ftt0_4⟩ hp
    have ztt0_3 := len_rows ftt0_3
    simp only [zs] at ztt0_3
    rw [p_laws_toStringS_l0] at hp
    by_cases hb3 : (decide (s2 < (x0.length : Int))) = true
    · rw [if_t hb3] at hp
      obtain ⟨v4, hv4, hp⟩ := bind_eq hp
      obtain ⟨v5, hv5, hp⟩ := bind_eq hp
      have gv5 := get_some hv5
      have hs6 : List.take s2.toNat (rows s1) ++ .i (.s (.string v4)) :: List.drop (s2.toNat + 1) (rows s1) = rows (s1.set s2.toNat v4) := by simpa [splice, zs, cellsV, I.cells, enc_str] using rows_set_off (y := v4) (ys := [.i (.s (.string v4))]) (k := 0) gv5.2.2 (Nat.le_of_ble_eq_true rfl) (by rfl)
      have hp := Option.some.inj hp
      subst hp
      simp (disch := first | omega | (simp only [List.length_set, List.length_append, List.length_cons, List.length_nil, rows_len, zs]; first | done | omega)) only [hv0, rv0, kv0.1, kv0.2.1, kv0.2.2.1, kv0.2.2.2, ftt0_0, ftt0_1, ftt0_2, ftt0_3, ftt0_4, hb3, hv4, hv5, (gv5).1, (gv5).2.1, hs6, gs, reduceIte, reduceCtorEq, Nat.reduceAdd, Nat.reduceMul, Nat.reduceSub, Nat.reduceBEq, Nat.reduceEqDiff, Nat.reduceLeDiff, Nat.reduceLT, Nat.reduceGT, Int.reduceToNat, Int.reduceLT, Int.reduceLE, Int.reduceNeg, Int.reduceAdd, Int.reduceEq, Int.reduceNe] <;> omega
    · replace hb3 := eq_false_of_ne_true hb3
      rw [if_f hb3] at hp
      have hp := Option.some.inj hp
      subst hp
      simp (disch := first | omega | (simp only [List.length_set, List.length_append, List.length_cons, List.length_nil, rows_len, zs]; first | done | omega)) only [hv0, rv0, kv0.1, kv0.2.1, kv0.2.2.1, kv0.2.2.2, ftt0_0, ftt0_1, ftt0_2, ftt0_3, ftt0_4, hb3, gs, reduceIte, reduceCtorEq, Nat.reduceAdd, Nat.reduceMul, Nat.reduceSub, Nat.reduceBEq, Nat.reduceEqDiff, Nat.reduceLeDiff, Nat.reduceLT, Nat.reduceGT, Int.reduceToNat, Int.reduceLT, Int.reduceLE, Int.reduceNeg, Int.reduceAdd, Int.reduceEq, Int.reduceNe] <;> omega
  · simp (disch := first | omega | (simp only [List.length_set, List.length_append, List.length_cons, List.length_nil, rows_len, zs]; first | done | omega)) only [hv0, rv0, kv0.1, kv0.2.1, kv0.2.2.1, kv0.2.2.2, gs, reduceIte, reduceCtorEq, Nat.reduceAdd, Nat.reduceMul, Nat.reduceSub, Nat.reduceBEq, Nat.reduceEqDiff, Nat.reduceLeDiff, Nat.reduceLT, Nat.reduceGT, Int.reduceToNat, Int.reduceLT, Int.reduceLE, Int.reduceNeg, Int.reduceAdd, Int.reduceEq, Int.reduceNe] <;> omega
  · intro x tt1 hh1 hx
    rcases ee0 with ⟨o7, o8⟩ | r
    · obtain ⟨rfl, ftt1_0, ftt1_1, ftt1_2, ftt1_3, ftt1_4⟩ := hx
      have ztt1_3 := len_rows ftt1_3
      simp only [zs] at ztt1_3
      dsimp only at hp
      have hp := Option.some.inj hp
      subst hp
      simp (disch := first | omega | (simp only [List.length_set, List.length_append, List.length_cons, List.length_nil, rows_len, zs]; first | done | omega)) only [hv0, rv0, kv0.1, kv0.2.1, kv0.2.2.1, kv0.2.2.2, ftt1_0, ftt1_1, ftt1_2, ftt1_3, ftt1_4, gs, reduceIte, reduceCtorEq, Nat.reduceAdd, Nat.reduceMul, Nat.reduceSub, Nat.reduceBEq, Nat.reduceEqDiff, Nat.reduceLeDiff, Nat.reduceLT, Nat.reduceGT, Int.reduceToNat, Int.reduceLT, Int.reduceLE, Int.reduceNeg, Int.reduceAdd, Int.reduceEq, Int.reduceNe]
      refine ⟨1, ?_⟩
      simp (disch := first | omega | (simp only [List.length_set, List.length_append, List.length_cons, List.length_nil, rows_len, zs]; first | done | omega)) only [hv0, rv0, kv0.1, kv0.2.1, kv0.2.2.1, kv0.2.2.2, ftt1_0, ftt1_1, ftt1_2, ftt1_3, ftt1_4, o_laws_toStringS, (show (o7).length = x0.length from by first | omega | rfl), gs, reduceIte, reduceCtorEq, Nat.reduceAdd, Nat.reduceMul, Nat.reduceSub, Nat.reduceBEq, Nat.reduceEqDiff, Nat.reduceLeDiff, Nat.reduceLT, Nat.reduceGT, Int.reduceToNat, Int.reduceLT, Int.reduceLE, Int.reduceNeg, Int.reduceAdd, Int.reduceEq, Int.reduceNe] <;> omega
    · obtain ⟨rfl, hx⟩ := hx
      dsimp only at hp
      cases hp
      simp only [seqK_ret, blockK_ret, retK_RK (K := o_laws_toStringS), hx, and_self, true_and]
theorem ko_laws_toStringS {P : Program} {env : Env}  : k_laws_toStringS (ownFn P env (c_laws_toStringS)) := by
  intro x0 b hp h args has
  obtain ⟨⟨v, H2⟩, hr, n0, rfl, wn0⟩ := w_laws_toStringS x0 hp
  exact ⟨_, own_call has hr rfl, keep_moved, n0 + h.length, rfl, (moved_lt wn0).2, (moved_lt wn0).1, moved_rows wn0⟩

noncomputable def pB_spec_l01Put (rr : Int → Option (List U8)) (x0 : Int) : Option (List U8) :=
  if (decide (x0 < 128)) = true then
    some ([(U8.mk (IntKind.wrap .u8 x0))])
  else
    (rr (w64 (Int.tdiv x0 128))).bind fun v1 =>
    (app? 1 ([(U8.mk (IntKind.wrap .u8 (w64 (128 + (Int.tmod x0 128)))))]) v1).bind fun v2 =>
    some v2
noncomputable def pN_spec_l01Put : Nat → Int → Option (List U8)
  | 0 => fun _ => none
  | n + 1 => pB_spec_l01Put (pN_spec_l01Put n)
noncomputable def p_spec_l01Put (x0 : Int) : Option (List U8) := fixP fun n => pN_spec_l01Put n x0
def c_spec_l01Put (f_spec_l01Put : Nat) : AFn := ⟨17, (.seq (.ops [⟨(.some 2), (.vnil 1 false), .none, []⟩]) (.seq (.seq (.ops [⟨(.some 3), (.mv (.tmp 0)), .none, []⟩, ⟨(.some 4), (.pu (.n (.ar .lss)) [(.tmp 3), (.const (.int .i64 128))]), .none, []⟩]) (.cond (.tmp 4) (.seq (.ops [⟨(.some 5), (.mv (.tmp 0)), .none, []⟩, ⟨(.some 6), (.pu (.n (.conv .u8)) [(.tmp 5)]), .none, []⟩, ⟨(.some 7), (.buildSl 1 false 1 [(.int .u8 0)] [(0, (.tmp 6))]), .none, []⟩, ⟨(.some 2), (.mv (.tmp 7)), .none, []⟩]) .ret) .skip)) (.seq (.ops [⟨(.some 8), (.mv (.tmp 0)), .none, []⟩, ⟨(.some 9), (.pu (.n (.ar .rem)) [(.tmp 8), (.const (.int .i64 128))]), .none, []⟩, ⟨(.some 10), (.pu (.n (.ar .add)) [(.const (.int .i64 128)), (.tmp 9)]), .none, []⟩, ⟨(.some 11), (.pu (.n (.conv .u8)) [(.tmp 10)]), .none, []⟩, ⟨(.some 12), (.buildSl 1 false 1 [(.int .u8 0)] [(0, (.tmp 11))]), .none, []⟩, ⟨(.some 13), (.mv (.tmp 0)), .none, []⟩, ⟨(.some 14), (.pu (.n (.ar .quo)) [(.tmp 13), (.const (.int .i64 128))]), .none, []⟩, ⟨(.some 15), (.call (2 * f_spec_l01Put + 1) [(.tmp 14)]), .none, []⟩, ⟨(.some 16), (.append 1 false 1 (.tmp 12) (.tmp 15)), .none, []⟩, ⟨(.some 2), (.mv (.tmp 16)), .none, []⟩]) .ret))), [(.tmp 2)]⟩
def o_spec_l01Put (b : List U8) (v : V) (h : Heap) : Prop := ∃ n0 : Nat, v = .hsl n0 b.length 0 1 false b.length ∧ getCells h n0 b.length = some (rows b)
def oo_spec_l01Put (b : List U8) (h : Heap) (v : V) (h2 : Heap) : Prop := Keep [] h h2 ∧ ∃ n0 : Nat, v = .hsl n0 b.length 0 1 false b.length ∧ n0 < h2.length ∧ h.length ≤ n0 ∧ getCells h2 n0 b.length = some (rows b)
def kR_spec_l01Put (rr : Int → Option (List U8)) (F : Fun) : Prop := ∀ (x0 : Int) (b : List U8), rr x0 = some b → ∀ (h : Heap) (args : List V), snapA 9 false h args = some (encA (x0)) → ∃ p, F none args h = some p ∧ oo_spec_l01Put b h p.1 p.2
def k_spec_l01Put (F : Fun) : Prop := kR_spec_l01Put p_spec_l01Put F
set_option maxHeartbeats 10000000 in
theorem w_spec_l01Put {P : Program} {env : Env} {f_spec_l01Put : Nat}  {rr : Int → Option (List U8)} (e_spec_l01Put : kR_spec_l01Put rr (env (2 * f_spec_l01Put + 1))) (x0 : Int) {b : List U8} (hp : pB_spec_l01Put rr x0 = some b) : R P env (c_spec_l01Put f_spec_l01Put) ((encA (x0)).map ofI) [] (o_spec_l01Put b) := by
  refine R_of (by simp [c_spec_l01Put, encA]) ?_
  unfold c_spec_l01Put
  unfold pB_spec_l01Put at hp
  by_cases hb0 : (decide (x0 < 128)) = true
  · rw [if_t hb0] at hp
    have hp := Option.some.inj hp
    subst hp
    simp (disch := first | omega | (simp only [List.length_set, List.length_append, List.length_cons, List.length_nil, rows_len, zs]; first | done | omega)) only [hb0, gs, reduceIte, reduceCtorEq, Nat.reduceAdd, Nat.reduceMul, Nat.reduceSub, Nat.reduceBEq, Nat.reduceEqDiff, Nat.reduceLeDiff, Nat.reduceLT, Nat.reduceGT, Int.reduceToNat, Int.reduceLT, Int.reduceLE, Int.reduceNeg, Int.reduceAdd, Int.reduceEq, Int.reduceNe]
    refine ⟨1, ?_⟩
    simp (disch := first | omega | (simp only [List.length_set, List.length_append, List.length_cons, List.length_nil, rows_len, zs]; first | done | omega)) only [hb0, o_spec_l01Put, (show ([(U8.mk (IntKind.wrap .u8 x0))]).length = 1 from by first | omega | rfl), gs, reduceIte, reduceCtorEq, Nat.reduceAdd, Nat.reduceMul, Nat.reduceSub, Nat.reduceBEq, Nat.reduceEqDiff, Nat.reduceLeDiff, Nat.reduceLT, Nat.reduceGT, Int.reduceToNat, Int.reduceLT, Int.reduceLE, Int.reduceNeg, Int.reduceAdd, Int.reduceEq, Int.reduceNe] <;> omega
  · replace hb0 := eq_false_of_ne_true hb0
    rw [if_f hb0] at hp
    obtain ⟨v1, hv1, hp⟩ := bind_eq hp
    simp (disch := first | omega | (simp only [List.length_set, List.length_append, List.length_cons, List.length_nil, rows_len, zs]; first | done | omega)) only [hb0, gs, reduceIte, reduceCtorEq, Nat.reduceAdd, Nat.reduceMul, Nat.reduceSub, Nat.reduceBEq, Nat.reduceEqDiff, Nat.reduceLeDiff, Nat.reduceLT, Nat.reduceGT, Int.reduceToNat, Int.reduceLT, Int.reduceLE, Int.reduceNeg, Int.reduceAdd, Int.reduceEq, Int.reduceNe]
    refine call_f (fun h => getCells h 0 0 = some [] ∧ 0 < h.length ∧ getCells h 1 1 = some (rows ([(U8.mk (IntKind.wrap .u8 (w64 (128 + (Int.tmod x0 128)))))] : List U8)) ∧ 1 < h.length) (fun h v h2 => oo_spec_l01Put v1 h v h2) ?_ ?_ ?_
    · simp (disch := first | omega | (simp only [List.length_set, List.length_append, List.length_cons, List.length_nil, rows_len, zs]; first | done | omega)) only [hb0, hv1, gs, reduceIte, reduceCtorEq, Nat.reduceAdd, Nat.reduceMul, Nat.reduceSub, Nat.reduceBEq, Nat.reduceEqDiff, Nat.reduceLeDiff, Nat.reduceLT, Nat.reduceGT, Int.reduceToNat, Int.reduceLT, Int.reduceLE, Int.reduceNeg, Int.reduceAdd, Int.reduceEq, Int.reduceNe] <;> omega
    · rintro h ⟨c0_0, c0_1, c0_2, c0_3⟩
      exact e_spec_l01Put _ _ hv1 h _ (by simp (disch := first | omega | (simp only [List.length_set, List.length_append, List.length_cons, List.length_nil, rows_len, zs]; first | done | omega)) only [hb0, hv1, c0_0, c0_1, c0_2, c0_3, gs, reduceIte, reduceCtorEq, Nat.reduceAdd, Nat.reduceMul, Nat.reduceSub, Nat.reduceBEq, Nat.reduceEqDiff, Nat.reduceLeDiff, Nat.reduceLT, Nat.reduceGT, Int.reduceToNat, Int.reduceLT, Int.reduceLE, Int.reduceNeg, Int.reduceAdd, Int.reduceEq, Int.reduceNe])
    · rintro h v hh0 ⟨c0_0, c0_1, c0_2, c0_3⟩ hpost
      obtain ⟨kk0, nb0_0, rfl, lnb0_0, gnb0_0, wnb0_0⟩ := hpost
      have d0_0 : getCells hh0 0 0 = some [] := (keep_get kk0 c0_1 (by first | (simp; done) | (simp; omega))).trans c0_0
      have d0_0l := keep_lt kk0 c0_1
      have d0_1 : getCells hh0 1 1 = some (rows ([(U8.mk (IntKind.wrap .u8 (w64 (128 + (Int.tmod x0 128)))))] : List U8)) := (keep_get kk0 c0_3 (by first | (simp; done) | (simp; omega))).trans c0_2
      have d0_1l := keep_lt kk0 c0_3
      have d0_2 := wnb0_0
      obtain ⟨v2, hv2, hp⟩ := bind_eq hp
      simp (disch := first | omega | (simp only [List.length_set, List.length_append, List.length_cons, List.length_nil, rows_len, zs]; first | done | omega)) only [hb0, hv1, d0_0, d0_1, d0_2, gs, reduceIte, reduceCtorEq, Nat.reduceAdd, Nat.reduceMul, Nat.reduceSub, Nat.reduceBEq, Nat.reduceEqDiff, Nat.reduceLeDiff, Nat.reduceLT, Nat.reduceGT, Int.reduceToNat, Int.reduceLT, Int.reduceLE, Int.reduceNeg, Int.reduceAdd, Int.reduceEq, Int.reduceNe]
      refine app_f (b := 1) (xs := ([(U8.mk (IntKind.wrap .u8 (w64 (128 + (Int.tmod x0 128)))))])) (ys := v1) (fun h => getCells h 0 0 = some [] ∧ 0 < h.length ∧ getCells h 1 1 = some (rows ([(U8.mk (IntKind.wrap .u8 (w64 (128 + (Int.tmod x0 128)))))] : List U8)) ∧ 1 < h.length ∧ getCells h nb0_0 v1.length = some (rows (v1 : List U8)) ∧ nb0_0 < h.length) ?_ ?_ hv2 rfl (by first | rfl | omega | (simp; omega)) (by first | rfl | omega | (simp; omega)) (by first | rfl | omega | (simp; omega)) ?_
      · simp (disch := first | omega | (simp only [List.length_set, List.length_append, List.length_cons, List.length_nil, rows_len, zs]; first | done | omega)) only [hb0, hv1, d0_0, d0_1, d0_2, hv2, gs, reduceIte, reduceCtorEq, Nat.reduceAdd, Nat.reduceMul, Nat.reduceSub, Nat.reduceBEq, Nat.reduceEqDiff, Nat.reduceLeDiff, Nat.reduceLT, Nat.reduceGT, Int.reduceToNat, Int.reduceLT, Int.reduceLE, Int.reduceNeg, Int.reduceAdd, Int.reduceEq, Int.reduceNe] <;> omega
      · rintro h ⟨c1_0, c1_1, c1_2, c1_3, c1_4, c1_5⟩
        exact gc_eq c1_2 (by omega)
      · rintro h hh1 ⟨c1_0, c1_1, c1_2, c1_3, c1_4, c1_5⟩ kk1 w1
        have d1_0 : getCells hh1 0 0 = some [] := (keep_get kk1 c1_1 (by first | (simp; done) | (simp; omega))).trans c1_0
        have d1_0l := keep_lt kk1 c1_1
        have d1_1 : getCells hh1 1 v2.length = some (rows (v2 : List U8)) := by simpa only [Nat.mul_one] using w1
        have d1_1l := keep_lt kk1 c1_3
        have d1_2 : getCells hh1 nb0_0 v1.length = some (rows (v1 : List U8)) := (keep_get kk1 c1_5 (by first | (simp; done) | (simp; omega))).trans c1_4
        have d1_2l := keep_lt kk1 c1_5
        have hp := Option.some.inj hp
        subst hp
        simp (disch := first | omega | (simp only [List.length_set, List.length_append, List.length_cons, List.length_nil, rows_len, zs]; first | done | omega)) only [hb0, hv1, d0_0, d0_1, d0_2, hv2, d1_0, d1_1, d1_2, gs, reduceIte, reduceCtorEq, Nat.reduceAdd, Nat.reduceMul, Nat.reduceSub, Nat.reduceBEq, Nat.reduceEqDiff, Nat.reduceLeDiff, Nat.reduceLT, Nat.reduceGT, Int.reduceToNat, Int.reduceLT, Int.reduceLE, Int.reduceNeg, Int.reduceAdd, Int.reduceEq, Int.reduceNe]
        refine ⟨1, ?_⟩
        simp (disch := first | omega | (simp only [List.length_set, List.length_append, List.length_cons, List.length_nil, rows_len, zs]; first | done | omega)) only [hb0, hv1, d0_0, d0_1, d0_2, hv2, d1_0, d1_1, d1_2, o_spec_l01Put, gs, reduceIte, reduceCtorEq, Nat.reduceAdd, Nat.reduceMul, Nat.reduceSub, Nat.reduceBEq, Nat.reduceEqDiff, Nat.reduceLeDiff, Nat.reduceLT, Nat.reduceGT, Int.reduceToNat, Int.reduceLT, Int.reduceLE, Int.reduceNeg, Int.reduceAdd, Int.reduceEq, Int.reduceNe] <;> omega
theorem ko_spec_l01Put {P : Program} {env : Env} {f_spec_l01Put : Nat}  {rr : Int → Option (List U8)} (e_spec_l01Put : kR_spec_l01Put rr (env (2 * f_spec_l01Put + 1))) : kR_spec_l01Put (pB_spec_l01Put rr) (ownFn P env (c_spec_l01Put f_spec_l01Put)) := by
  intro x0 b hp h args has
  obtain ⟨⟨v, H2⟩, hr, n0, rfl, wn0⟩ := w_spec_l01Put e_spec_l01Put x0 hp
  exact ⟨_, own_call has hr rfl, keep_moved, n0 + h.length, rfl, (moved_lt wn0).2, (moved_lt wn0).1, moved_rows wn0⟩

noncomputable def p_spec_l01Alike_l0 (x0 : ByteArray) (x1 : ByteArray) : Int → Option (Lp (Int) Int)
  | s0 =>
    if (decide (s0 < (x0.size : Int))) = true then
      if (decide (s0 < (x1.size : Int))) = true then
        (byte? x0 s0).bind fun v3 =>
        (byte? x1 s0).bind fun v4 =>
        if (decide (v3 = v4)) = true then
          some (.go (w64 (s0 + 1)))
        else
          some (.out s0)
      else
        some (.out s0)
    else
      some (.out s0)
noncomputable def p_spec_l01Alike (x0 : ByteArray) (x1 : ByteArray) : Option Int :=
  (loopP (p_spec_l01Alike_l0 x0 x1) 0).bind fun ee0 => match ee0 with
  | .ret r => some r
  | .out o6 =>
    some o6
def c_spec_l01Alike : AFn := ⟨28, (.seq (.ops [⟨(.some 4), (.mv (.const (.int .i64 0))), .none, []⟩]) (.seq (.ops [⟨(.some 5), (.mv (.const (.int .i64 0))), .none, []⟩]) (.seq (.block 0 (.loop (.seq (.seq (.ops [⟨(.some 6), (.mv (.tmp 5)), .none, []⟩, ⟨(.some 7), (.mv (.tmp 0)), .none, []⟩, ⟨(.some 8), (.pu (.n .len) [(.tmp 7)]), .none, []⟩, ⟨(.some 9), (.pu (.n (.ar .lss)) [(.tmp 6), (.tmp 8)]), .none, []⟩, ⟨(.some 10), (.mv (.tmp 9)), .none, []⟩, ⟨(.some 11), (.mv (.tmp 5)), (.some (10, true)), []⟩, ⟨(.some 12), (.mv (.tmp 1)), (.some (10, true)), []⟩, ⟨(.some 13), (.pu (.n .len) [(.tmp 12)]), (.some (10, true)), []⟩, ⟨(.some 14), (.pu (.n (.ar .lss)) [(.tmp 11), (.tmp 13)]), (.some (10, true)), []⟩, ⟨(.some 15), (.pick (.tmp 10) (.tmp 14) (.const (.bool false))), .none, []⟩, ⟨(.some 16), (.mv (.tmp 15)), .none, []⟩, ⟨(.some 17), (.mv (.tmp 0)), (.some (16, true)), []⟩, ⟨(.some 18), (.mv (.tmp 5)), (.some (16, true)), []⟩, ⟨(.some 19), (.pu (.n .idx) [(.tmp 17), (.tmp 18)]), (.some (16, true)), []⟩, ⟨(.some 20), (.mv (.tmp 1)), (.some (16, true)), []⟩, ⟨(.some 21), (.mv (.tmp 5)), (.some (16, true)), []⟩, ⟨(.some 22), (.pu (.n .idx) [(.tmp 20), (.tmp 21)]), (.some (16, true)), []⟩, ⟨(.some 23), (.pu (.n (.ar .eql)) [(.tmp 19), (.tmp 22)]), (.some (16, true)), []⟩, ⟨(.some 24), (.pick (.tmp 16) (.tmp 23) (.const (.bool false))), .none, []⟩]) (.cond (.tmp 24) .skip (.exit 0))) (.block 1 (.ops [⟨(.some 25), (.mv (.tmp 5)), .none, []⟩, ⟨(.some 26), (.pu (.n (.ar .add)) [(.tmp 25), (.const (.int .i64 1))]), .none, []⟩, ⟨(.some 5), (.mv (.tmp 26)), .none, []⟩]))))) (.seq (.ops [⟨(.some 27), (.mv (.tmp 5)), .none, []⟩, ⟨(.some 4), (.mv (.tmp 27)), .none, []⟩]) .ret)))), [(.tmp 4)]⟩
set_option maxHeartbeats 10000000 in
theorem d_spec_l01Alike {P : Program} {env : Env}  (x0 : ByteArray) (x1 : ByteArray) {b : Int} (hp : p_spec_l01Alike x0 x1 = some b) : R P env (c_spec_l01Alike) ((encA (x0, x1)).map ofI) [] (Tells true b) := by
  refine R_of (by simp [c_spec_l01Alike, encA]) ?_
  unfold c_spec_l01Alike
  unfold p_spec_l01Alike at hp
  obtain ⟨ee0, hee0, hp⟩ := bind_eq hp
  simp (disch := first | omega | (simp only [List.length_set, List.length_append, List.length_cons, List.length_nil, rows_len, zs]; first | done | omega)) only [gs, reduceIte, reduceCtorEq, Nat.reduceAdd, Nat.reduceMul, Nat.reduceSub, Nat.reduceBEq, Nat.reduceEqDiff, Nat.reduceLeDiff, Nat.reduceLT, Nat.reduceGT, Int.reduceToNat, Int.reduceLT, Int.reduceLE, Int.reduceNeg, Int.reduceAdd, Int.reduceEq, Int.reduceNe]
  refine W_loopP 0 (fun s t h => match s with | s0 => t 0 = .i (.s (.string x0)) ∧ t 1 = .i (.s (.string x1)) ∧ t 5 = .i (.s (.int .i64 s0))) (RK [.tmp 4] (Tells true)) ?_ hee0 ?_ ?_
  · rintro s0 ee tt0 hh0 ⟨ftt0_0, ftt0_1, ftt0_2⟩ hp
    rw [p_spec_l01Alike_l0] at hp
    by_cases hb1 : (decide (s0 < (x0.size : Int))) = true
    · rw [if_t hb1] at hp
      by_cases hb2 : (decide (s0 < (x1.size : Int))) = true
      · rw [if_t hb2] at hp
        obtain ⟨v3, hv3, hp⟩ := bind_eq hp
        obtain ⟨v4, hv4, hp⟩ := bind_eq hp
        by_cases hb5 : (decide (v3 = v4)) = true
        · rw [if_t hb5] at hp
          have hp := Option.some.inj hp
          subst hp
          simp (disch := first | omega | (simp only [List.length_set, List.length_append, List.length_cons, List.length_nil, rows_len, zs]; first | done | omega)) only [ftt0_0, ftt0_1, ftt0_2, hb1, hb2, hv3, hv4, hb5, gs, reduceIte, reduceCtorEq, Nat.reduceAdd, Nat.reduceMul, Nat.reduceSub, Nat.reduceBEq, Nat.reduceEqDiff, Nat.reduceLeDiff, Nat.reduceLT, Nat.reduceGT, Int.reduceToNat, Int.reduceLT, Int.reduceLE, Int.reduceNeg, Int.reduceAdd, Int.reduceEq, Int.reduceNe] <;> omega
        · replace hb5 := eq_false_of_ne_true hb5
          rw [if_f hb5] at hp
          have hp := Option.some.inj hp
          subst hp
          simp (disch := first | omega | (simp only [List.length_set, List.length_append, List.length_cons, List.length_nil, rows_len, zs]; first | done | omega)) only [ftt0_0, ftt0_1, ftt0_2, hb1, hb2, hv3, hv4, hb5, gs, reduceIte, reduceCtorEq, Nat.reduceAdd, Nat.reduceMul, Nat.reduceSub, Nat.reduceBEq, Nat.reduceEqDiff, Nat.reduceLeDiff, Nat.reduceLT, Nat.reduceGT, Int.reduceToNat, Int.reduceLT, Int.reduceLE, Int.reduceNeg, Int.reduceAdd, Int.reduceEq, Int.reduceNe] <;> omega
      · replace hb2 := eq_false_of_ne_true hb2
        rw [if_f hb2] at hp
        have hp := Option.some.inj hp
        subst hp
        simp (disch := first | omega | (simp only [List.length_set, List.length_append, List.length_cons, List.length_nil, rows_len, zs]; first | done | omega)) only [ftt0_0, ftt0_1, ftt0_2, hb1, hb2, gs, reduceIte, reduceCtorEq, Nat.reduceAdd, Nat.reduceMul, Nat.reduceSub, Nat.reduceBEq, Nat.reduceEqDiff, Nat.reduceLeDiff, Nat.reduceLT, Nat.reduceGT, Int.reduceToNat, Int.reduceLT, Int.reduceLE, Int.reduceNeg, Int.reduceAdd, Int.reduceEq, Int.reduceNe] <;> omega
    · replace hb1 := eq_false_of_ne_true hb1
      rw [if_f hb1] at hp
      have hp := Option.some.inj hp
      subst hp
      simp (disch := first | omega | (simp only [List.length_set, List.length_append, List.length_cons, List.length_nil, rows_len, zs]; first | done | omega)) only [ftt0_0, ftt0_1, ftt0_2, hb1, gs, reduceIte, reduceCtorEq, Nat.reduceAdd, Nat.reduceMul, Nat.reduceSub, Nat.reduceBEq, Nat.reduceEqDiff, Nat.reduceLeDiff, Nat.reduceLT, Nat.reduceGT, Int.reduceToNat, Int.reduceLT, Int.reduceLE, Int.reduceNeg, Int.reduceAdd, Int.reduceEq, Int.reduceNe] <;> omega
  · simp (disch := first | omega | (simp only [List.length_set, List.length_append, List.length_cons, List.length_nil, rows_len, zs]; first | done | omega)) only [gs, reduceIte, reduceCtorEq, Nat.reduceAdd, Nat.reduceMul, Nat.reduceSub, Nat.reduceBEq, Nat.reduceEqDiff, Nat.reduceLeDiff, Nat.reduceLT, Nat.reduceGT, Int.reduceToNat, Int.reduceLT, Int.reduceLE, Int.reduceNeg, Int.reduceAdd, Int.reduceEq, Int.reduceNe] <;> omega
  · intro x tt1 hh1 hx
    rcases ee0 with o6 | r
    · obtain ⟨rfl, ftt1_0, ftt1_1, ftt1_2⟩ := hx
      dsimp only at hp
      have hp := Option.some.inj hp
      subst hp
      simp (disch := first | omega | (simp only [List.length_set, List.length_append, List.length_cons, List.length_nil, rows_len, zs]; first | done | omega)) only [ftt1_0, ftt1_1, ftt1_2, gs, reduceIte, reduceCtorEq, Nat.reduceAdd, Nat.reduceMul, Nat.reduceSub, Nat.reduceBEq, Nat.reduceEqDiff, Nat.reduceLeDiff, Nat.reduceLT, Nat.reduceGT, Int.reduceToNat, Int.reduceLT, Int.reduceLE, Int.reduceNeg, Int.reduceAdd, Int.reduceEq, Int.reduceNe]
    · obtain ⟨rfl, hx⟩ := hx
      dsimp only at hp
      cases hp
      simp only [seqK_ret, blockK_ret, retK_RK (K := Tells true), hx, and_self, true_and]

noncomputable def p_spec_l01PutTexts_l0 (x0 : List ByteArray) : List U8 × ByteArray × Int → Option (Lp (List U8 × ByteArray × Int) (List U8))
  | (s1, s2, s3) =>
    if (decide (s3 < (x0.length : Int))) = true then
      (get? x0 s3).bind fun v5 =>
      (p_spec_l01Alike s2 v5).bind fun v6 =>
      (p_spec_l01Put v6).bind fun v7 =>
      (app? 1 s1 v7).bind fun v8 =>
      (p_spec_l01Put (w64 ((v5.size : Int) - v6))).bind fun v9 =>
      (app? 1 v8 v9).bind fun v10 =>
      (cutS? v5 v6 (v5.size : Int)).bind fun v11 =>
      (app? 1 v10 (bytesL v11)).bind fun v12 =>
      if (decide (1048576 < (v12.length : Int))) = true then
        some (.ret v12)
      else
        some (.go (v12, v5, w64 (s3 + 1)))
    else
      some (.out (s1, s2, s3))
noncomputable def p_spec_l01PutTexts (x0 : List ByteArray) : Option (List U8) :=
  (p_spec_l01Put (x0.length : Int)).bind fun v0 =>
  (loopP (p_spec_l01PutTexts_l0 x0) (v0, (ByteArray.mk #[]), 0)).bind fun ee0 => match ee0 with
  | .ret r => some r
  | .out (o14, o15, o16) =>
    some o14
def c_spec_l01PutTexts (f_spec_l01Put : Nat) (f_spec_l01Alike : Nat) : AFn := ⟨53, (.seq (.ops [⟨(.some 2), (.vnil 1 false), .none, []⟩]) (.seq (.ops [⟨(.some 7), (.mv (.tmp 0)), .none, []⟩, ⟨(.some 8), (.len (.tmp 7)), .none, []⟩, ⟨(.some 9), (.call (2 * f_spec_l01Put + 1) [(.tmp 8)]), .none, []⟩, ⟨(.some 3), (.mv (.tmp 9)), .none, []⟩]) (.seq (.ops [⟨(.some 4), (.mv (.const (.string ⟨#[]⟩))), .none, []⟩]) (.seq (.seq (.ops [⟨(.some 5), (.mv (.const (.int .i64 0))), .none, []⟩]) (.block 0 (.loop (.seq (.seq (.ops [⟨(.some 10), (.mv (.tmp 5)), .none, []⟩, ⟨(.some 11), (.mv (.tmp 0)), .none, []⟩, ⟨(.some 12), (.len (.tmp 11)), .none, []⟩, ⟨(.some 13), (.pu (.n (.ar .lss)) [(.tmp 10), (.tmp 12)]), .none, []⟩]) (.cond (.tmp 13) .skip (.exit 0))) (.seq (.block 1 (.seq (.ops [⟨(.some 16), (.mv (.tmp 4)), .none, []⟩, ⟨(.some 17), (.mv (.tmp 0)), .none, []⟩, ⟨(.some 18), (.mv (.tmp 5)), .none, []⟩, ⟨(.some 19), (.idxS 1 (.tmp 17) (.tmp 18)), .none, []⟩, ⟨(.some 20), (.load 1 false (.tmp 19)), .none, []⟩, ⟨(.some 21), (.call (2 * f_spec_l01Alike) [(.tmp 16), (.tmp 20)]), .none, []⟩, ⟨(.some 6), (.mv (.tmp 21)), .none, []⟩]) (.seq (.ops [⟨(.some 22), (.mv (.tmp 3)), .none, []⟩, ⟨(.some 23), (.mv (.tmp 6)), .none, []⟩, ⟨(.some 24), (.call (2 * f_spec_l01Put + 1) [(.tmp 23)]), .none, []⟩, ⟨(.some 25), (.append 1 false 1 (.tmp 22) (.tmp 24)), .none, []⟩, ⟨(.some 3), (.mv (.tmp 25)), .none, []⟩]) (.seq (.ops [⟨(.some 26), (.mv (.tmp 3)), .none, []⟩, ⟨(.some 27), (.mv (.tmp 0)), .none, []⟩, ⟨(.some 28), (.mv (.tmp 5)), .none, []⟩, ⟨(.some 29), (.idxS 1 (.tmp 27) (.tmp 28)), .none, []⟩, ⟨(.some 30), (.load 1 false (.tmp 29)), .none, []⟩, ⟨(.some 31), (.pu (.n .len) [(.tmp 30)]), .none, []⟩, ⟨(.some 32), (.mv (.tmp 6)), .none, []⟩, ⟨(.some 33), (.pu (.n (.ar .sub)) [(.tmp 31), (.tmp 32)]), .none, []⟩, ⟨(.some 34), (.call (2 * f_spec_l01Put + 1) [(.tmp 33)]), .none, []⟩, ⟨(.some 35), (.append 1 false 1 (.tmp 26) (.tmp 34)), .none, []⟩, ⟨(.some 3), (.mv (.tmp 35)), .none, []⟩]) (.seq (.ops [⟨(.some 36), (.mv (.tmp 3)), .none, []⟩, ⟨(.some 37), (.mv (.tmp 0)), .none, []⟩, ⟨(.some 38), (.mv (.tmp 5)), .none, []⟩, ⟨(.some 39), (.idxS 1 (.tmp 37) (.tmp 38)), .none, []⟩, ⟨(.some 40), (.load 1 false (.tmp 39)), .none, []⟩, ⟨(.some 41), (.mv (.tmp 6)), .none, []⟩, ⟨(.some 42), (.pu (.n (.slS true false)) [(.tmp 40), (.tmp 41)]), .none, []⟩, ⟨(.some 43), (.append 1 false 1 (.tmp 36) (.tmp 42)), .none, []⟩, ⟨(.some 3), (.mv (.tmp 43)), .none, []⟩]) (.seq (.ops [⟨(.some 44), (.mv (.tmp 0)), .none, []⟩, ⟨(.some 45), (.mv (.tmp 5)), .none, []⟩, ⟨(.some 46), (.idxS 1 (.tmp 44) (.tmp 45)), .none, []⟩, ⟨(.some 47), (.load 1 false (.tmp 46)), .none, []⟩, ⟨(.some 4), (.mv (.tmp 47)), .none, []⟩]) (.seq (.ops [⟨(.some 48), (.mv (.tmp 3)), .none, []⟩, ⟨(.some 49), (.len (.tmp 48)), .none, []⟩, ⟨(.some 50), (.pu (.n (.ar .gtr)) [(.tmp 49), (.const (.int .i64 1048576))]), .none, []⟩]) (.cond (.tmp 50) (.seq (.ops [⟨(.some 51), (.mv (.tmp 3)), .none, []⟩, ⟨(.some 2), (.mv (.tmp 51)), .none, []⟩]) .ret) .skip)))))))) (.ops [⟨(.some 14), (.mv (.tmp 5)), .none, []⟩, ⟨(.some 15), (.pu (.n (.ar .add)) [(.tmp 14), (.const (.int .i64 1))]), .none, []⟩, ⟨(.some 5), (.mv (.tmp 15)), .none, []⟩])))))) (.seq (.ops [⟨(.some 52), (.mv (.tmp 3)), .none, []⟩, ⟨(.some 2), (.mv (.tmp 52)), .none, []⟩]) .ret))))), [(.tmp 2)]⟩
def o_spec_l01PutTexts (b : List U8) (v : V) (h : Heap) : Prop := ∃ n0 : Nat, v = .hsl n0 b.length 0 1 false b.length ∧ getCells h n0 b.length = some (rows b)
def oo_spec_l01PutTexts (b : List U8) (h : Heap) (v : V) (h2 : Heap) : Prop := Keep [] h h2 ∧ ∃ n0 : Nat, v = .hsl n0 b.length 0 1 false b.length ∧ n0 < h2.length ∧ h.length ≤ n0 ∧ getCells h2 n0 b.length = some (rows b)
def k_spec_l01PutTexts (F : Fun) : Prop := ∀ (x0 : List ByteArray) (b : List U8), p_spec_l01PutTexts x0 = some b → ∀ (h : Heap) (args : List V), snapA 9 false h args = some (encA (x0)) → ∃ p, F none args h = some p ∧ oo_spec_l01PutTexts b h p.1 p.2
set_option maxHeartbeats 10000000 in
theorem w_spec_l01PutTexts {P : Program} {env : Env} {f_spec_l01Put : Nat} {f_spec_l01Alike : Nat}  (ep_spec_l01Alike : env (2 * f_spec_l01Alike) = pureFn true (FA fun a : ByteArray × ByteArray => p_spec_l01Alike a.1 a.2)) (e_spec_l01Put : k_spec_l01Put (env (2 * f_spec_l01Put + 1))) (x0 : List ByteArray) {b : List U8} (hp : p_spec_l01PutTexts x0 = some b) : R P env (c_spec_l01PutTexts f_spec_l01Put f_spec_l01Alike) ((encA (x0)).map ofI) [] (o_spec_l01PutTexts b) := by
  refine R_of (by simp [c_spec_l01PutTexts, encA]) ?_
  unfold c_spec_l01PutTexts
  unfold p_spec_l01PutTexts at hp
  obtain ⟨v0, hv0, hp⟩ := bind_eq hp
  simp (disch := first | omega | (simp only [List.length_set, List.length_append, List.length_cons, List.length_nil, rows_len, zs]; first | done | omega)) only [ep_spec_l01Alike, gs, reduceIte, reduceCtorEq, Nat.reduceAdd, Nat.reduceMul, Nat.reduceSub, Nat.reduceBEq, Nat.reduceEqDiff, Nat.reduceLeDiff, Nat.reduceLT, Nat.reduceGT, Int.reduceToNat, Int.reduceLT, Int.reduceLE, Int.reduceNeg, Int.reduceAdd, Int.reduceEq, Int.reduceNe]
  refine call_f (fun h => getCells h 0 0 = some [] ∧ 0 < h.length) (fun h v h2 => oo_spec_l01Put v0 h v h2) ?_ ?_ ?_
  · simp (disch := first | omega | (simp only [List.length_set, List.length_append, List.length_cons, List.length_nil, rows_len, zs]; first | done | omega)) only [ep_spec_l01Alike, hv0, gs, reduceIte, reduceCtorEq, Nat.reduceAdd, Nat.reduceMul, Nat.reduceSub, Nat.reduceBEq, Nat.reduceEqDiff, Nat.reduceLeDiff, Nat.reduceLT, Nat.reduceGT, Int.reduceToNat, Int.reduceLT, Int.reduceLE, Int.reduceNeg, Int.reduceAdd, Int.reduceEq, Int.reduceNe] <;> omega
  · rintro h ⟨c0_0, c0_1⟩
    exact e_spec_l01Put _ _ hv0 h _ (by simp (disch := first | omega | (simp only [List.length_set, List.length_append, List.length_cons, List.length_nil, rows_len, zs]; first | done | omega)) only [ep_spec_l01Alike, hv0, c0_0, c0_1, gs, reduceIte, reduceCtorEq, Nat.reduceAdd, Nat.reduceMul, Nat.reduceSub, Nat.reduceBEq, Nat.reduceEqDiff, Nat.reduceLeDiff, Nat.reduceLT, Nat.reduceGT, Int.reduceToNat, Int.reduceLT, Int.reduceLE, Int.reduceNeg, Int.reduceAdd, Int.reduceEq, Int.reduceNe])
  · rintro h v hh0 ⟨c0_0, c0_1⟩ hpost
    obtain ⟨kk0, nb0_0, rfl, lnb0_0, gnb0_0, wnb0_0⟩ := hpost
    have d0_0 : getCells hh0 0 0 = some [] := (keep_get kk0 c0_1 (by first | (simp; done) | (simp; omega))).trans c0_0
    have d0_0l := keep_lt kk0 c0_1
    have d0_1 := wnb0_0
    obtain ⟨ee0, hee0, hp⟩ := bind_eq hp
    simp (disch := first | omega | (simp only [List.length_set, List.length_append, List.length_cons, List.length_nil, rows_len, zs]; first | done | omega)) only [ep_spec_l01Alike, hv0, d0_0, d0_1, gs, reduceIte, reduceCtorEq, Nat.reduceAdd, Nat.reduceMul, Nat.reduceSub, Nat.reduceBEq, Nat.reduceEqDiff, Nat.reduceLeDiff, Nat.reduceLT, Nat.reduceGT, Int.reduceToNat, Int.reduceLT, Int.reduceLE, Int.reduceNeg, Int.reduceAdd, Int.reduceEq, Int.reduceNe]
    refine W_loopP 0 (fun s t h => match s with | (s1, s2, s3) => t 0 = .i (.sl 1 (x0.map enc)) ∧ t 3 = .hsl nb0_0 s1.length 0 1 false s1.length ∧ t 4 = .i (.s (.string s2)) ∧ t 5 = .i (.s (.int .i64 s3)) ∧ getCells h nb0_0 s1.length = some (rows (s1 : List U8)) ∧ nb0_0 < h.length) (RK [.tmp 2] (o_spec_l01PutTexts)) ?_ hee0 ?_ ?_
    · rintro ⟨s1, s2, s3⟩ ee tt1 hh1 ⟨ftt1_0, ftt1_1, ftt1_2, ftt1_3, ftt1_4, ftt1_5⟩ hp
      rw [p_spec_l01PutTexts_l0] at hp
      by_cases hb4 : (decide (s3 < (x0.length : Int))) = true
      · rw [if_t hb4] at hp
        obtain ⟨v5, hv5, hp⟩ := bind_eq hp
        obtain ⟨v6, hv6, hp⟩ := bind_eq hp
        obtain ⟨v7, hv7, hp⟩ := bind_eq hp
        simp (disch := first | omega | (simp only [List.length_set, List.length_append, List.length_cons, List.length_nil, rows_len, zs]; first | done | omega)) only [ep_spec_l01Alike, hv0, d0_0, d0_1, ftt1_0, ftt1_1, ftt1_2, ftt1_3, ftt1_4, ftt1_5, hb4, hv5, hv6, gs, reduceIte, reduceCtorEq, Nat.reduceAdd, Nat.reduceMul, Nat.reduceSub, Nat.reduceBEq, Nat.reduceEqDiff, Nat.reduceLeDiff, Nat.reduceLT, Nat.reduceGT, Int.reduceToNat, Int.reduceLT, Int.reduceLE, Int.reduceNeg, Int.reduceAdd, Int.reduceEq, Int.reduceNe]
        refine call_f (fun h => getCells h nb0_0 s1.length = some (rows (s1 : List U8)) ∧ nb0_0 < h.length) (fun h v h2 => oo_spec_l01Put v7 h v h2) ?_ ?_ ?_
        · simp (disch := first | omega | (simp only [List.length_set, List.length_append, List.length_cons, List.length_nil, rows_len, zs]; first | done | omega)) only [ep_spec_l01Alike, hv0, d0_0, d0_1, ftt1_0, ftt1_1, ftt1_2, ftt1_3, ftt1_4, ftt1_5, hb4, hv5, hv6, hv7, gs, reduceIte, reduceCtorEq, Nat.reduceAdd, Nat.reduceMul, Nat.reduceSub, Nat.reduceBEq, Nat.reduceEqDiff, Nat.reduceLeDiff, Nat.reduceLT, Nat.reduceGT, Int.reduceToNat, Int.reduceLT, Int.reduceLE, Int.reduceNeg, Int.reduceAdd, Int.reduceEq, Int.reduceNe] <;> omega
        · rintro h ⟨c2_0, c2_1⟩
          exact e_spec_l01Put _ _ hv7 h _ (by simp (disch := first | omega | (simp only [List.length_set, List.length_append, List.length_cons, List.length_nil, rows_len, zs]; first | done | omega)) only [ep_spec_l01Alike, hv0, d0_0, d0_1, ftt1_0, ftt1_1, ftt1_2, ftt1_3, ftt1_4, ftt1_5, hb4, hv5, hv6, hv7, c2_0, c2_1, gs, reduceIte, reduceCtorEq, Nat.reduceAdd, Nat.reduceMul, Nat.reduceSub, Nat.reduceBEq, Nat.reduceEqDiff, Nat.reduceLeDiff, Nat.reduceLT, Nat.reduceGT, Int.reduceToNat, Int.reduceLT, Int.reduceLE, Int.reduceNeg, Int.reduceAdd, Int.reduceEq, Int.reduceNe])
        · rintro h v hh2 ⟨c2_0, c2_1⟩ hpost
          obtain ⟨kk2, nb2_0, rfl, lnb2_0, gnb2_0, wnb2_0⟩ := hpost
          have d2_0 : getCells hh2 nb0_0 s1.length = some (rows (s1 : List U8)) := (keep_get kk2 c2_1 (by first | (simp; done) | (simp; omega))).trans c2_0
          have d2_0l := keep_lt kk2 c2_1
          have d2_1 := wnb2_0
          obtain ⟨v8, hv8, hp⟩ := bind_eq hp
          simp (disch := first | omega | (simp only [List.length_set, List.length_append, List.length_cons, List.length_nil, rows_len, zs]; first | done | omega)) only [ep_spec_l01Alike, hv0, d0_0, d0_1, ftt1_0, ftt1_1, ftt1_2, ftt1_3, ftt1_4, ftt1_5, hb4, hv5, hv6, hv7, d2_0, d2_1, gs, reduceIte, reduceCtorEq, Nat.reduceAdd, Nat.reduceMul, Nat.reduceSub, Nat.reduceBEq, Nat.reduceEqDiff, Nat.reduceLeDiff, Nat.reduceLT, Nat.reduceGT, Int.reduceToNat, Int.reduceLT, Int.reduceLE, Int.reduceNeg, Int.reduceAdd, Int.reduceEq, Int.reduceNe]
          refine app_f (b := nb0_0) (xs := s1) (ys := v7) (fun h => getCells h nb0_0 s1.length = some (rows (s1 : List U8)) ∧ nb0_0 < h.length ∧ getCells h nb2_0 v7.length = some (rows (v7 : List U8)) ∧ nb2_0 < h.length) ?_ ?_ hv8 rfl (by first | rfl | omega | (simp; omega)) (by first | rfl | omega | (simp; omega)) (by first | rfl | omega | (simp; omega)) ?_
          · simp (disch := first | omega | (simp only [List.length_set, List.length_append, List.length_cons, List.length_nil, rows_len, zs]; first | done | omega)) only [ep_spec_l01Alike, hv0, d0_0, d0_1, ftt1_0, ftt1_1, ftt1_2, ftt1_3, ftt1_4, ftt1_5, hb4, hv5, hv6, hv7, d2_0, d2_1, hv8, gs, reduceIte, reduceCtorEq, Nat.reduceAdd, Nat.reduceMul, Nat.reduceSub, Nat.reduceBEq, Nat.reduceEqDiff, Nat.reduceLeDiff, Nat.reduceLT, Nat.reduceGT, Int.reduceToNat, Int.reduceLT, Int.reduceLE, Int.reduceNeg, Int.reduceAdd, Int.reduceEq, Int.reduceNe] <;> omega
          · rintro h ⟨c3_0, c3_1, c3_2, c3_3⟩
            exact gc_eq c3_0 (by omega)
          · rintro h hh3 ⟨c3_0, c3_1, c3_2, c3_3⟩ kk3 w3
            have d3_0 : getCells hh3 nb0_0 v8.length = some (rows (v8 : List U8)) := by simpa only [Nat.mul_one] using w3
            have d3_0l := keep_lt kk3 c3_1
            have d3_1 : getCells hh3 nb2_0 v7.length = some (rows (v7 : List U8)) := (keep_get kk3 c3_3 (by first | (simp; done) | (simp; omega))).trans c3_2
            have d3_1l := keep_lt kk3 c3_3
            obtain ⟨v9, hv9, hp⟩ := bind_eq hp
            simp (disch := first | omega | (simp only [List.length_set, List.length_append, List.length_cons, List.length_nil, rows_len, zs]; first | done | omega)) only [ep_spec_l01Alike, hv0, d0_0, d0_1, ftt1_0, ftt1_1, ftt1_2, ftt1_3, ftt1_4, ftt1_5, hb4, hv5, hv6, hv7, d2_0, d2_1, hv8, d3_0, d3_1, gs, reduceIte, reduceCtorEq, Nat.reduceAdd, Nat.reduceMul, Nat.reduceSub, Nat.reduceBEq, Nat.reduceEqDiff, Nat.reduceLeDiff, Nat.reduceLT, Nat.reduceGT, Int.reduceToNat, Int.reduceLT, Int.reduceLE, Int.reduceNeg, Int.reduceAdd, Int.reduceEq, Int.reduceNe]
            refine call_f (fun h => getCells h nb0_0 v8.length = some (rows (v8 : List U8)) ∧ nb0_0 < h.length ∧ getCells h nb2_0 v7.length = some (rows (v7 : List U8)) ∧ nb2_0 < h.length) (fun h v h2 => oo_spec_l01Put v9 h v h2) ?_ ?_ ?_
            · simp (disch := first | omega | (simp only [List.length_set, List.length_append, List.length_cons, List.length_nil, rows_len, zs]; first | done | omega)) only [ep_spec_l01Alike, hv0, d0_0, d0_1, ftt1_0, ftt1_1, ftt1_2, ftt1_3, ftt1_4, ftt1_5, hb4, hv5, hv6, hv7, d2_0, d2_1, hv8, d3_0, d3_1, hv9, gs, reduceIte, reduceCtorEq, Nat.reduceAdd, Nat.reduceMul, Nat.reduceSub, Nat.reduceBEq, Nat.reduceEqDiff, Nat.reduceLeDiff, Nat.reduceLT, Nat.reduceGT, Int.reduceToNat, Int.reduceLT, Int.reduceLE, Int.reduceNeg, Int.reduceAdd, Int.reduceEq, Int.reduceNe] <;> omega
            · rintro h ⟨c4_0, c4_1, c4_2, c4_3⟩
              exact e_spec_l01Put _ _ hv9 h _ (by simp (disch := first | omega | (simp only [List.length_set, List.length_append, List.length_cons, List.length_nil, rows_len, zs]; first | done | omega)) only [ep_spec_l01Alike, hv0, d0_0, d0_1, ftt1_0, ftt1_1, ftt1_2, ftt1_3, ftt1_4, ftt1_5, hb4, hv5, hv6, hv7, d2_0, d2_1, hv8, d3_0, d3_1, hv9, c4_0, c4_1, c4_2, c4_3, gs, reduceIte, reduceCtorEq, Nat.reduceAdd, Nat.reduceMul, Nat.reduceSub, Nat.reduceBEq, Nat.reduceEqDiff, Nat.reduceLeDiff, Nat.reduceLT, Nat.reduceGT, Int.reduceToNat, Int.reduceLT, Int.reduceLE, Int.reduceNeg, Int.reduceAdd, Int.reduceEq, Int.reduceNe])
            · rintro h v hh4 ⟨c4_0, c4_1, c4_2, c4_3⟩ hpost
              obtain ⟨kk4, nb4_0, rfl, lnb4_0, gnb4_0, wnb4_0⟩ := hpost
              have d4_0 : getCells hh4 nb0_0 v8.length = some (rows (v8 : List U8)) := (keep_get kk4 c4_1 (by first | (simp; done) | (simp; omega))).trans c4_0
              have d4_0l := keep_lt kk4 c4_1
              have d4_1 : getCells hh4 nb2_0 v7.length = some (rows (v7 : List U8)) := (keep_get kk4 c4_3 (by first | (simp; done) | (simp; omega))).trans c4_2
              have d4_1l := keep_lt kk4 c4_3
              have d4_2 := wnb4_0
              obtain ⟨v10, hv10, hp⟩ := bind_eq hp
              simp (disch := first | omega | (simp only [List.length_set, List.length_append, List.length_cons, List.length_nil, rows_len, zs]; first | done | omega)) only [ep_spec_l01Alike, hv0, d0_0, d0_1, ftt1_0, ftt1_1, ftt1_2, ftt1_3, ftt1_4, ftt1_5, hb4, hv5, hv6, hv7, d2_0, d2_1, hv8, d3_0, d3_1, hv9, d4_0, d4_1, d4_2, gs, reduceIte, reduceCtorEq, Nat.reduceAdd, Nat.reduceMul, Nat.reduceSub, Nat.reduceBEq, Nat.reduceEqDiff, Nat.reduceLeDiff, Nat.reduceLT, Nat.reduceGT, Int.reduceToNat, Int.reduceLT, Int.reduceLE, Int.reduceNeg, Int.reduceAdd, Int.reduceEq, Int.reduceNe]
              refine app_f (b := nb0_0) (xs := v8) (ys := v9) (fun h => getCells h nb0_0 v8.length = some (rows (v8 : List U8)) ∧ nb0_0 < h.length ∧ getCells h nb2_0 v7.length = some (rows (v7 : List U8)) ∧ nb2_0 < h.length ∧ getCells h nb4_0 v9.length = some (rows (v9 : List U8)) ∧ nb4_0 < h.length) ?_ ?_ hv10 rfl (by first | rfl | omega | (simp; omega)) (by first | rfl | omega | (simp; omega)) (by first | rfl | omega | (simp; omega)) ?_
              · simp (disch := first | omega | (simp only [List.length_set, List.length_append, List.length_cons, List.length_nil, rows_len, zs]; first | done | omega)) only [ep_spec_l01Alike, hv0, d0_0, d0_1, ftt1_0, ftt1_1, ftt1_2, ftt1_3, ftt1_4, ftt1_5, hb4, hv5, hv6, hv7, d2_0, d2_1, hv8, d3_0, d3_1, hv9, d4_0, d4_1, d4_2, hv10, gs, reduceIte, reduceCtorEq, Nat.reduceAdd, Nat.reduceMul, Nat.reduceSub, Nat.reduceBEq, Nat.reduceEqDiff, Nat.reduceLeDiff, Nat.reduceLT, Nat.reduceGT, Int.reduceToNat, Int.reduceLT, Int.reduceLE, Int.reduceNeg, Int.reduceAdd, Int.reduceEq, Int.reduceNe] <;> omega
              · rintro h ⟨c5_0, c5_1, c5_2, c5_3, c5_4, c5_5⟩
                exact gc_eq c5_0 (by omega)
              · rintro h hh5 ⟨c5_0, c5_1, c5_2, c5_3, c5_4, c5_5⟩ kk5 w5
                have d5_0 : getCells hh5 nb0_0 v10.length = some (rows (v10 : List U8)) := by simpa only [Nat.mul_one] using w5
                have d5_0l := keep_lt kk5 c5_1
                have d5_1 : getCells hh5 nb2_0 v7.length = some (rows (v7 : List U8)) := (keep_get kk5 c5_3 (by first | (simp; done) | (simp; omega))).trans c5_2
                have d5_1l := keep_lt kk5 c5_3
                have d5_2 : getCells hh5 nb4_0 v9.length = some (rows (v9 : List U8)) := (keep_get kk5 c5_5 (by first | (simp; done) | (simp; omega))).trans c5_4
                have d5_2l := keep_lt kk5 c5_5
                obtain ⟨v11, hv11, hp⟩ := bind_eq hp
                obtain ⟨v12, hv12, hp⟩ := bind_eq hp
                simp (disch := first | omega | (simp only [List.length_set, List.length_append, List.length_cons, List.length_nil, rows_len, zs]; first | done | omega)) only [ep_spec_l01Alike, hv0, d0_0, d0_1, ftt1_0, ftt1_1, ftt1_2, ftt1_3, ftt1_4, ftt1_5, hb4, hv5, hv6, hv7, d2_0, d2_1, hv8, d3_0, d3_1, hv9, d4_0, d4_1, d4_2, hv10, d5_0, d5_1, d5_2, hv11, gs, reduceIte, reduceCtorEq, Nat.reduceAdd, Nat.reduceMul, Nat.reduceSub, Nat.reduceBEq, Nat.reduceEqDiff, Nat.reduceLeDiff, Nat.reduceLT, Nat.reduceGT, Int.reduceToNat, Int.reduceLT, Int.reduceLE, Int.reduceNeg, Int.reduceAdd, Int.reduceEq, Int.reduceNe]
                refine app_f (b := nb0_0) (xs := v10) (ys := (bytesL v11)) (fun h => getCells h nb0_0 v10.length = some (rows (v10 : List U8)) ∧ nb0_0 < h.length ∧ getCells h nb2_0 v7.length = some (rows (v7 : List U8)) ∧ nb2_0 < h.length ∧ getCells h nb4_0 v9.length = some (rows (v9 : List U8)) ∧ nb4_0 < h.length) ?_ ?_ hv12 rfl (by first | rfl | omega | (simp; omega)) (by first | rfl | omega | (simp; omega)) (by first | rfl | omega | (simp; omega)) ?_
                · simp (disch := first | omega | (simp only [List.length_set, List.length_append, List.length_cons, List.length_nil, rows_len, zs]; first | done | omega)) only [ep_spec_l01Alike, hv0, d0_0, d0_1, ftt1_0, ftt1_1, ftt1_2, ftt1_3, ftt1_4, ftt1_5, hb4, hv5, hv6, hv7, d2_0, d2_1, hv8, d3_0, d3_1, hv9, d4_0, d4_1, d4_2, hv10, d5_0, d5_1, d5_2, hv11, hv12, gs, reduceIte, reduceCtorEq, Nat.reduceAdd, Nat.reduceMul, Nat.reduceSub, Nat.reduceBEq, Nat.reduceEqDiff, Nat.reduceLeDiff, Nat.reduceLT, Nat.reduceGT, Int.reduceToNat, Int.reduceLT, Int.reduceLE, Int.reduceNeg, Int.reduceAdd, Int.reduceEq, Int.reduceNe] <;> omega
                · rintro h ⟨c6_0, c6_1, c6_2, c6_3, c6_4, c6_5⟩
                  exact gc_eq c6_0 (by omega)
                · rintro h hh6 ⟨c6_0, c6_1, c6_2, c6_3, c6_4, c6_5⟩ kk6 w6
                  have d6_0 : getCells hh6 nb0_0 v12.length = some (rows (v12 : List U8)) := by simpa only [Nat.mul_one] using w6
                  have d6_0l := keep_lt kk6 c6_1
                  have d6_1 : getCells hh6 nb2_0 v7.length = some (rows (v7 : List U8)) := (keep_get kk6 c6_3 (by first | (simp; done) | (simp; omega))).trans c6_2
                  have d6_1l := keep_lt kk6 c6_3
                  have d6_2 : getCells hh6 nb4_0 v9.length = some (rows (v9 : List U8)) := (keep_get kk6 c6_5 (by first | (simp; done) | (simp; omega))).trans c6_4
                  have d6_2l := keep_lt kk6 c6_5
                  by_cases hb13 : (decide (1048576 < (v12.length : Int))) = true
                  · rw [if_t hb13] at hp
                    have hp := Option.some.inj hp
                    subst hp
                    simp (disch := first | omega | (simp only [List.length_set, List.length_append, List.length_cons, List.length_nil, rows_len, zs]; first | done | omega)) only [ep_spec_l01Alike, hv0, d0_0, d0_1, ftt1_0, ftt1_1, ftt1_2, ftt1_3, ftt1_4, ftt1_5, hb4, hv5, hv6, hv7, d2_0, d2_1, hv8, d3_0, d3_1, hv9, d4_0, d4_1, d4_2, hv10, d5_0, d5_1, d5_2, hv11, hv12, d6_0, d6_1, d6_2, hb13, gs, reduceIte, reduceCtorEq, Nat.reduceAdd, Nat.reduceMul, Nat.reduceSub, Nat.reduceBEq, Nat.reduceEqDiff, Nat.reduceLeDiff, Nat.reduceLT, Nat.reduceGT, Int.reduceToNat, Int.reduceLT, Int.reduceLE, Int.reduceNeg, Int.reduceAdd, Int.reduceEq, Int.reduceNe]
                    refine ⟨nb0_0, ?_⟩
                    simp (disch := first | omega | (simp only [List.length_set, List.length_append, List.length_cons, List.length_nil, rows_len, zs]; first | done | omega)) only [ep_spec_l01Alike, hv0, d0_0, d0_1, ftt1_0, ftt1_1, ftt1_2, ftt1_3, ftt1_4, ftt1_5, hb4, hv5, hv6, hv7, d2_0, d2_1, hv8, d3_0, d3_1, hv9, d4_0, d4_1, d4_2, hv10, d5_0, d5_1, d5_2, hv11, hv12, d6_0, d6_1, d6_2, hb13, o_spec_l01PutTexts, gs, reduceIte, reduceCtorEq, Nat.reduceAdd, Nat.reduceMul, Nat.reduceSub, Nat.reduceBEq, Nat.reduceEqDiff, Nat.reduceLeDiff, Nat.reduceLT, Nat.reduceGT, Int.reduceToNat, Int.reduceLT, Int.reduceLE, Int.reduceNeg, Int.reduceAdd, Int.reduceEq, Int.reduceNe] <;> omega
                  · replace hb13 := eq_false_of_ne_true hb13
                    rw [if_f hb13] at hp
                    have hp := Option.some.inj hp
                    subst hp
                    simp (disch := first | omega | (simp only [List.length_set, List.length_append, List.length_cons, List.length_nil, rows_len, zs]; first | done | omega)) only [ep_spec_l01Alike, hv0, d0_0, d0_1, ftt1_0, ftt1_1, ftt1_2, ftt1_3, ftt1_4, ftt1_5, hb4, hv5, hv6, hv7, d2_0, d2_1, hv8, d3_0, d3_1, hv9, d4_0, d4_1, d4_2, hv10, d5_0, d5_1, d5_2, hv11, hv12, d6_0, d6_1, d6_2, hb13, gs, reduceIte, reduceCtorEq, Nat.reduceAdd, Nat.reduceMul, Nat.reduceSub, Nat.reduceBEq, Nat.reduceEqDiff, Nat.reduceLeDiff, Nat.reduceLT, Nat.reduceGT, Int.reduceToNat, Int.reduceLT, Int.reduceLE, Int.reduceNeg, Int.reduceAdd, Int.reduceEq, Int.reduceNe] <;> omega
      · replace hb4 := eq_false_of_ne_true hb4
        rw [if_f hb4] at hp
        have hp := Option.some.inj hp
        subst hp
        simp (disch := first | omega | (simp only [List.length_set, List.length_append, List.length_cons, List.length_nil, rows_len, zs]; first | done | omega)) only [ep_spec_l01Alike, hv0, d0_0, d0_1, ftt1_0, ftt1_1, ftt1_2, ftt1_3, ftt1_4, ftt1_5, hb4, gs, reduceIte, reduceCtorEq, Nat.reduceAdd, Nat.reduceMul, Nat.reduceSub, Nat.reduceBEq, Nat.reduceEqDiff, Nat.reduceLeDiff, Nat.reduceLT, Nat.reduceGT, Int.reduceToNat, Int.reduceLT, Int.reduceLE, Int.reduceNeg, Int.reduceAdd, Int.reduceEq, Int.reduceNe] <;> omega
    · simp (disch := first | omega | (simp only [List.length_set, List.length_append, List.length_cons, List.length_nil, rows_len, zs]; first | done | omega)) only [ep_spec_l01Alike, hv0, d0_0, d0_1, gs, reduceIte, reduceCtorEq, Nat.reduceAdd, Nat.reduceMul, Nat.reduceSub, Nat.reduceBEq, Nat.reduceEqDiff, Nat.reduceLeDiff, Nat.reduceLT, Nat.reduceGT, Int.reduceToNat, Int.reduceLT, Int.reduceLE, Int.reduceNeg, Int.reduceAdd, Int.reduceEq, Int.reduceNe] <;> omega
    · intro x tt7 hh7 hx
      rcases ee0 with ⟨o14, o15, o16⟩ | r
      · obtain ⟨rfl, ftt7_0, ftt7_1, ftt7_2, ftt7_3, ftt7_4, ftt7_5⟩ := hx
        dsimp only at hp
        have hp := Option.some.inj hp
        subst hp
        simp (disch := first | omega | (simp only [List.length_set, List.length_append, List.length_cons, List.length_nil, rows_len, zs]; first | done | omega)) only [ep_spec_l01Alike, hv0, d0_0, d0_1, ftt7_0, ftt7_1, ftt7_2, ftt7_3, ftt7_4, ftt7_5, gs, reduceIte, reduceCtorEq, Nat.reduceAdd, Nat.reduceMul, Nat.reduceSub, Nat.reduceBEq, Nat.reduceEqDiff, Nat.reduceLeDiff, Nat.reduceLT, Nat.reduceGT, Int.reduceToNat, Int.reduceLT, Int.reduceLE, Int.reduceNeg, Int.reduceAdd, Int.reduceEq, Int.reduceNe]
        refine ⟨nb0_0, ?_⟩
        simp (disch := first | omega | (simp only [List.length_set, List.length_append, List.length_cons, List.length_nil, rows_len, zs]; first | done | omega)) only [ep_spec_l01Alike, hv0, d0_0, d0_1, ftt7_0, ftt7_1, ftt7_2, ftt7_3, ftt7_4, ftt7_5, o_spec_l01PutTexts, gs, reduceIte, reduceCtorEq, Nat.reduceAdd, Nat.reduceMul, Nat.reduceSub, Nat.reduceBEq, Nat.reduceEqDiff, Nat.reduceLeDiff, Nat.reduceLT, Nat.reduceGT, Int.reduceToNat, Int.reduceLT, Int.reduceLE, Int.reduceNeg, Int.reduceAdd, Int.reduceEq, Int.reduceNe] <;> omega
      · obtain ⟨rfl, hx⟩ := hx
        dsimp only at hp
        cases hp
        simp only [seqK_ret, blockK_ret, retK_RK (K := o_spec_l01PutTexts), hx, and_self, true_and]
theorem ko_spec_l01PutTexts {P : Program} {env : Env} {f_spec_l01Put : Nat} {f_spec_l01Alike : Nat}  (ep_spec_l01Alike : env (2 * f_spec_l01Alike) = pureFn true (FA fun a : ByteArray × ByteArray => p_spec_l01Alike a.1 a.2)) (e_spec_l01Put : k_spec_l01Put (env (2 * f_spec_l01Put + 1))) : k_spec_l01PutTexts (ownFn P env (c_spec_l01PutTexts f_spec_l01Put f_spec_l01Alike)) := by
  intro x0 b hp h args has
  obtain ⟨⟨v, H2⟩, hr, n0, rfl, wn0⟩ := w_spec_l01PutTexts ep_spec_l01Alike e_spec_l01Put x0 hp
  exact ⟨_, own_call has hr rfl, keep_moved, n0 + h.length, rfl, (moved_lt wn0).2, (moved_lt wn0).1, moved_rows wn0⟩

noncomputable def p_spec_PutTexts_l0 (x0 : List ByteArray) : Int × Int → Option (Lp (Int × Int) (T2 (List U8) Int))
  | (s1, s2) =>
    if (decide (s2 < (x0.length : Int))) = true then
      (get? x0 s2).bind fun v4 =>
      some (.go (w64 (s1 + (v4.size : Int)), w64 (s2 + 1)))
    else
      some (.out (s1, s2))
noncomputable def p_spec_PutTexts (x0 : List ByteArray) : Option (T2 (List U8) Int) :=
  if (decide (4096 < (x0.length : Int))) = true then
    some ⟨[], 2⟩
  else
    (loopP (p_spec_PutTexts_l0 x0) (0, 0)).bind fun ee0 => match ee0 with
    | .ret r => some r
    | .out (o5, o6) =>
      if (decide (1048576 < o5)) = true then
        some ⟨[], 2⟩
      else
        (p_spec_l01PutTexts x0).bind fun v8 =>
        if (decide (1048576 < (v8.length : Int))) = true then
          some ⟨[], 2⟩
        else
          some ⟨v8, 0⟩
def c_spec_PutTexts (f_spec_l01PutTexts : Nat) : AFn := ⟨34, (.seq (.ops [⟨(.some 2), (.vnil 1 false), .none, []⟩, ⟨(.some 3), (.mv (.const (.int .i64 0))), .none, []⟩]) (.seq (.seq (.ops [⟨(.some 7), (.mv (.tmp 0)), .none, []⟩, ⟨(.some 8), (.len (.tmp 7)), .none, []⟩, ⟨(.some 9), (.pu (.n (.ar .gtr)) [(.tmp 8), (.const (.int .i64 4096))]), .none, []⟩]) (.cond (.tmp 9) (.seq (.ops [⟨(.some 10), (.buildSl 1 false 0 [(.int .u8 0)] []), .none, []⟩, ⟨(.some 2), (.mv (.tmp 10)), .none, []⟩, ⟨(.some 3), (.mv (.const (.int .i64 2))), .none, []⟩]) .ret) .skip)) (.seq (.ops [⟨(.some 4), (.mv (.const (.int .i64 0))), .none, []⟩]) (.seq (.seq (.ops [⟨(.some 5), (.mv (.const (.int .i64 0))), .none, []⟩]) (.block 0 (.loop (.seq (.seq (.ops [⟨(.some 11), (.mv (.tmp 5)), .none, []⟩, ⟨(.some 12), (.mv (.tmp 0)), .none, []⟩, ⟨(.some 13), (.len (.tmp 12)), .none, []⟩, ⟨(.some 14), (.pu (.n (.ar .lss)) [(.tmp 11), (.tmp 13)]), .none, []⟩]) (.cond (.tmp 14) .skip (.exit 0))) (.seq (.block 1 (.ops [⟨(.some 17), (.mv (.tmp 4)), .none, []⟩, ⟨(.some 18), (.mv (.tmp 0)), .none, []⟩, ⟨(.some 19), (.mv (.tmp 5)), .none, []⟩, ⟨(.some 20), (.idxS 1 (.tmp 18) (.tmp 19)), .none, []⟩, ⟨(.some 21), (.load 1 false (.tmp 20)), .none, []⟩, ⟨(.some 22), (.pu (.n .len) [(.tmp 21)]), .none, []⟩, ⟨(.some 23), (.pu (.n (.ar .add)) [(.tmp 17), (.tmp 22)]), .none, []⟩, ⟨(.some 4), (.mv (.tmp 23)), .none, []⟩])) (.ops [⟨(.some 15), (.mv (.tmp 5)), .none, []⟩, ⟨(.some 16), (.pu (.n (.ar .add)) [(.tmp 15), (.const (.int .i64 1))]), .none, []⟩, ⟨(.some 5), (.mv (.tmp 16)), .none, []⟩])))))) (.seq (.seq (.ops [⟨(.some 24), (.mv (.tmp 4)), .none, []⟩, ⟨(.some 25), (.pu (.n (.ar .gtr)) [(.tmp 24), (.const (.int .i64 1048576))]), .none, []⟩]) (.cond (.tmp 25) (.seq (.ops [⟨(.some 26), (.buildSl 1 false 0 [(.int .u8 0)] []), .none, []⟩, ⟨(.some 2), (.mv (.tmp 26)), .none, []⟩, ⟨(.some 3), (.mv (.const (.int .i64 2))), .none, []⟩]) .ret) .skip)) (.seq (.ops [⟨(.some 27), (.mv (.tmp 0)), .none, []⟩, ⟨(.some 28), (.call (2 * f_spec_l01PutTexts + 1) [(.tmp 27)]), .none, []⟩, ⟨(.some 6), (.mv (.tmp 28)), .none, []⟩]) (.seq (.seq (.ops [⟨(.some 29), (.mv (.tmp 6)), .none, []⟩, ⟨(.some 30), (.len (.tmp 29)), .none, []⟩, ⟨(.some 31), (.pu (.n (.ar .gtr)) [(.tmp 30), (.const (.int .i64 1048576))]), .none, []⟩]) (.cond (.tmp 31) (.seq (.ops [⟨(.some 32), (.buildSl 1 false 0 [(.int .u8 0)] []), .none, []⟩, ⟨(.some 2), (.mv (.tmp 32)), .none, []⟩, ⟨(.some 3), (.mv (.const (.int .i64 2))), .none, []⟩]) .ret) .skip)) (.seq (.ops [⟨(.some 33), (.mv (.tmp 6)), .none, []⟩, ⟨(.some 2), (.mv (.tmp 33)), .none, []⟩, ⟨(.some 3), (.mv (.const (.int .i64 0))), .none, []⟩]) .ret)))))))), [(.tmp 2), (.tmp 3)]⟩
set_option maxHeartbeats 10000000 in
theorem d_spec_PutTexts {P : Program} {env : Env} {f_spec_l01PutTexts : Nat}  (e_spec_l01PutTexts : k_spec_l01PutTexts (env (2 * f_spec_l01PutTexts + 1))) (x0 : List ByteArray) {b : T2 (List U8) Int} (hp : p_spec_PutTexts x0 = some b) : R P env (c_spec_PutTexts f_spec_l01PutTexts) ((encA (x0)).map ofI) [] (Tells true b) := by
  refine R_of (by simp [c_spec_PutTexts, encA]) ?_
  unfold c_spec_PutTexts
  unfold p_spec_PutTexts at hp
  by_cases hb0 : (decide (4096 < (x0.length : Int))) = true
  · rw [if_t hb0] at hp
    have hp := Option.some.inj hp
    subst hp
    simp (disch := first | omega | (simp only [List.length_set, List.length_append, List.length_cons, List.length_nil, rows_len, zs]; first | done | omega)) only [hb0, gs, reduceIte, reduceCtorEq, Nat.reduceAdd, Nat.reduceMul, Nat.reduceSub, Nat.reduceBEq, Nat.reduceEqDiff, Nat.reduceLeDiff, Nat.reduceLT, Nat.reduceGT, Int.reduceToNat, Int.reduceLT, Int.reduceLE, Int.reduceNeg, Int.reduceAdd, Int.reduceEq, Int.reduceNe]
  · replace hb0 := eq_false_of_ne_true hb0
    rw [if_f hb0] at hp
    obtain ⟨ee0, hee0, hp⟩ := bind_eq hp
    simp (disch := first | omega | (simp only [List.length_set, List.length_append, List.length_cons, List.length_nil, rows_len, zs]; first | done | omega)) only [hb0, gs, reduceIte, reduceCtorEq, Nat.reduceAdd, Nat.reduceMul, Nat.reduceSub, Nat.reduceBEq, Nat.reduceEqDiff, Nat.reduceLeDiff, Nat.reduceLT, Nat.reduceGT, Int.reduceToNat, Int.reduceLT, Int.reduceLE, Int.reduceNeg, Int.reduceAdd, Int.reduceEq, Int.reduceNe]
    refine W_loopP 0 (fun s t h => match s with | (s1, s2) => t 0 = .i (.sl 1 (x0.map enc)) ∧ t 4 = .i (.s (.int .i64 s1)) ∧ t 5 = .i (.s (.int .i64 s2))) (RK [.tmp 2, .tmp 3] (Tells true)) ?_ hee0 ?_ ?_
    · rintro ⟨s1, s2⟩ ee tt0 hh0 ⟨ftt0_0, ftt0_1, ftt0_2⟩ hp
      rw [p_spec_PutTexts_l0] at hp
      by_cases hb3 : (decide (s2 < (x0.length : Int))) = true
      · rw [if_t hb3] at hp
        obtain ⟨v4, hv4, hp⟩ := bind_eq hp
        have hp := Option.some.inj hp
        subst hp
        simp (disch := first | omega | (simp only [List.length_set, List.length_append, List.length_cons, List.length_nil, rows_len, zs]; first | done | omega)) only [hb0, ftt0_0, ftt0_1, ftt0_2, hb3, hv4, gs, reduceIte, reduceCtorEq, Nat.reduceAdd, Nat.reduceMul, Nat.reduceSub, Nat.reduceBEq, Nat.reduceEqDiff, Nat.reduceLeDiff, Nat.reduceLT, Nat.reduceGT, Int.reduceToNat, Int.reduceLT, Int.reduceLE, Int.reduceNeg, Int.reduceAdd, Int.reduceEq, Int.reduceNe] <;> omega
      · replace hb3 := eq_false_of_ne_true hb3
        rw [if_f hb3] at hp
        have hp := Option.some.inj hp
        subst hp
        simp (disch := first | omega | (simp only [List.length_set, List.length_append, List.length_cons, List.length_nil, rows_len, zs]; first | done | omega)) only [hb0, ftt0_0, ftt0_1, ftt0_2, hb3, gs, reduceIte, reduceCtorEq, Nat.reduceAdd, Nat.reduceMul, Nat.reduceSub, Nat.reduceBEq, Nat.reduceEqDiff, Nat.reduceLeDiff, Nat.reduceLT, Nat.reduceGT, Int.reduceToNat, Int.reduceLT, Int.reduceLE, Int.reduceNeg, Int.reduceAdd, Int.reduceEq, Int.reduceNe] <;> omega
    · simp (disch := first | omega | (simp only [List.length_set, List.length_append, List.length_cons, List.length_nil, rows_len, zs]; first | done | omega)) only [hb0, gs, reduceIte, reduceCtorEq, Nat.reduceAdd, Nat.reduceMul, Nat.reduceSub, Nat.reduceBEq, Nat.reduceEqDiff, Nat.reduceLeDiff, Nat.reduceLT, Nat.reduceGT, Int.reduceToNat, Int.reduceLT, Int.reduceLE, Int.reduceNeg, Int.reduceAdd, Int.reduceEq, Int.reduceNe] <;> omega
    · intro x tt1 hh1 hx
      rcases ee0 with ⟨o5, o6⟩ | r
      · obtain ⟨rfl, ftt1_0, ftt1_1, ftt1_2⟩ := hx
        dsimp only at hp
        by_cases hb7 : (decide (1048576 < o5)) = true
        · rw [if_t hb7] at hp
          have hp := Option.some.inj hp
          subst hp
          simp (disch := first | omega | (simp only [List.length_set, List.length_append, List.length_cons, List.length_nil, rows_len, zs]; first | done | omega)) only [hb0, ftt1_0, ftt1_1, ftt1_2, hb7, gs, reduceIte, reduceCtorEq, Nat.reduceAdd, Nat.reduceMul, Nat.reduceSub, Nat.reduceBEq, Nat.reduceEqDiff, Nat.reduceLeDiff, Nat.reduceLT, Nat.reduceGT, Int.reduceToNat, Int.reduceLT, Int.reduceLE, Int.reduceNeg, Int.reduceAdd, Int.reduceEq, Int.reduceNe]
        · replace hb7 := eq_false_of_ne_true hb7
          rw [if_f hb7] at hp
          obtain ⟨v8, hv8, hp⟩ := bind_eq hp
          simp (disch := first | omega | (simp only [List.length_set, List.length_append, List.length_cons, List.length_nil, rows_len, zs]; first | done | omega)) only [hb0, ftt1_0, ftt1_1, ftt1_2, hb7, gs, reduceIte, reduceCtorEq, Nat.reduceAdd, Nat.reduceMul, Nat.reduceSub, Nat.reduceBEq, Nat.reduceEqDiff, Nat.reduceLeDiff, Nat.reduceLT, Nat.reduceGT, Int.reduceToNat, Int.reduceLT, Int.reduceLE, Int.reduceNeg, Int.reduceAdd, Int.reduceEq, Int.reduceNe]
          refine call_f (fun h => True) (fun h v h2 => oo_spec_l01PutTexts v8 h v h2) ?_ ?_ ?_
          · simp (disch := first | omega | (simp only [List.length_set, List.length_append, List.length_cons, List.length_nil, rows_len, zs]; first | done | omega)) only [hb0, ftt1_0, ftt1_1, ftt1_2, hb7, hv8, gs, reduceIte, reduceCtorEq, Nat.reduceAdd, Nat.reduceMul, Nat.reduceSub, Nat.reduceBEq, Nat.reduceEqDiff, Nat.reduceLeDiff, Nat.reduceLT, Nat.reduceGT, Int.reduceToNat, Int.reduceLT, Int.reduceLE, Int.reduceNeg, Int.reduceAdd, Int.reduceEq, Int.reduceNe] <;> omega
          · rintro h _
            exact e_spec_l01PutTexts _ _ hv8 h _ (by simp (disch := first | omega | (simp only [List.length_set, List.length_append, List.length_cons, List.length_nil, rows_len, zs]; first | done | omega)) only [hb0, ftt1_0, ftt1_1, ftt1_2, hb7, hv8, gs, reduceIte, reduceCtorEq, Nat.reduceAdd, Nat.reduceMul, Nat.reduceSub, Nat.reduceBEq, Nat.reduceEqDiff, Nat.reduceLeDiff, Nat.reduceLT, Nat.reduceGT, Int.reduceToNat, Int.reduceLT, Int.reduceLE, Int.reduceNeg, Int.reduceAdd, Int.reduceEq, Int.reduceNe])
          · rintro h v hh2 _ hpost
            obtain ⟨kk2, nb2_0, rfl, lnb2_0, gnb2_0, wnb2_0⟩ := hpost
            have d2_0 := wnb2_0
            by_cases hb9 : (decide (1048576 < (v8.length : Int))) = true
            · rw [if_t hb9] at hp
              have hp := Option.some.inj hp
              subst hp
              simp (disch := first | omega | (simp only [List.length_set, List.length_append, List.length_cons, List.length_nil, rows_len, zs]; first | done | omega)) only [hb0, ftt1_0, ftt1_1, ftt1_2, hb7, hv8, d2_0, hb9, gs, reduceIte, reduceCtorEq, Nat.reduceAdd, Nat.reduceMul, Nat.reduceSub, Nat.reduceBEq, Nat.reduceEqDiff, Nat.reduceLeDiff, Nat.reduceLT, Nat.reduceGT, Int.reduceToNat, Int.reduceLT, Int.reduceLE, Int.reduceNeg, Int.reduceAdd, Int.reduceEq, Int.reduceNe]
            · replace hb9 := eq_false_of_ne_true hb9
              rw [if_f hb9] at hp
              have hp := Option.some.inj hp
              subst hp
              simp (disch := first | omega | (simp only [List.length_set, List.length_append, List.length_cons, List.length_nil, rows_len, zs]; first | done | omega)) only [hb0, ftt1_0, ftt1_1, ftt1_2, hb7, hv8, d2_0, hb9, gs, reduceIte, reduceCtorEq, Nat.reduceAdd, Nat.reduceMul, Nat.reduceSub, Nat.reduceBEq, Nat.reduceEqDiff, Nat.reduceLeDiff, Nat.reduceLT, Nat.reduceGT, Int.reduceToNat, Int.reduceLT, Int.reduceLE, Int.reduceNeg, Int.reduceAdd, Int.reduceEq, Int.reduceNe]
      · obtain ⟨rfl, hx⟩ := hx
        dsimp only at hp
        cases hp
        simp only [seqK_ret, blockK_ret, retK_RK (K := Tells true), hx, and_self, true_and]

noncomputable def p_impl_appendInt_l0 : List U8 × Int → Option (Lp (List U8 × Int) (List U8))
  | (s0, s1) =>
    if (decide (128 ≤ s1)) = true then
      (app? 1 s0 ([(U8.mk (orI .u8 (IntKind.wrap .u8 (andI .i64 s1 127)) 128))])).bind fun v3 =>
      (shr? .i64 s1 7).bind fun v4 =>
      some (.go (v3, v4))
    else
      some (.out (s0, s1))
noncomputable def p_impl_appendInt (x0 : List U8) (x1 : Int) : Option (List U8) :=
  (loopP (p_impl_appendInt_l0) (x0, x1)).bind fun ee0 => match ee0 with
  | .ret r => some r
  | .out (o5, o6) =>
    (app? 1 o5 ([(U8.mk (IntKind.wrap .u8 o6))])).bind fun v7 =>
    some v7
def c_impl_appendInt : AFn := ⟨21, (.seq (.ops [⟨(.some 4), (.vnil 1 false), .none, []⟩]) (.seq (.block 0 (.loop (.seq (.seq (.ops [⟨(.some 5), (.mv (.tmp 1)), .none, []⟩, ⟨(.some 6), (.pu (.n (.ar .geq)) [(.tmp 5), (.const (.int .i64 128))]), .none, []⟩]) (.cond (.tmp 6) .skip (.exit 0))) (.block 1 (.seq (.ops [⟨(.some 7), (.mv (.tmp 0)), .none, []⟩, ⟨(.some 8), (.mv (.tmp 1)), .none, []⟩, ⟨(.some 9), (.pu (.n (.ar .and)) [(.tmp 8), (.const (.int .i64 127))]), .none, []⟩, ⟨(.some 10), (.pu (.n (.conv .u8)) [(.tmp 9)]), .none, []⟩, ⟨(.some 11), (.pu (.n (.ar .or)) [(.tmp 10), (.const (.int .u8 128))]), .none, []⟩, ⟨(.some 12), (.buildSl 1 false 1 [(.int .u8 0)] [(0, (.tmp 11))]), .none, []⟩, ⟨(.some 13), (.append 1 false 1 (.tmp 7) (.tmp 12)), .none, []⟩, ⟨(.some 0), (.mv (.tmp 13)), .none, []⟩]) (.ops [⟨(.some 14), (.mv (.tmp 1)), .none, []⟩, ⟨(.some 15), (.pu (.n (.ar .shr)) [(.tmp 14), (.const (.int .u64 7))]), .none, []⟩, ⟨(.some 1), (.mv (.tmp 15)), .none, []⟩])))))) (.seq (.ops [⟨(.some 16), (.mv (.tmp 0)), .none, []⟩, ⟨(.some 17), (.mv (.tmp 1)), .none, []⟩, ⟨(.some 18), (.pu (.n (.conv .u8)) [(.tmp 17)]), .none, []⟩, ⟨(.some 19), (.buildSl 1 false 1 [(.int .u8 0)] [(0, (.tmp 18))]), .none, []⟩, ⟨(.some 20), (.append 1 false 1 (.tmp 16) (.tmp 19)), .none, []⟩, ⟨(.some 4), (.mv (.tmp 20)), .none, []⟩]) .ret))), [(.tmp 4)]⟩
def i_impl_appendInt (pb0 pn0 : Nat) (h : Heap) (b : List U8) (v : V) (h2 : Heap) : Prop := Keep [pb0] h h2 ∧ v = .hsl pb0 b.length 0 1 false b.length ∧ getCells h2 pb0 b.length = some (rows b)
def k_impl_appendInt (F : Fun) : Prop := ∀ (x0 : List U8) (x1 : Int) (b : List U8), p_impl_appendInt x0 x1 = some b → ∀ (pb0 pn0 : Nat) (h : Heap), pn0 = (x0).length → getCells h pb0 pn0 = some (rows x0) → ∃ p, F none [.hsl pb0 pn0 0 1 false pn0, .i (.s (.int .i64 x1))] h = some p ∧ i_impl_appendInt pb0 pn0 h b p.1 p.2
set_option maxHeartbeats 10000000 in
theorem w_impl_appendInt {P : Program} {env : Env}  (x0 : List U8) (x1 : Int) {b : List U8} (hp : p_impl_appendInt x0 x1 = some b) (pb0 pn0 : Nat) (hh : Heap) (pm0 : pn0 = (x0).length) (pf0 : getCells hh pb0 pn0 = some (rows x0)) : R P env (c_impl_appendInt) [.hsl pb0 pn0 0 1 false pn0, .i (.s (.int .i64 x1))] hh (i_impl_appendInt pb0 pn0 hh b) := by
  have pl0 := gc_lt pf0
  have pg0 : getCells hh pb0 x0.length = some (rows x0) := by rw [← pm0]; exact pf0
  refine R_of (by simp [c_impl_appendInt, encA]) ?_
  unfold c_impl_appendInt
  unfold p_impl_appendInt at hp
  obtain ⟨ee0, hee0, hp⟩ := bind_eq hp
  simp (disch := first | omega | (simp only [List.length_set, List.length_append, List.length_cons, List.length_nil, rows_len, zs]; first | done | omega)) only [pf0, pg0, gs, reduceIte, reduceCtorEq, Nat.reduceAdd, Nat.reduceMul, Nat.reduceSub, Nat.reduceBEq, Nat.reduceEqDiff, Nat.reduceLeDiff, Nat.reduceLT, Nat.reduceGT, Int.reduceToNat, Int.reduceLT, Int.reduceLE, Int.reduceNeg, Int.reduceAdd, Int.reduceEq, Int.reduceNe]
  refine W_loopP 0 (fun s t h => match s with | (s0, s1) => t 0 = .hsl pb0 s0.length 0 1 false s0.length ∧ t 1 = .i (.s (.int .i64 s1)) ∧ getCells h pb0 s0.length = some (rows (s0 : List U8)) ∧ pb0 < h.length ∧ Keep [pb0] hh h) (RK [.tmp 4] (i_impl_appendInt pb0 pn0 hh)) ?_ hee0 ?_ ?_
  · rintro ⟨s0, s1⟩ ee tt0 hh0 ⟨ftt0_0, ftt0_1, ftt0_2, ftt0_3, ftt0_4⟩ hp
    rw [p_impl_appendInt_l0] at hp
    by_cases hb2 : (decide (128 ≤ s1)) = true
    · rw [if_t hb2] at hp
      obtain ⟨v3, hv3, hp⟩ := bind_eq hp
      obtain ⟨kv3, qv3, lv3⟩ := app_some hv3
      have rv3 : rows s0 ++ [.i (.s (.int .u8 (orI .u8 (IntKind.wrap .u8 (andI .i64 s1 127)) 128)))] = rows v3 := by rw [qv3, rows_append]; rfl
      have mv3 : s0.length + 1 = v3.length := by simp at lv3; omega
      have nv3 : (s0.length + 1) * 1 ≤ 140737488355328 := by simp at kv3; omega
      obtain ⟨v4, hv4, hp⟩ := bind_eq hp
      have hp := Option.some.inj hp
      subst hp
      simp (disch := first | omega | (simp only [List.length_set, List.length_append, List.length_cons, List.length_nil, rows_len, zs]; first | done | omega)) only [i_impl_appendInt, pf0, pg0, ftt0_0, ftt0_1, ftt0_2, ftt0_3, ftt0_4, hb2, hv3, rv3, nv3, hv4, gs, reduceIte, reduceCtorEq, Nat.reduceAdd, Nat.reduceMul, Nat.reduceSub, Nat.reduceBEq, Nat.reduceEqDiff, Nat.reduceLeDiff, Nat.reduceLT, Nat.reduceGT, Int.reduceToNat, Int.reduceLT, Int.reduceLE, Int.reduceNeg, Int.reduceAdd, Int.reduceEq, Int.reduceNe] <;> (repeat (first | omega | assumption | rfl | exact keep_refl | refine keep_app ?_ | (refine keep_set (by first | (left; simp; done) | (right; simp; omega)) ?_) | refine And.intro ?_ ?_))
    · replace hb2 := eq_false_of_ne_true hb2
      rw [if_f hb2] at hp
      have hp := Option.some.inj hp
      subst hp
      simp (disch := first | omega | (simp only [List.length_set, List.length_append, List.length_cons, List.length_nil, rows_len, zs]; first | done | omega)) only [i_impl_appendInt, pf0, pg0, ftt0_0, ftt0_1, ftt0_2, ftt0_3, ftt0_4, hb2, gs, reduceIte, reduceCtorEq, Nat.reduceAdd, Nat.reduceMul, Nat.reduceSub, Nat.reduceBEq, Nat.reduceEqDiff, Nat.reduceLeDiff, Nat.reduceLT, Nat.reduceGT, Int.reduceToNat, Int.reduceLT, Int.reduceLE, Int.reduceNeg, Int.reduceAdd, Int.reduceEq, Int.reduceNe] <;> (repeat (first | omega | assumption | rfl | exact keep_refl | refine keep_app ?_ | (refine keep_set (by first | (left; simp; done) | (right; simp; omega)) ?_) | refine And.intro ?_ ?_))
  · simp (disch := first | omega | (simp only [List.length_set, List.length_append, List.length_cons, List.length_nil, rows_len, zs]; first | done | omega)) only [i_impl_appendInt, pf0, pg0, gs, reduceIte, reduceCtorEq, Nat.reduceAdd, Nat.reduceMul, Nat.reduceSub, Nat.reduceBEq, Nat.reduceEqDiff, Nat.reduceLeDiff, Nat.reduceLT, Nat.reduceGT, Int.reduceToNat, Int.reduceLT, Int.reduceLE, Int.reduceNeg, Int.reduceAdd, Int.reduceEq, Int.reduceNe] <;> (repeat (first | omega | assumption | rfl | exact keep_refl | refine keep_app ?_ | (refine keep_set (by first | (left; simp; done) | (right; simp; omega)) ?_) | refine And.intro ?_ ?_))
  · intro x tt1 hh1 hx
    rcases ee0 with ⟨o5, o6⟩ | r
    · obtain ⟨rfl, ftt1_0, ftt1_1, ftt1_2, ftt1_3, ftt1_4⟩ := hx
      dsimp only at hp
      obtain ⟨v7, hv7, hp⟩ := bind_eq hp
      obtain ⟨kv7, qv7, lv7⟩ := app_some hv7
      have rv7 : rows o5 ++ [.i (.s (.int .u8 (IntKind.wrap .u8 o6)))] = rows v7 := by rw [qv7, rows_append]; rfl
      have mv7 : o5.length + 1 = v7.length := by simp at lv7; omega
      have nv7 : (o5.length + 1) * 1 ≤ 140737488355328 := by simp at kv7; omega
      have hp := Option.some.inj hp
      subst hp
      simp (disch := first | omega | (simp only [List.length_set, List.length_append, List.length_cons, List.length_nil, rows_len, zs]; first | done | omega)) only [i_impl_appendInt, pf0, pg0, ftt1_0, ftt1_1, ftt1_2, ftt1_3, ftt1_4, hv7, rv7, nv7, gs, reduceIte, reduceCtorEq, Nat.reduceAdd, Nat.reduceMul, Nat.reduceSub, Nat.reduceBEq, Nat.reduceEqDiff, Nat.reduceLeDiff, Nat.reduceLT, Nat.reduceGT, Int.reduceToNat, Int.reduceLT, Int.reduceLE, Int.reduceNeg, Int.reduceAdd, Int.reduceEq, Int.reduceNe] <;> (repeat (first | omega | assumption | rfl | exact keep_refl | refine keep_app ?_ | (refine keep_set (by first | (left; simp; done) | (right; simp; omega)) ?_) | refine And.intro ?_ ?_))
    · obtain ⟨rfl, hx⟩ := hx
      dsimp only at hp
      cases hp
      simp only [seqK_ret, blockK_ret, retK_RK (K := i_impl_appendInt pb0 pn0 hh), hx, and_self, true_and]
theorem ko_impl_appendInt {P : Program} {env : Env}  : k_impl_appendInt (runIn P env (c_impl_appendInt)) := by
  intro x0 x1 b hp pb0 pn0 h a0 a1
  exact w_impl_appendInt x0 x1 hp pb0 pn0 h a0 a1

noncomputable def p_impl_common_l0 (x0 : ByteArray) (x1 : ByteArray) : Int → Option (Lp (Int) Int)
  | s0 =>
    if (decide (s0 < (x0.size : Int))) = true then
      if (decide (s0 < (x1.size : Int))) = true then
        (byte? x0 s0).bind fun v3 =>
        (byte? x1 s0).bind fun v4 =>
        if (decide (v3 = v4)) = true then
          some (.go (w64 (s0 + 1)))
        else
          some (.out s0)
      else
        some (.out s0)
    else
      some (.out s0)
noncomputable def p_impl_common (x0 : ByteArray) (x1 : ByteArray) : Option Int :=
  (loopP (p_impl_common_l0 x0 x1) 0).bind fun ee0 => match ee0 with
  | .ret r => some r
  | .out o6 =>
    some o6
def c_impl_common : AFn := ⟨28, (.seq (.ops [⟨(.some 4), (.mv (.const (.int .i64 0))), .none, []⟩]) (.seq (.ops [⟨(.some 5), (.mv (.const (.int .i64 0))), .none, []⟩]) (.seq (.block 0 (.loop (.seq (.seq (.ops [⟨(.some 6), (.mv (.tmp 5)), .none, []⟩, ⟨(.some 7), (.mv (.tmp 0)), .none, []⟩, ⟨(.some 8), (.pu (.n .len) [(.tmp 7)]), .none, []⟩, ⟨(.some 9), (.pu (.n (.ar .lss)) [(.tmp 6), (.tmp 8)]), .none, []⟩, ⟨(.some 10), (.mv (.tmp 9)), .none, []⟩, ⟨(.some 11), (.mv (.tmp 5)), (.some (10, true)), []⟩, ⟨(.some 12), (.mv (.tmp 1)), (.some (10, true)), []⟩, ⟨(.some 13), (.pu (.n .len) [(.tmp 12)]), (.some (10, true)), []⟩, ⟨(.some 14), (.pu (.n (.ar .lss)) [(.tmp 11), (.tmp 13)]), (.some (10, true)), []⟩, ⟨(.some 15), (.pick (.tmp 10) (.tmp 14) (.const (.bool false))), .none, []⟩, ⟨(.some 16), (.mv (.tmp 15)), .none, []⟩, ⟨(.some 17), (.mv (.tmp 0)), (.some (16, true)), []⟩, ⟨(.some 18), (.mv (.tmp 5)), (.some (16, true)), []⟩, ⟨(.some 19), (.pu (.n .idx) [(.tmp 17), (.tmp 18)]), (.some (16, true)), []⟩, ⟨(.some 20), (.mv (.tmp 1)), (.some (16, true)), []⟩, ⟨(.some 21), (.mv (.tmp 5)), (.some (16, true)), []⟩, ⟨(.some 22), (.pu (.n .idx) [(.tmp 20), (.tmp 21)]), (.some (16, true)), []⟩, ⟨(.some 23), (.pu (.n (.ar .eql)) [(.tmp 19), (.tmp 22)]), (.some (16, true)), []⟩, ⟨(.some 24), (.pick (.tmp 16) (.tmp 23) (.const (.bool false))), .none, []⟩]) (.cond (.tmp 24) .skip (.exit 0))) (.block 1 (.ops [⟨(.some 25), (.mv (.tmp 5)), .none, []⟩, ⟨(.some 26), (.pu (.n (.ar .add)) [(.tmp 25), (.const (.int .i64 1))]), .none, []⟩, ⟨(.some 5), (.mv (.tmp 26)), .none, []⟩]))))) (.seq (.ops [⟨(.some 27), (.mv (.tmp 5)), .none, []⟩, ⟨(.some 4), (.mv (.tmp 27)), .none, []⟩]) .ret)))), [(.tmp 4)]⟩
set_option maxHeartbeats 10000000 in
theorem d_impl_common {P : Program} {env : Env}  (x0 : ByteArray) (x1 : ByteArray) {b : Int} (hp : p_impl_common x0 x1 = some b) : R P env (c_impl_common) ((encA (x0, x1)).map ofI) [] (Tells true b) := by
  refine R_of (by simp [c_impl_common, encA]) ?_
  unfold c_impl_common
  unfold p_impl_common at hp
  obtain ⟨ee0, hee0, hp⟩ := bind_eq hp
  simp (disch := first | omega | (simp only [List.length_set, List.length_append, List.length_cons, List.length_nil, rows_len, zs]; first | done | omega)) only [gs, reduceIte, reduceCtorEq, Nat.reduceAdd, Nat.reduceMul, Nat.reduceSub, Nat.reduceBEq, Nat.reduceEqDiff, Nat.reduceLeDiff, Nat.reduceLT, Nat.reduceGT, Int.reduceToNat, Int.reduceLT, Int.reduceLE, Int.reduceNeg, Int.reduceAdd, Int.reduceEq, Int.reduceNe]
  refine W_loopP 0 (fun s t h => match s with | s0 => t 0 = .i (.s (.string x0)) ∧ t 1 = .i (.s (.string x1)) ∧ t 5 = .i (.s (.int .i64 s0))) (RK [.tmp 4] (Tells true)) ?_ hee0 ?_ ?_
  · rintro s0 ee tt0 hh0 ⟨ftt0_0, ftt0_1, ftt0_2⟩ hp
    rw [p_impl_common_l0] at hp
    by_cases hb1 : (decide (s0 < (x0.size : Int))) = true
    · rw [if_t hb1] at hp
      by_cases hb2 : (decide (s0 < (x1.size : Int))) = true
      · rw [if_t hb2] at hp
        obtain ⟨v3, hv3, hp⟩ := bind_eq hp
        obtain ⟨v4, hv4, hp⟩ := bind_eq hp
        by_cases hb5 : (decide (v3 = v4)) = true
        · rw [if_t hb5] at hp
          have hp := Option.some.inj hp
          subst hp
          simp (disch := first | omega | (simp only [List.length_set, List.length_append, List.length_cons, List.length_nil, rows_len, zs]; first | done | omega)) only [ftt0_0, ftt0_1, ftt0_2, hb1, hb2, hv3, hv4, hb5, gs, reduceIte, reduceCtorEq, Nat.reduceAdd, Nat.reduceMul, Nat.reduceSub, Nat.reduceBEq, Nat.reduceEqDiff, Nat.reduceLeDiff, Nat.reduceLT, Nat.reduceGT, Int.reduceToNat, Int.reduceLT, Int.reduceLE, Int.reduceNeg, Int.reduceAdd, Int.reduceEq, Int.reduceNe] <;> omega
        · replace hb5 := eq_false_of_ne_true hb5
          rw [if_f hb5] at hp
          have hp := Option.some.inj hp
          subst hp
          simp (disch := first | omega | (simp only [List.length_set, List.length_append, List.length_cons, List.length_nil, rows_len, zs]; first | done | omega)) only [ftt0_0, ftt0_1, ftt0_2, hb1, hb2, hv3, hv4, hb5, gs, reduceIte, reduceCtorEq, Nat.reduceAdd, Nat.reduceMul, Nat.reduceSub, Nat.reduceBEq, Nat.reduceEqDiff, Nat.reduceLeDiff, Nat.reduceLT, Nat.reduceGT, Int.reduceToNat, Int.reduceLT, Int.reduceLE, Int.reduceNeg, Int.reduceAdd, Int.reduceEq, Int.reduceNe] <;> omega
      · replace hb2 := eq_false_of_ne_true hb2
        rw [if_f hb2] at hp
        have hp := Option.some.inj hp
        subst hp
        simp (disch := first | omega | (simp only [List.length_set, List.length_append, List.length_cons, List.length_nil, rows_len, zs]; first | done | omega)) only [ftt0_0, ftt0_1, ftt0_2, hb1, hb2, gs, reduceIte, reduceCtorEq, Nat.reduceAdd, Nat.reduceMul, Nat.reduceSub, Nat.reduceBEq, Nat.reduceEqDiff, Nat.reduceLeDiff, Nat.reduceLT, Nat.reduceGT, Int.reduceToNat, Int.reduceLT, Int.reduceLE, Int.reduceNeg, Int.reduceAdd, Int.reduceEq, Int.reduceNe] <;> omega
    · replace hb1 := eq_false_of_ne_true hb1
      rw [if_f hb1] at hp
      have hp := Option.some.inj hp
      subst hp
      simp (disch := first | omega | (simp only [List.length_set, List.length_append, List.length_cons, List.length_nil, rows_len, zs]; first | done | omega)) only [ftt0_0, ftt0_1, ftt0_2, hb1, gs, reduceIte, reduceCtorEq, Nat.reduceAdd, Nat.reduceMul, Nat.reduceSub, Nat.reduceBEq, Nat.reduceEqDiff, Nat.reduceLeDiff, Nat.reduceLT, Nat.reduceGT, Int.reduceToNat, Int.reduceLT, Int.reduceLE, Int.reduceNeg, Int.reduceAdd, Int.reduceEq, Int.reduceNe] <;> omega
  · simp (disch := first | omega | (simp only [List.length_set, List.length_append, List.length_cons, List.length_nil, rows_len, zs]; first | done | omega)) only [gs, reduceIte, reduceCtorEq, Nat.reduceAdd, Nat.reduceMul, Nat.reduceSub, Nat.reduceBEq, Nat.reduceEqDiff, Nat.reduceLeDiff, Nat.reduceLT, Nat.reduceGT, Int.reduceToNat, Int.reduceLT, Int.reduceLE, Int.reduceNeg, Int.reduceAdd, Int.reduceEq, Int.reduceNe] <;> omega
  · intro x tt1 hh1 hx
    rcases ee0 with o6 | r
    · obtain ⟨rfl, ftt1_0, ftt1_1, ftt1_2⟩ := hx
      dsimp only at hp
      have hp := Option.some.inj hp
      subst hp
      simp (disch := first | omega | (simp only [List.length_set, List.length_append, List.length_cons, List.length_nil, rows_len, zs]; first | done | omega)) only [ftt1_0, ftt1_1, ftt1_2, gs, reduceIte, reduceCtorEq, Nat.reduceAdd, Nat.reduceMul, Nat.reduceSub, Nat.reduceBEq, Nat.reduceEqDiff, Nat.reduceLeDiff, Nat.reduceLT, Nat.reduceGT, Int.reduceToNat, Int.reduceLT, Int.reduceLE, Int.reduceNeg, Int.reduceAdd, Int.reduceEq, Int.reduceNe]
    · obtain ⟨rfl, hx⟩ := hx
      dsimp only at hp
      cases hp
      simp only [seqK_ret, blockK_ret, retK_RK (K := Tells true), hx, and_self, true_and]

noncomputable def p_impl_appendTexts_l0 (x1 : List ByteArray) : List U8 × ByteArray × Int → Option (Lp (List U8 × ByteArray × Int) (List U8))
  | (s1, s2, s3) =>
    if (decide (s3 < (x1.length : Int))) = true then
      (get? x1 s3).bind fun v5 =>
      (p_impl_common s2 v5).bind fun v6 =>
      (p_impl_appendInt s1 v6).bind fun v7 =>
      (p_impl_appendInt v7 (w64 ((v5.size : Int) - v6))).bind fun v8 =>
      (cutS? v5 v6 (v5.size : Int)).bind fun v9 =>
      (app? 1 v8 (bytesL v9)).bind fun v10 =>
      some (.go (v10, v5, w64 (s3 + 1)))
    else
      some (.out (s1, s2, s3))
noncomputable def p_impl_appendTexts (x0 : List U8) (x1 : List ByteArray) : Option (List U8) :=
  (p_impl_appendInt x0 (x1.length : Int)).bind fun v0 =>
  (loopP (p_impl_appendTexts_l0 x1) (v0, (ByteArray.mk #[]), 0)).bind fun ee0 => match ee0 with
  | .ret r => some r
  | .out (o11, o12, o13) =>
    some o11
def c_impl_appendTexts (f_impl_appendInt : Nat) (f_impl_common : Nat) : AFn := ⟨39, (.seq (.ops [⟨(.some 4), (.vnil 1 false), .none, []⟩]) (.seq (.ops [⟨(.some 9), (.mv (.tmp 0)), .none, []⟩, ⟨(.some 10), (.mv (.tmp 1)), .none, []⟩, ⟨(.some 11), (.len (.tmp 10)), .none, []⟩, ⟨(.some 12), (.call (2 * f_impl_appendInt + 1) [(.tmp 9), (.tmp 11)]), .none, []⟩, ⟨(.some 0), (.mv (.tmp 12)), .none, []⟩]) (.seq (.ops [⟨(.some 5), (.mv (.const (.string ⟨#[]⟩))), .none, []⟩]) (.seq (.seq (.ops [⟨(.some 13), (.mv (.tmp 1)), .none, []⟩, ⟨(.some 14), (.len (.tmp 13)), .none, []⟩, ⟨(.some 15), (.mv (.const (.int .i64 0))), .none, []⟩]) (.block 0 (.loop (.seq (.ops [⟨(.some 16), (.pu (.n (.ar .lss)) [(.tmp 15), (.tmp 14)]), .none, []⟩]) (.seq (.cond (.tmp 16) .skip (.exit 0)) (.seq (.block 1 (.seq (.ops [⟨(.some 17), (.idxS 1 (.tmp 13) (.tmp 15)), .none, []⟩, ⟨(.some 18), (.load 1 false (.tmp 17)), .none, []⟩, ⟨(.some 7), (.mv (.tmp 18)), .none, []⟩]) (.seq (.ops [⟨(.some 19), (.mv (.tmp 5)), .none, []⟩, ⟨(.some 20), (.mv (.tmp 7)), .none, []⟩, ⟨(.some 21), (.call (2 * f_impl_common) [(.tmp 19), (.tmp 20)]), .none, []⟩, ⟨(.some 8), (.mv (.tmp 21)), .none, []⟩]) (.seq (.ops [⟨(.some 22), (.mv (.tmp 0)), .none, []⟩, ⟨(.some 23), (.mv (.tmp 8)), .none, []⟩, ⟨(.some 24), (.call (2 * f_impl_appendInt + 1) [(.tmp 22), (.tmp 23)]), .none, []⟩, ⟨(.some 0), (.mv (.tmp 24)), .none, []⟩]) (.seq (.ops [⟨(.some 25), (.mv (.tmp 0)), .none, []⟩, ⟨(.some 26), (.mv (.tmp 7)), .none, []⟩, ⟨(.some 27), (.pu (.n .len) [(.tmp 26)]), .none, []⟩, ⟨(.some 28), (.mv (.tmp 8)), .none, []⟩, ⟨(.some 29), (.pu (.n (.ar .sub)) [(.tmp 27), (.tmp 28)]), .none, []⟩, ⟨(.some 30), (.call (2 * f_impl_appendInt + 1) [(.tmp 25), (.tmp 29)]), .none, []⟩, ⟨(.some 0), (.mv (.tmp 30)), .none, []⟩]) (.seq (.ops [⟨(.some 31), (.mv (.tmp 0)), .none, []⟩, ⟨(.some 32), (.mv (.tmp 7)), .none, []⟩, ⟨(.some 33), (.mv (.tmp 8)), .none, []⟩, ⟨(.some 34), (.pu (.n (.slS true false)) [(.tmp 32), (.tmp 33)]), .none, []⟩, ⟨(.some 35), (.append 1 false 1 (.tmp 31) (.tmp 34)), .none, []⟩, ⟨(.some 0), (.mv (.tmp 35)), .none, []⟩]) (.ops [⟨(.some 36), (.mv (.tmp 7)), .none, []⟩, ⟨(.some 5), (.mv (.tmp 36)), .none, []⟩]))))))) (.ops [⟨(.some 37), (.pu (.n (.ar .add)) [(.tmp 15), (.const (.int .i64 1))]), .none, []⟩, ⟨(.some 15), (.mv (.tmp 37)), .none, []⟩]))))))) (.seq (.ops [⟨(.some 38), (.mv (.tmp 0)), .none, []⟩, ⟨(.some 4), (.mv (.tmp 38)), .none, []⟩]) .ret))))), [(.tmp 4)]⟩
def i_impl_appendTexts (pb0 pn0 : Nat) (h : Heap) (b : List U8) (v : V) (h2 : Heap) : Prop := Keep [pb0] h h2 ∧ v = .hsl pb0 b.length 0 1 false b.length ∧ getCells h2 pb0 b.length = some (rows b)
def k_impl_appendTexts (F : Fun) : Prop := ∀ (x0 : List U8) (x1 : List ByteArray) (b : List U8), p_impl_appendTexts x0 x1 = some b → ∀ (pb0 pn0 : Nat) (h : Heap), pn0 = (x0).length → getCells h pb0 pn0 = some (rows x0) → ∃ p, F none [.hsl pb0 pn0 0 1 false pn0, .i (.sl 1 (x1.map enc))] h = some p ∧ i_impl_appendTexts pb0 pn0 h b p.1 p.2
set_option maxHeartbeats 10000000 in
theorem w_impl_appendTexts {P : Program} {env : Env} {f_impl_appendInt : Nat} {f_impl_common : Nat}  (ep_impl_common : env (2 * f_impl_common) = pureFn true (FA fun a : ByteArray × ByteArray => p_impl_common a.1 a.2)) (e_impl_appendInt : k_impl_appendInt (env (2 * f_impl_appendInt + 1))) (x0 : List U8) (x1 : List ByteArray) {b : List U8} (hp : p_impl_appendTexts x0 x1 = some b) (pb0 pn0 : Nat) (hh : Heap) (pm0 : pn0 = (x0).length) (pf0 : getCells hh pb0 pn0 = some (rows x0)) : R P env (c_impl_appendTexts f_impl_appendInt f_impl_common) [.hsl pb0 pn0 0 1 false pn0, .i (.sl 1 (x1.map enc))] hh (i_impl_appendTexts pb0 pn0 hh b) := by
  have pl0 := gc_lt pf0
  have pg0 : getCells hh pb0 x0.length = some (rows x0) := by rw [← pm0]; exact pf0
  refine R_of (by simp [c_impl_appendTexts, encA]) ?_
  unfold c_impl_appendTexts
  unfold p_impl_appendTexts at hp
  obtain ⟨v0, hv0, hp⟩ := bind_eq hp
  simp (disch := first | omega | (simp only [List.length_set, List.length_append, List.length_cons, List.length_nil, rows_len, zs]; first | done | omega)) only [ep_impl_common, pf0, pg0, gs, reduceIte, reduceCtorEq, Nat.reduceAdd, Nat.reduceMul, Nat.reduceSub, Nat.reduceBEq, Nat.reduceEqDiff, Nat.reduceLeDiff, Nat.reduceLT, Nat.reduceGT, Int.reduceToNat, Int.reduceLT, Int.reduceLE, Int.reduceNeg, Int.reduceAdd, Int.reduceEq, Int.reduceNe]
  refine call_f (fun h => getCells h pb0 pn0 = some (rows (x0 : List U8)) ∧ pb0 < h.length ∧ getCells h hh.length 0 = some [] ∧ hh.length < h.length ∧ Keep [pb0] hh h) (fun h v h2 => i_impl_appendInt pb0 pn0 h v0 v h2) ?_ ?_ ?_
  · simp (disch := first | omega | (simp only [List.length_set, List.length_append, List.length_cons, List.length_nil, rows_len, zs]; first | done | omega)) only [i_impl_appendTexts, ep_impl_common, pf0, pg0, hv0, gs, reduceIte, reduceCtorEq, Nat.reduceAdd, Nat.reduceMul, Nat.reduceSub, Nat.reduceBEq, Nat.reduceEqDiff, Nat.reduceLeDiff, Nat.reduceLT, Nat.reduceGT, Int.reduceToNat, Int.reduceLT, Int.reduceLE, Int.reduceNeg, Int.reduceAdd, Int.reduceEq, Int.reduceNe] <;> (repeat (first | omega | assumption | rfl | exact keep_refl | refine keep_app ?_ | (refine keep_set (by first | (left; simp; done) | (right; simp; omega)) ?_) | refine And.intro ?_ ?_))
  · rintro h ⟨c0_0, c0_1, c0_2, c0_3, c0_4⟩
    exact e_impl_appendInt _ _ _ hv0 pb0 pn0 h (by first | omega | rfl) c0_0
  · rintro h v hh0 ⟨c0_0, c0_1, c0_2, c0_3, c0_4⟩ hpost
    obtain ⟨kk0, rfl, w0_0⟩ := hpost
    have d0_0 : getCells hh0 pb0 v0.length = some (rows (v0 : List U8)) := w0_0
    have mm0_0 := len_rows w0_0
    simp only [zs] at mm0_0
    have d0_0l := keep_lt kk0 c0_1
    have d0_1 : getCells hh0 hh.length 0 = some [] := (keep_get kk0 c0_3 (by first | (simp; done) | (simp; omega))).trans c0_2
    have d0_1l := keep_lt kk0 c0_3
    have kp0 : Keep [pb0] hh hh0 := keep_trans c0_4 kk0 (by intro b hb; first | (simp at hb; done) | (simp at hb ⊢; omega))
    obtain ⟨ee0, hee0, hp⟩ := bind_eq hp
    simp (disch := first | omega | (simp only [List.length_set, List.length_append, List.length_cons, List.length_nil, rows_len, zs]; first | done | omega)) only [ep_impl_common, pf0, pg0, hv0, d0_0, d0_1, gs, reduceIte, reduceCtorEq, Nat.reduceAdd, Nat.reduceMul, Nat.reduceSub, Nat.reduceBEq, Nat.reduceEqDiff, Nat.reduceLeDiff, Nat.reduceLT, Nat.reduceGT, Int.reduceToNat, Int.reduceLT, Int.reduceLE, Int.reduceNeg, Int.reduceAdd, Int.reduceEq, Int.reduceNe]
    refine W_loopP 0 (fun s t h => match s with | (s1, s2, s3) => t 0 = .hsl pb0 s1.length 0 1 false s1.length ∧ t 5 = .i (.s (.string s2)) ∧ t 13 = .i (.sl 1 (x1.map enc)) ∧ t 14 = .i (.s (.int .i64 (x1.length : Int))) ∧ t 15 = .i (.s (.int .i64 s3)) ∧ getCells h pb0 s1.length = some (rows (s1 : List U8)) ∧ pb0 < h.length ∧ Keep [pb0] hh h) (RK [.tmp 4] (i_impl_appendTexts pb0 pn0 hh)) ?_ hee0 ?_ ?_
    · rintro ⟨s1, s2, s3⟩ ee tt1 hh1 ⟨ftt1_0, ftt1_1, ftt1_2, ftt1_3, ftt1_4, ftt1_5, ftt1_6, ftt1_7⟩ hp
      rw [p_impl_appendTexts_l0] at hp
      by_cases hb4 : (decide (s3 < (x1.length : Int))) = true
      · rw [if_t hb4] at hp
        obtain ⟨v5, hv5, hp⟩ := bind_eq hp
        obtain ⟨v6, hv6, hp⟩ := bind_eq hp
        obtain ⟨v7, hv7, hp⟩ := bind_eq hp
        simp (disch := first | omega | (simp only [List.length_set, List.length_append, List.length_cons, List.length_nil, rows_len, zs]; first | done | omega)) only [ep_impl_common, pf0, pg0, hv0, d0_0, d0_1, ftt1_0, ftt1_1, ftt1_2, ftt1_3, ftt1_4, ftt1_5, ftt1_6, ftt1_7, hb4, hv5, hv6, gs, reduceIte, reduceCtorEq, Nat.reduceAdd, Nat.reduceMul, Nat.reduceSub, Nat.reduceBEq, Nat.reduceEqDiff, Nat.reduceLeDiff, Nat.reduceLT, Nat.reduceGT, Int.reduceToNat, Int.reduceLT, Int.reduceLE, Int.reduceNeg, Int.reduceAdd, Int.reduceEq, Int.reduceNe]
        refine call_f (fun h => getCells h pb0 s1.length = some (rows (s1 : List U8)) ∧ pb0 < h.length ∧ Keep [pb0] hh h) (fun h v h2 => i_impl_appendInt pb0 s1.length h v7 v h2) ?_ ?_ ?_
        · simp (disch := first | omega | (simp only [List.length_set, List.length_append, List.length_cons, List.length_nil, rows_len, zs]; first | done | omega)) only [i_impl_appendTexts, ep_impl_common, pf0, pg0, hv0, d0_0, d0_1, ftt1_0, ftt1_1, ftt1_2, ftt1_3, ftt1_4, ftt1_5, ftt1_6, ftt1_7, hb4, hv5, hv6, hv7, gs, reduceIte, reduceCtorEq, Nat.reduceAdd, Nat.reduceMul, Nat.reduceSub, Nat.reduceBEq, Nat.reduceEqDiff, Nat.reduceLeDiff, Nat.reduceLT, Nat.reduceGT, Int.reduceToNat, Int.reduceLT, Int.reduceLE, Int.reduceNeg, Int.reduceAdd, Int.reduceEq, Int.reduceNe] <;> (repeat (first | omega | assumption | rfl | exact keep_refl | refine keep_app ?_ | (refine keep_set (by first | (left; simp; done) | (right; simp; omega)) ?_) | refine And.intro ?_ ?_))
        · rintro h ⟨c2_0, c2_1, c2_2⟩
          exact e_impl_appendInt _ _ _ hv7 pb0 s1.length h (by first | omega | rfl) c2_0
        · rintro h v hh2 ⟨c2_0, c2_1, c2_2⟩ hpost
          obtain ⟨kk2, rfl, w2_0⟩ := hpost
          have d2_0 : getCells hh2 pb0 v7.length = some (rows (v7 : List U8)) := w2_0
          have mm2_0 := len_rows w2_0
          simp only [zs] at mm2_0
          have d2_0l := keep_lt kk2 c2_1
          have kp2 : Keep [pb0] hh hh2 := keep_trans c2_2 kk2 (by intro b hb; first | (simp at hb; done) | (simp at hb ⊢; omega))
          obtain ⟨v8, hv8, hp⟩ := bind_eq hp
          simp (disch := first | omega | (simp only [List.length_set, List.length_append, List.length_cons, List.length_nil, rows_len, zs]; first | done | omega)) only [ep_impl_common, pf0, pg0, hv0, d0_0, d0_1, ftt1_0, ftt1_1, ftt1_2, ftt1_3, ftt1_4, ftt1_5, ftt1_6, ftt1_7, hb4, hv5, hv6, hv7, d2_0, gs, reduceIte, reduceCtorEq, Nat.reduceAdd, Nat.reduceMul, Nat.reduceSub, Nat.reduceBEq, Nat.reduceEqDiff, Nat.reduceLeDiff, Nat.reduceLT, Nat.reduceGT, Int.reduceToNat, Int.reduceLT, Int.reduceLE, Int.reduceNeg, Int.reduceAdd, Int.reduceEq, Int.reduceNe]
          refine call_f (fun h => getCells h pb0 v7.length = some (rows (v7 : List U8)) ∧ pb0 < h.length ∧ Keep [pb0] hh h) (fun h v h2 => i_impl_appendInt pb0 v7.length h v8 v h2) ?_ ?_ ?_
          · simp (disch := first | omega | (simp only [List.length_set, List.length_append, List.length_cons, List.length_nil, rows_len, zs]; first | done | omega)) only [i_impl_appendTexts, ep_impl_common, pf0, pg0, hv0, d0_0, d0_1, ftt1_0, ftt1_1, ftt1_2, ftt1_3, ftt1_4, ftt1_5, ftt1_6, ftt1_7, hb4, hv5, hv6, hv7, d2_0, hv8, gs, reduceIte, reduceCtorEq, Nat.reduceAdd, Nat.reduceMul, Nat.reduceSub, Nat.reduceBEq, Nat.reduceEqDiff, Nat.reduceLeDiff, Nat.reduceLT, Nat.reduceGT, Int.reduceToNat, Int.reduceLT, Int.reduceLE, Int.reduceNeg, Int.reduceAdd, Int.reduceEq, Int.reduceNe] <;> (repeat (first | omega | assumption | rfl | exact keep_refl | refine keep_app ?_ | (refine keep_set (by first | (left; simp; done) | (right; simp; omega)) ?_) | refine And.intro ?_ ?_))
          · rintro h ⟨c3_0, c3_1, c3_2⟩
            exact e_impl_appendInt _ _ _ hv8 pb0 v7.length h (by first | omega | rfl) c3_0
          · rintro h v hh3 ⟨c3_0, c3_1, c3_2⟩ hpost
            obtain ⟨kk3, rfl, w3_0⟩ := hpost
            have d3_0 : getCells hh3 pb0 v8.length = some (rows (v8 : List U8)) := w3_0
            have mm3_0 := len_rows w3_0
            simp only [zs] at mm3_0
            have d3_0l := keep_lt kk3 c3_1
            have kp3 : Keep [pb0] hh hh3 := keep_trans c3_2 kk3 (by intro b hb; first | (simp at hb; done) | (simp at hb ⊢; omega))
            obtain ⟨v9, hv9, hp⟩ := bind_eq hp
            obtain ⟨v10, hv10, hp⟩ := bind_eq hp
            simp (disch := first | omega | (simp only [List.length_set, List.length_append, List.length_cons, List.length_nil, rows_len, zs]; first | done | omega)) only [ep_impl_common, pf0, pg0, hv0, d0_0, d0_1, ftt1_0, ftt1_1, ftt1_2, ftt1_3, ftt1_4, ftt1_5, ftt1_6, ftt1_7, hb4, hv5, hv6, hv7, d2_0, hv8, d3_0, hv9, gs, reduceIte, reduceCtorEq, Nat.reduceAdd, Nat.reduceMul, Nat.reduceSub, Nat.reduceBEq, Nat.reduceEqDiff, Nat.reduceLeDiff, Nat.reduceLT, Nat.reduceGT, Int.reduceToNat, Int.reduceLT, Int.reduceLE, Int.reduceNeg, Int.reduceAdd, Int.reduceEq, Int.reduceNe]
            refine app_f (b := pb0) (xs := v8) (ys := (bytesL v9)) (fun h => getCells h pb0 v8.length = some (rows (v8 : List U8)) ∧ pb0 < h.length ∧ Keep [pb0] hh h) ?_ ?_ hv10 rfl (by first | rfl | omega | (simp; omega)) (by first | rfl | omega | (simp; omega)) (by first | rfl | omega | (simp; omega)) ?_
            · simp (disch := first | omega | (simp only [List.length_set, List.length_append, List.length_cons, List.length_nil, rows_len, zs]; first | done | omega)) only [i_impl_appendTexts, ep_impl_common, pf0, pg0, hv0, d0_0, d0_1, ftt1_0, ftt1_1, ftt1_2, ftt1_3, ftt1_4, ftt1_5, ftt1_6, ftt1_7, hb4, hv5, hv6, hv7, d2_0, hv8, d3_0, hv9, hv10, gs, reduceIte, reduceCtorEq, Nat.reduceAdd, Nat.reduceMul, Nat.reduceSub, Nat.reduceBEq, Nat.reduceEqDiff, Nat.reduceLeDiff, Nat.reduceLT, Nat.reduceGT, Int.reduceToNat, Int.reduceLT, Int.reduceLE, Int.reduceNeg, Int.reduceAdd, Int.reduceEq, Int.reduceNe] <;> (repeat (first | omega | assumption | rfl | exact keep_refl | refine keep_app ?_ | (refine keep_set (by first | (left; simp; done) | (right; simp; omega)) ?_) | refine And.intro ?_ ?_))
            · rintro h ⟨c4_0, c4_1, c4_2⟩
              exact gc_eq c4_0 (by omega)
            · rintro h hh4 ⟨c4_0, c4_1, c4_2⟩ kk4 w4
              have d4_0 : getCells hh4 pb0 v10.length = some (rows (v10 : List U8)) := by simpa only [Nat.mul_one] using w4
              have d4_0l := keep_lt kk4 c4_1
              have kp4 : Keep [pb0] hh hh4 := keep_trans c4_2 kk4 (by intro b hb; first | (simp at hb; done) | (simp at hb ⊢; omega))
              have hp := Option.some.inj hp
              subst hp
              simp (disch := first | omega | (simp only [List.length_set, List.length_append, List.length_cons, List.length_nil, rows_len, zs]; first | done | omega)) only [i_impl_appendTexts, ep_impl_common, pf0, pg0, hv0, d0_0, d0_1, ftt1_0, ftt1_1, ftt1_2, ftt1_3, ftt1_4, ftt1_5, ftt1_6, ftt1_7, hb4, hv5, hv6, hv7, d2_0, hv8, d3_0, hv9, hv10, d4_0, gs, reduceIte, reduceCtorEq, Nat.reduceAdd, Nat.reduceMul, Nat.reduceSub, Nat.reduceBEq, Nat.reduceEqDiff, Nat.reduceLeDiff, Nat.reduceLT, Nat.reduceGT, Int.reduceToNat, Int.reduceLT, Int.reduceLE, Int.reduceNeg, Int.reduceAdd, Int.reduceEq, Int.reduceNe] <;> (repeat (first | omega | assumption | rfl | exact keep_refl | refine keep_app ?_ | (refine keep_set (by first | (left; simp; done) | (right; simp; omega)) ?_) | refine And.intro ?_ ?_))
      · replace hb4 := eq_false_of_ne_true hb4
        rw [if_f hb4] at hp
        have hp := Option.some.inj hp
        subst hp
        simp (disch := first | omega | (simp only [List.length_set, List.length_append, List.length_cons, List.length_nil, rows_len, zs]; first | done | omega)) only [i_impl_appendTexts, ep_impl_common, pf0, pg0, hv0, d0_0, d0_1, ftt1_0, ftt1_1, ftt1_2, ftt1_3, ftt1_4, ftt1_5, ftt1_6, ftt1_7, hb4, gs, reduceIte, reduceCtorEq, Nat.reduceAdd, Nat.reduceMul, Nat.reduceSub, Nat.reduceBEq, Nat.reduceEqDiff, Nat.reduceLeDiff, Nat.reduceLT, Nat.reduceGT, Int.reduceToNat, Int.reduceLT, Int.reduceLE, Int.reduceNeg, Int.reduceAdd, Int.reduceEq, Int.reduceNe] <;> (repeat (first | omega | assumption | rfl | exact keep_refl | refine keep_app ?_ | (refine keep_set (by first | (left; simp; done) | (right; simp; omega)) ?_) | refine And.intro ?_ ?_))
    · simp (disch := first | omega | (simp only [List.length_set, List.length_append, List.length_cons, List.length_nil, rows_len, zs]; first | done | omega)) only [i_impl_appendTexts, ep_impl_common, pf0, pg0, hv0, d0_0, d0_1, gs, reduceIte, reduceCtorEq, Nat.reduceAdd, Nat.reduceMul, Nat.reduceSub, Nat.reduceBEq, Nat.reduceEqDiff, Nat.reduceLeDiff, Nat.reduceLT, Nat.reduceGT, Int.reduceToNat, Int.reduceLT, Int.reduceLE, Int.reduceNeg, Int.reduceAdd, Int.reduceEq, Int.reduceNe] <;> (repeat (first | omega | assumption | rfl | exact keep_refl | refine keep_app ?_ | (refine keep_set (by first | (left; simp; done) | (right; simp; omega)) ?_) | refine And.intro ?_ ?_))
    · intro x tt5 hh5 hx
      rcases ee0 with ⟨o11, o12, o13⟩ | r
      · obtain ⟨rfl, ftt5_0, ftt5_1, ftt5_2, ftt5_3, ftt5_4, ftt5_5, ftt5_6, ftt5_7⟩ := hx
        dsimp only at hp
        have hp := Option.some.inj hp
        subst hp
        simp (disch := first | omega | (simp only [List.length_set, List.length_append, List.length_cons, List.length_nil, rows_len, zs]; first | done | omega)) only [i_impl_appendTexts, ep_impl_common, pf0, pg0, hv0, d0_0, d0_1, ftt5_0, ftt5_1, ftt5_2, ftt5_3, ftt5_4, ftt5_5, ftt5_6, ftt5_7, gs, reduceIte, reduceCtorEq, Nat.reduceAdd, Nat.reduceMul, Nat.reduceSub, Nat.reduceBEq, Nat.reduceEqDiff, Nat.reduceLeDiff, Nat.reduceLT, Nat.reduceGT, Int.reduceToNat, Int.reduceLT, Int.reduceLE, Int.reduceNeg, Int.reduceAdd, Int.reduceEq, Int.reduceNe] <;> (repeat (first | omega | assumption | rfl | exact keep_refl | refine keep_app ?_ | (refine keep_set (by first | (left; simp; done) | (right; simp; omega)) ?_) | refine And.intro ?_ ?_))
      · obtain ⟨rfl, hx⟩ := hx
        dsimp only at hp
        cases hp
        simp only [seqK_ret, blockK_ret, retK_RK (K := i_impl_appendTexts pb0 pn0 hh), hx, and_self, true_and]
theorem ko_impl_appendTexts {P : Program} {env : Env} {f_impl_appendInt : Nat} {f_impl_common : Nat}  (ep_impl_common : env (2 * f_impl_common) = pureFn true (FA fun a : ByteArray × ByteArray => p_impl_common a.1 a.2)) (e_impl_appendInt : k_impl_appendInt (env (2 * f_impl_appendInt + 1))) : k_impl_appendTexts (runIn P env (c_impl_appendTexts f_impl_appendInt f_impl_common)) := by
  intro x0 x1 b hp pb0 pn0 h a0 a1
  exact w_impl_appendTexts ep_impl_common e_impl_appendInt x0 x1 hp pb0 pn0 h a0 a1

noncomputable def p_impl_PutTexts_l0 (x0 : List ByteArray) : Int × Int → Option (Lp (Int × Int) (T2 (List U8) Int))
  | (s1, s2) =>
    if (decide (s2 < (x0.length : Int))) = true then
      (get? x0 s2).bind fun v4 =>
      if (decide (1048576 < w64 (s1 + (v4.size : Int)))) = true then
        some (.ret ⟨[], 2⟩)
      else
        some (.go (w64 (s1 + (v4.size : Int)), w64 (s2 + 1)))
    else
      some (.out (s1, s2))
noncomputable def p_impl_PutTexts (x0 : List ByteArray) : Option (T2 (List U8) Int) :=
  if (decide (4096 < (x0.length : Int))) = true then
    some ⟨[], 2⟩
  else
    (loopP (p_impl_PutTexts_l0 x0) (0, 0)).bind fun ee0 => match ee0 with
    | .ret r => some r
    | .out (o6, o7) =>
      (p_impl_appendTexts ([]) x0).bind fun v8 =>
      if (decide (1048576 < (v8.length : Int))) = true then
        some ⟨[], 2⟩
      else
        some ⟨v8, 0⟩
def c_impl_PutTexts (f_impl_appendTexts : Nat) : AFn := ⟨30, (.seq (.ops [⟨(.some 2), (.vnil 1 false), .none, []⟩, ⟨(.some 3), (.mv (.const (.int .i64 0))), .none, []⟩]) (.seq (.seq (.ops [⟨(.some 8), (.mv (.tmp 0)), .none, []⟩, ⟨(.some 9), (.len (.tmp 8)), .none, []⟩, ⟨(.some 10), (.pu (.n (.ar .gtr)) [(.tmp 9), (.const (.int .i64 4096))]), .none, []⟩]) (.cond (.tmp 10) (.seq (.ops [⟨(.some 2), (.vnil 1 false), .none, []⟩, ⟨(.some 3), (.mv (.const (.int .i64 2))), .none, []⟩]) .ret) .skip)) (.seq (.ops [⟨(.some 4), (.mv (.const (.int .i64 0))), .none, []⟩]) (.seq (.seq (.ops [⟨(.some 11), (.mv (.tmp 0)), .none, []⟩, ⟨(.some 12), (.len (.tmp 11)), .none, []⟩, ⟨(.some 13), (.mv (.const (.int .i64 0))), .none, []⟩]) (.block 0 (.loop (.seq (.ops [⟨(.some 14), (.pu (.n (.ar .lss)) [(.tmp 13), (.tmp 12)]), .none, []⟩]) (.seq (.cond (.tmp 14) .skip (.exit 0)) (.seq (.block 1 (.seq (.ops [⟨(.some 15), (.idxS 1 (.tmp 11) (.tmp 13)), .none, []⟩, ⟨(.some 16), (.load 1 false (.tmp 15)), .none, []⟩, ⟨(.some 6), (.mv (.tmp 16)), .none, []⟩]) (.seq (.ops [⟨(.some 17), (.mv (.tmp 4)), .none, []⟩, ⟨(.some 18), (.mv (.tmp 6)), .none, []⟩, ⟨(.some 19), (.pu (.n .len) [(.tmp 18)]), .none, []⟩, ⟨(.some 20), (.pu (.n (.ar .add)) [(.tmp 17), (.tmp 19)]), .none, []⟩, ⟨(.some 4), (.mv (.tmp 20)), .none, []⟩]) (.seq (.ops [⟨(.some 21), (.mv (.tmp 4)), .none, []⟩, ⟨(.some 22), (.pu (.n (.ar .gtr)) [(.tmp 21), (.const (.int .i64 1048576))]), .none, []⟩]) (.cond (.tmp 22) (.seq (.ops [⟨(.some 2), (.vnil 1 false), .none, []⟩, ⟨(.some 3), (.mv (.const (.int .i64 2))), .none, []⟩]) .ret) .skip))))) (.ops [⟨(.some 23), (.pu (.n (.ar .add)) [(.tmp 13), (.const (.int .i64 1))]), .none, []⟩, ⟨(.some 13), (.mv (.tmp 23)), .none, []⟩]))))))) (.seq (.ops [⟨(.some 24), (.mv (.tmp 0)), .none, []⟩, ⟨(.some 25), (.callV (2 * f_impl_appendTexts + 1) [(1, false), (1, false)] [(.const (.slice .none 0 0)), (.tmp 24)]), .none, []⟩, ⟨(.some 7), (.mv (.tmp 25)), .none, []⟩]) (.seq (.seq (.ops [⟨(.some 26), (.mv (.tmp 7)), .none, []⟩, ⟨(.some 27), (.len (.tmp 26)), .none, []⟩, ⟨(.some 28), (.pu (.n (.ar .gtr)) [(.tmp 27), (.const (.int .i64 1048576))]), .none, []⟩]) (.cond (.tmp 28) (.seq (.ops [⟨(.some 2), (.vnil 1 false), .none, []⟩, ⟨(.some 3), (.mv (.const (.int .i64 2))), .none, []⟩]) .ret) .skip)) (.seq (.ops [⟨(.some 29), (.mv (.tmp 7)), .none, []⟩, ⟨(.some 2), (.mv (.tmp 29)), .none, []⟩, ⟨(.some 3), (.mv (.const (.int .i64 0))), .none, []⟩]) .ret))))))), [(.tmp 2), (.tmp 3)]⟩
def o_impl_PutTexts (b : T2 (List U8) Int) (v : V) (h : Heap) : Prop := ∃ n0 : Nat, v = .tup [.hsl n0 b.a.length 0 1 false b.a.length, .i (.s (.int .i64 b.b))] ∧ getCells h n0 b.a.length = some (rows b.a)
def oo_impl_PutTexts (b : T2 (List U8) Int) (h : Heap) (v : V) (h2 : Heap) : Prop := Keep [] h h2 ∧ ∃ n0 : Nat, v = .tup [.hsl n0 b.a.length 0 1 false b.a.length, .i (.s (.int .i64 b.b))] ∧ n0 < h2.length ∧ h.length ≤ n0 ∧ getCells h2 n0 b.a.length = some (rows b.a)
def k_impl_PutTexts (F : Fun) : Prop := ∀ (x0 : List ByteArray) (b : T2 (List U8) Int), p_impl_PutTexts x0 = some b → ∀ (h : Heap) (args : List V), snapA 9 false h args = some (encA (x0)) → ∃ p, F none args h = some p ∧ oo_impl_PutTexts b h p.1 p.2
set_option maxHeartbeats 10000000 in
theorem w_impl_PutTexts {P : Program} {env : Env} {f_impl_appendTexts : Nat}  (e_impl_appendTexts : k_impl_appendTexts (env (2 * f_impl_appendTexts + 1))) (x0 : List ByteArray) {b : T2 (List U8) Int} (hp : p_impl_PutTexts x0 = some b) : R P env (c_impl_PutTexts f_impl_appendTexts) ((encA (x0)).map ofI) [] (o_impl_PutTexts b) := by
  refine R_of (by simp [c_impl_PutTexts, encA]) ?_
  unfold c_impl_PutTexts
  unfold p_impl_PutTexts at hp
  by_cases hb0 : (decide (4096 < (x0.length : Int))) = true
  · rw [if_t hb0] at hp
    have hp := Option.some.inj hp
    subst hp
    simp (disch := first | omega | (simp only [List.length_set, List.length_append, List.length_cons, List.length_nil, rows_len, zs]; first | done | omega)) only [hb0, gs, reduceIte, reduceCtorEq, Nat.reduceAdd, Nat.reduceMul, Nat.reduceSub, Nat.reduceBEq, Nat.reduceEqDiff, Nat.reduceLeDiff, Nat.reduceLT, Nat.reduceGT, Int.reduceToNat, Int.reduceLT, Int.reduceLE, Int.reduceNeg, Int.reduceAdd, Int.reduceEq, Int.reduceNe]
    refine ⟨1, ?_⟩
    simp (disch := first | omega | (simp only [List.length_set, List.length_append, List.length_cons, List.length_nil, rows_len, zs]; first | done | omega)) only [hb0, o_impl_PutTexts, gs, reduceIte, reduceCtorEq, Nat.reduceAdd, Nat.reduceMul, Nat.reduceSub, Nat.reduceBEq, Nat.reduceEqDiff, Nat.reduceLeDiff, Nat.reduceLT, Nat.reduceGT, Int.reduceToNat, Int.reduceLT, Int.reduceLE, Int.reduceNeg, Int.reduceAdd, Int.reduceEq, Int.reduceNe] <;> omega
  · replace hb0 := eq_false_of_ne_true hb0
    rw [if_f hb0] at hp
    obtain ⟨ee0, hee0, hp⟩ := bind_eq hp
    simp (disch := first | omega | (simp only [List.length_set, List.length_append, List.length_cons, List.length_nil, rows_len, zs]; first | done | omega)) only [hb0, gs, reduceIte, reduceCtorEq, Nat.reduceAdd, Nat.reduceMul, Nat.reduceSub, Nat.reduceBEq, Nat.reduceEqDiff, Nat.reduceLeDiff, Nat.reduceLT, Nat.reduceGT, Int.reduceToNat, Int.reduceLT, Int.reduceLE, Int.reduceNeg, Int.reduceAdd, Int.reduceEq, Int.reduceNe]
    refine W_loopP 0 (fun s t h => match s with | (s1, s2) => t 0 = .i (.sl 1 (x0.map enc)) ∧ t 4 = .i (.s (.int .i64 s1)) ∧ t 11 = .i (.sl 1 (x0.map enc)) ∧ t 12 = .i (.s (.int .i64 (x0.length : Int))) ∧ t 13 = .i (.s (.int .i64 s2))) (RK [.tmp 2, .tmp 3] (o_impl_PutTexts)) ?_ hee0 ?_ ?_
    · rintro ⟨s1, s2⟩ ee tt0 hh0 ⟨ftt0_0, ftt0_1, ftt0_2, ftt0_3, ftt0_4⟩ hp
      rw [p_impl_PutTexts_l0] at hp
      by_cases hb3 : (decide (s2 < (x0.length : Int))) = true
      · rw [if_t hb3] at hp
        obtain ⟨v4, hv4, hp⟩ := bind_eq hp
        by_cases hb5 : (decide (1048576 < w64 (s1 + (v4.size : Int)))) = true
        · rw [if_t hb5] at hp
          have hp := Option.some.inj hp
          subst hp
          simp (disch := first | omega | (simp only [List.length_set, List.length_append, List.length_cons, List.length_nil, rows_len, zs]; first | done | omega)) only [hb0, ftt0_0, ftt0_1, ftt0_2, ftt0_3, ftt0_4, hb3, hv4, hb5, gs, reduceIte, reduceCtorEq, Nat.reduceAdd, Nat.reduceMul, Nat.reduceSub, Nat.reduceBEq, Nat.reduceEqDiff, Nat.reduceLeDiff, Nat.reduceLT, Nat.reduceGT, Int.reduceToNat, Int.reduceLT, Int.reduceLE, Int.reduceNeg, Int.reduceAdd, Int.reduceEq, Int.reduceNe]
          refine ⟨hh0.length, ?_⟩
          simp (disch := first | omega | (simp only [List.length_set, List.length_append, List.length_cons, List.length_nil, rows_len, zs]; first | done | omega)) only [hb0, ftt0_0, ftt0_1, ftt0_2, ftt0_3, ftt0_4, hb3, hv4, hb5, o_impl_PutTexts, gs, reduceIte, reduceCtorEq, Nat.reduceAdd, Nat.reduceMul, Nat.reduceSub, Nat.reduceBEq, Nat.reduceEqDiff, Nat.reduceLeDiff, Nat.reduceLT, Nat.reduceGT, Int.reduceToNat, Int.reduceLT, Int.reduceLE, Int.reduceNeg, Int.reduceAdd, Int.reduceEq, Int.reduceNe] <;> omega
        · replace hb5 := eq_false_of_ne_true hb5
          rw [if_f hb5] at hp
          have hp := Option.some.inj hp
          subst hp
          simp (disch := first | omega | (simp only [List.length_set, List.length_append, List.length_cons, List.length_nil, rows_len, zs]; first | done | omega)) only [hb0, ftt0_0, ftt0_1, ftt0_2, ftt0_3, ftt0_4, hb3, hv4, hb5, gs, reduceIte, reduceCtorEq, Nat.reduceAdd, Nat.reduceMul, Nat.reduceSub, Nat.reduceBEq, Nat.reduceEqDiff, Nat.reduceLeDiff, Nat.reduceLT, Nat.reduceGT, Int.reduceToNat, Int.reduceLT, Int.reduceLE, Int.reduceNeg, Int.reduceAdd, Int.reduceEq, Int.reduceNe] <;> omega
      · replace hb3 := eq_false_of_ne_true hb3
        rw [if_f hb3] at hp
        have hp := Option.some.inj hp
        subst hp
        simp (disch := first | omega | (simp only [List.length_set, List.length_append, List.length_cons, List.length_nil, rows_len, zs]; first | done | omega)) only [hb0, ftt0_0, ftt0_1, ftt0_2, ftt0_3, ftt0_4, hb3, gs, reduceIte, reduceCtorEq, Nat.reduceAdd, Nat.reduceMul, Nat.reduceSub, Nat.reduceBEq, Nat.reduceEqDiff, Nat.reduceLeDiff, Nat.reduceLT, Nat.reduceGT, Int.reduceToNat, Int.reduceLT, Int.reduceLE, Int.reduceNeg, Int.reduceAdd, Int.reduceEq, Int.reduceNe] <;> omega
    · simp (disch := first | omega | (simp only [List.length_set, List.length_append, List.length_cons, List.length_nil, rows_len, zs]; first | done | omega)) only [hb0, gs, reduceIte, reduceCtorEq, Nat.reduceAdd, Nat.reduceMul, Nat.reduceSub, Nat.reduceBEq, Nat.reduceEqDiff, Nat.reduceLeDiff, Nat.reduceLT, Nat.reduceGT, Int.reduceToNat, Int.reduceLT, Int.reduceLE, Int.reduceNeg, Int.reduceAdd, Int.reduceEq, Int.reduceNe] <;> omega
    · intro x tt1 hh1 hx
      rcases ee0 with ⟨o6, o7⟩ | r
      · obtain ⟨rfl, ftt1_0, ftt1_1, ftt1_2, ftt1_3, ftt1_4⟩ := hx
        dsimp only at hp
        obtain ⟨v8, hv8, hp⟩ := bind_eq hp
        simp (disch := first | omega | (simp only [List.length_set, List.length_append, List.length_cons, List.length_nil, rows_len, zs]; first | done | omega)) only [hb0, ftt1_0, ftt1_1, ftt1_2, ftt1_3, ftt1_4, gs, reduceIte, reduceCtorEq, Nat.reduceAdd, Nat.reduceMul, Nat.reduceSub, Nat.reduceBEq, Nat.reduceEqDiff, Nat.reduceLeDiff, Nat.reduceLT, Nat.reduceGT, Int.reduceToNat, Int.reduceLT, Int.reduceLE, Int.reduceNeg, Int.reduceAdd, Int.reduceEq, Int.reduceNe]
        refine call_f (fun h => getCells h hh1.length 0 = some [] ∧ hh1.length < h.length) (fun h v h2 => i_impl_appendTexts hh1.length 0 h v8 v h2) ?_ ?_ ?_
        · simp (disch := first | omega | (simp only [List.length_set, List.length_append, List.length_cons, List.length_nil, rows_len, zs]; first | done | omega)) only [hb0, ftt1_0, ftt1_1, ftt1_2, ftt1_3, ftt1_4, hv8, gs, reduceIte, reduceCtorEq, Nat.reduceAdd, Nat.reduceMul, Nat.reduceSub, Nat.reduceBEq, Nat.reduceEqDiff, Nat.reduceLeDiff, Nat.reduceLT, Nat.reduceGT, Int.reduceToNat, Int.reduceLT, Int.reduceLE, Int.reduceNeg, Int.reduceAdd, Int.reduceEq, Int.reduceNe] <;> omega
        · rintro h ⟨c2_0, c2_1⟩
          exact e_impl_appendTexts _ _ _ hv8 hh1.length 0 h (by first | omega | rfl) c2_0
        · rintro h v hh2 ⟨c2_0, c2_1⟩ hpost
          obtain ⟨kk2, rfl, w2_0⟩ := hpost
          have d2_0 : getCells hh2 hh1.length v8.length = some (rows (v8 : List U8)) := w2_0
          have mm2_0 := len_rows w2_0
          simp only [zs] at mm2_0
          have d2_0l := keep_lt kk2 c2_1
          by_cases hb9 : (decide (1048576 < (v8.length : Int))) = true
          · rw [if_t hb9] at hp
            have hp := Option.some.inj hp
            subst hp
            simp (disch := first | omega | (simp only [List.length_set, List.length_append, List.length_cons, List.length_nil, rows_len, zs]; first | done | omega)) only [hb0, ftt1_0, ftt1_1, ftt1_2, ftt1_3, ftt1_4, hv8, d2_0, hb9, gs, reduceIte, reduceCtorEq, Nat.reduceAdd, Nat.reduceMul, Nat.reduceSub, Nat.reduceBEq, Nat.reduceEqDiff, Nat.reduceLeDiff, Nat.reduceLT, Nat.reduceGT, Int.reduceToNat, Int.reduceLT, Int.reduceLE, Int.reduceNeg, Int.reduceAdd, Int.reduceEq, Int.reduceNe]
            refine ⟨hh2.length, ?_⟩
            simp (disch := first | omega | (simp only [List.length_set, List.length_append, List.length_cons, List.length_nil, rows_len, zs]; first | done | omega)) only [hb0, ftt1_0, ftt1_1, ftt1_2, ftt1_3, ftt1_4, hv8, d2_0, hb9, o_impl_PutTexts, gs, reduceIte, reduceCtorEq, Nat.reduceAdd, Nat.reduceMul, Nat.reduceSub, Nat.reduceBEq, Nat.reduceEqDiff, Nat.reduceLeDiff, Nat.reduceLT, Nat.reduceGT, Int.reduceToNat, Int.reduceLT, Int.reduceLE, Int.reduceNeg, Int.reduceAdd, Int.reduceEq, Int.reduceNe] <;> omega
          · replace hb9 := eq_false_of_ne_true hb9
            rw [if_f hb9] at hp
            have hp := Option.some.inj hp
            subst hp
            simp (disch := first | omega | (simp only [List.length_set, List.length_append, List.length_cons, List.length_nil, rows_len, zs]; first | done | omega)) only [hb0, ftt1_0, ftt1_1, ftt1_2, ftt1_3, ftt1_4, hv8, d2_0, hb9, gs, reduceIte, reduceCtorEq, Nat.reduceAdd, Nat.reduceMul, Nat.reduceSub, Nat.reduceBEq, Nat.reduceEqDiff, Nat.reduceLeDiff, Nat.reduceLT, Nat.reduceGT, Int.reduceToNat, Int.reduceLT, Int.reduceLE, Int.reduceNeg, Int.reduceAdd, Int.reduceEq, Int.reduceNe]
            refine ⟨hh1.length, ?_⟩
            simp (disch := first | omega | (simp only [List.length_set, List.length_append, List.length_cons, List.length_nil, rows_len, zs]; first | done | omega)) only [hb0, ftt1_0, ftt1_1, ftt1_2, ftt1_3, ftt1_4, hv8, d2_0, hb9, o_impl_PutTexts, gs, reduceIte, reduceCtorEq, Nat.reduceAdd, Nat.reduceMul, Nat.reduceSub, Nat.reduceBEq, Nat.reduceEqDiff, Nat.reduceLeDiff, Nat.reduceLT, Nat.reduceGT, Int.reduceToNat, Int.reduceLT, Int.reduceLE, Int.reduceNeg, Int.reduceAdd, Int.reduceEq, Int.reduceNe] <;> omega
      · obtain ⟨rfl, hx⟩ := hx
        dsimp only at hp
        cases hp
        simp only [seqK_ret, blockK_ret, retK_RK (K := o_impl_PutTexts), hx, and_self, true_and]
theorem ko_impl_PutTexts {P : Program} {env : Env} {f_impl_appendTexts : Nat}  (e_impl_appendTexts : k_impl_appendTexts (env (2 * f_impl_appendTexts + 1))) : k_impl_PutTexts (ownFn P env (c_impl_PutTexts f_impl_appendTexts)) := by
  intro x0 b hp h args has
  obtain ⟨⟨v, H2⟩, hr, n0, rfl, wn0⟩ := w_impl_PutTexts e_impl_appendTexts x0 hp
  exact ⟨_, own_call has hr rfl, keep_moved, n0 + h.length, rfl, (moved_lt wn0).2, (moved_lt wn0).1, moved_rows wn0⟩

noncomputable def p_laws_eqByteS_l0 (x0 : List U8) (x1 : List U8) : Int → Option (Lp (Int) Bool)
  | s1 =>
    if (decide (s1 < (x0.length : Int))) = true then
      (get? x0 s1).bind fun v3 =>
      (get? x1 s1).bind fun v4 =>
      if (decide (v3.v = v4.v)) = true then
        some (.go (w64 (s1 + 1)))
      else
        some (.ret false)
    else
      some (.out s1)
noncomputable def p_laws_eqByteS (x0 : List U8) (x1 : List U8) : Option Bool :=
  if (decide ((x0.length : Int) = (x1.length : Int))) = true then
    (loopP (p_laws_eqByteS_l0 x0 x1) 0).bind fun ee0 => match ee0 with
    | .ret r => some r
    | .out o6 =>
      some true
  else
    some false
def c_laws_eqByteS : AFn := ⟨26, (.seq (.ops [⟨(.some 4), (.mv (.const (.bool false))), .none, []⟩]) (.seq (.seq (.ops [⟨(.some 6), (.mv (.tmp 0)), .none, []⟩, ⟨(.some 7), (.len (.tmp 6)), .none, []⟩, ⟨(.some 8), (.mv (.tmp 1)), .none, []⟩, ⟨(.some 9), (.len (.tmp 8)), .none, []⟩, ⟨(.some 10), (.pu (.n (.ar .neq)) [(.tmp 7), (.tmp 9)]), .none, []⟩]) (.cond (.tmp 10) (.seq (.ops [⟨(.some 4), (.mv (.const (.bool false))), .none, []⟩]) .ret) .skip)) (.seq (.seq (.ops [⟨(.some 5), (.mv (.const (.int .i64 0))), .none, []⟩]) (.block 0 (.loop (.seq (.seq (.ops [⟨(.some 11), (.mv (.tmp 5)), .none, []⟩, ⟨(.some 12), (.mv (.tmp 0)), .none, []⟩, ⟨(.some 13), (.len (.tmp 12)), .none, []⟩, ⟨(.some 14), (.pu (.n (.ar .lss)) [(.tmp 11), (.tmp 13)]), .none, []⟩]) (.cond (.tmp 14) .skip (.exit 0))) (.seq (.block 1 (.seq (.ops [⟨(.some 17), (.mv (.tmp 0)), .none, []⟩, ⟨(.some 18), (.mv (.tmp 5)), .none, []⟩, ⟨(.some 19), (.idxS 1 (.tmp 17) (.tmp 18)), .none, []⟩, ⟨(.some 20), (.load 1 false (.tmp 19)), .none, []⟩, ⟨(.some 21), (.mv (.tmp 1)), .none, []⟩, ⟨(.some 22), (.mv (.tmp 5)), .none, []⟩, ⟨(.some 23), (.idxS 1 (.tmp 21) (.tmp 22)), .none, []⟩, ⟨(.some 24), (.load 1 false (.tmp 23)), .none, []⟩, ⟨(.some 25), (.pu (.n (.ar .neq)) [(.tmp 20), (.tmp 24)]), .none, []⟩]) (.cond (.tmp 25) (.seq (.ops [⟨(.some 4), (.mv (.const (.bool false))), .none, []⟩]) .ret) .skip))) (.ops [⟨(.some 15), (.mv (.tmp 5)), .none, []⟩, ⟨(.some 16), (.pu (.n (.ar .add)) [(.tmp 15), (.const (.int .i64 1))]), .none, []⟩, ⟨(.some 5), (.mv (.tmp 16)), .none, []⟩])))))) (.seq (.ops [⟨(.some 4), (.mv (.const (.bool true))), .none, []⟩]) .ret)))), [(.tmp 4)]⟩
set_option maxHeartbeats 10000000 in
theorem d_laws_eqByteS {P : Program} {env : Env}  (x0 : List U8) (x1 : List U8) {b : Bool} (hp : p_laws_eqByteS x0 x1 = some b) : R P env (c_laws_eqByteS) ((encA (x0, x1)).map ofI) [] (Tells true b) := by
  refine R_of (by simp [c_laws_eqByteS, encA]) ?_
  unfold c_laws_eqByteS
  unfold p_laws_eqByteS at hp
  by_cases hb0 : (decide ((x0.length : Int) = (x1.length : Int))) = true
  · rw [if_t hb0] at hp
    obtain ⟨ee0, hee0, hp⟩ := bind_eq hp
    simp (disch := first | omega | (simp only [List.length_set, List.length_append, List.length_cons, List.length_nil, rows_len, zs]; first | done | omega)) only [hb0, gs, reduceIte, reduceCtorEq, Nat.reduceAdd, Nat.reduceMul, Nat.reduceSub, Nat.reduceBEq, Nat.reduceEqDiff, Nat.reduceLeDiff, Nat.reduceLT, Nat.reduceGT, Int.reduceToNat, Int.reduceLT, Int.reduceLE, Int.reduceNeg, Int.reduceAdd, Int.reduceEq, Int.reduceNe]
    refine W_loopP 0 (fun s t h => match s with | s1 => t 0 = .i (.sl 1 (x0.map enc)) ∧ t 1 = .i (.sl 1 (x1.map enc)) ∧ t 5 = .i (.s (.int .i64 s1))) (RK [.tmp 4] (Tells true)) ?_ hee0 ?_ ?_
    · rintro s1 ee tt0 hh0 ⟨ftt0_0, ftt0_1, ftt0_2⟩ hp
      rw [p_laws_eqByteS_l0] at hp
      by_cases hb2 : (decide (s1 < (x0.length : Int))) = true
      · rw [if_t hb2] at hp
        obtain ⟨v3, hv3, hp⟩ := bind_eq hp
        obtain ⟨v4, hv4, hp⟩ := bind_eq hp
        by_cases hb5 : (decide (v3.v = v4.v)) = true
        · rw [if_t hb5] at hp
          have hp := Option.some.inj hp
          subst hp
          simp (disch := first | omega | (simp only [List.length_set, List.length_append, List.length_cons, List.length_nil, rows_len, zs]; first | done | omega)) only [hb0, ftt0_0, ftt0_1, ftt0_2, hb2, hv3, hv4, hb5, gs, reduceIte, reduceCtorEq, Nat.reduceAdd, Nat.reduceMul, Nat.reduceSub, Nat.reduceBEq, Nat.reduceEqDiff, Nat.reduceLeDiff, Nat.reduceLT, Nat.reduceGT, Int.reduceToNat, Int.reduceLT, Int.reduceLE, Int.reduceNeg, Int.reduceAdd, Int.reduceEq, Int.reduceNe] <;> omega
        · replace hb5 := eq_false_of_ne_true hb5
          rw [if_f hb5] at hp
          have hp := Option.some.inj hp
          subst hp
          simp (disch := first | omega | (simp only [List.length_set, List.length_append, List.length_cons, List.length_nil, rows_len, zs]; first | done | omega)) only [hb0, ftt0_0, ftt0_1, ftt0_2, hb2, hv3, hv4, hb5, gs, reduceIte, reduceCtorEq, Nat.reduceAdd, Nat.reduceMul, Nat.reduceSub, Nat.reduceBEq, Nat.reduceEqDiff, Nat.reduceLeDiff, Nat.reduceLT, Nat.reduceGT, Int.reduceToNat, Int.reduceLT, Int.reduceLE, Int.reduceNeg, Int.reduceAdd, Int.reduceEq, Int.reduceNe]
      · replace hb2 := eq_false_of_ne_true hb2
        rw [if_f hb2] at hp
        have hp := Option.some.inj hp
        subst hp
        simp (disch := first | omega | (simp only [List.length_set, List.length_append, List.length_cons, List.length_nil, rows_len, zs]; first | done | omega)) only [hb0, ftt0_0, ftt0_1, ftt0_2, hb2, gs, reduceIte, reduceCtorEq, Nat.reduceAdd, Nat.reduceMul, Nat.reduceSub, Nat.reduceBEq, Nat.reduceEqDiff, Nat.reduceLeDiff, Nat.reduceLT, Nat.reduceGT, Int.reduceToNat, Int.reduceLT, Int.reduceLE, Int.reduceNeg, Int.reduceAdd, Int.reduceEq, Int.reduceNe] <;> omega
    · simp (disch := first | omega | (simp only [List.length_set, List.length_append, List.length_cons, List.length_nil, rows_len, zs]; first | done | omega)) only [hb0, gs, reduceIte, reduceCtorEq, Nat.reduceAdd, Nat.reduceMul, Nat.reduceSub, Nat.reduceBEq, Nat.reduceEqDiff, Nat.reduceLeDiff, Nat.reduceLT, Nat.reduceGT, Int.reduceToNat, Int.reduceLT, Int.reduceLE, Int.reduceNeg, Int.reduceAdd, Int.reduceEq, Int.reduceNe] <;> omega
    · intro x tt1 hh1 hx
      rcases ee0 with o6 | r
      · obtain ⟨rfl, ftt1_0, ftt1_1, ftt1_2⟩ := hx
        dsimp only at hp
        have hp := Option.some.inj hp
        subst hp
        simp (disch := first | omega | (simp only [List.length_set, List.length_append, List.length_cons, List.length_nil, rows_len, zs]; first | done | omega)) only [hb0, ftt1_0, ftt1_1, ftt1_2, gs, reduceIte, reduceCtorEq, Nat.reduceAdd, Nat.reduceMul, Nat.reduceSub, Nat.reduceBEq, Nat.reduceEqDiff, Nat.reduceLeDiff, Nat.reduceLT, Nat.reduceGT, Int.reduceToNat, Int.reduceLT, Int.reduceLE, Int.reduceNeg, Int.reduceAdd, Int.reduceEq, Int.reduceNe]
      · obtain ⟨rfl, hx⟩ := hx
        dsimp only at hp
        cases hp
        simp only [seqK_ret, blockK_ret, retK_RK (K := Tells true), hx, and_self, true_and]
  · replace hb0 := eq_false_of_ne_true hb0
    rw [if_f hb0] at hp
    have hp := Option.some.inj hp
    subst hp
    simp (disch := first | omega | (simp only [List.length_set, List.length_append, List.length_cons, List.length_nil, rows_len, zs]; first | done | omega)) only [hb0, gs, reduceIte, reduceCtorEq, Nat.reduceAdd, Nat.reduceMul, Nat.reduceSub, Nat.reduceBEq, Nat.reduceEqDiff, Nat.reduceLeDiff, Nat.reduceLT, Nat.reduceGT, Int.reduceToNat, Int.reduceLT, Int.reduceLE, Int.reduceNeg, Int.reduceAdd, Int.reduceEq, Int.reduceNe]

noncomputable def p_laws_eqStringS_l0 (x0 : List ByteArray) (x1 : List ByteArray) : Int → Option (Lp (Int) Bool)
  | s1 =>
    if (decide (s1 < (x0.length : Int))) = true then
      (get? x0 s1).bind fun v3 =>
      (get? x1 s1).bind fun v4 =>
      if (decide (v3 = v4)) = true then
        some (.go (w64 (s1 + 1)))
      else
        some (.ret false)
    else
      some (.out s1)
noncomputable def p_laws_eqStringS (x0 : List ByteArray) (x1 : List ByteArray) : Option Bool :=
  if (decide ((x0.length : Int) = (x1.length : Int))) = true then
    (loopP (p_laws_eqStringS_l0 x0 x1) 0).bind fun ee0 => match ee0 with
    | .ret r => some r
    | .out o6 =>
      some true
  else
    some false
def c_laws_eqStringS : AFn := ⟨26, (.seq (.ops [⟨(.some 4), (.mv (.const (.bool false))), .none, []⟩]) (.seq (.seq (.ops [⟨(.some 6), (.mv (.tmp 0)), .none, []⟩, ⟨(.some 7), (.len (.tmp 6)), .none, []⟩, ⟨(.some 8), (.mv (.tmp 1)), .none, []⟩, ⟨(.some 9), (.len (.tmp 8)), .none, []⟩, ⟨(.some 10), (.pu (.n (.ar .neq)) [(.tmp 7), (.tmp 9)]), .none, []⟩]) (.cond (.tmp 10) (.seq (.ops [⟨(.some 4), (.mv (.const (.bool false))), .none, []⟩]) .ret) .skip)) (.seq (.seq (.ops [⟨(.some 5), (.mv (.const (.int .i64 0))), .none, []⟩]) (.block 0 (.loop (.seq (.seq (.ops [⟨(.some 11), (.mv (.tmp 5)), .none, []⟩, ⟨(.some 12), (.mv (.tmp 0)), .none, []⟩, ⟨(.some 13), (.len (.tmp 12)), .none, []⟩, ⟨(.some 14), (.pu (.n (.ar .lss)) [(.tmp 11), (.tmp 13)]), .none, []⟩]) (.cond (.tmp 14) .skip (.exit 0))) (.seq (.block 1 (.seq (.ops [⟨(.some 17), (.mv (.tmp 0)), .none, []⟩, ⟨(.some 18), (.mv (.tmp 5)), .none, []⟩, ⟨(.some 19), (.idxS 1 (.tmp 17) (.tmp 18)), .none, []⟩, ⟨(.some 20), (.load 1 false (.tmp 19)), .none, []⟩, ⟨(.some 21), (.mv (.tmp 1)), .none, []⟩, ⟨(.some 22), (.mv (.tmp 5)), .none, []⟩, ⟨(.some 23), (.idxS 1 (.tmp 21) (.tmp 22)), .none, []⟩, ⟨(.some 24), (.load 1 false (.tmp 23)), .none, []⟩, ⟨(.some 25), (.pu (.n (.ar .neq)) [(.tmp 20), (.tmp 24)]), .none, []⟩]) (.cond (.tmp 25) (.seq (.ops [⟨(.some 4), (.mv (.const (.bool false))), .none, []⟩]) .ret) .skip))) (.ops [⟨(.some 15), (.mv (.tmp 5)), .none, []⟩, ⟨(.some 16), (.pu (.n (.ar .add)) [(.tmp 15), (.const (.int .i64 1))]), .none, []⟩, ⟨(.some 5), (.mv (.tmp 16)), .none, []⟩])))))) (.seq (.ops [⟨(.some 4), (.mv (.const (.bool true))), .none, []⟩]) .ret)))), [(.tmp 4)]⟩
set_option maxHeartbeats 10000000 in
theorem d_laws_eqStringS {P : Program} {env : Env}  (x0 : List ByteArray) (x1 : List ByteArray) {b : Bool} (hp : p_laws_eqStringS x0 x1 = some b) : R P env (c_laws_eqStringS) ((encA (x0, x1)).map ofI) [] (Tells true b) := by
  refine R_of (by simp [c_laws_eqStringS, encA]) ?_
  unfold c_laws_eqStringS
  unfold p_laws_eqStringS at hp
  by_cases hb0 : (decide ((x0.length : Int) = (x1.length : Int))) = true
  · rw [if_t hb0] at hp
    obtain ⟨ee0, hee0, hp⟩ := bind_eq hp
    simp (disch := first | omega | (simp only [List.length_set, List.length_append, List.length_cons, List.length_nil, rows_len, zs]; first | done | omega)) only [hb0, gs, reduceIte, reduceCtorEq, Nat.reduceAdd, Nat.reduceMul, Nat.reduceSub, Nat.reduceBEq, Nat.reduceEqDiff, Nat.reduceLeDiff, Nat.reduceLT, Nat.reduceGT, Int.reduceToNat, Int.reduceLT, Int.reduceLE, Int.reduceNeg, Int.reduceAdd, Int.reduceEq, Int.reduceNe]
    refine W_loopP 0 (fun s t h => match s with | s1 => t 0 = .i (.sl 1 (x0.map enc)) ∧ t 1 = .i (.sl 1 (x1.map enc)) ∧ t 5 = .i (.s (.int .i64 s1))) (RK [.tmp 4] (Tells true)) ?_ hee0 ?_ ?_
    · rintro s1 ee tt0 hh0 ⟨ftt0_0, ftt0_1, ftt0_2⟩ hp
      rw [p_laws_eqStringS_l0] at hp
      by_cases hb2 : (decide (s1 < (x0.length : Int))) = true
      · rw [if_t hb2] at hp
        obtain ⟨v3, hv3, hp⟩ := bind_eq hp
        obtain ⟨v4, hv4, hp⟩ := bind_eq hp
        by_cases hb5 : (decide (v3 = v4)) = true
        · rw [if_t hb5] at hp
          have hp := Option.some.inj hp
          subst hp
          simp (disch := first | omega | (simp only [List.length_set, List.length_append, List.length_cons, List.length_nil, rows_len, zs]; first | done | omega)) only [hb0, ftt0_0, ftt0_1, ftt0_2, hb2, hv3, hv4, hb5, gs, reduceIte, reduceCtorEq, Nat.reduceAdd, Nat.reduceMul, Nat.reduceSub, Nat.reduceBEq, Nat.reduceEqDiff, Nat.reduceLeDiff, Nat.reduceLT, Nat.reduceGT, Int.reduceToNat, Int.reduceLT, Int.reduceLE, Int.reduceNeg, Int.reduceAdd, Int.reduceEq, Int.reduceNe] <;> omega
        · replace hb5 := eq_false_of_ne_true hb5
          rw [if_f hb5] at hp
          have hp := Option.some.inj hp
          subst hp
          simp (disch := first | omega | (simp only [List.length_set, List.length_append, List.length_cons, List.length_nil, rows_len, zs]; first | done | omega)) only [hb0, ftt0_0, ftt0_1, ftt0_2, hb2, hv3, hv4, hb5, gs, reduceIte, reduceCtorEq, Nat.reduceAdd, Nat.reduceMul, Nat.reduceSub, Nat.reduceBEq, Nat.reduceEqDiff, Nat.reduceLeDiff, Nat.reduceLT, Nat.reduceGT, Int.reduceToNat, Int.reduceLT, Int.reduceLE, Int.reduceNeg, Int.reduceAdd, Int.reduceEq, Int.reduceNe]
      · replace hb2 := eq_false_of_ne_true hb2
        rw [if_f hb2] at hp
        have hp := Option.some.inj hp
        subst hp
        simp (disch := first | omega | (simp only [List.length_set, List.length_append, List.length_cons, List.length_nil, rows_len, zs]; first | done | omega)) only [hb0, ftt0_0, ftt0_1, ftt0_2, hb2, gs, reduceIte, reduceCtorEq, Nat.reduceAdd, Nat.reduceMul, Nat.reduceSub, Nat.reduceBEq, Nat.reduceEqDiff, Nat.reduceLeDiff, Nat.reduceLT, Nat.reduceGT, Int.reduceToNat, Int.reduceLT, Int.reduceLE, Int.reduceNeg, Int.reduceAdd, Int.reduceEq, Int.reduceNe] <;> omega
    · simp (disch := first | omega | (simp only [List.length_set, List.length_append, List.length_cons, List.length_nil, rows_len, zs]; first | done | omega)) only [hb0, gs, reduceIte, reduceCtorEq, Nat.reduceAdd, Nat.reduceMul, Nat.reduceSub, Nat.reduceBEq, Nat.reduceEqDiff, Nat.reduceLeDiff, Nat.reduceLT, Nat.reduceGT, Int.reduceToNat, Int.reduceLT, Int.reduceLE, Int.reduceNeg, Int.reduceAdd, Int.reduceEq, Int.reduceNe] <;> omega
    · intro x tt1 hh1 hx
      rcases ee0 with o6 | r
      · obtain ⟨rfl, ftt1_0, ftt1_1, ftt1_2⟩ := hx
        dsimp only at hp
        have hp := Option.some.inj hp
        subst hp
        simp (disch := first | omega | (simp only [List.length_set, List.length_append, List.length_cons, List.length_nil, rows_len, zs]; first | done | omega)) only [hb0, ftt1_0, ftt1_1, ftt1_2, gs, reduceIte, reduceCtorEq, Nat.reduceAdd, Nat.reduceMul, Nat.reduceSub, Nat.reduceBEq, Nat.reduceEqDiff, Nat.reduceLeDiff, Nat.reduceLT, Nat.reduceGT, Int.reduceToNat, Int.reduceLT, Int.reduceLE, Int.reduceNeg, Int.reduceAdd, Int.reduceEq, Int.reduceNe]
      · obtain ⟨rfl, hx⟩ := hx
        dsimp only at hp
        cases hp
        simp only [seqK_ret, blockK_ret, retK_RK (K := Tells true), hx, and_self, true_and]
  · replace hb0 := eq_false_of_ne_true hb0
    rw [if_f hb0] at hp
    have hp := Option.some.inj hp
    subst hp
    simp (disch := first | omega | (simp only [List.length_set, List.length_append, List.length_cons, List.length_nil, rows_len, zs]; first | done | omega)) only [hb0, gs, reduceIte, reduceCtorEq, Nat.reduceAdd, Nat.reduceMul, Nat.reduceSub, Nat.reduceBEq, Nat.reduceEqDiff, Nat.reduceLeDiff, Nat.reduceLT, Nat.reduceGT, Int.reduceToNat, Int.reduceLT, Int.reduceLE, Int.reduceNeg, Int.reduceAdd, Int.reduceEq, Int.reduceNe]

noncomputable def p_laws_markText_l0 : Int × ByteArray → Option (Lp (Int × ByteArray) ByteArray)
  | (s1, s2) =>
    if (decide (0 < s1)) = true then
      (cat? (strOfNums [(IntKind.wrap .u8 (w64 (48 + (Int.tmod s1 10))))]) s2).bind fun v4 =>
      some (.go (w64 (Int.tdiv s1 10), v4))
    else
      some (.out (s1, s2))
noncomputable def p_laws_markText (x0 : Int) : Option ByteArray :=
  if (decide (x0 ≤ 0)) = true then
    some (ByteArray.mk #[109, 48])
  else
    (loopP (p_laws_markText_l0) (x0, (ByteArray.mk #[]))).bind fun ee0 => match ee0 with
    | .ret r => some r
    | .out (o5, o6) =>
      (cat? (ByteArray.mk #[109]) o6).bind fun v7 =>
      some v7
def c_laws_markText : AFn := ⟨20, (.seq (.ops [⟨(.some 2), (.mv (.const (.string ⟨#[]⟩))), .none, []⟩]) (.seq (.seq (.ops [⟨(.some 4), (.mv (.tmp 0)), .none, []⟩, ⟨(.some 5), (.pu (.n (.ar .leq)) [(.tmp 4), (.const (.int .i64 0))]), .none, []⟩]) (.cond (.tmp 5) (.seq (.ops [⟨(.some 2), (.mv (.const (.string ⟨#[109, 48]⟩))), .none, []⟩]) .ret) .skip)) (.seq (.ops [⟨(.some 3), (.mv (.const (.string ⟨#[]⟩))), .none, []⟩]) (.seq (.block 0 (.loop (.seq (.seq (.ops [⟨(.some 6), (.mv (.tmp 0)), .none, []⟩, ⟨(.some 7), (.pu (.n (.ar .gtr)) [(.tmp 6), (.const (.int .i64 0))]), .none, []⟩]) (.cond (.tmp 7) .skip (.exit 0))) (.block 1 (.seq (.ops [⟨(.some 8), (.mv (.tmp 0)), .none, []⟩, ⟨(.some 9), (.pu (.n (.ar .rem)) [(.tmp 8), (.const (.int .i64 10))]), .none, []⟩, ⟨(.some 10), (.pu (.n (.ar .add)) [(.const (.int .i64 48)), (.tmp 9)]), .none, []⟩, ⟨(.some 11), (.pu (.n (.conv .u8)) [(.tmp 10)]), .none, []⟩, ⟨(.some 12), (.buildSl 1 false 1 [(.int .u8 0)] [(0, (.tmp 11))]), .none, []⟩, ⟨(.some 13), (.b2s (.tmp 12)), .none, []⟩, ⟨(.some 14), (.mv (.tmp 3)), .none, []⟩, ⟨(.some 15), (.pu (.n (.ar .add)) [(.tmp 13), (.tmp 14)]), .none, []⟩, ⟨(.some 3), (.mv (.tmp 15)), .none, []⟩]) (.ops [⟨(.some 16), (.mv (.tmp 0)), .none, []⟩, ⟨(.some 17), (.pu (.n (.ar .quo)) [(.tmp 16), (.const (.int .i64 10))]), .none, []⟩, ⟨(.some 0), (.mv (.tmp 17)), .none, []⟩])))))) (.seq (.ops [⟨(.some 18), (.mv (.tmp 3)), .none, []⟩, ⟨(.some 19), (.pu (.n (.ar .add)) [(.const (.string ⟨#[109]⟩)), (.tmp 18)]), .none, []⟩, ⟨(.some 2), (.mv (.tmp 19)), .none, []⟩]) .ret))))), [(.tmp 2)]⟩
set_option maxHeartbeats 10000000 in
theorem d_laws_markText {P : Program} {env : Env}  (x0 : Int) {b : ByteArray} (hp : p_laws_markText x0 = some b) : R P env (c_laws_markText) ((encA (x0)).map ofI) [] (Tells true b) := by
  refine R_of (by simp [c_laws_markText, encA]) ?_
  unfold c_laws_markText
  unfold p_laws_markText at hp
  by_cases hb0 : (decide (x0 ≤ 0)) = true
  · rw [if_t hb0] at hp
    have hp := Option.some.inj hp
    subst hp
    simp (disch := first | omega | (simp only [List.length_set, List.length_append, List.length_cons, List.length_nil, rows_len, zs]; first | done | omega)) only [hb0, gs, reduceIte, reduceCtorEq, Nat.reduceAdd, Nat.reduceMul, Nat.reduceSub, Nat.reduceBEq, Nat.reduceEqDiff, Nat.reduceLeDiff, Nat.reduceLT, Nat.reduceGT, Int.reduceToNat, Int.reduceLT, Int.reduceLE, Int.reduceNeg, Int.reduceAdd, Int.reduceEq, Int.reduceNe]
  · replace hb0 := eq_false_of_ne_true hb0
    rw [if_f hb0] at hp
    obtain ⟨ee0, hee0, hp⟩ := bind_eq hp
    simp (disch := first | omega | (simp only [List.length_set, List.length_append, List.length_cons, List.length_nil, rows_len, zs]; first | done | omega)) only [hb0, gs, reduceIte, reduceCtorEq, Nat.reduceAdd, Nat.reduceMul, Nat.reduceSub, Nat.reduceBEq, Nat.reduceEqDiff, Nat.reduceLeDiff, Nat.reduceLT, Nat.reduceGT, Int.reduceToNat, Int.reduceLT, Int.reduceLE, Int.reduceNeg, Int.reduceAdd, Int.reduceEq, Int.reduceNe]
    refine W_loopP 0 (fun s t h => match s with | (s1, s2) => t 0 = .i (.s (.int .i64 s1)) ∧ t 3 = .i (.s (.string s2))) (RK [.tmp 2] (Tells true)) ?_ hee0 ?_ ?_
    · rintro ⟨s1, s2⟩ ee tt0 hh0 ⟨ftt0_0, ftt0_1⟩ hp
      rw [p_laws_markText_l0] at hp
      by_cases hb3 : (decide (0 < s1)) = true
      · rw [if_t hb3] at hp
        obtain ⟨v4, hv4, hp⟩ := bind_eq hp
        have hp := Option.some.inj hp
        subst hp
        simp (disch := first | omega | (simp only [List.length_set, List.length_append, List.length_cons, List.length_nil, rows_len, zs]; first | done | omega)) only [hb0, ftt0_0, ftt0_1, hb3, hv4, gs, reduceIte, reduceCtorEq, Nat.reduceAdd, Nat.reduceMul, Nat.reduceSub, Nat.reduceBEq, Nat.reduceEqDiff, Nat.reduceLeDiff, Nat.reduceLT, Nat.reduceGT, Int.reduceToNat, Int.reduceLT, Int.reduceLE, Int.reduceNeg, Int.reduceAdd, Int.reduceEq, Int.reduceNe] <;> omega
      · replace hb3 := eq_false_of_ne_true hb3
        rw [if_f hb3] at hp
        have hp := Option.some.inj hp
        subst hp
        simp (disch := first | omega | (simp only [List.length_set, List.length_append, List.length_cons, List.length_nil, rows_len, zs]; first | done | omega)) only [hb0, ftt0_0, ftt0_1, hb3, gs, reduceIte, reduceCtorEq, Nat.reduceAdd, Nat.reduceMul, Nat.reduceSub, Nat.reduceBEq, Nat.reduceEqDiff, Nat.reduceLeDiff, Nat.reduceLT, Nat.reduceGT, Int.reduceToNat, Int.reduceLT, Int.reduceLE, Int.reduceNeg, Int.reduceAdd, Int.reduceEq, Int.reduceNe] <;> omega
    · simp (disch := first | omega | (simp only [List.length_set, List.length_append, List.length_cons, List.length_nil, rows_len, zs]; first | done | omega)) only [hb0, gs, reduceIte, reduceCtorEq, Nat.reduceAdd, Nat.reduceMul, Nat.reduceSub, Nat.reduceBEq, Nat.reduceEqDiff, Nat.reduceLeDiff, Nat.reduceLT, Nat.reduceGT, Int.reduceToNat, Int.reduceLT, Int.reduceLE, Int.reduceNeg, Int.reduceAdd, Int.reduceEq, Int.reduceNe] <;> omega
    · intro x tt1 hh1 hx
      rcases ee0 with ⟨o5, o6⟩ | r
      · obtain ⟨rfl, ftt1_0, ftt1_1⟩ := hx
        dsimp only at hp
        obtain ⟨v7, hv7, hp⟩ := bind_eq hp
        have hp := Option.some.inj hp
        subst hp
        simp (disch := first | omega | (simp only [List.length_set, List.length_append, List.length_cons, List.length_nil, rows_len, zs]; first | done | omega)) only [hb0, ftt1_0, ftt1_1, hv7, gs, reduceIte, reduceCtorEq, Nat.reduceAdd, Nat.reduceMul, Nat.reduceSub, Nat.reduceBEq, Nat.reduceEqDiff, Nat.reduceLeDiff, Nat.reduceLT, Nat.reduceGT, Int.reduceToNat, Int.reduceLT, Int.reduceLE, Int.reduceNeg, Int.reduceAdd, Int.reduceEq, Int.reduceNe]
      · obtain ⟨rfl, hx⟩ := hx
        dsimp only at hp
        cases hp
        simp only [seqK_ret, blockK_ret, retK_RK (K := Tells true), hx, and_self, true_and]

noncomputable def p_laws_markStringS_l0 : List ByteArray × Int × Int → Option (Lp (List ByteArray × Int × Int) (T2 Int (List ByteArray)))
  | (s0, s1, s2) =>
    if (decide (s2 < (s0.length : Int))) = true then
      (p_laws_markText s1).bind fun v5 =>
      (get? s0 s2).bind fun v6 =>
      some (.go ((s0.set s2.toNat v5), w64 (s1 + 1), w64 (s2 + 1)))
    else
      some (.out (s0, s1, s2))
noncomputable def p_laws_markStringS (x0 : List ByteArray) (x1 : Int) : Option (T2 Int (List ByteArray)) :=
  (loopP (p_laws_markStringS_l0) (x0, x1, 0)).bind fun ee0 => match ee0 with
  | .ret r => some r
  | .out (o8, o9, o10) =>
    some ⟨o9, o8⟩
def c_laws_markStringS (f_laws_markText : Nat) : AFn := ⟨20, (.seq (.ops [⟨(.some 4), (.mv (.const (.int .i64 0))), .none, []⟩]) (.seq (.seq (.ops [⟨(.some 5), (.mv (.const (.int .i64 0))), .none, []⟩]) (.block 0 (.loop (.seq (.seq (.ops [⟨(.some 6), (.mv (.tmp 5)), .none, []⟩, ⟨(.some 7), (.mv (.tmp 0)), .none, []⟩, ⟨(.some 8), (.len (.tmp 7)), .none, []⟩, ⟨(.some 9), (.pu (.n (.ar .lss)) [(.tmp 6), (.tmp 8)]), .none, []⟩]) (.cond (.tmp 9) .skip (.exit 0))) (.seq (.block 1 (.seq (.ops [⟨(.some 12), (.mv (.tmp 0)), .none, []⟩, ⟨(.some 13), (.mv (.tmp 5)), .none, []⟩, ⟨(.some 14), (.mv (.tmp 1)), .none, []⟩, ⟨(.some 15), (.call (2 * f_laws_markText) [(.tmp 14)]), .none, []⟩, ⟨(.some 16), (.idxS 1 (.tmp 12) (.tmp 13)), .none, []⟩, ⟨.none, (.storeV [(0, false)] 1 (.tmp 16) (.tmp 15)), .none, []⟩]) (.ops [⟨(.some 17), (.mv (.tmp 1)), .none, []⟩, ⟨(.some 18), (.pu (.n (.ar .add)) [(.tmp 17), (.const (.int .i64 1))]), .none, []⟩, ⟨(.some 1), (.mv (.tmp 18)), .none, []⟩]))) (.ops [⟨(.some 10), (.mv (.tmp 5)), .none, []⟩, ⟨(.some 11), (.pu (.n (.ar .add)) [(.tmp 10), (.const (.int .i64 1))]), .none, []⟩, ⟨(.some 5), (.mv (.tmp 11)), .none, []⟩])))))) (.seq (.ops [⟨(.some 19), (.mv (.tmp 1)), .none, []⟩, ⟨(.some 4), (.mv (.tmp 19)), .none, []⟩]) .ret))), [(.tmp 4)]⟩
def i_laws_markStringS (pb0 pn0 : Nat) (h : Heap) (b : T2 Int (List ByteArray)) (v : V) (h2 : Heap) : Prop := Keep [pb0] h h2 ∧ v = .i (.s (.int .i64 b.a)) ∧ getCells h2 pb0 pn0 = some (rows b.b)
def k_laws_markStringS (F : Fun) : Prop := ∀ (x0 : List ByteArray) (x1 : Int) (b : T2 Int (List ByteArray)), p_laws_markStringS x0 x1 = some b → ∀ (pb0 pn0 : Nat) (h : Heap), pn0 = (x0).length → getCells h pb0 pn0 = some (rows x0) → ∃ p, F none [.hsl pb0 pn0 0 1 false pn0, .i (.s (.int .i64 x1))] h = some p ∧ i_laws_markStringS pb0 pn0 h b p.1 p.2
set_option maxHeartbeats 10000000 in
theorem w_laws_markStringS {P : Program} {env : Env} {f_laws_markText : Nat}  (ep_laws_markText : env (2 * f_laws_markText) = pureFn true (FA fun a : Int => p_laws_markText a)) (x0 : List ByteArray) (x1 : Int) {b : T2 Int (List ByteArray)} (hp : p_laws_markStringS x0 x1 = some b) (pb0 pn0 : Nat) (hh : Heap) (pm0 : pn0 = (x0).length) (pf0 : getCells hh pb0 pn0 = some (rows x0)) : R P env (c_laws_markStringS f_laws_markText) [.hsl pb0 pn0 0 1 false pn0, .i (.s (.int .i64 x1))] hh (i_laws_markStringS pb0 pn0 hh b) := by
  have pl0 := gc_lt pf0
  have pg0 : getCells hh pb0 x0.length = some (rows x0) := by rw [← pm0]; exact pf0
  refine R_of (by simp [c_laws_markStringS, encA]) ?_
  unfold c_laws_markStringS
  unfold p_laws_markStringS at hp
  obtain ⟨ee0, hee0, hp⟩ := bind_eq hp
  simp (disch := first | omega | (simp only [List.length_set, List.length_append, List.length_cons, List.length_nil, rows_len, zs]; first | done | omega)) only [ep_laws_markText, pf0, pg0, gs, reduceIte, reduceCtorEq, Nat.reduceAdd, Nat.reduceMul, Nat.reduceSub, Nat.reduceBEq, Nat.reduceEqDiff, Nat.reduceLeDiff, Nat.reduceLT, Nat.reduceGT, Int.reduceToNat, Int.reduceLT, Int.reduceLE, Int.reduceNeg, Int.reduceAdd, Int.reduceEq, Int.reduceNe]
  refine W_loopP 0 (fun s t h => match s with | (s0, s1, s2) => t 0 = .hsl pb0 pn0 0 1 false pn0 ∧ t 1 = .i (.s (.int .i64 s1)) ∧ t 5 = .i (.s (.int .i64 s2)) ∧ getCells h pb0 pn0 = some (rows (s0 : List ByteArray)) ∧ pb0 < h.length ∧ Keep [pb0] hh h) (RK [.tmp 4] (i_laws_markStringS pb0 pn0 hh)) ?_ hee0 ?_ ?_
  · rintro ⟨s0, s1, s2⟩ ee tt0 hh0 ⟨ftt0_0, ftt0_1, ftt0_2, ftt0_3, ftt0_4, ftt0_5⟩ hp
    have ztt0_3 := len_rows ftt0_3
    simp only [zs] at ztt0_3
    rw [p_laws_markStringS_l0] at hp
    have hz3 : ((pn0 : Nat) : Int) = (s0.length : Int) := by omega
    by_cases hb4 : (decide (s2 < (s0.length : Int))) = true
    · rw [if_t hb4] at hp
      obtain ⟨v5, hv5, hp⟩ := bind_eq hp
      obtain ⟨v6, hv6, hp⟩ := bind_eq hp
      have gv6 := get_some hv6
      have hs7 : List.take s2.toNat (rows s0) ++ .i (.s (.string v5)) :: List.drop (s2.toNat + 1) (rows s0) = rows (s0.set s2.toNat v5) := by simpa [splice, zs, cellsV, I.cells, enc_str] using rows_set_off (y := v5) (ys := [.i (.s (.string v5))]) (k := 0) gv6.2.2 (Nat.le_of_ble_eq_true rfl) (by rfl)
      have hp := Option.some.inj hp
      subst hp
      simp (disch := first | omega | (simp only [List.length_set, List.length_append, List.length_cons, List.length_nil, rows_len, zs]; first | done | omega)) only [i_laws_markStringS, ep_laws_markText, pf0, pg0, ftt0_0, ftt0_1, ftt0_2, ftt0_3, ftt0_4, ftt0_5, hz3, hb4, hv5, hv6, (gv6).1, (gv6).2.1, hs7, gs, reduceIte, reduceCtorEq, Nat.reduceAdd, Nat.reduceMul, Nat.reduceSub, Nat.reduceBEq, Nat.reduceEqDiff, Nat.reduceLeDiff, Nat.reduceLT, Nat.reduceGT, Int.reduceToNat, Int.reduceLT, Int.reduceLE, Int.reduceNeg, Int.reduceAdd, Int.reduceEq, Int.reduceNe] <;> (repeat (first | omega | assumption | rfl | exact keep_refl | refine keep_app ?_ | (refine keep_set (by first | (left; simp; done) | (right; simp; omega)) ?_) | refine And.intro ?_ ?_))
    · replace hb4 := eq_false_of_ne_true hb4
      rw [if_f hb4] at hp
      have hp := Option.some.inj hp
      subst hp
      simp (disch := first | omega | (simp only [List.length_set, List.length_append, List.length_cons, List.length_nil, rows_len, zs]; first | done | omega)) only [i_laws_markStringS, ep_laws_markText, pf0, pg0, ftt0_0, ftt0_1, ftt0_2, ftt0_3, ftt0_4, ftt0_5, hz3, hb4, gs, reduceIte, reduceCtorEq, Nat.reduceAdd, Nat.reduceMul, Nat.reduceSub, Nat.reduceBEq, Nat.reduceEqDiff, Nat.reduceLeDiff, Nat.reduceLT, Nat.reduceGT, Int.reduceToNat, Int.reduceLT, Int.reduceLE, Int.reduceNeg, Int.reduceAdd, Int.reduceEq, Int.reduceNe] <;> (repeat (first | omega | assumption | rfl | exact keep_refl | refine keep_app ?_ | (refine keep_set (by first | (left; simp; done) | (right; simp; omega)) ?_) | refine And.intro ?_ ?_))
  · simp (disch := first | omega | (simp only [List.length_set, List.length_append, List.length_cons, List.length_nil, rows_len, zs]; first | done | omega)) only [i_laws_markStringS, ep_laws_markText, pf0, pg0, gs, reduceIte, reduceCtorEq, Nat.reduceAdd, Nat.reduceMul, Nat.reduceSub, Nat.reduceBEq, Nat.reduceEqDiff, Nat.reduceLeDiff, Nat.reduceLT, Nat.reduceGT, Int.reduceToNat, Int.reduceLT, Int.reduceLE, Int.reduceNeg, Int.reduceAdd, Int.reduceEq, Int.reduceNe] <;> (repeat (first | omega | assumption | rfl | exact keep_refl | refine keep_app ?_ | (refine keep_set (by first | (left; simp; done) | (right; simp; omega)) ?_) | refine And.intro ?_ ?_))
  · intro x tt1 hh1 hx
    rcases ee0 with ⟨o8, o9, o10⟩ | r
    · obtain ⟨rfl, ftt1_0, ftt1_1, ftt1_2, ftt1_3, ftt1_4, ftt1_5⟩ := hx
      have ztt1_3 := len_rows ftt1_3
      simp only [zs] at ztt1_3
      dsimp only at hp
      have hp := Option.some.inj hp
      subst hp
      simp (disch := first | omega | (simp only [List.length_set, List.length_append, List.length_cons, List.length_nil, rows_len, zs]; first | done | omega)) only [i_laws_markStringS, ep_laws_markText, pf0, pg0, ftt1_0, ftt1_1, ftt1_2, ftt1_3, ftt1_4, ftt1_5, gs, reduceIte, reduceCtorEq, Nat.reduceAdd, Nat.reduceMul, Nat.reduceSub, Nat.reduceBEq, Nat.reduceEqDiff, Nat.reduceLeDiff, Nat.reduceLT, Nat.reduceGT, Int.reduceToNat, Int.reduceLT, Int.reduceLE, Int.reduceNeg, Int.reduceAdd, Int.reduceEq, Int.reduceNe] <;> (repeat (first | omega | assumption | rfl | exact keep_refl | refine keep_app ?_ | (refine keep_set (by first | (left; simp; done) | (right; simp; omega)) ?_) | refine And.intro ?_ ?_))
    · obtain ⟨rfl, hx⟩ := hx
      dsimp only at hp
      cases hp
      simp only [seqK_ret, blockK_ret, retK_RK (K := i_laws_markStringS pb0 pn0 hh), hx, and_self, true_and]
theorem ko_laws_markStringS {P : Program} {env : Env} {f_laws_markText : Nat}  (ep_laws_markText : env (2 * f_laws_markText) = pureFn true (FA fun a : Int => p_laws_markText a)) : k_laws_markStringS (runIn P env (c_laws_markStringS f_laws_markText)) := by
  intro x0 x1 b hp pb0 pn0 h a0 a1
  exact w_laws_markStringS ep_laws_markText x0 x1 hp pb0 pn0 h a0 a1

noncomputable def p_laws_markByteS_l0 : List U8 × Int × Int → Option (Lp (List U8 × Int × Int) (T2 Int (List U8)))
  | (s0, s1, s2) =>
    if (decide (s2 < (s0.length : Int))) = true then
      (get? s0 s2).bind fun v5 =>
      some (.go ((s0.set s2.toNat (U8.mk (IntKind.wrap .u8 s1))), w64 (s1 + 1), w64 (s2 + 1)))
    else
      some (.out (s0, s1, s2))
noncomputable def p_laws_markByteS (x0 : List U8) (x1 : Int) : Option (T2 Int (List U8)) :=
  (loopP (p_laws_markByteS_l0) (x0, x1, 0)).bind fun ee0 => match ee0 with
  | .ret r => some r
  | .out (o7, o8, o9) =>
    some ⟨o8, o7⟩
def c_laws_markByteS : AFn := ⟨20, (.seq (.ops [⟨(.some 4), (.mv (.const (.int .i64 0))), .none, []⟩]) (.seq (.seq (.ops [⟨(.some 5), (.mv (.const (.int .i64 0))), .none, []⟩]) (.block 0 (.loop (.seq (.seq (.ops [⟨(.some 6), (.mv (.tmp 5)), .none, []⟩, ⟨(.some 7), (.mv (.tmp 0)), .none, []⟩, ⟨(.some 8), (.len (.tmp 7)), .none, []⟩, ⟨(.some 9), (.pu (.n (.ar .lss)) [(.tmp 6), (.tmp 8)]), .none, []⟩]) (.cond (.tmp 9) .skip (.exit 0))) (.seq (.block 1 (.seq (.ops [⟨(.some 12), (.mv (.tmp 0)), .none, []⟩, ⟨(.some 13), (.mv (.tmp 5)), .none, []⟩, ⟨(.some 14), (.mv (.tmp 1)), .none, []⟩, ⟨(.some 15), (.pu (.n (.conv .u8)) [(.tmp 14)]), .none, []⟩, ⟨(.some 16), (.idxS 1 (.tmp 12) (.tmp 13)), .none, []⟩, ⟨.none, (.storeV [(0, false)] 1 (.tmp 16) (.tmp 15)), .none, []⟩]) (.ops [⟨(.some 17), (.mv (.tmp 1)), .none, []⟩, ⟨(.some 18), (.pu (.n (.ar .add)) [(.tmp 17), (.const (.int .i64 1))]), .none, []⟩, ⟨(.some 1), (.mv (.tmp 18)), .none, []⟩]))) (.ops [⟨(.some 10), (.mv (.tmp 5)), .none, []⟩, ⟨(.some 11), (.pu (.n (.ar .add)) [(.tmp 10), (.const (.int .i64 1))]), .none, []⟩, ⟨(.some 5), (.mv (.tmp 11)), .none, []⟩])))))) (.seq (.ops [⟨(.some 19), (.mv (.tmp 1)), .none, []⟩, ⟨(.some 4), (.mv (.tmp 19)), .none, []⟩]) .ret))), [(.tmp 4)]⟩
def i_laws_markByteS (pb0 pn0 : Nat) (h : Heap) (b : T2 Int (List U8)) (v : V) (h2 : Heap) : Prop := Keep [pb0] h h2 ∧ v = .i (.s (.int .i64 b.a)) ∧ getCells h2 pb0 pn0 = some (rows b.b)
def k_laws_markByteS (F : Fun) : Prop := ∀ (x0 : List U8) (x1 : Int) (b : T2 Int (List U8)), p_laws_markByteS x0 x1 = some b → ∀ (pb0 pn0 : Nat) (h : Heap), pn0 = (x0).length → getCells h pb0 pn0 = some (rows x0) → ∃ p, F none [.hsl pb0 pn0 0 1 false pn0, .i (.s (.int .i64 x1))] h = some p ∧ i_laws_markByteS pb0 pn0 h b p.1 p.2
set_option maxHeartbeats 10000000 in
theorem w_laws_markByteS {P : Program} {env : Env}  (x0 : List U8) (x1 : Int) {b : T2 Int (List U8)} (hp : p_laws_markByteS x0 x1 = some b) (pb0 pn0 : Nat) (hh : Heap) (pm0 : pn0 = (x0).length) (pf0 : getCells hh pb0 pn0 = some (rows x0)) : R P env (c_laws_markByteS) [.hsl pb0 pn0 0 1 false pn0, .i (.s (.int .i64 x1))] hh (i_laws_markByteS pb0 pn0 hh b) := by
  have pl0 := gc_lt pf0
  have pg0 : getCells hh pb0 x0.length = some (rows x0) := by rw [← pm0]; exact pf0
  refine R_of (by simp [c_laws_markByteS, encA]) ?_
  unfold c_laws_markByteS
  unfold p_laws_markByteS at hp
  obtain ⟨ee0, hee0, hp⟩ := bind_eq hp
  simp (disch := first | omega | (simp only [List.length_set, List.length_append, List.length_cons, List.length_nil, rows_len, zs]; first | done | omega)) only [pf0, pg0, gs, reduceIte, reduceCtorEq, Nat.reduceAdd, Nat.reduceMul, Nat.reduceSub, Nat.reduceBEq, Nat.reduceEqDiff, Nat.reduceLeDiff, Nat.reduceLT, Nat.reduceGT, Int.reduceToNat, Int.reduceLT, Int.reduceLE, Int.reduceNeg, Int.reduceAdd, Int.reduceEq, Int.reduceNe]
  refine W_loopP 0 (fun s t h => match s with | (s0, s1, s2) => t 0 = .hsl pb0 pn0 0 1 false pn0 ∧ t 1 = .i (.s (.int .i64 s1)) ∧ t 5 = .i (.s (.int .i64 s2)) ∧ getCells h pb0 pn0 = some (rows (s0 : List U8)) ∧ pb0 < h.length ∧ Keep [pb0] hh h) (RK [.tmp 4] (i_laws_markByteS pb0 pn0 hh)) ?_ hee0 ?_ ?_
  · rintro ⟨s0, s1, s2⟩ ee tt0 hh0 ⟨ftt0_0, ftt0_1, ftt0_2, ftt0_3, ftt0_4, ftt0_5⟩ hp
    have ztt0_3 := len_rows ftt0_3
    simp only [zs] at ztt0_3
    rw [p_laws_markByteS_l0] at hp
    have hz3 : ((pn0 : Nat) : Int) = (s0.length : Int) := by omega
    by_cases hb4 : (decide (s2 < (s0.length : Int))) = true
    · rw [if_t hb4] at hp
      obtain ⟨v5, hv5, hp⟩ := bind_eq hp
      have gv5 := get_some hv5
      have hs6 : List.take s2.toNat (rows s0) ++ .i (.s (.int .u8 (IntKind.wrap .u8 s1))) :: List.drop (s2.toNat + 1) (rows s0) = rows (s0.set s2.toNat (U8.mk (IntKind.wrap .u8 s1))) := by simpa [splice, zs, cellsV, I.cells, enc_u8] using rows_set_off (y := (U8.mk (IntKind.wrap .u8 s1))) (ys := [.i (.s (.int .u8 (IntKind.wrap .u8 s1)))]) (k := 0) gv5.2.2 (Nat.le_of_ble_eq_true rfl) (by rfl)
      have hp := Option.some.inj hp
      subst hp
      simp (disch := first | omega | (simp only [List.length_set, List.length_append, List.length_cons, List.length_nil, rows_len, zs]; first | done | omega)) only [i_laws_markByteS, pf0, pg0, ftt0_0, ftt0_1, ftt0_2, ftt0_3, ftt0_4, ftt0_5, hz3, hb4, hv5, (gv5).1, (gv5).2.1, hs6, gs, reduceIte, reduceCtorEq, Nat.reduceAdd, Nat.reduceMul, Nat.reduceSub, Nat.reduceBEq, Nat.reduceEqDiff, Nat.reduceLeDiff, Nat.reduceLT, Nat.reduceGT, Int.reduceToNat, Int.reduceLT, Int.reduceLE, Int.reduceNeg, Int.reduceAdd, Int.reduceEq, Int.reduceNe] <;> (repeat (first | omega | assumption | rfl | exact keep_refl | refine keep_app ?_ | (refine keep_set (by first | (left; simp; done) | (right; simp; omega)) ?_) | refine And.intro ?_ ?_))
    · replace hb4 := eq_false_of_ne_true hb4
      rw [if_f hb4] at hp
      have hp := Option.some.inj hp
      subst hp
      simp (disch := first | omega | (simp only [List.length_set, List.length_append, List.length_cons, List.length_nil, rows_len, zs]; first | done | omega)) only [i_laws_markByteS, pf0, pg0, ftt0_0, ftt0_1, ftt0_2, ftt0_3, ftt0_4, ftt0_5, hz3, hb4, gs, reduceIte, reduceCtorEq, Nat.reduceAdd, Nat.reduceMul, Nat.reduceSub, Nat.reduceBEq, Nat.reduceEqDiff, Nat.reduceLeDiff, Nat.reduceLT, Nat.reduceGT, Int.reduceToNat, Int.reduceLT, Int.reduceLE, Int.reduceNeg, Int.reduceAdd, Int.reduceEq, Int.reduceNe] <;> (repeat (first | omega | assumption | rfl | exact keep_refl | refine keep_app ?_ | (refine keep_set (by first | (left; simp; done) | (right; simp; omega)) ?_) | refine And.intro ?_ ?_))
  · simp (disch := first | omega | (simp only [List.length_set, List.length_append, List.length_cons, List.length_nil, rows_len, zs]; first | done | omega)) only [i_laws_markByteS, pf0, pg0, gs, reduceIte, reduceCtorEq, Nat.reduceAdd, Nat.reduceMul, Nat.reduceSub, Nat.reduceBEq, Nat.reduceEqDiff, Nat.reduceLeDiff, Nat.reduceLT, Nat.reduceGT, Int.reduceToNat, Int.reduceLT, Int.reduceLE, Int.reduceNeg, Int.reduceAdd, Int.reduceEq, Int.reduceNe] <;> (repeat (first | omega | assumption | rfl | exact keep_refl | refine keep_app ?_ | (refine keep_set (by first | (left; simp; done) | (right; simp; omega)) ?_) | refine And.intro ?_ ?_))
  · intro x tt1 hh1 hx
    rcases ee0 with ⟨o7, o8, o9⟩ | r
    · obtain ⟨rfl, ftt1_0, ftt1_1, ftt1_2, ftt1_3, ftt1_4, ftt1_5⟩ := hx
      have ztt1_3 := len_rows ftt1_3
      simp only [zs] at ztt1_3
      dsimp only at hp
      have hp := Option.some.inj hp
      subst hp
      simp (disch := first | omega | (simp only [List.length_set, List.length_append, List.length_cons, List.length_nil, rows_len, zs]; first | done | omega)) only [i_laws_markByteS, pf0, pg0, ftt1_0, ftt1_1, ftt1_2, ftt1_3, ftt1_4, ftt1_5, gs, reduceIte, reduceCtorEq, Nat.reduceAdd, Nat.reduceMul, Nat.reduceSub, Nat.reduceBEq, Nat.reduceEqDiff, Nat.reduceLeDiff, Nat.reduceLT, Nat.reduceGT, Int.reduceToNat, Int.reduceLT, Int.reduceLE, Int.reduceNeg, Int.reduceAdd, Int.reduceEq, Int.reduceNe] <;> (repeat (first | omega | assumption | rfl | exact keep_refl | refine keep_app ?_ | (refine keep_set (by first | (left; simp; done) | (right; simp; omega)) ?_) | refine And.intro ?_ ?_))
    · obtain ⟨rfl, hx⟩ := hx
      dsimp only at hp
      cases hp
      simp only [seqK_ret, blockK_ret, retK_RK (K := i_laws_markByteS pb0 pn0 hh), hx, and_self, true_and]
theorem ko_laws_markByteS {P : Program} {env : Env}  : k_laws_markByteS (runIn P env (c_laws_markByteS)) := by
  intro x0 x1 b hp pb0 pn0 h a0 a1
  exact w_laws_markByteS x0 x1 hp pb0 pn0 h a0 a1

noncomputable def p_laws_heldByteS_l0 (x0 : List U8) : Int × Int → Option (Lp (Int × Int) Int)
  | (s0, s1) =>
    if (decide (s1 < (x0.length : Int))) = true then
      (get? x0 s1).bind fun v3 =>
      if (decide (v3.v = IntKind.wrap .u8 s0)) = true then
        some (.go (w64 (s0 + 1), w64 (s1 + 1)))
      else
        some (.ret (-1))
    else
      some (.out (s0, s1))
noncomputable def p_laws_heldByteS (x0 : List U8) (x1 : Int) : Option Int :=
  (loopP (p_laws_heldByteS_l0 x0) (x1, 0)).bind fun ee0 => match ee0 with
  | .ret r => some r
  | .out (o5, o6) =>
    some o5
def c_laws_heldByteS : AFn := ⟨22, (.seq (.ops [⟨(.some 4), (.mv (.const (.int .i64 0))), .none, []⟩]) (.seq (.seq (.ops [⟨(.some 5), (.mv (.const (.int .i64 0))), .none, []⟩]) (.block 0 (.loop (.seq (.seq (.ops [⟨(.some 6), (.mv (.tmp 5)), .none, []⟩, ⟨(.some 7), (.mv (.tmp 0)), .none, []⟩, ⟨(.some 8), (.len (.tmp 7)), .none, []⟩, ⟨(.some 9), (.pu (.n (.ar .lss)) [(.tmp 6), (.tmp 8)]), .none, []⟩]) (.cond (.tmp 9) .skip (.exit 0))) (.seq (.block 1 (.seq (.seq (.ops [⟨(.some 12), (.mv (.tmp 0)), .none, []⟩, ⟨(.some 13), (.mv (.tmp 5)), .none, []⟩, ⟨(.some 14), (.idxS 1 (.tmp 12) (.tmp 13)), .none, []⟩, ⟨(.some 15), (.load 1 false (.tmp 14)), .none, []⟩, ⟨(.some 16), (.mv (.tmp 1)), .none, []⟩, ⟨(.some 17), (.pu (.n (.conv .u8)) [(.tmp 16)]), .none, []⟩, ⟨(.some 18), (.pu (.n (.ar .neq)) [(.tmp 15), (.tmp 17)]), .none, []⟩]) (.cond (.tmp 18) (.seq (.ops [⟨(.some 4), (.mv (.const (.int .i64 (-1)))), .none, []⟩]) .ret) .skip)) (.ops [⟨(.some 19), (.mv (.tmp 1)), .none, []⟩, ⟨(.some 20), (.pu (.n (.ar .add)) [(.tmp 19), (.const (.int .i64 1))]), .none, []⟩, ⟨(.some 1), (.mv (.tmp 20)), .none, []⟩]))) (.ops [⟨(.some 10), (.mv (.tmp 5)), .none, []⟩, ⟨(.some 11), (.pu (.n (.ar .add)) [(.tmp 10), (.const (.int .i64 1))]), .none, []⟩, ⟨(.some 5), (.mv (.tmp 11)), .none, []⟩])))))) (.seq (.ops [⟨(.some 21), (.mv (.tmp 1)), .none, []⟩, ⟨(.some 4), (.mv (.tmp 21)), .none, []⟩]) .ret))), [(.tmp 4)]⟩
set_option maxHeartbeats 10000000 in
theorem d_laws_heldByteS {P : Program} {env : Env}  (x0 : List U8) (x1 : Int) {b : Int} (hp : p_laws_heldByteS x0 x1 = some b) : R P env (c_laws_heldByteS) ((encA (x0, x1)).map ofI) [] (Tells true b) := by
  refine R_of (by simp [c_laws_heldByteS, encA]) ?_
  unfold c_laws_heldByteS
  unfold p_laws_heldByteS at hp
  obtain ⟨ee0, hee0, hp⟩ := bind_eq hp
  simp (disch := first | omega | (simp only [List.length_set, List.length_append, List.length_cons, List.length_nil, rows_len, zs]; first | done | omega)) only [gs, reduceIte, reduceCtorEq, Nat.reduceAdd, Nat.reduceMul, Nat.reduceSub, Nat.reduceBEq, Nat.reduceEqDiff, Nat.reduceLeDiff, Nat.reduceLT, Nat.reduceGT, Int.reduceToNat, Int.reduceLT, Int.reduceLE, Int.reduceNeg, Int.reduceAdd, Int.reduceEq, Int.reduceNe]
  refine W_loopP 0 (fun s t h => match s with | (s0, s1) => t 0 = .i (.sl 1 (x0.map enc)) ∧ t 1 = .i (.s (.int .i64 s0)) ∧ t 5 = .i (.s (.int .i64 s1))) (RK [.tmp 4] (Tells true)) ?_ hee0 ?_ ?_
  · rintro ⟨s0, s1⟩ ee tt0 hh0 ⟨ftt0_0, ftt0_1, ftt0_2⟩ hp
    rw [p_laws_heldByteS_l0] at hp
    by_cases hb2 : (decide (s1 < (x0.length : Int))) = true
    · rw [if_t hb2] at hp
      obtain ⟨v3, hv3, hp⟩ := bind_eq hp
      by_cases hb4 : (decide (v3.v = IntKind.wrap .u8 s0)) = true
      · rw [if_t hb4] at hp
        have hp := Option.some.inj hp
        subst hp
        simp (disch := first | omega | (simp only [List.length_set, List.length_append, List.length_cons, List.length_nil, rows_len, zs]; first | done | omega)) only [ftt0_0, ftt0_1, ftt0_2, hb2, hv3, hb4, gs, reduceIte, reduceCtorEq, Nat.reduceAdd, Nat.reduceMul, Nat.reduceSub, Nat.reduceBEq, Nat.reduceEqDiff, Nat.reduceLeDiff, Nat.reduceLT, Nat.reduceGT, Int.reduceToNat, Int.reduceLT, Int.reduceLE, Int.reduceNeg, Int.reduceAdd, Int.reduceEq, Int.reduceNe] <;> omega
      · replace hb4 := eq_false_of_ne_true hb4
        rw [if_f hb4] at hp
        have hp := Option.some.inj hp
        subst hp
        simp (disch := first | omega | (simp only [List.length_set, List.length_append, List.length_cons, List.length_nil, rows_len, zs]; first | done | omega)) only [ftt0_0, ftt0_1, ftt0_2, hb2, hv3, hb4, gs, reduceIte, reduceCtorEq, Nat.reduceAdd, Nat.reduceMul, Nat.reduceSub, Nat.reduceBEq, Nat.reduceEqDiff, Nat.reduceLeDiff, Nat.reduceLT, Nat.reduceGT, Int.reduceToNat, Int.reduceLT, Int.reduceLE, Int.reduceNeg, Int.reduceAdd, Int.reduceEq, Int.reduceNe]
    · replace hb2 := eq_false_of_ne_true hb2
      rw [if_f hb2] at hp
      have hp := Option.some.inj hp
      subst hp
      simp (disch := first | omega | (simp only [List.length_set, List.length_append, List.length_cons, List.length_nil, rows_len, zs]; first | done | omega)) only [ftt0_0, ftt0_1, ftt0_2, hb2, gs, reduceIte, reduceCtorEq, Nat.reduceAdd, Nat.reduceMul, Nat.reduceSub, Nat.reduceBEq, Nat.reduceEqDiff, Nat.reduceLeDiff, Nat.reduceLT, Nat.reduceGT, Int.reduceToNat, Int.reduceLT, Int.reduceLE, Int.reduceNeg, Int.reduceAdd, Int.reduceEq, Int.reduceNe] <;> omega
  · simp (disch := first | omega | (simp only [List.length_set, List.length_append, List.length_cons, List.length_nil, rows_len, zs]; first | done | omega)) only [gs, reduceIte, reduceCtorEq, Nat.reduceAdd, Nat.reduceMul, Nat.reduceSub, Nat.reduceBEq, Nat.reduceEqDiff, Nat.reduceLeDiff, Nat.reduceLT, Nat.reduceGT, Int.reduceToNat, Int.reduceLT, Int.reduceLE, Int.reduceNeg, Int.reduceAdd, Int.reduceEq, Int.reduceNe] <;> omega
  · intro x tt1 hh1 hx
    rcases ee0 with ⟨o5, o6⟩ | r
    · obtain ⟨rfl, ftt1_0, ftt1_1, ftt1_2⟩ := hx
      dsimp only at hp
      have hp := Option.some.inj hp
      subst hp
      simp (disch := first | omega | (simp only [List.length_set, List.length_append, List.length_cons, List.length_nil, rows_len, zs]; first | done | omega)) only [ftt1_0, ftt1_1, ftt1_2, gs, reduceIte, reduceCtorEq, Nat.reduceAdd, Nat.reduceMul, Nat.reduceSub, Nat.reduceBEq, Nat.reduceEqDiff, Nat.reduceLeDiff, Nat.reduceLT, Nat.reduceGT, Int.reduceToNat, Int.reduceLT, Int.reduceLE, Int.reduceNeg, Int.reduceAdd, Int.reduceEq, Int.reduceNe]
    · obtain ⟨rfl, hx⟩ := hx
      dsimp only at hp
      cases hp
      simp only [seqK_ret, blockK_ret, retK_RK (K := Tells true), hx, and_self, true_and]

noncomputable def p_laws_FnExactPutTexts (x0 : List ByteArray) : Option Bool :=
  (p_laws_szStringS x0 1048576).bind fun v0 =>
  if (decide (v0 < 0)) = true then
    some true
  else
    (p_laws_toStringS x0).bind fun v2 =>
    (p_spec_PutTexts v2).bind fun v3 =>
    (p_impl_PutTexts v2).bind fun v4 =>
    (p_laws_eqByteS v4.a v3.a).bind fun v5 =>
    if (v5) = true then
      if (decide (v4.b = v3.b)) = true then
        (p_laws_eqStringS v2 v2).bind fun v8 =>
        if (v8) = true then
          (p_laws_markStringS v2 1).bind fun v10 =>
          if (decide (v10.a < 0)) = true then
            some false
          else
            (p_laws_markByteS v4.a 1).bind fun v12 =>
            (p_laws_heldByteS v12.b 1).bind fun v13 =>
            if (decide (v13 < 0)) = true then
              some false
            else
              if (decide (v13 = v12.a)) = true then
                some true
              else
                some false
        else
          some false
      else
        some false
    else
      some false
def c_laws_FnExactPutTexts (f_laws_szStringS : Nat) (f_laws_toStringS : Nat) (f_spec_PutTexts : Nat) (f_impl_PutTexts : Nat) (f_laws_eqByteS : Nat) (f_laws_eqStringS : Nat) (f_laws_markStringS : Nat) (f_laws_markByteS : Nat) (f_laws_heldByteS : Nat) : AFn := ⟨96, (.seq (.ops [⟨(.some 2), (.mv (.const (.bool false))), .none, []⟩]) (.seq (.ops [⟨(.some 3), (.mv (.const (.int .i64 1048576))), .none, []⟩]) (.seq (.ops [⟨(.some 14), (.mv (.tmp 0)), .none, []⟩, ⟨(.some 15), (.mv (.tmp 3)), .none, []⟩, ⟨(.some 16), (.call (2 * f_laws_szStringS) [(.tmp 14), (.tmp 15)]), .none, []⟩, ⟨(.some 3), (.mv (.tmp 16)), .none, []⟩]) (.seq (.seq (.ops [⟨(.some 17), (.mv (.tmp 3)), .none, []⟩, ⟨(.some 18), (.pu (.n (.ar .lss)) [(.tmp 17), (.const (.int .i64 0))]), .none, []⟩]) (.cond (.tmp 18) (.seq (.ops [⟨(.some 2), (.mv (.const (.bool true))), .none, []⟩]) .ret) .skip)) (.seq (.ops [⟨(.some 20), (.mv (.tmp 0)), .none, []⟩, ⟨(.some 21), (.call (2 * f_laws_toStringS) [(.tmp 20)]), .none, []⟩, ⟨(.some 22), (.call (2 * f_spec_PutTexts) [(.tmp 21)]), .none, []⟩, ⟨(.some 19), (.mv (.tmp 22)), .none, []⟩, ⟨(.some 23), (.extract 0 (.tmp 19)), .none, []⟩, ⟨(.some 24), (.extract 1 (.tmp 19)), .none, []⟩, ⟨(.some 4), (.mv (.tmp 23)), .none, []⟩, ⟨(.some 5), (.mv (.tmp 24)), .none, []⟩]) (.seq (.ops [⟨(.some 25), (.mv (.tmp 0)), .none, []⟩, ⟨(.some 26), (.call (2 * f_laws_toStringS + 1) [(.tmp 25)]), .none, []⟩, ⟨(.some 6), (.mv (.tmp 26)), .none, []⟩]) (.seq (.ops [⟨(.some 28), (.mv (.tmp 6)), .none, []⟩, ⟨(.some 29), (.call (2 * f_impl_PutTexts + 1) [(.tmp 28)]), .none, []⟩, ⟨(.some 27), (.mv (.tmp 29)), .none, []⟩, ⟨(.some 30), (.extract 0 (.tmp 27)), .none, []⟩, ⟨(.some 31), (.extract 1 (.tmp 27)), .none, []⟩, ⟨(.some 7), (.mv (.tmp 30)), .none, []⟩, ⟨(.some 8), (.mv (.tmp 31)), .none, []⟩]) (.seq (.seq (.ops [⟨(.some 32), (.mv (.tmp 7)), .none, []⟩, ⟨(.some 33), (.mv (.tmp 4)), .none, []⟩, ⟨(.some 34), (.call (2 * f_laws_eqByteS) [(.tmp 32), (.tmp 33)]), .none, []⟩, ⟨(.some 35), (.pu (.n (.un .not)) [(.tmp 34)]), .none, []⟩, ⟨(.some 36), (.mv (.tmp 35)), .none, []⟩, ⟨(.some 37), (.mv (.tmp 8)), (.some (36, false)), []⟩, ⟨(.some 38), (.mv (.tmp 5)), (.some (36, false)), []⟩, ⟨(.some 39), (.pu (.n (.ar .neq)) [(.tmp 37), (.tmp 38)]), (.some (36, false)), []⟩, ⟨(.some 40), (.pick (.tmp 36) (.const (.bool true)) (.tmp 39)), .none, []⟩]) (.cond (.tmp 40) (.seq (.ops [⟨(.some 2), (.mv (.const (.bool false))), .none, []⟩]) .ret) .skip)) (.seq (.seq (.ops [⟨(.some 41), (.mv (.tmp 6)), .none, []⟩, ⟨(.some 42), (.mv (.tmp 0)), .none, []⟩, ⟨(.some 43), (.call (2 * f_laws_toStringS + 1) [(.tmp 42)]), .none, []⟩, ⟨(.some 44), (.call (2 * f_laws_eqStringS) [(.tmp 41), (.tmp 43)]), .none, []⟩, ⟨(.some 45), (.pu (.n (.un .not)) [(.tmp 44)]), .none, []⟩]) (.cond (.tmp 45) (.seq (.ops [⟨(.some 2), (.mv (.const (.bool false))), .none, []⟩]) .ret) .skip)) (.seq (.ops [⟨(.some 9), (.mv (.const (.int .i64 1))), .none, []⟩]) (.seq (.ops [⟨(.some 46), (.mv (.tmp 6)), .none, []⟩, ⟨(.some 47), (.mv (.tmp 9)), .none, []⟩, ⟨(.some 48), (.call (2 * f_laws_markStringS + 1) [(.tmp 46), (.tmp 47)]), .none, []⟩, ⟨(.some 9), (.mv (.tmp 48)), .none, []⟩]) (.seq (.seq (.ops [⟨(.some 49), (.mv (.tmp 9)), .none, []⟩, ⟨(.some 50), (.pu (.n (.ar .lss)) [(.tmp 49), (.const (.int .i64 0))]), .none, []⟩, ⟨(.some 51), (.mv (.tmp 50)), .none, []⟩, ⟨(.some 52), (.mv (.tmp 7)), (.some (51, false)), []⟩, ⟨(.some 53), (.mv (.tmp 4)), (.some (51, false)), []⟩, ⟨(.some 54), (.call (2 * f_laws_eqByteS) [(.tmp 52), (.tmp 53)]), (.some (51, false)), []⟩, ⟨(.some 55), (.pu (.n (.un .not)) [(.tmp 54)]), (.some (51, false)), []⟩, ⟨(.some 56), (.pick (.tmp 51) (.const (.bool true)) (.tmp 55)), .none, []⟩, ⟨(.some 57), (.mv (.tmp 56)), .none, []⟩, ⟨(.some 58), (.mv (.tmp 8)), (.some (57, false)), []⟩, ⟨(.some 59), (.mv (.tmp 5)), (.some (57, false)), []⟩, ⟨(.some 60), (.pu (.n (.ar .neq)) [(.tmp 58), (.tmp 59)]), (.some (57, false)), []⟩, ⟨(.some 61), (.pick (.tmp 57) (.const (.bool true)) (.tmp 60)), .none, []⟩]) (.cond (.tmp 61) (.seq (.ops [⟨(.some 2), (.mv (.const (.bool false))), .none, []⟩]) .ret) .skip)) (.seq (.ops [⟨(.some 10), (.mv (.const (.int .i64 1))), .none, []⟩]) (.seq (.ops [⟨(.some 62), (.mv (.tmp 7)), .none, []⟩, ⟨(.some 63), (.mv (.tmp 10)), .none, []⟩, ⟨(.some 64), (.call (2 * f_laws_markByteS + 1) [(.tmp 62), (.tmp 63)]), .none, []⟩, ⟨(.some 10), (.mv (.tmp 64)), .none, []⟩]) (.seq (.ops [⟨(.some 11), (.mv (.const (.int .i64 1))), .none, []⟩]) (.seq (.ops [⟨(.some 65), (.mv (.tmp 7)), .none, []⟩, ⟨(.some 66), (.mv (.tmp 11)), .none, []⟩, ⟨(.some 67), (.call (2 * f_laws_heldByteS) [(.tmp 65), (.tmp 66)]), .none, []⟩, ⟨(.some 11), (.mv (.tmp 67)), .none, []⟩]) (.seq (.seq (.ops [⟨(.some 68), (.mv (.tmp 11)), .none, []⟩, ⟨(.some 69), (.pu (.n (.ar .lss)) [(.tmp 68), (.const (.int .i64 0))]), .none, []⟩]) (.cond (.tmp 69) (.seq (.ops [⟨(.some 2), (.mv (.const (.bool false))), .none, []⟩]) .ret) .skip)) (.seq (.seq (.ops [⟨(.some 70), (.mv (.tmp 11)), .none, []⟩, ⟨(.some 71), (.mv (.tmp 10)), .none, []⟩, ⟨(.some 72), (.pu (.n (.ar .neq)) [(.tmp 70), (.tmp 71)]), .none, []⟩]) (.cond (.tmp 72) (.seq (.ops [⟨(.some 2), (.mv (.const (.bool false))), .none, []⟩]) .ret) .skip)) (.seq (.ops [⟨(.some 74), (.mv (.tmp 0)), .none, []⟩, ⟨(.some 75), (.call (2 * f_laws_toStringS + 1) [(.tmp 74)]), .none, []⟩, ⟨(.some 76), (.call (2 * f_impl_PutTexts + 1) [(.tmp 75)]), .none, []⟩, ⟨(.some 73), (.mv (.tmp 76)), .none, []⟩, ⟨(.some 77), (.extract 0 (.tmp 73)), .none, []⟩, ⟨(.some 78), (.extract 1 (.tmp 73)), .none, []⟩, ⟨(.some 12), (.mv (.tmp 77)), .none, []⟩, ⟨(.some 13), (.mv (.tmp 78)), .none, []⟩]) (.seq (.seq (.ops [⟨(.some 79), (.mv (.tmp 12)), .none, []⟩, ⟨(.some 80), (.mv (.tmp 4)), .none, []⟩, ⟨(.some 81), (.call (2 * f_laws_eqByteS) [(.tmp 79), (.tmp 80)]), .none, []⟩, ⟨(.some 82), (.pu (.n (.un .not)) [(.tmp 81)]), .none, []⟩, ⟨(.some 83), (.mv (.tmp 82)), .none, []⟩, ⟨(.some 84), (.mv (.tmp 13)), (.some (83, false)), []⟩, ⟨(.some 85), (.mv (.tmp 5)), (.some (83, false)), []⟩, ⟨(.some 86), (.pu (.n (.ar .neq)) [(.tmp 84), (.tmp 85)]), (.some (83, false)), []⟩, ⟨(.some 87), (.pick (.tmp 83) (.const (.bool true)) (.tmp 86)), .none, []⟩]) (.cond (.tmp 87) (.seq (.ops [⟨(.some 2), (.mv (.const (.bool false))), .none, []⟩]) .ret) .skip)) (.seq (.ops [⟨(.some 11), (.mv (.const (.int .i64 1))), .none, []⟩]) (.seq (.ops [⟨(.some 88), (.mv (.tmp 7)), .none, []⟩, ⟨(.some 89), (.mv (.tmp 11)), .none, []⟩, ⟨(.some 90), (.call (2 * f_laws_heldByteS) [(.tmp 88), (.tmp 89)]), .none, []⟩, ⟨(.some 11), (.mv (.tmp 90)), .none, []⟩]) (.seq (.seq (.ops [⟨(.some 91), (.mv (.tmp 11)), .none, []⟩, ⟨(.some 92), (.pu (.n (.ar .lss)) [(.tmp 91), (.const (.int .i64 0))]), .none, []⟩]) (.cond (.tmp 92) (.seq (.ops [⟨(.some 2), (.mv (.const (.bool false))), .none, []⟩]) .ret) .skip)) (.seq (.seq (.ops [⟨(.some 93), (.mv (.tmp 11)), .none, []⟩, ⟨(.some 94), (.mv (.tmp 10)), .none, []⟩, ⟨(.some 95), (.pu (.n (.ar .neq)) [(.tmp 93), (.tmp 94)]), .none, []⟩]) (.cond (.tmp 95) (.seq (.ops [⟨(.some 2), (.mv (.const (.bool false))), .none, []⟩]) .ret) .skip)) (.seq (.ops [⟨(.some 2), (.mv (.const (.bool true))), .none, []⟩]) .ret))))))))))))))))))))))))), [(.tmp 2)]⟩
set_option maxHeartbeats 10000000 in
theorem d_laws_FnExactPutTexts {P : Program} {env : Env} {f_laws_szStringS : Nat} {f_laws_toStringS : Nat} {f_spec_PutTexts : Nat} {f_impl_PutTexts : Nat} {f_laws_eqByteS : Nat} {f_laws_eqStringS : Nat} {f_laws_markStringS : Nat} {f_laws_markByteS : Nat} {f_laws_heldByteS : Nat}  (ep_laws_szStringS : env (2 * f_laws_szStringS) = pureFn true (FA fun a : List ByteArray × Int => p_laws_szStringS a.1 a.2)) (ep_laws_toStringS : env (2 * f_laws_toStringS) = pureFn true (FA fun a : List ByteArray => p_laws_toStringS a)) (ep_spec_PutTexts : env (2 * f_spec_PutTexts) = pureFn true (FA fun a : List ByteArray => p_spec_PutTexts a)) (ep_laws_eqByteS : env (2 * f_laws_eqByteS) = pureFn true (FA fun a : List U8 × List U8 => p_laws_eqByteS a.1 a.2)) (ep_laws_eqStringS : env (2 * f_laws_eqStringS) = pureFn true (FA fun a : List ByteArray × List ByteArray => p_laws_eqStringS a.1 a.2)) (ep_laws_heldByteS : env (2 * f_laws_heldByteS) = pureFn true (FA fun a : List U8 × Int => p_laws_heldByteS a.1 a.2)) (e_laws_toStringS : k_laws_toStringS (env (2 * f_laws_toStringS + 1))) (e_impl_PutTexts : k_impl_PutTexts (env (2 * f_impl_PutTexts + 1))) (e_laws_markStringS : k_laws_markStringS (env (2 * f_laws_markStringS + 1))) (e_laws_markByteS : k_laws_markByteS (env (2 * f_laws_markByteS + 1))) (x0 : List ByteArray) (hp : p_laws_FnExactPutTexts x0 = some true) : R P env (c_laws_FnExactPutTexts f_laws_szStringS f_laws_toStringS f_spec_PutTexts f_impl_PutTexts f_laws_eqByteS f_laws_eqStringS f_laws_markStringS f_laws_markByteS f_laws_heldByteS) ((encA (x0)).map ofI) [] (fun v _ => v = .i (iB true)) := by
  refine R_of (by simp [c_laws_FnExactPutTexts, encA]) ?_
  unfold c_laws_FnExactPutTexts
  unfold p_laws_FnExactPutTexts at hp
  obtain ⟨v0, hv0, hp⟩ := bind_eq hp
  by_cases hb1 : (decide (v0 < 0)) = true
  · rw [if_t hb1] at hp
    cases hp
    simp (disch := first | omega | (simp only [List.length_set, List.length_append, List.length_cons, List.length_nil, rows_len, zs]; first | done | omega)) only [ep_laws_szStringS, ep_laws_toStringS, ep_spec_PutTexts, ep_laws_eqByteS, ep_laws_eqStringS, ep_laws_heldByteS, hv0, hb1, gs, reduceIte, reduceCtorEq, Nat.reduceAdd, Nat.reduceMul, Nat.reduceSub, Nat.reduceBEq, Nat.reduceEqDiff, Nat.reduceLeDiff, Nat.reduceLT, Nat.reduceGT, Int.reduceToNat, Int.reduceLT, Int.reduceLE, Int.reduceNeg, Int.reduceAdd, Int.reduceEq, Int.reduceNe]
  · replace hb1 := eq_false_of_ne_true hb1
    rw [if_f hb1] at hp
    obtain ⟨v2, hv2, hp⟩ := bind_eq hp
    obtain ⟨v3, hv3, hp⟩ := bind_eq hp
    simp (disch := first | omega | (simp only [List.length_set, List.length_append, List.length_cons, List.length_nil, rows_len, zs]; first | done | omega)) only [ep_laws_szStringS, ep_laws_toStringS, ep_spec_PutTexts, ep_laws_eqByteS, ep_laws_eqStringS, ep_laws_heldByteS, hv0, hb1, hv2, hv3, gs, reduceIte, reduceCtorEq, Nat.reduceAdd, Nat.reduceMul, Nat.reduceSub, Nat.reduceBEq, Nat.reduceEqDiff, Nat.reduceLeDiff, Nat.reduceLT, Nat.reduceGT, Int.reduceToNat, Int.reduceLT, Int.reduceLE, Int.reduceNeg, Int.reduceAdd, Int.reduceEq, Int.reduceNe]
    refine call_f (fun h => True) (fun h v h2 => oo_laws_toStringS v2 h v h2) ?_ ?_ ?_
    · simp (disch := first | omega | (simp only [List.length_set, List.length_append, List.length_cons, List.length_nil, rows_len, zs]; first | done | omega)) only [ep_laws_szStringS, ep_laws_toStringS, ep_spec_PutTexts, ep_laws_eqByteS, ep_laws_eqStringS, ep_laws_heldByteS, hv0, hb1, hv2, hv3, gs, reduceIte, reduceCtorEq, Nat.reduceAdd, Nat.reduceMul, Nat.reduceSub, Nat.reduceBEq, Nat.reduceEqDiff, Nat.reduceLeDiff, Nat.reduceLT, Nat.reduceGT, Int.reduceToNat, Int.reduceLT, Int.reduceLE, Int.reduceNeg, Int.reduceAdd, Int.reduceEq, Int.reduceNe] <;> omega
    · rintro h _
      exact e_laws_toStringS _ _ hv2 h _ (by simp (disch := first | omega | (simp only [List.length_set, List.length_append, List.length_cons, List.length_nil, rows_len, zs]; first | done | omega)) only [ep_laws_szStringS, ep_laws_toStringS, ep_spec_PutTexts, ep_laws_eqByteS, ep_laws_eqStringS, ep_laws_heldByteS, hv0, hb1, hv2, hv3, gs, reduceIte, reduceCtorEq, Nat.reduceAdd, Nat.reduceMul, Nat.reduceSub, Nat.reduceBEq, Nat.reduceEqDiff, Nat.reduceLeDiff, Nat.reduceLT, Nat.reduceGT, Int.reduceToNat, Int.reduceLT, Int.reduceLE, Int.reduceNeg, Int.reduceAdd, Int.reduceEq, Int.reduceNe])
    · rintro h v hh0 _ hpost
      obtain ⟨kk0, nb0_0, rfl, lnb0_0, gnb0_0, wnb0_0⟩ := hpost
      have d0_0 := wnb0_0
      obtain ⟨v4, hv4, hp⟩ := bind_eq hp
      simp (disch := first | omega | (simp only [List.length_set, List.length_append, List.length_cons, List.length_nil, rows_len, zs]; first | done | omega)) only [ep_laws_szStringS, ep_laws_toStringS, ep_spec_PutTexts, ep_laws_eqByteS, ep_laws_eqStringS, ep_laws_heldByteS, hv0, hb1, hv2, hv3, d0_0, gs, reduceIte, reduceCtorEq, Nat.reduceAdd, Nat.reduceMul, Nat.reduceSub, Nat.reduceBEq, Nat.reduceEqDiff, Nat.reduceLeDiff, Nat.reduceLT, Nat.reduceGT, Int.reduceToNat, Int.reduceLT, Int.reduceLE, Int.reduceNeg, Int.reduceAdd, Int.reduceEq, Int.reduceNe]
      refine call_f (fun h => getCells h nb0_0 v2.length = some (rows (v2 : List ByteArray)) ∧ nb0_0 < h.length) (fun h v h2 => oo_impl_PutTexts v4 h v h2) ?_ ?_ ?_
      · simp (disch := first | omega | (simp only [List.length_set, List.length_append, List.length_cons, List.length_nil, rows_len, zs]; first | done | omega)) only [ep_laws_szStringS, ep_laws_toStringS, ep_spec_PutTexts, ep_laws_eqByteS, ep_laws_eqStringS, ep_laws_heldByteS, hv0, hb1, hv2, hv3, d0_0, hv4, gs, reduceIte, reduceCtorEq, Nat.reduceAdd, Nat.reduceMul, Nat.reduceSub, Nat.reduceBEq, Nat.reduceEqDiff, Nat.reduceLeDiff, Nat.reduceLT, Nat.reduceGT, Int.reduceToNat, Int.reduceLT, Int.reduceLE, Int.reduceNeg, Int.reduceAdd, Int.reduceEq, Int.reduceNe] <;> omega
      · rintro h ⟨c1_0, c1_1⟩
        exact e_impl_PutTexts _ _ hv4 h _ (by simp (disch := first | omega | (simp only [List.length_set, List.length_append, List.length_cons, List.length_nil, rows_len, zs]; first | done | omega)) only [ep_laws_szStringS, ep_laws_toStringS, ep_spec_PutTexts, ep_laws_eqByteS, ep_laws_eqStringS, ep_laws_heldByteS, hv0, hb1, hv2, hv3, d0_0, hv4, c1_0, c1_1, gs, reduceIte, reduceCtorEq, Nat.reduceAdd, Nat.reduceMul, Nat.reduceSub, Nat.reduceBEq, Nat.reduceEqDiff, Nat.reduceLeDiff, Nat.reduceLT, Nat.reduceGT, Int.reduceToNat, Int.reduceLT, Int.reduceLE, Int.reduceNeg, Int.reduceAdd, Int.reduceEq, Int.reduceNe])
      · rintro h v hh1 ⟨c1_0, c1_1⟩ hpost
        obtain ⟨kk1, nb1_0, rfl, lnb1_0, gnb1_0, wnb1_0⟩ := hpost
        have d1_0 : getCells hh1 nb0_0 v2.length = some (rows (v2 : List ByteArray)) := (keep_get kk1 c1_1 (by first | (simp; done) | (simp; omega))).trans c1_0
        have d1_0l := keep_lt kk1 c1_1
        have d1_1 := wnb1_0
        obtain ⟨v5, hv5, hp⟩ := bind_eq hp
        by_cases hb6 : (v5) = true
        · rw [if_t hb6] at hp
          by_cases hb7 : (decide (v4.b = v3.b)) = true
          · rw [if_t hb7] at hp
            simp (disch := first | omega | (simp only [List.length_set, List.length_append, List.length_cons, List.length_nil, rows_len, zs]; first | done | omega)) only [ep_laws_szStringS, ep_laws_toStringS, ep_spec_PutTexts, ep_laws_eqByteS, ep_laws_eqStringS, ep_laws_heldByteS, hv0, hb1, hv2, hv3, d0_0, hv4, d1_0, d1_1, hv5, hb6, hb7, gs, reduceIte, reduceCtorEq, Nat.reduceAdd, Nat.reduceMul, Nat.reduceSub, Nat.reduceBEq, Nat.reduceEqDiff, Nat.reduceLeDiff, Nat.reduceLT, Nat.reduceGT, Int.reduceToNat, Int.reduceLT, Int.reduceLE, Int.reduceNeg, Int.reduceAdd, Int.reduceEq, Int.reduceNe]
            refine call_f (fun h => getCells h nb0_0 v2.length = some (rows (v2 : List ByteArray)) ∧ nb0_0 < h.length ∧ getCells h nb1_0 v4.a.length = some (rows (v4.a : List U8)) ∧ nb1_0 < h.length) (fun h v h2 => oo_laws_toStringS v2 h v h2) ?_ ?_ ?_
            · simp (disch := first | omega | (simp only [List.length_set, List.length_append, List.length_cons, List.length_nil, rows_len, zs]; first | done | omega)) only [ep_laws_szStringS, ep_laws_toStringS, ep_spec_PutTexts, ep_laws_eqByteS, ep_laws_eqStringS, ep_laws_heldByteS, hv0, hb1, hv2, hv3, d0_0, hv4, d1_0, d1_1, hv5, hb6, hb7, gs, reduceIte, reduceCtorEq, Nat.reduceAdd, Nat.reduceMul, Nat.reduceSub, Nat.reduceBEq, Nat.reduceEqDiff, Nat.reduceLeDiff, Nat.reduceLT, Nat.reduceGT, Int.reduceToNat, Int.reduceLT, Int.reduceLE, Int.reduceNeg, Int.reduceAdd, Int.reduceEq, Int.reduceNe] <;> omega
            · rintro h ⟨c2_0, c2_1, c2_2, c2_3⟩
              exact e_laws_toStringS _ _ hv2 h _ (by simp (disch := first | omega | (simp only [List.length_set, List.length_append, List.length_cons, List.length_nil, rows_len, zs]; first | done | omega)) only [ep_laws_szStringS, ep_laws_toStringS, ep_spec_PutTexts, ep_laws_eqByteS, ep_laws_eqStringS, ep_laws_heldByteS, hv0, hb1, hv2, hv3, d0_0, hv4, d1_0, d1_1, hv5, hb6, hb7, c2_0, c2_1, c2_2, c2_3, gs, reduceIte, reduceCtorEq, Nat.reduceAdd, Nat.reduceMul, Nat.reduceSub, Nat.reduceBEq, Nat.reduceEqDiff, Nat.reduceLeDiff, Nat.reduceLT, Nat.reduceGT, Int.reduceToNat, Int.reduceLT, Int.reduceLE, Int.reduceNeg, Int.reduceAdd, Int.reduceEq, Int.reduceNe])
            · rintro h v hh2 ⟨c2_0, c2_1, c2_2, c2_3⟩ hpost
              obtain ⟨kk2, nb2_0, rfl, lnb2_0, gnb2_0, wnb2_0⟩ := hpost
              have d2_0 : getCells hh2 nb0_0 v2.length = some (rows (v2 : List ByteArray)) := (keep_get kk2 c2_1 (by first | (simp; done) | (simp; omega))).trans c2_0
              have d2_0l := keep_lt kk2 c2_1
              have d2_1 : getCells hh2 nb1_0 v4.a.length = some (rows (v4.a : List U8)) := (keep_get kk2 c2_3 (by first | (simp; done) | (simp; omega))).trans c2_2
              have d2_1l := keep_lt kk2 c2_3
              have d2_2 := wnb2_0
              obtain ⟨v8, hv8, hp⟩ := bind_eq hp
              by_cases hb9 : (v8) = true
              · rw [if_t hb9] at hp
                obtain ⟨v10, hv10, hp⟩ := bind_eq hp
                simp (disch := first | omega | (simp only [List.length_set, List.length_append, List.length_cons, List.length_nil, rows_len, zs]; first | done | omega)) only [ep_laws_szStringS, ep_laws_toStringS, ep_spec_PutTexts, ep_laws_eqByteS, ep_laws_eqStringS, ep_laws_heldByteS, hv0, hb1, hv2, hv3, d0_0, hv4, d1_0, d1_1, hv5, hb6, hb7, d2_0, d2_1, d2_2, hv8, hb9, gs, reduceIte, reduceCtorEq, Nat.reduceAdd, Nat.reduceMul, Nat.reduceSub, Nat.reduceBEq, Nat.reduceEqDiff, Nat.reduceLeDiff, Nat.reduceLT, Nat.reduceGT, Int.reduceToNat, Int.reduceLT, Int.reduceLE, Int.reduceNeg, Int.reduceAdd, Int.reduceEq, Int.reduceNe]
                refine call_f (fun h => getCells h nb0_0 v2.length = some (rows (v2 : List ByteArray)) ∧ nb0_0 < h.length ∧ getCells h nb1_0 v4.a.length = some (rows (v4.a : List U8)) ∧ nb1_0 < h.length ∧ getCells h nb2_0 v2.length = some (rows (v2 : List ByteArray)) ∧ nb2_0 < h.length) (fun h v h2 => i_laws_markStringS nb0_0 v2.length h v10 v h2) ?_ ?_ ?_
                · simp (disch := first | omega | (simp only [List.length_set, List.length_append, List.length_cons, List.length_nil, rows_len, zs]; first | done | omega)) only [ep_laws_szStringS, ep_laws_toStringS, ep_spec_PutTexts, ep_laws_eqByteS, ep_laws_eqStringS, ep_laws_heldByteS, hv0, hb1, hv2, hv3, d0_0, hv4, d1_0, d1_1, hv5, hb6, hb7, d2_0, d2_1, d2_2, hv8, hb9, hv10, gs, reduceIte, reduceCtorEq, Nat.reduceAdd, Nat.reduceMul, Nat.reduceSub, Nat.reduceBEq, Nat.reduceEqDiff, Nat.reduceLeDiff, Nat.reduceLT, Nat.reduceGT, Int.reduceToNat, Int.reduceLT, Int.reduceLE, Int.reduceNeg, Int.reduceAdd, Int.reduceEq, Int.reduceNe] <;> omega
                · rintro h ⟨c3_0, c3_1, c3_2, c3_3, c3_4, c3_5⟩
                  exact e_laws_markStringS _ _ _ hv10 nb0_0 v2.length h (by first | omega | rfl) c3_0
                · rintro h v hh3 ⟨c3_0, c3_1, c3_2, c3_3, c3_4, c3_5⟩ hpost
                  obtain ⟨kk3, rfl, w3_0⟩ := hpost
                  have d3_0 : getCells hh3 nb0_0 v2.length = some (rows (v10.b : List ByteArray)) := w3_0
                  have mm3_0 := len_rows w3_0
                  simp only [zs] at mm3_0
                  have d3_0l := keep_lt kk3 c3_1
                  have d3_1 : getCells hh3 nb1_0 v4.a.length = some (rows (v4.a : List U8)) := (keep_get kk3 c3_3 (by first | (simp; done) | (simp; omega))).trans c3_2
                  have d3_1l := keep_lt kk3 c3_3
                  have d3_2 : getCells hh3 nb2_0 v2.length = some (rows (v2 : List ByteArray)) := (keep_get kk3 c3_5 (by first | (simp; done) | (simp; omega))).trans c3_4
                  have d3_2l := keep_lt kk3 c3_5
                  by_cases hb11 : (decide (v10.a < 0)) = true
                  · rw [if_t hb11] at hp
                    cases hp
                  · replace hb11 := eq_false_of_ne_true hb11
                    rw [if_f hb11] at hp
                    obtain ⟨v12, hv12, hp⟩ := bind_eq hp
                    simp (disch := first | omega | (simp only [List.length_set, List.length_append, List.length_cons, List.length_nil, rows_len, zs]; first | done | omega)) only [ep_laws_szStringS, ep_laws_toStringS, ep_spec_PutTexts, ep_laws_eqByteS, ep_laws_eqStringS, ep_laws_heldByteS, hv0, hb1, hv2, hv3, d0_0, hv4, d1_0, d1_1, hv5, hb6, hb7, d2_0, d2_1, d2_2, hv8, hb9, hv10, d3_0, d3_1, d3_2, hb11, gs, reduceIte, reduceCtorEq, Nat.reduceAdd, Nat.reduceMul, Nat.reduceSub, Nat.reduceBEq, Nat.reduceEqDiff, Nat.reduceLeDiff, Nat.reduceLT, Nat.reduceGT, Int.reduceToNat, Int.reduceLT, Int.reduceLE, Int.reduceNeg, Int.reduceAdd, Int.reduceEq, Int.reduceNe]
                    refine call_f (fun h => getCells h nb0_0 v2.length = some (rows (v10.b : List ByteArray)) ∧ nb0_0 < h.length ∧ getCells h nb1_0 v4.a.length = some (rows (v4.a : List U8)) ∧ nb1_0 < h.length ∧ getCells h nb2_0 v2.length = some (rows (v2 : List ByteArray)) ∧ nb2_0 < h.length) (fun h v h2 => i_laws_markByteS nb1_0 v4.a.length h v12 v h2) ?_ ?_ ?_
                    · simp (disch := first | omega | (simp only [List.length_set, List.length_append, List.length_cons, List.length_nil, rows_len, zs]; first | done | omega)) only [ep_laws_szStringS, ep_laws_toStringS, ep_spec_PutTexts, ep_laws_eqByteS, ep_laws_eqStringS, ep_laws_heldByteS, hv0, hb1, hv2, hv3, d0_0, hv4, d1_0, d1_1, hv5, hb6, hb7, d2_0, d2_1, d2_2, hv8, hb9, hv10, d3_0, d3_1, d3_2, hb11, hv12, gs, reduceIte, reduceCtorEq, Nat.reduceAdd, Nat.reduceMul, Nat.reduceSub, Nat.reduceBEq, Nat.reduceEqDiff, Nat.reduceLeDiff, Nat.reduceLT, Nat.reduceGT, Int.reduceToNat, Int.reduceLT, Int.reduceLE, Int.reduceNeg, Int.reduceAdd, Int.reduceEq, Int.reduceNe] <;> omega
                    · rintro h ⟨c4_0, c4_1, c4_2, c4_3, c4_4, c4_5⟩
                      exact e_laws_markByteS _ _ _ hv12 nb1_0 v4.a.length h (by first | omega | rfl) c4_2
                    · rintro h v hh4 ⟨c4_0, c4_1, c4_2, c4_3, c4_4, c4_5⟩ hpost
                      obtain ⟨kk4, rfl, w4_0⟩ := hpost
                      have d4_0 : getCells hh4 nb0_0 v2.length = some (rows (v10.b : List ByteArray)) := (keep_get kk4 c4_1 (by first | (simp; done) | (simp; omega))).trans c4_0
                      have d4_0l := keep_lt kk4 c4_1
                      have d4_1 : getCells hh4 nb1_0 v4.a.length = some (rows (v12.b : List U8)) := w4_0
                      have mm4_0 := len_rows w4_0
                      simp only [zs] at mm4_0
                      have d4_1l := keep_lt kk4 c4_3
                      have d4_2 : getCells hh4 nb2_0 v2.length = some (rows (v2 : List ByteArray)) := (keep_get kk4 c4_5 (by first | (simp; done) | (simp; omega))).trans c4_4
                      have d4_2l := keep_lt kk4 c4_5
                      obtain ⟨v13, hv13, hp⟩ := bind_eq hp
                      by_cases hb14 : (decide (v13 < 0)) = true
                      · rw [if_t hb14] at hp
                        cases hp
                      · replace hb14 := eq_false_of_ne_true hb14
                        rw [if_f hb14] at hp
                        by_cases hb15 : (decide (v13 = v12.a)) = true
                        · rw [if_t hb15] at hp
                          simp (disch := first | omega | (simp only [List.length_set, List.length_append, List.length_cons, List.length_nil, rows_len, zs]; first | done | omega)) only [ep_laws_szStringS, ep_laws_toStringS, ep_spec_PutTexts, ep_laws_eqByteS, ep_laws_eqStringS, ep_laws_heldByteS, hv0, hb1, hv2, hv3, d0_0, hv4, d1_0, d1_1, hv5, hb6, hb7, d2_0, d2_1, d2_2, hv8, hb9, hv10, d3_0, d3_1, d3_2, hb11, hv12, d4_0, d4_1, d4_2, hv13, hb14, hb15, gs, reduceIte, reduceCtorEq, Nat.reduceAdd, Nat.reduceMul, Nat.reduceSub, Nat.reduceBEq, Nat.reduceEqDiff, Nat.reduceLeDiff, Nat.reduceLT, Nat.reduceGT, Int.reduceToNat, Int.reduceLT, Int.reduceLE, Int.reduceNeg, Int.reduceAdd, Int.reduceEq, Int.reduceNe]
                          refine call_f (fun h => getCells h nb0_0 v2.length = some (rows (v10.b : List ByteArray)) ∧ nb0_0 < h.length ∧ getCells h nb1_0 v4.a.length = some (rows (v12.b : List U8)) ∧ nb1_0 < h.length ∧ getCells h nb2_0 v2.length = some (rows (v2 : List ByteArray)) ∧ nb2_0 < h.length) (fun h v h2 => oo_laws_toStringS v2 h v h2) ?_ ?_ ?_
                          · simp (disch := first | omega | (simp only [List.length_set, List.length_append, List.length_cons, List.length_nil, rows_len, zs]; first | done | omega)) only [ep_laws_szStringS, ep_laws_toStringS, ep_spec_PutTexts, ep_laws_eqByteS, ep_laws_eqStringS, ep_laws_heldByteS, hv0, hb1, hv2, hv3, d0_0, hv4, d1_0, d1_1, hv5, hb6, hb7, d2_0, d2_1, d2_2, hv8, hb9, hv10, d3_0, d3_1, d3_2, hb11, hv12, d4_0, d4_1, d4_2, hv13, hb14, hb15, gs, reduceIte, reduceCtorEq, Nat.reduceAdd, Nat.reduceMul, Nat.reduceSub, Nat.reduceBEq, Nat.reduceEqDiff, Nat.reduceLeDiff, Nat.reduceLT, Nat.reduceGT, Int.reduceToNat, Int.reduceLT, Int.reduceLE, Int.reduceNeg, Int.reduceAdd, Int.reduceEq, Int.reduceNe] <;> omega
                          · rintro h ⟨c5_0, c5_1, c5_2, c5_3, c5_4, c5_5⟩
                            exact e_laws_toStringS _ _ hv2 h _ (by simp (disch := first | omega | (simp only [List.length_set, List.length_append, List.length_cons, List.length_nil, rows_len, zs]; first | done | omega)) only [ep_laws_szStringS, ep_laws_toStringS, ep_spec_PutTexts, ep_laws_eqByteS, ep_laws_eqStringS, ep_laws_heldByteS, hv0, hb1, hv2, hv3, d0_0, hv4, d1_0, d1_1, hv5, hb6, hb7, d2_0, d2_1, d2_2, hv8, hb9, hv10, d3_0, d3_1, d3_2, hb11, hv12, d4_0, d4_1, d4_2, hv13, hb14, hb15, c5_0, c5_1, c5_2, c5_3, c5_4, c5_5, gs, reduceIte, reduceCtorEq, Nat.reduceAdd, Nat.reduceMul, Nat.reduceSub, Nat.reduceBEq, Nat.reduceEqDiff, Nat.reduceLeDiff, Nat.reduceLT, Nat.reduceGT, Int.reduceToNat, Int.reduceLT, Int.reduceLE, Int.reduceNeg, Int.reduceAdd, Int.reduceEq, Int.reduceNe])
                          · rintro h v hh5 ⟨c5_0, c5_1, c5_2, c5_3, c5_4, c5_5⟩ hpost
                            obtain ⟨kk5, nb5_0, rfl, lnb5_0, gnb5_0, wnb5_0⟩ := hpost
                            have d5_0 : getCells hh5 nb0_0 v2.length = some (rows (v10.b : List ByteArray)) := (keep_get kk5 c5_1 (by first | (simp; done) | (simp; omega))).trans c5_0
                            have d5_0l := keep_lt kk5 c5_1
                            have d5_1 : getCells hh5 nb1_0 v4.a.length = some (rows (v12.b : List U8)) := (keep_get kk5 c5_3 (by first | (simp; done) | (simp; omega))).trans c5_2
                            have d5_1l := keep_lt kk5 c5_3
                            have d5_2 : getCells hh5 nb2_0 v2.length = some (rows (v2 : List ByteArray)) := (keep_get kk5 c5_5 (by first | (simp; done) | (simp; omega))).trans c5_4
                            have d5_2l := keep_lt kk5 c5_5
                            have d5_3 := wnb5_0
                            simp (disch := first | omega | (simp only [List.length_set, List.length_append, List.length_cons, List.length_nil, rows_len, zs]; first | done | omega)) only [ep_laws_szStringS, ep_laws_toStringS, ep_spec_PutTexts, ep_laws_eqByteS, ep_laws_eqStringS, ep_laws_heldByteS, hv0, hb1, hv2, hv3, d0_0, hv4, d1_0, d1_1, hv5, hb6, hb7, d2_0, d2_1, d2_2, hv8, hb9, hv10, d3_0, d3_1, d3_2, hb11, hv12, d4_0, d4_1, d4_2, hv13, hb14, hb15, d5_0, d5_1, d5_2, d5_3, gs, reduceIte, reduceCtorEq, Nat.reduceAdd, Nat.reduceMul, Nat.reduceSub, Nat.reduceBEq, Nat.reduceEqDiff, Nat.reduceLeDiff, Nat.reduceLT, Nat.reduceGT, Int.reduceToNat, Int.reduceLT, Int.reduceLE, Int.reduceNeg, Int.reduceAdd, Int.reduceEq, Int.reduceNe]
                            refine call_f (fun h => getCells h nb0_0 v2.length = some (rows (v10.b : List ByteArray)) ∧ nb0_0 < h.length ∧ getCells h nb1_0 v4.a.length = some (rows (v12.b : List U8)) ∧ nb1_0 < h.length ∧ getCells h nb2_0 v2.length = some (rows (v2 : List ByteArray)) ∧ nb2_0 < h.length ∧ getCells h nb5_0 v2.length = some (rows (v2 : List ByteArray)) ∧ nb5_0 < h.length) (fun h v h2 => oo_impl_PutTexts v4 h v h2) ?_ ?_ ?_
                            · simp (disch := first | omega | (simp only [List.length_set, List.length_append, List.length_cons, List.length_nil, rows_len, zs]; first | done | omega)) only [ep_laws_szStringS, ep_laws_toStringS, ep_spec_PutTexts, ep_laws_eqByteS, ep_laws_eqStringS, ep_laws_heldByteS, hv0, hb1, hv2, hv3, d0_0, hv4, d1_0, d1_1, hv5, hb6, hb7, d2_0, d2_1, d2_2, hv8, hb9, hv10, d3_0, d3_1, d3_2, hb11, hv12, d4_0, d4_1, d4_2, hv13, hb14, hb15, d5_0, d5_1, d5_2, d5_3, gs, reduceIte, reduceCtorEq, Nat.reduceAdd, Nat.reduceMul, Nat.reduceSub, Nat.reduceBEq, Nat.reduceEqDiff, Nat.reduceLeDiff, Nat.reduceLT, Nat.reduceGT, Int.reduceToNat, Int.reduceLT, Int.reduceLE, Int.reduceNeg, Int.reduceAdd, Int.reduceEq, Int.reduceNe] <;> omega
                            · rintro h ⟨c6_0, c6_1, c6_2, c6_3, c6_4, c6_5, c6_6, c6_7⟩
                              exact e_impl_PutTexts _ _ hv4 h _ (by simp (disch := first | omega | (simp only [List.length_set, List.length_append, List.length_cons, List.length_nil, rows_len, zs]; first | done | omega)) only [ep_laws_szStringS, ep_laws_toStringS, ep_spec_PutTexts, ep_laws_eqByteS, ep_laws_eqStringS, ep_laws_heldByteS, hv0, hb1, hv2, hv3, d0_0, hv4, d1_0, d1_1, hv5, hb6, hb7, d2_0, d2_1, d2_2, hv8, hb9, hv10, d3_0, d3_1, d3_2, hb11, hv12, d4_0, d4_1, d4_2, hv13, hb14, hb15, d5_0, d5_1, d5_2, d5_3, c6_0, c6_1, c6_2, c6_3, c6_4, c6_5, c6_6, c6_7, gs, reduceIte, reduceCtorEq, Nat.reduceAdd, Nat.reduceMul, Nat.reduceSub, Nat.reduceBEq, Nat.reduceEqDiff, Nat.reduceLeDiff, Nat.reduceLT, Nat.reduceGT, Int.reduceToNat, Int.reduceLT, Int.reduceLE, Int.reduceNeg, Int.reduceAdd, Int.reduceEq, Int.reduceNe])
                            · rintro h v hh6 ⟨c6_0, c6_1, c6_2, c6_3, c6_4, c6_5, c6_6, c6_7⟩ hpost
                              obtain ⟨kk6, nb6_0, rfl, lnb6_0, gnb6_0, wnb6_0⟩ := hpost
                              have d6_0 : getCells hh6 nb0_0 v2.length = some (rows (v10.b : List ByteArray)) := (keep_get kk6 c6_1 (by first | (simp; done) | (simp; omega))).trans c6_0
                              have d6_0l := keep_lt kk6 c6_1
                              have d6_1 : getCells hh6 nb1_0 v4.a.length = some (rows (v12.b : List U8)) := (keep_get kk6 c6_3 (by first | (simp; done) | (simp; omega))).trans c6_2
                              have d6_1l := keep_lt kk6 c6_3
                              have d6_2 : getCells hh6 nb2_0 v2.length = some (rows (v2 : List ByteArray)) := (keep_get kk6 c6_5 (by first | (simp; done) | (simp; omega))).trans c6_4
                              have d6_2l := keep_lt kk6 c6_5
                              have d6_3 : getCells hh6 nb5_0 v2.length = some (rows (v2 : List ByteArray)) := (keep_get kk6 c6_7 (by first | (simp; done) | (simp; omega))).trans c6_6
                              have d6_3l := keep_lt kk6 c6_7
                              have d6_4 := wnb6_0
                              cases hp
                              simp (disch := first | omega | (simp only [List.length_set, List.length_append, List.length_cons, List.length_nil, rows_len, zs]; first | done | omega)) only [ep_laws_szStringS, ep_laws_toStringS, ep_spec_PutTexts, ep_laws_eqByteS, ep_laws_eqStringS, ep_laws_heldByteS, hv0, hb1, hv2, hv3, d0_0, hv4, d1_0, d1_1, hv5, hb6, hb7, d2_0, d2_1, d2_2, hv8, hb9, hv10, d3_0, d3_1, d3_2, hb11, hv12, d4_0, d4_1, d4_2, hv13, hb14, hb15, d5_0, d5_1, d5_2, d5_3, d6_0, d6_1, d6_2, d6_3, d6_4, gs, reduceIte, reduceCtorEq, Nat.reduceAdd, Nat.reduceMul, Nat.reduceSub, Nat.reduceBEq, Nat.reduceEqDiff, Nat.reduceLeDiff, Nat.reduceLT, Nat.reduceGT, Int.reduceToNat, Int.reduceLT, Int.reduceLE, Int.reduceNeg, Int.reduceAdd, Int.reduceEq, Int.reduceNe]
                        · replace hb15 := eq_false_of_ne_true hb15
                          rw [if_f hb15] at hp
                          cases hp
              · replace hb9 := eq_false_of_ne_true hb9
                rw [if_f hb9] at hp
                cases hp
          · replace hb7 := eq_false_of_ne_true hb7
            rw [if_f hb7] at hp
            cases hp
        · replace hb6 := eq_false_of_ne_true hb6
          rw [if_f hb6] at hp
          cases hp

end Go.AM
