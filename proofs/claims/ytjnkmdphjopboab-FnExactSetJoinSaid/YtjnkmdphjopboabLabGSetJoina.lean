/- Plain functions of SetJoin and their walks. No condition. -/
import Derived.Test.YtjnkmdphjopboabLabB34
set_option linter.unusedVariables false
set_option linter.unusedSimpArgs false
namespace Go.AM
open Pic (enc dec dec_enc dec_sub)
open PicA (encA decA decA_encA decA_sub)
noncomputable def p_laws_szIntS (x0 : List Int) (x1 : Int) : Option Int :=
  if (decide (w64 (x1 - (x0.length : Int)) < 0)) = true then
    some (-1)
  else
    some (w64 (x1 - (x0.length : Int)))
def c_laws_szIntS : AFn := ⟨12, (.seq (.ops [⟨(.some 4), (.mv (.const (.int .i64 0))), .none, []⟩]) (.seq (.ops [⟨(.some 5), (.mv (.tmp 1)), .none, []⟩, ⟨(.some 6), (.mv (.tmp 0)), .none, []⟩, ⟨(.some 7), (.len (.tmp 6)), .none, []⟩, ⟨(.some 8), (.pu (.n (.ar .sub)) [(.tmp 5), (.tmp 7)]), .none, []⟩, ⟨(.some 1), (.mv (.tmp 8)), .none, []⟩]) (.seq (.seq (.ops [⟨(.some 9), (.mv (.tmp 1)), .none, []⟩, ⟨(.some 10), (.pu (.n (.ar .lss)) [(.tmp 9), (.const (.int .i64 0))]), .none, []⟩]) (.cond (.tmp 10) (.seq (.ops [⟨(.some 4), (.mv (.const (.int .i64 (-1)))), .none, []⟩]) .ret) .skip)) (.seq (.ops [⟨(.some 11), (.mv (.tmp 1)), .none, []⟩, ⟨(.some 4), (.mv (.tmp 11)), .none, []⟩]) .ret)))), [(.tmp 4)]⟩
set_option maxHeartbeats 10000000 in
theorem d_laws_szIntS {P : Program} {env : Env}  (x0 : List Int) (x1 : Int) {b : Int} (hp : p_laws_szIntS x0 x1 = some b) : R P env (c_laws_szIntS) ((encA (x0, x1)).map ofI) [] (Tells true b) := by
  refine R_of (by simp [c_laws_szIntS, encA]) ?_
  unfold c_laws_szIntS
  unfold p_laws_szIntS at hp
  by_cases hb0 : (decide (w64 (x1 - (x0.length : Int)) < 0)) = true
  · rw [if_t hb0] at hp
    have hp := Option.some.inj hp
    subst hp
    simp (disch := first | omega | (simp only [List.length_set, List.length_append, List.length_cons, List.length_nil, rows_len, zs]; first | done | omega)) only [hb0, gs, reduceIte, reduceCtorEq, Nat.reduceAdd, Nat.reduceMul, Nat.reduceSub, Nat.reduceBEq, Nat.reduceEqDiff, Nat.reduceLeDiff, Nat.reduceLT, Nat.reduceGT, Int.reduceToNat, Int.reduceLT, Int.reduceLE, Int.reduceNeg, Int.reduceAdd, Int.reduceEq, Int.reduceNe]
  · replace hb0 := eq_false_of_ne_true hb0
    rw [if_f hb0] at hp
    have hp := Option.some.inj hp
    subst hp
    simp (disch := first | omega | (simp only [List.length_set, List.length_append, List.length_cons, List.length_nil, rows_len, zs]; first | done | omega)) only [hb0, gs, reduceIte, reduceCtorEq, Nat.reduceAdd, Nat.reduceMul, Nat.reduceSub, Nat.reduceBEq, Nat.reduceEqDiff, Nat.reduceLeDiff, Nat.reduceLT, Nat.reduceGT, Int.reduceToNat, Int.reduceLT, Int.reduceLE, Int.reduceNeg, Int.reduceAdd, Int.reduceEq, Int.reduceNe]

noncomputable def p_laws_szVector (x0 : TVec) (x1 : Int) : Option Int :=
  (p_laws_szIntS x0.counts x1).bind fun v0 =>
  if (decide (v0 < 0)) = true then
    some (-1)
  else
    some v0
def c_laws_szVector (f_laws_szIntS : Nat) : AFn := ⟨12, (.seq (.ops [⟨(.some 2), (.box (.tmp 0)), .none, []⟩, ⟨(.some 4), (.mv (.const (.int .i64 0))), .none, []⟩]) (.seq (.ops [⟨(.some 5), (.fieldA 0 (.tmp 2)), .none, []⟩, ⟨(.some 6), (.load 1 false (.tmp 5)), .none, []⟩, ⟨(.some 7), (.mv (.tmp 1)), .none, []⟩, ⟨(.some 8), (.call (2 * f_laws_szIntS) [(.tmp 6), (.tmp 7)]), .none, []⟩, ⟨(.some 1), (.mv (.tmp 8)), .none, []⟩]) (.seq (.seq (.ops [⟨(.some 9), (.mv (.tmp 1)), .none, []⟩, ⟨(.some 10), (.pu (.n (.ar .lss)) [(.tmp 9), (.const (.int .i64 0))]), .none, []⟩]) (.cond (.tmp 10) (.seq (.ops [⟨(.some 4), (.mv (.const (.int .i64 (-1)))), .none, []⟩]) .ret) .skip)) (.seq (.ops [⟨(.some 11), (.mv (.tmp 1)), .none, []⟩, ⟨(.some 4), (.mv (.tmp 11)), .none, []⟩]) .ret)))), [(.tmp 4)]⟩
set_option maxHeartbeats 10000000 in
theorem d_laws_szVector {P : Program} {env : Env} {f_laws_szIntS : Nat}  (ep_laws_szIntS : env (2 * f_laws_szIntS) = pureFn true (FA fun a : List Int × Int => p_laws_szIntS a.1 a.2)) (x0 : TVec) (x1 : Int) {b : Int} (hp : p_laws_szVector x0 x1 = some b) : R P env (c_laws_szVector f_laws_szIntS) ((encA (x0, x1)).map ofI) [] (Tells true b) := by
  refine R_of (by simp [c_laws_szVector, encA]) ?_
  unfold c_laws_szVector
  unfold p_laws_szVector at hp
  obtain ⟨v0, hv0, hp⟩ := bind_eq hp
  by_cases hb1 : (decide (v0 < 0)) = true
  · rw [if_t hb1] at hp
    have hp := Option.some.inj hp
    subst hp
    simp (disch := first | omega | (simp only [List.length_set, List.length_append, List.length_cons, List.length_nil, rows_len, zs]; first | done | omega)) only [ep_laws_szIntS, hv0, hb1, gs, reduceIte, reduceCtorEq, Nat.reduceAdd, Nat.reduceMul, Nat.reduceSub, Nat.reduceBEq, Nat.reduceEqDiff, Nat.reduceLeDiff, Nat.reduceLT, Nat.reduceGT, Int.reduceToNat, Int.reduceLT, Int.reduceLE, Int.reduceNeg, Int.reduceAdd, Int.reduceEq, Int.reduceNe]
  · replace hb1 := eq_false_of_ne_true hb1
    rw [if_f hb1] at hp
    have hp := Option.some.inj hp
    subst hp
    simp (disch := first | omega | (simp only [List.length_set, List.length_append, List.length_cons, List.length_nil, rows_len, zs]; first | done | omega)) only [ep_laws_szIntS, hv0, hb1, gs, reduceIte, reduceCtorEq, Nat.reduceAdd, Nat.reduceMul, Nat.reduceSub, Nat.reduceBEq, Nat.reduceEqDiff, Nat.reduceLeDiff, Nat.reduceLT, Nat.reduceGT, Int.reduceToNat, Int.reduceLT, Int.reduceLE, Int.reduceNeg, Int.reduceAdd, Int.reduceEq, Int.reduceNe]

noncomputable def p_laws_szEntry (x0 : TEntry) (x1 : Int) : Option Int :=
  if (decide (w64 (x1 - (x0.text.size : Int)) < 0)) = true then
    some (-1)
  else
    some (w64 (x1 - (x0.text.size : Int)))
def c_laws_szEntry : AFn := ⟨13, (.seq (.ops [⟨(.some 2), (.box (.tmp 0)), .none, []⟩, ⟨(.some 4), (.mv (.const (.int .i64 0))), .none, []⟩]) (.seq (.ops [⟨(.some 5), (.mv (.tmp 1)), .none, []⟩, ⟨(.some 6), (.fieldA 2 (.tmp 2)), .none, []⟩, ⟨(.some 7), (.load 1 false (.tmp 6)), .none, []⟩, ⟨(.some 8), (.pu (.n .len) [(.tmp 7)]), .none, []⟩, ⟨(.some 9), (.pu (.n (.ar .sub)) [(.tmp 5), (.tmp 8)]), .none, []⟩, ⟨(.some 1), (.mv (.tmp 9)), .none, []⟩]) (.seq (.seq (.ops [⟨(.some 10), (.mv (.tmp 1)), .none, []⟩, ⟨(.some 11), (.pu (.n (.ar .lss)) [(.tmp 10), (.const (.int .i64 0))]), .none, []⟩]) (.cond (.tmp 11) (.seq (.ops [⟨(.some 4), (.mv (.const (.int .i64 (-1)))), .none, []⟩]) .ret) .skip)) (.seq (.ops [⟨(.some 12), (.mv (.tmp 1)), .none, []⟩, ⟨(.some 4), (.mv (.tmp 12)), .none, []⟩]) .ret)))), [(.tmp 4)]⟩
set_option maxHeartbeats 10000000 in
theorem d_laws_szEntry {P : Program} {env : Env}  (x0 : TEntry) (x1 : Int) {b : Int} (hp : p_laws_szEntry x0 x1 = some b) : R P env (c_laws_szEntry) ((encA (x0, x1)).map ofI) [] (Tells true b) := by
  refine R_of (by simp [c_laws_szEntry, encA]) ?_
  unfold c_laws_szEntry
  unfold p_laws_szEntry at hp
  by_cases hb0 : (decide (w64 (x1 - (x0.text.size : Int)) < 0)) = true
  · rw [if_t hb0] at hp
    have hp := Option.some.inj hp
    subst hp
    simp (disch := first | omega | (simp only [List.length_set, List.length_append, List.length_cons, List.length_nil, rows_len, zs]; first | done | omega)) only [hb0, gs, reduceIte, reduceCtorEq, Nat.reduceAdd, Nat.reduceMul, Nat.reduceSub, Nat.reduceBEq, Nat.reduceEqDiff, Nat.reduceLeDiff, Nat.reduceLT, Nat.reduceGT, Int.reduceToNat, Int.reduceLT, Int.reduceLE, Int.reduceNeg, Int.reduceAdd, Int.reduceEq, Int.reduceNe]
  · replace hb0 := eq_false_of_ne_true hb0
    rw [if_f hb0] at hp
    have hp := Option.some.inj hp
    subst hp
    simp (disch := first | omega | (simp only [List.length_set, List.length_append, List.length_cons, List.length_nil, rows_len, zs]; first | done | omega)) only [hb0, gs, reduceIte, reduceCtorEq, Nat.reduceAdd, Nat.reduceMul, Nat.reduceSub, Nat.reduceBEq, Nat.reduceEqDiff, Nat.reduceLeDiff, Nat.reduceLT, Nat.reduceGT, Int.reduceToNat, Int.reduceLT, Int.reduceLE, Int.reduceNeg, Int.reduceAdd, Int.reduceEq, Int.reduceNe]

noncomputable def p_laws_szEntryS_l0 (x0 : List TEntry) : Int × Int → Option (Lp (Int × Int) Int)
  | (s1, s2) =>
    if (decide (s2 < (x0.length : Int))) = true then
      (get? x0 s2).bind fun v4 =>
      (p_laws_szEntry v4 s1).bind fun v5 =>
      if (decide (v5 < 0)) = true then
        some (.ret (-1))
      else
        some (.go (v5, w64 (s2 + 1)))
    else
      some (.out (s1, s2))
noncomputable def p_laws_szEntryS (x0 : List TEntry) (x1 : Int) : Option Int :=
  if (decide (w64 (x1 - (x0.length : Int)) < 0)) = true then
    some (-1)
  else
    (loopP (p_laws_szEntryS_l0 x0) (w64 (x1 - (x0.length : Int)), 0)).bind fun ee0 => match ee0 with
    | .ret r => some r
    | .out (o7, o8) =>
      some o7
def c_laws_szEntryS (f_laws_szEntry : Nat) : AFn := ⟨27, (.seq (.ops [⟨(.some 4), (.mv (.const (.int .i64 0))), .none, []⟩]) (.seq (.ops [⟨(.some 6), (.mv (.tmp 1)), .none, []⟩, ⟨(.some 7), (.mv (.tmp 0)), .none, []⟩, ⟨(.some 8), (.len (.tmp 7)), .none, []⟩, ⟨(.some 9), (.pu (.n (.ar .sub)) [(.tmp 6), (.tmp 8)]), .none, []⟩, ⟨(.some 1), (.mv (.tmp 9)), .none, []⟩]) (.seq (.seq (.ops [⟨(.some 10), (.mv (.tmp 1)), .none, []⟩, ⟨(.some 11), (.pu (.n (.ar .lss)) [(.tmp 10), (.const (.int .i64 0))]), .none, []⟩]) (.cond (.tmp 11) (.seq (.ops [⟨(.some 4), (.mv (.const (.int .i64 (-1)))), .none, []⟩]) .ret) .skip)) (.seq (.seq (.ops [⟨(.some 5), (.mv (.const (.int .i64 0))), .none, []⟩]) (.block 0 (.loop (.seq (.seq (.ops [⟨(.some 12), (.mv (.tmp 5)), .none, []⟩, ⟨(.some 13), (.mv (.tmp 0)), .none, []⟩, ⟨(.some 14), (.len (.tmp 13)), .none, []⟩, ⟨(.some 15), (.pu (.n (.ar .lss)) [(.tmp 12), (.tmp 14)]), .none, []⟩]) (.cond (.tmp 15) .skip (.exit 0))) (.seq (.block 1 (.seq (.ops [⟨(.some 18), (.mv (.tmp 0)), .none, []⟩, ⟨(.some 19), (.mv (.tmp 5)), .none, []⟩, ⟨(.some 20), (.idxS 3 (.tmp 18) (.tmp 19)), .none, []⟩, ⟨(.some 21), (.load 3 true (.tmp 20)), .none, []⟩, ⟨(.some 22), (.mv (.tmp 1)), .none, []⟩, ⟨(.some 23), (.call (2 * f_laws_szEntry) [(.tmp 21), (.tmp 22)]), .none, []⟩, ⟨(.some 1), (.mv (.tmp 23)), .none, []⟩]) (.seq (.ops [⟨(.some 24), (.mv (.tmp 1)), .none, []⟩, ⟨(.some 25), (.pu (.n (.ar .lss)) [(.tmp 24), (.const (.int .i64 0))]), .none, []⟩]) (.cond (.tmp 25) (.seq (.ops [⟨(.some 4), (.mv (.const (.int .i64 (-1)))), .none, []⟩]) .ret) .skip)))) (.ops [⟨(.some 16), (.mv (.tmp 5)), .none, []⟩, ⟨(.some 17), (.pu (.n (.ar .add)) [(.tmp 16), (.const (.int .i64 1))]), .none, []⟩, ⟨(.some 5), (.mv (.tmp 17)), .none, []⟩])))))) (.seq (.ops [⟨(.some 26), (.mv (.tmp 1)), .none, []⟩, ⟨(.some 4), (.mv (.tmp 26)), .none, []⟩]) .ret))))), [(.tmp 4)]⟩
set_option maxHeartbeats 10000000 in
theorem d_laws_szEntryS {P : Program} {env : Env} {f_laws_szEntry : Nat}  (ep_laws_szEntry : env (2 * f_laws_szEntry) = pureFn true (FA fun a : TEntry × Int => p_laws_szEntry a.1 a.2)) (x0 : List TEntry) (x1 : Int) {b : Int} (hp : p_laws_szEntryS x0 x1 = some b) : R P env (c_laws_szEntryS f_laws_szEntry) ((encA (x0, x1)).map ofI) [] (Tells true b) := by
  refine R_of (by simp [c_laws_szEntryS, encA]) ?_
  unfold c_laws_szEntryS
  unfold p_laws_szEntryS at hp
  by_cases hb0 : (decide (w64 (x1 - (x0.length : Int)) < 0)) = true
  · rw [if_t hb0] at hp
    have hp := Option.some.inj hp
    subst hp
    simp (disch := first | omega | (simp only [List.length_set, List.length_append, List.length_cons, List.length_nil, rows_len, zs]; first | done | omega)) only [ep_laws_szEntry, hb0, gs, reduceIte, reduceCtorEq, Nat.reduceAdd, Nat.reduceMul, Nat.reduceSub, Nat.reduceBEq, Nat.reduceEqDiff, Nat.reduceLeDiff, Nat.reduceLT, Nat.reduceGT, Int.reduceToNat, Int.reduceLT, Int.reduceLE, Int.reduceNeg, Int.reduceAdd, Int.reduceEq, Int.reduceNe]
  · replace hb0 := eq_false_of_ne_true hb0
    rw [if_f hb0] at hp
    obtain ⟨ee0, hee0, hp⟩ := bind_eq hp
    simp (disch := first | omega | (simp only [List.length_set, List.length_append, List.length_cons, List.length_nil, rows_len, zs]; first | done | omega)) only [ep_laws_szEntry, hb0, gs, reduceIte, reduceCtorEq, Nat.reduceAdd, Nat.reduceMul, Nat.reduceSub, Nat.reduceBEq, Nat.reduceEqDiff, Nat.reduceLeDiff, Nat.reduceLT, Nat.reduceGT, Int.reduceToNat, Int.reduceLT, Int.reduceLE, Int.reduceNeg, Int.reduceAdd, Int.reduceEq, Int.reduceNe]
    refine W_loopP 0 (fun s t h => match s with | (s1, s2) => t 0 = .i (.sl 3 (x0.map enc)) ∧ t 1 = .i (.s (.int .i64 s1)) ∧ t 5 = .i (.s (.int .i64 s2))) (RK [.tmp 4] (Tells true)) ?_ hee0 ?_ ?_
    · rintro ⟨s1, s2⟩ ee tt0 hh0 ⟨ftt0_0, ftt0_1, ftt0_2⟩ hp
      rw [p_laws_szEntryS_l0] at hp
      by_cases hb3 : (decide (s2 < (x0.length : Int))) = true
      · rw [if_t hb3] at hp
        obtain ⟨v4, hv4, hp⟩ := bind_eq hp
        obtain ⟨v5, hv5, hp⟩ := bind_eq hp
        by_cases hb6 : (decide (v5 < 0)) = true
        · rw [if_t hb6] at hp
          have hp := Option.some.inj hp
          subst hp
          simp (disch := first | omega | (simp only [List.length_set, List.length_append, List.length_cons, List.length_nil, rows_len, zs]; first | done | omega)) only [ep_laws_szEntry, hb0, ftt0_0, ftt0_1, ftt0_2, hb3, hv4, hv5, hb6, gs, reduceIte, reduceCtorEq, Nat.reduceAdd, Nat.reduceMul, Nat.reduceSub, Nat.reduceBEq, Nat.reduceEqDiff, Nat.reduceLeDiff, Nat.reduceLT, Nat.reduceGT, Int.reduceToNat, Int.reduceLT, Int.reduceLE, Int.reduceNeg, Int.reduceAdd, Int.reduceEq, Int.reduceNe]
        · replace hb6 := eq_false_of_ne_true hb6
          rw [if_f hb6] at hp
          have hp := Option.some.inj hp
          subst hp
          simp (disch := first | omega | (simp only [List.length_set, List.length_append, List.length_cons, List.length_nil, rows_len, zs]; first | done | omega)) only [ep_laws_szEntry, hb0, ftt0_0, ftt0_1, ftt0_2, hb3, hv4, hv5, hb6, gs, reduceIte, reduceCtorEq, Nat.reduceAdd, Nat.reduceMul, Nat.reduceSub, Nat.reduceBEq, Nat.reduceEqDiff, Nat.reduceLeDiff, Nat.reduceLT, Nat.reduceGT, Int.reduceToNat, Int.reduceLT, Int.reduceLE, Int.reduceNeg, Int.reduceAdd, Int.reduceEq, Int.reduceNe] <;> omega
      · replace hb3 := eq_false_of_ne_true hb3
        rw [if_f hb3] at hp
        have hp := Option.some.inj hp
        subst hp
        simp (disch := first | omega | (simp only [List.length_set, List.length_append, List.length_cons, List.length_nil, rows_len, zs]; first | done | omega)) only [ep_laws_szEntry, hb0, ftt0_0, ftt0_1, ftt0_2, hb3, gs, reduceIte, reduceCtorEq, Nat.reduceAdd, Nat.reduceMul, Nat.reduceSub, Nat.reduceBEq, Nat.reduceEqDiff, Nat.reduceLeDiff, Nat.reduceLT, Nat.reduceGT, Int.reduceToNat, Int.reduceLT, Int.reduceLE, Int.reduceNeg, Int.reduceAdd, Int.reduceEq, Int.reduceNe] <;> omega
    · simp (disch := first | omega | (simp only [List.length_set, List.length_append, List.length_cons, List.length_nil, rows_len, zs]; first | done | omega)) only [ep_laws_szEntry, hb0, gs, reduceIte, reduceCtorEq, Nat.reduceAdd, Nat.reduceMul, Nat.reduceSub, Nat.reduceBEq, Nat.reduceEqDiff, Nat.reduceLeDiff, Nat.reduceLT, Nat.reduceGT, Int.reduceToNat, Int.reduceLT, Int.reduceLE, Int.reduceNeg, Int.reduceAdd, Int.reduceEq, Int.reduceNe] <;> omega
    · intro x tt1 hh1 hx
      rcases ee0 with ⟨o7, o8⟩ | r
      · obtain ⟨rfl, ftt1_0, ftt1_1, ftt1_2⟩ := hx
        dsimp only at hp
        have hp := Option.some.inj hp
        subst hp
        simp (disch := first | omega | (simp only [List.length_set, List.length_append, List.length_cons, List.length_nil, rows_len, zs]; first | done | omega)) only [ep_laws_szEntry, hb0, ftt1_0, ftt1_1, ftt1_2, gs, reduceIte, reduceCtorEq, Nat.reduceAdd, Nat.reduceMul, Nat.reduceSub, Nat.reduceBEq, Nat.reduceEqDiff, Nat.reduceLeDiff, Nat.reduceLT, Nat.reduceGT, Int.reduceToNat, Int.reduceLT, Int.reduceLE, Int.reduceNeg, Int.reduceAdd, Int.reduceEq, Int.reduceNe]
      · obtain ⟨rfl, hx⟩ := hx
        dsimp only at hp
        cases hp
        simp only [seqK_ret, blockK_ret, retK_RK (K := Tells true), hx, and_self, true_and]

noncomputable def p_laws_szSet (x0 : TMulti) (x1 : Int) : Option Int :=
  (p_laws_szVector x0.seen x1).bind fun v0 =>
  if (decide (v0 < 0)) = true then
    some (-1)
  else
    (p_laws_szEntryS x0.entries v0).bind fun v2 =>
    if (decide (v2 < 0)) = true then
      some (-1)
    else
      some v2
def c_laws_szSet (f_laws_szVector : Nat) (f_laws_szEntryS : Nat) : AFn := ⟨18, (.seq (.ops [⟨(.some 2), (.box (.tmp 0)), .none, []⟩, ⟨(.some 4), (.mv (.const (.int .i64 0))), .none, []⟩]) (.seq (.ops [⟨(.some 5), (.fieldA 0 (.tmp 2)), .none, []⟩, ⟨(.some 6), (.load 1 true (.tmp 5)), .none, []⟩, ⟨(.some 7), (.mv (.tmp 1)), .none, []⟩, ⟨(.some 8), (.call (2 * f_laws_szVector) [(.tmp 6), (.tmp 7)]), .none, []⟩, ⟨(.some 1), (.mv (.tmp 8)), .none, []⟩]) (.seq (.seq (.ops [⟨(.some 9), (.mv (.tmp 1)), .none, []⟩, ⟨(.some 10), (.pu (.n (.ar .lss)) [(.tmp 9), (.const (.int .i64 0))]), .none, []⟩]) (.cond (.tmp 10) (.seq (.ops [⟨(.some 4), (.mv (.const (.int .i64 (-1)))), .none, []⟩]) .ret) .skip)) (.seq (.ops [⟨(.some 11), (.fieldA 1 (.tmp 2)), .none, []⟩, ⟨(.some 12), (.load 1 false (.tmp 11)), .none, []⟩, ⟨(.some 13), (.mv (.tmp 1)), .none, []⟩, ⟨(.some 14), (.call (2 * f_laws_szEntryS) [(.tmp 12), (.tmp 13)]), .none, []⟩, ⟨(.some 1), (.mv (.tmp 14)), .none, []⟩]) (.seq (.seq (.ops [⟨(.some 15), (.mv (.tmp 1)), .none, []⟩, ⟨(.some 16), (.pu (.n (.ar .lss)) [(.tmp 15), (.const (.int .i64 0))]), .none, []⟩]) (.cond (.tmp 16) (.seq (.ops [⟨(.some 4), (.mv (.const (.int .i64 (-1)))), .none, []⟩]) .ret) .skip)) (.seq (.ops [⟨(.some 17), (.mv (.tmp 1)), .none, []⟩, ⟨(.some 4), (.mv (.tmp 17)), .none, []⟩]) .ret)))))), [(.tmp 4)]⟩
set_option maxHeartbeats 10000000 in
theorem d_laws_szSet {P : Program} {env : Env} {f_laws_szVector : Nat} {f_laws_szEntryS : Nat}  (ep_laws_szVector : env (2 * f_laws_szVector) = pureFn true (FA fun a : TVec × Int => p_laws_szVector a.1 a.2)) (ep_laws_szEntryS : env (2 * f_laws_szEntryS) = pureFn true (FA fun a : List TEntry × Int => p_laws_szEntryS a.1 a.2)) (x0 : TMulti) (x1 : Int) {b : Int} (hp : p_laws_szSet x0 x1 = some b) : R P env (c_laws_szSet f_laws_szVector f_laws_szEntryS) ((encA (x0, x1)).map ofI) [] (Tells true b) := by
  refine R_of (by simp [c_laws_szSet, encA]) ?_
  unfold c_laws_szSet
  unfold p_laws_szSet at hp
  obtain ⟨v0, hv0, hp⟩ := bind_eq hp
  by_cases hb1 : (decide (v0 < 0)) = true
  · rw [if_t hb1] at hp
    have hp := Option.some.inj hp
    subst hp
    simp (disch := first | omega | (simp only [List.length_set, List.length_append, List.length_cons, List.length_nil, rows_len, zs]; first | done | omega)) only [ep_laws_szVector, ep_laws_szEntryS, hv0, hb1, gs, reduceIte, reduceCtorEq, Nat.reduceAdd, Nat.reduceMul, Nat.reduceSub, Nat.reduceBEq, Nat.reduceEqDiff, Nat.reduceLeDiff, Nat.reduceLT, Nat.reduceGT, Int.reduceToNat, Int.reduceLT, Int.reduceLE, Int.reduceNeg, Int.reduceAdd, Int.reduceEq, Int.reduceNe]
  · replace hb1 := eq_false_of_ne_true hb1
    rw [if_f hb1] at hp
    obtain ⟨v2, hv2, hp⟩ := bind_eq hp
    by_cases hb3 : (decide (v2 < 0)) = true
    · rw [if_t hb3] at hp
      have hp := Option.some.inj hp
      subst hp
      simp (disch := first | omega | (simp only [List.length_set, List.length_append, List.length_cons, List.length_nil, rows_len, zs]; first | done | omega)) only [ep_laws_szVector, ep_laws_szEntryS, hv0, hb1, hv2, hb3, gs, reduceIte, reduceCtorEq, Nat.reduceAdd, Nat.reduceMul, Nat.reduceSub, Nat.reduceBEq, Nat.reduceEqDiff, Nat.reduceLeDiff, Nat.reduceLT, Nat.reduceGT, Int.reduceToNat, Int.reduceLT, Int.reduceLE, Int.reduceNeg, Int.reduceAdd, Int.reduceEq, Int.reduceNe]
    · replace hb3 := eq_false_of_ne_true hb3
      rw [if_f hb3] at hp
      have hp := Option.some.inj hp
      subst hp
      simp (disch := first | omega | (simp only [List.length_set, List.length_append, List.length_cons, List.length_nil, rows_len, zs]; first | done | omega)) only [ep_laws_szVector, ep_laws_szEntryS, hv0, hb1, hv2, hb3, gs, reduceIte, reduceCtorEq, Nat.reduceAdd, Nat.reduceMul, Nat.reduceSub, Nat.reduceBEq, Nat.reduceEqDiff, Nat.reduceLeDiff, Nat.reduceLT, Nat.reduceGT, Int.reduceToNat, Int.reduceLT, Int.reduceLE, Int.reduceNeg, Int.reduceAdd, Int.reduceEq, Int.reduceNe]

noncomputable def p_laws_toIntS_l0 (x0 : List Int) : List Int × Int → Option (Lp (List Int × Int) (List Int))
  | (s1, s2) =>
    if (decide (s2 < (x0.length : Int))) = true then
      (get? x0 s2).bind fun v4 =>
      (get? s1 s2).bind fun v5 =>
      some (.go ((s1.set s2.toNat v4), w64 (s2 + 1)))
    else
      some (.out (s1, s2))
noncomputable def p_laws_toIntS (x0 : List Int) : Option (List Int) :=
  ((mkL (x0.length : Int) 8 (x0.length : Int) 0 : Option (List Int))).bind fun v0 =>
  (loopP (p_laws_toIntS_l0 x0) (v0, 0)).bind fun ee0 => match ee0 with
  | .ret r => some r
  | .out (o7, o8) =>
    some o7
def c_laws_toIntS : AFn := ⟨22, (.seq (.ops [⟨(.some 2), (.vnil 1 false), .none, []⟩]) (.seq (.ops [⟨(.some 5), (.mv (.tmp 0)), .none, []⟩, ⟨(.some 6), (.len (.tmp 5)), .none, []⟩, ⟨(.some 7), (.makeSl 1 false 8 [(.int .i64 0)] (.tmp 6) (.tmp 6)), .none, []⟩, ⟨(.some 3), (.mv (.tmp 7)), .none, []⟩]) (.seq (.seq (.ops [⟨(.some 4), (.mv (.const (.int .i64 0))), .none, []⟩]) (.block 0 (.loop (.seq (.seq (.ops [⟨(.some 8), (.mv (.tmp 4)), .none, []⟩, ⟨(.some 9), (.mv (.tmp 0)), .none, []⟩, ⟨(.some 10), (.len (.tmp 9)), .none, []⟩, ⟨(.some 11), (.pu (.n (.ar .lss)) [(.tmp 8), (.tmp 10)]), .none, []⟩]) (.cond (.tmp 11) .skip (.exit 0))) (.seq (.block 1 (.ops [⟨(.some 14), (.mv (.tmp 3)), .none, []⟩, ⟨(.some 15), (.mv (.tmp 4)), .none, []⟩, ⟨(.some 16), (.mv (.tmp 0)), .none, []⟩, ⟨(.some 17), (.mv (.tmp 4)), .none, []⟩, ⟨(.some 18), (.idxS 1 (.tmp 16) (.tmp 17)), .none, []⟩, ⟨(.some 19), (.load 1 false (.tmp 18)), .none, []⟩, ⟨(.some 20), (.idxS 1 (.tmp 14) (.tmp 15)), .none, []⟩, ⟨.none, (.storeV [(0, false)] 1 (.tmp 20) (.tmp 19)), .none, []⟩])) (.ops [⟨(.some 12), (.mv (.tmp 4)), .none, []⟩, ⟨(.some 13), (.pu (.n (.ar .add)) [(.tmp 12), (.const (.int .i64 1))]), .none, []⟩, ⟨(.some 4), (.mv (.tmp 13)), .none, []⟩])))))) (.seq (.ops [⟨(.some 21), (.mv (.tmp 3)), .none, []⟩, ⟨(.some 2), (.mv (.tmp 21)), .none, []⟩]) .ret)))), [(.tmp 2)]⟩
def o_laws_toIntS (b : List Int) (v : V) (h : Heap) : Prop := ∃ n0 : Nat, v = .hsl n0 b.length 0 1 false b.length ∧ getCells h n0 b.length = some (rows b)
def oo_laws_toIntS (b : List Int) (h : Heap) (v : V) (h2 : Heap) : Prop := Keep [] h h2 ∧ ∃ n0 : Nat, v = .hsl n0 b.length 0 1 false b.length ∧ n0 < h2.length ∧ h.length ≤ n0 ∧ getCells h2 n0 b.length = some (rows b)
def k_laws_toIntS (F : Fun) : Prop := ∀ (x0 : List Int) (b : List Int), p_laws_toIntS x0 = some b → ∀ (h : Heap) (args : List V), snapA 9 false h args = some (encA (x0)) → ∃ p, F none args h = some p ∧ oo_laws_toIntS b h p.1 p.2
set_option maxHeartbeats 10000000 in
theorem w_laws_toIntS {P : Program} {env : Env}  (x0 : List Int) {b : List Int} (hp : p_laws_toIntS x0 = some b) : R P env (c_laws_toIntS) ((encA (x0)).map ofI) [] (o_laws_toIntS b) := by
  refine R_of (by simp [c_laws_toIntS, encA]) ?_
  unfold c_laws_toIntS
  unfold p_laws_toIntS at hp
  obtain ⟨v0, hv0, hp⟩ := bind_eq hp
  obtain ⟨kv0, qv0, lv0⟩ := mkL_some hv0
  have rv0 : (List.replicate x0.length [.i (.s (.int .i64 0))]).flatten = rows v0 := by rw [qv0]; exact rows_rep (x := (0 : Int)) rfl
  have mv0 : x0.length = v0.length := by rw [lv0]; simp
  obtain ⟨ee0, hee0, hp⟩ := bind_eq hp
  simp (disch := first | omega | (simp only [List.length_set, List.length_append, List.length_cons, List.length_nil, rows_len, zs]; first | done | omega)) only [hv0, rv0, kv0.1, kv0.2.1, kv0.2.2.1, kv0.2.2.2, gs, reduceIte, reduceCtorEq, Nat.reduceAdd, Nat.reduceMul, Nat.reduceSub, Nat.reduceBEq, Nat.reduceEqDiff, Nat.reduceLeDiff, Nat.reduceLT, Nat.reduceGT, Int.reduceToNat, Int.reduceLT, Int.reduceLE, Int.reduceNeg, Int.reduceAdd, Int.reduceEq, Int.reduceNe]
  refine W_loopP 0 (fun s t h => match s with | (s1, s2) => t 0 = .i (.sl 1 (x0.map enc)) ∧ t 3 = .hsl 1 x0.length 0 1 false x0.length ∧ t 4 = .i (.s (.int .i64 s2)) ∧ getCells h 1 x0.length = some (rows (s1 : List Int)) ∧ 1 < h.length) (RK [.tmp 2] (o_laws_toIntS)) ?_ hee0 ?_ ?_
  · rintro ⟨s1, s2⟩ ee tt0 hh0 ⟨ftt0_0, ftt0_1, ftt0_2, ftt0_3, ftt0_4⟩ hp
    have ztt0_3 := len_rows ftt0_3
    simp only [zs] at ztt0_3
    rw [p_laws_toIntS_l0] at hp
    by_cases hb3 : (decide (s2 < (x0.length : Int))) = true
    · rw [if_t hb3] at hp
      obtain ⟨v4, hv4, hp⟩ := bind_eq hp
      obtain ⟨v5, hv5, hp⟩ := bind_eq hp
      have gv5 := get_some hv5
      have hs6 : List.take s2.toNat (rows s1) ++ .i (.s (.int .i64 v4)) :: List.drop (s2.toNat + 1) (rows s1) = rows (s1.set s2.toNat v4) := by simpa [splice, zs, cellsV, I.cells, enc_int] using rows_set_off (y := v4) (ys := [.i (.s (.int .i64 v4))]) (k := 0) gv5.2.2 (Nat.le_of_ble_eq_true rfl) (by rfl)
      have hp := Option.some.inj hp
      subst hp
      simp (disch := first | omega | (simp only [List.length_set, List.length_append, List.length_cons, List.length_nil, rows_len, zs]; first | done | omega)) only [hv0, rv0, kv0.1, kv0.2.1, kv0.2.2.1, kv0.2.2.2, ftt0_0, ftt0_1, ftt0_2, ftt0_3, ftt0_4, hb3, hv4, hv5, (gv5).1, (gv5).2.1, hs6, gs, reduceIte, reduceCtorEq, Nat.reduceAdd, Nat.reduceMul, Nat.reduceSub, Nat.reduceBEq, Nat.reduceEqDiff, Nat.reduceLeDiff, Nat.reduceLT, Nat.reduceGT, Int.reduceToNat, Int.reduceLT, Int.reduceLE, Int.reduceNeg, Int.reduceAdd, Int.reduceEq, Int.reduceNe] <;> omega
    · replace hb3 := eq_false_of_ne_true hb3
      rw [if_f hb3] at hp
      have hp := Option.some.inj hp
      subst hp
      simp (disch := first | omega | (simp only [List.length_set, List.length_append, List.length_cons, List.length_nil, rows_len, zs]; first | done | omega)) only [hv0, rv0, kv0.1, kv0.2.1, kv0.2.2.1, kv0.2.2.2, ftt0_0, ftt0_1, ftt0_2, ftt0_3, ftt0_4, hb3, gs, reduceIte, reduceCtorEq, Nat.reduceAdd, Nat.reduceMul, Nat.reduceSub, Nat.reduceBEq, Nat.reduceEqDiff, Nat.reduceLeDiff, Nat.reduceLT, Nat.reduceGT, Int.reduceToNat, Int.reduceLT, Int.reduceLE, Int.reduceNeg, Int.reduceAdd, Int.reduceEq, Int.reduceNe] <;> omega
  · simp (disch := first | omega | (simp only [List.length_set, List.length_append, List.length_cons, List.length_nil, rows_len, zs]; first | done | omega)) only [hv0, rv0, kv0.1, kv0.2.1, kv0.2.2.1, kv0.2.2.2, gs, reduceIte, reduceCtorEq, Nat.reduceAdd, Nat.reduceMul, Nat.reduceSub, Nat.reduceBEq, Nat.reduceEqDiff, Nat.reduceLeDiff, Nat.reduceLT, Nat.reduceGT, Int.reduceToNat, Int.reduceLT, Int.reduceLE, Int.reduceNeg, Int.reduceAdd, Int.reduceEq, Int.reduceNe] <;> omega
  · intro x tt1 hh1 hx
    rcases ee0 with ⟨o7, o8⟩ | r
    · obtain ⟨rfl, ftt1_0, ftt1_1, ftt1_2, ftt1_3, ftt1_4⟩ := hx
      have ztt1_3 := len_rows ftt1_3
      simp only [zs] at ztt1_3
      dsimp only at hp
      have hp := Option.some.inj hp
      subst hp
      simp (disch := first | omega | (simp only [List.length_set, List.length_append, List.length_cons, List.length_nil, rows_len, zs]; first | done | omega)) only [hv0, rv0, kv0.1, kv0.2.1, kv0.2.2.1, kv0.2.2.2, ftt1_0, ftt1_1, ftt1_2, ftt1_3, ftt1_4, gs, reduceIte, reduceCtorEq, Nat.reduceAdd, Nat.reduceMul, Nat.reduceSub, Nat.reduceBEq, Nat.reduceEqDiff, Nat.reduceLeDiff, Nat.reduceLT, Nat.reduceGT, Int.reduceToNat, Int.reduceLT, Int.reduceLE, Int.reduceNeg, Int.reduceAdd, Int.reduceEq, Int.reduceNe]
      refine ⟨1, ?_⟩
      simp (disch := first | omega | (simp only [List.length_set, List.length_append, List.length_cons, List.length_nil, rows_len, zs]; first | done | omega)) only [hv0, rv0, kv0.1, kv0.2.1, kv0.2.2.1, kv0.2.2.2, ftt1_0, ftt1_1, ftt1_2, ftt1_3, ftt1_4, o_laws_toIntS, (show (o7).length = x0.length from by omega), gs, reduceIte, reduceCtorEq, Nat.reduceAdd, Nat.reduceMul, Nat.reduceSub, Nat.reduceBEq, Nat.reduceEqDiff, Nat.reduceLeDiff, Nat.reduceLT, Nat.reduceGT, Int.reduceToNat, Int.reduceLT, Int.reduceLE, Int.reduceNeg, Int.reduceAdd, Int.reduceEq, Int.reduceNe] <;> omega
    · obtain ⟨rfl, hx⟩ := hx
      dsimp only at hp
      cases hp
      simp only [seqK_ret, blockK_ret, retK_RK (K := o_laws_toIntS), hx, and_self, true_and]
theorem ko_laws_toIntS {P : Program} {env : Env}  : k_laws_toIntS (ownFn P env (c_laws_toIntS)) := by
  intro x0 b hp h args has
  obtain ⟨⟨v, H2⟩, hr, n0, rfl, wn0⟩ := w_laws_toIntS x0 hp
  exact ⟨_, own_call has hr rfl, keep_moved, n0 + h.length, rfl, (moved_lt wn0).2, (moved_lt wn0).1, moved_rows wn0⟩

noncomputable def p_laws_toVector (x0 : TVec) : Option TVec :=
  (p_laws_toIntS x0.counts).bind fun v0 =>
  some (TVec.mk v0)
def c_laws_toVector (f_laws_toIntS : Nat) : AFn := ⟨9, (.seq (.ops [⟨(.some 1), (.box (.tmp 0)), .none, []⟩, ⟨(.some 2), (.allocV [(1, false)] [(.slice .none 0 0)]), .none, []⟩]) (.seq (.ops [⟨(.some 3), (.allocV [(1, false)] [(.slice .none 0 0)]), .none, []⟩]) (.seq (.ops [⟨(.some 4), (.fieldA 0 (.tmp 1)), .none, []⟩, ⟨(.some 5), (.load 1 false (.tmp 4)), .none, []⟩, ⟨(.some 6), (.call (2 * f_laws_toIntS + 1) [(.tmp 5)]), .none, []⟩, ⟨(.some 7), (.fieldA 0 (.tmp 3)), .none, []⟩, ⟨.none, (.storeV [(1, false)] 1 (.tmp 7) (.tmp 6)), .none, []⟩]) (.seq (.ops [⟨(.some 8), (.load 1 true (.tmp 3)), .none, []⟩, ⟨.none, (.storeV [(1, false)] 1 (.tmp 2) (.tmp 8)), .none, []⟩]) .ret)))), [(.cell 2 1 true)]⟩
def o_laws_toVector (b : TVec) (v : V) (h : Heap) : Prop := ∃ n0 : Nat, v = .agg [.hsl n0 b.counts.length 0 1 false b.counts.length] ∧ getCells h n0 b.counts.length = some (rows b.counts)
def oo_laws_toVector (b : TVec) (h : Heap) (v : V) (h2 : Heap) : Prop := Keep [] h h2 ∧ ∃ n0 : Nat, v = .agg [.hsl n0 b.counts.length 0 1 false b.counts.length] ∧ n0 < h2.length ∧ h.length ≤ n0 ∧ getCells h2 n0 b.counts.length = some (rows b.counts)
def k_laws_toVector (F : Fun) : Prop := ∀ (x0 : TVec) (b : TVec), p_laws_toVector x0 = some b → ∀ (h : Heap) (args : List V), snapA 9 false h args = some (encA (x0)) → ∃ p, F none args h = some p ∧ oo_laws_toVector b h p.1 p.2
set_option maxHeartbeats 10000000 in
theorem w_laws_toVector {P : Program} {env : Env} {f_laws_toIntS : Nat}  (e_laws_toIntS : k_laws_toIntS (env (2 * f_laws_toIntS + 1))) (x0 : TVec) {b : TVec} (hp : p_laws_toVector x0 = some b) : R P env (c_laws_toVector f_laws_toIntS) ((encA (x0)).map ofI) [] (o_laws_toVector b) := by
  refine R_of (by simp [c_laws_toVector, encA]) ?_
  unfold c_laws_toVector
  unfold p_laws_toVector at hp
  obtain ⟨v0, hv0, hp⟩ := bind_eq hp
  simp (disch := first | omega | (simp only [List.length_set, List.length_append, List.length_cons, List.length_nil, rows_len, zs]; first | done | omega)) only [gs, reduceIte, reduceCtorEq, Nat.reduceAdd, Nat.reduceMul, Nat.reduceSub, Nat.reduceBEq, Nat.reduceEqDiff, Nat.reduceLeDiff, Nat.reduceLT, Nat.reduceGT, Int.reduceToNat, Int.reduceLT, Int.reduceLE, Int.reduceNeg, Int.reduceAdd, Int.reduceEq, Int.reduceNe]
  refine call_f (fun h => getCells h 0 1 = some [.i (.sl 1 (x0.counts.map enc))] ∧ 0 < h.length ∧ getCells h 1 0 = some [] ∧ 1 < h.length ∧ getCells h 2 1 = some [.hsl 1 0 0 1 false 0] ∧ 2 < h.length ∧ getCells h 3 0 = some [] ∧ 3 < h.length ∧ getCells h 4 1 = some [.hsl 3 0 0 1 false 0] ∧ 4 < h.length) (fun h v h2 => oo_laws_toIntS v0 h v h2) ?_ ?_ ?_
  · simp (disch := first | omega | (simp only [List.length_set, List.length_append, List.length_cons, List.length_nil, rows_len, zs]; first | done | omega)) only [hv0, gs, reduceIte, reduceCtorEq, Nat.reduceAdd, Nat.reduceMul, Nat.reduceSub, Nat.reduceBEq, Nat.reduceEqDiff, Nat.reduceLeDiff, Nat.reduceLT, Nat.reduceGT, Int.reduceToNat, Int.reduceLT, Int.reduceLE, Int.reduceNeg, Int.reduceAdd, Int.reduceEq, Int.reduceNe] <;> omega
  · rintro h ⟨c0_0, c0_1, c0_2, c0_3, c0_4, c0_5, c0_6, c0_7, c0_8, c0_9⟩
    exact e_laws_toIntS _ _ hv0 h _ (by simp (disch := first | omega | (simp only [List.length_set, List.length_append, List.length_cons, List.length_nil, rows_len, zs]; first | done | omega)) only [hv0, c0_0, c0_1, c0_2, c0_3, c0_4, c0_5, c0_6, c0_7, c0_8, c0_9, gs, reduceIte, reduceCtorEq, Nat.reduceAdd, Nat.reduceMul, Nat.reduceSub, Nat.reduceBEq, Nat.reduceEqDiff, Nat.reduceLeDiff, Nat.reduceLT, Nat.reduceGT, Int.reduceToNat, Int.reduceLT, Int.reduceLE, Int.reduceNeg, Int.reduceAdd, Int.reduceEq, Int.reduceNe])
  · rintro h v hh0 ⟨c0_0, c0_1, c0_2, c0_3, c0_4, c0_5, c0_6, c0_7, c0_8, c0_9⟩ hpost
    obtain ⟨kk0, nb0_0, rfl, lnb0_0, gnb0_0, wnb0_0⟩ := hpost
    have d0_0 : getCells hh0 0 1 = some [.i (.sl 1 (x0.counts.map enc))] := (keep_get kk0 c0_1 (by first | (simp; done) | (simp; omega))).trans c0_0
    have d0_0l := keep_lt kk0 c0_1
    have d0_1 : getCells hh0 1 0 = some [] := (keep_get kk0 c0_3 (by first | (simp; done) | (simp; omega))).trans c0_2
    have d0_1l := keep_lt kk0 c0_3
    have d0_2 : getCells hh0 2 1 = some [.hsl 1 0 0 1 false 0] := (keep_get kk0 c0_5 (by first | (simp; done) | (simp; omega))).trans c0_4
    have d0_2l := keep_lt kk0 c0_5
    have d0_3 : getCells hh0 3 0 = some [] := (keep_get kk0 c0_7 (by first | (simp; done) | (simp; omega))).trans c0_6
    have d0_3l := keep_lt kk0 c0_7
    have d0_4 : getCells hh0 4 1 = some [.hsl 3 0 0 1 false 0] := (keep_get kk0 c0_9 (by first | (simp; done) | (simp; omega))).trans c0_8
    have d0_4l := keep_lt kk0 c0_9
    have d0_5 := wnb0_0
    have hp := Option.some.inj hp
    subst hp
    simp (disch := first | omega | (simp only [List.length_set, List.length_append, List.length_cons, List.length_nil, rows_len, zs]; first | done | omega)) only [hv0, d0_0, d0_1, d0_2, d0_3, d0_4, d0_5, gs, reduceIte, reduceCtorEq, Nat.reduceAdd, Nat.reduceMul, Nat.reduceSub, Nat.reduceBEq, Nat.reduceEqDiff, Nat.reduceLeDiff, Nat.reduceLT, Nat.reduceGT, Int.reduceToNat, Int.reduceLT, Int.reduceLE, Int.reduceNeg, Int.reduceAdd, Int.reduceEq, Int.reduceNe]
    refine ⟨nb0_0, ?_⟩
    simp (disch := first | omega | (simp only [List.length_set, List.length_append, List.length_cons, List.length_nil, rows_len, zs]; first | done | omega)) only [hv0, d0_0, d0_1, d0_2, d0_3, d0_4, d0_5, o_laws_toVector, gs, reduceIte, reduceCtorEq, Nat.reduceAdd, Nat.reduceMul, Nat.reduceSub, Nat.reduceBEq, Nat.reduceEqDiff, Nat.reduceLeDiff, Nat.reduceLT, Nat.reduceGT, Int.reduceToNat, Int.reduceLT, Int.reduceLE, Int.reduceNeg, Int.reduceAdd, Int.reduceEq, Int.reduceNe] <;> omega
theorem ko_laws_toVector {P : Program} {env : Env} {f_laws_toIntS : Nat}  (e_laws_toIntS : k_laws_toIntS (env (2 * f_laws_toIntS + 1))) : k_laws_toVector (ownFn P env (c_laws_toVector f_laws_toIntS)) := by
  intro x0 b hp h args has
  obtain ⟨⟨v, H2⟩, hr, n0, rfl, wn0⟩ := w_laws_toVector e_laws_toIntS x0 hp
  exact ⟨_, own_call has hr rfl, keep_moved, n0 + h.length, rfl, (moved_lt wn0).2, (moved_lt wn0).1, moved_rows wn0⟩

noncomputable def p_laws_toStamp (x0 : TStamp) : Option TStamp :=
  some x0
def c_laws_toStamp : AFn := ⟨11, (.seq (.ops [⟨(.some 1), (.box (.tmp 0)), .none, []⟩, ⟨(.some 2), (.allocV [(0, false), (0, false)] [(.int .i64 0), (.int .i64 0)]), .none, []⟩]) (.seq (.ops [⟨(.some 3), (.allocV [(0, false), (0, false)] [(.int .i64 0), (.int .i64 0)]), .none, []⟩]) (.seq (.ops [⟨(.some 4), (.fieldA 0 (.tmp 1)), .none, []⟩, ⟨(.some 5), (.load 1 false (.tmp 4)), .none, []⟩, ⟨(.some 6), (.fieldA 0 (.tmp 3)), .none, []⟩, ⟨.none, (.storeV [(0, false)] 1 (.tmp 6) (.tmp 5)), .none, []⟩]) (.seq (.ops [⟨(.some 7), (.fieldA 1 (.tmp 1)), .none, []⟩, ⟨(.some 8), (.load 1 false (.tmp 7)), .none, []⟩, ⟨(.some 9), (.fieldA 1 (.tmp 3)), .none, []⟩, ⟨.none, (.storeV [(0, false)] 1 (.tmp 9) (.tmp 8)), .none, []⟩]) (.seq (.ops [⟨(.some 10), (.load 2 true (.tmp 3)), .none, []⟩, ⟨.none, (.storeV [(0, false), (0, false)] 2 (.tmp 2) (.tmp 10)), .none, []⟩]) .ret))))), [(.cell 2 2 true)]⟩
set_option maxHeartbeats 10000000 in
theorem d_laws_toStamp {P : Program} {env : Env}  (x0 : TStamp) {b : TStamp} (hp : p_laws_toStamp x0 = some b) : R P env (c_laws_toStamp) ((encA (x0)).map ofI) [] (Tells true b) := by
  refine R_of (by simp [c_laws_toStamp, encA]) ?_
  unfold c_laws_toStamp
  unfold p_laws_toStamp at hp
  have hp := Option.some.inj hp
  subst hp
  simp (disch := first | omega | (simp only [List.length_set, List.length_append, List.length_cons, List.length_nil, rows_len, zs]; first | done | omega)) only [gs, reduceIte, reduceCtorEq, Nat.reduceAdd, Nat.reduceMul, Nat.reduceSub, Nat.reduceBEq, Nat.reduceEqDiff, Nat.reduceLeDiff, Nat.reduceLT, Nat.reduceGT, Int.reduceToNat, Int.reduceLT, Int.reduceLE, Int.reduceNeg, Int.reduceAdd, Int.reduceEq, Int.reduceNe]

noncomputable def p_laws_toEntry (x0 : TEntry) : Option TEntry :=
  (p_laws_toStamp x0.stamp).bind fun v0 =>
  some (TEntry.mk v0 x0.text)
def c_laws_toEntry (f_laws_toStamp : Nat) : AFn := ⟨12, (.seq (.ops [⟨(.some 1), (.box (.tmp 0)), .none, []⟩, ⟨(.some 2), (.allocV [(0, false), (0, false), (0, false)] [(.int .i64 0), (.int .i64 0), (.string ⟨#[]⟩)]), .none, []⟩]) (.seq (.ops [⟨(.some 3), (.allocV [(0, false), (0, false), (0, false)] [(.int .i64 0), (.int .i64 0), (.string ⟨#[]⟩)]), .none, []⟩]) (.seq (.ops [⟨(.some 4), (.fieldA 0 (.tmp 1)), .none, []⟩, ⟨(.some 5), (.load 2 true (.tmp 4)), .none, []⟩, ⟨(.some 6), (.call (2 * f_laws_toStamp) [(.tmp 5)]), .none, []⟩, ⟨(.some 7), (.fieldA 0 (.tmp 3)), .none, []⟩, ⟨.none, (.storeV [(0, false), (0, false)] 2 (.tmp 7) (.tmp 6)), .none, []⟩]) (.seq (.ops [⟨(.some 8), (.fieldA 2 (.tmp 1)), .none, []⟩, ⟨(.some 9), (.load 1 false (.tmp 8)), .none, []⟩, ⟨(.some 10), (.fieldA 2 (.tmp 3)), .none, []⟩, ⟨.none, (.storeV [(0, false)] 1 (.tmp 10) (.tmp 9)), .none, []⟩]) (.seq (.ops [⟨(.some 11), (.load 3 true (.tmp 3)), .none, []⟩, ⟨.none, (.storeV [(0, false), (0, false), (0, false)] 3 (.tmp 2) (.tmp 11)), .none, []⟩]) .ret))))), [(.cell 2 3 true)]⟩
set_option maxHeartbeats 10000000 in
theorem d_laws_toEntry {P : Program} {env : Env} {f_laws_toStamp : Nat}  (ep_laws_toStamp : env (2 * f_laws_toStamp) = pureFn true (FA fun a : TStamp => p_laws_toStamp a)) (x0 : TEntry) {b : TEntry} (hp : p_laws_toEntry x0 = some b) : R P env (c_laws_toEntry f_laws_toStamp) ((encA (x0)).map ofI) [] (Tells true b) := by
  refine R_of (by simp [c_laws_toEntry, encA]) ?_
  unfold c_laws_toEntry
  unfold p_laws_toEntry at hp
  obtain ⟨v0, hv0, hp⟩ := bind_eq hp
  have hp := Option.some.inj hp
  subst hp
  simp (disch := first | omega | (simp only [List.length_set, List.length_append, List.length_cons, List.length_nil, rows_len, zs]; first | done | omega)) only [ep_laws_toStamp, hv0, gs, reduceIte, reduceCtorEq, Nat.reduceAdd, Nat.reduceMul, Nat.reduceSub, Nat.reduceBEq, Nat.reduceEqDiff, Nat.reduceLeDiff, Nat.reduceLT, Nat.reduceGT, Int.reduceToNat, Int.reduceLT, Int.reduceLE, Int.reduceNeg, Int.reduceAdd, Int.reduceEq, Int.reduceNe]

noncomputable def p_laws_toEntryS_l0 (x0 : List TEntry) : List TEntry × Int → Option (Lp (List TEntry × Int) (List TEntry))
  | (s1, s2) =>
    if (decide (s2 < (x0.length : Int))) = true then
      (get? x0 s2).bind fun v4 =>
      (p_laws_toEntry v4).bind fun v5 =>
      (get? s1 s2).bind fun v6 =>
      some (.go ((s1.set s2.toNat v5), w64 (s2 + 1)))
    else
      some (.out (s1, s2))
noncomputable def p_laws_toEntryS (x0 : List TEntry) : Option (List TEntry) :=
  ((mkL (x0.length : Int) 32 (x0.length : Int) (TEntry.mk (TStamp.mk 0 0) (ByteArray.mk #[])) : Option (List TEntry))).bind fun v0 =>
  (loopP (p_laws_toEntryS_l0 x0) (v0, 0)).bind fun ee0 => match ee0 with
  | .ret r => some r
  | .out (o8, o9) =>
    some o8
def c_laws_toEntryS (f_laws_toEntry : Nat) : AFn := ⟨23, (.seq (.ops [⟨(.some 2), (.vnil 3 true), .none, []⟩]) (.seq (.ops [⟨(.some 5), (.mv (.tmp 0)), .none, []⟩, ⟨(.some 6), (.len (.tmp 5)), .none, []⟩, ⟨(.some 7), (.makeSl 3 true 32 [(.int .i64 0), (.int .i64 0), (.string ⟨#[]⟩)] (.tmp 6) (.tmp 6)), .none, []⟩, ⟨(.some 3), (.mv (.tmp 7)), .none, []⟩]) (.seq (.seq (.ops [⟨(.some 4), (.mv (.const (.int .i64 0))), .none, []⟩]) (.block 0 (.loop (.seq (.seq (.ops [⟨(.some 8), (.mv (.tmp 4)), .none, []⟩, ⟨(.some 9), (.mv (.tmp 0)), .none, []⟩, ⟨(.some 10), (.len (.tmp 9)), .none, []⟩, ⟨(.some 11), (.pu (.n (.ar .lss)) [(.tmp 8), (.tmp 10)]), .none, []⟩]) (.cond (.tmp 11) .skip (.exit 0))) (.seq (.block 1 (.ops [⟨(.some 14), (.mv (.tmp 3)), .none, []⟩, ⟨(.some 15), (.mv (.tmp 4)), .none, []⟩, ⟨(.some 16), (.mv (.tmp 0)), .none, []⟩, ⟨(.some 17), (.mv (.tmp 4)), .none, []⟩, ⟨(.some 18), (.idxS 3 (.tmp 16) (.tmp 17)), .none, []⟩, ⟨(.some 19), (.load 3 true (.tmp 18)), .none, []⟩, ⟨(.some 20), (.call (2 * f_laws_toEntry) [(.tmp 19)]), .none, []⟩, ⟨(.some 21), (.idxS 3 (.tmp 14) (.tmp 15)), .none, []⟩, ⟨.none, (.storeV [(0, false), (0, false), (0, false)] 3 (.tmp 21) (.tmp 20)), .none, []⟩])) (.ops [⟨(.some 12), (.mv (.tmp 4)), .none, []⟩, ⟨(.some 13), (.pu (.n (.ar .add)) [(.tmp 12), (.const (.int .i64 1))]), .none, []⟩, ⟨(.some 4), (.mv (.tmp 13)), .none, []⟩])))))) (.seq (.ops [⟨(.some 22), (.mv (.tmp 3)), .none, []⟩, ⟨(.some 2), (.mv (.tmp 22)), .none, []⟩]) .ret)))), [(.tmp 2)]⟩
def o_laws_toEntryS (b : List TEntry) (v : V) (h : Heap) : Prop := ∃ n0 : Nat, v = .hsl n0 (b.length * 3) 0 3 true b.length ∧ getCells h n0 (b.length * 3) = some (rows b)
def oo_laws_toEntryS (b : List TEntry) (h : Heap) (v : V) (h2 : Heap) : Prop := Keep [] h h2 ∧ ∃ n0 : Nat, v = .hsl n0 (b.length * 3) 0 3 true b.length ∧ n0 < h2.length ∧ h.length ≤ n0 ∧ getCells h2 n0 (b.length * 3) = some (rows b)
def k_laws_toEntryS (F : Fun) : Prop := ∀ (x0 : List TEntry) (b : List TEntry), p_laws_toEntryS x0 = some b → ∀ (h : Heap) (args : List V), snapA 9 false h args = some (encA (x0)) → ∃ p, F none args h = some p ∧ oo_laws_toEntryS b h p.1 p.2
set_option maxHeartbeats 10000000 in
theorem w_laws_toEntryS {P : Program} {env : Env} {f_laws_toEntry : Nat}  (ep_laws_toEntry : env (2 * f_laws_toEntry) = pureFn true (FA fun a : TEntry => p_laws_toEntry a)) (x0 : List TEntry) {b : List TEntry} (hp : p_laws_toEntryS x0 = some b) : R P env (c_laws_toEntryS f_laws_toEntry) ((encA (x0)).map ofI) [] (o_laws_toEntryS b) := by
  refine R_of (by simp [c_laws_toEntryS, encA]) ?_
  unfold c_laws_toEntryS
  unfold p_laws_toEntryS at hp
  obtain ⟨v0, hv0, hp⟩ := bind_eq hp
  obtain ⟨kv0, qv0, lv0⟩ := mkL_some hv0
  have rv0 : (List.replicate x0.length [.i (.s (.int .i64 0)), .i (.s (.int .i64 0)), .i (.s (.string (ByteArray.mk #[])))]).flatten = rows v0 := by rw [qv0]; exact rows_rep (x := ((TEntry.mk (TStamp.mk 0 0) (ByteArray.mk #[])) : TEntry)) rfl
  have mv0 : x0.length = v0.length := by rw [lv0]; simp
  obtain ⟨ee0, hee0, hp⟩ := bind_eq hp
  simp (disch := first | omega | (simp only [List.length_set, List.length_append, List.length_cons, List.length_nil, rows_len, zs]; first | done | omega)) only [ep_laws_toEntry, hv0, rv0, kv0.1, kv0.2.1, kv0.2.2.1, kv0.2.2.2, gs, reduceIte, reduceCtorEq, Nat.reduceAdd, Nat.reduceMul, Nat.reduceSub, Nat.reduceBEq, Nat.reduceEqDiff, Nat.reduceLeDiff, Nat.reduceLT, Nat.reduceGT, Int.reduceToNat, Int.reduceLT, Int.reduceLE, Int.reduceNeg, Int.reduceAdd, Int.reduceEq, Int.reduceNe]
  refine W_loopP 0 (fun s t h => match s with | (s1, s2) => t 0 = .i (.sl 3 (x0.map enc)) ∧ t 3 = .hsl 1 (x0.length * 3) 0 3 true x0.length ∧ t 4 = .i (.s (.int .i64 s2)) ∧ getCells h 1 (x0.length * 3) = some (rows (s1 : List TEntry)) ∧ 1 < h.length) (RK [.tmp 2] (o_laws_toEntryS)) ?_ hee0 ?_ ?_
  · rintro ⟨s1, s2⟩ ee tt0 hh0 ⟨ftt0_0, ftt0_1, ftt0_2, ftt0_3, ftt0_4⟩ hp
    have ztt0_3 := len_rows ftt0_3
    simp only [zs] at ztt0_3
    rw [p_laws_toEntryS_l0] at hp
    by_cases hb3 : (decide (s2 < (x0.length : Int))) = true
    · rw [if_t hb3] at hp
      obtain ⟨v4, hv4, hp⟩ := bind_eq hp
      obtain ⟨v5, hv5, hp⟩ := bind_eq hp
      obtain ⟨v6, hv6, hp⟩ := bind_eq hp
      have gv6 := get_some hv6
      have hs7 : List.take (s2.toNat * 3) (rows s1) ++ .i (.s (.int .i64 v5.stamp.time)) :: .i (.s (.int .i64 v5.stamp.actor)) :: .i (.s (.string v5.text)) :: List.drop (s2.toNat * 3 + 3) (rows s1) = rows (s1.set s2.toNat v5) := by simpa [splice, zs, cellsV, I.cells, enc_TEntry] using rows_set_off (y := v5) (ys := [.i (.s (.int .i64 v5.stamp.time)), .i (.s (.int .i64 v5.stamp.actor)), .i (.s (.string v5.text))]) (k := 0) gv6.2.2 (Nat.le_of_ble_eq_true rfl) (by rfl)
      have hp := Option.some.inj hp
      subst hp
      simp (disch := first | omega | (simp only [List.length_set, List.length_append, List.length_cons, List.length_nil, rows_len, zs]; first | done | omega)) only [ep_laws_toEntry, hv0, rv0, kv0.1, kv0.2.1, kv0.2.2.1, kv0.2.2.2, ftt0_0, ftt0_1, ftt0_2, ftt0_3, ftt0_4, hb3, hv4, hv5, hv6, (gv6).1, (gv6).2.1, hs7, gs, reduceIte, reduceCtorEq, Nat.reduceAdd, Nat.reduceMul, Nat.reduceSub, Nat.reduceBEq, Nat.reduceEqDiff, Nat.reduceLeDiff, Nat.reduceLT, Nat.reduceGT, Int.reduceToNat, Int.reduceLT, Int.reduceLE, Int.reduceNeg, Int.reduceAdd, Int.reduceEq, Int.reduceNe] <;> omega
    · replace hb3 := eq_false_of_ne_true hb3
      rw [if_f hb3] at hp
      have hp := Option.some.inj hp
      subst hp
      simp (disch := first | omega | (simp only [List.length_set, List.length_append, List.length_cons, List.length_nil, rows_len, zs]; first | done | omega)) only [ep_laws_toEntry, hv0, rv0, kv0.1, kv0.2.1, kv0.2.2.1, kv0.2.2.2, ftt0_0, ftt0_1, ftt0_2, ftt0_3, ftt0_4, hb3, gs, reduceIte, reduceCtorEq, Nat.reduceAdd, Nat.reduceMul, Nat.reduceSub, Nat.reduceBEq, Nat.reduceEqDiff, Nat.reduceLeDiff, Nat.reduceLT, Nat.reduceGT, Int.reduceToNat, Int.reduceLT, Int.reduceLE, Int.reduceNeg, Int.reduceAdd, Int.reduceEq, Int.reduceNe] <;> omega
  · simp (disch := first | omega | (simp only [List.length_set, List.length_append, List.length_cons, List.length_nil, rows_len, zs]; first | done | omega)) only [ep_laws_toEntry, hv0, rv0, kv0.1, kv0.2.1, kv0.2.2.1, kv0.2.2.2, gs, reduceIte, reduceCtorEq, Nat.reduceAdd, Nat.reduceMul, Nat.reduceSub, Nat.reduceBEq, Nat.reduceEqDiff, Nat.reduceLeDiff, Nat.reduceLT, Nat.reduceGT, Int.reduceToNat, Int.reduceLT, Int.reduceLE, Int.reduceNeg, Int.reduceAdd, Int.reduceEq, Int.reduceNe] <;> omega
  · intro x tt1 hh1 hx
    rcases ee0 with ⟨o8, o9⟩ | r
    · obtain ⟨rfl, ftt1_0, ftt1_1, ftt1_2, ftt1_3, ftt1_4⟩ := hx
      have ztt1_3 := len_rows ftt1_3
      simp only [zs] at ztt1_3
      dsimp only at hp
      have hp := Option.some.inj hp
      subst hp
      simp (disch := first | omega | (simp only [List.length_set, List.length_append, List.length_cons, List.length_nil, rows_len, zs]; first | done | omega)) only [ep_laws_toEntry, hv0, rv0, kv0.1, kv0.2.1, kv0.2.2.1, kv0.2.2.2, ftt1_0, ftt1_1, ftt1_2, ftt1_3, ftt1_4, gs, reduceIte, reduceCtorEq, Nat.reduceAdd, Nat.reduceMul, Nat.reduceSub, Nat.reduceBEq, Nat.reduceEqDiff, Nat.reduceLeDiff, Nat.reduceLT, Nat.reduceGT, Int.reduceToNat, Int.reduceLT, Int.reduceLE, Int.reduceNeg, Int.reduceAdd, Int.reduceEq, Int.reduceNe]
      refine ⟨1, ?_⟩
      simp (disch := first | omega | (simp only [List.length_set, List.length_append, List.length_cons, List.length_nil, rows_len, zs]; first | done | omega)) only [ep_laws_toEntry, hv0, rv0, kv0.1, kv0.2.1, kv0.2.2.1, kv0.2.2.2, ftt1_0, ftt1_1, ftt1_2, ftt1_3, ftt1_4, o_laws_toEntryS, (show (o8).length = x0.length from by omega), gs, reduceIte, reduceCtorEq, Nat.reduceAdd, Nat.reduceMul, Nat.reduceSub, Nat.reduceBEq, Nat.reduceEqDiff, Nat.reduceLeDiff, Nat.reduceLT, Nat.reduceGT, Int.reduceToNat, Int.reduceLT, Int.reduceLE, Int.reduceNeg, Int.reduceAdd, Int.reduceEq, Int.reduceNe] <;> omega
    · obtain ⟨rfl, hx⟩ := hx
      dsimp only at hp
      cases hp
      simp only [seqK_ret, blockK_ret, retK_RK (K := o_laws_toEntryS), hx, and_self, true_and]
theorem ko_laws_toEntryS {P : Program} {env : Env} {f_laws_toEntry : Nat}  (ep_laws_toEntry : env (2 * f_laws_toEntry) = pureFn true (FA fun a : TEntry => p_laws_toEntry a)) : k_laws_toEntryS (ownFn P env (c_laws_toEntryS f_laws_toEntry)) := by
  intro x0 b hp h args has
  obtain ⟨⟨v, H2⟩, hr, n0, rfl, wn0⟩ := w_laws_toEntryS ep_laws_toEntry x0 hp
  exact ⟨_, own_call has hr rfl, keep_moved, n0 + h.length, rfl, (moved_lt wn0).2, (moved_lt wn0).1, moved_rows wn0⟩

noncomputable def p_laws_toSet (x0 : TMulti) : Option TMulti :=
  (p_laws_toVector x0.seen).bind fun v0 =>
  (p_laws_toEntryS x0.entries).bind fun v1 =>
  some (TMulti.mk v0 v1)
def c_laws_toSet (f_laws_toVector : Nat) (f_laws_toEntryS : Nat) : AFn := ⟨13, (.seq (.ops [⟨(.some 1), (.box (.tmp 0)), .none, []⟩, ⟨(.some 2), (.allocV [(1, false), (3, true)] [(.slice .none 0 0), (.slice .none 0 0)]), .none, []⟩]) (.seq (.ops [⟨(.some 3), (.allocV [(1, false), (3, true)] [(.slice .none 0 0), (.slice .none 0 0)]), .none, []⟩]) (.seq (.ops [⟨(.some 4), (.fieldA 0 (.tmp 1)), .none, []⟩, ⟨(.some 5), (.load 1 true (.tmp 4)), .none, []⟩, ⟨(.some 6), (.call (2 * f_laws_toVector + 1) [(.tmp 5)]), .none, []⟩, ⟨(.some 7), (.fieldA 0 (.tmp 3)), .none, []⟩, ⟨.none, (.storeV [(1, false)] 1 (.tmp 7) (.tmp 6)), .none, []⟩]) (.seq (.ops [⟨(.some 8), (.fieldA 1 (.tmp 1)), .none, []⟩, ⟨(.some 9), (.load 1 false (.tmp 8)), .none, []⟩, ⟨(.some 10), (.call (2 * f_laws_toEntryS + 1) [(.tmp 9)]), .none, []⟩, ⟨(.some 11), (.fieldA 1 (.tmp 3)), .none, []⟩, ⟨.none, (.storeV [(3, true)] 1 (.tmp 11) (.tmp 10)), .none, []⟩]) (.seq (.ops [⟨(.some 12), (.load 2 true (.tmp 3)), .none, []⟩, ⟨.none, (.storeV [(1, false), (3, true)] 2 (.tmp 2) (.tmp 12)), .none, []⟩]) .ret))))), [(.cell 2 2 true)]⟩
set_option maxHeartbeats 10000000 in
theorem d_laws_toSet {P : Program} {env : Env} {f_laws_toVector : Nat} {f_laws_toEntryS : Nat}  (e_laws_toVector : k_laws_toVector (env (2 * f_laws_toVector + 1))) (e_laws_toEntryS : k_laws_toEntryS (env (2 * f_laws_toEntryS + 1))) (x0 : TMulti) {b : TMulti} (hp : p_laws_toSet x0 = some b) : R P env (c_laws_toSet f_laws_toVector f_laws_toEntryS) ((encA (x0)).map ofI) [] (Tells true b) := by
  refine R_of (by simp [c_laws_toSet, encA]) ?_
  unfold c_laws_toSet
  unfold p_laws_toSet at hp
  obtain ⟨v0, hv0, hp⟩ := bind_eq hp
  simp (disch := first | omega | (simp only [List.length_set, List.length_append, List.length_cons, List.length_nil, rows_len, zs]; first | done | omega)) only [gs, reduceIte, reduceCtorEq, Nat.reduceAdd, Nat.reduceMul, Nat.reduceSub, Nat.reduceBEq, Nat.reduceEqDiff, Nat.reduceLeDiff, Nat.reduceLT, Nat.reduceGT, Int.reduceToNat, Int.reduceLT, Int.reduceLE, Int.reduceNeg, Int.reduceAdd, Int.reduceEq, Int.reduceNe]
  refine call_f (fun h => getCells h 0 2 = some [.i (.sl 1 (x0.seen.counts.map enc)), .i (.sl 3 (x0.entries.map enc))] ∧ 0 < h.length ∧ getCells h 1 0 = some [] ∧ 1 < h.length ∧ getCells h 2 0 = some [] ∧ 2 < h.length ∧ getCells h 3 2 = some [.hsl 1 0 0 1 false 0, .hsl 2 0 0 3 true 0] ∧ 3 < h.length ∧ getCells h 4 0 = some [] ∧ 4 < h.length ∧ getCells h 5 0 = some [] ∧ 5 < h.length ∧ getCells h 6 2 = some [.hsl 4 0 0 1 false 0, .hsl 5 0 0 3 true 0] ∧ 6 < h.length) (fun h v h2 => oo_laws_toVector v0 h v h2) ?_ ?_ ?_
  · simp (disch := first | omega | (simp only [List.length_set, List.length_append, List.length_cons, List.length_nil, rows_len, zs]; first | done | omega)) only [hv0, gs, reduceIte, reduceCtorEq, Nat.reduceAdd, Nat.reduceMul, Nat.reduceSub, Nat.reduceBEq, Nat.reduceEqDiff, Nat.reduceLeDiff, Nat.reduceLT, Nat.reduceGT, Int.reduceToNat, Int.reduceLT, Int.reduceLE, Int.reduceNeg, Int.reduceAdd, Int.reduceEq, Int.reduceNe] <;> omega
  · rintro h ⟨c0_0, c0_1, c0_2, c0_3, c0_4, c0_5, c0_6, c0_7, c0_8, c0_9, c0_10, c0_11, c0_12, c0_13⟩
    exact e_laws_toVector _ _ hv0 h _ (by simp (disch := first | omega | (simp only [List.length_set, List.length_append, List.length_cons, List.length_nil, rows_len, zs]; first | done | omega)) only [hv0, c0_0, c0_1, c0_2, c0_3, c0_4, c0_5, c0_6, c0_7, c0_8, c0_9, c0_10, c0_11, c0_12, c0_13, gs, reduceIte, reduceCtorEq, Nat.reduceAdd, Nat.reduceMul, Nat.reduceSub, Nat.reduceBEq, Nat.reduceEqDiff, Nat.reduceLeDiff, Nat.reduceLT, Nat.reduceGT, Int.reduceToNat, Int.reduceLT, Int.reduceLE, Int.reduceNeg, Int.reduceAdd, Int.reduceEq, Int.reduceNe])
  · rintro h v hh0 ⟨c0_0, c0_1, c0_2, c0_3, c0_4, c0_5, c0_6, c0_7, c0_8, c0_9, c0_10, c0_11, c0_12, c0_13⟩ hpost
    obtain ⟨kk0, nb0_0, rfl, lnb0_0, gnb0_0, wnb0_0⟩ := hpost
    have d0_0 : getCells hh0 0 2 = some [.i (.sl 1 (x0.seen.counts.map enc)), .i (.sl 3 (x0.entries.map enc))] := (keep_get kk0 c0_1 (by first | (simp; done) | (simp; omega))).trans c0_0
    have d0_0l := keep_lt kk0 c0_1
    have d0_1 : getCells hh0 1 0 = some [] := (keep_get kk0 c0_3 (by first | (simp; done) | (simp; omega))).trans c0_2
    have d0_1l := keep_lt kk0 c0_3
    have d0_2 : getCells hh0 2 0 = some [] := (keep_get kk0 c0_5 (by first | (simp; done) | (simp; omega))).trans c0_4
    have d0_2l := keep_lt kk0 c0_5
    have d0_3 : getCells hh0 3 2 = some [.hsl 1 0 0 1 false 0, .hsl 2 0 0 3 true 0] := (keep_get kk0 c0_7 (by first | (simp; done) | (simp; omega))).trans c0_6
    have d0_3l := keep_lt kk0 c0_7
    have d0_4 : getCells hh0 4 0 = some [] := (keep_get kk0 c0_9 (by first | (simp; done) | (simp; omega))).trans c0_8
    have d0_4l := keep_lt kk0 c0_9
    have d0_5 : getCells hh0 5 0 = some [] := (keep_get kk0 c0_11 (by first | (simp; done) | (simp; omega))).trans c0_10
    have d0_5l := keep_lt kk0 c0_11
    have d0_6 : getCells hh0 6 2 = some [.hsl 4 0 0 1 false 0, .hsl 5 0 0 3 true 0] := (keep_get kk0 c0_13 (by first | (simp; done) | (simp; omega))).trans c0_12
    have d0_6l := keep_lt kk0 c0_13
    have d0_7 := wnb0_0
    obtain ⟨v1, hv1, hp⟩ := bind_eq hp
    simp (disch := first | omega | (simp only [List.length_set, List.length_append, List.length_cons, List.length_nil, rows_len, zs]; first | done | omega)) only [hv0, d0_0, d0_1, d0_2, d0_3, d0_4, d0_5, d0_6, d0_7, gs, reduceIte, reduceCtorEq, Nat.reduceAdd, Nat.reduceMul, Nat.reduceSub, Nat.reduceBEq, Nat.reduceEqDiff, Nat.reduceLeDiff, Nat.reduceLT, Nat.reduceGT, Int.reduceToNat, Int.reduceLT, Int.reduceLE, Int.reduceNeg, Int.reduceAdd, Int.reduceEq, Int.reduceNe]
    refine call_f (fun h => getCells h 0 2 = some [.i (.sl 1 (x0.seen.counts.map enc)), .i (.sl 3 (x0.entries.map enc))] ∧ 0 < h.length ∧ getCells h 1 0 = some [] ∧ 1 < h.length ∧ getCells h 2 0 = some [] ∧ 2 < h.length ∧ getCells h 3 2 = some [.hsl 1 0 0 1 false 0, .hsl 2 0 0 3 true 0] ∧ 3 < h.length ∧ getCells h 4 0 = some [] ∧ 4 < h.length ∧ getCells h 5 0 = some [] ∧ 5 < h.length ∧ getCells h 6 2 = some [.hsl nb0_0 v0.counts.length 0 1 false v0.counts.length, .hsl 5 0 0 3 true 0] ∧ 6 < h.length ∧ getCells h nb0_0 v0.counts.length = some (rows (v0.counts : List Int)) ∧ nb0_0 < h.length) (fun h v h2 => oo_laws_toEntryS v1 h v h2) ?_ ?_ ?_
    · simp (disch := first | omega | (simp only [List.length_set, List.length_append, List.length_cons, List.length_nil, rows_len, zs]; first | done | omega)) only [hv0, d0_0, d0_1, d0_2, d0_3, d0_4, d0_5, d0_6, d0_7, hv1, gs, reduceIte, reduceCtorEq, Nat.reduceAdd, Nat.reduceMul, Nat.reduceSub, Nat.reduceBEq, Nat.reduceEqDiff, Nat.reduceLeDiff, Nat.reduceLT, Nat.reduceGT, Int.reduceToNat, Int.reduceLT, Int.reduceLE, Int.reduceNeg, Int.reduceAdd, Int.reduceEq, Int.reduceNe] <;> omega
    · rintro h ⟨c1_0, c1_1, c1_2, c1_3, c1_4, c1_5, c1_6, c1_7, c1_8, c1_9, c1_10, c1_11, c1_12, c1_13, c1_14, c1_15⟩
      exact e_laws_toEntryS _ _ hv1 h _ (by simp (disch := first | omega | (simp only [List.length_set, List.length_append, List.length_cons, List.length_nil, rows_len, zs]; first | done | omega)) only [hv0, d0_0, d0_1, d0_2, d0_3, d0_4, d0_5, d0_6, d0_7, hv1, c1_0, c1_1, c1_2, c1_3, c1_4, c1_5, c1_6, c1_7, c1_8, c1_9, c1_10, c1_11, c1_12, c1_13, c1_14, c1_15, gs, reduceIte, reduceCtorEq, Nat.reduceAdd, Nat.reduceMul, Nat.reduceSub, Nat.reduceBEq, Nat.reduceEqDiff, Nat.reduceLeDiff, Nat.reduceLT, Nat.reduceGT, Int.reduceToNat, Int.reduceLT, Int.reduceLE, Int.reduceNeg, Int.reduceAdd, Int.reduceEq, Int.reduceNe])
    · rintro h v hh1 ⟨c1_0, c1_1, c1_2, c1_3, c1_4, c1_5, c1_6, c1_7, c1_8, c1_9, c1_10, c1_11, c1_12, c1_13, c1_14, c1_15⟩ hpost
      obtain ⟨kk1, nb1_0, rfl, lnb1_0, gnb1_0, wnb1_0⟩ := hpost
      have d1_0 : getCells hh1 0 2 = some [.i (.sl 1 (x0.seen.counts.map enc)), .i (.sl 3 (x0.entries.map enc))] := (keep_get kk1 c1_1 (by first | (simp; done) | (simp; omega))).trans c1_0
      have d1_0l := keep_lt kk1 c1_1
      have d1_1 : getCells hh1 1 0 = some [] := (keep_get kk1 c1_3 (by first | (simp; done) | (simp; omega))).trans c1_2
      have d1_1l := keep_lt kk1 c1_3
      have d1_2 : getCells hh1 2 0 = some [] := (keep_get kk1 c1_5 (by first | (simp; done) | (simp; omega))).trans c1_4
      have d1_2l := keep_lt kk1 c1_5
      have d1_3 : getCells hh1 3 2 = some [.hsl 1 0 0 1 false 0, .hsl 2 0 0 3 true 0] := (keep_get kk1 c1_7 (by first | (simp; done) | (simp; omega))).trans c1_6
      have d1_3l := keep_lt kk1 c1_7
      have d1_4 : getCells hh1 4 0 = some [] := (keep_get kk1 c1_9 (by first | (simp; done) | (simp; omega))).trans c1_8
      have d1_4l := keep_lt kk1 c1_9
      have d1_5 : getCells hh1 5 0 = some [] := (keep_get kk1 c1_11 (by first | (simp; done) | (simp; omega))).trans c1_10
      have d1_5l := keep_lt kk1 c1_11
      have d1_6 : getCells hh1 6 2 = some [.hsl nb0_0 v0.counts.length 0 1 false v0.counts.length, .hsl 5 0 0 3 true 0] := (keep_get kk1 c1_13 (by first | (simp; done) | (simp; omega))).trans c1_12
      have d1_6l := keep_lt kk1 c1_13
      have d1_7 : getCells hh1 nb0_0 v0.counts.length = some (rows (v0.counts : List Int)) := (keep_get kk1 c1_15 (by first | (simp; done) | (simp; omega))).trans c1_14
      have d1_7l := keep_lt kk1 c1_15
      have d1_8 := wnb1_0
      have hp := Option.some.inj hp
      subst hp
      simp (disch := first | omega | (simp only [List.length_set, List.length_append, List.length_cons, List.length_nil, rows_len, zs]; first | done | omega)) only [hv0, d0_0, d0_1, d0_2, d0_3, d0_4, d0_5, d0_6, d0_7, hv1, d1_0, d1_1, d1_2, d1_3, d1_4, d1_5, d1_6, d1_7, d1_8, gs, reduceIte, reduceCtorEq, Nat.reduceAdd, Nat.reduceMul, Nat.reduceSub, Nat.reduceBEq, Nat.reduceEqDiff, Nat.reduceLeDiff, Nat.reduceLT, Nat.reduceGT, Int.reduceToNat, Int.reduceLT, Int.reduceLE, Int.reduceNeg, Int.reduceAdd, Int.reduceEq, Int.reduceNe]

def o_laws_toSet (b : TMulti) (v : V) (h : Heap) : Prop := ∃ n0 n1 : Nat, v = .agg [.hsl n0 b.seen.counts.length 0 1 false b.seen.counts.length, .hsl n1 (b.entries.length * 3) 0 3 true b.entries.length] ∧ getCells h n0 b.seen.counts.length = some (rows b.seen.counts) ∧ getCells h n1 (b.entries.length * 3) = some (rows b.entries) ∧ n1 ≠ n0
def oo_laws_toSet (b : TMulti) (h : Heap) (v : V) (h2 : Heap) : Prop := Keep [] h h2 ∧ ∃ n0 n1 : Nat, v = .agg [.hsl n0 b.seen.counts.length 0 1 false b.seen.counts.length, .hsl n1 (b.entries.length * 3) 0 3 true b.entries.length] ∧ n0 < h2.length ∧ h.length ≤ n0 ∧ getCells h2 n0 b.seen.counts.length = some (rows b.seen.counts) ∧ n1 < h2.length ∧ h.length ≤ n1 ∧ getCells h2 n1 (b.entries.length * 3) = some (rows b.entries) ∧ n1 ≠ n0
def k_laws_toSet (F : Fun) : Prop := ∀ (x0 : TMulti) (b : TMulti), p_laws_toSet x0 = some b → ∀ (h : Heap) (args : List V), snapA 9 false h args = some (encA (x0)) → ∃ p, F none args h = some p ∧ oo_laws_toSet b h p.1 p.2
set_option maxHeartbeats 10000000 in
theorem w_laws_toSet {P : Program} {env : Env} {f_laws_toVector : Nat} {f_laws_toEntryS : Nat}  (e_laws_toVector : k_laws_toVector (env (2 * f_laws_toVector + 1))) (e_laws_toEntryS : k_laws_toEntryS (env (2 * f_laws_toEntryS + 1))) (x0 : TMulti) {b : TMulti} (hp : p_laws_toSet x0 = some b) : R P env (c_laws_toSet f_laws_toVector f_laws_toEntryS) ((encA (x0)).map ofI) [] (o_laws_toSet b) := by
  refine R_of (by simp [c_laws_toSet, encA]) ?_
  unfold c_laws_toSet
  unfold p_laws_toSet at hp
  obtain ⟨v0, hv0, hp⟩ := bind_eq hp
  simp (disch := first | omega | (simp only [List.length_set, List.length_append, List.length_cons, List.length_nil, rows_len, zs]; first | done | omega)) only [gs, reduceIte, reduceCtorEq, Nat.reduceAdd, Nat.reduceMul, Nat.reduceSub, Nat.reduceBEq, Nat.reduceEqDiff, Nat.reduceLeDiff, Nat.reduceLT, Nat.reduceGT, Int.reduceToNat, Int.reduceLT, Int.reduceLE, Int.reduceNeg, Int.reduceAdd, Int.reduceEq, Int.reduceNe]
  refine call_f (fun h => getCells h 0 2 = some [.i (.sl 1 (x0.seen.counts.map enc)), .i (.sl 3 (x0.entries.map enc))] ∧ 0 < h.length ∧ getCells h 1 0 = some [] ∧ 1 < h.length ∧ getCells h 2 0 = some [] ∧ 2 < h.length ∧ getCells h 3 2 = some [.hsl 1 0 0 1 false 0, .hsl 2 0 0 3 true 0] ∧ 3 < h.length ∧ getCells h 4 0 = some [] ∧ 4 < h.length ∧ getCells h 5 0 = some [] ∧ 5 < h.length ∧ getCells h 6 2 = some [.hsl 4 0 0 1 false 0, .hsl 5 0 0 3 true 0] ∧ 6 < h.length) (fun h v h2 => oo_laws_toVector v0 h v h2) ?_ ?_ ?_
  · simp (disch := first | omega | (simp only [List.length_set, List.length_append, List.length_cons, List.length_nil, rows_len, zs]; first | done | omega)) only [hv0, gs, reduceIte, reduceCtorEq, Nat.reduceAdd, Nat.reduceMul, Nat.reduceSub, Nat.reduceBEq, Nat.reduceEqDiff, Nat.reduceLeDiff, Nat.reduceLT, Nat.reduceGT, Int.reduceToNat, Int.reduceLT, Int.reduceLE, Int.reduceNeg, Int.reduceAdd, Int.reduceEq, Int.reduceNe] <;> omega
  · rintro h ⟨c0_0, c0_1, c0_2, c0_3, c0_4, c0_5, c0_6, c0_7, c0_8, c0_9, c0_10, c0_11, c0_12, c0_13⟩
    exact e_laws_toVector _ _ hv0 h _ (by simp (disch := first | omega | (simp only [List.length_set, List.length_append, List.length_cons, List.length_nil, rows_len, zs]; first | done | omega)) only [hv0, c0_0, c0_1, c0_2, c0_3, c0_4, c0_5, c0_6, c0_7, c0_8, c0_9, c0_10, c0_11, c0_12, c0_13, gs, reduceIte, reduceCtorEq, Nat.reduceAdd, Nat.reduceMul, Nat.reduceSub, Nat.reduceBEq, Nat.reduceEqDiff, Nat.reduceLeDiff, Nat.reduceLT, Nat.reduceGT, Int.reduceToNat, Int.reduceLT, Int.reduceLE, Int.reduceNeg, Int.reduceAdd, Int.reduceEq, Int.reduceNe])
  · rintro h v hh0 ⟨c0_0, c0_1, c0_2, c0_3, c0_4, c0_5, c0_6, c0_7, c0_8, c0_9, c0_10, c0_11, c0_12, c0_13⟩ hpost
    obtain ⟨kk0, nb0_0, rfl, lnb0_0, gnb0_0, wnb0_0⟩ := hpost
    have d0_0 : getCells hh0 0 2 = some [.i (.sl 1 (x0.seen.counts.map enc)), .i (.sl 3 (x0.entries.map enc))] := (keep_get kk0 c0_1 (by first | (simp; done) | (simp; omega))).trans c0_0
    have d0_0l := keep_lt kk0 c0_1
    have d0_1 : getCells hh0 1 0 = some [] := (keep_get kk0 c0_3 (by first | (simp; done) | (simp; omega))).trans c0_2
    have d0_1l := keep_lt kk0 c0_3
    have d0_2 : getCells hh0 2 0 = some [] := (keep_get kk0 c0_5 (by first | (simp; done) | (simp; omega))).trans c0_4
    have d0_2l := keep_lt kk0 c0_5
    have d0_3 : getCells hh0 3 2 = some [.hsl 1 0 0 1 false 0, .hsl 2 0 0 3 true 0] := (keep_get kk0 c0_7 (by first | (simp; done) | (simp; omega))).trans c0_6
    have d0_3l := keep_lt kk0 c0_7
    have d0_4 : getCells hh0 4 0 = some [] := (keep_get kk0 c0_9 (by first | (simp; done) | (simp; omega))).trans c0_8
    have d0_4l := keep_lt kk0 c0_9
    have d0_5 : getCells hh0 5 0 = some [] := (keep_get kk0 c0_11 (by first | (simp; done) | (simp; omega))).trans c0_10
    have d0_5l := keep_lt kk0 c0_11
    have d0_6 : getCells hh0 6 2 = some [.hsl 4 0 0 1 false 0, .hsl 5 0 0 3 true 0] := (keep_get kk0 c0_13 (by first | (simp; done) | (simp; omega))).trans c0_12
    have d0_6l := keep_lt kk0 c0_13
    have d0_7 := wnb0_0
    obtain ⟨v1, hv1, hp⟩ := bind_eq hp
    simp (disch := first | omega | (simp only [List.length_set, List.length_append, List.length_cons, List.length_nil, rows_len, zs]; first | done | omega)) only [hv0, d0_0, d0_1, d0_2, d0_3, d0_4, d0_5, d0_6, d0_7, gs, reduceIte, reduceCtorEq, Nat.reduceAdd, Nat.reduceMul, Nat.reduceSub, Nat.reduceBEq, Nat.reduceEqDiff, Nat.reduceLeDiff, Nat.reduceLT, Nat.reduceGT, Int.reduceToNat, Int.reduceLT, Int.reduceLE, Int.reduceNeg, Int.reduceAdd, Int.reduceEq, Int.reduceNe]
    refine call_f (fun h => getCells h 0 2 = some [.i (.sl 1 (x0.seen.counts.map enc)), .i (.sl 3 (x0.entries.map enc))] ∧ 0 < h.length ∧ getCells h 1 0 = some [] ∧ 1 < h.length ∧ getCells h 2 0 = some [] ∧ 2 < h.length ∧ getCells h 3 2 = some [.hsl 1 0 0 1 false 0, .hsl 2 0 0 3 true 0] ∧ 3 < h.length ∧ getCells h 4 0 = some [] ∧ 4 < h.length ∧ getCells h 5 0 = some [] ∧ 5 < h.length ∧ getCells h 6 2 = some [.hsl nb0_0 v0.counts.length 0 1 false v0.counts.length, .hsl 5 0 0 3 true 0] ∧ 6 < h.length ∧ getCells h nb0_0 v0.counts.length = some (rows (v0.counts : List Int)) ∧ nb0_0 < h.length) (fun h v h2 => oo_laws_toEntryS v1 h v h2) ?_ ?_ ?_
    · simp (disch := first | omega | (simp only [List.length_set, List.length_append, List.length_cons, List.length_nil, rows_len, zs]; first | done | omega)) only [hv0, d0_0, d0_1, d0_2, d0_3, d0_4, d0_5, d0_6, d0_7, hv1, gs, reduceIte, reduceCtorEq, Nat.reduceAdd, Nat.reduceMul, Nat.reduceSub, Nat.reduceBEq, Nat.reduceEqDiff, Nat.reduceLeDiff, Nat.reduceLT, Nat.reduceGT, Int.reduceToNat, Int.reduceLT, Int.reduceLE, Int.reduceNeg, Int.reduceAdd, Int.reduceEq, Int.reduceNe] <;> omega
    · rintro h ⟨c1_0, c1_1, c1_2, c1_3, c1_4, c1_5, c1_6, c1_7, c1_8, c1_9, c1_10, c1_11, c1_12, c1_13, c1_14, c1_15⟩
      exact e_laws_toEntryS _ _ hv1 h _ (by simp (disch := first | omega | (simp only [List.length_set, List.length_append, List.length_cons, List.length_nil, rows_len, zs]; first | done | omega)) only [hv0, d0_0, d0_1, d0_2, d0_3, d0_4, d0_5, d0_6, d0_7, hv1, c1_0, c1_1, c1_2, c1_3, c1_4, c1_5, c1_6, c1_7, c1_8, c1_9, c1_10, c1_11, c1_12, c1_13, c1_14, c1_15, gs, reduceIte, reduceCtorEq, Nat.reduceAdd, Nat.reduceMul, Nat.reduceSub, Nat.reduceBEq, Nat.reduceEqDiff, Nat.reduceLeDiff, Nat.reduceLT, Nat.reduceGT, Int.reduceToNat, Int.reduceLT, Int.reduceLE, Int.reduceNeg, Int.reduceAdd, Int.reduceEq, Int.reduceNe])
    · rintro h v hh1 ⟨c1_0, c1_1, c1_2, c1_3, c1_4, c1_5, c1_6, c1_7, c1_8, c1_9, c1_10, c1_11, c1_12, c1_13, c1_14, c1_15⟩ hpost
      obtain ⟨kk1, nb1_0, rfl, lnb1_0, gnb1_0, wnb1_0⟩ := hpost
      have d1_0 : getCells hh1 0 2 = some [.i (.sl 1 (x0.seen.counts.map enc)), .i (.sl 3 (x0.entries.map enc))] := (keep_get kk1 c1_1 (by first | (simp; done) | (simp; omega))).trans c1_0
      have d1_0l := keep_lt kk1 c1_1
      have d1_1 : getCells hh1 1 0 = some [] := (keep_get kk1 c1_3 (by first | (simp; done) | (simp; omega))).trans c1_2
      have d1_1l := keep_lt kk1 c1_3
      have d1_2 : getCells hh1 2 0 = some [] := (keep_get kk1 c1_5 (by first | (simp; done) | (simp; omega))).trans c1_4
      have d1_2l := keep_lt kk1 c1_5
      have d1_3 : getCells hh1 3 2 = some [.hsl 1 0 0 1 false 0, .hsl 2 0 0 3 true 0] := (keep_get kk1 c1_7 (by first | (simp; done) | (simp; omega))).trans c1_6
      have d1_3l := keep_lt kk1 c1_7
      have d1_4 : getCells hh1 4 0 = some [] := (keep_get kk1 c1_9 (by first | (simp; done) | (simp; omega))).trans c1_8
      have d1_4l := keep_lt kk1 c1_9
      have d1_5 : getCells hh1 5 0 = some [] := (keep_get kk1 c1_11 (by first | (simp; done) | (simp; omega))).trans c1_10
      have d1_5l := keep_lt kk1 c1_11
      have d1_6 : getCells hh1 6 2 = some [.hsl nb0_0 v0.counts.length 0 1 false v0.counts.length, .hsl 5 0 0 3 true 0] := (keep_get kk1 c1_13 (by first | (simp; done) | (simp; omega))).trans c1_12
      have d1_6l := keep_lt kk1 c1_13
      have d1_7 : getCells hh1 nb0_0 v0.counts.length = some (rows (v0.counts : List Int)) := (keep_get kk1 c1_15 (by first | (simp; done) | (simp; omega))).trans c1_14
      have d1_7l := keep_lt kk1 c1_15
      have d1_8 := wnb1_0
      have hp := Option.some.inj hp
      subst hp
      simp (disch := first | omega | (simp only [List.length_set, List.length_append, List.length_cons, List.length_nil, rows_len, zs]; first | done | omega)) only [hv0, d0_0, d0_1, d0_2, d0_3, d0_4, d0_5, d0_6, d0_7, hv1, d1_0, d1_1, d1_2, d1_3, d1_4, d1_5, d1_6, d1_7, d1_8, gs, reduceIte, reduceCtorEq, Nat.reduceAdd, Nat.reduceMul, Nat.reduceSub, Nat.reduceBEq, Nat.reduceEqDiff, Nat.reduceLeDiff, Nat.reduceLT, Nat.reduceGT, Int.reduceToNat, Int.reduceLT, Int.reduceLE, Int.reduceNeg, Int.reduceAdd, Int.reduceEq, Int.reduceNe]
      refine ⟨nb0_0, nb1_0, ?_⟩
      simp (disch := first | omega | (simp only [List.length_set, List.length_append, List.length_cons, List.length_nil, rows_len, zs]; first | done | omega)) only [hv0, d0_0, d0_1, d0_2, d0_3, d0_4, d0_5, d0_6, d0_7, hv1, d1_0, d1_1, d1_2, d1_3, d1_4, d1_5, d1_6, d1_7, d1_8, o_laws_toSet, gs, reduceIte, reduceCtorEq, Nat.reduceAdd, Nat.reduceMul, Nat.reduceSub, Nat.reduceBEq, Nat.reduceEqDiff, Nat.reduceLeDiff, Nat.reduceLT, Nat.reduceGT, Int.reduceToNat, Int.reduceLT, Int.reduceLE, Int.reduceNeg, Int.reduceAdd, Int.reduceEq, Int.reduceNe] <;> omega
theorem ko_laws_toSet {P : Program} {env : Env} {f_laws_toVector : Nat} {f_laws_toEntryS : Nat}  (e_laws_toVector : k_laws_toVector (env (2 * f_laws_toVector + 1))) (e_laws_toEntryS : k_laws_toEntryS (env (2 * f_laws_toEntryS + 1))) : k_laws_toSet (ownFn P env (c_laws_toSet f_laws_toVector f_laws_toEntryS)) := by
  intro x0 b hp h args has
  obtain ⟨⟨v, H2⟩, hr, n0, n1, rfl, wn0, wn1, ne1_0⟩ := w_laws_toSet e_laws_toVector e_laws_toEntryS x0 hp
  exact ⟨_, own_call has hr rfl, keep_moved, n0 + h.length, n1 + h.length, rfl, (moved_lt wn0).2, (moved_lt wn0).1, moved_rows wn0, (moved_lt wn1).2, (moved_lt wn1).1, moved_rows wn1, by omega⟩

noncomputable def p_spec_VecOK_l0 (x0 : TVec) : Int → Option (Lp (Int) Bool)
  | s1 =>
    if (decide (s1 < 16)) = true then
      (get? x0.counts s1).bind fun v3 =>
      if (decide (v3 < 0)) = true then
        some (.ret false)
      else
        if (decide (1000000000000 < v3)) = true then
          some (.ret false)
        else
          some (.go (w64 (s1 + 1)))
    else
      some (.out s1)
noncomputable def p_spec_VecOK (x0 : TVec) : Option Bool :=
  if (decide ((x0.counts.length : Int) = 16)) = true then
    (loopP (p_spec_VecOK_l0 x0) 0).bind fun ee0 => match ee0 with
    | .ret r => some r
    | .out o6 =>
      some true
  else
    some false
def c_spec_VecOK : AFn := ⟨26, (.seq (.ops [⟨(.some 1), (.box (.tmp 0)), .none, []⟩, ⟨(.some 2), (.mv (.const (.bool false))), .none, []⟩]) (.seq (.seq (.ops [⟨(.some 4), (.fieldA 0 (.tmp 1)), .none, []⟩, ⟨(.some 5), (.load 1 false (.tmp 4)), .none, []⟩, ⟨(.some 6), (.len (.tmp 5)), .none, []⟩, ⟨(.some 7), (.pu (.n (.ar .neq)) [(.tmp 6), (.const (.int .i64 16))]), .none, []⟩]) (.cond (.tmp 7) (.seq (.ops [⟨(.some 2), (.mv (.const (.bool false))), .none, []⟩]) .ret) .skip)) (.seq (.seq (.ops [⟨(.some 3), (.mv (.const (.int .i64 0))), .none, []⟩]) (.block 0 (.loop (.seq (.seq (.ops [⟨(.some 8), (.mv (.tmp 3)), .none, []⟩, ⟨(.some 9), (.pu (.n (.ar .lss)) [(.tmp 8), (.const (.int .i64 16))]), .none, []⟩]) (.cond (.tmp 9) .skip (.exit 0))) (.seq (.block 1 (.seq (.ops [⟨(.some 12), (.fieldA 0 (.tmp 1)), .none, []⟩, ⟨(.some 13), (.load 1 false (.tmp 12)), .none, []⟩, ⟨(.some 14), (.mv (.tmp 3)), .none, []⟩, ⟨(.some 15), (.idxS 1 (.tmp 13) (.tmp 14)), .none, []⟩, ⟨(.some 16), (.load 1 false (.tmp 15)), .none, []⟩, ⟨(.some 17), (.pu (.n (.ar .lss)) [(.tmp 16), (.const (.int .i64 0))]), .none, []⟩, ⟨(.some 18), (.mv (.tmp 17)), .none, []⟩, ⟨(.some 19), (.fieldA 0 (.tmp 1)), (.some (18, false)), []⟩, ⟨(.some 20), (.load 1 false (.tmp 19)), (.some (18, false)), []⟩, ⟨(.some 21), (.mv (.tmp 3)), (.some (18, false)), []⟩, ⟨(.some 22), (.idxS 1 (.tmp 20) (.tmp 21)), (.some (18, false)), []⟩, ⟨(.some 23), (.load 1 false (.tmp 22)), (.some (18, false)), []⟩, ⟨(.some 24), (.pu (.n (.ar .gtr)) [(.tmp 23), (.const (.int .i64 1000000000000))]), (.some (18, false)), []⟩, ⟨(.some 25), (.pick (.tmp 18) (.const (.bool true)) (.tmp 24)), .none, []⟩]) (.cond (.tmp 25) (.seq (.ops [⟨(.some 2), (.mv (.const (.bool false))), .none, []⟩]) .ret) .skip))) (.ops [⟨(.some 10), (.mv (.tmp 3)), .none, []⟩, ⟨(.some 11), (.pu (.n (.ar .add)) [(.tmp 10), (.const (.int .i64 1))]), .none, []⟩, ⟨(.some 3), (.mv (.tmp 11)), .none, []⟩])))))) (.seq (.ops [⟨(.some 2), (.mv (.const (.bool true))), .none, []⟩]) .ret)))), [(.tmp 2)]⟩
set_option maxHeartbeats 10000000 in
theorem d_spec_VecOK {P : Program} {env : Env}  (x0 : TVec) {b : Bool} (hp : p_spec_VecOK x0 = some b) : R P env (c_spec_VecOK) ((encA (x0)).map ofI) [] (Tells true b) := by
  refine R_of (by simp [c_spec_VecOK, encA]) ?_
  unfold c_spec_VecOK
  unfold p_spec_VecOK at hp
  by_cases hb0 : (decide ((x0.counts.length : Int) = 16)) = true
  · rw [if_t hb0] at hp
    obtain ⟨ee0, hee0, hp⟩ := bind_eq hp
    simp (disch := first | omega | (simp only [List.length_set, List.length_append, List.length_cons, List.length_nil, rows_len, zs]; first | done | omega)) only [hb0, gs, reduceIte, reduceCtorEq, Nat.reduceAdd, Nat.reduceMul, Nat.reduceSub, Nat.reduceBEq, Nat.reduceEqDiff, Nat.reduceLeDiff, Nat.reduceLT, Nat.reduceGT, Int.reduceToNat, Int.reduceLT, Int.reduceLE, Int.reduceNeg, Int.reduceAdd, Int.reduceEq, Int.reduceNe]
    refine W_loopP 0 (fun s t h => match s with | s1 => t 1 = .ptr 0 1 0 ∧ t 3 = .i (.s (.int .i64 s1)) ∧ getCells h 0 1 = some [.i (.sl 1 (x0.counts.map enc))] ∧ 0 < h.length) (RK [.tmp 2] (Tells true)) ?_ hee0 ?_ ?_
    · rintro s1 ee tt0 hh0 ⟨ftt0_0, ftt0_1, ftt0_2, ftt0_3⟩ hp
      rw [p_spec_VecOK_l0] at hp
      by_cases hb2 : (decide (s1 < 16)) = true
      · rw [if_t hb2] at hp
        obtain ⟨v3, hv3, hp⟩ := bind_eq hp
        by_cases hb4 : (decide (v3 < 0)) = true
        · rw [if_t hb4] at hp
          have hp := Option.some.inj hp
          subst hp
          simp (disch := first | omega | (simp only [List.length_set, List.length_append, List.length_cons, List.length_nil, rows_len, zs]; first | done | omega)) only [hb0, ftt0_0, ftt0_1, ftt0_2, ftt0_3, hb2, hv3, hb4, gs, reduceIte, reduceCtorEq, Nat.reduceAdd, Nat.reduceMul, Nat.reduceSub, Nat.reduceBEq, Nat.reduceEqDiff, Nat.reduceLeDiff, Nat.reduceLT, Nat.reduceGT, Int.reduceToNat, Int.reduceLT, Int.reduceLE, Int.reduceNeg, Int.reduceAdd, Int.reduceEq, Int.reduceNe]
        · replace hb4 := eq_false_of_ne_true hb4
          rw [if_f hb4] at hp
          by_cases hb5 : (decide (1000000000000 < v3)) = true
          · rw [if_t hb5] at hp
            have hp := Option.some.inj hp
            subst hp
            simp (disch := first | omega | (simp only [List.length_set, List.length_append, List.length_cons, List.length_nil, rows_len, zs]; first | done | omega)) only [hb0, ftt0_0, ftt0_1, ftt0_2, ftt0_3, hb2, hv3, hb4, hb5, gs, reduceIte, reduceCtorEq, Nat.reduceAdd, Nat.reduceMul, Nat.reduceSub, Nat.reduceBEq, Nat.reduceEqDiff, Nat.reduceLeDiff, Nat.reduceLT, Nat.reduceGT, Int.reduceToNat, Int.reduceLT, Int.reduceLE, Int.reduceNeg, Int.reduceAdd, Int.reduceEq, Int.reduceNe]
          · replace hb5 := eq_false_of_ne_true hb5
            rw [if_f hb5] at hp
            have hp := Option.some.inj hp
            subst hp
            simp (disch := first | omega | (simp only [List.length_set, List.length_append, List.length_cons, List.length_nil, rows_len, zs]; first | done | omega)) only [hb0, ftt0_0, ftt0_1, ftt0_2, ftt0_3, hb2, hv3, hb4, hb5, gs, reduceIte, reduceCtorEq, Nat.reduceAdd, Nat.reduceMul, Nat.reduceSub, Nat.reduceBEq, Nat.reduceEqDiff, Nat.reduceLeDiff, Nat.reduceLT, Nat.reduceGT, Int.reduceToNat, Int.reduceLT, Int.reduceLE, Int.reduceNeg, Int.reduceAdd, Int.reduceEq, Int.reduceNe] <;> omega
      · replace hb2 := eq_false_of_ne_true hb2
        rw [if_f hb2] at hp
        have hp := Option.some.inj hp
        subst hp
        simp (disch := first | omega | (simp only [List.length_set, List.length_append, List.length_cons, List.length_nil, rows_len, zs]; first | done | omega)) only [hb0, ftt0_0, ftt0_1, ftt0_2, ftt0_3, hb2, gs, reduceIte, reduceCtorEq, Nat.reduceAdd, Nat.reduceMul, Nat.reduceSub, Nat.reduceBEq, Nat.reduceEqDiff, Nat.reduceLeDiff, Nat.reduceLT, Nat.reduceGT, Int.reduceToNat, Int.reduceLT, Int.reduceLE, Int.reduceNeg, Int.reduceAdd, Int.reduceEq, Int.reduceNe] <;> omega
    · simp (disch := first | omega | (simp only [List.length_set, List.length_append, List.length_cons, List.length_nil, rows_len, zs]; first | done | omega)) only [hb0, gs, reduceIte, reduceCtorEq, Nat.reduceAdd, Nat.reduceMul, Nat.reduceSub, Nat.reduceBEq, Nat.reduceEqDiff, Nat.reduceLeDiff, Nat.reduceLT, Nat.reduceGT, Int.reduceToNat, Int.reduceLT, Int.reduceLE, Int.reduceNeg, Int.reduceAdd, Int.reduceEq, Int.reduceNe] <;> omega
    · intro x tt1 hh1 hx
      rcases ee0 with o6 | r
      · obtain ⟨rfl, ftt1_0, ftt1_1, ftt1_2, ftt1_3⟩ := hx
        dsimp only at hp
        have hp := Option.some.inj hp
        subst hp
        simp (disch := first | omega | (simp only [List.length_set, List.length_append, List.length_cons, List.length_nil, rows_len, zs]; first | done | omega)) only [hb0, ftt1_0, ftt1_1, ftt1_2, ftt1_3, gs, reduceIte, reduceCtorEq, Nat.reduceAdd, Nat.reduceMul, Nat.reduceSub, Nat.reduceBEq, Nat.reduceEqDiff, Nat.reduceLeDiff, Nat.reduceLT, Nat.reduceGT, Int.reduceToNat, Int.reduceLT, Int.reduceLE, Int.reduceNeg, Int.reduceAdd, Int.reduceEq, Int.reduceNe]
      · obtain ⟨rfl, hx⟩ := hx
        dsimp only at hp
        cases hp
        simp only [seqK_ret, blockK_ret, retK_RK (K := Tells true), hx, and_self, true_and]
  · replace hb0 := eq_false_of_ne_true hb0
    rw [if_f hb0] at hp
    have hp := Option.some.inj hp
    subst hp
    simp (disch := first | omega | (simp only [List.length_set, List.length_append, List.length_cons, List.length_nil, rows_len, zs]; first | done | omega)) only [hb0, gs, reduceIte, reduceCtorEq, Nat.reduceAdd, Nat.reduceMul, Nat.reduceSub, Nat.reduceBEq, Nat.reduceEqDiff, Nat.reduceLeDiff, Nat.reduceLT, Nat.reduceGT, Int.reduceToNat, Int.reduceLT, Int.reduceLE, Int.reduceNeg, Int.reduceAdd, Int.reduceEq, Int.reduceNe]

noncomputable def p_spec_StampOK (x0 : TStamp) : Option Bool :=
  if (decide (1 ≤ x0.time)) = true then
    if (decide (x0.time ≤ 1000000000000)) = true then
      if (decide (0 ≤ x0.actor)) = true then
        some (decide (x0.actor < 16))
      else
        some false
    else
      some false
  else
    some false
def c_spec_StampOK : AFn := ⟨21, (.seq (.ops [⟨(.some 1), (.box (.tmp 0)), .none, []⟩, ⟨(.some 2), (.mv (.const (.bool false))), .none, []⟩]) (.seq (.ops [⟨(.some 3), (.fieldA 0 (.tmp 1)), .none, []⟩, ⟨(.some 4), (.load 1 false (.tmp 3)), .none, []⟩, ⟨(.some 5), (.pu (.n (.ar .geq)) [(.tmp 4), (.const (.int .i64 1))]), .none, []⟩, ⟨(.some 6), (.mv (.tmp 5)), .none, []⟩, ⟨(.some 7), (.fieldA 0 (.tmp 1)), (.some (6, true)), []⟩, ⟨(.some 8), (.load 1 false (.tmp 7)), (.some (6, true)), []⟩, ⟨(.some 9), (.pu (.n (.ar .leq)) [(.tmp 8), (.const (.int .i64 1000000000000))]), (.some (6, true)), []⟩, ⟨(.some 10), (.pick (.tmp 6) (.tmp 9) (.const (.bool false))), .none, []⟩, ⟨(.some 11), (.mv (.tmp 10)), .none, []⟩, ⟨(.some 12), (.fieldA 1 (.tmp 1)), (.some (11, true)), []⟩, ⟨(.some 13), (.load 1 false (.tmp 12)), (.some (11, true)), []⟩, ⟨(.some 14), (.pu (.n (.ar .geq)) [(.tmp 13), (.const (.int .i64 0))]), (.some (11, true)), []⟩, ⟨(.some 15), (.pick (.tmp 11) (.tmp 14) (.const (.bool false))), .none, []⟩, ⟨(.some 16), (.mv (.tmp 15)), .none, []⟩, ⟨(.some 17), (.fieldA 1 (.tmp 1)), (.some (16, true)), []⟩, ⟨(.some 18), (.load 1 false (.tmp 17)), (.some (16, true)), []⟩, ⟨(.some 19), (.pu (.n (.ar .lss)) [(.tmp 18), (.const (.int .i64 16))]), (.some (16, true)), []⟩, ⟨(.some 20), (.pick (.tmp 16) (.tmp 19) (.const (.bool false))), .none, []⟩, ⟨(.some 2), (.mv (.tmp 20)), .none, []⟩]) .ret)), [(.tmp 2)]⟩
set_option maxHeartbeats 10000000 in
theorem d_spec_StampOK {P : Program} {env : Env}  (x0 : TStamp) {b : Bool} (hp : p_spec_StampOK x0 = some b) : R P env (c_spec_StampOK) ((encA (x0)).map ofI) [] (Tells true b) := by
  refine R_of (by simp [c_spec_StampOK, encA]) ?_
  unfold c_spec_StampOK
  unfold p_spec_StampOK at hp
  by_cases hb0 : (decide (1 ≤ x0.time)) = true
  · rw [if_t hb0] at hp
    by_cases hb1 : (decide (x0.time ≤ 1000000000000)) = true
    · rw [if_t hb1] at hp
      by_cases hb2 : (decide (0 ≤ x0.actor)) = true
      · rw [if_t hb2] at hp
        have hp := Option.some.inj hp
        subst hp
        simp (disch := first | omega | (simp only [List.length_set, List.length_append, List.length_cons, List.length_nil, rows_len, zs]; first | done | omega)) only [hb0, hb1, hb2, gs, reduceIte, reduceCtorEq, Nat.reduceAdd, Nat.reduceMul, Nat.reduceSub, Nat.reduceBEq, Nat.reduceEqDiff, Nat.reduceLeDiff, Nat.reduceLT, Nat.reduceGT, Int.reduceToNat, Int.reduceLT, Int.reduceLE, Int.reduceNeg, Int.reduceAdd, Int.reduceEq, Int.reduceNe]
      · replace hb2 := eq_false_of_ne_true hb2
        rw [if_f hb2] at hp
        have hp := Option.some.inj hp
        subst hp
        simp (disch := first | omega | (simp only [List.length_set, List.length_append, List.length_cons, List.length_nil, rows_len, zs]; first | done | omega)) only [hb0, hb1, hb2, gs, reduceIte, reduceCtorEq, Nat.reduceAdd, Nat.reduceMul, Nat.reduceSub, Nat.reduceBEq, Nat.reduceEqDiff, Nat.reduceLeDiff, Nat.reduceLT, Nat.reduceGT, Int.reduceToNat, Int.reduceLT, Int.reduceLE, Int.reduceNeg, Int.reduceAdd, Int.reduceEq, Int.reduceNe]
    · replace hb1 := eq_false_of_ne_true hb1
      rw [if_f hb1] at hp
      have hp := Option.some.inj hp
      subst hp
      simp (disch := first | omega | (simp only [List.length_set, List.length_append, List.length_cons, List.length_nil, rows_len, zs]; first | done | omega)) only [hb0, hb1, gs, reduceIte, reduceCtorEq, Nat.reduceAdd, Nat.reduceMul, Nat.reduceSub, Nat.reduceBEq, Nat.reduceEqDiff, Nat.reduceLeDiff, Nat.reduceLT, Nat.reduceGT, Int.reduceToNat, Int.reduceLT, Int.reduceLE, Int.reduceNeg, Int.reduceAdd, Int.reduceEq, Int.reduceNe]
  · replace hb0 := eq_false_of_ne_true hb0
    rw [if_f hb0] at hp
    have hp := Option.some.inj hp
    subst hp
    simp (disch := first | omega | (simp only [List.length_set, List.length_append, List.length_cons, List.length_nil, rows_len, zs]; first | done | omega)) only [hb0, gs, reduceIte, reduceCtorEq, Nat.reduceAdd, Nat.reduceMul, Nat.reduceSub, Nat.reduceBEq, Nat.reduceEqDiff, Nat.reduceLeDiff, Nat.reduceLT, Nat.reduceGT, Int.reduceToNat, Int.reduceLT, Int.reduceLE, Int.reduceNeg, Int.reduceAdd, Int.reduceEq, Int.reduceNe]

noncomputable def p_spec_StampLess (x0 : TStamp) (x1 : TStamp) : Option Bool :=
  if (decide (x0.time < x1.time)) = true then
    some true
  else
    if (decide (x0.time = x1.time)) = true then
      some (decide (x0.actor < x1.actor))
    else
      some false
def c_spec_StampLess : AFn := ⟨24, (.seq (.ops [⟨(.some 2), (.box (.tmp 0)), .none, []⟩, ⟨(.some 3), (.box (.tmp 1)), .none, []⟩, ⟨(.some 4), (.mv (.const (.bool false))), .none, []⟩]) (.seq (.ops [⟨(.some 5), (.fieldA 0 (.tmp 2)), .none, []⟩, ⟨(.some 6), (.load 1 false (.tmp 5)), .none, []⟩, ⟨(.some 7), (.fieldA 0 (.tmp 3)), .none, []⟩, ⟨(.some 8), (.load 1 false (.tmp 7)), .none, []⟩, ⟨(.some 9), (.pu (.n (.ar .lss)) [(.tmp 6), (.tmp 8)]), .none, []⟩, ⟨(.some 10), (.mv (.tmp 9)), .none, []⟩, ⟨(.some 11), (.fieldA 0 (.tmp 2)), (.some (10, false)), []⟩, ⟨(.some 12), (.load 1 false (.tmp 11)), (.some (10, false)), []⟩, ⟨(.some 13), (.fieldA 0 (.tmp 3)), (.some (10, false)), []⟩, ⟨(.some 14), (.load 1 false (.tmp 13)), (.some (10, false)), []⟩, ⟨(.some 15), (.pu (.n (.ar .eql)) [(.tmp 12), (.tmp 14)]), (.some (10, false)), []⟩, ⟨(.some 16), (.mv (.tmp 15)), (.some (10, false)), []⟩, ⟨(.some 17), (.fieldA 1 (.tmp 2)), (.some (16, true)), []⟩, ⟨(.some 18), (.load 1 false (.tmp 17)), (.some (16, true)), []⟩, ⟨(.some 19), (.fieldA 1 (.tmp 3)), (.some (16, true)), []⟩, ⟨(.some 20), (.load 1 false (.tmp 19)), (.some (16, true)), []⟩, ⟨(.some 21), (.pu (.n (.ar .lss)) [(.tmp 18), (.tmp 20)]), (.some (16, true)), []⟩, ⟨(.some 22), (.pick (.tmp 16) (.tmp 21) (.const (.bool false))), (.some (10, false)), []⟩, ⟨(.some 23), (.pick (.tmp 10) (.const (.bool true)) (.tmp 22)), .none, []⟩, ⟨(.some 4), (.mv (.tmp 23)), .none, []⟩]) .ret)), [(.tmp 4)]⟩
set_option maxHeartbeats 10000000 in
theorem d_spec_StampLess {P : Program} {env : Env}  (x0 : TStamp) (x1 : TStamp) {b : Bool} (hp : p_spec_StampLess x0 x1 = some b) : R P env (c_spec_StampLess) ((encA (x0, x1)).map ofI) [] (Tells true b) := by
  refine R_of (by simp [c_spec_StampLess, encA]) ?_
  unfold c_spec_StampLess
  unfold p_spec_StampLess at hp
  by_cases hb0 : (decide (x0.time < x1.time)) = true
  · rw [if_t hb0] at hp
    have hp := Option.some.inj hp
    subst hp
    simp (disch := first | omega | (simp only [List.length_set, List.length_append, List.length_cons, List.length_nil, rows_len, zs]; first | done | omega)) only [hb0, gs, reduceIte, reduceCtorEq, Nat.reduceAdd, Nat.reduceMul, Nat.reduceSub, Nat.reduceBEq, Nat.reduceEqDiff, Nat.reduceLeDiff, Nat.reduceLT, Nat.reduceGT, Int.reduceToNat, Int.reduceLT, Int.reduceLE, Int.reduceNeg, Int.reduceAdd, Int.reduceEq, Int.reduceNe]
  · replace hb0 := eq_false_of_ne_true hb0
    rw [if_f hb0] at hp
    by_cases hb1 : (decide (x0.time = x1.time)) = true
    · rw [if_t hb1] at hp
      have hp := Option.some.inj hp
      subst hp
      simp (disch := first | omega | (simp only [List.length_set, List.length_append, List.length_cons, List.length_nil, rows_len, zs]; first | done | omega)) only [hb0, hb1, gs, reduceIte, reduceCtorEq, Nat.reduceAdd, Nat.reduceMul, Nat.reduceSub, Nat.reduceBEq, Nat.reduceEqDiff, Nat.reduceLeDiff, Nat.reduceLT, Nat.reduceGT, Int.reduceToNat, Int.reduceLT, Int.reduceLE, Int.reduceNeg, Int.reduceAdd, Int.reduceEq, Int.reduceNe]
    · replace hb1 := eq_false_of_ne_true hb1
      rw [if_f hb1] at hp
      have hp := Option.some.inj hp
      subst hp
      simp (disch := first | omega | (simp only [List.length_set, List.length_append, List.length_cons, List.length_nil, rows_len, zs]; first | done | omega)) only [hb0, hb1, gs, reduceIte, reduceCtorEq, Nat.reduceAdd, Nat.reduceMul, Nat.reduceSub, Nat.reduceBEq, Nat.reduceEqDiff, Nat.reduceLeDiff, Nat.reduceLT, Nat.reduceGT, Int.reduceToNat, Int.reduceLT, Int.reduceLE, Int.reduceNeg, Int.reduceAdd, Int.reduceEq, Int.reduceNe]

noncomputable def p_spec_l03EntriesOK_l0 (x0 : TVec) (x1 : List TEntry) : Int → Option (Lp (Int) Bool)
  | s3 =>
    if (decide (s3 < (x1.length : Int))) = true then
      (get? x1 s3).bind fun v5 =>
      (p_spec_StampOK v5.stamp).bind fun v6 =>
      if (v6) = true then
        if (decide (200 < (v5.text.size : Int))) = true then
          some (.ret false)
        else
          (get? x0.counts v5.stamp.actor).bind fun v9 =>
          if (decide (v9 < v5.stamp.time)) = true then
            some (.ret false)
          else
            if (decide (0 < s3)) = true then
              (get? x1 (w64 (s3 - 1))).bind fun v12 =>
              (p_spec_StampLess v12.stamp v5.stamp).bind fun v13 =>
              if (v13) = true then
                some (.go (w64 (s3 + 1)))
              else
                some (.ret false)
            else
              some (.go (w64 (s3 + 1)))
      else
        some (.ret false)
    else
      some (.out s3)
noncomputable def p_spec_l03EntriesOK (x0 : TVec) (x1 : List TEntry) : Option Bool :=
  (p_spec_VecOK x0).bind fun v0 =>
  if (v0) = true then
    if (decide (256 < (x1.length : Int))) = true then
      some false
    else
      (loopP (p_spec_l03EntriesOK_l0 x0 x1) 0).bind fun ee0 => match ee0 with
      | .ret r => some r
      | .out o15 =>
        some true
  else
    some false
def c_spec_l03EntriesOK (f_spec_VecOK : Nat) (f_spec_StampOK : Nat) (f_spec_StampLess : Nat) : AFn := ⟨64, (.seq (.ops [⟨(.some 2), (.box (.tmp 0)), .none, []⟩, ⟨(.some 4), (.mv (.const (.bool false))), .none, []⟩]) (.seq (.seq (.ops [⟨(.some 7), (.load 1 true (.tmp 2)), .none, []⟩, ⟨(.some 8), (.call (2 * f_spec_VecOK) [(.tmp 7)]), .none, []⟩, ⟨(.some 9), (.pu (.n (.un .not)) [(.tmp 8)]), .none, []⟩, ⟨(.some 10), (.mv (.tmp 9)), .none, []⟩, ⟨(.some 11), (.mv (.tmp 1)), (.some (10, false)), []⟩, ⟨(.some 12), (.len (.tmp 11)), (.some (10, false)), []⟩, ⟨(.some 13), (.pu (.n (.ar .gtr)) [(.tmp 12), (.const (.int .i64 256))]), (.some (10, false)), []⟩, ⟨(.some 14), (.pick (.tmp 10) (.const (.bool true)) (.tmp 13)), .none, []⟩]) (.cond (.tmp 14) (.seq (.ops [⟨(.some 4), (.mv (.const (.bool false))), .none, []⟩]) .ret) .skip)) (.seq (.seq (.ops [⟨(.some 5), (.mv (.const (.int .i64 0))), .none, []⟩]) (.block 0 (.loop (.seq (.seq (.ops [⟨(.some 15), (.mv (.tmp 5)), .none, []⟩, ⟨(.some 16), (.mv (.tmp 1)), .none, []⟩, ⟨(.some 17), (.len (.tmp 16)), .none, []⟩, ⟨(.some 18), (.pu (.n (.ar .lss)) [(.tmp 15), (.tmp 17)]), .none, []⟩]) (.cond (.tmp 18) .skip (.exit 0))) (.seq (.block 1 (.seq (.ops [⟨(.some 21), (.mv (.tmp 1)), .none, []⟩, ⟨(.some 22), (.mv (.tmp 5)), .none, []⟩, ⟨(.some 23), (.idxS 3 (.tmp 21) (.tmp 22)), .none, []⟩, ⟨(.some 24), (.load 3 true (.tmp 23)), .none, []⟩, ⟨(.some 6), (.allocV [(0, false), (0, false), (0, false)] [(.int .i64 0), (.int .i64 0), (.string ⟨#[]⟩)]), .none, []⟩, ⟨.none, (.storeV [(0, false), (0, false), (0, false)] 3 (.tmp 6) (.tmp 24)), .none, []⟩]) (.seq (.ops [⟨(.some 25), (.fieldA 0 (.tmp 6)), .none, []⟩, ⟨(.some 26), (.load 2 true (.tmp 25)), .none, []⟩, ⟨(.some 27), (.call (2 * f_spec_StampOK) [(.tmp 26)]), .none, []⟩, ⟨(.some 28), (.pu (.n (.un .not)) [(.tmp 27)]), .none, []⟩, ⟨(.some 29), (.mv (.tmp 28)), .none, []⟩, ⟨(.some 30), (.fieldA 2 (.tmp 6)), (.some (29, false)), []⟩, ⟨(.some 31), (.load 1 false (.tmp 30)), (.some (29, false)), []⟩, ⟨(.some 32), (.pu (.n .len) [(.tmp 31)]), (.some (29, false)), []⟩, ⟨(.some 33), (.pu (.n (.ar .gtr)) [(.tmp 32), (.const (.int .i64 200))]), (.some (29, false)), []⟩, ⟨(.some 34), (.pick (.tmp 29) (.const (.bool true)) (.tmp 33)), .none, []⟩, ⟨(.some 35), (.mv (.tmp 34)), .none, []⟩, ⟨(.some 36), (.fieldA 0 (.tmp 6)), (.some (35, false)), []⟩, ⟨(.some 37), (.fieldA 0 (.tmp 36)), (.some (35, false)), []⟩, ⟨(.some 38), (.load 1 false (.tmp 37)), (.some (35, false)), []⟩, ⟨(.some 39), (.fieldA 0 (.tmp 2)), (.some (35, false)), []⟩, ⟨(.some 40), (.load 1 false (.tmp 39)), (.some (35, false)), []⟩, ⟨(.some 41), (.fieldA 0 (.tmp 6)), (.some (35, false)), []⟩, ⟨(.some 42), (.fieldA 1 (.tmp 41)), (.some (35, false)), []⟩, ⟨(.some 43), (.load 1 false (.tmp 42)), (.some (35, false)), []⟩, ⟨(.some 44), (.idxS 1 (.tmp 40) (.tmp 43)), (.some (35, false)), []⟩, ⟨(.some 45), (.load 1 false (.tmp 44)), (.some (35, false)), []⟩, ⟨(.some 46), (.pu (.n (.ar .gtr)) [(.tmp 38), (.tmp 45)]), (.some (35, false)), []⟩, ⟨(.some 47), (.pick (.tmp 35) (.const (.bool true)) (.tmp 46)), .none, []⟩, ⟨(.some 48), (.mv (.tmp 47)), .none, []⟩, ⟨(.some 49), (.mv (.tmp 5)), (.some (48, false)), []⟩, ⟨(.some 50), (.pu (.n (.ar .gtr)) [(.tmp 49), (.const (.int .i64 0))]), (.some (48, false)), []⟩, ⟨(.some 51), (.mv (.tmp 50)), (.some (48, false)), []⟩, ⟨(.some 52), (.mv (.tmp 1)), (.some (51, true)), []⟩, ⟨(.some 53), (.mv (.tmp 5)), (.some (51, true)), []⟩, ⟨(.some 54), (.pu (.n (.ar .sub)) [(.tmp 53), (.const (.int .i64 1))]), (.some (51, true)), []⟩, ⟨(.some 55), (.idxS 3 (.tmp 52) (.tmp 54)), (.some (51, true)), []⟩, ⟨(.some 56), (.fieldA 0 (.tmp 55)), (.some (51, true)), []⟩, ⟨(.some 57), (.load 2 true (.tmp 56)), (.some (51, true)), []⟩, ⟨(.some 58), (.fieldA 0 (.tmp 6)), (.some (51, true)), []⟩, ⟨(.some 59), (.load 2 true (.tmp 58)), (.some (51, true)), []⟩, ⟨(.some 60), (.call (2 * f_spec_StampLess) [(.tmp 57), (.tmp 59)]), (.some (51, true)), []⟩, ⟨(.some 61), (.pu (.n (.un .not)) [(.tmp 60)]), (.some (51, true)), []⟩, ⟨(.some 62), (.pick (.tmp 51) (.tmp 61) (.const (.bool false))), (.some (48, false)), []⟩, ⟨(.some 63), (.pick (.tmp 48) (.const (.bool true)) (.tmp 62)), .none, []⟩]) (.cond (.tmp 63) (.seq (.ops [⟨(.some 4), (.mv (.const (.bool false))), .none, []⟩]) .ret) .skip)))) (.ops [⟨(.some 19), (.mv (.tmp 5)), .none, []⟩, ⟨(.some 20), (.pu (.n (.ar .add)) [(.tmp 19), (.const (.int .i64 1))]), .none, []⟩, ⟨(.some 5), (.mv (.tmp 20)), .none, []⟩])))))) (.seq (.ops [⟨(.some 4), (.mv (.const (.bool true))), .none, []⟩]) .ret)))), [(.tmp 4)]⟩
set_option maxHeartbeats 10000000 in
theorem d_spec_l03EntriesOK {P : Program} {env : Env} {f_spec_VecOK : Nat} {f_spec_StampOK : Nat} {f_spec_StampLess : Nat}  (ep_spec_VecOK : env (2 * f_spec_VecOK) = pureFn true (FA fun a : TVec => p_spec_VecOK a)) (ep_spec_StampOK : env (2 * f_spec_StampOK) = pureFn true (FA fun a : TStamp => p_spec_StampOK a)) (ep_spec_StampLess : env (2 * f_spec_StampLess) = pureFn true (FA fun a : TStamp × TStamp => p_spec_StampLess a.1 a.2)) (x0 : TVec) (x1 : List TEntry) {b : Bool} (hp : p_spec_l03EntriesOK x0 x1 = some b) : R P env (c_spec_l03EntriesOK f_spec_VecOK f_spec_StampOK f_spec_StampLess) ((encA (x0, x1)).map ofI) [] (Tells true b) := by
  refine R_of (by simp [c_spec_l03EntriesOK, encA]) ?_
  unfold c_spec_l03EntriesOK
  unfold p_spec_l03EntriesOK at hp
  obtain ⟨v0, hv0, hp⟩ := bind_eq hp
  by_cases hb1 : (v0) = true
  · rw [if_t hb1] at hp
    by_cases hb2 : (decide (256 < (x1.length : Int))) = true
    · rw [if_t hb2] at hp
      have hp := Option.some.inj hp
      subst hp
      simp (disch := first | omega | (simp only [List.length_set, List.length_append, List.length_cons, List.length_nil, rows_len, zs]; first | done | omega)) only [ep_spec_VecOK, ep_spec_StampOK, ep_spec_StampLess, hv0, hb1, hb2, gs, reduceIte, reduceCtorEq, Nat.reduceAdd, Nat.reduceMul, Nat.reduceSub, Nat.reduceBEq, Nat.reduceEqDiff, Nat.reduceLeDiff, Nat.reduceLT, Nat.reduceGT, Int.reduceToNat, Int.reduceLT, Int.reduceLE, Int.reduceNeg, Int.reduceAdd, Int.reduceEq, Int.reduceNe]
    · replace hb2 := eq_false_of_ne_true hb2
      rw [if_f hb2] at hp
      obtain ⟨ee0, hee0, hp⟩ := bind_eq hp
      simp (disch := first | omega | (simp only [List.length_set, List.length_append, List.length_cons, List.length_nil, rows_len, zs]; first | done | omega)) only [ep_spec_VecOK, ep_spec_StampOK, ep_spec_StampLess, hv0, hb1, hb2, gs, reduceIte, reduceCtorEq, Nat.reduceAdd, Nat.reduceMul, Nat.reduceSub, Nat.reduceBEq, Nat.reduceEqDiff, Nat.reduceLeDiff, Nat.reduceLT, Nat.reduceGT, Int.reduceToNat, Int.reduceLT, Int.reduceLE, Int.reduceNeg, Int.reduceAdd, Int.reduceEq, Int.reduceNe]
      refine W_loopP 0 (fun s t h => match s with | s3 => t 1 = .i (.sl 3 (x1.map enc)) ∧ t 2 = .ptr 0 1 0 ∧ t 5 = .i (.s (.int .i64 s3)) ∧ getCells h 0 1 = some [.i (.sl 1 (x0.counts.map enc))] ∧ 0 < h.length) (RK [.tmp 4] (Tells true)) ?_ hee0 ?_ ?_
      · rintro s3 ee tt0 hh0 ⟨ftt0_0, ftt0_1, ftt0_2, ftt0_3, ftt0_4⟩ hp
        rw [p_spec_l03EntriesOK_l0] at hp
        by_cases hb4 : (decide (s3 < (x1.length : Int))) = true
        · rw [if_t hb4] at hp
          obtain ⟨v5, hv5, hp⟩ := bind_eq hp
          obtain ⟨v6, hv6, hp⟩ := bind_eq hp
          by_cases hb7 : (v6) = true
          · rw [if_t hb7] at hp
            by_cases hb8 : (decide (200 < (v5.text.size : Int))) = true
            · rw [if_t hb8] at hp
              have hp := Option.some.inj hp
              subst hp
              simp (disch := first | omega | (simp only [List.length_set, List.length_append, List.length_cons, List.length_nil, rows_len, zs]; first | done | omega)) only [ep_spec_VecOK, ep_spec_StampOK, ep_spec_StampLess, hv0, hb1, hb2, ftt0_0, ftt0_1, ftt0_2, ftt0_3, ftt0_4, hb4, hv5, hv6, hb7, hb8, gs, reduceIte, reduceCtorEq, Nat.reduceAdd, Nat.reduceMul, Nat.reduceSub, Nat.reduceBEq, Nat.reduceEqDiff, Nat.reduceLeDiff, Nat.reduceLT, Nat.reduceGT, Int.reduceToNat, Int.reduceLT, Int.reduceLE, Int.reduceNeg, Int.reduceAdd, Int.reduceEq, Int.reduceNe]
            · replace hb8 := eq_false_of_ne_true hb8
              rw [if_f hb8] at hp
              obtain ⟨v9, hv9, hp⟩ := bind_eq hp
              by_cases hb10 : (decide (v9 < v5.stamp.time)) = true
              · rw [if_t hb10] at hp
                have hp := Option.some.inj hp
                subst hp
                simp (disch := first | omega | (simp only [List.length_set, List.length_append, List.length_cons, List.length_nil, rows_len, zs]; first | done | omega)) only [ep_spec_VecOK, ep_spec_StampOK, ep_spec_StampLess, hv0, hb1, hb2, ftt0_0, ftt0_1, ftt0_2, ftt0_3, ftt0_4, hb4, hv5, hv6, hb7, hb8, hv9, hb10, gs, reduceIte, reduceCtorEq, Nat.reduceAdd, Nat.reduceMul, Nat.reduceSub, Nat.reduceBEq, Nat.reduceEqDiff, Nat.reduceLeDiff, Nat.reduceLT, Nat.reduceGT, Int.reduceToNat, Int.reduceLT, Int.reduceLE, Int.reduceNeg, Int.reduceAdd, Int.reduceEq, Int.reduceNe]
              · replace hb10 := eq_false_of_ne_true hb10
                rw [if_f hb10] at hp
                by_cases hb11 : (decide (0 < s3)) = true
                · rw [if_t hb11] at hp
                  obtain ⟨v12, hv12, hp⟩ := bind_eq hp
                  obtain ⟨v13, hv13, hp⟩ := bind_eq hp
                  by_cases hb14 : (v13) = true
                  · rw [if_t hb14] at hp
                    have hp := Option.some.inj hp
                    subst hp
                    simp (disch := first | omega | (simp only [List.length_set, List.length_append, List.length_cons, List.length_nil, rows_len, zs]; first | done | omega)) only [ep_spec_VecOK, ep_spec_StampOK, ep_spec_StampLess, hv0, hb1, hb2, ftt0_0, ftt0_1, ftt0_2, ftt0_3, ftt0_4, hb4, hv5, hv6, hb7, hb8, hv9, hb10, hb11, hv12, hv13, hb14, gs, reduceIte, reduceCtorEq, Nat.reduceAdd, Nat.reduceMul, Nat.reduceSub, Nat.reduceBEq, Nat.reduceEqDiff, Nat.reduceLeDiff, Nat.reduceLT, Nat.reduceGT, Int.reduceToNat, Int.reduceLT, Int.reduceLE, Int.reduceNeg, Int.reduceAdd, Int.reduceEq, Int.reduceNe] <;> omega
                  · replace hb14 := eq_false_of_ne_true hb14
                    rw [if_f hb14] at hp
                    have hp := Option.some.inj hp
                    subst hp
                    simp (disch := first | omega | (simp only [List.length_set, List.length_append, List.length_cons, List.length_nil, rows_len, zs]; first | done | omega)) only [ep_spec_VecOK, ep_spec_StampOK, ep_spec_StampLess, hv0, hb1, hb2, ftt0_0, ftt0_1, ftt0_2, ftt0_3, ftt0_4, hb4, hv5, hv6, hb7, hb8, hv9, hb10, hb11, hv12, hv13, hb14, gs, reduceIte, reduceCtorEq, Nat.reduceAdd, Nat.reduceMul, Nat.reduceSub, Nat.reduceBEq, Nat.reduceEqDiff, Nat.reduceLeDiff, Nat.reduceLT, Nat.reduceGT, Int.reduceToNat, Int.reduceLT, Int.reduceLE, Int.reduceNeg, Int.reduceAdd, Int.reduceEq, Int.reduceNe]
                · replace hb11 := eq_false_of_ne_true hb11
                  rw [if_f hb11] at hp
                  have hp := Option.some.inj hp
                  subst hp
                  simp (disch := first | omega | (simp only [List.length_set, List.length_append, List.length_cons, List.length_nil, rows_len, zs]; first | done | omega)) only [ep_spec_VecOK, ep_spec_StampOK, ep_spec_StampLess, hv0, hb1, hb2, ftt0_0, ftt0_1, ftt0_2, ftt0_3, ftt0_4, hb4, hv5, hv6, hb7, hb8, hv9, hb10, hb11, gs, reduceIte, reduceCtorEq, Nat.reduceAdd, Nat.reduceMul, Nat.reduceSub, Nat.reduceBEq, Nat.reduceEqDiff, Nat.reduceLeDiff, Nat.reduceLT, Nat.reduceGT, Int.reduceToNat, Int.reduceLT, Int.reduceLE, Int.reduceNeg, Int.reduceAdd, Int.reduceEq, Int.reduceNe] <;> omega
          · replace hb7 := eq_false_of_ne_true hb7
            rw [if_f hb7] at hp
            have hp := Option.some.inj hp
            subst hp
            simp (disch := first | omega | (simp only [List.length_set, List.length_append, List.length_cons, List.length_nil, rows_len, zs]; first | done | omega)) only [ep_spec_VecOK, ep_spec_StampOK, ep_spec_StampLess, hv0, hb1, hb2, ftt0_0, ftt0_1, ftt0_2, ftt0_3, ftt0_4, hb4, hv5, hv6, hb7, gs, reduceIte, reduceCtorEq, Nat.reduceAdd, Nat.reduceMul, Nat.reduceSub, Nat.reduceBEq, Nat.reduceEqDiff, Nat.reduceLeDiff, Nat.reduceLT, Nat.reduceGT, Int.reduceToNat, Int.reduceLT, Int.reduceLE, Int.reduceNeg, Int.reduceAdd, Int.reduceEq, Int.reduceNe]
        · replace hb4 := eq_false_of_ne_true hb4
          rw [if_f hb4] at hp
          have hp := Option.some.inj hp
          subst hp
          simp (disch := first | omega | (simp only [List.length_set, List.length_append, List.length_cons, List.length_nil, rows_len, zs]; first | done | omega)) only [ep_spec_VecOK, ep_spec_StampOK, ep_spec_StampLess, hv0, hb1, hb2, ftt0_0, ftt0_1, ftt0_2, ftt0_3, ftt0_4, hb4, gs, reduceIte, reduceCtorEq, Nat.reduceAdd, Nat.reduceMul, Nat.reduceSub, Nat.reduceBEq, Nat.reduceEqDiff, Nat.reduceLeDiff, Nat.reduceLT, Nat.reduceGT, Int.reduceToNat, Int.reduceLT, Int.reduceLE, Int.reduceNeg, Int.reduceAdd, Int.reduceEq, Int.reduceNe] <;> omega
      · simp (disch := first | omega | (simp only [List.length_set, List.length_append, List.length_cons, List.length_nil, rows_len, zs]; first | done | omega)) only [ep_spec_VecOK, ep_spec_StampOK, ep_spec_StampLess, hv0, hb1, hb2, gs, reduceIte, reduceCtorEq, Nat.reduceAdd, Nat.reduceMul, Nat.reduceSub, Nat.reduceBEq, Nat.reduceEqDiff, Nat.reduceLeDiff, Nat.reduceLT, Nat.reduceGT, Int.reduceToNat, Int.reduceLT, Int.reduceLE, Int.reduceNeg, Int.reduceAdd, Int.reduceEq, Int.reduceNe] <;> omega
      · intro x tt1 hh1 hx
        rcases ee0 with o15 | r
        · obtain ⟨rfl, ftt1_0, ftt1_1, ftt1_2, ftt1_3, ftt1_4⟩ := hx
          dsimp only at hp
          have hp := Option.some.inj hp
          subst hp
          simp (disch := first | omega | (simp only [List.length_set, List.length_append, List.length_cons, List.length_nil, rows_len, zs]; first | done | omega)) only [ep_spec_VecOK, ep_spec_StampOK, ep_spec_StampLess, hv0, hb1, hb2, ftt1_0, ftt1_1, ftt1_2, ftt1_3, ftt1_4, gs, reduceIte, reduceCtorEq, Nat.reduceAdd, Nat.reduceMul, Nat.reduceSub, Nat.reduceBEq, Nat.reduceEqDiff, Nat.reduceLeDiff, Nat.reduceLT, Nat.reduceGT, Int.reduceToNat, Int.reduceLT, Int.reduceLE, Int.reduceNeg, Int.reduceAdd, Int.reduceEq, Int.reduceNe]
        · obtain ⟨rfl, hx⟩ := hx
          dsimp only at hp
          cases hp
          simp only [seqK_ret, blockK_ret, retK_RK (K := Tells true), hx, and_self, true_and]
  · replace hb1 := eq_false_of_ne_true hb1
    rw [if_f hb1] at hp
    have hp := Option.some.inj hp
    subst hp
    simp (disch := first | omega | (simp only [List.length_set, List.length_append, List.length_cons, List.length_nil, rows_len, zs]; first | done | omega)) only [ep_spec_VecOK, ep_spec_StampOK, ep_spec_StampLess, hv0, hb1, gs, reduceIte, reduceCtorEq, Nat.reduceAdd, Nat.reduceMul, Nat.reduceSub, Nat.reduceBEq, Nat.reduceEqDiff, Nat.reduceLeDiff, Nat.reduceLT, Nat.reduceGT, Int.reduceToNat, Int.reduceLT, Int.reduceLE, Int.reduceNeg, Int.reduceAdd, Int.reduceEq, Int.reduceNe]

noncomputable def p_spec_l03Find_l0 (x0 : List TEntry) (x1 : TStamp) : Int → Option (Lp (Int) Int)
  | s0 =>
    if (decide (s0 < (x0.length : Int))) = true then
      (get? x0 s0).bind fun v2 =>
      if ((decide (v2.stamp.time = x1.time) && decide (v2.stamp.actor = x1.actor))) = true then
        some (.ret s0)
      else
        some (.go (w64 (s0 + 1)))
    else
      some (.out s0)
noncomputable def p_spec_l03Find (x0 : List TEntry) (x1 : TStamp) : Option Int :=
  (loopP (p_spec_l03Find_l0 x0 x1) 0).bind fun ee0 => match ee0 with
  | .ret r => some r
  | .out o4 =>
    some (-1)
def c_spec_l03Find : AFn := ⟨20, (.seq (.ops [⟨(.some 3), (.box (.tmp 1)), .none, []⟩, ⟨(.some 4), (.mv (.const (.int .i64 0))), .none, []⟩]) (.seq (.seq (.ops [⟨(.some 5), (.mv (.const (.int .i64 0))), .none, []⟩]) (.block 0 (.loop (.seq (.seq (.ops [⟨(.some 6), (.mv (.tmp 5)), .none, []⟩, ⟨(.some 7), (.mv (.tmp 0)), .none, []⟩, ⟨(.some 8), (.len (.tmp 7)), .none, []⟩, ⟨(.some 9), (.pu (.n (.ar .lss)) [(.tmp 6), (.tmp 8)]), .none, []⟩]) (.cond (.tmp 9) .skip (.exit 0))) (.seq (.block 1 (.seq (.ops [⟨(.some 12), (.mv (.tmp 0)), .none, []⟩, ⟨(.some 13), (.mv (.tmp 5)), .none, []⟩, ⟨(.some 14), (.idxS 3 (.tmp 12) (.tmp 13)), .none, []⟩, ⟨(.some 15), (.fieldA 0 (.tmp 14)), .none, []⟩, ⟨(.some 16), (.load 2 true (.tmp 15)), .none, []⟩, ⟨(.some 17), (.load 2 true (.tmp 3)), .none, []⟩, ⟨(.some 18), (.aeq false [(.int .i64), (.int .i64)] (.tmp 16) (.tmp 17)), .none, []⟩]) (.cond (.tmp 18) (.seq (.ops [⟨(.some 19), (.mv (.tmp 5)), .none, []⟩, ⟨(.some 4), (.mv (.tmp 19)), .none, []⟩]) .ret) .skip))) (.ops [⟨(.some 10), (.mv (.tmp 5)), .none, []⟩, ⟨(.some 11), (.pu (.n (.ar .add)) [(.tmp 10), (.const (.int .i64 1))]), .none, []⟩, ⟨(.some 5), (.mv (.tmp 11)), .none, []⟩])))))) (.seq (.ops [⟨(.some 4), (.mv (.const (.int .i64 (-1)))), .none, []⟩]) .ret))), [(.tmp 4)]⟩
set_option maxHeartbeats 10000000 in
theorem d_spec_l03Find {P : Program} {env : Env}  (x0 : List TEntry) (x1 : TStamp) {b : Int} (hp : p_spec_l03Find x0 x1 = some b) : R P env (c_spec_l03Find) ((encA (x0, x1)).map ofI) [] (Tells true b) := by
  refine R_of (by simp [c_spec_l03Find, encA]) ?_
  unfold c_spec_l03Find
  unfold p_spec_l03Find at hp
  obtain ⟨ee0, hee0, hp⟩ := bind_eq hp
  simp (disch := first | omega | (simp only [List.length_set, List.length_append, List.length_cons, List.length_nil, rows_len, zs]; first | done | omega)) only [gs, reduceIte, reduceCtorEq, Nat.reduceAdd, Nat.reduceMul, Nat.reduceSub, Nat.reduceBEq, Nat.reduceEqDiff, Nat.reduceLeDiff, Nat.reduceLT, Nat.reduceGT, Int.reduceToNat, Int.reduceLT, Int.reduceLE, Int.reduceNeg, Int.reduceAdd, Int.reduceEq, Int.reduceNe]
  refine W_loopP 0 (fun s t h => match s with | s0 => t 0 = .i (.sl 3 (x0.map enc)) ∧ t 3 = .ptr 0 2 0 ∧ t 5 = .i (.s (.int .i64 s0)) ∧ getCells h 0 2 = some [.i (.s (.int .i64 x1.time)), .i (.s (.int .i64 x1.actor))] ∧ 0 < h.length) (RK [.tmp 4] (Tells true)) ?_ hee0 ?_ ?_
  · rintro s0 ee tt0 hh0 ⟨ftt0_0, ftt0_1, ftt0_2, ftt0_3, ftt0_4⟩ hp
    rw [p_spec_l03Find_l0] at hp
    by_cases hb1 : (decide (s0 < (x0.length : Int))) = true
    · rw [if_t hb1] at hp
      obtain ⟨v2, hv2, hp⟩ := bind_eq hp
      by_cases hb3 : ((decide (v2.stamp.time = x1.time) && decide (v2.stamp.actor = x1.actor))) = true
      · rw [if_t hb3] at hp
        have hp := Option.some.inj hp
        subst hp
        simp (disch := first | omega | (simp only [List.length_set, List.length_append, List.length_cons, List.length_nil, rows_len, zs]; first | done | omega)) only [ftt0_0, ftt0_1, ftt0_2, ftt0_3, ftt0_4, hb1, hv2, hb3, gs, reduceIte, reduceCtorEq, Nat.reduceAdd, Nat.reduceMul, Nat.reduceSub, Nat.reduceBEq, Nat.reduceEqDiff, Nat.reduceLeDiff, Nat.reduceLT, Nat.reduceGT, Int.reduceToNat, Int.reduceLT, Int.reduceLE, Int.reduceNeg, Int.reduceAdd, Int.reduceEq, Int.reduceNe]
      · replace hb3 := eq_false_of_ne_true hb3
        rw [if_f hb3] at hp
        have hp := Option.some.inj hp
        subst hp
        simp (disch := first | omega | (simp only [List.length_set, List.length_append, List.length_cons, List.length_nil, rows_len, zs]; first | done | omega)) only [ftt0_0, ftt0_1, ftt0_2, ftt0_3, ftt0_4, hb1, hv2, hb3, gs, reduceIte, reduceCtorEq, Nat.reduceAdd, Nat.reduceMul, Nat.reduceSub, Nat.reduceBEq, Nat.reduceEqDiff, Nat.reduceLeDiff, Nat.reduceLT, Nat.reduceGT, Int.reduceToNat, Int.reduceLT, Int.reduceLE, Int.reduceNeg, Int.reduceAdd, Int.reduceEq, Int.reduceNe] <;> omega
    · replace hb1 := eq_false_of_ne_true hb1
      rw [if_f hb1] at hp
      have hp := Option.some.inj hp
      subst hp
      simp (disch := first | omega | (simp only [List.length_set, List.length_append, List.length_cons, List.length_nil, rows_len, zs]; first | done | omega)) only [ftt0_0, ftt0_1, ftt0_2, ftt0_3, ftt0_4, hb1, gs, reduceIte, reduceCtorEq, Nat.reduceAdd, Nat.reduceMul, Nat.reduceSub, Nat.reduceBEq, Nat.reduceEqDiff, Nat.reduceLeDiff, Nat.reduceLT, Nat.reduceGT, Int.reduceToNat, Int.reduceLT, Int.reduceLE, Int.reduceNeg, Int.reduceAdd, Int.reduceEq, Int.reduceNe] <;> omega
  · simp (disch := first | omega | (simp only [List.length_set, List.length_append, List.length_cons, List.length_nil, rows_len, zs]; first | done | omega)) only [gs, reduceIte, reduceCtorEq, Nat.reduceAdd, Nat.reduceMul, Nat.reduceSub, Nat.reduceBEq, Nat.reduceEqDiff, Nat.reduceLeDiff, Nat.reduceLT, Nat.reduceGT, Int.reduceToNat, Int.reduceLT, Int.reduceLE, Int.reduceNeg, Int.reduceAdd, Int.reduceEq, Int.reduceNe] <;> omega
  · intro x tt1 hh1 hx
    rcases ee0 with o4 | r
    · obtain ⟨rfl, ftt1_0, ftt1_1, ftt1_2, ftt1_3, ftt1_4⟩ := hx
      dsimp only at hp
      have hp := Option.some.inj hp
      subst hp
      simp (disch := first | omega | (simp only [List.length_set, List.length_append, List.length_cons, List.length_nil, rows_len, zs]; first | done | omega)) only [ftt1_0, ftt1_1, ftt1_2, ftt1_3, ftt1_4, gs, reduceIte, reduceCtorEq, Nat.reduceAdd, Nat.reduceMul, Nat.reduceSub, Nat.reduceBEq, Nat.reduceEqDiff, Nat.reduceLeDiff, Nat.reduceLT, Nat.reduceGT, Int.reduceToNat, Int.reduceLT, Int.reduceLE, Int.reduceNeg, Int.reduceAdd, Int.reduceEq, Int.reduceNe]
    · obtain ⟨rfl, hx⟩ := hx
      dsimp only at hp
      cases hp
      simp only [seqK_ret, blockK_ret, retK_RK (K := Tells true), hx, and_self, true_and]

noncomputable def p_spec_l03Insert_l0 (x0 : List TEntry) (x1 : TEntry) : Int → Option (Lp (Int) (List TEntry))
  | s0 =>
    if (decide (s0 < (x0.length : Int))) = true then
      (get? x0 s0).bind fun v2 =>
      (p_spec_StampLess v2.stamp x1.stamp).bind fun v3 =>
      if (v3) = true then
        some (.go (w64 (s0 + 1)))
      else
        some (.out s0)
    else
      some (.out s0)
noncomputable def p_spec_l03Insert (x0 : List TEntry) (x1 : TEntry) : Option (List TEntry) :=
  (loopP (p_spec_l03Insert_l0 x0 x1) 0).bind fun ee0 => match ee0 with
  | .ret r => some r
  | .out o5 =>
    (cut? x0 0 o5).bind fun v6 =>
    (app? 32 ([] : List TEntry) v6).bind fun v7 =>
    (app? 32 v7 ([x1])).bind fun v8 =>
    (cut? x0 o5 (x0.length : Int)).bind fun v9 =>
    (app? 32 v8 v9).bind fun v10 =>
    some v10
def c_spec_l03Insert (f_spec_StampLess : Nat) : AFn := ⟨37, (.seq (.ops [⟨(.some 3), (.box (.tmp 1)), .none, []⟩, ⟨(.some 4), (.vnil 3 true), .none, []⟩]) (.seq (.ops [⟨(.some 5), (.mv (.const (.int .i64 0))), .none, []⟩]) (.seq (.block 0 (.loop (.seq (.seq (.ops [⟨(.some 7), (.mv (.tmp 5)), .none, []⟩, ⟨(.some 8), (.mv (.tmp 0)), .none, []⟩, ⟨(.some 9), (.len (.tmp 8)), .none, []⟩, ⟨(.some 10), (.pu (.n (.ar .lss)) [(.tmp 7), (.tmp 9)]), .none, []⟩, ⟨(.some 11), (.mv (.tmp 10)), .none, []⟩, ⟨(.some 12), (.mv (.tmp 0)), (.some (11, true)), []⟩, ⟨(.some 13), (.mv (.tmp 5)), (.some (11, true)), []⟩, ⟨(.some 14), (.idxS 3 (.tmp 12) (.tmp 13)), (.some (11, true)), []⟩, ⟨(.some 15), (.fieldA 0 (.tmp 14)), (.some (11, true)), []⟩, ⟨(.some 16), (.load 2 true (.tmp 15)), (.some (11, true)), []⟩, ⟨(.some 17), (.fieldA 0 (.tmp 3)), (.some (11, true)), []⟩, ⟨(.some 18), (.load 2 true (.tmp 17)), (.some (11, true)), []⟩, ⟨(.some 19), (.call (2 * f_spec_StampLess) [(.tmp 16), (.tmp 18)]), (.some (11, true)), []⟩, ⟨(.some 20), (.pick (.tmp 11) (.tmp 19) (.const (.bool false))), .none, []⟩]) (.cond (.tmp 20) .skip (.exit 0))) (.block 1 (.ops [⟨(.some 21), (.mv (.tmp 5)), .none, []⟩, ⟨(.some 22), (.pu (.n (.ar .add)) [(.tmp 21), (.const (.int .i64 1))]), .none, []⟩, ⟨(.some 5), (.mv (.tmp 22)), .none, []⟩]))))) (.seq (.ops [⟨(.some 23), (.buildSl 3 true 0 [(.int .i64 0), (.int .i64 0), (.string ⟨#[]⟩)] []), .none, []⟩, ⟨(.some 24), (.mv (.tmp 0)), .none, []⟩, ⟨(.some 25), (.mv (.tmp 5)), .none, []⟩, ⟨(.some 26), (.slice 3 (.tmp 24) .none (.some (.tmp 25))), .none, []⟩, ⟨(.some 27), (.append 3 true 32 (.tmp 23) (.tmp 26)), .none, []⟩, ⟨(.some 6), (.mv (.tmp 27)), .none, []⟩]) (.seq (.ops [⟨(.some 28), (.mv (.tmp 6)), .none, []⟩, ⟨(.some 29), (.load 3 true (.tmp 3)), .none, []⟩, ⟨(.some 30), (.buildSl 3 true 1 [(.int .i64 0), (.int .i64 0), (.string ⟨#[]⟩)] [(0, (.tmp 29))]), .none, []⟩, ⟨(.some 31), (.append 3 true 32 (.tmp 28) (.tmp 30)), .none, []⟩, ⟨(.some 6), (.mv (.tmp 31)), .none, []⟩]) (.seq (.ops [⟨(.some 32), (.mv (.tmp 6)), .none, []⟩, ⟨(.some 33), (.mv (.tmp 0)), .none, []⟩, ⟨(.some 34), (.mv (.tmp 5)), .none, []⟩, ⟨(.some 35), (.slice 3 (.tmp 33) (.some (.tmp 34)) .none), .none, []⟩, ⟨(.some 36), (.append 3 true 32 (.tmp 32) (.tmp 35)), .none, []⟩, ⟨(.some 4), (.mv (.tmp 36)), .none, []⟩]) .ret)))))), [(.tmp 4)]⟩
def o_spec_l03Insert (b : List TEntry) (v : V) (h : Heap) : Prop := ∃ n0 : Nat, v = .hsl n0 (b.length * 3) 0 3 true b.length ∧ getCells h n0 (b.length * 3) = some (rows b)
def oo_spec_l03Insert (b : List TEntry) (h : Heap) (v : V) (h2 : Heap) : Prop := Keep [] h h2 ∧ ∃ n0 : Nat, v = .hsl n0 (b.length * 3) 0 3 true b.length ∧ n0 < h2.length ∧ h.length ≤ n0 ∧ getCells h2 n0 (b.length * 3) = some (rows b)
def k_spec_l03Insert (F : Fun) : Prop := ∀ (x0 : List TEntry) (x1 : TEntry) (b : List TEntry), p_spec_l03Insert x0 x1 = some b → ∀ (h : Heap) (args : List V), snapA 9 false h args = some (encA (x0, x1)) → ∃ p, F none args h = some p ∧ oo_spec_l03Insert b h p.1 p.2
set_option maxHeartbeats 10000000 in
theorem w_spec_l03Insert {P : Program} {env : Env} {f_spec_StampLess : Nat}  (ep_spec_StampLess : env (2 * f_spec_StampLess) = pureFn true (FA fun a : TStamp × TStamp => p_spec_StampLess a.1 a.2)) (x0 : List TEntry) (x1 : TEntry) {b : List TEntry} (hp : p_spec_l03Insert x0 x1 = some b) : R P env (c_spec_l03Insert f_spec_StampLess) ((encA (x0, x1)).map ofI) [] (o_spec_l03Insert b) := by
  refine R_of (by simp [c_spec_l03Insert, encA]) ?_
  unfold c_spec_l03Insert
  unfold p_spec_l03Insert at hp
  obtain ⟨ee0, hee0, hp⟩ := bind_eq hp
  simp (disch := first | omega | (simp only [List.length_set, List.length_append, List.length_cons, List.length_nil, rows_len, zs]; first | done | omega)) only [ep_spec_StampLess, gs, reduceIte, reduceCtorEq, Nat.reduceAdd, Nat.reduceMul, Nat.reduceSub, Nat.reduceBEq, Nat.reduceEqDiff, Nat.reduceLeDiff, Nat.reduceLT, Nat.reduceGT, Int.reduceToNat, Int.reduceLT, Int.reduceLE, Int.reduceNeg, Int.reduceAdd, Int.reduceEq, Int.reduceNe]
  refine W_loopP 0 (fun s t h => match s with | s0 => t 0 = .i (.sl 3 (x0.map enc)) ∧ t 3 = .ptr 0 3 0 ∧ t 5 = .i (.s (.int .i64 s0)) ∧ getCells h 0 3 = some [.i (.s (.int .i64 x1.stamp.time)), .i (.s (.int .i64 x1.stamp.actor)), .i (.s (.string x1.text))] ∧ 0 < h.length) (RK [.tmp 4] (o_spec_l03Insert)) ?_ hee0 ?_ ?_
  · rintro s0 ee tt0 hh0 ⟨ftt0_0, ftt0_1, ftt0_2, ftt0_3, ftt0_4⟩ hp
    rw [p_spec_l03Insert_l0] at hp
    by_cases hb1 : (decide (s0 < (x0.length : Int))) = true
    · rw [if_t hb1] at hp
      obtain ⟨v2, hv2, hp⟩ := bind_eq hp
      obtain ⟨v3, hv3, hp⟩ := bind_eq hp
      by_cases hb4 : (v3) = true
      · rw [if_t hb4] at hp
        have hp := Option.some.inj hp
        subst hp
        simp (disch := first | omega | (simp only [List.length_set, List.length_append, List.length_cons, List.length_nil, rows_len, zs]; first | done | omega)) only [ep_spec_StampLess, ftt0_0, ftt0_1, ftt0_2, ftt0_3, ftt0_4, hb1, hv2, hv3, hb4, gs, reduceIte, reduceCtorEq, Nat.reduceAdd, Nat.reduceMul, Nat.reduceSub, Nat.reduceBEq, Nat.reduceEqDiff, Nat.reduceLeDiff, Nat.reduceLT, Nat.reduceGT, Int.reduceToNat, Int.reduceLT, Int.reduceLE, Int.reduceNeg, Int.reduceAdd, Int.reduceEq, Int.reduceNe] <;> omega
      · replace hb4 := eq_false_of_ne_true hb4
        rw [if_f hb4] at hp
        have hp := Option.some.inj hp
        subst hp
        simp (disch := first | omega | (simp only [List.length_set, List.length_append, List.length_cons, List.length_nil, rows_len, zs]; first | done | omega)) only [ep_spec_StampLess, ftt0_0, ftt0_1, ftt0_2, ftt0_3, ftt0_4, hb1, hv2, hv3, hb4, gs, reduceIte, reduceCtorEq, Nat.reduceAdd, Nat.reduceMul, Nat.reduceSub, Nat.reduceBEq, Nat.reduceEqDiff, Nat.reduceLeDiff, Nat.reduceLT, Nat.reduceGT, Int.reduceToNat, Int.reduceLT, Int.reduceLE, Int.reduceNeg, Int.reduceAdd, Int.reduceEq, Int.reduceNe] <;> omega
    · replace hb1 := eq_false_of_ne_true hb1
      rw [if_f hb1] at hp
      have hp := Option.some.inj hp
      subst hp
      simp (disch := first | omega | (simp only [List.length_set, List.length_append, List.length_cons, List.length_nil, rows_len, zs]; first | done | omega)) only [ep_spec_StampLess, ftt0_0, ftt0_1, ftt0_2, ftt0_3, ftt0_4, hb1, gs, reduceIte, reduceCtorEq, Nat.reduceAdd, Nat.reduceMul, Nat.reduceSub, Nat.reduceBEq, Nat.reduceEqDiff, Nat.reduceLeDiff, Nat.reduceLT, Nat.reduceGT, Int.reduceToNat, Int.reduceLT, Int.reduceLE, Int.reduceNeg, Int.reduceAdd, Int.reduceEq, Int.reduceNe] <;> omega
  · simp (disch := first | omega | (simp only [List.length_set, List.length_append, List.length_cons, List.length_nil, rows_len, zs]; first | done | omega)) only [ep_spec_StampLess, gs, reduceIte, reduceCtorEq, Nat.reduceAdd, Nat.reduceMul, Nat.reduceSub, Nat.reduceBEq, Nat.reduceEqDiff, Nat.reduceLeDiff, Nat.reduceLT, Nat.reduceGT, Int.reduceToNat, Int.reduceLT, Int.reduceLE, Int.reduceNeg, Int.reduceAdd, Int.reduceEq, Int.reduceNe] <;> omega
  · intro x tt1 hh1 hx
    rcases ee0 with o5 | r
    · obtain ⟨rfl, ftt1_0, ftt1_1, ftt1_2, ftt1_3, ftt1_4⟩ := hx
      dsimp only at hp
      obtain ⟨v6, hv6, hp⟩ := bind_eq hp
      obtain ⟨v7, hv7, hp⟩ := bind_eq hp
      simp (disch := first | omega | (simp only [List.length_set, List.length_append, List.length_cons, List.length_nil, rows_len, zs]; first | done | omega)) only [ep_spec_StampLess, ftt1_0, ftt1_1, ftt1_2, ftt1_3, ftt1_4, hv6, gs, reduceIte, reduceCtorEq, Nat.reduceAdd, Nat.reduceMul, Nat.reduceSub, Nat.reduceBEq, Nat.reduceEqDiff, Nat.reduceLeDiff, Nat.reduceLT, Nat.reduceGT, Int.reduceToNat, Int.reduceLT, Int.reduceLE, Int.reduceNeg, Int.reduceAdd, Int.reduceEq, Int.reduceNe]
      refine app_f (b := hh1.length) (xs := ([] : List TEntry)) (ys := v6) (fun h => getCells h 0 3 = some [.i (.s (.int .i64 x1.stamp.time)), .i (.s (.int .i64 x1.stamp.actor)), .i (.s (.string x1.text))] ∧ 0 < h.length ∧ getCells h hh1.length 0 = some [] ∧ hh1.length < h.length) ?_ ?_ hv7 rfl (by first | rfl | omega | (simp; omega)) (by first | rfl | omega | (simp; omega)) (by first | rfl | omega | (simp; omega)) ?_
      · simp (disch := first | omega | (simp only [List.length_set, List.length_append, List.length_cons, List.length_nil, rows_len, zs]; first | done | omega)) only [ep_spec_StampLess, ftt1_0, ftt1_1, ftt1_2, ftt1_3, ftt1_4, hv6, hv7, gs, reduceIte, reduceCtorEq, Nat.reduceAdd, Nat.reduceMul, Nat.reduceSub, Nat.reduceBEq, Nat.reduceEqDiff, Nat.reduceLeDiff, Nat.reduceLT, Nat.reduceGT, Int.reduceToNat, Int.reduceLT, Int.reduceLE, Int.reduceNeg, Int.reduceAdd, Int.reduceEq, Int.reduceNe] <;> omega
      · rintro h ⟨c2_0, c2_1, c2_2, c2_3⟩
        exact gc_eq c2_2 (by omega)
      · rintro h hh2 ⟨c2_0, c2_1, c2_2, c2_3⟩ kk2 w2
        have d2_0 : getCells hh2 0 3 = some [.i (.s (.int .i64 x1.stamp.time)), .i (.s (.int .i64 x1.stamp.actor)), .i (.s (.string x1.text))] := (keep_get kk2 c2_1 (by first | (simp; done) | (simp; omega))).trans c2_0
        have d2_0l := keep_lt kk2 c2_1
        have d2_1 : getCells hh2 hh1.length (v7.length * 3) = some (rows (v7 : List TEntry)) := by simpa only [Nat.mul_one] using w2
        have d2_1l := keep_lt kk2 c2_3
        obtain ⟨v8, hv8, hp⟩ := bind_eq hp
        obtain ⟨kv8, qv8, lv8⟩ := app_some hv8
        have rv8 : rows v7 ++ [.i (.s (.int .i64 x1.stamp.time)), .i (.s (.int .i64 x1.stamp.actor)), .i (.s (.string x1.text))] = rows v8 := by rw [qv8, rows_append]; rfl
        have mv8 : v7.length + 1 = v8.length := by simp at lv8; omega
        have nv8 : (v7.length + 1) * 32 ≤ 140737488355328 := by simp at kv8; omega
        obtain ⟨v9, hv9, hp⟩ := bind_eq hp
        obtain ⟨v10, hv10, hp⟩ := bind_eq hp
        simp (disch := first | omega | (simp only [List.length_set, List.length_append, List.length_cons, List.length_nil, rows_len, zs]; first | done | omega)) only [ep_spec_StampLess, ftt1_0, ftt1_1, ftt1_2, ftt1_3, ftt1_4, hv6, hv7, d2_0, d2_1, hv8, rv8, nv8, hv9, gs, reduceIte, reduceCtorEq, Nat.reduceAdd, Nat.reduceMul, Nat.reduceSub, Nat.reduceBEq, Nat.reduceEqDiff, Nat.reduceLeDiff, Nat.reduceLT, Nat.reduceGT, Int.reduceToNat, Int.reduceLT, Int.reduceLE, Int.reduceNeg, Int.reduceAdd, Int.reduceEq, Int.reduceNe]
        refine app_f (b := hh1.length) (xs := v8) (ys := v9) (fun h => getCells h 0 3 = some [.i (.s (.int .i64 x1.stamp.time)), .i (.s (.int .i64 x1.stamp.actor)), .i (.s (.string x1.text))] ∧ 0 < h.length ∧ getCells h hh1.length ((v7.length + 1) * 3) = some (rows (v8 : List TEntry)) ∧ hh1.length < h.length ∧ getCells h hh2.length 3 = some (rows ([x1] : List TEntry)) ∧ hh2.length < h.length) ?_ ?_ hv10 rfl (by first | rfl | omega | (simp; omega)) (by first | rfl | omega | (simp; omega)) (by first | rfl | omega | (simp; omega)) ?_
        · simp (disch := first | omega | (simp only [List.length_set, List.length_append, List.length_cons, List.length_nil, rows_len, zs]; first | done | omega)) only [ep_spec_StampLess, ftt1_0, ftt1_1, ftt1_2, ftt1_3, ftt1_4, hv6, hv7, d2_0, d2_1, hv8, rv8, nv8, hv9, hv10, gs, reduceIte, reduceCtorEq, Nat.reduceAdd, Nat.reduceMul, Nat.reduceSub, Nat.reduceBEq, Nat.reduceEqDiff, Nat.reduceLeDiff, Nat.reduceLT, Nat.reduceGT, Int.reduceToNat, Int.reduceLT, Int.reduceLE, Int.reduceNeg, Int.reduceAdd, Int.reduceEq, Int.reduceNe] <;> omega
        · rintro h ⟨c3_0, c3_1, c3_2, c3_3, c3_4, c3_5⟩
          exact gc_eq c3_2 (by omega)
        · rintro h hh3 ⟨c3_0, c3_1, c3_2, c3_3, c3_4, c3_5⟩ kk3 w3
          have d3_0 : getCells hh3 0 3 = some [.i (.s (.int .i64 x1.stamp.time)), .i (.s (.int .i64 x1.stamp.actor)), .i (.s (.string x1.text))] := (keep_get kk3 c3_1 (by first | (simp; done) | (simp; omega))).trans c3_0
          have d3_0l := keep_lt kk3 c3_1
          have d3_1 : getCells hh3 hh1.length (v10.length * 3) = some (rows (v10 : List TEntry)) := by simpa only [Nat.mul_one] using w3
          have d3_1l := keep_lt kk3 c3_3
          have d3_2 : getCells hh3 hh2.length 3 = some (rows ([x1] : List TEntry)) := (keep_get kk3 c3_5 (by first | (simp; done) | (simp; omega))).trans c3_4
          have d3_2l := keep_lt kk3 c3_5
          have hp := Option.some.inj hp
          subst hp
          simp (disch := first | omega | (simp only [List.length_set, List.length_append, List.length_cons, List.length_nil, rows_len, zs]; first | done | omega)) only [ep_spec_StampLess, ftt1_0, ftt1_1, ftt1_2, ftt1_3, ftt1_4, hv6, hv7, d2_0, d2_1, hv8, rv8, nv8, hv9, hv10, d3_0, d3_1, d3_2, gs, reduceIte, reduceCtorEq, Nat.reduceAdd, Nat.reduceMul, Nat.reduceSub, Nat.reduceBEq, Nat.reduceEqDiff, Nat.reduceLeDiff, Nat.reduceLT, Nat.reduceGT, Int.reduceToNat, Int.reduceLT, Int.reduceLE, Int.reduceNeg, Int.reduceAdd, Int.reduceEq, Int.reduceNe]
          refine ⟨hh1.length, ?_⟩
          simp (disch := first | omega | (simp only [List.length_set, List.length_append, List.length_cons, List.length_nil, rows_len, zs]; first | done | omega)) only [ep_spec_StampLess, ftt1_0, ftt1_1, ftt1_2, ftt1_3, ftt1_4, hv6, hv7, d2_0, d2_1, hv8, rv8, nv8, hv9, hv10, d3_0, d3_1, d3_2, o_spec_l03Insert, gs, reduceIte, reduceCtorEq, Nat.reduceAdd, Nat.reduceMul, Nat.reduceSub, Nat.reduceBEq, Nat.reduceEqDiff, Nat.reduceLeDiff, Nat.reduceLT, Nat.reduceGT, Int.reduceToNat, Int.reduceLT, Int.reduceLE, Int.reduceNeg, Int.reduceAdd, Int.reduceEq, Int.reduceNe] <;> omega
    · obtain ⟨rfl, hx⟩ := hx
      dsimp only at hp
      cases hp
      simp only [seqK_ret, blockK_ret, retK_RK (K := o_spec_l03Insert), hx, and_self, true_and]
theorem ko_spec_l03Insert {P : Program} {env : Env} {f_spec_StampLess : Nat}  (ep_spec_StampLess : env (2 * f_spec_StampLess) = pureFn true (FA fun a : TStamp × TStamp => p_spec_StampLess a.1 a.2)) : k_spec_l03Insert (ownFn P env (c_spec_l03Insert f_spec_StampLess)) := by
  intro x0 x1 b hp h args has
  obtain ⟨⟨v, H2⟩, hr, n0, rfl, wn0⟩ := w_spec_l03Insert ep_spec_StampLess x0 x1 hp
  exact ⟨_, own_call has hr rfl, keep_moved, n0 + h.length, rfl, (moved_lt wn0).2, (moved_lt wn0).1, moved_rows wn0⟩

noncomputable def p_spec_l03Join_l0 (x1 : List TEntry) (x2 : TVec) (x3 : List TEntry) : List TEntry × Int → Option (Lp (List TEntry × Int) (List TEntry))
  | (s0, s1) =>
    if (decide (s1 < (x1.length : Int))) = true then
      (get? x1 s1).bind fun v3 =>
      (p_spec_l03Find x3 v3.stamp).bind fun v4 =>
      if (decide (0 ≤ v4)) = true then
        (get? x3 v4).bind fun v6 =>
        if ((Op.bytesLess v6.text.toList v3.text.toList || decide (v6.text = v3.text))) = true then
          (p_spec_l03Insert s0 v3).bind fun v8 =>
          some (.go (v8, w64 (s1 + 1)))
        else
          (p_spec_l03Insert s0 v6).bind fun v9 =>
          some (.go (v9, w64 (s1 + 1)))
      else
        (get? x2.counts v3.stamp.actor).bind fun v10 =>
        if (decide (v10 < v3.stamp.time)) = true then
          (p_spec_l03Insert s0 v3).bind fun v12 =>
          some (.go (v12, w64 (s1 + 1)))
        else
          some (.go (s0, w64 (s1 + 1)))
    else
      some (.out (s0, s1))
noncomputable def p_spec_l03Join_l1 (x0 : TVec) (x1 : List TEntry) (x3 : List TEntry) : List TEntry × Int → Option (Lp (List TEntry × Int) (List TEntry))
  | (s15, s16) =>
    if (decide (s16 < (x3.length : Int))) = true then
      (get? x3 s16).bind fun v18 =>
      (p_spec_l03Find x1 v18.stamp).bind fun v19 =>
      if (decide (v19 < 0)) = true then
        (get? x0.counts v18.stamp.actor).bind fun v21 =>
        if (decide (v21 < v18.stamp.time)) = true then
          (p_spec_l03Insert s15 v18).bind fun v23 =>
          some (.go (v23, w64 (s16 + 1)))
        else
          some (.go (s15, w64 (s16 + 1)))
      else
        some (.go (s15, w64 (s16 + 1)))
    else
      some (.out (s15, s16))
noncomputable def p_spec_l03Join (x0 : TVec) (x1 : List TEntry) (x2 : TVec) (x3 : List TEntry) : Option (List TEntry) :=
  (loopP (p_spec_l03Join_l0 x1 x2 x3) (([] : List TEntry), 0)).bind fun ee0 => match ee0 with
  | .ret r => some r
  | .out (o13, o14) =>
    (loopP (p_spec_l03Join_l1 x0 x1 x3) (o13, 0)).bind fun ee1 => match ee1 with
    | .ret r => some r
    | .out (o24, o25) =>
      some o24
def c_spec_l03Join (f_spec_l03Find : Nat) (f_spec_l03Insert : Nat) : AFn := ⟨103, (.seq (.ops [⟨(.some 4), (.box (.tmp 0)), .none, []⟩, ⟨(.some 6), (.box (.tmp 2)), .none, []⟩, ⟨(.some 8), (.vnil 3 true), .none, []⟩]) (.seq (.ops [⟨(.some 14), (.buildSl 3 true 0 [(.int .i64 0), (.int .i64 0), (.string ⟨#[]⟩)] []), .none, []⟩, ⟨(.some 9), (.mv (.tmp 14)), .none, []⟩]) (.seq (.seq (.ops [⟨(.some 10), (.mv (.const (.int .i64 0))), .none, []⟩]) (.block 0 (.loop (.seq (.seq (.ops [⟨(.some 15), (.mv (.tmp 10)), .none, []⟩, ⟨(.some 16), (.mv (.tmp 1)), .none, []⟩, ⟨(.some 17), (.len (.tmp 16)), .none, []⟩, ⟨(.some 18), (.pu (.n (.ar .lss)) [(.tmp 15), (.tmp 17)]), .none, []⟩]) (.cond (.tmp 18) .skip (.exit 0))) (.seq (.block 1 (.seq (.ops [⟨(.some 21), (.mv (.tmp 1)), .none, []⟩, ⟨(.some 22), (.mv (.tmp 10)), .none, []⟩, ⟨(.some 23), (.idxS 3 (.tmp 21) (.tmp 22)), .none, []⟩, ⟨(.some 24), (.load 3 true (.tmp 23)), .none, []⟩, ⟨(.some 11), (.allocV [(0, false), (0, false), (0, false)] [(.int .i64 0), (.int .i64 0), (.string ⟨#[]⟩)]), .none, []⟩, ⟨.none, (.storeV [(0, false), (0, false), (0, false)] 3 (.tmp 11) (.tmp 24)), .none, []⟩]) (.seq (.ops [⟨(.some 25), (.mv (.tmp 3)), .none, []⟩, ⟨(.some 26), (.fieldA 0 (.tmp 11)), .none, []⟩, ⟨(.some 27), (.load 2 true (.tmp 26)), .none, []⟩, ⟨(.some 28), (.call (2 * f_spec_l03Find) [(.tmp 25), (.tmp 27)]), .none, []⟩, ⟨(.some 12), (.mv (.tmp 28)), .none, []⟩]) (.seq (.seq (.ops [⟨(.some 29), (.mv (.tmp 12)), .none, []⟩, ⟨(.some 30), (.pu (.n (.ar .geq)) [(.tmp 29), (.const (.int .i64 0))]), .none, []⟩, ⟨(.some 31), (.mv (.tmp 30)), .none, []⟩, ⟨(.some 32), (.mv (.tmp 3)), (.some (31, true)), []⟩, ⟨(.some 33), (.mv (.tmp 12)), (.some (31, true)), []⟩, ⟨(.some 34), (.idxS 3 (.tmp 32) (.tmp 33)), (.some (31, true)), []⟩, ⟨(.some 35), (.fieldA 2 (.tmp 34)), (.some (31, true)), []⟩, ⟨(.some 36), (.load 1 false (.tmp 35)), (.some (31, true)), []⟩, ⟨(.some 37), (.fieldA 2 (.tmp 11)), (.some (31, true)), []⟩, ⟨(.some 38), (.load 1 false (.tmp 37)), (.some (31, true)), []⟩, ⟨(.some 39), (.pu (.n (.ar .gtr)) [(.tmp 36), (.tmp 38)]), (.some (31, true)), []⟩, ⟨(.some 40), (.pick (.tmp 31) (.tmp 39) (.const (.bool false))), .none, []⟩]) (.cond (.tmp 40) (.ops [⟨(.some 41), (.mv (.tmp 3)), .none, []⟩, ⟨(.some 42), (.mv (.tmp 12)), .none, []⟩, ⟨(.some 43), (.idxS 3 (.tmp 41) (.tmp 42)), .none, []⟩, ⟨(.some 44), (.load 3 true (.tmp 43)), .none, []⟩, ⟨.none, (.storeV [(0, false), (0, false), (0, false)] 3 (.tmp 11) (.tmp 44)), .none, []⟩]) .skip)) (.seq (.ops [⟨(.some 45), (.mv (.tmp 12)), .none, []⟩, ⟨(.some 46), (.pu (.n (.ar .geq)) [(.tmp 45), (.const (.int .i64 0))]), .none, []⟩, ⟨(.some 47), (.mv (.tmp 46)), .none, []⟩, ⟨(.some 48), (.fieldA 0 (.tmp 6)), (.some (47, false)), []⟩, ⟨(.some 49), (.load 1 false (.tmp 48)), (.some (47, false)), []⟩, ⟨(.some 50), (.fieldA 0 (.tmp 11)), (.some (47, false)), []⟩, ⟨(.some 51), (.fieldA 1 (.tmp 50)), (.some (47, false)), []⟩, ⟨(.some 52), (.load 1 false (.tmp 51)), (.some (47, false)), []⟩, ⟨(.some 53), (.idxS 1 (.tmp 49) (.tmp 52)), (.some (47, false)), []⟩, ⟨(.some 54), (.load 1 false (.tmp 53)), (.some (47, false)), []⟩, ⟨(.some 55), (.fieldA 0 (.tmp 11)), (.some (47, false)), []⟩, ⟨(.some 56), (.fieldA 0 (.tmp 55)), (.some (47, false)), []⟩, ⟨(.some 57), (.load 1 false (.tmp 56)), (.some (47, false)), []⟩, ⟨(.some 58), (.pu (.n (.ar .lss)) [(.tmp 54), (.tmp 57)]), (.some (47, false)), []⟩, ⟨(.some 59), (.pick (.tmp 47) (.const (.bool true)) (.tmp 58)), .none, []⟩]) (.cond (.tmp 59) (.ops [⟨(.some 60), (.mv (.tmp 9)), .none, []⟩, ⟨(.some 61), (.load 3 true (.tmp 11)), .none, []⟩, ⟨(.some 62), (.call (2 * f_spec_l03Insert + 1) [(.tmp 60), (.tmp 61)]), .none, []⟩, ⟨(.some 9), (.mv (.tmp 62)), .none, []⟩]) .skip)))))) (.ops [⟨(.some 19), (.mv (.tmp 10)), .none, []⟩, ⟨(.some 20), (.pu (.n (.ar .add)) [(.tmp 19), (.const (.int .i64 1))]), .none, []⟩, ⟨(.some 10), (.mv (.tmp 20)), .none, []⟩])))))) (.seq (.seq (.ops [⟨(.some 13), (.mv (.const (.int .i64 0))), .none, []⟩]) (.block 2 (.loop (.seq (.seq (.ops [⟨(.some 63), (.mv (.tmp 13)), .none, []⟩, ⟨(.some 64), (.mv (.tmp 3)), .none, []⟩, ⟨(.some 65), (.len (.tmp 64)), .none, []⟩, ⟨(.some 66), (.pu (.n (.ar .lss)) [(.tmp 63), (.tmp 65)]), .none, []⟩]) (.cond (.tmp 66) .skip (.exit 2))) (.seq (.block 3 (.seq (.ops [⟨(.some 69), (.mv (.tmp 1)), .none, []⟩, ⟨(.some 70), (.mv (.tmp 3)), .none, []⟩, ⟨(.some 71), (.mv (.tmp 13)), .none, []⟩, ⟨(.some 72), (.idxS 3 (.tmp 70) (.tmp 71)), .none, []⟩, ⟨(.some 73), (.fieldA 0 (.tmp 72)), .none, []⟩, ⟨(.some 74), (.load 2 true (.tmp 73)), .none, []⟩, ⟨(.some 75), (.call (2 * f_spec_l03Find) [(.tmp 69), (.tmp 74)]), .none, []⟩, ⟨(.some 76), (.pu (.n (.ar .lss)) [(.tmp 75), (.const (.int .i64 0))]), .none, []⟩, ⟨(.some 77), (.mv (.tmp 76)), .none, []⟩, ⟨(.some 78), (.fieldA 0 (.tmp 4)), (.some (77, true)), []⟩, ⟨(.some 79), (.load 1 false (.tmp 78)), (.some (77, true)), []⟩, ⟨(.some 80), (.mv (.tmp 3)), (.some (77, true)), []⟩, ⟨(.some 81), (.mv (.tmp 13)), (.some (77, true)), []⟩, ⟨(.some 82), (.idxS 3 (.tmp 80) (.tmp 81)), (.some (77, true)), []⟩, ⟨(.some 83), (.fieldA 0 (.tmp 82)), (.some (77, true)), []⟩, ⟨(.some 84), (.fieldA 1 (.tmp 83)), (.some (77, true)), []⟩, ⟨(.some 85), (.load 1 false (.tmp 84)), (.some (77, true)), []⟩, ⟨(.some 86), (.idxS 1 (.tmp 79) (.tmp 85)), (.some (77, true)), []⟩, ⟨(.some 87), (.load 1 false (.tmp 86)), (.some (77, true)), []⟩, ⟨(.some 88), (.mv (.tmp 3)), (.some (77, true)), []⟩, ⟨(.some 89), (.mv (.tmp 13)), (.some (77, true)), []⟩, ⟨(.some 90), (.idxS 3 (.tmp 88) (.tmp 89)), (.some (77, true)), []⟩, ⟨(.some 91), (.fieldA 0 (.tmp 90)), (.some (77, true)), []⟩, ⟨(.some 92), (.fieldA 0 (.tmp 91)), (.some (77, true)), []⟩, ⟨(.some 93), (.load 1 false (.tmp 92)), (.some (77, true)), []⟩, ⟨(.some 94), (.pu (.n (.ar .lss)) [(.tmp 87), (.tmp 93)]), (.some (77, true)), []⟩, ⟨(.some 95), (.pick (.tmp 77) (.tmp 94) (.const (.bool false))), .none, []⟩]) (.cond (.tmp 95) (.ops [⟨(.some 96), (.mv (.tmp 9)), .none, []⟩, ⟨(.some 97), (.mv (.tmp 3)), .none, []⟩, ⟨(.some 98), (.mv (.tmp 13)), .none, []⟩, ⟨(.some 99), (.idxS 3 (.tmp 97) (.tmp 98)), .none, []⟩, ⟨(.some 100), (.load 3 true (.tmp 99)), .none, []⟩, ⟨(.some 101), (.call (2 * f_spec_l03Insert + 1) [(.tmp 96), (.tmp 100)]), .none, []⟩, ⟨(.some 9), (.mv (.tmp 101)), .none, []⟩]) .skip))) (.ops [⟨(.some 67), (.mv (.tmp 13)), .none, []⟩, ⟨(.some 68), (.pu (.n (.ar .add)) [(.tmp 67), (.const (.int .i64 1))]), .none, []⟩, ⟨(.some 13), (.mv (.tmp 68)), .none, []⟩])))))) (.seq (.ops [⟨(.some 102), (.mv (.tmp 9)), .none, []⟩, ⟨(.some 8), (.mv (.tmp 102)), .none, []⟩]) .ret))))), [(.tmp 8)]⟩
def o_spec_l03Join (b : List TEntry) (v : V) (h : Heap) : Prop := ∃ n0 : Nat, v = .hsl n0 (b.length * 3) 0 3 true b.length ∧ getCells h n0 (b.length * 3) = some (rows b)
def oo_spec_l03Join (b : List TEntry) (h : Heap) (v : V) (h2 : Heap) : Prop := Keep [] h h2 ∧ ∃ n0 : Nat, v = .hsl n0 (b.length * 3) 0 3 true b.length ∧ n0 < h2.length ∧ h.length ≤ n0 ∧ getCells h2 n0 (b.length * 3) = some (rows b)
def k_spec_l03Join (F : Fun) : Prop := ∀ (x0 : TVec) (x1 : List TEntry) (x2 : TVec) (x3 : List TEntry) (b : List TEntry), p_spec_l03Join x0 x1 x2 x3 = some b → ∀ (h : Heap) (args : List V), snapA 9 false h args = some (encA (x0, x1, x2, x3)) → ∃ p, F none args h = some p ∧ oo_spec_l03Join b h p.1 p.2
set_option maxHeartbeats 10000000 in
theorem w_spec_l03Join {P : Program} {env : Env} {f_spec_l03Find : Nat} {f_spec_l03Insert : Nat}  (ep_spec_l03Find : env (2 * f_spec_l03Find) = pureFn true (FA fun a : List TEntry × TStamp => p_spec_l03Find a.1 a.2)) (e_spec_l03Insert : k_spec_l03Insert (env (2 * f_spec_l03Insert + 1))) (x0 : TVec) (x1 : List TEntry) (x2 : TVec) (x3 : List TEntry) {b : List TEntry} (hp : p_spec_l03Join x0 x1 x2 x3 = some b) : R P env (c_spec_l03Join f_spec_l03Find f_spec_l03Insert) ((encA (x0, x1, x2, x3)).map ofI) [] (o_spec_l03Join b) := by
  refine R_of (by simp [c_spec_l03Join, encA]) ?_
  unfold c_spec_l03Join
  unfold p_spec_l03Join at hp
  obtain ⟨ee0, hee0, hp⟩ := bind_eq hp
  simp (disch := first | omega | (simp only [List.length_set, List.length_append, List.length_cons, List.length_nil, rows_len, zs]; first | done | omega)) only [ep_spec_l03Find, gs, reduceIte, reduceCtorEq, Nat.reduceAdd, Nat.reduceMul, Nat.reduceSub, Nat.reduceBEq, Nat.reduceEqDiff, Nat.reduceLeDiff, Nat.reduceLT, Nat.reduceGT, Int.reduceToNat, Int.reduceLT, Int.reduceLE, Int.reduceNeg, Int.reduceAdd, Int.reduceEq, Int.reduceNe]
  refine W_loopP 0 (fun s t h => match s with | (s0, s1) => ∃ bk0_9 : Nat, t 1 = .i (.sl 3 (x1.map enc)) ∧ t 3 = .i (.sl 3 (x3.map enc)) ∧ t 4 = .ptr 0 1 0 ∧ t 6 = .ptr 1 1 0 ∧ t 9 = .hsl bk0_9 (s0.length * 3) 0 3 true s0.length ∧ t 10 = .i (.s (.int .i64 s1)) ∧ getCells h 0 1 = some [.i (.sl 1 (x0.counts.map enc))] ∧ 0 < h.length ∧ getCells h 1 1 = some [.i (.sl 1 (x2.counts.map enc))] ∧ 1 < h.length ∧ getCells h bk0_9 (s0.length * 3) = some (rows (s0 : List TEntry)) ∧ bk0_9 < h.length ∧ bk0_9 ≠ 0 ∧ bk0_9 ≠ 1) (RK [.tmp 8] (o_spec_l03Join)) ?_ hee0 ?_ ?_
  · rintro ⟨s0, s1⟩ ee tt0 hh0 ⟨bk0_9, ftt0_0, ftt0_1, ftt0_2, ftt0_3, ftt0_4, ftt0_5, ftt0_6, ftt0_7, ftt0_8, ftt0_9, ftt0_10, ftt0_11, ftt0_12, ftt0_13⟩ hp
    rw [p_spec_l03Join_l0] at hp
    by_cases hb2 : (decide (s1 < (x1.length : Int))) = true
    · rw [if_t hb2] at hp
      obtain ⟨v3, hv3, hp⟩ := bind_eq hp
      obtain ⟨v4, hv4, hp⟩ := bind_eq hp
      by_cases hb5 : (decide (0 ≤ v4)) = true
      · rw [if_t hb5] at hp
        obtain ⟨v6, hv6, hp⟩ := bind_eq hp
        by_cases hb7 : ((Op.bytesLess v6.text.toList v3.text.toList || decide (v6.text = v3.text))) = true
        · rw [if_t hb7] at hp
          obtain ⟨v8, hv8, hp⟩ := bind_eq hp
          simp (disch := first | omega | (simp only [List.length_set, List.length_append, List.length_cons, List.length_nil, rows_len, zs]; first | done | omega)) only [ep_spec_l03Find, ftt0_0, ftt0_1, ftt0_2, ftt0_3, ftt0_4, ftt0_5, ftt0_6, ftt0_7, ftt0_8, ftt0_9, ftt0_10, ftt0_11, ftt0_12, ftt0_13, hb2, hv3, hv4, hb5, hv6, hb7, gs, reduceIte, reduceCtorEq, Nat.reduceAdd, Nat.reduceMul, Nat.reduceSub, Nat.reduceBEq, Nat.reduceEqDiff, Nat.reduceLeDiff, Nat.reduceLT, Nat.reduceGT, Int.reduceToNat, Int.reduceLT, Int.reduceLE, Int.reduceNeg, Int.reduceAdd, Int.reduceEq, Int.reduceNe]
          refine call_f (fun h => getCells h 0 1 = some [.i (.sl 1 (x0.counts.map enc))] ∧ 0 < h.length ∧ getCells h 1 1 = some [.i (.sl 1 (x2.counts.map enc))] ∧ 1 < h.length ∧ getCells h bk0_9 (s0.length * 3) = some (rows (s0 : List TEntry)) ∧ bk0_9 < h.length ∧ getCells h hh0.length 3 = some [.i (.s (.int .i64 v3.stamp.time)), .i (.s (.int .i64 v3.stamp.actor)), .i (.s (.string v3.text))] ∧ hh0.length < h.length) (fun h v h2 => oo_spec_l03Insert v8 h v h2) ?_ ?_ ?_
          · simp (disch := first | omega | (simp only [List.length_set, List.length_append, List.length_cons, List.length_nil, rows_len, zs]; first | done | omega)) only [ep_spec_l03Find, ftt0_0, ftt0_1, ftt0_2, ftt0_3, ftt0_4, ftt0_5, ftt0_6, ftt0_7, ftt0_8, ftt0_9, ftt0_10, ftt0_11, ftt0_12, ftt0_13, hb2, hv3, hv4, hb5, hv6, hb7, hv8, gs, reduceIte, reduceCtorEq, Nat.reduceAdd, Nat.reduceMul, Nat.reduceSub, Nat.reduceBEq, Nat.reduceEqDiff, Nat.reduceLeDiff, Nat.reduceLT, Nat.reduceGT, Int.reduceToNat, Int.reduceLT, Int.reduceLE, Int.reduceNeg, Int.reduceAdd, Int.reduceEq, Int.reduceNe] <;> omega
          · rintro h ⟨c1_0, c1_1, c1_2, c1_3, c1_4, c1_5, c1_6, c1_7⟩
            exact e_spec_l03Insert _ _ _ hv8 h _ (by simp (disch := first | omega | (simp only [List.length_set, List.length_append, List.length_cons, List.length_nil, rows_len, zs]; first | done | omega)) only [ep_spec_l03Find, ftt0_0, ftt0_1, ftt0_2, ftt0_3, ftt0_4, ftt0_5, ftt0_6, ftt0_7, ftt0_8, ftt0_9, ftt0_10, ftt0_11, ftt0_12, ftt0_13, hb2, hv3, hv4, hb5, hv6, hb7, hv8, c1_0, c1_1, c1_2, c1_3, c1_4, c1_5, c1_6, c1_7, gs, reduceIte, reduceCtorEq, Nat.reduceAdd, Nat.reduceMul, Nat.reduceSub, Nat.reduceBEq, Nat.reduceEqDiff, Nat.reduceLeDiff, Nat.reduceLT, Nat.reduceGT, Int.reduceToNat, Int.reduceLT, Int.reduceLE, Int.reduceNeg, Int.reduceAdd, Int.reduceEq, Int.reduceNe])
          · rintro h v hh1 ⟨c1_0, c1_1, c1_2, c1_3, c1_4, c1_5, c1_6, c1_7⟩ hpost
            obtain ⟨kk1, nb1_0, rfl, lnb1_0, gnb1_0, wnb1_0⟩ := hpost
            have d1_0 : getCells hh1 0 1 = some [.i (.sl 1 (x0.counts.map enc))] := (keep_get kk1 c1_1 (by first | (simp; done) | (simp; omega))).trans c1_0
            have d1_0l := keep_lt kk1 c1_1
            have d1_1 : getCells hh1 1 1 = some [.i (.sl 1 (x2.counts.map enc))] := (keep_get kk1 c1_3 (by first | (simp; done) | (simp; omega))).trans c1_2
            have d1_1l := keep_lt kk1 c1_3
            have d1_2 : getCells hh1 bk0_9 (s0.length * 3) = some (rows (s0 : List TEntry)) := (keep_get kk1 c1_5 (by first | (simp; done) | (simp; omega))).trans c1_4
            have d1_2l := keep_lt kk1 c1_5
            have d1_3 : getCells hh1 hh0.length 3 = some [.i (.s (.int .i64 v3.stamp.time)), .i (.s (.int .i64 v3.stamp.actor)), .i (.s (.string v3.text))] := (keep_get kk1 c1_7 (by first | (simp; done) | (simp; omega))).trans c1_6
            have d1_3l := keep_lt kk1 c1_7
            have d1_4 := wnb1_0
            have hp := Option.some.inj hp
            subst hp
            simp (disch := first | omega | (simp only [List.length_set, List.length_append, List.length_cons, List.length_nil, rows_len, zs]; first | done | omega)) only [ep_spec_l03Find, ftt0_0, ftt0_1, ftt0_2, ftt0_3, ftt0_4, ftt0_5, ftt0_6, ftt0_7, ftt0_8, ftt0_9, ftt0_10, ftt0_11, ftt0_12, ftt0_13, hb2, hv3, hv4, hb5, hv6, hb7, hv8, d1_0, d1_1, d1_2, d1_3, d1_4, gs, reduceIte, reduceCtorEq, Nat.reduceAdd, Nat.reduceMul, Nat.reduceSub, Nat.reduceBEq, Nat.reduceEqDiff, Nat.reduceLeDiff, Nat.reduceLT, Nat.reduceGT, Int.reduceToNat, Int.reduceLT, Int.reduceLE, Int.reduceNeg, Int.reduceAdd, Int.reduceEq, Int.reduceNe]
            refine ⟨nb1_0, ?_⟩
            simp (disch := first | omega | (simp only [List.length_set, List.length_append, List.length_cons, List.length_nil, rows_len, zs]; first | done | omega)) only [ep_spec_l03Find, ftt0_0, ftt0_1, ftt0_2, ftt0_3, ftt0_4, ftt0_5, ftt0_6, ftt0_7, ftt0_8, ftt0_9, ftt0_10, ftt0_11, ftt0_12, ftt0_13, hb2, hv3, hv4, hb5, hv6, hb7, hv8, d1_0, d1_1, d1_2, d1_3, d1_4, gs, reduceIte, reduceCtorEq, Nat.reduceAdd, Nat.reduceMul, Nat.reduceSub, Nat.reduceBEq, Nat.reduceEqDiff, Nat.reduceLeDiff, Nat.reduceLT, Nat.reduceGT, Int.reduceToNat, Int.reduceLT, Int.reduceLE, Int.reduceNeg, Int.reduceAdd, Int.reduceEq, Int.reduceNe] <;> omega
        · replace hb7 := eq_false_of_ne_true hb7
          rw [if_f hb7] at hp
          obtain ⟨v9, hv9, hp⟩ := bind_eq hp
          simp (disch := first | omega | (simp only [List.length_set, List.length_append, List.length_cons, List.length_nil, rows_len, zs]; first | done | omega)) only [ep_spec_l03Find, ftt0_0, ftt0_1, ftt0_2, ftt0_3, ftt0_4, ftt0_5, ftt0_6, ftt0_7, ftt0_8, ftt0_9, ftt0_10, ftt0_11, ftt0_12, ftt0_13, hb2, hv3, hv4, hb5, hv6, hb7, gs, reduceIte, reduceCtorEq, Nat.reduceAdd, Nat.reduceMul, Nat.reduceSub, Nat.reduceBEq, Nat.reduceEqDiff, Nat.reduceLeDiff, Nat.reduceLT, Nat.reduceGT, Int.reduceToNat, Int.reduceLT, Int.reduceLE, Int.reduceNeg, Int.reduceAdd, Int.reduceEq, Int.reduceNe]
          refine call_f (fun h => getCells h 0 1 = some [.i (.sl 1 (x0.counts.map enc))] ∧ 0 < h.length ∧ getCells h 1 1 = some [.i (.sl 1 (x2.counts.map enc))] ∧ 1 < h.length ∧ getCells h bk0_9 (s0.length * 3) = some (rows (s0 : List TEntry)) ∧ bk0_9 < h.length ∧ getCells h hh0.length 3 = some [.i (.s (.int .i64 v6.stamp.time)), .i (.s (.int .i64 v6.stamp.actor)), .i (.s (.string v6.text))] ∧ hh0.length < h.length) (fun h v h2 => oo_spec_l03Insert v9 h v h2) ?_ ?_ ?_
          · simp (disch := first | omega | (simp only [List.length_set, List.length_append, List.length_cons, List.length_nil, rows_len, zs]; first | done | omega)) only [ep_spec_l03Find, ftt0_0, ftt0_1, ftt0_2, ftt0_3, ftt0_4, ftt0_5, ftt0_6, ftt0_7, ftt0_8, ftt0_9, ftt0_10, ftt0_11, ftt0_12, ftt0_13, hb2, hv3, hv4, hb5, hv6, hb7, hv9, gs, reduceIte, reduceCtorEq, Nat.reduceAdd, Nat.reduceMul, Nat.reduceSub, Nat.reduceBEq, Nat.reduceEqDiff, Nat.reduceLeDiff, Nat.reduceLT, Nat.reduceGT, Int.reduceToNat, Int.reduceLT, Int.reduceLE, Int.reduceNeg, Int.reduceAdd, Int.reduceEq, Int.reduceNe] <;> omega
          · rintro h ⟨c2_0, c2_1, c2_2, c2_3, c2_4, c2_5, c2_6, c2_7⟩
            exact e_spec_l03Insert _ _ _ hv9 h _ (by simp (disch := first | omega | (simp only [List.length_set, List.length_append, List.length_cons, List.length_nil, rows_len, zs]; first | done | omega)) only [ep_spec_l03Find, ftt0_0, ftt0_1, ftt0_2, ftt0_3, ftt0_4, ftt0_5, ftt0_6, ftt0_7, ftt0_8, ftt0_9, ftt0_10, ftt0_11, ftt0_12, ftt0_13, hb2, hv3, hv4, hb5, hv6, hb7, hv9, c2_0, c2_1, c2_2, c2_3, c2_4, c2_5, c2_6, c2_7, gs, reduceIte, reduceCtorEq, Nat.reduceAdd, Nat.reduceMul, Nat.reduceSub, Nat.reduceBEq, Nat.reduceEqDiff, Nat.reduceLeDiff, Nat.reduceLT, Nat.reduceGT, Int.reduceToNat, Int.reduceLT, Int.reduceLE, Int.reduceNeg, Int.reduceAdd, Int.reduceEq, Int.reduceNe])
          · rintro h v hh2 ⟨c2_0, c2_1, c2_2, c2_3, c2_4, c2_5, c2_6, c2_7⟩ hpost
            obtain ⟨kk2, nb2_0, rfl, lnb2_0, gnb2_0, wnb2_0⟩ := hpost
            have d2_0 : getCells hh2 0 1 = some [.i (.sl 1 (x0.counts.map enc))] := (keep_get kk2 c2_1 (by first | (simp; done) | (simp; omega))).trans c2_0
            have d2_0l := keep_lt kk2 c2_1
            have d2_1 : getCells hh2 1 1 = some [.i (.sl 1 (x2.counts.map enc))] := (keep_get kk2 c2_3 (by first | (simp; done) | (simp; omega))).trans c2_2
            have d2_1l := keep_lt kk2 c2_3
            have d2_2 : getCells hh2 bk0_9 (s0.length * 3) = some (rows (s0 : List TEntry)) := (keep_get kk2 c2_5 (by first | (simp; done) | (simp; omega))).trans c2_4
            have d2_2l := keep_lt kk2 c2_5
            have d2_3 : getCells hh2 hh0.length 3 = some [.i (.s (.int .i64 v6.stamp.time)), .i (.s (.int .i64 v6.stamp.actor)), .i (.s (.string v6.text))] := (keep_get kk2 c2_7 (by first | (simp; done) | (simp; omega))).trans c2_6
            have d2_3l := keep_lt kk2 c2_7
            have d2_4 := wnb2_0
            have hp := Option.some.inj hp
            subst hp
            simp (disch := first | omega | (simp only [List.length_set, List.length_append, List.length_cons, List.length_nil, rows_len, zs]; first | done | omega)) only [ep_spec_l03Find, ftt0_0, ftt0_1, ftt0_2, ftt0_3, ftt0_4, ftt0_5, ftt0_6, ftt0_7, ftt0_8, ftt0_9, ftt0_10, ftt0_11, ftt0_12, ftt0_13, hb2, hv3, hv4, hb5, hv6, hb7, hv9, d2_0, d2_1, d2_2, d2_3, d2_4, gs, reduceIte, reduceCtorEq, Nat.reduceAdd, Nat.reduceMul, Nat.reduceSub, Nat.reduceBEq, Nat.reduceEqDiff, Nat.reduceLeDiff, Nat.reduceLT, Nat.reduceGT, Int.reduceToNat, Int.reduceLT, Int.reduceLE, Int.reduceNeg, Int.reduceAdd, Int.reduceEq, Int.reduceNe]
            refine ⟨nb2_0, ?_⟩
            simp (disch := first | omega | (simp only [List.length_set, List.length_append, List.length_cons, List.length_nil, rows_len, zs]; first | done | omega)) only [ep_spec_l03Find, ftt0_0, ftt0_1, ftt0_2, ftt0_3, ftt0_4, ftt0_5, ftt0_6, ftt0_7, ftt0_8, ftt0_9, ftt0_10, ftt0_11, ftt0_12, ftt0_13, hb2, hv3, hv4, hb5, hv6, hb7, hv9, d2_0, d2_1, d2_2, d2_3, d2_4, gs, reduceIte, reduceCtorEq, Nat.reduceAdd, Nat.reduceMul, Nat.reduceSub, Nat.reduceBEq, Nat.reduceEqDiff, Nat.reduceLeDiff, Nat.reduceLT, Nat.reduceGT, Int.reduceToNat, Int.reduceLT, Int.reduceLE, Int.reduceNeg, Int.reduceAdd, Int.reduceEq, Int.reduceNe] <;> omega
      · replace hb5 := eq_false_of_ne_true hb5
        rw [if_f hb5] at hp
        obtain ⟨v10, hv10, hp⟩ := bind_eq hp
        by_cases hb11 : (decide (v10 < v3.stamp.time)) = true
        · rw [if_t hb11] at hp
          obtain ⟨v12, hv12, hp⟩ := bind_eq hp
          simp (disch := first | omega | (simp only [List.length_set, List.length_append, List.length_cons, List.length_nil, rows_len, zs]; first | done | omega)) only [ep_spec_l03Find, ftt0_0, ftt0_1, ftt0_2, ftt0_3, ftt0_4, ftt0_5, ftt0_6, ftt0_7, ftt0_8, ftt0_9, ftt0_10, ftt0_11, ftt0_12, ftt0_13, hb2, hv3, hv4, hb5, hv10, hb11, gs, reduceIte, reduceCtorEq, Nat.reduceAdd, Nat.reduceMul, Nat.reduceSub, Nat.reduceBEq, Nat.reduceEqDiff, Nat.reduceLeDiff, Nat.reduceLT, Nat.reduceGT, Int.reduceToNat, Int.reduceLT, Int.reduceLE, Int.reduceNeg, Int.reduceAdd, Int.reduceEq, Int.reduceNe]
          refine call_f (fun h => getCells h 0 1 = some [.i (.sl 1 (x0.counts.map enc))] ∧ 0 < h.length ∧ getCells h 1 1 = some [.i (.sl 1 (x2.counts.map enc))] ∧ 1 < h.length ∧ getCells h bk0_9 (s0.length * 3) = some (rows (s0 : List TEntry)) ∧ bk0_9 < h.length ∧ getCells h hh0.length 3 = some [.i (.s (.int .i64 v3.stamp.time)), .i (.s (.int .i64 v3.stamp.actor)), .i (.s (.string v3.text))] ∧ hh0.length < h.length) (fun h v h2 => oo_spec_l03Insert v12 h v h2) ?_ ?_ ?_
          · simp (disch := first | omega | (simp only [List.length_set, List.length_append, List.length_cons, List.length_nil, rows_len, zs]; first | done | omega)) only [ep_spec_l03Find, ftt0_0, ftt0_1, ftt0_2, ftt0_3, ftt0_4, ftt0_5, ftt0_6, ftt0_7, ftt0_8, ftt0_9, ftt0_10, ftt0_11, ftt0_12, ftt0_13, hb2, hv3, hv4, hb5, hv10, hb11, hv12, gs, reduceIte, reduceCtorEq, Nat.reduceAdd, Nat.reduceMul, Nat.reduceSub, Nat.reduceBEq, Nat.reduceEqDiff, Nat.reduceLeDiff, Nat.reduceLT, Nat.reduceGT, Int.reduceToNat, Int.reduceLT, Int.reduceLE, Int.reduceNeg, Int.reduceAdd, Int.reduceEq, Int.reduceNe] <;> omega
          · rintro h ⟨c3_0, c3_1, c3_2, c3_3, c3_4, c3_5, c3_6, c3_7⟩
            exact e_spec_l03Insert _ _ _ hv12 h _ (by simp (disch := first | omega | (simp only [List.length_set, List.length_append, List.length_cons, List.length_nil, rows_len, zs]; first | done | omega)) only [ep_spec_l03Find, ftt0_0, ftt0_1, ftt0_2, ftt0_3, ftt0_4, ftt0_5, ftt0_6, ftt0_7, ftt0_8, ftt0_9, ftt0_10, ftt0_11, ftt0_12, ftt0_13, hb2, hv3, hv4, hb5, hv10, hb11, hv12, c3_0, c3_1, c3_2, c3_3, c3_4, c3_5, c3_6, c3_7, gs, reduceIte, reduceCtorEq, Nat.reduceAdd, Nat.reduceMul, Nat.reduceSub, Nat.reduceBEq, Nat.reduceEqDiff, Nat.reduceLeDiff, Nat.reduceLT, Nat.reduceGT, Int.reduceToNat, Int.reduceLT, Int.reduceLE, Int.reduceNeg, Int.reduceAdd, Int.reduceEq, Int.reduceNe])
          · rintro h v hh3 ⟨c3_0, c3_1, c3_2, c3_3, c3_4, c3_5, c3_6, c3_7⟩ hpost
            obtain ⟨kk3, nb3_0, rfl, lnb3_0, gnb3_0, wnb3_0⟩ := hpost
            have d3_0 : getCells hh3 0 1 = some [.i (.sl 1 (x0.counts.map enc))] := (keep_get kk3 c3_1 (by first | (simp; done) | (simp; omega))).trans c3_0
            have d3_0l := keep_lt kk3 c3_1
            have d3_1 : getCells hh3 1 1 = some [.i (.sl 1 (x2.counts.map enc))] := (keep_get kk3 c3_3 (by first | (simp; done) | (simp; omega))).trans c3_2
            have d3_1l := keep_lt kk3 c3_3
            have d3_2 : getCells hh3 bk0_9 (s0.length * 3) = some (rows (s0 : List TEntry)) := (keep_get kk3 c3_5 (by first | (simp; done) | (simp; omega))).trans c3_4
            have d3_2l := keep_lt kk3 c3_5
            have d3_3 : getCells hh3 hh0.length 3 = some [.i (.s (.int .i64 v3.stamp.time)), .i (.s (.int .i64 v3.stamp.actor)), .i (.s (.string v3.text))] := (keep_get kk3 c3_7 (by first | (simp; done) | (simp; omega))).trans c3_6
            have d3_3l := keep_lt kk3 c3_7
            have d3_4 := wnb3_0
            have hp := Option.some.inj hp
            subst hp
            simp (disch := first | omega | (simp only [List.length_set, List.length_append, List.length_cons, List.length_nil, rows_len, zs]; first | done | omega)) only [ep_spec_l03Find, ftt0_0, ftt0_1, ftt0_2, ftt0_3, ftt0_4, ftt0_5, ftt0_6, ftt0_7, ftt0_8, ftt0_9, ftt0_10, ftt0_11, ftt0_12, ftt0_13, hb2, hv3, hv4, hb5, hv10, hb11, hv12, d3_0, d3_1, d3_2, d3_3, d3_4, gs, reduceIte, reduceCtorEq, Nat.reduceAdd, Nat.reduceMul, Nat.reduceSub, Nat.reduceBEq, Nat.reduceEqDiff, Nat.reduceLeDiff, Nat.reduceLT, Nat.reduceGT, Int.reduceToNat, Int.reduceLT, Int.reduceLE, Int.reduceNeg, Int.reduceAdd, Int.reduceEq, Int.reduceNe]
            refine ⟨nb3_0, ?_⟩
            simp (disch := first | omega | (simp only [List.length_set, List.length_append, List.length_cons, List.length_nil, rows_len, zs]; first | done | omega)) only [ep_spec_l03Find, ftt0_0, ftt0_1, ftt0_2, ftt0_3, ftt0_4, ftt0_5, ftt0_6, ftt0_7, ftt0_8, ftt0_9, ftt0_10, ftt0_11, ftt0_12, ftt0_13, hb2, hv3, hv4, hb5, hv10, hb11, hv12, d3_0, d3_1, d3_2, d3_3, d3_4, gs, reduceIte, reduceCtorEq, Nat.reduceAdd, Nat.reduceMul, Nat.reduceSub, Nat.reduceBEq, Nat.reduceEqDiff, Nat.reduceLeDiff, Nat.reduceLT, Nat.reduceGT, Int.reduceToNat, Int.reduceLT, Int.reduceLE, Int.reduceNeg, Int.reduceAdd, Int.reduceEq, Int.reduceNe] <;> omega
        · replace hb11 := eq_false_of_ne_true hb11
          rw [if_f hb11] at hp
          have hp := Option.some.inj hp
          subst hp
          simp (disch := first | omega | (simp only [List.length_set, List.length_append, List.length_cons, List.length_nil, rows_len, zs]; first | done | omega)) only [ep_spec_l03Find, ftt0_0, ftt0_1, ftt0_2, ftt0_3, ftt0_4, ftt0_5, ftt0_6, ftt0_7, ftt0_8, ftt0_9, ftt0_10, ftt0_11, ftt0_12, ftt0_13, hb2, hv3, hv4, hb5, hv10, hb11, gs, reduceIte, reduceCtorEq, Nat.reduceAdd, Nat.reduceMul, Nat.reduceSub, Nat.reduceBEq, Nat.reduceEqDiff, Nat.reduceLeDiff, Nat.reduceLT, Nat.reduceGT, Int.reduceToNat, Int.reduceLT, Int.reduceLE, Int.reduceNeg, Int.reduceAdd, Int.reduceEq, Int.reduceNe]
          refine ⟨bk0_9, ?_⟩
          simp (disch := first | omega | (simp only [List.length_set, List.length_append, List.length_cons, List.length_nil, rows_len, zs]; first | done | omega)) only [ep_spec_l03Find, ftt0_0, ftt0_1, ftt0_2, ftt0_3, ftt0_4, ftt0_5, ftt0_6, ftt0_7, ftt0_8, ftt0_9, ftt0_10, ftt0_11, ftt0_12, ftt0_13, hb2, hv3, hv4, hb5, hv10, hb11, gs, reduceIte, reduceCtorEq, Nat.reduceAdd, Nat.reduceMul, Nat.reduceSub, Nat.reduceBEq, Nat.reduceEqDiff, Nat.reduceLeDiff, Nat.reduceLT, Nat.reduceGT, Int.reduceToNat, Int.reduceLT, Int.reduceLE, Int.reduceNeg, Int.reduceAdd, Int.reduceEq, Int.reduceNe] <;> omega
    · replace hb2 := eq_false_of_ne_true hb2
      rw [if_f hb2] at hp
      have hp := Option.some.inj hp
      subst hp
      simp (disch := first | omega | (simp only [List.length_set, List.length_append, List.length_cons, List.length_nil, rows_len, zs]; first | done | omega)) only [ep_spec_l03Find, ftt0_0, ftt0_1, ftt0_2, ftt0_3, ftt0_4, ftt0_5, ftt0_6, ftt0_7, ftt0_8, ftt0_9, ftt0_10, ftt0_11, ftt0_12, ftt0_13, hb2, gs, reduceIte, reduceCtorEq, Nat.reduceAdd, Nat.reduceMul, Nat.reduceSub, Nat.reduceBEq, Nat.reduceEqDiff, Nat.reduceLeDiff, Nat.reduceLT, Nat.reduceGT, Int.reduceToNat, Int.reduceLT, Int.reduceLE, Int.reduceNeg, Int.reduceAdd, Int.reduceEq, Int.reduceNe]
      refine ⟨bk0_9, ?_⟩
      simp (disch := first | omega | (simp only [List.length_set, List.length_append, List.length_cons, List.length_nil, rows_len, zs]; first | done | omega)) only [ep_spec_l03Find, ftt0_0, ftt0_1, ftt0_2, ftt0_3, ftt0_4, ftt0_5, ftt0_6, ftt0_7, ftt0_8, ftt0_9, ftt0_10, ftt0_11, ftt0_12, ftt0_13, hb2, gs, reduceIte, reduceCtorEq, Nat.reduceAdd, Nat.reduceMul, Nat.reduceSub, Nat.reduceBEq, Nat.reduceEqDiff, Nat.reduceLeDiff, Nat.reduceLT, Nat.reduceGT, Int.reduceToNat, Int.reduceLT, Int.reduceLE, Int.reduceNeg, Int.reduceAdd, Int.reduceEq, Int.reduceNe] <;> omega
  · refine ⟨3, ?_⟩
    simp (disch := first | omega | (simp only [List.length_set, List.length_append, List.length_cons, List.length_nil, rows_len, zs]; first | done | omega)) only [ep_spec_l03Find, gs, reduceIte, reduceCtorEq, Nat.reduceAdd, Nat.reduceMul, Nat.reduceSub, Nat.reduceBEq, Nat.reduceEqDiff, Nat.reduceLeDiff, Nat.reduceLT, Nat.reduceGT, Int.reduceToNat, Int.reduceLT, Int.reduceLE, Int.reduceNeg, Int.reduceAdd, Int.reduceEq, Int.reduceNe] <;> omega
  · intro x tt4 hh4 hx
    rcases ee0 with ⟨o13, o14⟩ | r
    · obtain ⟨rfl, bo0_9, ftt4_0, ftt4_1, ftt4_2, ftt4_3, ftt4_4, ftt4_5, ftt4_6, ftt4_7, ftt4_8, ftt4_9, ftt4_10, ftt4_11, ftt4_12, ftt4_13⟩ := hx
      dsimp only at hp
      obtain ⟨ee1, hee1, hp⟩ := bind_eq hp
      simp (disch := first | omega | (simp only [List.length_set, List.length_append, List.length_cons, List.length_nil, rows_len, zs]; first | done | omega)) only [ep_spec_l03Find, ftt4_0, ftt4_1, ftt4_2, ftt4_3, ftt4_4, ftt4_5, ftt4_6, ftt4_7, ftt4_8, ftt4_9, ftt4_10, ftt4_11, ftt4_12, ftt4_13, gs, reduceIte, reduceCtorEq, Nat.reduceAdd, Nat.reduceMul, Nat.reduceSub, Nat.reduceBEq, Nat.reduceEqDiff, Nat.reduceLeDiff, Nat.reduceLT, Nat.reduceGT, Int.reduceToNat, Int.reduceLT, Int.reduceLE, Int.reduceNeg, Int.reduceAdd, Int.reduceEq, Int.reduceNe]
      refine W_loopP 2 (fun s t h => match s with | (s15, s16) => ∃ bk5_9 : Nat, t 1 = .i (.sl 3 (x1.map enc)) ∧ t 3 = .i (.sl 3 (x3.map enc)) ∧ t 4 = .ptr 0 1 0 ∧ t 9 = .hsl bk5_9 (s15.length * 3) 0 3 true s15.length ∧ t 13 = .i (.s (.int .i64 s16)) ∧ getCells h 0 1 = some [.i (.sl 1 (x0.counts.map enc))] ∧ 0 < h.length ∧ getCells h bk5_9 (s15.length * 3) = some (rows (s15 : List TEntry)) ∧ bk5_9 < h.length ∧ bk5_9 ≠ 0) (RK [.tmp 8] (o_spec_l03Join)) ?_ hee1 ?_ ?_
      · rintro ⟨s15, s16⟩ ee tt5 hh5 ⟨bk5_9, ftt5_0, ftt5_1, ftt5_2, ftt5_3, ftt5_4, ftt5_5, ftt5_6, ftt5_7, ftt5_8, ftt5_9⟩ hp
        rw [p_spec_l03Join_l1] at hp
        by_cases hb17 : (decide (s16 < (x3.length : Int))) = true
        · rw [if_t hb17] at hp
          obtain ⟨v18, hv18, hp⟩ := bind_eq hp
          obtain ⟨v19, hv19, hp⟩ := bind_eq hp
          by_cases hb20 : (decide (v19 < 0)) = true
          · rw [if_t hb20] at hp
            obtain ⟨v21, hv21, hp⟩ := bind_eq hp
            by_cases hb22 : (decide (v21 < v18.stamp.time)) = true
            · rw [if_t hb22] at hp
              obtain ⟨v23, hv23, hp⟩ := bind_eq hp
              simp (disch := first | omega | (simp only [List.length_set, List.length_append, List.length_cons, List.length_nil, rows_len, zs]; first | done | omega)) only [ep_spec_l03Find, ftt4_0, ftt4_1, ftt4_2, ftt4_3, ftt4_4, ftt4_5, ftt4_6, ftt4_7, ftt4_8, ftt4_9, ftt4_10, ftt4_11, ftt4_12, ftt4_13, ftt5_0, ftt5_1, ftt5_2, ftt5_3, ftt5_4, ftt5_5, ftt5_6, ftt5_7, ftt5_8, ftt5_9, hb17, hv18, hv19, hb20, hv21, hb22, gs, reduceIte, reduceCtorEq, Nat.reduceAdd, Nat.reduceMul, Nat.reduceSub, Nat.reduceBEq, Nat.reduceEqDiff, Nat.reduceLeDiff, Nat.reduceLT, Nat.reduceGT, Int.reduceToNat, Int.reduceLT, Int.reduceLE, Int.reduceNeg, Int.reduceAdd, Int.reduceEq, Int.reduceNe]
              refine call_f (fun h => getCells h 0 1 = some [.i (.sl 1 (x0.counts.map enc))] ∧ 0 < h.length ∧ getCells h bk5_9 (s15.length * 3) = some (rows (s15 : List TEntry)) ∧ bk5_9 < h.length) (fun h v h2 => oo_spec_l03Insert v23 h v h2) ?_ ?_ ?_
              · simp (disch := first | omega | (simp only [List.length_set, List.length_append, List.length_cons, List.length_nil, rows_len, zs]; first | done | omega)) only [ep_spec_l03Find, ftt4_0, ftt4_1, ftt4_2, ftt4_3, ftt4_4, ftt4_5, ftt4_6, ftt4_7, ftt4_8, ftt4_9, ftt4_10, ftt4_11, ftt4_12, ftt4_13, ftt5_0, ftt5_1, ftt5_2, ftt5_3, ftt5_4, ftt5_5, ftt5_6, ftt5_7, ftt5_8, ftt5_9, hb17, hv18, hv19, hb20, hv21, hb22, hv23, gs, reduceIte, reduceCtorEq, Nat.reduceAdd, Nat.reduceMul, Nat.reduceSub, Nat.reduceBEq, Nat.reduceEqDiff, Nat.reduceLeDiff, Nat.reduceLT, Nat.reduceGT, Int.reduceToNat, Int.reduceLT, Int.reduceLE, Int.reduceNeg, Int.reduceAdd, Int.reduceEq, Int.reduceNe] <;> omega
              · rintro h ⟨c6_0, c6_1, c6_2, c6_3⟩
                exact e_spec_l03Insert _ _ _ hv23 h _ (by simp (disch := first | omega | (simp only [List.length_set, List.length_append, List.length_cons, List.length_nil, rows_len, zs]; first | done | omega)) only [ep_spec_l03Find, ftt4_0, ftt4_1, ftt4_2, ftt4_3, ftt4_4, ftt4_5, ftt4_6, ftt4_7, ftt4_8, ftt4_9, ftt4_10, ftt4_11, ftt4_12, ftt4_13, ftt5_0, ftt5_1, ftt5_2, ftt5_3, ftt5_4, ftt5_5, ftt5_6, ftt5_7, ftt5_8, ftt5_9, hb17, hv18, hv19, hb20, hv21, hb22, hv23, c6_0, c6_1, c6_2, c6_3, gs, reduceIte, reduceCtorEq, Nat.reduceAdd, Nat.reduceMul, Nat.reduceSub, Nat.reduceBEq, Nat.reduceEqDiff, Nat.reduceLeDiff, Nat.reduceLT, Nat.reduceGT, Int.reduceToNat, Int.reduceLT, Int.reduceLE, Int.reduceNeg, Int.reduceAdd, Int.reduceEq, Int.reduceNe])
              · rintro h v hh6 ⟨c6_0, c6_1, c6_2, c6_3⟩ hpost
                obtain ⟨kk6, nb6_0, rfl, lnb6_0, gnb6_0, wnb6_0⟩ := hpost
                have d6_0 : getCells hh6 0 1 = some [.i (.sl 1 (x0.counts.map enc))] := (keep_get kk6 c6_1 (by first | (simp; done) | (simp; omega))).trans c6_0
                have d6_0l := keep_lt kk6 c6_1
                have d6_1 : getCells hh6 bk5_9 (s15.length * 3) = some (rows (s15 : List TEntry)) := (keep_get kk6 c6_3 (by first | (simp; done) | (simp; omega))).trans c6_2
                have d6_1l := keep_lt kk6 c6_3
                have d6_2 := wnb6_0
                have hp := Option.some.inj hp
                subst hp
                simp (disch := first | omega | (simp only [List.length_set, List.length_append, List.length_cons, List.length_nil, rows_len, zs]; first | done | omega)) only [ep_spec_l03Find, ftt4_0, ftt4_1, ftt4_2, ftt4_3, ftt4_4, ftt4_5, ftt4_6, ftt4_7, ftt4_8, ftt4_9, ftt4_10, ftt4_11, ftt4_12, ftt4_13, ftt5_0, ftt5_1, ftt5_2, ftt5_3, ftt5_4, ftt5_5, ftt5_6, ftt5_7, ftt5_8, ftt5_9, hb17, hv18, hv19, hb20, hv21, hb22, hv23, d6_0, d6_1, d6_2, gs, reduceIte, reduceCtorEq, Nat.reduceAdd, Nat.reduceMul, Nat.reduceSub, Nat.reduceBEq, Nat.reduceEqDiff, Nat.reduceLeDiff, Nat.reduceLT, Nat.reduceGT, Int.reduceToNat, Int.reduceLT, Int.reduceLE, Int.reduceNeg, Int.reduceAdd, Int.reduceEq, Int.reduceNe]
                refine ⟨nb6_0, ?_⟩
                simp (disch := first | omega | (simp only [List.length_set, List.length_append, List.length_cons, List.length_nil, rows_len, zs]; first | done | omega)) only [ep_spec_l03Find, ftt4_0, ftt4_1, ftt4_2, ftt4_3, ftt4_4, ftt4_5, ftt4_6, ftt4_7, ftt4_8, ftt4_9, ftt4_10, ftt4_11, ftt4_12, ftt4_13, ftt5_0, ftt5_1, ftt5_2, ftt5_3, ftt5_4, ftt5_5, ftt5_6, ftt5_7, ftt5_8, ftt5_9, hb17, hv18, hv19, hb20, hv21, hb22, hv23, d6_0, d6_1, d6_2, gs, reduceIte, reduceCtorEq, Nat.reduceAdd, Nat.reduceMul, Nat.reduceSub, Nat.reduceBEq, Nat.reduceEqDiff, Nat.reduceLeDiff, Nat.reduceLT, Nat.reduceGT, Int.reduceToNat, Int.reduceLT, Int.reduceLE, Int.reduceNeg, Int.reduceAdd, Int.reduceEq, Int.reduceNe] <;> omega
            · replace hb22 := eq_false_of_ne_true hb22
              rw [if_f hb22] at hp
              have hp := Option.some.inj hp
              subst hp
              simp (disch := first | omega | (simp only [List.length_set, List.length_append, List.length_cons, List.length_nil, rows_len, zs]; first | done | omega)) only [ep_spec_l03Find, ftt4_0, ftt4_1, ftt4_2, ftt4_3, ftt4_4, ftt4_5, ftt4_6, ftt4_7, ftt4_8, ftt4_9, ftt4_10, ftt4_11, ftt4_12, ftt4_13, ftt5_0, ftt5_1, ftt5_2, ftt5_3, ftt5_4, ftt5_5, ftt5_6, ftt5_7, ftt5_8, ftt5_9, hb17, hv18, hv19, hb20, hv21, hb22, gs, reduceIte, reduceCtorEq, Nat.reduceAdd, Nat.reduceMul, Nat.reduceSub, Nat.reduceBEq, Nat.reduceEqDiff, Nat.reduceLeDiff, Nat.reduceLT, Nat.reduceGT, Int.reduceToNat, Int.reduceLT, Int.reduceLE, Int.reduceNeg, Int.reduceAdd, Int.reduceEq, Int.reduceNe]
              refine ⟨bk5_9, ?_⟩
              simp (disch := first | omega | (simp only [List.length_set, List.length_append, List.length_cons, List.length_nil, rows_len, zs]; first | done | omega)) only [ep_spec_l03Find, ftt4_0, ftt4_1, ftt4_2, ftt4_3, ftt4_4, ftt4_5, ftt4_6, ftt4_7, ftt4_8, ftt4_9, ftt4_10, ftt4_11, ftt4_12, ftt4_13, ftt5_0, ftt5_1, ftt5_2, ftt5_3, ftt5_4, ftt5_5, ftt5_6, ftt5_7, ftt5_8, ftt5_9, hb17, hv18, hv19, hb20, hv21, hb22, gs, reduceIte, reduceCtorEq, Nat.reduceAdd, Nat.reduceMul, Nat.reduceSub, Nat.reduceBEq, Nat.reduceEqDiff, Nat.reduceLeDiff, Nat.reduceLT, Nat.reduceGT, Int.reduceToNat, Int.reduceLT, Int.reduceLE, Int.reduceNeg, Int.reduceAdd, Int.reduceEq, Int.reduceNe] <;> omega
          · replace hb20 := eq_false_of_ne_true hb20
            rw [if_f hb20] at hp
            have hp := Option.some.inj hp
            subst hp
            simp (disch := first | omega | (simp only [List.length_set, List.length_append, List.length_cons, List.length_nil, rows_len, zs]; first | done | omega)) only [ep_spec_l03Find, ftt4_0, ftt4_1, ftt4_2, ftt4_3, ftt4_4, ftt4_5, ftt4_6, ftt4_7, ftt4_8, ftt4_9, ftt4_10, ftt4_11, ftt4_12, ftt4_13, ftt5_0, ftt5_1, ftt5_2, ftt5_3, ftt5_4, ftt5_5, ftt5_6, ftt5_7, ftt5_8, ftt5_9, hb17, hv18, hv19, hb20, gs, reduceIte, reduceCtorEq, Nat.reduceAdd, Nat.reduceMul, Nat.reduceSub, Nat.reduceBEq, Nat.reduceEqDiff, Nat.reduceLeDiff, Nat.reduceLT, Nat.reduceGT, Int.reduceToNat, Int.reduceLT, Int.reduceLE, Int.reduceNeg, Int.reduceAdd, Int.reduceEq, Int.reduceNe]
            refine ⟨bk5_9, ?_⟩
            simp (disch := first | omega | (simp only [List.length_set, List.length_append, List.length_cons, List.length_nil, rows_len, zs]; first | done | omega)) only [ep_spec_l03Find, ftt4_0, ftt4_1, ftt4_2, ftt4_3, ftt4_4, ftt4_5, ftt4_6, ftt4_7, ftt4_8, ftt4_9, ftt4_10, ftt4_11, ftt4_12, ftt4_13, ftt5_0, ftt5_1, ftt5_2, ftt5_3, ftt5_4, ftt5_5, ftt5_6, ftt5_7, ftt5_8, ftt5_9, hb17, hv18, hv19, hb20, gs, reduceIte, reduceCtorEq, Nat.reduceAdd, Nat.reduceMul, Nat.reduceSub, Nat.reduceBEq, Nat.reduceEqDiff, Nat.reduceLeDiff, Nat.reduceLT, Nat.reduceGT, Int.reduceToNat, Int.reduceLT, Int.reduceLE, Int.reduceNeg, Int.reduceAdd, Int.reduceEq, Int.reduceNe] <;> omega
        · replace hb17 := eq_false_of_ne_true hb17
          rw [if_f hb17] at hp
          have hp := Option.some.inj hp
          subst hp
          simp (disch := first | omega | (simp only [List.length_set, List.length_append, List.length_cons, List.length_nil, rows_len, zs]; first | done | omega)) only [ep_spec_l03Find, ftt4_0, ftt4_1, ftt4_2, ftt4_3, ftt4_4, ftt4_5, ftt4_6, ftt4_7, ftt4_8, ftt4_9, ftt4_10, ftt4_11, ftt4_12, ftt4_13, ftt5_0, ftt5_1, ftt5_2, ftt5_3, ftt5_4, ftt5_5, ftt5_6, ftt5_7, ftt5_8, ftt5_9, hb17, gs, reduceIte, reduceCtorEq, Nat.reduceAdd, Nat.reduceMul, Nat.reduceSub, Nat.reduceBEq, Nat.reduceEqDiff, Nat.reduceLeDiff, Nat.reduceLT, Nat.reduceGT, Int.reduceToNat, Int.reduceLT, Int.reduceLE, Int.reduceNeg, Int.reduceAdd, Int.reduceEq, Int.reduceNe]
          refine ⟨bk5_9, ?_⟩
          simp (disch := first | omega | (simp only [List.length_set, List.length_append, List.length_cons, List.length_nil, rows_len, zs]; first | done | omega)) only [ep_spec_l03Find, ftt4_0, ftt4_1, ftt4_2, ftt4_3, ftt4_4, ftt4_5, ftt4_6, ftt4_7, ftt4_8, ftt4_9, ftt4_10, ftt4_11, ftt4_12, ftt4_13, ftt5_0, ftt5_1, ftt5_2, ftt5_3, ftt5_4, ftt5_5, ftt5_6, ftt5_7, ftt5_8, ftt5_9, hb17, gs, reduceIte, reduceCtorEq, Nat.reduceAdd, Nat.reduceMul, Nat.reduceSub, Nat.reduceBEq, Nat.reduceEqDiff, Nat.reduceLeDiff, Nat.reduceLT, Nat.reduceGT, Int.reduceToNat, Int.reduceLT, Int.reduceLE, Int.reduceNeg, Int.reduceAdd, Int.reduceEq, Int.reduceNe] <;> omega
      · refine ⟨bo0_9, ?_⟩
        simp (disch := first | omega | (simp only [List.length_set, List.length_append, List.length_cons, List.length_nil, rows_len, zs]; first | done | omega)) only [ep_spec_l03Find, ftt4_0, ftt4_1, ftt4_2, ftt4_3, ftt4_4, ftt4_5, ftt4_6, ftt4_7, ftt4_8, ftt4_9, ftt4_10, ftt4_11, ftt4_12, ftt4_13, gs, reduceIte, reduceCtorEq, Nat.reduceAdd, Nat.reduceMul, Nat.reduceSub, Nat.reduceBEq, Nat.reduceEqDiff, Nat.reduceLeDiff, Nat.reduceLT, Nat.reduceGT, Int.reduceToNat, Int.reduceLT, Int.reduceLE, Int.reduceNeg, Int.reduceAdd, Int.reduceEq, Int.reduceNe] <;> omega
      · intro x tt7 hh7 hx
        rcases ee1 with ⟨o24, o25⟩ | r
        · obtain ⟨rfl, bo5_9, ftt7_0, ftt7_1, ftt7_2, ftt7_3, ftt7_4, ftt7_5, ftt7_6, ftt7_7, ftt7_8, ftt7_9⟩ := hx
          dsimp only at hp
          have hp := Option.some.inj hp
          subst hp
          simp (disch := first | omega | (simp only [List.length_set, List.length_append, List.length_cons, List.length_nil, rows_len, zs]; first | done | omega)) only [ep_spec_l03Find, ftt4_0, ftt4_1, ftt4_2, ftt4_3, ftt4_4, ftt4_5, ftt4_6, ftt4_7, ftt4_8, ftt4_9, ftt4_10, ftt4_11, ftt4_12, ftt4_13, ftt7_0, ftt7_1, ftt7_2, ftt7_3, ftt7_4, ftt7_5, ftt7_6, ftt7_7, ftt7_8, ftt7_9, gs, reduceIte, reduceCtorEq, Nat.reduceAdd, Nat.reduceMul, Nat.reduceSub, Nat.reduceBEq, Nat.reduceEqDiff, Nat.reduceLeDiff, Nat.reduceLT, Nat.reduceGT, Int.reduceToNat, Int.reduceLT, Int.reduceLE, Int.reduceNeg, Int.reduceAdd, Int.reduceEq, Int.reduceNe]
          refine ⟨bo5_9, ?_⟩
          simp (disch := first | omega | (simp only [List.length_set, List.length_append, List.length_cons, List.length_nil, rows_len, zs]; first | done | omega)) only [ep_spec_l03Find, ftt4_0, ftt4_1, ftt4_2, ftt4_3, ftt4_4, ftt4_5, ftt4_6, ftt4_7, ftt4_8, ftt4_9, ftt4_10, ftt4_11, ftt4_12, ftt4_13, ftt7_0, ftt7_1, ftt7_2, ftt7_3, ftt7_4, ftt7_5, ftt7_6, ftt7_7, ftt7_8, ftt7_9, o_spec_l03Join, gs, reduceIte, reduceCtorEq, Nat.reduceAdd, Nat.reduceMul, Nat.reduceSub, Nat.reduceBEq, Nat.reduceEqDiff, Nat.reduceLeDiff, Nat.reduceLT, Nat.reduceGT, Int.reduceToNat, Int.reduceLT, Int.reduceLE, Int.reduceNeg, Int.reduceAdd, Int.reduceEq, Int.reduceNe] <;> omega
        · obtain ⟨rfl, hx⟩ := hx
          dsimp only at hp
          cases hp
          simp only [seqK_ret, blockK_ret, retK_RK (K := o_spec_l03Join), hx, and_self, true_and]
    · obtain ⟨rfl, hx⟩ := hx
      dsimp only at hp
      cases hp
      simp only [seqK_ret, blockK_ret, retK_RK (K := o_spec_l03Join), hx, and_self, true_and]
theorem ko_spec_l03Join {P : Program} {env : Env} {f_spec_l03Find : Nat} {f_spec_l03Insert : Nat}  (ep_spec_l03Find : env (2 * f_spec_l03Find) = pureFn true (FA fun a : List TEntry × TStamp => p_spec_l03Find a.1 a.2)) (e_spec_l03Insert : k_spec_l03Insert (env (2 * f_spec_l03Insert + 1))) : k_spec_l03Join (ownFn P env (c_spec_l03Join f_spec_l03Find f_spec_l03Insert)) := by
  intro x0 x1 x2 x3 b hp h args has
  obtain ⟨⟨v, H2⟩, hr, n0, rfl, wn0⟩ := w_spec_l03Join ep_spec_l03Find e_spec_l03Insert x0 x1 x2 x3 hp
  exact ⟨_, own_call has hr rfl, keep_moved, n0 + h.length, rfl, (moved_lt wn0).2, (moved_lt wn0).1, moved_rows wn0⟩

noncomputable def p_spec_l02Join_l0 (x0 : TVec) (x1 : TVec) : List Int × Int → Option (Lp (List Int × Int) TVec)
  | (s0, s1) =>
    if (decide (s1 < 16)) = true then
      (get? x0.counts s1).bind fun v3 =>
      (get? x1.counts s1).bind fun v4 =>
      (app? 8 s0 ([(if v4 > v3 then v4 else v3)])).bind fun v5 =>
      some (.go (v5, w64 (s1 + 1)))
    else
      some (.out (s0, s1))
noncomputable def p_spec_l02Join (x0 : TVec) (x1 : TVec) : Option TVec :=
  (loopP (p_spec_l02Join_l0 x0 x1) (([] : List Int), 0)).bind fun ee0 => match ee0 with
  | .ret r => some r
  | .out (o6, o7) =>
    some (TVec.mk o6)
def c_spec_l02Join : AFn := ⟨29, (.seq (.ops [⟨(.some 2), (.box (.tmp 0)), .none, []⟩, ⟨(.some 3), (.box (.tmp 1)), .none, []⟩, ⟨(.some 4), (.allocV [(1, false)] [(.slice .none 0 0)]), .none, []⟩]) (.seq (.ops [⟨(.some 7), (.build [(.slice .none 0 0)] []), .none, []⟩, ⟨(.some 5), (.allocV [(1, false)] [(.slice .none 0 0)]), .none, []⟩, ⟨.none, (.storeV [(1, false)] 1 (.tmp 5) (.tmp 7)), .none, []⟩]) (.seq (.seq (.ops [⟨(.some 6), (.mv (.const (.int .i64 0))), .none, []⟩]) (.block 0 (.loop (.seq (.seq (.ops [⟨(.some 8), (.mv (.tmp 6)), .none, []⟩, ⟨(.some 9), (.pu (.n (.ar .lss)) [(.tmp 8), (.const (.int .i64 16))]), .none, []⟩]) (.cond (.tmp 9) .skip (.exit 0))) (.seq (.block 1 (.ops [⟨(.some 12), (.fieldA 0 (.tmp 5)), .none, []⟩, ⟨(.some 13), (.load 1 false (.tmp 12)), .none, []⟩, ⟨(.some 14), (.fieldA 0 (.tmp 2)), .none, []⟩, ⟨(.some 15), (.load 1 false (.tmp 14)), .none, []⟩, ⟨(.some 16), (.mv (.tmp 6)), .none, []⟩, ⟨(.some 17), (.idxS 1 (.tmp 15) (.tmp 16)), .none, []⟩, ⟨(.some 18), (.load 1 false (.tmp 17)), .none, []⟩, ⟨(.some 19), (.fieldA 0 (.tmp 3)), .none, []⟩, ⟨(.some 20), (.load 1 false (.tmp 19)), .none, []⟩, ⟨(.some 21), (.mv (.tmp 6)), .none, []⟩, ⟨(.some 22), (.idxS 1 (.tmp 20) (.tmp 21)), .none, []⟩, ⟨(.some 23), (.load 1 false (.tmp 22)), .none, []⟩, ⟨(.some 24), (.pu (.n .max) [(.tmp 18), (.tmp 23)]), .none, []⟩, ⟨(.some 25), (.buildSl 1 false 1 [(.int .i64 0)] [(0, (.tmp 24))]), .none, []⟩, ⟨(.some 26), (.append 1 false 8 (.tmp 13) (.tmp 25)), .none, []⟩, ⟨(.some 27), (.fieldA 0 (.tmp 5)), .none, []⟩, ⟨.none, (.store 1 (.tmp 27) (.tmp 26)), .none, []⟩])) (.ops [⟨(.some 10), (.mv (.tmp 6)), .none, []⟩, ⟨(.some 11), (.pu (.n (.ar .add)) [(.tmp 10), (.const (.int .i64 1))]), .none, []⟩, ⟨(.some 6), (.mv (.tmp 11)), .none, []⟩])))))) (.seq (.ops [⟨(.some 28), (.load 1 true (.tmp 5)), .none, []⟩, ⟨.none, (.storeV [(1, false)] 1 (.tmp 4) (.tmp 28)), .none, []⟩]) .ret)))), [(.cell 4 1 true)]⟩
set_option maxHeartbeats 10000000 in
theorem d_spec_l02Join {P : Program} {env : Env}  (x0 : TVec) (x1 : TVec) {b : TVec} (hp : p_spec_l02Join x0 x1 = some b) : R P env (c_spec_l02Join) ((encA (x0, x1)).map ofI) [] (Tells true b) := by
  refine R_of (by simp [c_spec_l02Join, encA]) ?_
  unfold c_spec_l02Join
  unfold p_spec_l02Join at hp
  obtain ⟨ee0, hee0, hp⟩ := bind_eq hp
  simp (disch := first | omega | (simp only [List.length_set, List.length_append, List.length_cons, List.length_nil, rows_len, zs]; first | done | omega)) only [gs, reduceIte, reduceCtorEq, Nat.reduceAdd, Nat.reduceMul, Nat.reduceSub, Nat.reduceBEq, Nat.reduceEqDiff, Nat.reduceLeDiff, Nat.reduceLT, Nat.reduceGT, Int.reduceToNat, Int.reduceLT, Int.reduceLE, Int.reduceNeg, Int.reduceAdd, Int.reduceEq, Int.reduceNe]
  refine W_loopP 0 (fun s t h => match s with | (s0, s1) => t 2 = .ptr 0 1 0 ∧ t 3 = .ptr 1 1 0 ∧ t 4 = .ptr 3 1 0 ∧ t 5 = .ptr 5 1 0 ∧ t 6 = .i (.s (.int .i64 s1)) ∧ getCells h 0 1 = some [.i (.sl 1 (x0.counts.map enc))] ∧ 0 < h.length ∧ getCells h 1 1 = some [.i (.sl 1 (x1.counts.map enc))] ∧ 1 < h.length ∧ getCells h 2 0 = some (rows ([] : List Int)) ∧ 2 < h.length ∧ getCells h 3 1 = some [.hsl 2 0 0 1 false 0] ∧ 3 < h.length ∧ getCells h 5 1 = some [.hsl 6 s0.length 0 1 false s0.length] ∧ 5 < h.length ∧ getCells h 6 s0.length = some (rows (s0 : List Int)) ∧ 6 < h.length) (RK [.cell 4 1 true] (Tells true)) ?_ hee0 ?_ ?_
  · rintro ⟨s0, s1⟩ ee tt0 hh0 ⟨ftt0_0, ftt0_1, ftt0_2, ftt0_3, ftt0_4, ftt0_5, ftt0_6, ftt0_7, ftt0_8, ftt0_9, ftt0_10, ftt0_11, ftt0_12, ftt0_13, ftt0_14, ftt0_15, ftt0_16⟩ hp
    have ztt0_9 := len_rows ftt0_9
    simp only [zs] at ztt0_9
    rw [p_spec_l02Join_l0] at hp
    by_cases hb2 : (decide (s1 < 16)) = true
    · rw [if_t hb2] at hp
      obtain ⟨v3, hv3, hp⟩ := bind_eq hp
      obtain ⟨v4, hv4, hp⟩ := bind_eq hp
      obtain ⟨v5, hv5, hp⟩ := bind_eq hp
      obtain ⟨kv5, qv5, lv5⟩ := app_some hv5
      have rv5 : rows s0 ++ [.i (.s (.int .i64 (if v4 > v3 then v4 else v3)))] = rows v5 := by rw [qv5, rows_append]; rfl
      have mv5 : s0.length + 1 = v5.length := by simp at lv5; omega
      have nv5 : (s0.length + 1) * 8 ≤ 140737488355328 := by simp at kv5; omega
      have hp := Option.some.inj hp
      subst hp
      simp (disch := first | omega | (simp only [List.length_set, List.length_append, List.length_cons, List.length_nil, rows_len, zs]; first | done | omega)) only [ftt0_0, ftt0_1, ftt0_2, ftt0_3, ftt0_4, ftt0_5, ftt0_6, ftt0_7, ftt0_8, ftt0_9, ftt0_10, ftt0_11, ftt0_12, ftt0_13, ftt0_14, ftt0_15, ftt0_16, hb2, hv3, hv4, hv5, rv5, nv5, gs, reduceIte, reduceCtorEq, Nat.reduceAdd, Nat.reduceMul, Nat.reduceSub, Nat.reduceBEq, Nat.reduceEqDiff, Nat.reduceLeDiff, Nat.reduceLT, Nat.reduceGT, Int.reduceToNat, Int.reduceLT, Int.reduceLE, Int.reduceNeg, Int.reduceAdd, Int.reduceEq, Int.reduceNe] <;> omega
    · replace hb2 := eq_false_of_ne_true hb2
      rw [if_f hb2] at hp
      have hp := Option.some.inj hp
      subst hp
      simp (disch := first | omega | (simp only [List.length_set, List.length_append, List.length_cons, List.length_nil, rows_len, zs]; first | done | omega)) only [ftt0_0, ftt0_1, ftt0_2, ftt0_3, ftt0_4, ftt0_5, ftt0_6, ftt0_7, ftt0_8, ftt0_9, ftt0_10, ftt0_11, ftt0_12, ftt0_13, ftt0_14, ftt0_15, ftt0_16, hb2, gs, reduceIte, reduceCtorEq, Nat.reduceAdd, Nat.reduceMul, Nat.reduceSub, Nat.reduceBEq, Nat.reduceEqDiff, Nat.reduceLeDiff, Nat.reduceLT, Nat.reduceGT, Int.reduceToNat, Int.reduceLT, Int.reduceLE, Int.reduceNeg, Int.reduceAdd, Int.reduceEq, Int.reduceNe] <;> omega
  · simp (disch := first | omega | (simp only [List.length_set, List.length_append, List.length_cons, List.length_nil, rows_len, zs]; first | done | omega)) only [gs, reduceIte, reduceCtorEq, Nat.reduceAdd, Nat.reduceMul, Nat.reduceSub, Nat.reduceBEq, Nat.reduceEqDiff, Nat.reduceLeDiff, Nat.reduceLT, Nat.reduceGT, Int.reduceToNat, Int.reduceLT, Int.reduceLE, Int.reduceNeg, Int.reduceAdd, Int.reduceEq, Int.reduceNe] <;> omega
  · intro x tt1 hh1 hx
    rcases ee0 with ⟨o6, o7⟩ | r
    · obtain ⟨rfl, ftt1_0, ftt1_1, ftt1_2, ftt1_3, ftt1_4, ftt1_5, ftt1_6, ftt1_7, ftt1_8, ftt1_9, ftt1_10, ftt1_11, ftt1_12, ftt1_13, ftt1_14, ftt1_15, ftt1_16⟩ := hx
      have ztt1_9 := len_rows ftt1_9
      simp only [zs] at ztt1_9
      dsimp only at hp
      have hp := Option.some.inj hp
      subst hp
      simp (disch := first | omega | (simp only [List.length_set, List.length_append, List.length_cons, List.length_nil, rows_len, zs]; first | done | omega)) only [ftt1_0, ftt1_1, ftt1_2, ftt1_3, ftt1_4, ftt1_5, ftt1_6, ftt1_7, ftt1_8, ftt1_9, ftt1_10, ftt1_11, ftt1_12, ftt1_13, ftt1_14, ftt1_15, ftt1_16, gs, reduceIte, reduceCtorEq, Nat.reduceAdd, Nat.reduceMul, Nat.reduceSub, Nat.reduceBEq, Nat.reduceEqDiff, Nat.reduceLeDiff, Nat.reduceLT, Nat.reduceGT, Int.reduceToNat, Int.reduceLT, Int.reduceLE, Int.reduceNeg, Int.reduceAdd, Int.reduceEq, Int.reduceNe]
    · obtain ⟨rfl, hx⟩ := hx
      dsimp only at hp
      cases hp
      simp only [seqK_ret, blockK_ret, retK_RK (K := Tells true), hx, and_self, true_and]

noncomputable def p_spec_MultiJoin (x0 : TMulti) (x1 : TMulti) : Option (T2 TMulti Int) :=
  (p_spec_l03EntriesOK x0.seen x0.entries).bind fun v0 =>
  if (v0) = true then
    (p_spec_l03EntriesOK x1.seen x1.entries).bind fun v2 =>
    if (v2) = true then
      (p_spec_l03Join x0.seen x0.entries x1.seen x1.entries).bind fun v4 =>
      if (decide (256 < (v4.length : Int))) = true then
        some ⟨(TMulti.mk (TVec.mk ([])) ([])), 11⟩
      else
        (p_spec_l02Join x0.seen x1.seen).bind fun v6 =>
        some ⟨(TMulti.mk v6 v4), 0⟩
    else
      some ⟨(TMulti.mk (TVec.mk ([])) ([])), 1⟩
  else
    some ⟨(TMulti.mk (TVec.mk ([])) ([])), 1⟩
def c_spec_MultiJoin (f_spec_l03EntriesOK : Nat) (f_spec_l03Join : Nat) (f_spec_l02Join : Nat) : AFn := ⟨42, (.seq (.ops [⟨(.some 2), (.box (.tmp 0)), .none, []⟩, ⟨(.some 3), (.box (.tmp 1)), .none, []⟩, ⟨(.some 4), (.allocV [(1, false), (3, true)] [(.slice .none 0 0), (.slice .none 0 0)]), .none, []⟩, ⟨(.some 5), (.mv (.const (.int .i64 0))), .none, []⟩]) (.seq (.seq (.ops [⟨(.some 7), (.fieldA 0 (.tmp 2)), .none, []⟩, ⟨(.some 8), (.load 1 true (.tmp 7)), .none, []⟩, ⟨(.some 9), (.fieldA 1 (.tmp 2)), .none, []⟩, ⟨(.some 10), (.load 1 false (.tmp 9)), .none, []⟩, ⟨(.some 11), (.call (2 * f_spec_l03EntriesOK) [(.tmp 8), (.tmp 10)]), .none, []⟩, ⟨(.some 12), (.pu (.n (.un .not)) [(.tmp 11)]), .none, []⟩, ⟨(.some 13), (.mv (.tmp 12)), .none, []⟩, ⟨(.some 14), (.fieldA 0 (.tmp 3)), (.some (13, false)), []⟩, ⟨(.some 15), (.load 1 true (.tmp 14)), (.some (13, false)), []⟩, ⟨(.some 16), (.fieldA 1 (.tmp 3)), (.some (13, false)), []⟩, ⟨(.some 17), (.load 1 false (.tmp 16)), (.some (13, false)), []⟩, ⟨(.some 18), (.call (2 * f_spec_l03EntriesOK) [(.tmp 15), (.tmp 17)]), (.some (13, false)), []⟩, ⟨(.some 19), (.pu (.n (.un .not)) [(.tmp 18)]), (.some (13, false)), []⟩, ⟨(.some 20), (.pick (.tmp 13) (.const (.bool true)) (.tmp 19)), .none, []⟩]) (.cond (.tmp 20) (.seq (.ops [⟨(.some 21), (.build [(.slice .none 0 0), (.slice .none 0 0)] []), .none, []⟩, ⟨.none, (.storeV [(1, false), (3, true)] 2 (.tmp 4) (.tmp 21)), .none, []⟩, ⟨(.some 5), (.mv (.const (.int .i64 1))), .none, []⟩]) .ret) .skip)) (.seq (.ops [⟨(.some 22), (.fieldA 0 (.tmp 2)), .none, []⟩, ⟨(.some 23), (.load 1 true (.tmp 22)), .none, []⟩, ⟨(.some 24), (.fieldA 1 (.tmp 2)), .none, []⟩, ⟨(.some 25), (.load 1 false (.tmp 24)), .none, []⟩, ⟨(.some 26), (.fieldA 0 (.tmp 3)), .none, []⟩, ⟨(.some 27), (.load 1 true (.tmp 26)), .none, []⟩, ⟨(.some 28), (.fieldA 1 (.tmp 3)), .none, []⟩, ⟨(.some 29), (.load 1 false (.tmp 28)), .none, []⟩, ⟨(.some 30), (.call (2 * f_spec_l03Join + 1) [(.tmp 23), (.tmp 25), (.tmp 27), (.tmp 29)]), .none, []⟩, ⟨(.some 6), (.mv (.tmp 30)), .none, []⟩]) (.seq (.seq (.ops [⟨(.some 31), (.mv (.tmp 6)), .none, []⟩, ⟨(.some 32), (.len (.tmp 31)), .none, []⟩, ⟨(.some 33), (.pu (.n (.ar .gtr)) [(.tmp 32), (.const (.int .i64 256))]), .none, []⟩]) (.cond (.tmp 33) (.seq (.ops [⟨(.some 34), (.build [(.slice .none 0 0), (.slice .none 0 0)] []), .none, []⟩, ⟨.none, (.storeV [(1, false), (3, true)] 2 (.tmp 4) (.tmp 34)), .none, []⟩, ⟨(.some 5), (.mv (.const (.int .i64 11))), .none, []⟩]) .ret) .skip)) (.seq (.ops [⟨(.some 35), (.fieldA 0 (.tmp 2)), .none, []⟩, ⟨(.some 36), (.load 1 true (.tmp 35)), .none, []⟩, ⟨(.some 37), (.fieldA 0 (.tmp 3)), .none, []⟩, ⟨(.some 38), (.load 1 true (.tmp 37)), .none, []⟩, ⟨(.some 39), (.call (2 * f_spec_l02Join) [(.tmp 36), (.tmp 38)]), .none, []⟩, ⟨(.some 40), (.mv (.tmp 6)), .none, []⟩, ⟨(.some 41), (.build [(.slice .none 0 0), (.slice .none 0 0)] [(0, (1, (.tmp 39))), (1, (1, (.tmp 40)))]), .none, []⟩, ⟨.none, (.storeV [(1, false), (3, true)] 2 (.tmp 4) (.tmp 41)), .none, []⟩, ⟨(.some 5), (.mv (.const (.int .i64 0))), .none, []⟩]) .ret))))), [(.cell 4 2 true), (.tmp 5)]⟩
set_option maxHeartbeats 10000000 in
theorem d_spec_MultiJoin {P : Program} {env : Env} {f_spec_l03EntriesOK : Nat} {f_spec_l03Join : Nat} {f_spec_l02Join : Nat}  (ep_spec_l03EntriesOK : env (2 * f_spec_l03EntriesOK) = pureFn true (FA fun a : TVec × List TEntry => p_spec_l03EntriesOK a.1 a.2)) (ep_spec_l02Join : env (2 * f_spec_l02Join) = pureFn true (FA fun a : TVec × TVec => p_spec_l02Join a.1 a.2)) (e_spec_l03Join : k_spec_l03Join (env (2 * f_spec_l03Join + 1))) (x0 : TMulti) (x1 : TMulti) {b : T2 TMulti Int} (hp : p_spec_MultiJoin x0 x1 = some b) : R P env (c_spec_MultiJoin f_spec_l03EntriesOK f_spec_l03Join f_spec_l02Join) ((encA (x0, x1)).map ofI) [] (Tells false b) := by
  refine R_of (by simp [c_spec_MultiJoin, encA]) ?_
  unfold c_spec_MultiJoin
  unfold p_spec_MultiJoin at hp
  obtain ⟨v0, hv0, hp⟩ := bind_eq hp
  by_cases hb1 : (v0) = true
  · rw [if_t hb1] at hp
    obtain ⟨v2, hv2, hp⟩ := bind_eq hp
    by_cases hb3 : (v2) = true
    · rw [if_t hb3] at hp
      obtain ⟨v4, hv4, hp⟩ := bind_eq hp
      simp (disch := first | omega | (simp only [List.length_set, List.length_append, List.length_cons, List.length_nil, rows_len, zs]; first | done | omega)) only [ep_spec_l03EntriesOK, ep_spec_l02Join, hv0, hb1, hv2, hb3, gs, reduceIte, reduceCtorEq, Nat.reduceAdd, Nat.reduceMul, Nat.reduceSub, Nat.reduceBEq, Nat.reduceEqDiff, Nat.reduceLeDiff, Nat.reduceLT, Nat.reduceGT, Int.reduceToNat, Int.reduceLT, Int.reduceLE, Int.reduceNeg, Int.reduceAdd, Int.reduceEq, Int.reduceNe]
      refine call_f (fun h => getCells h 0 2 = some [.i (.sl 1 (x0.seen.counts.map enc)), .i (.sl 3 (x0.entries.map enc))] ∧ 0 < h.length ∧ getCells h 1 2 = some [.i (.sl 1 (x1.seen.counts.map enc)), .i (.sl 3 (x1.entries.map enc))] ∧ 1 < h.length ∧ getCells h 2 0 = some [] ∧ 2 < h.length ∧ getCells h 3 0 = some [] ∧ 3 < h.length ∧ getCells h 4 2 = some [.hsl 2 0 0 1 false 0, .hsl 3 0 0 3 true 0] ∧ 4 < h.length) (fun h v h2 => oo_spec_l03Join v4 h v h2) ?_ ?_ ?_
      · simp (disch := first | omega | (simp only [List.length_set, List.length_append, List.length_cons, List.length_nil, rows_len, zs]; first | done | omega)) only [ep_spec_l03EntriesOK, ep_spec_l02Join, hv0, hb1, hv2, hb3, hv4, gs, reduceIte, reduceCtorEq, Nat.reduceAdd, Nat.reduceMul, Nat.reduceSub, Nat.reduceBEq, Nat.reduceEqDiff, Nat.reduceLeDiff, Nat.reduceLT, Nat.reduceGT, Int.reduceToNat, Int.reduceLT, Int.reduceLE, Int.reduceNeg, Int.reduceAdd, Int.reduceEq, Int.reduceNe] <;> omega
      · rintro h ⟨c0_0, c0_1, c0_2, c0_3, c0_4, c0_5, c0_6, c0_7, c0_8, c0_9⟩
        exact e_spec_l03Join _ _ _ _ _ hv4 h _ (by simp (disch := first | omega | (simp only [List.length_set, List.length_append, List.length_cons, List.length_nil, rows_len, zs]; first | done | omega)) only [ep_spec_l03EntriesOK, ep_spec_l02Join, hv0, hb1, hv2, hb3, hv4, c0_0, c0_1, c0_2, c0_3, c0_4, c0_5, c0_6, c0_7, c0_8, c0_9, gs, reduceIte, reduceCtorEq, Nat.reduceAdd, Nat.reduceMul, Nat.reduceSub, Nat.reduceBEq, Nat.reduceEqDiff, Nat.reduceLeDiff, Nat.reduceLT, Nat.reduceGT, Int.reduceToNat, Int.reduceLT, Int.reduceLE, Int.reduceNeg, Int.reduceAdd, Int.reduceEq, Int.reduceNe])
      · rintro h v hh0 ⟨c0_0, c0_1, c0_2, c0_3, c0_4, c0_5, c0_6, c0_7, c0_8, c0_9⟩ hpost
        obtain ⟨kk0, nb0_0, rfl, lnb0_0, gnb0_0, wnb0_0⟩ := hpost
        have d0_0 : getCells hh0 0 2 = some [.i (.sl 1 (x0.seen.counts.map enc)), .i (.sl 3 (x0.entries.map enc))] := (keep_get kk0 c0_1 (by first | (simp; done) | (simp; omega))).trans c0_0
        have d0_0l := keep_lt kk0 c0_1
        have d0_1 : getCells hh0 1 2 = some [.i (.sl 1 (x1.seen.counts.map enc)), .i (.sl 3 (x1.entries.map enc))] := (keep_get kk0 c0_3 (by first | (simp; done) | (simp; omega))).trans c0_2
        have d0_1l := keep_lt kk0 c0_3
        have d0_2 : getCells hh0 2 0 = some [] := (keep_get kk0 c0_5 (by first | (simp; done) | (simp; omega))).trans c0_4
        have d0_2l := keep_lt kk0 c0_5
        have d0_3 : getCells hh0 3 0 = some [] := (keep_get kk0 c0_7 (by first | (simp; done) | (simp; omega))).trans c0_6
        have d0_3l := keep_lt kk0 c0_7
        have d0_4 : getCells hh0 4 2 = some [.hsl 2 0 0 1 false 0, .hsl 3 0 0 3 true 0] := (keep_get kk0 c0_9 (by first | (simp; done) | (simp; omega))).trans c0_8
        have d0_4l := keep_lt kk0 c0_9
        have d0_5 := wnb0_0
        by_cases hb5 : (decide (256 < (v4.length : Int))) = true
        · rw [if_t hb5] at hp
          have hp := Option.some.inj hp
          subst hp
          simp (disch := first | omega | (simp only [List.length_set, List.length_append, List.length_cons, List.length_nil, rows_len, zs]; first | done | omega)) only [ep_spec_l03EntriesOK, ep_spec_l02Join, hv0, hb1, hv2, hb3, hv4, d0_0, d0_1, d0_2, d0_3, d0_4, d0_5, hb5, gs, reduceIte, reduceCtorEq, Nat.reduceAdd, Nat.reduceMul, Nat.reduceSub, Nat.reduceBEq, Nat.reduceEqDiff, Nat.reduceLeDiff, Nat.reduceLT, Nat.reduceGT, Int.reduceToNat, Int.reduceLT, Int.reduceLE, Int.reduceNeg, Int.reduceAdd, Int.reduceEq, Int.reduceNe]
        · replace hb5 := eq_false_of_ne_true hb5
          rw [if_f hb5] at hp
          obtain ⟨v6, hv6, hp⟩ := bind_eq hp
          have hp := Option.some.inj hp
          subst hp
          simp (disch := first | omega | (simp only [List.length_set, List.length_append, List.length_cons, List.length_nil, rows_len, zs]; first | done | omega)) only [ep_spec_l03EntriesOK, ep_spec_l02Join, hv0, hb1, hv2, hb3, hv4, d0_0, d0_1, d0_2, d0_3, d0_4, d0_5, hb5, hv6, gs, reduceIte, reduceCtorEq, Nat.reduceAdd, Nat.reduceMul, Nat.reduceSub, Nat.reduceBEq, Nat.reduceEqDiff, Nat.reduceLeDiff, Nat.reduceLT, Nat.reduceGT, Int.reduceToNat, Int.reduceLT, Int.reduceLE, Int.reduceNeg, Int.reduceAdd, Int.reduceEq, Int.reduceNe]
    · replace hb3 := eq_false_of_ne_true hb3
      rw [if_f hb3] at hp
      have hp := Option.some.inj hp
      subst hp
      simp (disch := first | omega | (simp only [List.length_set, List.length_append, List.length_cons, List.length_nil, rows_len, zs]; first | done | omega)) only [ep_spec_l03EntriesOK, ep_spec_l02Join, hv0, hb1, hv2, hb3, gs, reduceIte, reduceCtorEq, Nat.reduceAdd, Nat.reduceMul, Nat.reduceSub, Nat.reduceBEq, Nat.reduceEqDiff, Nat.reduceLeDiff, Nat.reduceLT, Nat.reduceGT, Int.reduceToNat, Int.reduceLT, Int.reduceLE, Int.reduceNeg, Int.reduceAdd, Int.reduceEq, Int.reduceNe]
  · replace hb1 := eq_false_of_ne_true hb1
    rw [if_f hb1] at hp
    have hp := Option.some.inj hp
    subst hp
    simp (disch := first | omega | (simp only [List.length_set, List.length_append, List.length_cons, List.length_nil, rows_len, zs]; first | done | omega)) only [ep_spec_l03EntriesOK, ep_spec_l02Join, hv0, hb1, gs, reduceIte, reduceCtorEq, Nat.reduceAdd, Nat.reduceMul, Nat.reduceSub, Nat.reduceBEq, Nat.reduceEqDiff, Nat.reduceLeDiff, Nat.reduceLT, Nat.reduceGT, Int.reduceToNat, Int.reduceLT, Int.reduceLE, Int.reduceNeg, Int.reduceAdd, Int.reduceEq, Int.reduceNe]

noncomputable def p_spec_SetJoin (x0 : TMulti) (x1 : TMulti) : Option (T2 TMulti Int) :=
  (p_spec_MultiJoin x0 x1).bind fun v0 =>
  some ⟨v0.a, v0.b⟩
def c_spec_SetJoin (f_spec_MultiJoin : Nat) : AFn := ⟨28, (.seq (.ops [⟨(.some 2), (.box (.tmp 0)), .none, []⟩, ⟨(.some 3), (.box (.tmp 1)), .none, []⟩, ⟨(.some 4), (.allocV [(1, false), (3, true)] [(.slice .none 0 0), (.slice .none 0 0)]), .none, []⟩, ⟨(.some 5), (.mv (.const (.int .i64 0))), .none, []⟩]) (.seq (.ops [⟨(.some 9), (.fieldA 0 (.tmp 2)), .none, []⟩, ⟨(.some 10), (.load 1 true (.tmp 9)), .none, []⟩, ⟨(.some 11), (.fieldA 1 (.tmp 2)), .none, []⟩, ⟨(.some 12), (.load 1 false (.tmp 11)), .none, []⟩, ⟨(.some 13), (.build [(.slice .none 0 0), (.slice .none 0 0)] [(0, (1, (.tmp 10))), (1, (1, (.tmp 12)))]), .none, []⟩, ⟨(.some 14), (.fieldA 0 (.tmp 3)), .none, []⟩, ⟨(.some 15), (.load 1 true (.tmp 14)), .none, []⟩, ⟨(.some 16), (.fieldA 1 (.tmp 3)), .none, []⟩, ⟨(.some 17), (.load 1 false (.tmp 16)), .none, []⟩, ⟨(.some 18), (.build [(.slice .none 0 0), (.slice .none 0 0)] [(0, (1, (.tmp 15))), (1, (1, (.tmp 17)))]), .none, []⟩, ⟨(.some 19), (.call (2 * f_spec_MultiJoin) [(.tmp 13), (.tmp 18)]), .none, []⟩, ⟨(.some 8), (.mv (.tmp 19)), .none, []⟩, ⟨(.some 20), (.extract 0 (.tmp 8)), .none, []⟩, ⟨(.some 21), (.extract 1 (.tmp 8)), .none, []⟩, ⟨(.some 6), (.allocV [(1, false), (3, true)] [(.slice .none 0 0), (.slice .none 0 0)]), .none, []⟩, ⟨.none, (.storeV [(1, false), (3, true)] 2 (.tmp 6) (.tmp 20)), .none, []⟩, ⟨(.some 7), (.mv (.tmp 21)), .none, []⟩]) (.seq (.ops [⟨(.some 22), (.fieldA 0 (.tmp 6)), .none, []⟩, ⟨(.some 23), (.load 1 true (.tmp 22)), .none, []⟩, ⟨(.some 24), (.fieldA 1 (.tmp 6)), .none, []⟩, ⟨(.some 25), (.load 1 false (.tmp 24)), .none, []⟩, ⟨(.some 26), (.build [(.slice .none 0 0), (.slice .none 0 0)] [(0, (1, (.tmp 23))), (1, (1, (.tmp 25)))]), .none, []⟩, ⟨(.some 27), (.mv (.tmp 7)), .none, []⟩, ⟨.none, (.storeV [(1, false), (3, true)] 2 (.tmp 4) (.tmp 26)), .none, []⟩, ⟨(.some 5), (.mv (.tmp 27)), .none, []⟩]) .ret))), [(.cell 4 2 true), (.tmp 5)]⟩
set_option maxHeartbeats 10000000 in
theorem d_spec_SetJoin {P : Program} {env : Env} {f_spec_MultiJoin : Nat}  (ep_spec_MultiJoin : env (2 * f_spec_MultiJoin) = pureFn false (FA fun a : TMulti × TMulti => p_spec_MultiJoin a.1 a.2)) (x0 : TMulti) (x1 : TMulti) {b : T2 TMulti Int} (hp : p_spec_SetJoin x0 x1 = some b) : R P env (c_spec_SetJoin f_spec_MultiJoin) ((encA (x0, x1)).map ofI) [] (Tells false b) := by
  refine R_of (by simp [c_spec_SetJoin, encA]) ?_
  unfold c_spec_SetJoin
  unfold p_spec_SetJoin at hp
  obtain ⟨v0, hv0, hp⟩ := bind_eq hp
  have hp := Option.some.inj hp
  subst hp
  simp (disch := first | omega | (simp only [List.length_set, List.length_append, List.length_cons, List.length_nil, rows_len, zs]; first | done | omega)) only [ep_spec_MultiJoin, hv0, gs, reduceIte, reduceCtorEq, Nat.reduceAdd, Nat.reduceMul, Nat.reduceSub, Nat.reduceBEq, Nat.reduceEqDiff, Nat.reduceLeDiff, Nat.reduceLT, Nat.reduceGT, Int.reduceToNat, Int.reduceLT, Int.reduceLE, Int.reduceNeg, Int.reduceAdd, Int.reduceEq, Int.reduceNe]

noncomputable def p_impl_VecOK_l0 (x0 : TVec) : Int → Option (Lp (Int) Bool)
  | s1 =>
    if (decide (s1 < (x0.counts.length : Int))) = true then
      (get? x0.counts s1).bind fun v3 =>
      if (decide (v3 < 0)) = true then
        some (.ret false)
      else
        if (decide (1000000000000 < v3)) = true then
          some (.ret false)
        else
          some (.go (w64 (s1 + 1)))
    else
      some (.out s1)
noncomputable def p_impl_VecOK (x0 : TVec) : Option Bool :=
  if (decide ((x0.counts.length : Int) = 16)) = true then
    (loopP (p_impl_VecOK_l0 x0) 0).bind fun ee0 => match ee0 with
    | .ret r => some r
    | .out o6 =>
      some true
  else
    some false
def c_impl_VecOK : AFn := ⟨23, (.seq (.ops [⟨(.some 1), (.box (.tmp 0)), .none, []⟩, ⟨(.some 2), (.mv (.const (.bool false))), .none, []⟩]) (.seq (.seq (.ops [⟨(.some 5), (.fieldA 0 (.tmp 1)), .none, []⟩, ⟨(.some 6), (.load 1 false (.tmp 5)), .none, []⟩, ⟨(.some 7), (.len (.tmp 6)), .none, []⟩, ⟨(.some 8), (.pu (.n (.ar .neq)) [(.tmp 7), (.const (.int .i64 16))]), .none, []⟩]) (.cond (.tmp 8) (.seq (.ops [⟨(.some 2), (.mv (.const (.bool false))), .none, []⟩]) .ret) .skip)) (.seq (.seq (.ops [⟨(.some 9), (.fieldA 0 (.tmp 1)), .none, []⟩, ⟨(.some 10), (.load 1 false (.tmp 9)), .none, []⟩, ⟨(.some 11), (.len (.tmp 10)), .none, []⟩, ⟨(.some 12), (.mv (.const (.int .i64 0))), .none, []⟩]) (.block 0 (.loop (.seq (.ops [⟨(.some 13), (.pu (.n (.ar .lss)) [(.tmp 12), (.tmp 11)]), .none, []⟩]) (.seq (.cond (.tmp 13) .skip (.exit 0)) (.seq (.block 1 (.seq (.ops [⟨(.some 14), (.idxS 1 (.tmp 10) (.tmp 12)), .none, []⟩, ⟨(.some 15), (.load 1 false (.tmp 14)), .none, []⟩, ⟨(.some 4), (.mv (.tmp 15)), .none, []⟩]) (.seq (.ops [⟨(.some 16), (.mv (.tmp 4)), .none, []⟩, ⟨(.some 17), (.pu (.n (.ar .lss)) [(.tmp 16), (.const (.int .i64 0))]), .none, []⟩, ⟨(.some 18), (.mv (.tmp 17)), .none, []⟩, ⟨(.some 19), (.mv (.tmp 4)), (.some (18, false)), []⟩, ⟨(.some 20), (.pu (.n (.ar .gtr)) [(.tmp 19), (.const (.int .i64 1000000000000))]), (.some (18, false)), []⟩, ⟨(.some 21), (.pick (.tmp 18) (.const (.bool true)) (.tmp 20)), .none, []⟩]) (.cond (.tmp 21) (.seq (.ops [⟨(.some 2), (.mv (.const (.bool false))), .none, []⟩]) .ret) .skip)))) (.ops [⟨(.some 22), (.pu (.n (.ar .add)) [(.tmp 12), (.const (.int .i64 1))]), .none, []⟩, ⟨(.some 12), (.mv (.tmp 22)), .none, []⟩]))))))) (.seq (.ops [⟨(.some 2), (.mv (.const (.bool true))), .none, []⟩]) .ret)))), [(.tmp 2)]⟩
set_option maxHeartbeats 10000000 in
theorem d_impl_VecOK {P : Program} {env : Env}  (x0 : TVec) {b : Bool} (hp : p_impl_VecOK x0 = some b) : R P env (c_impl_VecOK) ((encA (x0)).map ofI) [] (Tells true b) := by
  refine R_of (by simp [c_impl_VecOK, encA]) ?_
  unfold c_impl_VecOK
  unfold p_impl_VecOK at hp
  by_cases hb0 : (decide ((x0.counts.length : Int) = 16)) = true
  · rw [if_t hb0] at hp
    obtain ⟨ee0, hee0, hp⟩ := bind_eq hp
    simp (disch := first | omega | (simp only [List.length_set, List.length_append, List.length_cons, List.length_nil, rows_len, zs]; first | done | omega)) only [hb0, gs, reduceIte, reduceCtorEq, Nat.reduceAdd, Nat.reduceMul, Nat.reduceSub, Nat.reduceBEq, Nat.reduceEqDiff, Nat.reduceLeDiff, Nat.reduceLT, Nat.reduceGT, Int.reduceToNat, Int.reduceLT, Int.reduceLE, Int.reduceNeg, Int.reduceAdd, Int.reduceEq, Int.reduceNe]
    refine W_loopP 0 (fun s t h => match s with | s1 => t 10 = .i (.sl 1 (x0.counts.map enc)) ∧ t 11 = .i (.s (.int .i64 (x0.counts.length : Int))) ∧ t 12 = .i (.s (.int .i64 s1))) (RK [.tmp 2] (Tells true)) ?_ hee0 ?_ ?_
    · rintro s1 ee tt0 hh0 ⟨ftt0_0, ftt0_1, ftt0_2⟩ hp
      rw [p_impl_VecOK_l0] at hp
      by_cases hb2 : (decide (s1 < (x0.counts.length : Int))) = true
      · rw [if_t hb2] at hp
        obtain ⟨v3, hv3, hp⟩ := bind_eq hp
        by_cases hb4 : (decide (v3 < 0)) = true
        · rw [if_t hb4] at hp
          have hp := Option.some.inj hp
          subst hp
          simp (disch := first | omega | (simp only [List.length_set, List.length_append, List.length_cons, List.length_nil, rows_len, zs]; first | done | omega)) only [hb0, ftt0_0, ftt0_1, ftt0_2, hb2, hv3, hb4, gs, reduceIte, reduceCtorEq, Nat.reduceAdd, Nat.reduceMul, Nat.reduceSub, Nat.reduceBEq, Nat.reduceEqDiff, Nat.reduceLeDiff, Nat.reduceLT, Nat.reduceGT, Int.reduceToNat, Int.reduceLT, Int.reduceLE, Int.reduceNeg, Int.reduceAdd, Int.reduceEq, Int.reduceNe]
        · replace hb4 := eq_false_of_ne_true hb4
          rw [if_f hb4] at hp
          by_cases hb5 : (decide (1000000000000 < v3)) = true
          · rw [if_t hb5] at hp
            have hp := Option.some.inj hp
            subst hp
            simp (disch := first | omega | (simp only [List.length_set, List.length_append, List.length_cons, List.length_nil, rows_len, zs]; first | done | omega)) only [hb0, ftt0_0, ftt0_1, ftt0_2, hb2, hv3, hb4, hb5, gs, reduceIte, reduceCtorEq, Nat.reduceAdd, Nat.reduceMul, Nat.reduceSub, Nat.reduceBEq, Nat.reduceEqDiff, Nat.reduceLeDiff, Nat.reduceLT, Nat.reduceGT, Int.reduceToNat, Int.reduceLT, Int.reduceLE, Int.reduceNeg, Int.reduceAdd, Int.reduceEq, Int.reduceNe]
          · replace hb5 := eq_false_of_ne_true hb5
            rw [if_f hb5] at hp
            have hp := Option.some.inj hp
            subst hp
            simp (disch := first | omega | (simp only [List.length_set, List.length_append, List.length_cons, List.length_nil, rows_len, zs]; first | done | omega)) only [hb0, ftt0_0, ftt0_1, ftt0_2, hb2, hv3, hb4, hb5, gs, reduceIte, reduceCtorEq, Nat.reduceAdd, Nat.reduceMul, Nat.reduceSub, Nat.reduceBEq, Nat.reduceEqDiff, Nat.reduceLeDiff, Nat.reduceLT, Nat.reduceGT, Int.reduceToNat, Int.reduceLT, Int.reduceLE, Int.reduceNeg, Int.reduceAdd, Int.reduceEq, Int.reduceNe] <;> omega
      · replace hb2 := eq_false_of_ne_true hb2
        rw [if_f hb2] at hp
        have hp := Option.some.inj hp
        subst hp
        simp (disch := first | omega | (simp only [List.length_set, List.length_append, List.length_cons, List.length_nil, rows_len, zs]; first | done | omega)) only [hb0, ftt0_0, ftt0_1, ftt0_2, hb2, gs, reduceIte, reduceCtorEq, Nat.reduceAdd, Nat.reduceMul, Nat.reduceSub, Nat.reduceBEq, Nat.reduceEqDiff, Nat.reduceLeDiff, Nat.reduceLT, Nat.reduceGT, Int.reduceToNat, Int.reduceLT, Int.reduceLE, Int.reduceNeg, Int.reduceAdd, Int.reduceEq, Int.reduceNe] <;> omega
    · simp (disch := first | omega | (simp only [List.length_set, List.length_append, List.length_cons, List.length_nil, rows_len, zs]; first | done | omega)) only [hb0, gs, reduceIte, reduceCtorEq, Nat.reduceAdd, Nat.reduceMul, Nat.reduceSub, Nat.reduceBEq, Nat.reduceEqDiff, Nat.reduceLeDiff, Nat.reduceLT, Nat.reduceGT, Int.reduceToNat, Int.reduceLT, Int.reduceLE, Int.reduceNeg, Int.reduceAdd, Int.reduceEq, Int.reduceNe] <;> omega
    · intro x tt1 hh1 hx
      rcases ee0 with o6 | r
      · obtain ⟨rfl, ftt1_0, ftt1_1, ftt1_2⟩ := hx
        dsimp only at hp
        have hp := Option.some.inj hp
        subst hp
        simp (disch := first | omega | (simp only [List.length_set, List.length_append, List.length_cons, List.length_nil, rows_len, zs]; first | done | omega)) only [hb0, ftt1_0, ftt1_1, ftt1_2, gs, reduceIte, reduceCtorEq, Nat.reduceAdd, Nat.reduceMul, Nat.reduceSub, Nat.reduceBEq, Nat.reduceEqDiff, Nat.reduceLeDiff, Nat.reduceLT, Nat.reduceGT, Int.reduceToNat, Int.reduceLT, Int.reduceLE, Int.reduceNeg, Int.reduceAdd, Int.reduceEq, Int.reduceNe]
      · obtain ⟨rfl, hx⟩ := hx
        dsimp only at hp
        cases hp
        simp only [seqK_ret, blockK_ret, retK_RK (K := Tells true), hx, and_self, true_and]
  · replace hb0 := eq_false_of_ne_true hb0
    rw [if_f hb0] at hp
    have hp := Option.some.inj hp
    subst hp
    simp (disch := first | omega | (simp only [List.length_set, List.length_append, List.length_cons, List.length_nil, rows_len, zs]; first | done | omega)) only [hb0, gs, reduceIte, reduceCtorEq, Nat.reduceAdd, Nat.reduceMul, Nat.reduceSub, Nat.reduceBEq, Nat.reduceEqDiff, Nat.reduceLeDiff, Nat.reduceLT, Nat.reduceGT, Int.reduceToNat, Int.reduceLT, Int.reduceLE, Int.reduceNeg, Int.reduceAdd, Int.reduceEq, Int.reduceNe]

noncomputable def p_impl_isActor (x0 : Int) : Option Bool :=
  if (decide (0 ≤ x0)) = true then
    some (decide (x0 < 16))
  else
    some false
def c_impl_isActor : AFn := ⟨9, (.seq (.ops [⟨(.some 2), (.mv (.const (.bool false))), .none, []⟩]) (.seq (.ops [⟨(.some 3), (.mv (.tmp 0)), .none, []⟩, ⟨(.some 4), (.pu (.n (.ar .geq)) [(.tmp 3), (.const (.int .i64 0))]), .none, []⟩, ⟨(.some 5), (.mv (.tmp 4)), .none, []⟩, ⟨(.some 6), (.mv (.tmp 0)), (.some (5, true)), []⟩, ⟨(.some 7), (.pu (.n (.ar .lss)) [(.tmp 6), (.const (.int .i64 16))]), (.some (5, true)), []⟩, ⟨(.some 8), (.pick (.tmp 5) (.tmp 7) (.const (.bool false))), .none, []⟩, ⟨(.some 2), (.mv (.tmp 8)), .none, []⟩]) .ret)), [(.tmp 2)]⟩
set_option maxHeartbeats 10000000 in
theorem d_impl_isActor {P : Program} {env : Env}  (x0 : Int) {b : Bool} (hp : p_impl_isActor x0 = some b) : R P env (c_impl_isActor) ((encA (x0)).map ofI) [] (Tells true b) := by
  refine R_of (by simp [c_impl_isActor, encA]) ?_
  unfold c_impl_isActor
  unfold p_impl_isActor at hp
  by_cases hb0 : (decide (0 ≤ x0)) = true
  · rw [if_t hb0] at hp
    have hp := Option.some.inj hp
    subst hp
    simp (disch := first | omega | (simp only [List.length_set, List.length_append, List.length_cons, List.length_nil, rows_len, zs]; first | done | omega)) only [hb0, gs, reduceIte, reduceCtorEq, Nat.reduceAdd, Nat.reduceMul, Nat.reduceSub, Nat.reduceBEq, Nat.reduceEqDiff, Nat.reduceLeDiff, Nat.reduceLT, Nat.reduceGT, Int.reduceToNat, Int.reduceLT, Int.reduceLE, Int.reduceNeg, Int.reduceAdd, Int.reduceEq, Int.reduceNe]
  · replace hb0 := eq_false_of_ne_true hb0
    rw [if_f hb0] at hp
    have hp := Option.some.inj hp
    subst hp
    simp (disch := first | omega | (simp only [List.length_set, List.length_append, List.length_cons, List.length_nil, rows_len, zs]; first | done | omega)) only [hb0, gs, reduceIte, reduceCtorEq, Nat.reduceAdd, Nat.reduceMul, Nat.reduceSub, Nat.reduceBEq, Nat.reduceEqDiff, Nat.reduceLeDiff, Nat.reduceLT, Nat.reduceGT, Int.reduceToNat, Int.reduceLT, Int.reduceLE, Int.reduceNeg, Int.reduceAdd, Int.reduceEq, Int.reduceNe]

noncomputable def p_impl_StampOK (x0 : TStamp) : Option Bool :=
  if (decide (1 ≤ x0.time)) = true then
    if (decide (x0.time ≤ 1000000000000)) = true then
      (p_impl_isActor x0.actor).bind fun v2 =>
      some v2
    else
      some false
  else
    some false
def c_impl_StampOK (f_impl_isActor : Nat) : AFn := ⟨16, (.seq (.ops [⟨(.some 1), (.box (.tmp 0)), .none, []⟩, ⟨(.some 2), (.mv (.const (.bool false))), .none, []⟩]) (.seq (.ops [⟨(.some 3), (.fieldA 0 (.tmp 1)), .none, []⟩, ⟨(.some 4), (.load 1 false (.tmp 3)), .none, []⟩, ⟨(.some 5), (.pu (.n (.ar .geq)) [(.tmp 4), (.const (.int .i64 1))]), .none, []⟩, ⟨(.some 6), (.mv (.tmp 5)), .none, []⟩, ⟨(.some 7), (.fieldA 0 (.tmp 1)), (.some (6, true)), []⟩, ⟨(.some 8), (.load 1 false (.tmp 7)), (.some (6, true)), []⟩, ⟨(.some 9), (.pu (.n (.ar .leq)) [(.tmp 8), (.const (.int .i64 1000000000000))]), (.some (6, true)), []⟩, ⟨(.some 10), (.pick (.tmp 6) (.tmp 9) (.const (.bool false))), .none, []⟩, ⟨(.some 11), (.mv (.tmp 10)), .none, []⟩, ⟨(.some 12), (.fieldA 1 (.tmp 1)), (.some (11, true)), []⟩, ⟨(.some 13), (.load 1 false (.tmp 12)), (.some (11, true)), []⟩, ⟨(.some 14), (.call (2 * f_impl_isActor) [(.tmp 13)]), (.some (11, true)), []⟩, ⟨(.some 15), (.pick (.tmp 11) (.tmp 14) (.const (.bool false))), .none, []⟩, ⟨(.some 2), (.mv (.tmp 15)), .none, []⟩]) .ret)), [(.tmp 2)]⟩
set_option maxHeartbeats 10000000 in
theorem d_impl_StampOK {P : Program} {env : Env} {f_impl_isActor : Nat}  (ep_impl_isActor : env (2 * f_impl_isActor) = pureFn true (FA fun a : Int => p_impl_isActor a)) (x0 : TStamp) {b : Bool} (hp : p_impl_StampOK x0 = some b) : R P env (c_impl_StampOK f_impl_isActor) ((encA (x0)).map ofI) [] (Tells true b) := by
  refine R_of (by simp [c_impl_StampOK, encA]) ?_
  unfold c_impl_StampOK
  unfold p_impl_StampOK at hp
  by_cases hb0 : (decide (1 ≤ x0.time)) = true
  · rw [if_t hb0] at hp
    by_cases hb1 : (decide (x0.time ≤ 1000000000000)) = true
    · rw [if_t hb1] at hp
      obtain ⟨v2, hv2, hp⟩ := bind_eq hp
      have hp := Option.some.inj hp
      subst hp
      simp (disch := first | omega | (simp only [List.length_set, List.length_append, List.length_cons, List.length_nil, rows_len, zs]; first | done | omega)) only [ep_impl_isActor, hb0, hb1, hv2, gs, reduceIte, reduceCtorEq, Nat.reduceAdd, Nat.reduceMul, Nat.reduceSub, Nat.reduceBEq, Nat.reduceEqDiff, Nat.reduceLeDiff, Nat.reduceLT, Nat.reduceGT, Int.reduceToNat, Int.reduceLT, Int.reduceLE, Int.reduceNeg, Int.reduceAdd, Int.reduceEq, Int.reduceNe]
    · replace hb1 := eq_false_of_ne_true hb1
      rw [if_f hb1] at hp
      have hp := Option.some.inj hp
      subst hp
      simp (disch := first | omega | (simp only [List.length_set, List.length_append, List.length_cons, List.length_nil, rows_len, zs]; first | done | omega)) only [ep_impl_isActor, hb0, hb1, gs, reduceIte, reduceCtorEq, Nat.reduceAdd, Nat.reduceMul, Nat.reduceSub, Nat.reduceBEq, Nat.reduceEqDiff, Nat.reduceLeDiff, Nat.reduceLT, Nat.reduceGT, Int.reduceToNat, Int.reduceLT, Int.reduceLE, Int.reduceNeg, Int.reduceAdd, Int.reduceEq, Int.reduceNe]
  · replace hb0 := eq_false_of_ne_true hb0
    rw [if_f hb0] at hp
    have hp := Option.some.inj hp
    subst hp
    simp (disch := first | omega | (simp only [List.length_set, List.length_append, List.length_cons, List.length_nil, rows_len, zs]; first | done | omega)) only [ep_impl_isActor, hb0, gs, reduceIte, reduceCtorEq, Nat.reduceAdd, Nat.reduceMul, Nat.reduceSub, Nat.reduceBEq, Nat.reduceEqDiff, Nat.reduceLeDiff, Nat.reduceLT, Nat.reduceGT, Int.reduceToNat, Int.reduceLT, Int.reduceLE, Int.reduceNeg, Int.reduceAdd, Int.reduceEq, Int.reduceNe]

noncomputable def p_impl_StampLess (x0 : TStamp) (x1 : TStamp) : Option Bool :=
  if (decide (x0.time = x1.time)) = true then
    some (decide (x0.actor < x1.actor))
  else
    some (decide (x0.time < x1.time))
def c_impl_StampLess : AFn := ⟨20, (.seq (.ops [⟨(.some 2), (.box (.tmp 0)), .none, []⟩, ⟨(.some 3), (.box (.tmp 1)), .none, []⟩, ⟨(.some 4), (.mv (.const (.bool false))), .none, []⟩]) (.seq (.seq (.ops [⟨(.some 5), (.fieldA 0 (.tmp 2)), .none, []⟩, ⟨(.some 6), (.load 1 false (.tmp 5)), .none, []⟩, ⟨(.some 7), (.fieldA 0 (.tmp 3)), .none, []⟩, ⟨(.some 8), (.load 1 false (.tmp 7)), .none, []⟩, ⟨(.some 9), (.pu (.n (.ar .neq)) [(.tmp 6), (.tmp 8)]), .none, []⟩]) (.cond (.tmp 9) (.seq (.ops [⟨(.some 10), (.fieldA 0 (.tmp 2)), .none, []⟩, ⟨(.some 11), (.load 1 false (.tmp 10)), .none, []⟩, ⟨(.some 12), (.fieldA 0 (.tmp 3)), .none, []⟩, ⟨(.some 13), (.load 1 false (.tmp 12)), .none, []⟩, ⟨(.some 14), (.pu (.n (.ar .lss)) [(.tmp 11), (.tmp 13)]), .none, []⟩, ⟨(.some 4), (.mv (.tmp 14)), .none, []⟩]) .ret) .skip)) (.seq (.ops [⟨(.some 15), (.fieldA 1 (.tmp 2)), .none, []⟩, ⟨(.some 16), (.load 1 false (.tmp 15)), .none, []⟩, ⟨(.some 17), (.fieldA 1 (.tmp 3)), .none, []⟩, ⟨(.some 18), (.load 1 false (.tmp 17)), .none, []⟩, ⟨(.some 19), (.pu (.n (.ar .lss)) [(.tmp 16), (.tmp 18)]), .none, []⟩, ⟨(.some 4), (.mv (.tmp 19)), .none, []⟩]) .ret))), [(.tmp 4)]⟩
set_option maxHeartbeats 10000000 in
theorem d_impl_StampLess {P : Program} {env : Env}  (x0 : TStamp) (x1 : TStamp) {b : Bool} (hp : p_impl_StampLess x0 x1 = some b) : R P env (c_impl_StampLess) ((encA (x0, x1)).map ofI) [] (Tells true b) := by
  refine R_of (by simp [c_impl_StampLess, encA]) ?_
  unfold c_impl_StampLess
  unfold p_impl_StampLess at hp
  by_cases hb0 : (decide (x0.time = x1.time)) = true
  · rw [if_t hb0] at hp
    have hp := Option.some.inj hp
    subst hp
    simp (disch := first | omega | (simp only [List.length_set, List.length_append, List.length_cons, List.length_nil, rows_len, zs]; first | done | omega)) only [hb0, gs, reduceIte, reduceCtorEq, Nat.reduceAdd, Nat.reduceMul, Nat.reduceSub, Nat.reduceBEq, Nat.reduceEqDiff, Nat.reduceLeDiff, Nat.reduceLT, Nat.reduceGT, Int.reduceToNat, Int.reduceLT, Int.reduceLE, Int.reduceNeg, Int.reduceAdd, Int.reduceEq, Int.reduceNe]
  · replace hb0 := eq_false_of_ne_true hb0
    rw [if_f hb0] at hp
    have hp := Option.some.inj hp
    subst hp
    simp (disch := first | omega | (simp only [List.length_set, List.length_append, List.length_cons, List.length_nil, rows_len, zs]; first | done | omega)) only [hb0, gs, reduceIte, reduceCtorEq, Nat.reduceAdd, Nat.reduceMul, Nat.reduceSub, Nat.reduceBEq, Nat.reduceEqDiff, Nat.reduceLeDiff, Nat.reduceLT, Nat.reduceGT, Int.reduceToNat, Int.reduceLT, Int.reduceLE, Int.reduceNeg, Int.reduceAdd, Int.reduceEq, Int.reduceNe]

noncomputable def p_impl_stateOK_l0 (x0 : TVec) (x1 : List TEntry) : Int → Option (Lp (Int) Bool)
  | s3 =>
    if (decide (s3 < (x1.length : Int))) = true then
      (get? x1 s3).bind fun v5 =>
      (p_impl_StampOK v5.stamp).bind fun v6 =>
      if (v6) = true then
        if (decide (200 < (v5.text.size : Int))) = true then
          some (.ret false)
        else
          (get? x0.counts v5.stamp.actor).bind fun v9 =>
          if (decide (v9 < v5.stamp.time)) = true then
            some (.ret false)
          else
            if (decide (0 < s3)) = true then
              (get? x1 (w64 (s3 - 1))).bind fun v12 =>
              (p_impl_StampLess v12.stamp v5.stamp).bind fun v13 =>
              if (v13) = true then
                some (.go (w64 (s3 + 1)))
              else
                some (.ret false)
            else
              some (.go (w64 (s3 + 1)))
      else
        some (.ret false)
    else
      some (.out s3)
noncomputable def p_impl_stateOK (x0 : TVec) (x1 : List TEntry) : Option Bool :=
  (p_impl_VecOK x0).bind fun v0 =>
  if (v0) = true then
    if (decide (256 < (x1.length : Int))) = true then
      some false
    else
      (loopP (p_impl_stateOK_l0 x0 x1) 0).bind fun ee0 => match ee0 with
      | .ret r => some r
      | .out o15 =>
        some true
  else
    some false
def c_impl_stateOK (f_impl_VecOK : Nat) (f_impl_StampOK : Nat) (f_impl_StampLess : Nat) : AFn := ⟨60, (.seq (.ops [⟨(.some 2), (.box (.tmp 0)), .none, []⟩, ⟨(.some 4), (.mv (.const (.bool false))), .none, []⟩]) (.seq (.seq (.ops [⟨(.some 7), (.load 1 true (.tmp 2)), .none, []⟩, ⟨(.some 8), (.call (2 * f_impl_VecOK) [(.tmp 7)]), .none, []⟩, ⟨(.some 9), (.pu (.n (.un .not)) [(.tmp 8)]), .none, []⟩, ⟨(.some 10), (.mv (.tmp 9)), .none, []⟩, ⟨(.some 11), (.mv (.tmp 1)), (.some (10, false)), []⟩, ⟨(.some 12), (.len (.tmp 11)), (.some (10, false)), []⟩, ⟨(.some 13), (.pu (.n (.ar .gtr)) [(.tmp 12), (.const (.int .i64 256))]), (.some (10, false)), []⟩, ⟨(.some 14), (.pick (.tmp 10) (.const (.bool true)) (.tmp 13)), .none, []⟩]) (.cond (.tmp 14) (.seq (.ops [⟨(.some 4), (.mv (.const (.bool false))), .none, []⟩]) .ret) .skip)) (.seq (.seq (.ops [⟨(.some 15), (.mv (.tmp 1)), .none, []⟩, ⟨(.some 16), (.len (.tmp 15)), .none, []⟩, ⟨(.some 17), (.mv (.const (.int .i64 0))), .none, []⟩]) (.block 0 (.loop (.seq (.ops [⟨(.some 18), (.pu (.n (.ar .lss)) [(.tmp 17), (.tmp 16)]), .none, []⟩]) (.seq (.cond (.tmp 18) .skip (.exit 0)) (.seq (.block 1 (.seq (.ops [⟨(.some 19), (.mv (.tmp 17)), .none, []⟩, ⟨(.some 20), (.idxS 3 (.tmp 15) (.tmp 17)), .none, []⟩, ⟨(.some 21), (.load 3 true (.tmp 20)), .none, []⟩, ⟨(.some 6), (.allocV [(0, false), (0, false), (0, false)] [(.int .i64 0), (.int .i64 0), (.string ⟨#[]⟩)]), .none, []⟩, ⟨(.some 5), (.mv (.tmp 19)), .none, []⟩, ⟨.none, (.storeV [(0, false), (0, false), (0, false)] 3 (.tmp 6) (.tmp 21)), .none, []⟩]) (.seq (.seq (.ops [⟨(.some 22), (.fieldA 0 (.tmp 6)), .none, []⟩, ⟨(.some 23), (.load 2 true (.tmp 22)), .none, []⟩, ⟨(.some 24), (.call (2 * f_impl_StampOK) [(.tmp 23)]), .none, []⟩, ⟨(.some 25), (.pu (.n (.un .not)) [(.tmp 24)]), .none, []⟩, ⟨(.some 26), (.mv (.tmp 25)), .none, []⟩, ⟨(.some 27), (.fieldA 2 (.tmp 6)), (.some (26, false)), []⟩, ⟨(.some 28), (.load 1 false (.tmp 27)), (.some (26, false)), []⟩, ⟨(.some 29), (.pu (.n .len) [(.tmp 28)]), (.some (26, false)), []⟩, ⟨(.some 30), (.pu (.n (.ar .gtr)) [(.tmp 29), (.const (.int .i64 200))]), (.some (26, false)), []⟩, ⟨(.some 31), (.pick (.tmp 26) (.const (.bool true)) (.tmp 30)), .none, []⟩, ⟨(.some 32), (.mv (.tmp 31)), .none, []⟩, ⟨(.some 33), (.fieldA 0 (.tmp 6)), (.some (32, false)), []⟩, ⟨(.some 34), (.fieldA 0 (.tmp 33)), (.some (32, false)), []⟩, ⟨(.some 35), (.load 1 false (.tmp 34)), (.some (32, false)), []⟩, ⟨(.some 36), (.fieldA 0 (.tmp 2)), (.some (32, false)), []⟩, ⟨(.some 37), (.load 1 false (.tmp 36)), (.some (32, false)), []⟩, ⟨(.some 38), (.fieldA 0 (.tmp 6)), (.some (32, false)), []⟩, ⟨(.some 39), (.fieldA 1 (.tmp 38)), (.some (32, false)), []⟩, ⟨(.some 40), (.load 1 false (.tmp 39)), (.some (32, false)), []⟩, ⟨(.some 41), (.idxS 1 (.tmp 37) (.tmp 40)), (.some (32, false)), []⟩, ⟨(.some 42), (.load 1 false (.tmp 41)), (.some (32, false)), []⟩, ⟨(.some 43), (.pu (.n (.ar .gtr)) [(.tmp 35), (.tmp 42)]), (.some (32, false)), []⟩, ⟨(.some 44), (.pick (.tmp 32) (.const (.bool true)) (.tmp 43)), .none, []⟩]) (.cond (.tmp 44) (.seq (.ops [⟨(.some 4), (.mv (.const (.bool false))), .none, []⟩]) .ret) .skip)) (.seq (.ops [⟨(.some 45), (.mv (.tmp 5)), .none, []⟩, ⟨(.some 46), (.pu (.n (.ar .gtr)) [(.tmp 45), (.const (.int .i64 0))]), .none, []⟩, ⟨(.some 47), (.mv (.tmp 46)), .none, []⟩, ⟨(.some 48), (.mv (.tmp 1)), (.some (47, true)), []⟩, ⟨(.some 49), (.mv (.tmp 5)), (.some (47, true)), []⟩, ⟨(.some 50), (.pu (.n (.ar .sub)) [(.tmp 49), (.const (.int .i64 1))]), (.some (47, true)), []⟩, ⟨(.some 51), (.idxS 3 (.tmp 48) (.tmp 50)), (.some (47, true)), []⟩, ⟨(.some 52), (.fieldA 0 (.tmp 51)), (.some (47, true)), []⟩, ⟨(.some 53), (.load 2 true (.tmp 52)), (.some (47, true)), []⟩, ⟨(.some 54), (.fieldA 0 (.tmp 6)), (.some (47, true)), []⟩, ⟨(.some 55), (.load 2 true (.tmp 54)), (.some (47, true)), []⟩, ⟨(.some 56), (.call (2 * f_impl_StampLess) [(.tmp 53), (.tmp 55)]), (.some (47, true)), []⟩, ⟨(.some 57), (.pu (.n (.un .not)) [(.tmp 56)]), (.some (47, true)), []⟩, ⟨(.some 58), (.pick (.tmp 47) (.tmp 57) (.const (.bool false))), .none, []⟩]) (.cond (.tmp 58) (.seq (.ops [⟨(.some 4), (.mv (.const (.bool false))), .none, []⟩]) .ret) .skip))))) (.ops [⟨(.some 59), (.pu (.n (.ar .add)) [(.tmp 17), (.const (.int .i64 1))]), .none, []⟩, ⟨(.some 17), (.mv (.tmp 59)), .none, []⟩]))))))) (.seq (.ops [⟨(.some 4), (.mv (.const (.bool true))), .none, []⟩]) .ret)))), [(.tmp 4)]⟩
set_option maxHeartbeats 10000000 in
theorem d_impl_stateOK {P : Program} {env : Env} {f_impl_VecOK : Nat} {f_impl_StampOK : Nat} {f_impl_StampLess : Nat}  (ep_impl_VecOK : env (2 * f_impl_VecOK) = pureFn true (FA fun a : TVec => p_impl_VecOK a)) (ep_impl_StampOK : env (2 * f_impl_StampOK) = pureFn true (FA fun a : TStamp => p_impl_StampOK a)) (ep_impl_StampLess : env (2 * f_impl_StampLess) = pureFn true (FA fun a : TStamp × TStamp => p_impl_StampLess a.1 a.2)) (x0 : TVec) (x1 : List TEntry) {b : Bool} (hp : p_impl_stateOK x0 x1 = some b) : R P env (c_impl_stateOK f_impl_VecOK f_impl_StampOK f_impl_StampLess) ((encA (x0, x1)).map ofI) [] (Tells true b) := by
  refine R_of (by simp [c_impl_stateOK, encA]) ?_
  unfold c_impl_stateOK
  unfold p_impl_stateOK at hp
  obtain ⟨v0, hv0, hp⟩ := bind_eq hp
  by_cases hb1 : (v0) = true
  · rw [if_t hb1] at hp
    by_cases hb2 : (decide (256 < (x1.length : Int))) = true
    · rw [if_t hb2] at hp
      have hp := Option.some.inj hp
      subst hp
      simp (disch := first | omega | (simp only [List.length_set, List.length_append, List.length_cons, List.length_nil, rows_len, zs]; first | done | omega)) only [ep_impl_VecOK, ep_impl_StampOK, ep_impl_StampLess, hv0, hb1, hb2, gs, reduceIte, reduceCtorEq, Nat.reduceAdd, Nat.reduceMul, Nat.reduceSub, Nat.reduceBEq, Nat.reduceEqDiff, Nat.reduceLeDiff, Nat.reduceLT, Nat.reduceGT, Int.reduceToNat, Int.reduceLT, Int.reduceLE, Int.reduceNeg, Int.reduceAdd, Int.reduceEq, Int.reduceNe]
    · replace hb2 := eq_false_of_ne_true hb2
      rw [if_f hb2] at hp
      obtain ⟨ee0, hee0, hp⟩ := bind_eq hp
      simp (disch := first | omega | (simp only [List.length_set, List.length_append, List.length_cons, List.length_nil, rows_len, zs]; first | done | omega)) only [ep_impl_VecOK, ep_impl_StampOK, ep_impl_StampLess, hv0, hb1, hb2, gs, reduceIte, reduceCtorEq, Nat.reduceAdd, Nat.reduceMul, Nat.reduceSub, Nat.reduceBEq, Nat.reduceEqDiff, Nat.reduceLeDiff, Nat.reduceLT, Nat.reduceGT, Int.reduceToNat, Int.reduceLT, Int.reduceLE, Int.reduceNeg, Int.reduceAdd, Int.reduceEq, Int.reduceNe]
      refine W_loopP 0 (fun s t h => match s with | s3 => t 1 = .i (.sl 3 (x1.map enc)) ∧ t 2 = .ptr 0 1 0 ∧ t 15 = .i (.sl 3 (x1.map enc)) ∧ t 16 = .i (.s (.int .i64 (x1.length : Int))) ∧ t 17 = .i (.s (.int .i64 s3)) ∧ getCells h 0 1 = some [.i (.sl 1 (x0.counts.map enc))] ∧ 0 < h.length) (RK [.tmp 4] (Tells true)) ?_ hee0 ?_ ?_
      · rintro s3 ee tt0 hh0 ⟨ftt0_0, ftt0_1, ftt0_2, ftt0_3, ftt0_4, ftt0_5, ftt0_6⟩ hp
        rw [p_impl_stateOK_l0] at hp
        by_cases hb4 : (decide (s3 < (x1.length : Int))) = true
        · rw [if_t hb4] at hp
          obtain ⟨v5, hv5, hp⟩ := bind_eq hp
          obtain ⟨v6, hv6, hp⟩ := bind_eq hp
          by_cases hb7 : (v6) = true
          · rw [if_t hb7] at hp
            by_cases hb8 : (decide (200 < (v5.text.size : Int))) = true
            · rw [if_t hb8] at hp
              have hp := Option.some.inj hp
              subst hp
              simp (disch := first | omega | (simp only [List.length_set, List.length_append, List.length_cons, List.length_nil, rows_len, zs]; first | done | omega)) only [ep_impl_VecOK, ep_impl_StampOK, ep_impl_StampLess, hv0, hb1, hb2, ftt0_0, ftt0_1, ftt0_2, ftt0_3, ftt0_4, ftt0_5, ftt0_6, hb4, hv5, hv6, hb7, hb8, gs, reduceIte, reduceCtorEq, Nat.reduceAdd, Nat.reduceMul, Nat.reduceSub, Nat.reduceBEq, Nat.reduceEqDiff, Nat.reduceLeDiff, Nat.reduceLT, Nat.reduceGT, Int.reduceToNat, Int.reduceLT, Int.reduceLE, Int.reduceNeg, Int.reduceAdd, Int.reduceEq, Int.reduceNe]
            · replace hb8 := eq_false_of_ne_true hb8
              rw [if_f hb8] at hp
              obtain ⟨v9, hv9, hp⟩ := bind_eq hp
              by_cases hb10 : (decide (v9 < v5.stamp.time)) = true
              · rw [if_t hb10] at hp
                have hp := Option.some.inj hp
                subst hp
                simp (disch := first | omega | (simp only [List.length_set, List.length_append, List.length_cons, List.length_nil, rows_len, zs]; first | done | omega)) only [ep_impl_VecOK, ep_impl_StampOK, ep_impl_StampLess, hv0, hb1, hb2, ftt0_0, ftt0_1, ftt0_2, ftt0_3, ftt0_4, ftt0_5, ftt0_6, hb4, hv5, hv6, hb7, hb8, hv9, hb10, gs, reduceIte, reduceCtorEq, Nat.reduceAdd, Nat.reduceMul, Nat.reduceSub, Nat.reduceBEq, Nat.reduceEqDiff, Nat.reduceLeDiff, Nat.reduceLT, Nat.reduceGT, Int.reduceToNat, Int.reduceLT, Int.reduceLE, Int.reduceNeg, Int.reduceAdd, Int.reduceEq, Int.reduceNe]
              · replace hb10 := eq_false_of_ne_true hb10
                rw [if_f hb10] at hp
                by_cases hb11 : (decide (0 < s3)) = true
                · rw [if_t hb11] at hp
                  obtain ⟨v12, hv12, hp⟩ := bind_eq hp
                  obtain ⟨v13, hv13, hp⟩ := bind_eq hp
                  by_cases hb14 : (v13) = true
                  · rw [if_t hb14] at hp
                    have hp := Option.some.inj hp
                    subst hp
                    simp (disch := first | omega | (simp only [List.length_set, List.length_append, List.length_cons, List.length_nil, rows_len, zs]; first | done | omega)) only [ep_impl_VecOK, ep_impl_StampOK, ep_impl_StampLess, hv0, hb1, hb2, ftt0_0, ftt0_1, ftt0_2, ftt0_3, ftt0_4, ftt0_5, ftt0_6, hb4, hv5, hv6, hb7, hb8, hv9, hb10, hb11, hv12, hv13, hb14, gs, reduceIte, reduceCtorEq, Nat.reduceAdd, Nat.reduceMul, Nat.reduceSub, Nat.reduceBEq, Nat.reduceEqDiff, Nat.reduceLeDiff, Nat.reduceLT, Nat.reduceGT, Int.reduceToNat, Int.reduceLT, Int.reduceLE, Int.reduceNeg, Int.reduceAdd, Int.reduceEq, Int.reduceNe] <;> omega
                  · replace hb14 := eq_false_of_ne_true hb14
                    rw [if_f hb14] at hp
                    have hp := Option.some.inj hp
                    subst hp
                    simp (disch := first | omega | (simp only [List.length_set, List.length_append, List.length_cons, List.length_nil, rows_len, zs]; first | done | omega)) only [ep_impl_VecOK, ep_impl_StampOK, ep_impl_StampLess, hv0, hb1, hb2, ftt0_0, ftt0_1, ftt0_2, ftt0_3, ftt0_4, ftt0_5, ftt0_6, hb4, hv5, hv6, hb7, hb8, hv9, hb10, hb11, hv12, hv13, hb14, gs, reduceIte, reduceCtorEq, Nat.reduceAdd, Nat.reduceMul, Nat.reduceSub, Nat.reduceBEq, Nat.reduceEqDiff, Nat.reduceLeDiff, Nat.reduceLT, Nat.reduceGT, Int.reduceToNat, Int.reduceLT, Int.reduceLE, Int.reduceNeg, Int.reduceAdd, Int.reduceEq, Int.reduceNe]
                · replace hb11 := eq_false_of_ne_true hb11
                  rw [if_f hb11] at hp
                  have hp := Option.some.inj hp
                  subst hp
                  simp (disch := first | omega | (simp only [List.length_set, List.length_append, List.length_cons, List.length_nil, rows_len, zs]; first | done | omega)) only [ep_impl_VecOK, ep_impl_StampOK, ep_impl_StampLess, hv0, hb1, hb2, ftt0_0, ftt0_1, ftt0_2, ftt0_3, ftt0_4, ftt0_5, ftt0_6, hb4, hv5, hv6, hb7, hb8, hv9, hb10, hb11, gs, reduceIte, reduceCtorEq, Nat.reduceAdd, Nat.reduceMul, Nat.reduceSub, Nat.reduceBEq, Nat.reduceEqDiff, Nat.reduceLeDiff, Nat.reduceLT, Nat.reduceGT, Int.reduceToNat, Int.reduceLT, Int.reduceLE, Int.reduceNeg, Int.reduceAdd, Int.reduceEq, Int.reduceNe] <;> omega
          · replace hb7 := eq_false_of_ne_true hb7
            rw [if_f hb7] at hp
            have hp := Option.some.inj hp
            subst hp
            simp (disch := first | omega | (simp only [List.length_set, List.length_append, List.length_cons, List.length_nil, rows_len, zs]; first | done | omega)) only [ep_impl_VecOK, ep_impl_StampOK, ep_impl_StampLess, hv0, hb1, hb2, ftt0_0, ftt0_1, ftt0_2, ftt0_3, ftt0_4, ftt0_5, ftt0_6, hb4, hv5, hv6, hb7, gs, reduceIte, reduceCtorEq, Nat.reduceAdd, Nat.reduceMul, Nat.reduceSub, Nat.reduceBEq, Nat.reduceEqDiff, Nat.reduceLeDiff, Nat.reduceLT, Nat.reduceGT, Int.reduceToNat, Int.reduceLT, Int.reduceLE, Int.reduceNeg, Int.reduceAdd, Int.reduceEq, Int.reduceNe]
        · replace hb4 := eq_false_of_ne_true hb4
          rw [if_f hb4] at hp
          have hp := Option.some.inj hp
          subst hp
          simp (disch := first | omega | (simp only [List.length_set, List.length_append, List.length_cons, List.length_nil, rows_len, zs]; first | done | omega)) only [ep_impl_VecOK, ep_impl_StampOK, ep_impl_StampLess, hv0, hb1, hb2, ftt0_0, ftt0_1, ftt0_2, ftt0_3, ftt0_4, ftt0_5, ftt0_6, hb4, gs, reduceIte, reduceCtorEq, Nat.reduceAdd, Nat.reduceMul, Nat.reduceSub, Nat.reduceBEq, Nat.reduceEqDiff, Nat.reduceLeDiff, Nat.reduceLT, Nat.reduceGT, Int.reduceToNat, Int.reduceLT, Int.reduceLE, Int.reduceNeg, Int.reduceAdd, Int.reduceEq, Int.reduceNe] <;> omega
      · simp (disch := first | omega | (simp only [List.length_set, List.length_append, List.length_cons, List.length_nil, rows_len, zs]; first | done | omega)) only [ep_impl_VecOK, ep_impl_StampOK, ep_impl_StampLess, hv0, hb1, hb2, gs, reduceIte, reduceCtorEq, Nat.reduceAdd, Nat.reduceMul, Nat.reduceSub, Nat.reduceBEq, Nat.reduceEqDiff, Nat.reduceLeDiff, Nat.reduceLT, Nat.reduceGT, Int.reduceToNat, Int.reduceLT, Int.reduceLE, Int.reduceNeg, Int.reduceAdd, Int.reduceEq, Int.reduceNe] <;> omega
      · intro x tt1 hh1 hx
        rcases ee0 with o15 | r
        · obtain ⟨rfl, ftt1_0, ftt1_1, ftt1_2, ftt1_3, ftt1_4, ftt1_5, ftt1_6⟩ := hx
          dsimp only at hp
          have hp := Option.some.inj hp
          subst hp
          simp (disch := first | omega | (simp only [List.length_set, List.length_append, List.length_cons, List.length_nil, rows_len, zs]; first | done | omega)) only [ep_impl_VecOK, ep_impl_StampOK, ep_impl_StampLess, hv0, hb1, hb2, ftt1_0, ftt1_1, ftt1_2, ftt1_3, ftt1_4, ftt1_5, ftt1_6, gs, reduceIte, reduceCtorEq, Nat.reduceAdd, Nat.reduceMul, Nat.reduceSub, Nat.reduceBEq, Nat.reduceEqDiff, Nat.reduceLeDiff, Nat.reduceLT, Nat.reduceGT, Int.reduceToNat, Int.reduceLT, Int.reduceLE, Int.reduceNeg, Int.reduceAdd, Int.reduceEq, Int.reduceNe]
        · obtain ⟨rfl, hx⟩ := hx
          dsimp only at hp
          cases hp
          simp only [seqK_ret, blockK_ret, retK_RK (K := Tells true), hx, and_self, true_and]
  · replace hb1 := eq_false_of_ne_true hb1
    rw [if_f hb1] at hp
    have hp := Option.some.inj hp
    subst hp
    simp (disch := first | omega | (simp only [List.length_set, List.length_append, List.length_cons, List.length_nil, rows_len, zs]; first | done | omega)) only [ep_impl_VecOK, ep_impl_StampOK, ep_impl_StampLess, hv0, hb1, gs, reduceIte, reduceCtorEq, Nat.reduceAdd, Nat.reduceMul, Nat.reduceSub, Nat.reduceBEq, Nat.reduceEqDiff, Nat.reduceLeDiff, Nat.reduceLT, Nat.reduceGT, Int.reduceToNat, Int.reduceLT, Int.reduceLE, Int.reduceNeg, Int.reduceAdd, Int.reduceEq, Int.reduceNe]

noncomputable def p_impl_vecJoin_l0 (x0 : TVec) (x1 : TVec) : List Int × Int → Option (Lp (List Int × Int) TVec)
  | (s1, s2) =>
    if (decide (s2 < 16)) = true then
      (get? x0.counts s2).bind fun v4 =>
      (get? x1.counts s2).bind fun v5 =>
      (get? s1 s2).bind fun v6 =>
      some (.go ((s1.set s2.toNat (if v5 > v4 then v5 else v4)), w64 (s2 + 1)))
    else
      some (.out (s1, s2))
noncomputable def p_impl_vecJoin (x0 : TVec) (x1 : TVec) : Option TVec :=
  ((mkL 16 8 16 0 : Option (List Int))).bind fun v0 =>
  (loopP (p_impl_vecJoin_l0 x0 x1) (v0, 0)).bind fun ee0 => match ee0 with
  | .ret r => some r
  | .out (o8, o9) =>
    some (TVec.mk o8)
def c_impl_vecJoin : AFn := ⟨30, (.seq (.ops [⟨(.some 2), (.box (.tmp 0)), .none, []⟩, ⟨(.some 3), (.box (.tmp 1)), .none, []⟩, ⟨(.some 4), (.allocV [(1, false)] [(.slice .none 0 0)]), .none, []⟩]) (.seq (.ops [⟨(.some 7), (.makeSl 1 false 8 [(.int .i64 0)] (.const (.int .i64 16)) (.const (.int .i64 16))), .none, []⟩, ⟨(.some 5), (.mv (.tmp 7)), .none, []⟩]) (.seq (.seq (.ops [⟨(.some 8), (.mv (.tmp 5)), .none, []⟩, ⟨(.some 9), (.len (.tmp 8)), .none, []⟩, ⟨(.some 10), (.mv (.const (.int .i64 0))), .none, []⟩]) (.block 0 (.loop (.seq (.ops [⟨(.some 11), (.pu (.n (.ar .lss)) [(.tmp 10), (.tmp 9)]), .none, []⟩]) (.seq (.cond (.tmp 11) .skip (.exit 0)) (.seq (.block 1 (.seq (.ops [⟨(.some 12), (.mv (.tmp 10)), .none, []⟩, ⟨(.some 6), (.mv (.tmp 12)), .none, []⟩]) (.ops [⟨(.some 13), (.mv (.tmp 5)), .none, []⟩, ⟨(.some 14), (.mv (.tmp 6)), .none, []⟩, ⟨(.some 15), (.fieldA 0 (.tmp 2)), .none, []⟩, ⟨(.some 16), (.load 1 false (.tmp 15)), .none, []⟩, ⟨(.some 17), (.mv (.tmp 6)), .none, []⟩, ⟨(.some 18), (.idxS 1 (.tmp 16) (.tmp 17)), .none, []⟩, ⟨(.some 19), (.load 1 false (.tmp 18)), .none, []⟩, ⟨(.some 20), (.fieldA 0 (.tmp 3)), .none, []⟩, ⟨(.some 21), (.load 1 false (.tmp 20)), .none, []⟩, ⟨(.some 22), (.mv (.tmp 6)), .none, []⟩, ⟨(.some 23), (.idxS 1 (.tmp 21) (.tmp 22)), .none, []⟩, ⟨(.some 24), (.load 1 false (.tmp 23)), .none, []⟩, ⟨(.some 25), (.pu (.n .max) [(.tmp 19), (.tmp 24)]), .none, []⟩, ⟨(.some 26), (.idxS 1 (.tmp 13) (.tmp 14)), .none, []⟩, ⟨.none, (.store 1 (.tmp 26) (.tmp 25)), .none, []⟩]))) (.ops [⟨(.some 27), (.pu (.n (.ar .add)) [(.tmp 10), (.const (.int .i64 1))]), .none, []⟩, ⟨(.some 10), (.mv (.tmp 27)), .none, []⟩]))))))) (.seq (.ops [⟨(.some 28), (.mv (.tmp 5)), .none, []⟩, ⟨(.some 29), (.build [(.slice .none 0 0)] [(0, (1, (.tmp 28)))]), .none, []⟩, ⟨.none, (.storeV [(1, false)] 1 (.tmp 4) (.tmp 29)), .none, []⟩]) .ret)))), [(.cell 4 1 true)]⟩
def o_impl_vecJoin (b : TVec) (v : V) (h : Heap) : Prop := ∃ n0 : Nat, v = .agg [.hsl n0 b.counts.length 0 1 false b.counts.length] ∧ getCells h n0 b.counts.length = some (rows b.counts)
def oo_impl_vecJoin (b : TVec) (h : Heap) (v : V) (h2 : Heap) : Prop := Keep [] h h2 ∧ ∃ n0 : Nat, v = .agg [.hsl n0 b.counts.length 0 1 false b.counts.length] ∧ n0 < h2.length ∧ h.length ≤ n0 ∧ getCells h2 n0 b.counts.length = some (rows b.counts)
def k_impl_vecJoin (F : Fun) : Prop := ∀ (x0 : TVec) (x1 : TVec) (b : TVec), p_impl_vecJoin x0 x1 = some b → ∀ (h : Heap) (args : List V), snapA 9 false h args = some (encA (x0, x1)) → ∃ p, F none args h = some p ∧ oo_impl_vecJoin b h p.1 p.2
set_option maxHeartbeats 10000000 in
theorem w_impl_vecJoin {P : Program} {env : Env}  (x0 : TVec) (x1 : TVec) {b : TVec} (hp : p_impl_vecJoin x0 x1 = some b) : R P env (c_impl_vecJoin) ((encA (x0, x1)).map ofI) [] (o_impl_vecJoin b) := by
  refine R_of (by simp [c_impl_vecJoin, encA]) ?_
  unfold c_impl_vecJoin
  unfold p_impl_vecJoin at hp
  obtain ⟨v0, hv0, hp⟩ := bind_eq hp
  obtain ⟨kv0, qv0, lv0⟩ := mkL_some hv0
  have rv0 : [.i (.s (.int .i64 0)), .i (.s (.int .i64 0)), .i (.s (.int .i64 0)), .i (.s (.int .i64 0)), .i (.s (.int .i64 0)), .i (.s (.int .i64 0)), .i (.s (.int .i64 0)), .i (.s (.int .i64 0)), .i (.s (.int .i64 0)), .i (.s (.int .i64 0)), .i (.s (.int .i64 0)), .i (.s (.int .i64 0)), .i (.s (.int .i64 0)), .i (.s (.int .i64 0)), .i (.s (.int .i64 0)), .i (.s (.int .i64 0))] = rows v0 := by rw [qv0]; rfl
  have mv0 : 16 = v0.length := by rw [lv0]; simp
  obtain ⟨ee0, hee0, hp⟩ := bind_eq hp
  simp (disch := first | omega | (simp only [List.length_set, List.length_append, List.length_cons, List.length_nil, rows_len, zs]; first | done | omega)) only [hv0, rv0, kv0.1, kv0.2.1, kv0.2.2.1, kv0.2.2.2, gs, reduceIte, reduceCtorEq, Nat.reduceAdd, Nat.reduceMul, Nat.reduceSub, Nat.reduceBEq, Nat.reduceEqDiff, Nat.reduceLeDiff, Nat.reduceLT, Nat.reduceGT, Int.reduceToNat, Int.reduceLT, Int.reduceLE, Int.reduceNeg, Int.reduceAdd, Int.reduceEq, Int.reduceNe]
  refine W_loopP 0 (fun s t h => match s with | (s1, s2) => t 2 = .ptr 0 1 0 ∧ t 3 = .ptr 1 1 0 ∧ t 4 = .ptr 3 1 0 ∧ t 5 = .hsl 4 16 0 1 false 16 ∧ t 9 = .i (.s (.int .i64 16)) ∧ t 10 = .i (.s (.int .i64 s2)) ∧ getCells h 0 1 = some [.i (.sl 1 (x0.counts.map enc))] ∧ 0 < h.length ∧ getCells h 1 1 = some [.i (.sl 1 (x1.counts.map enc))] ∧ 1 < h.length ∧ getCells h 2 0 = some (rows ([] : List Int)) ∧ 2 < h.length ∧ getCells h 3 1 = some [.hsl 2 0 0 1 false 0] ∧ 3 < h.length ∧ getCells h 4 16 = some (rows (s1 : List Int)) ∧ 4 < h.length) (RK [.cell 4 1 true] (o_impl_vecJoin)) ?_ hee0 ?_ ?_
  · rintro ⟨s1, s2⟩ ee tt0 hh0 ⟨ftt0_0, ftt0_1, ftt0_2, ftt0_3, ftt0_4, ftt0_5, ftt0_6, ftt0_7, ftt0_8, ftt0_9, ftt0_10, ftt0_11, ftt0_12, ftt0_13, ftt0_14, ftt0_15⟩ hp
    have ztt0_10 := len_rows ftt0_10
    simp only [zs] at ztt0_10
    have ztt0_14 := len_rows ftt0_14
    simp only [zs] at ztt0_14
    rw [p_impl_vecJoin_l0] at hp
    by_cases hb3 : (decide (s2 < 16)) = true
    · rw [if_t hb3] at hp
      obtain ⟨v4, hv4, hp⟩ := bind_eq hp
      obtain ⟨v5, hv5, hp⟩ := bind_eq hp
      obtain ⟨v6, hv6, hp⟩ := bind_eq hp
      have gv6 := get_some hv6
      have hs7 : List.take s2.toNat (rows s1) ++ .i (.s (.int .i64 (if v5 > v4 then v5 else v4))) :: List.drop (s2.toNat + 1) (rows s1) = rows (s1.set s2.toNat (if v5 > v4 then v5 else v4)) := by simpa [splice, zs, cellsV, I.cells, enc_int] using rows_set_off (y := (if v5 > v4 then v5 else v4)) (ys := [.i (.s (.int .i64 (if v5 > v4 then v5 else v4)))]) (k := 0) gv6.2.2 (Nat.le_of_ble_eq_true rfl) (by rfl)
      have hp := Option.some.inj hp
      subst hp
      simp (disch := first | omega | (simp only [List.length_set, List.length_append, List.length_cons, List.length_nil, rows_len, zs]; first | done | omega)) only [hv0, rv0, kv0.1, kv0.2.1, kv0.2.2.1, kv0.2.2.2, ftt0_0, ftt0_1, ftt0_2, ftt0_3, ftt0_4, ftt0_5, ftt0_6, ftt0_7, ftt0_8, ftt0_9, ftt0_10, ftt0_11, ftt0_12, ftt0_13, ftt0_14, ftt0_15, hb3, hv4, hv5, hv6, (gv6).1, (gv6).2.1, hs7, gs, reduceIte, reduceCtorEq, Nat.reduceAdd, Nat.reduceMul, Nat.reduceSub, Nat.reduceBEq, Nat.reduceEqDiff, Nat.reduceLeDiff, Nat.reduceLT, Nat.reduceGT, Int.reduceToNat, Int.reduceLT, Int.reduceLE, Int.reduceNeg, Int.reduceAdd, Int.reduceEq, Int.reduceNe] <;> omega
    · replace hb3 := eq_false_of_ne_true hb3
      rw [if_f hb3] at hp
      have hp := Option.some.inj hp
      subst hp
      simp (disch := first | omega | (simp only [List.length_set, List.length_append, List.length_cons, List.length_nil, rows_len, zs]; first | done | omega)) only [hv0, rv0, kv0.1, kv0.2.1, kv0.2.2.1, kv0.2.2.2, ftt0_0, ftt0_1, ftt0_2, ftt0_3, ftt0_4, ftt0_5, ftt0_6, ftt0_7, ftt0_8, ftt0_9, ftt0_10, ftt0_11, ftt0_12, ftt0_13, ftt0_14, ftt0_15, hb3, gs, reduceIte, reduceCtorEq, Nat.reduceAdd, Nat.reduceMul, Nat.reduceSub, Nat.reduceBEq, Nat.reduceEqDiff, Nat.reduceLeDiff, Nat.reduceLT, Nat.reduceGT, Int.reduceToNat, Int.reduceLT, Int.reduceLE, Int.reduceNeg, Int.reduceAdd, Int.reduceEq, Int.reduceNe] <;> omega
  · simp (disch := first | omega | (simp only [List.length_set, List.length_append, List.length_cons, List.length_nil, rows_len, zs]; first | done | omega)) only [hv0, rv0, kv0.1, kv0.2.1, kv0.2.2.1, kv0.2.2.2, gs, reduceIte, reduceCtorEq, Nat.reduceAdd, Nat.reduceMul, Nat.reduceSub, Nat.reduceBEq, Nat.reduceEqDiff, Nat.reduceLeDiff, Nat.reduceLT, Nat.reduceGT, Int.reduceToNat, Int.reduceLT, Int.reduceLE, Int.reduceNeg, Int.reduceAdd, Int.reduceEq, Int.reduceNe] <;> omega
  · intro x tt1 hh1 hx
    rcases ee0 with ⟨o8, o9⟩ | r
    · obtain ⟨rfl, ftt1_0, ftt1_1, ftt1_2, ftt1_3, ftt1_4, ftt1_5, ftt1_6, ftt1_7, ftt1_8, ftt1_9, ftt1_10, ftt1_11, ftt1_12, ftt1_13, ftt1_14, ftt1_15⟩ := hx
      have ztt1_10 := len_rows ftt1_10
      simp only [zs] at ztt1_10
      have ztt1_14 := len_rows ftt1_14
      simp only [zs] at ztt1_14
      dsimp only at hp
      have hp := Option.some.inj hp
      subst hp
      simp (disch := first | omega | (simp only [List.length_set, List.length_append, List.length_cons, List.length_nil, rows_len, zs]; first | done | omega)) only [hv0, rv0, kv0.1, kv0.2.1, kv0.2.2.1, kv0.2.2.2, ftt1_0, ftt1_1, ftt1_2, ftt1_3, ftt1_4, ftt1_5, ftt1_6, ftt1_7, ftt1_8, ftt1_9, ftt1_10, ftt1_11, ftt1_12, ftt1_13, ftt1_14, ftt1_15, gs, reduceIte, reduceCtorEq, Nat.reduceAdd, Nat.reduceMul, Nat.reduceSub, Nat.reduceBEq, Nat.reduceEqDiff, Nat.reduceLeDiff, Nat.reduceLT, Nat.reduceGT, Int.reduceToNat, Int.reduceLT, Int.reduceLE, Int.reduceNeg, Int.reduceAdd, Int.reduceEq, Int.reduceNe]
      refine ⟨4, ?_⟩
      simp (disch := first | omega | (simp only [List.length_set, List.length_append, List.length_cons, List.length_nil, rows_len, zs]; first | done | omega)) only [hv0, rv0, kv0.1, kv0.2.1, kv0.2.2.1, kv0.2.2.2, ftt1_0, ftt1_1, ftt1_2, ftt1_3, ftt1_4, ftt1_5, ftt1_6, ftt1_7, ftt1_8, ftt1_9, ftt1_10, ftt1_11, ftt1_12, ftt1_13, ftt1_14, ftt1_15, o_impl_vecJoin, (show (o8).length = 16 from by omega), gs, reduceIte, reduceCtorEq, Nat.reduceAdd, Nat.reduceMul, Nat.reduceSub, Nat.reduceBEq, Nat.reduceEqDiff, Nat.reduceLeDiff, Nat.reduceLT, Nat.reduceGT, Int.reduceToNat, Int.reduceLT, Int.reduceLE, Int.reduceNeg, Int.reduceAdd, Int.reduceEq, Int.reduceNe] <;> omega
    · obtain ⟨rfl, hx⟩ := hx
      dsimp only at hp
      cases hp
      simp only [seqK_ret, blockK_ret, retK_RK (K := o_impl_vecJoin), hx, and_self, true_and]
theorem ko_impl_vecJoin {P : Program} {env : Env}  : k_impl_vecJoin (ownFn P env (c_impl_vecJoin)) := by
  intro x0 x1 b hp h args has
  obtain ⟨⟨v, H2⟩, hr, n0, rfl, wn0⟩ := w_impl_vecJoin x0 x1 hp
  exact ⟨_, own_call has hr rfl, keep_moved, n0 + h.length, rfl, (moved_lt wn0).2, (moved_lt wn0).1, moved_rows wn0⟩

end Go.AM
