/- Plain functions of SetRemove and their walks. No condition. -/
import Derived.Test.YtjnkmdphjopboaaLabGSetRemovea
set_option linter.unusedVariables false
set_option linter.unusedSimpArgs false
namespace Go.AM
open Pic (enc dec dec_enc dec_sub)
open PicA (encA decA decA_encA decA_sub)
noncomputable def p_laws_heldVector (x0 : TVec) (x1 : Int) : Option Int :=
  (p_laws_heldIntS x0.counts x1).bind fun v0 =>
  if (decide (v0 < 0)) = true then
    some (-1)
  else
    some v0
def c_laws_heldVector (f_laws_heldIntS : Nat) : AFn := ⟨12, (.seq (.ops [⟨(.some 2), (.box (.tmp 0)), .none, []⟩, ⟨(.some 4), (.mv (.const (.int .i64 0))), .none, []⟩]) (.seq (.ops [⟨(.some 5), (.fieldA 0 (.tmp 2)), .none, []⟩, ⟨(.some 6), (.load 1 false (.tmp 5)), .none, []⟩, ⟨(.some 7), (.mv (.tmp 1)), .none, []⟩, ⟨(.some 8), (.call (2 * f_laws_heldIntS) [(.tmp 6), (.tmp 7)]), .none, []⟩, ⟨(.some 1), (.mv (.tmp 8)), .none, []⟩]) (.seq (.seq (.ops [⟨(.some 9), (.mv (.tmp 1)), .none, []⟩, ⟨(.some 10), (.pu (.n (.ar .lss)) [(.tmp 9), (.const (.int .i64 0))]), .none, []⟩]) (.cond (.tmp 10) (.seq (.ops [⟨(.some 4), (.mv (.const (.int .i64 (-1)))), .none, []⟩]) .ret) .skip)) (.seq (.ops [⟨(.some 11), (.mv (.tmp 1)), .none, []⟩, ⟨(.some 4), (.mv (.tmp 11)), .none, []⟩]) .ret)))), [(.tmp 4)]⟩
set_option maxHeartbeats 10000000 in
theorem d_laws_heldVector {P : Program} {env : Env} {f_laws_heldIntS : Nat}  (ep_laws_heldIntS : env (2 * f_laws_heldIntS) = pureFn true (FA fun a : List Int × Int => p_laws_heldIntS a.1 a.2)) (x0 : TVec) (x1 : Int) {b : Int} (hp : p_laws_heldVector x0 x1 = some b) : R P env (c_laws_heldVector f_laws_heldIntS) ((encA (x0, x1)).map ofI) [] (Tells true b) := by
  refine R_of (by simp [c_laws_heldVector, encA]) ?_
  unfold c_laws_heldVector
  unfold p_laws_heldVector at hp
  obtain ⟨v0, hv0, hp⟩ := bind_eq hp
  by_cases hb1 : (decide (v0 < 0)) = true
  · rw [if_t hb1] at hp
    have hp := Option.some.inj hp
    subst hp
    simp (disch := first | omega | (simp only [List.length_set, List.length_append, List.length_cons, List.length_nil, rows_len, zs]; first | done | omega)) only [ep_laws_heldIntS, hv0, hb1, gs, app_hsl, app_nil, reduceIte, reduceCtorEq, Nat.reduceAdd, Nat.reduceMul, Nat.reduceSub, Nat.reduceBEq, Nat.reduceEqDiff, Nat.reduceLeDiff, Nat.reduceLT, Nat.reduceGT, Int.reduceToNat, Int.reduceLT, Int.reduceLE, Int.reduceNeg, Int.reduceAdd, Int.reduceEq, Int.reduceNe]
  · replace hb1 := eq_false_of_ne_true hb1
    rw [if_f hb1] at hp
    have hp := Option.some.inj hp
    subst hp
    simp (disch := first | omega | (simp only [List.length_set, List.length_append, List.length_cons, List.length_nil, rows_len, zs]; first | done | omega)) only [ep_laws_heldIntS, hv0, hb1, gs, app_hsl, app_nil, reduceIte, reduceCtorEq, Nat.reduceAdd, Nat.reduceMul, Nat.reduceSub, Nat.reduceBEq, Nat.reduceEqDiff, Nat.reduceLeDiff, Nat.reduceLT, Nat.reduceGT, Int.reduceToNat, Int.reduceLT, Int.reduceLE, Int.reduceNeg, Int.reduceAdd, Int.reduceEq, Int.reduceNe]

noncomputable def p_laws_heldEntryS_l0 (x0 : List TEntry) : Int × Int → Option (Lp (Int × Int) Int)
  | (s0, s1) =>
    if (decide (s1 < (x0.length : Int))) = true then
      (get? x0 s1).bind fun v3 =>
      if (decide (v3.stamp.time = s0)) = true then
        if (decide (v3.stamp.actor = w64 (s0 + 1))) = true then
          (p_laws_markText (w64 ((w64 (s0 + 1)) + 1))).bind fun v6 =>
          if (decide (v3.text = v6)) = true then
            some (.go (w64 ((w64 ((w64 (s0 + 1)) + 1)) + 1), w64 (s1 + 1)))
          else
            some (.ret (-1))
        else
          some (.ret (-1))
      else
        some (.ret (-1))
    else
      some (.out (s0, s1))
noncomputable def p_laws_heldEntryS (x0 : List TEntry) (x1 : Int) : Option Int :=
  (loopP (p_laws_heldEntryS_l0 x0) (x1, 0)).bind fun ee0 => match ee0 with
  | .ret r => some r
  | .out (o8, o9) =>
    some o8
def c_laws_heldEntryS (f_laws_markText : Nat) : AFn := ⟨43, (.seq (.ops [⟨(.some 4), (.mv (.const (.int .i64 0))), .none, []⟩]) (.seq (.seq (.ops [⟨(.some 5), (.mv (.const (.int .i64 0))), .none, []⟩]) (.block 0 (.loop (.seq (.seq (.ops [⟨(.some 6), (.mv (.tmp 5)), .none, []⟩, ⟨(.some 7), (.mv (.tmp 0)), .none, []⟩, ⟨(.some 8), (.len (.tmp 7)), .none, []⟩, ⟨(.some 9), (.pu (.n (.ar .lss)) [(.tmp 6), (.tmp 8)]), .none, []⟩]) (.cond (.tmp 9) .skip (.exit 0))) (.seq (.block 1 (.seq (.seq (.ops [⟨(.some 12), (.mv (.tmp 0)), .none, []⟩, ⟨(.some 13), (.mv (.tmp 5)), .none, []⟩, ⟨(.some 14), (.idxS 3 (.tmp 12) (.tmp 13)), .none, []⟩, ⟨(.some 15), (.fieldA 0 (.tmp 14)), .none, []⟩, ⟨(.some 16), (.fieldA 0 (.tmp 15)), .none, []⟩, ⟨(.some 17), (.load 1 false (.tmp 16)), .none, []⟩, ⟨(.some 18), (.mv (.tmp 1)), .none, []⟩, ⟨(.some 19), (.pu (.n (.ar .neq)) [(.tmp 17), (.tmp 18)]), .none, []⟩]) (.cond (.tmp 19) (.seq (.ops [⟨(.some 4), (.mv (.const (.int .i64 (-1)))), .none, []⟩]) .ret) .skip)) (.seq (.ops [⟨(.some 20), (.mv (.tmp 1)), .none, []⟩, ⟨(.some 21), (.pu (.n (.ar .add)) [(.tmp 20), (.const (.int .i64 1))]), .none, []⟩, ⟨(.some 1), (.mv (.tmp 21)), .none, []⟩]) (.seq (.seq (.ops [⟨(.some 22), (.mv (.tmp 0)), .none, []⟩, ⟨(.some 23), (.mv (.tmp 5)), .none, []⟩, ⟨(.some 24), (.idxS 3 (.tmp 22) (.tmp 23)), .none, []⟩, ⟨(.some 25), (.fieldA 0 (.tmp 24)), .none, []⟩, ⟨(.some 26), (.fieldA 1 (.tmp 25)), .none, []⟩, ⟨(.some 27), (.load 1 false (.tmp 26)), .none, []⟩, ⟨(.some 28), (.mv (.tmp 1)), .none, []⟩, ⟨(.some 29), (.pu (.n (.ar .neq)) [(.tmp 27), (.tmp 28)]), .none, []⟩]) (.cond (.tmp 29) (.seq (.ops [⟨(.some 4), (.mv (.const (.int .i64 (-1)))), .none, []⟩]) .ret) .skip)) (.seq (.ops [⟨(.some 30), (.mv (.tmp 1)), .none, []⟩, ⟨(.some 31), (.pu (.n (.ar .add)) [(.tmp 30), (.const (.int .i64 1))]), .none, []⟩, ⟨(.some 1), (.mv (.tmp 31)), .none, []⟩]) (.seq (.seq (.ops [⟨(.some 32), (.mv (.tmp 0)), .none, []⟩, ⟨(.some 33), (.mv (.tmp 5)), .none, []⟩, ⟨(.some 34), (.idxS 3 (.tmp 32) (.tmp 33)), .none, []⟩, ⟨(.some 35), (.fieldA 2 (.tmp 34)), .none, []⟩, ⟨(.some 36), (.load 1 false (.tmp 35)), .none, []⟩, ⟨(.some 37), (.mv (.tmp 1)), .none, []⟩, ⟨(.some 38), (.call (2 * f_laws_markText) [(.tmp 37)]), .none, []⟩, ⟨(.some 39), (.pu (.n (.ar .neq)) [(.tmp 36), (.tmp 38)]), .none, []⟩]) (.cond (.tmp 39) (.seq (.ops [⟨(.some 4), (.mv (.const (.int .i64 (-1)))), .none, []⟩]) .ret) .skip)) (.ops [⟨(.some 40), (.mv (.tmp 1)), .none, []⟩, ⟨(.some 41), (.pu (.n (.ar .add)) [(.tmp 40), (.const (.int .i64 1))]), .none, []⟩, ⟨(.some 1), (.mv (.tmp 41)), .none, []⟩]))))))) (.ops [⟨(.some 10), (.mv (.tmp 5)), .none, []⟩, ⟨(.some 11), (.pu (.n (.ar .add)) [(.tmp 10), (.const (.int .i64 1))]), .none, []⟩, ⟨(.some 5), (.mv (.tmp 11)), .none, []⟩])))))) (.seq (.ops [⟨(.some 42), (.mv (.tmp 1)), .none, []⟩, ⟨(.some 4), (.mv (.tmp 42)), .none, []⟩]) .ret))), [(.tmp 4)]⟩
set_option maxHeartbeats 10000000 in
theorem d_laws_heldEntryS {P : Program} {env : Env} {f_laws_markText : Nat}  (ep_laws_markText : env (2 * f_laws_markText) = pureFn true (FA fun a : Int => p_laws_markText a)) (x0 : List TEntry) (x1 : Int) {b : Int} (hp : p_laws_heldEntryS x0 x1 = some b) : R P env (c_laws_heldEntryS f_laws_markText) ((encA (x0, x1)).map ofI) [] (Tells true b) := by
  refine R_of (by simp [c_laws_heldEntryS, encA]) ?_
  unfold c_laws_heldEntryS
  unfold p_laws_heldEntryS at hp
  obtain ⟨ee0, hee0, hp⟩ := bind_eq hp
  simp (disch := first | omega | (simp only [List.length_set, List.length_append, List.length_cons, List.length_nil, rows_len, zs]; first | done | omega)) only [ep_laws_markText, gs, app_hsl, app_nil, reduceIte, reduceCtorEq, Nat.reduceAdd, Nat.reduceMul, Nat.reduceSub, Nat.reduceBEq, Nat.reduceEqDiff, Nat.reduceLeDiff, Nat.reduceLT, Nat.reduceGT, Int.reduceToNat, Int.reduceLT, Int.reduceLE, Int.reduceNeg, Int.reduceAdd, Int.reduceEq, Int.reduceNe]
  refine W_loopP 0 (fun s t h => match s with | (s0, s1) => t 0 = .i (.sl 3 (x0.map enc)) ∧ t 1 = .i (.s (.int .i64 s0)) ∧ t 5 = .i (.s (.int .i64 s1))) (RK [.tmp 4] (Tells true)) ?_ hee0 ?_ ?_
  · rintro ⟨s0, s1⟩ ee tt0 hh0 ⟨ftt0_0, ftt0_1, ftt0_2⟩ hp
    rw [p_laws_heldEntryS_l0] at hp
    by_cases hb2 : (decide (s1 < (x0.length : Int))) = true
    · rw [if_t hb2] at hp
      obtain ⟨v3, hv3, hp⟩ := bind_eq hp
      by_cases hb4 : (decide (v3.stamp.time = s0)) = true
      · rw [if_t hb4] at hp
        by_cases hb5 : (decide (v3.stamp.actor = w64 (s0 + 1))) = true
        · rw [if_t hb5] at hp
          obtain ⟨v6, hv6, hp⟩ := bind_eq hp
          by_cases hb7 : (decide (v3.text = v6)) = true
          · rw [if_t hb7] at hp
            have hp := Option.some.inj hp
            subst hp
            simp (disch := first | omega | (simp only [List.length_set, List.length_append, List.length_cons, List.length_nil, rows_len, zs]; first | done | omega)) only [ep_laws_markText, ftt0_0, ftt0_1, ftt0_2, hb2, hv3, hb4, hb5, hv6, hb7, gs, app_hsl, app_nil, reduceIte, reduceCtorEq, Nat.reduceAdd, Nat.reduceMul, Nat.reduceSub, Nat.reduceBEq, Nat.reduceEqDiff, Nat.reduceLeDiff, Nat.reduceLT, Nat.reduceGT, Int.reduceToNat, Int.reduceLT, Int.reduceLE, Int.reduceNeg, Int.reduceAdd, Int.reduceEq, Int.reduceNe] <;> omega
          · replace hb7 := eq_false_of_ne_true hb7
            rw [if_f hb7] at hp
            have hp := Option.some.inj hp
            subst hp
            simp (disch := first | omega | (simp only [List.length_set, List.length_append, List.length_cons, List.length_nil, rows_len, zs]; first | done | omega)) only [ep_laws_markText, ftt0_0, ftt0_1, ftt0_2, hb2, hv3, hb4, hb5, hv6, hb7, gs, app_hsl, app_nil, reduceIte, reduceCtorEq, Nat.reduceAdd, Nat.reduceMul, Nat.reduceSub, Nat.reduceBEq, Nat.reduceEqDiff, Nat.reduceLeDiff, Nat.reduceLT, Nat.reduceGT, Int.reduceToNat, Int.reduceLT, Int.reduceLE, Int.reduceNeg, Int.reduceAdd, Int.reduceEq, Int.reduceNe]
        · replace hb5 := eq_false_of_ne_true hb5
          rw [if_f hb5] at hp
          have hp := Option.some.inj hp
          subst hp
          simp (disch := first | omega | (simp only [List.length_set, List.length_append, List.length_cons, List.length_nil, rows_len, zs]; first | done | omega)) only [ep_laws_markText, ftt0_0, ftt0_1, ftt0_2, hb2, hv3, hb4, hb5, gs, app_hsl, app_nil, reduceIte, reduceCtorEq, Nat.reduceAdd, Nat.reduceMul, Nat.reduceSub, Nat.reduceBEq, Nat.reduceEqDiff, Nat.reduceLeDiff, Nat.reduceLT, Nat.reduceGT, Int.reduceToNat, Int.reduceLT, Int.reduceLE, Int.reduceNeg, Int.reduceAdd, Int.reduceEq, Int.reduceNe]
      · replace hb4 := eq_false_of_ne_true hb4
        rw [if_f hb4] at hp
        have hp := Option.some.inj hp
        subst hp
        simp (disch := first | omega | (simp only [List.length_set, List.length_append, List.length_cons, List.length_nil, rows_len, zs]; first | done | omega)) only [ep_laws_markText, ftt0_0, ftt0_1, ftt0_2, hb2, hv3, hb4, gs, app_hsl, app_nil, reduceIte, reduceCtorEq, Nat.reduceAdd, Nat.reduceMul, Nat.reduceSub, Nat.reduceBEq, Nat.reduceEqDiff, Nat.reduceLeDiff, Nat.reduceLT, Nat.reduceGT, Int.reduceToNat, Int.reduceLT, Int.reduceLE, Int.reduceNeg, Int.reduceAdd, Int.reduceEq, Int.reduceNe]
    · replace hb2 := eq_false_of_ne_true hb2
      rw [if_f hb2] at hp
      have hp := Option.some.inj hp
      subst hp
      simp (disch := first | omega | (simp only [List.length_set, List.length_append, List.length_cons, List.length_nil, rows_len, zs]; first | done | omega)) only [ep_laws_markText, ftt0_0, ftt0_1, ftt0_2, hb2, gs, app_hsl, app_nil, reduceIte, reduceCtorEq, Nat.reduceAdd, Nat.reduceMul, Nat.reduceSub, Nat.reduceBEq, Nat.reduceEqDiff, Nat.reduceLeDiff, Nat.reduceLT, Nat.reduceGT, Int.reduceToNat, Int.reduceLT, Int.reduceLE, Int.reduceNeg, Int.reduceAdd, Int.reduceEq, Int.reduceNe] <;> omega
  · simp (disch := first | omega | (simp only [List.length_set, List.length_append, List.length_cons, List.length_nil, rows_len, zs]; first | done | omega)) only [ep_laws_markText, gs, app_hsl, app_nil, reduceIte, reduceCtorEq, Nat.reduceAdd, Nat.reduceMul, Nat.reduceSub, Nat.reduceBEq, Nat.reduceEqDiff, Nat.reduceLeDiff, Nat.reduceLT, Nat.reduceGT, Int.reduceToNat, Int.reduceLT, Int.reduceLE, Int.reduceNeg, Int.reduceAdd, Int.reduceEq, Int.reduceNe] <;> omega
  · intro x tt1 hh1 hx
    rcases ee0 with ⟨o8, o9⟩ | r
    · obtain ⟨rfl, ftt1_0, ftt1_1, ftt1_2⟩ := hx
      dsimp only at hp
      have hp := Option.some.inj hp
      subst hp
      simp (disch := first | omega | (simp only [List.length_set, List.length_append, List.length_cons, List.length_nil, rows_len, zs]; first | done | omega)) only [ep_laws_markText, ftt1_0, ftt1_1, ftt1_2, gs, app_hsl, app_nil, reduceIte, reduceCtorEq, Nat.reduceAdd, Nat.reduceMul, Nat.reduceSub, Nat.reduceBEq, Nat.reduceEqDiff, Nat.reduceLeDiff, Nat.reduceLT, Nat.reduceGT, Int.reduceToNat, Int.reduceLT, Int.reduceLE, Int.reduceNeg, Int.reduceAdd, Int.reduceEq, Int.reduceNe]
    · obtain ⟨rfl, hx⟩ := hx
      dsimp only at hp
      cases hp
      simp only [seqK_ret, blockK_ret, retK_RK (K := Tells true), hx, and_self, true_and]

noncomputable def p_laws_heldSet (x0 : TMulti) (x1 : Int) : Option Int :=
  (p_laws_heldVector x0.seen x1).bind fun v0 =>
  if (decide (v0 < 0)) = true then
    some (-1)
  else
    (p_laws_heldEntryS x0.entries v0).bind fun v2 =>
    if (decide (v2 < 0)) = true then
      some (-1)
    else
      some v2
def c_laws_heldSet (f_laws_heldVector : Nat) (f_laws_heldEntryS : Nat) : AFn := ⟨18, (.seq (.ops [⟨(.some 2), (.box (.tmp 0)), .none, []⟩, ⟨(.some 4), (.mv (.const (.int .i64 0))), .none, []⟩]) (.seq (.ops [⟨(.some 5), (.fieldA 0 (.tmp 2)), .none, []⟩, ⟨(.some 6), (.load 1 true (.tmp 5)), .none, []⟩, ⟨(.some 7), (.mv (.tmp 1)), .none, []⟩, ⟨(.some 8), (.call (2 * f_laws_heldVector) [(.tmp 6), (.tmp 7)]), .none, []⟩, ⟨(.some 1), (.mv (.tmp 8)), .none, []⟩]) (.seq (.seq (.ops [⟨(.some 9), (.mv (.tmp 1)), .none, []⟩, ⟨(.some 10), (.pu (.n (.ar .lss)) [(.tmp 9), (.const (.int .i64 0))]), .none, []⟩]) (.cond (.tmp 10) (.seq (.ops [⟨(.some 4), (.mv (.const (.int .i64 (-1)))), .none, []⟩]) .ret) .skip)) (.seq (.ops [⟨(.some 11), (.fieldA 1 (.tmp 2)), .none, []⟩, ⟨(.some 12), (.load 1 false (.tmp 11)), .none, []⟩, ⟨(.some 13), (.mv (.tmp 1)), .none, []⟩, ⟨(.some 14), (.call (2 * f_laws_heldEntryS) [(.tmp 12), (.tmp 13)]), .none, []⟩, ⟨(.some 1), (.mv (.tmp 14)), .none, []⟩]) (.seq (.seq (.ops [⟨(.some 15), (.mv (.tmp 1)), .none, []⟩, ⟨(.some 16), (.pu (.n (.ar .lss)) [(.tmp 15), (.const (.int .i64 0))]), .none, []⟩]) (.cond (.tmp 16) (.seq (.ops [⟨(.some 4), (.mv (.const (.int .i64 (-1)))), .none, []⟩]) .ret) .skip)) (.seq (.ops [⟨(.some 17), (.mv (.tmp 1)), .none, []⟩, ⟨(.some 4), (.mv (.tmp 17)), .none, []⟩]) .ret)))))), [(.tmp 4)]⟩
set_option maxHeartbeats 10000000 in
theorem d_laws_heldSet {P : Program} {env : Env} {f_laws_heldVector : Nat} {f_laws_heldEntryS : Nat}  (ep_laws_heldVector : env (2 * f_laws_heldVector) = pureFn true (FA fun a : TVec × Int => p_laws_heldVector a.1 a.2)) (ep_laws_heldEntryS : env (2 * f_laws_heldEntryS) = pureFn true (FA fun a : List TEntry × Int => p_laws_heldEntryS a.1 a.2)) (x0 : TMulti) (x1 : Int) {b : Int} (hp : p_laws_heldSet x0 x1 = some b) : R P env (c_laws_heldSet f_laws_heldVector f_laws_heldEntryS) ((encA (x0, x1)).map ofI) [] (Tells true b) := by
  refine R_of (by simp [c_laws_heldSet, encA]) ?_
  unfold c_laws_heldSet
  unfold p_laws_heldSet at hp
  obtain ⟨v0, hv0, hp⟩ := bind_eq hp
  by_cases hb1 : (decide (v0 < 0)) = true
  · rw [if_t hb1] at hp
    have hp := Option.some.inj hp
    subst hp
    simp (disch := first | omega | (simp only [List.length_set, List.length_append, List.length_cons, List.length_nil, rows_len, zs]; first | done | omega)) only [ep_laws_heldVector, ep_laws_heldEntryS, hv0, hb1, gs, app_hsl, app_nil, reduceIte, reduceCtorEq, Nat.reduceAdd, Nat.reduceMul, Nat.reduceSub, Nat.reduceBEq, Nat.reduceEqDiff, Nat.reduceLeDiff, Nat.reduceLT, Nat.reduceGT, Int.reduceToNat, Int.reduceLT, Int.reduceLE, Int.reduceNeg, Int.reduceAdd, Int.reduceEq, Int.reduceNe]
  · replace hb1 := eq_false_of_ne_true hb1
    rw [if_f hb1] at hp
    obtain ⟨v2, hv2, hp⟩ := bind_eq hp
    by_cases hb3 : (decide (v2 < 0)) = true
    · rw [if_t hb3] at hp
      have hp := Option.some.inj hp
      subst hp
      simp (disch := first | omega | (simp only [List.length_set, List.length_append, List.length_cons, List.length_nil, rows_len, zs]; first | done | omega)) only [ep_laws_heldVector, ep_laws_heldEntryS, hv0, hb1, hv2, hb3, gs, app_hsl, app_nil, reduceIte, reduceCtorEq, Nat.reduceAdd, Nat.reduceMul, Nat.reduceSub, Nat.reduceBEq, Nat.reduceEqDiff, Nat.reduceLeDiff, Nat.reduceLT, Nat.reduceGT, Int.reduceToNat, Int.reduceLT, Int.reduceLE, Int.reduceNeg, Int.reduceAdd, Int.reduceEq, Int.reduceNe]
    · replace hb3 := eq_false_of_ne_true hb3
      rw [if_f hb3] at hp
      have hp := Option.some.inj hp
      subst hp
      simp (disch := first | omega | (simp only [List.length_set, List.length_append, List.length_cons, List.length_nil, rows_len, zs]; first | done | omega)) only [ep_laws_heldVector, ep_laws_heldEntryS, hv0, hb1, hv2, hb3, gs, app_hsl, app_nil, reduceIte, reduceCtorEq, Nat.reduceAdd, Nat.reduceMul, Nat.reduceSub, Nat.reduceBEq, Nat.reduceEqDiff, Nat.reduceLeDiff, Nat.reduceLT, Nat.reduceGT, Int.reduceToNat, Int.reduceLT, Int.reduceLE, Int.reduceNeg, Int.reduceAdd, Int.reduceEq, Int.reduceNe]

noncomputable def p_laws_FnExactSetRemove (x0 : TMulti) (x1 : ByteArray) : Option Bool :=
  if (decide (1048576 < (x1.size : Int))) = true then
    some true
  else
    (p_laws_szSet x0 1048576).bind fun v1 =>
    if (decide (v1 < 0)) = true then
      some true
    else
      (p_laws_toSet x0).bind fun v3 =>
      (p_spec_SetRemove v3 x1).bind fun v4 =>
      (p_impl_SetRemove v3 x1).bind fun v5 =>
      (p_laws_eqSet v5.a v4.a).bind fun v6 =>
      if (v6) = true then
        if (decide (v5.b = v4.b)) = true then
          (p_laws_eqSet v3 v3).bind fun v9 =>
          if (v9) = true then
            (p_laws_markSet v3 1).bind fun v11 =>
            if (decide (v11.a < 0)) = true then
              some false
            else
              (p_laws_markSet v5.a 1).bind fun v13 =>
              (p_laws_heldSet v13.b 1).bind fun v14 =>
              if (decide (v14 < 0)) = true then
                some false
              else
                if (decide (v14 = v13.a)) = true then
                  some true
                else
                  some false
          else
            some false
        else
          some false
      else
        some false
def c_laws_FnExactSetRemove (f_laws_szSet : Nat) (f_laws_toSet : Nat) (f_spec_SetRemove : Nat) (f_impl_SetRemove : Nat) (f_laws_eqSet : Nat) (f_laws_markSet : Nat) (f_laws_heldSet : Nat) : AFn := ⟨104, (.seq (.ops [⟨(.some 2), (.box (.tmp 0)), .none, []⟩, ⟨(.some 4), (.mv (.const (.bool false))), .none, []⟩]) (.seq (.seq (.ops [⟨(.some 16), (.mv (.tmp 1)), .none, []⟩, ⟨(.some 17), (.pu (.n .len) [(.tmp 16)]), .none, []⟩, ⟨(.some 18), (.pu (.n (.ar .gtr)) [(.tmp 17), (.const (.int .i64 1048576))]), .none, []⟩]) (.cond (.tmp 18) (.seq (.ops [⟨(.some 4), (.mv (.const (.bool true))), .none, []⟩]) .ret) .skip)) (.seq (.ops [⟨(.some 5), (.mv (.const (.int .i64 1048576))), .none, []⟩]) (.seq (.ops [⟨(.some 19), (.load 2 true (.tmp 2)), .none, []⟩, ⟨(.some 20), (.mv (.tmp 5)), .none, []⟩, ⟨(.some 21), (.call (2 * f_laws_szSet) [(.tmp 19), (.tmp 20)]), .none, []⟩, ⟨(.some 5), (.mv (.tmp 21)), .none, []⟩]) (.seq (.seq (.ops [⟨(.some 22), (.mv (.tmp 5)), .none, []⟩, ⟨(.some 23), (.pu (.n (.ar .lss)) [(.tmp 22), (.const (.int .i64 0))]), .none, []⟩]) (.cond (.tmp 23) (.seq (.ops [⟨(.some 4), (.mv (.const (.bool true))), .none, []⟩]) .ret) .skip)) (.seq (.ops [⟨(.some 25), (.load 2 true (.tmp 2)), .none, []⟩, ⟨(.some 26), (.call (2 * f_laws_toSet) [(.tmp 25)]), .none, []⟩, ⟨(.some 27), (.mv (.tmp 1)), .none, []⟩, ⟨(.some 28), (.call (2 * f_spec_SetRemove) [(.tmp 26), (.tmp 27)]), .none, []⟩, ⟨(.some 24), (.mv (.tmp 28)), .none, []⟩, ⟨(.some 29), (.extract 0 (.tmp 24)), .none, []⟩, ⟨(.some 30), (.extract 1 (.tmp 24)), .none, []⟩, ⟨(.some 6), (.allocV [(1, false), (3, true)] [(.slice .none 0 0), (.slice .none 0 0)]), .none, []⟩, ⟨.none, (.storeV [(1, false), (3, true)] 2 (.tmp 6) (.tmp 29)), .none, []⟩, ⟨(.some 7), (.mv (.tmp 30)), .none, []⟩]) (.seq (.ops [⟨(.some 31), (.load 2 true (.tmp 2)), .none, []⟩, ⟨(.some 32), (.call (2 * f_laws_toSet + 1) [(.tmp 31)]), .none, []⟩, ⟨(.some 8), (.allocV [(1, false), (3, true)] [(.slice .none 0 0), (.slice .none 0 0)]), .none, []⟩, ⟨.none, (.storeV [(1, false), (3, true)] 2 (.tmp 8) (.tmp 32)), .none, []⟩]) (.seq (.ops [⟨(.some 34), (.load 2 true (.tmp 8)), .none, []⟩, ⟨(.some 35), (.mv (.tmp 1)), .none, []⟩, ⟨(.some 36), (.call (2 * f_impl_SetRemove + 1) [(.tmp 34), (.tmp 35)]), .none, []⟩, ⟨(.some 33), (.mv (.tmp 36)), .none, []⟩, ⟨(.some 37), (.extract 0 (.tmp 33)), .none, []⟩, ⟨(.some 38), (.extract 1 (.tmp 33)), .none, []⟩, ⟨(.some 9), (.allocV [(1, false), (3, true)] [(.slice .none 0 0), (.slice .none 0 0)]), .none, []⟩, ⟨.none, (.storeV [(1, false), (3, true)] 2 (.tmp 9) (.tmp 37)), .none, []⟩, ⟨(.some 10), (.mv (.tmp 38)), .none, []⟩]) (.seq (.seq (.ops [⟨(.some 39), (.load 2 true (.tmp 9)), .none, []⟩, ⟨(.some 40), (.load 2 true (.tmp 6)), .none, []⟩, ⟨(.some 41), (.call (2 * f_laws_eqSet) [(.tmp 39), (.tmp 40)]), .none, []⟩, ⟨(.some 42), (.pu (.n (.un .not)) [(.tmp 41)]), .none, []⟩, ⟨(.some 43), (.mv (.tmp 42)), .none, []⟩, ⟨(.some 44), (.mv (.tmp 10)), (.some (43, false)), []⟩, ⟨(.some 45), (.mv (.tmp 7)), (.some (43, false)), []⟩, ⟨(.some 46), (.pu (.n (.ar .neq)) [(.tmp 44), (.tmp 45)]), (.some (43, false)), []⟩, ⟨(.some 47), (.pick (.tmp 43) (.const (.bool true)) (.tmp 46)), .none, []⟩]) (.cond (.tmp 47) (.seq (.ops [⟨(.some 4), (.mv (.const (.bool false))), .none, []⟩]) .ret) .skip)) (.seq (.seq (.ops [⟨(.some 48), (.load 2 true (.tmp 8)), .none, []⟩, ⟨(.some 49), (.load 2 true (.tmp 2)), .none, []⟩, ⟨(.some 50), (.call (2 * f_laws_toSet) [(.tmp 49)]), .none, []⟩, ⟨(.some 51), (.call (2 * f_laws_eqSet) [(.tmp 48), (.tmp 50)]), .none, []⟩, ⟨(.some 52), (.pu (.n (.un .not)) [(.tmp 51)]), .none, []⟩]) (.cond (.tmp 52) (.seq (.ops [⟨(.some 4), (.mv (.const (.bool false))), .none, []⟩]) .ret) .skip)) (.seq (.ops [⟨(.some 11), (.mv (.const (.int .i64 1))), .none, []⟩]) (.seq (.ops [⟨(.some 53), (.load 2 true (.tmp 8)), .none, []⟩, ⟨(.some 54), (.mv (.tmp 11)), .none, []⟩, ⟨(.some 55), (.call (2 * f_laws_markSet + 1) [(.tmp 53), (.tmp 54)]), .none, []⟩, ⟨(.some 11), (.mv (.tmp 55)), .none, []⟩]) (.seq (.seq (.ops [⟨(.some 56), (.mv (.tmp 11)), .none, []⟩, ⟨(.some 57), (.pu (.n (.ar .lss)) [(.tmp 56), (.const (.int .i64 0))]), .none, []⟩, ⟨(.some 58), (.mv (.tmp 57)), .none, []⟩, ⟨(.some 59), (.load 2 true (.tmp 9)), (.some (58, false)), []⟩, ⟨(.some 60), (.load 2 true (.tmp 6)), (.some (58, false)), []⟩, ⟨(.some 61), (.call (2 * f_laws_eqSet) [(.tmp 59), (.tmp 60)]), (.some (58, false)), []⟩, ⟨(.some 62), (.pu (.n (.un .not)) [(.tmp 61)]), (.some (58, false)), []⟩, ⟨(.some 63), (.pick (.tmp 58) (.const (.bool true)) (.tmp 62)), .none, []⟩, ⟨(.some 64), (.mv (.tmp 63)), .none, []⟩, ⟨(.some 65), (.mv (.tmp 10)), (.some (64, false)), []⟩, ⟨(.some 66), (.mv (.tmp 7)), (.some (64, false)), []⟩, ⟨(.some 67), (.pu (.n (.ar .neq)) [(.tmp 65), (.tmp 66)]), (.some (64, false)), []⟩, ⟨(.some 68), (.pick (.tmp 64) (.const (.bool true)) (.tmp 67)), .none, []⟩]) (.cond (.tmp 68) (.seq (.ops [⟨(.some 4), (.mv (.const (.bool false))), .none, []⟩]) .ret) .skip)) (.seq (.ops [⟨(.some 12), (.mv (.const (.int .i64 1))), .none, []⟩]) (.seq (.ops [⟨(.some 69), (.load 2 true (.tmp 9)), .none, []⟩, ⟨(.some 70), (.mv (.tmp 12)), .none, []⟩, ⟨(.some 71), (.call (2 * f_laws_markSet + 1) [(.tmp 69), (.tmp 70)]), .none, []⟩, ⟨(.some 12), (.mv (.tmp 71)), .none, []⟩]) (.seq (.ops [⟨(.some 13), (.mv (.const (.int .i64 1))), .none, []⟩]) (.seq (.ops [⟨(.some 72), (.load 2 true (.tmp 9)), .none, []⟩, ⟨(.some 73), (.mv (.tmp 13)), .none, []⟩, ⟨(.some 74), (.call (2 * f_laws_heldSet) [(.tmp 72), (.tmp 73)]), .none, []⟩, ⟨(.some 13), (.mv (.tmp 74)), .none, []⟩]) (.seq (.seq (.ops [⟨(.some 75), (.mv (.tmp 13)), .none, []⟩, ⟨(.some 76), (.pu (.n (.ar .lss)) [(.tmp 75), (.const (.int .i64 0))]), .none, []⟩]) (.cond (.tmp 76) (.seq (.ops [⟨(.some 4), (.mv (.const (.bool false))), .none, []⟩]) .ret) .skip)) (.seq (.seq (.ops [⟨(.some 77), (.mv (.tmp 13)), .none, []⟩, ⟨(.some 78), (.mv (.tmp 12)), .none, []⟩, ⟨(.some 79), (.pu (.n (.ar .neq)) [(.tmp 77), (.tmp 78)]), .none, []⟩]) (.cond (.tmp 79) (.seq (.ops [⟨(.some 4), (.mv (.const (.bool false))), .none, []⟩]) .ret) .skip)) (.seq (.ops [⟨(.some 81), (.load 2 true (.tmp 2)), .none, []⟩, ⟨(.some 82), (.call (2 * f_laws_toSet + 1) [(.tmp 81)]), .none, []⟩, ⟨(.some 83), (.mv (.tmp 1)), .none, []⟩, ⟨(.some 84), (.call (2 * f_impl_SetRemove + 1) [(.tmp 82), (.tmp 83)]), .none, []⟩, ⟨(.some 80), (.mv (.tmp 84)), .none, []⟩, ⟨(.some 85), (.extract 0 (.tmp 80)), .none, []⟩, ⟨(.some 86), (.extract 1 (.tmp 80)), .none, []⟩, ⟨(.some 14), (.allocV [(1, false), (3, true)] [(.slice .none 0 0), (.slice .none 0 0)]), .none, []⟩, ⟨.none, (.storeV [(1, false), (3, true)] 2 (.tmp 14) (.tmp 85)), .none, []⟩, ⟨(.some 15), (.mv (.tmp 86)), .none, []⟩]) (.seq (.seq (.ops [⟨(.some 87), (.load 2 true (.tmp 14)), .none, []⟩, ⟨(.some 88), (.load 2 true (.tmp 6)), .none, []⟩, ⟨(.some 89), (.call (2 * f_laws_eqSet) [(.tmp 87), (.tmp 88)]), .none, []⟩, ⟨(.some 90), (.pu (.n (.un .not)) [(.tmp 89)]), .none, []⟩, ⟨(.some 91), (.mv (.tmp 90)), .none, []⟩, ⟨(.some 92), (.mv (.tmp 15)), (.some (91, false)), []⟩, ⟨(.some 93), (.mv (.tmp 7)), (.some (91, false)), []⟩, ⟨(.some 94), (.pu (.n (.ar .neq)) [(.tmp 92), (.tmp 93)]), (.some (91, false)), []⟩, ⟨(.some 95), (.pick (.tmp 91) (.const (.bool true)) (.tmp 94)), .none, []⟩]) (.cond (.tmp 95) (.seq (.ops [⟨(.some 4), (.mv (.const (.bool false))), .none, []⟩]) .ret) .skip)) (.seq (.ops [⟨(.some 13), (.mv (.const (.int .i64 1))), .none, []⟩]) (.seq (.ops [⟨(.some 96), (.load 2 true (.tmp 9)), .none, []⟩, ⟨(.some 97), (.mv (.tmp 13)), .none, []⟩, ⟨(.some 98), (.call (2 * f_laws_heldSet) [(.tmp 96), (.tmp 97)]), .none, []⟩, ⟨(.some 13), (.mv (.tmp 98)), .none, []⟩]) (.seq (.seq (.ops [⟨(.some 99), (.mv (.tmp 13)), .none, []⟩, ⟨(.some 100), (.pu (.n (.ar .lss)) [(.tmp 99), (.const (.int .i64 0))]), .none, []⟩]) (.cond (.tmp 100) (.seq (.ops [⟨(.some 4), (.mv (.const (.bool false))), .none, []⟩]) .ret) .skip)) (.seq (.seq (.ops [⟨(.some 101), (.mv (.tmp 13)), .none, []⟩, ⟨(.some 102), (.mv (.tmp 12)), .none, []⟩, ⟨(.some 103), (.pu (.n (.ar .neq)) [(.tmp 101), (.tmp 102)]), .none, []⟩]) (.cond (.tmp 103) (.seq (.ops [⟨(.some 4), (.mv (.const (.bool false))), .none, []⟩]) .ret) .skip)) (.seq (.ops [⟨(.some 4), (.mv (.const (.bool true))), .none, []⟩]) .ret)))))))))))))))))))))))))), [(.tmp 4)]⟩
set_option maxHeartbeats 10000000 in
theorem d_laws_FnExactSetRemove {P : Program} {env : Env} {f_laws_szSet : Nat} {f_laws_toSet : Nat} {f_spec_SetRemove : Nat} {f_impl_SetRemove : Nat} {f_laws_eqSet : Nat} {f_laws_markSet : Nat} {f_laws_heldSet : Nat}  (ep_laws_szSet : env (2 * f_laws_szSet) = pureFn true (FA fun a : TMulti × Int => p_laws_szSet a.1 a.2)) (ep_laws_toSet : env (2 * f_laws_toSet) = pureFn true (FA fun a : TMulti => p_laws_toSet a)) (ep_spec_SetRemove : env (2 * f_spec_SetRemove) = pureFn false (FA fun a : TMulti × ByteArray => p_spec_SetRemove a.1 a.2)) (ep_laws_eqSet : env (2 * f_laws_eqSet) = pureFn true (FA fun a : TMulti × TMulti => p_laws_eqSet a.1 a.2)) (ep_laws_heldSet : env (2 * f_laws_heldSet) = pureFn true (FA fun a : TMulti × Int => p_laws_heldSet a.1 a.2)) (e_laws_toSet : k_laws_toSet (env (2 * f_laws_toSet + 1))) (e_impl_SetRemove : k_impl_SetRemove (env (2 * f_impl_SetRemove + 1))) (e_laws_markSet : k_laws_markSet (env (2 * f_laws_markSet + 1))) (x0 : TMulti) (x1 : ByteArray) (hp : p_laws_FnExactSetRemove x0 x1 = some true) : R P env (c_laws_FnExactSetRemove f_laws_szSet f_laws_toSet f_spec_SetRemove f_impl_SetRemove f_laws_eqSet f_laws_markSet f_laws_heldSet) ((encA (x0, x1)).map ofI) [] (fun v _ => v = .i (iB true)) := by
  refine R_of (by simp [c_laws_FnExactSetRemove, encA]) ?_
  unfold c_laws_FnExactSetRemove
  unfold p_laws_FnExactSetRemove at hp
  by_cases hb0 : (decide (1048576 < (x1.size : Int))) = true
  · rw [if_t hb0] at hp
    cases hp
    simp (disch := first | omega | (simp only [List.length_set, List.length_append, List.length_cons, List.length_nil, rows_len, zs]; first | done | omega)) only [ep_laws_szSet, ep_laws_toSet, ep_spec_SetRemove, ep_laws_eqSet, ep_laws_heldSet, hb0, gs, app_hsl, app_nil, reduceIte, reduceCtorEq, Nat.reduceAdd, Nat.reduceMul, Nat.reduceSub, Nat.reduceBEq, Nat.reduceEqDiff, Nat.reduceLeDiff, Nat.reduceLT, Nat.reduceGT, Int.reduceToNat, Int.reduceLT, Int.reduceLE, Int.reduceNeg, Int.reduceAdd, Int.reduceEq, Int.reduceNe]
  · replace hb0 := eq_false_of_ne_true hb0
    rw [if_f hb0] at hp
    obtain ⟨v1, hv1, hp⟩ := bind_eq hp
    by_cases hb2 : (decide (v1 < 0)) = true
    · rw [if_t hb2] at hp
      cases hp
      simp (disch := first | omega | (simp only [List.length_set, List.length_append, List.length_cons, List.length_nil, rows_len, zs]; first | done | omega)) only [ep_laws_szSet, ep_laws_toSet, ep_spec_SetRemove, ep_laws_eqSet, ep_laws_heldSet, hb0, hv1, hb2, gs, app_hsl, app_nil, reduceIte, reduceCtorEq, Nat.reduceAdd, Nat.reduceMul, Nat.reduceSub, Nat.reduceBEq, Nat.reduceEqDiff, Nat.reduceLeDiff, Nat.reduceLT, Nat.reduceGT, Int.reduceToNat, Int.reduceLT, Int.reduceLE, Int.reduceNeg, Int.reduceAdd, Int.reduceEq, Int.reduceNe]
    · replace hb2 := eq_false_of_ne_true hb2
      rw [if_f hb2] at hp
      obtain ⟨v3, hv3, hp⟩ := bind_eq hp
      obtain ⟨v4, hv4, hp⟩ := bind_eq hp
      simp (disch := first | omega | (simp only [List.length_set, List.length_append, List.length_cons, List.length_nil, rows_len, zs]; first | done | omega)) only [ep_laws_szSet, ep_laws_toSet, ep_spec_SetRemove, ep_laws_eqSet, ep_laws_heldSet, hb0, hv1, hb2, hv3, hv4, gs, app_hsl, app_nil, reduceIte, reduceCtorEq, Nat.reduceAdd, Nat.reduceMul, Nat.reduceSub, Nat.reduceBEq, Nat.reduceEqDiff, Nat.reduceLeDiff, Nat.reduceLT, Nat.reduceGT, Int.reduceToNat, Int.reduceLT, Int.reduceLE, Int.reduceNeg, Int.reduceAdd, Int.reduceEq, Int.reduceNe]
      refine call_f (fun h => getCells h 0 2 = some [.i (.sl 1 (x0.seen.counts.map enc)), .i (.sl 3 (x0.entries.map enc))] ∧ 0 < h.length ∧ getCells h 1 0 = some [] ∧ 1 < h.length ∧ getCells h 2 0 = some [] ∧ 2 < h.length ∧ getCells h 3 2 = some [.i (.sl 1 (v4.a.seen.counts.map enc)), .i (.sl 3 (v4.a.entries.map enc))] ∧ 3 < h.length) (fun h v h2 => oo_laws_toSet v3 h v h2) ?_ ?_ ?_
      · simp (disch := first | omega | (simp only [List.length_set, List.length_append, List.length_cons, List.length_nil, rows_len, zs]; first | done | omega)) only [ep_laws_szSet, ep_laws_toSet, ep_spec_SetRemove, ep_laws_eqSet, ep_laws_heldSet, hb0, hv1, hb2, hv3, hv4, gs, app_hsl, app_nil, reduceIte, reduceCtorEq, Nat.reduceAdd, Nat.reduceMul, Nat.reduceSub, Nat.reduceBEq, Nat.reduceEqDiff, Nat.reduceLeDiff, Nat.reduceLT, Nat.reduceGT, Int.reduceToNat, Int.reduceLT, Int.reduceLE, Int.reduceNeg, Int.reduceAdd, Int.reduceEq, Int.reduceNe] <;> omega
      · rintro h ⟨c0_0, c0_1, c0_2, c0_3, c0_4, c0_5, c0_6, c0_7⟩
        exact e_laws_toSet _ _ hv3 h _ (by simp (disch := first | omega | (simp only [List.length_set, List.length_append, List.length_cons, List.length_nil, rows_len, zs]; first | done | omega)) only [ep_laws_szSet, ep_laws_toSet, ep_spec_SetRemove, ep_laws_eqSet, ep_laws_heldSet, hb0, hv1, hb2, hv3, hv4, c0_0, c0_1, c0_2, c0_3, c0_4, c0_5, c0_6, c0_7, gs, app_hsl, app_nil, reduceIte, reduceCtorEq, Nat.reduceAdd, Nat.reduceMul, Nat.reduceSub, Nat.reduceBEq, Nat.reduceEqDiff, Nat.reduceLeDiff, Nat.reduceLT, Nat.reduceGT, Int.reduceToNat, Int.reduceLT, Int.reduceLE, Int.reduceNeg, Int.reduceAdd, Int.reduceEq, Int.reduceNe])
      · rintro h v hh0 ⟨c0_0, c0_1, c0_2, c0_3, c0_4, c0_5, c0_6, c0_7⟩ hpost
        obtain ⟨kk0, nb0_0, nb0_1, rfl, lnb0_0, gnb0_0, wnb0_0, lnb0_1, gnb0_1, wnb0_1, ne0_1_0⟩ := hpost
        have d0_0 : getCells hh0 0 2 = some [.i (.sl 1 (x0.seen.counts.map enc)), .i (.sl 3 (x0.entries.map enc))] := (keep_get kk0 c0_1 (by first | (simp; done) | (simp; omega))).trans c0_0
        have d0_0l := keep_lt kk0 c0_1
        have d0_1 : getCells hh0 1 0 = some [] := (keep_get kk0 c0_3 (by first | (simp; done) | (simp; omega))).trans c0_2
        have d0_1l := keep_lt kk0 c0_3
        have d0_2 : getCells hh0 2 0 = some [] := (keep_get kk0 c0_5 (by first | (simp; done) | (simp; omega))).trans c0_4
        have d0_2l := keep_lt kk0 c0_5
        have d0_3 : getCells hh0 3 2 = some [.i (.sl 1 (v4.a.seen.counts.map enc)), .i (.sl 3 (v4.a.entries.map enc))] := (keep_get kk0 c0_7 (by first | (simp; done) | (simp; omega))).trans c0_6
        have d0_3l := keep_lt kk0 c0_7
        have d0_4 := wnb0_0
        have d0_5 := wnb0_1
        obtain ⟨v5, hv5, hp⟩ := bind_eq hp
        simp (disch := first | omega | (simp only [List.length_set, List.length_append, List.length_cons, List.length_nil, rows_len, zs]; first | done | omega)) only [ep_laws_szSet, ep_laws_toSet, ep_spec_SetRemove, ep_laws_eqSet, ep_laws_heldSet, hb0, hv1, hb2, hv3, hv4, d0_0, d0_1, d0_2, d0_3, d0_4, d0_5, gs, app_hsl, app_nil, reduceIte, reduceCtorEq, Nat.reduceAdd, Nat.reduceMul, Nat.reduceSub, Nat.reduceBEq, Nat.reduceEqDiff, Nat.reduceLeDiff, Nat.reduceLT, Nat.reduceGT, Int.reduceToNat, Int.reduceLT, Int.reduceLE, Int.reduceNeg, Int.reduceAdd, Int.reduceEq, Int.reduceNe]
        refine call_f (fun h => getCells h 0 2 = some [.i (.sl 1 (x0.seen.counts.map enc)), .i (.sl 3 (x0.entries.map enc))] ∧ 0 < h.length ∧ getCells h 1 0 = some [] ∧ 1 < h.length ∧ getCells h 2 0 = some [] ∧ 2 < h.length ∧ getCells h 3 2 = some [.i (.sl 1 (v4.a.seen.counts.map enc)), .i (.sl 3 (v4.a.entries.map enc))] ∧ 3 < h.length ∧ getCells h nb0_0 v3.seen.counts.length = some (rows (v3.seen.counts : List Int)) ∧ nb0_0 < h.length ∧ getCells h nb0_1 (v3.entries.length * 3) = some (rows (v3.entries : List TEntry)) ∧ nb0_1 < h.length ∧ getCells h hh0.length 0 = some [] ∧ hh0.length < h.length ∧ getCells h (hh0.length + 1) 0 = some [] ∧ hh0.length + 1 < h.length ∧ getCells h (hh0.length + 2) 2 = some [.hsl nb0_0 v3.seen.counts.length 0 1 false v3.seen.counts.length, .hsl nb0_1 (v3.entries.length * 3) 0 3 true v3.entries.length] ∧ hh0.length + 2 < h.length) (fun h v h2 => oo_impl_SetRemove v5 h v h2) ?_ ?_ ?_
        · simp (disch := first | omega | (simp only [List.length_set, List.length_append, List.length_cons, List.length_nil, rows_len, zs]; first | done | omega)) only [ep_laws_szSet, ep_laws_toSet, ep_spec_SetRemove, ep_laws_eqSet, ep_laws_heldSet, hb0, hv1, hb2, hv3, hv4, d0_0, d0_1, d0_2, d0_3, d0_4, d0_5, hv5, gs, app_hsl, app_nil, reduceIte, reduceCtorEq, Nat.reduceAdd, Nat.reduceMul, Nat.reduceSub, Nat.reduceBEq, Nat.reduceEqDiff, Nat.reduceLeDiff, Nat.reduceLT, Nat.reduceGT, Int.reduceToNat, Int.reduceLT, Int.reduceLE, Int.reduceNeg, Int.reduceAdd, Int.reduceEq, Int.reduceNe] <;> omega
        · rintro h ⟨c1_0, c1_1, c1_2, c1_3, c1_4, c1_5, c1_6, c1_7, c1_8, c1_9, c1_10, c1_11, c1_12, c1_13, c1_14, c1_15, c1_16, c1_17⟩
          exact e_impl_SetRemove _ _ _ hv5 h _ (by simp (disch := first | omega | (simp only [List.length_set, List.length_append, List.length_cons, List.length_nil, rows_len, zs]; first | done | omega)) only [ep_laws_szSet, ep_laws_toSet, ep_spec_SetRemove, ep_laws_eqSet, ep_laws_heldSet, hb0, hv1, hb2, hv3, hv4, d0_0, d0_1, d0_2, d0_3, d0_4, d0_5, hv5, c1_0, c1_1, c1_2, c1_3, c1_4, c1_5, c1_6, c1_7, c1_8, c1_9, c1_10, c1_11, c1_12, c1_13, c1_14, c1_15, c1_16, c1_17, gs, app_hsl, app_nil, reduceIte, reduceCtorEq, Nat.reduceAdd, Nat.reduceMul, Nat.reduceSub, Nat.reduceBEq, Nat.reduceEqDiff, Nat.reduceLeDiff, Nat.reduceLT, Nat.reduceGT, Int.reduceToNat, Int.reduceLT, Int.reduceLE, Int.reduceNeg, Int.reduceAdd, Int.reduceEq, Int.reduceNe])
        · rintro h v hh1 ⟨c1_0, c1_1, c1_2, c1_3, c1_4, c1_5, c1_6, c1_7, c1_8, c1_9, c1_10, c1_11, c1_12, c1_13, c1_14, c1_15, c1_16, c1_17⟩ hpost
          obtain ⟨kk1, nb1_0, nb1_1, rfl, lnb1_0, gnb1_0, wnb1_0, lnb1_1, gnb1_1, wnb1_1, ne1_1_0⟩ := hpost
          have d1_0 : getCells hh1 0 2 = some [.i (.sl 1 (x0.seen.counts.map enc)), .i (.sl 3 (x0.entries.map enc))] := (keep_get kk1 c1_1 (by first | (simp; done) | (simp; omega))).trans c1_0
          have d1_0l := keep_lt kk1 c1_1
          have d1_1 : getCells hh1 1 0 = some [] := (keep_get kk1 c1_3 (by first | (simp; done) | (simp; omega))).trans c1_2
          have d1_1l := keep_lt kk1 c1_3
          have d1_2 : getCells hh1 2 0 = some [] := (keep_get kk1 c1_5 (by first | (simp; done) | (simp; omega))).trans c1_4
          have d1_2l := keep_lt kk1 c1_5
          have d1_3 : getCells hh1 3 2 = some [.i (.sl 1 (v4.a.seen.counts.map enc)), .i (.sl 3 (v4.a.entries.map enc))] := (keep_get kk1 c1_7 (by first | (simp; done) | (simp; omega))).trans c1_6
          have d1_3l := keep_lt kk1 c1_7
          have d1_4 : getCells hh1 nb0_0 v3.seen.counts.length = some (rows (v3.seen.counts : List Int)) := (keep_get kk1 c1_9 (by first | (simp; done) | (simp; omega))).trans c1_8
          have d1_4l := keep_lt kk1 c1_9
          have d1_5 : getCells hh1 nb0_1 (v3.entries.length * 3) = some (rows (v3.entries : List TEntry)) := (keep_get kk1 c1_11 (by first | (simp; done) | (simp; omega))).trans c1_10
          have d1_5l := keep_lt kk1 c1_11
          have d1_6 : getCells hh1 hh0.length 0 = some [] := (keep_get kk1 c1_13 (by first | (simp; done) | (simp; omega))).trans c1_12
          have d1_6l := keep_lt kk1 c1_13
          have d1_7 : getCells hh1 (hh0.length + 1) 0 = some [] := (keep_get kk1 c1_15 (by first | (simp; done) | (simp; omega))).trans c1_14
          have d1_7l := keep_lt kk1 c1_15
          have d1_8 : getCells hh1 (hh0.length + 2) 2 = some [.hsl nb0_0 v3.seen.counts.length 0 1 false v3.seen.counts.length, .hsl nb0_1 (v3.entries.length * 3) 0 3 true v3.entries.length] := (keep_get kk1 c1_17 (by first | (simp; done) | (simp; omega))).trans c1_16
          have d1_8l := keep_lt kk1 c1_17
          have d1_9 := wnb1_0
          have d1_10 := wnb1_1
          obtain ⟨v6, hv6, hp⟩ := bind_eq hp
          by_cases hb7 : (v6) = true
          · rw [if_t hb7] at hp
            by_cases hb8 : (decide (v5.b = v4.b)) = true
            · rw [if_t hb8] at hp
              obtain ⟨v9, hv9, hp⟩ := bind_eq hp
              by_cases hb10 : (v9) = true
              · rw [if_t hb10] at hp
                obtain ⟨v11, hv11, hp⟩ := bind_eq hp
                simp (disch := first | omega | (simp only [List.length_set, List.length_append, List.length_cons, List.length_nil, rows_len, zs]; first | done | omega)) only [ep_laws_szSet, ep_laws_toSet, ep_spec_SetRemove, ep_laws_eqSet, ep_laws_heldSet, hb0, hv1, hb2, hv3, hv4, d0_0, d0_1, d0_2, d0_3, d0_4, d0_5, hv5, d1_0, d1_1, d1_2, d1_3, d1_4, d1_5, d1_6, d1_7, d1_8, d1_9, d1_10, hv6, hb7, hb8, hv9, hb10, gs, app_hsl, app_nil, reduceIte, reduceCtorEq, Nat.reduceAdd, Nat.reduceMul, Nat.reduceSub, Nat.reduceBEq, Nat.reduceEqDiff, Nat.reduceLeDiff, Nat.reduceLT, Nat.reduceGT, Int.reduceToNat, Int.reduceLT, Int.reduceLE, Int.reduceNeg, Int.reduceAdd, Int.reduceEq, Int.reduceNe]
                refine call_f (fun h => getCells h 0 2 = some [.i (.sl 1 (x0.seen.counts.map enc)), .i (.sl 3 (x0.entries.map enc))] ∧ 0 < h.length ∧ getCells h 1 0 = some [] ∧ 1 < h.length ∧ getCells h 2 0 = some [] ∧ 2 < h.length ∧ getCells h 3 2 = some [.i (.sl 1 (v4.a.seen.counts.map enc)), .i (.sl 3 (v4.a.entries.map enc))] ∧ 3 < h.length ∧ getCells h nb0_0 v3.seen.counts.length = some (rows (v3.seen.counts : List Int)) ∧ nb0_0 < h.length ∧ getCells h nb0_1 (v3.entries.length * 3) = some (rows (v3.entries : List TEntry)) ∧ nb0_1 < h.length ∧ getCells h hh0.length 0 = some [] ∧ hh0.length < h.length ∧ getCells h (hh0.length + 1) 0 = some [] ∧ hh0.length + 1 < h.length ∧ getCells h (hh0.length + 2) 2 = some [.hsl nb0_0 v3.seen.counts.length 0 1 false v3.seen.counts.length, .hsl nb0_1 (v3.entries.length * 3) 0 3 true v3.entries.length] ∧ hh0.length + 2 < h.length ∧ getCells h nb1_0 v5.a.seen.counts.length = some (rows (v5.a.seen.counts : List Int)) ∧ nb1_0 < h.length ∧ getCells h nb1_1 (v5.a.entries.length * 3) = some (rows (v5.a.entries : List TEntry)) ∧ nb1_1 < h.length ∧ getCells h hh1.length 0 = some [] ∧ hh1.length < h.length ∧ getCells h (hh1.length + 1) 0 = some [] ∧ hh1.length + 1 < h.length ∧ getCells h (hh1.length + 2) 2 = some [.hsl nb1_0 v5.a.seen.counts.length 0 1 false v5.a.seen.counts.length, .hsl nb1_1 (v5.a.entries.length * 3) 0 3 true v5.a.entries.length] ∧ hh1.length + 2 < h.length) (fun h v h2 => i_laws_markSet nb0_0 nb0_1 v3.seen.counts.length v3.entries.length h v11 v h2) ?_ ?_ ?_
                · simp (disch := first | omega | (simp only [List.length_set, List.length_append, List.length_cons, List.length_nil, rows_len, zs]; first | done | omega)) only [ep_laws_szSet, ep_laws_toSet, ep_spec_SetRemove, ep_laws_eqSet, ep_laws_heldSet, hb0, hv1, hb2, hv3, hv4, d0_0, d0_1, d0_2, d0_3, d0_4, d0_5, hv5, d1_0, d1_1, d1_2, d1_3, d1_4, d1_5, d1_6, d1_7, d1_8, d1_9, d1_10, hv6, hb7, hb8, hv9, hb10, hv11, gs, app_hsl, app_nil, reduceIte, reduceCtorEq, Nat.reduceAdd, Nat.reduceMul, Nat.reduceSub, Nat.reduceBEq, Nat.reduceEqDiff, Nat.reduceLeDiff, Nat.reduceLT, Nat.reduceGT, Int.reduceToNat, Int.reduceLT, Int.reduceLE, Int.reduceNeg, Int.reduceAdd, Int.reduceEq, Int.reduceNe] <;> omega
                · rintro h ⟨c2_0, c2_1, c2_2, c2_3, c2_4, c2_5, c2_6, c2_7, c2_8, c2_9, c2_10, c2_11, c2_12, c2_13, c2_14, c2_15, c2_16, c2_17, c2_18, c2_19, c2_20, c2_21, c2_22, c2_23, c2_24, c2_25, c2_26, c2_27⟩
                  exact e_laws_markSet _ _ _ hv11 nb0_0 nb0_1 v3.seen.counts.length v3.entries.length h (by omega) (by omega) c2_8 c2_10 (by omega)
                · rintro h v hh2 ⟨c2_0, c2_1, c2_2, c2_3, c2_4, c2_5, c2_6, c2_7, c2_8, c2_9, c2_10, c2_11, c2_12, c2_13, c2_14, c2_15, c2_16, c2_17, c2_18, c2_19, c2_20, c2_21, c2_22, c2_23, c2_24, c2_25, c2_26, c2_27⟩ hpost
                  obtain ⟨kk2, rfl, w2_0, w2_1⟩ := hpost
                  have d2_0 : getCells hh2 0 2 = some [.i (.sl 1 (x0.seen.counts.map enc)), .i (.sl 3 (x0.entries.map enc))] := (keep_get kk2 c2_1 (by first | (simp; done) | (simp; omega))).trans c2_0
                  have d2_0l := keep_lt kk2 c2_1
                  have d2_1 : getCells hh2 1 0 = some [] := (keep_get kk2 c2_3 (by first | (simp; done) | (simp; omega))).trans c2_2
                  have d2_1l := keep_lt kk2 c2_3
                  have d2_2 : getCells hh2 2 0 = some [] := (keep_get kk2 c2_5 (by first | (simp; done) | (simp; omega))).trans c2_4
                  have d2_2l := keep_lt kk2 c2_5
                  have d2_3 : getCells hh2 3 2 = some [.i (.sl 1 (v4.a.seen.counts.map enc)), .i (.sl 3 (v4.a.entries.map enc))] := (keep_get kk2 c2_7 (by first | (simp; done) | (simp; omega))).trans c2_6
                  have d2_3l := keep_lt kk2 c2_7
                  have d2_4 : getCells hh2 nb0_0 v3.seen.counts.length = some (rows (v11.b.seen.counts : List Int)) := w2_0
                  have mm2_0 := len_rows w2_0
                  simp only [zs] at mm2_0
                  have d2_4l := keep_lt kk2 c2_9
                  have d2_5 : getCells hh2 nb0_1 (v3.entries.length * 3) = some (rows (v11.b.entries : List TEntry)) := w2_1
                  have mm2_1 := len_rows w2_1
                  simp only [zs] at mm2_1
                  have d2_5l := keep_lt kk2 c2_11
                  have d2_6 : getCells hh2 hh0.length 0 = some [] := (keep_get kk2 c2_13 (by first | (simp; done) | (simp; omega))).trans c2_12
                  have d2_6l := keep_lt kk2 c2_13
                  have d2_7 : getCells hh2 (hh0.length + 1) 0 = some [] := (keep_get kk2 c2_15 (by first | (simp; done) | (simp; omega))).trans c2_14
                  have d2_7l := keep_lt kk2 c2_15
                  have d2_8 : getCells hh2 (hh0.length + 2) 2 = some [.hsl nb0_0 v3.seen.counts.length 0 1 false v3.seen.counts.length, .hsl nb0_1 (v3.entries.length * 3) 0 3 true v3.entries.length] := (keep_get kk2 c2_17 (by first | (simp; done) | (simp; omega))).trans c2_16
                  have d2_8l := keep_lt kk2 c2_17
                  have d2_9 : getCells hh2 nb1_0 v5.a.seen.counts.length = some (rows (v5.a.seen.counts : List Int)) := (keep_get kk2 c2_19 (by first | (simp; done) | (simp; omega))).trans c2_18
                  have d2_9l := keep_lt kk2 c2_19
                  have d2_10 : getCells hh2 nb1_1 (v5.a.entries.length * 3) = some (rows (v5.a.entries : List TEntry)) := (keep_get kk2 c2_21 (by first | (simp; done) | (simp; omega))).trans c2_20
                  have d2_10l := keep_lt kk2 c2_21
                  have d2_11 : getCells hh2 hh1.length 0 = some [] := (keep_get kk2 c2_23 (by first | (simp; done) | (simp; omega))).trans c2_22
                  have d2_11l := keep_lt kk2 c2_23
                  have d2_12 : getCells hh2 (hh1.length + 1) 0 = some [] := (keep_get kk2 c2_25 (by first | (simp; done) | (simp; omega))).trans c2_24
                  have d2_12l := keep_lt kk2 c2_25
                  have d2_13 : getCells hh2 (hh1.length + 2) 2 = some [.hsl nb1_0 v5.a.seen.counts.length 0 1 false v5.a.seen.counts.length, .hsl nb1_1 (v5.a.entries.length * 3) 0 3 true v5.a.entries.length] := (keep_get kk2 c2_27 (by first | (simp; done) | (simp; omega))).trans c2_26
                  have d2_13l := keep_lt kk2 c2_27
                  by_cases hb12 : (decide (v11.a < 0)) = true
                  · rw [if_t hb12] at hp
                    cases hp
                  · replace hb12 := eq_false_of_ne_true hb12
                    rw [if_f hb12] at hp
                    obtain ⟨v13, hv13, hp⟩ := bind_eq hp
                    simp (disch := first | omega | (simp only [List.length_set, List.length_append, List.length_cons, List.length_nil, rows_len, zs]; first | done | omega)) only [ep_laws_szSet, ep_laws_toSet, ep_spec_SetRemove, ep_laws_eqSet, ep_laws_heldSet, hb0, hv1, hb2, hv3, hv4, d0_0, d0_1, d0_2, d0_3, d0_4, d0_5, hv5, d1_0, d1_1, d1_2, d1_3, d1_4, d1_5, d1_6, d1_7, d1_8, d1_9, d1_10, hv6, hb7, hb8, hv9, hb10, hv11, d2_0, d2_1, d2_2, d2_3, d2_4, d2_5, d2_6, d2_7, d2_8, d2_9, d2_10, d2_11, d2_12, d2_13, hb12, gs, app_hsl, app_nil, reduceIte, reduceCtorEq, Nat.reduceAdd, Nat.reduceMul, Nat.reduceSub, Nat.reduceBEq, Nat.reduceEqDiff, Nat.reduceLeDiff, Nat.reduceLT, Nat.reduceGT, Int.reduceToNat, Int.reduceLT, Int.reduceLE, Int.reduceNeg, Int.reduceAdd, Int.reduceEq, Int.reduceNe]
                    refine call_f (fun h => getCells h 0 2 = some [.i (.sl 1 (x0.seen.counts.map enc)), .i (.sl 3 (x0.entries.map enc))] ∧ 0 < h.length ∧ getCells h 1 0 = some [] ∧ 1 < h.length ∧ getCells h 2 0 = some [] ∧ 2 < h.length ∧ getCells h 3 2 = some [.i (.sl 1 (v4.a.seen.counts.map enc)), .i (.sl 3 (v4.a.entries.map enc))] ∧ 3 < h.length ∧ getCells h nb0_0 v3.seen.counts.length = some (rows (v11.b.seen.counts : List Int)) ∧ nb0_0 < h.length ∧ getCells h nb0_1 (v3.entries.length * 3) = some (rows (v11.b.entries : List TEntry)) ∧ nb0_1 < h.length ∧ getCells h hh0.length 0 = some [] ∧ hh0.length < h.length ∧ getCells h (hh0.length + 1) 0 = some [] ∧ hh0.length + 1 < h.length ∧ getCells h (hh0.length + 2) 2 = some [.hsl nb0_0 v3.seen.counts.length 0 1 false v3.seen.counts.length, .hsl nb0_1 (v3.entries.length * 3) 0 3 true v3.entries.length] ∧ hh0.length + 2 < h.length ∧ getCells h nb1_0 v5.a.seen.counts.length = some (rows (v5.a.seen.counts : List Int)) ∧ nb1_0 < h.length ∧ getCells h nb1_1 (v5.a.entries.length * 3) = some (rows (v5.a.entries : List TEntry)) ∧ nb1_1 < h.length ∧ getCells h hh1.length 0 = some [] ∧ hh1.length < h.length ∧ getCells h (hh1.length + 1) 0 = some [] ∧ hh1.length + 1 < h.length ∧ getCells h (hh1.length + 2) 2 = some [.hsl nb1_0 v5.a.seen.counts.length 0 1 false v5.a.seen.counts.length, .hsl nb1_1 (v5.a.entries.length * 3) 0 3 true v5.a.entries.length] ∧ hh1.length + 2 < h.length) (fun h v h2 => i_laws_markSet nb1_0 nb1_1 v5.a.seen.counts.length v5.a.entries.length h v13 v h2) ?_ ?_ ?_
                    · simp (disch := first | omega | (simp only [List.length_set, List.length_append, List.length_cons, List.length_nil, rows_len, zs]; first | done | omega)) only [ep_laws_szSet, ep_laws_toSet, ep_spec_SetRemove, ep_laws_eqSet, ep_laws_heldSet, hb0, hv1, hb2, hv3, hv4, d0_0, d0_1, d0_2, d0_3, d0_4, d0_5, hv5, d1_0, d1_1, d1_2, d1_3, d1_4, d1_5, d1_6, d1_7, d1_8, d1_9, d1_10, hv6, hb7, hb8, hv9, hb10, hv11, d2_0, d2_1, d2_2, d2_3, d2_4, d2_5, d2_6, d2_7, d2_8, d2_9, d2_10, d2_11, d2_12, d2_13, hb12, hv13, gs, app_hsl, app_nil, reduceIte, reduceCtorEq, Nat.reduceAdd, Nat.reduceMul, Nat.reduceSub, Nat.reduceBEq, Nat.reduceEqDiff, Nat.reduceLeDiff, Nat.reduceLT, Nat.reduceGT, Int.reduceToNat, Int.reduceLT, Int.reduceLE, Int.reduceNeg, Int.reduceAdd, Int.reduceEq, Int.reduceNe] <;> omega
                    · rintro h ⟨c3_0, c3_1, c3_2, c3_3, c3_4, c3_5, c3_6, c3_7, c3_8, c3_9, c3_10, c3_11, c3_12, c3_13, c3_14, c3_15, c3_16, c3_17, c3_18, c3_19, c3_20, c3_21, c3_22, c3_23, c3_24, c3_25, c3_26, c3_27⟩
                      exact e_laws_markSet _ _ _ hv13 nb1_0 nb1_1 v5.a.seen.counts.length v5.a.entries.length h (by omega) (by omega) c3_18 c3_20 (by omega)
                    · rintro h v hh3 ⟨c3_0, c3_1, c3_2, c3_3, c3_4, c3_5, c3_6, c3_7, c3_8, c3_9, c3_10, c3_11, c3_12, c3_13, c3_14, c3_15, c3_16, c3_17, c3_18, c3_19, c3_20, c3_21, c3_22, c3_23, c3_24, c3_25, c3_26, c3_27⟩ hpost
                      obtain ⟨kk3, rfl, w3_0, w3_1⟩ := hpost
                      have d3_0 : getCells hh3 0 2 = some [.i (.sl 1 (x0.seen.counts.map enc)), .i (.sl 3 (x0.entries.map enc))] := (keep_get kk3 c3_1 (by first | (simp; done) | (simp; omega))).trans c3_0
                      have d3_0l := keep_lt kk3 c3_1
                      have d3_1 : getCells hh3 1 0 = some [] := (keep_get kk3 c3_3 (by first | (simp; done) | (simp; omega))).trans c3_2
                      have d3_1l := keep_lt kk3 c3_3
                      have d3_2 : getCells hh3 2 0 = some [] := (keep_get kk3 c3_5 (by first | (simp; done) | (simp; omega))).trans c3_4
                      have d3_2l := keep_lt kk3 c3_5
                      have d3_3 : getCells hh3 3 2 = some [.i (.sl 1 (v4.a.seen.counts.map enc)), .i (.sl 3 (v4.a.entries.map enc))] := (keep_get kk3 c3_7 (by first | (simp; done) | (simp; omega))).trans c3_6
                      have d3_3l := keep_lt kk3 c3_7
                      have d3_4 : getCells hh3 nb0_0 v3.seen.counts.length = some (rows (v11.b.seen.counts : List Int)) := (keep_get kk3 c3_9 (by first | (simp; done) | (simp; omega))).trans c3_8
                      have d3_4l := keep_lt kk3 c3_9
                      have d3_5 : getCells hh3 nb0_1 (v3.entries.length * 3) = some (rows (v11.b.entries : List TEntry)) := (keep_get kk3 c3_11 (by first | (simp; done) | (simp; omega))).trans c3_10
                      have d3_5l := keep_lt kk3 c3_11
                      have d3_6 : getCells hh3 hh0.length 0 = some [] := (keep_get kk3 c3_13 (by first | (simp; done) | (simp; omega))).trans c3_12
                      have d3_6l := keep_lt kk3 c3_13
                      have d3_7 : getCells hh3 (hh0.length + 1) 0 = some [] := (keep_get kk3 c3_15 (by first | (simp; done) | (simp; omega))).trans c3_14
                      have d3_7l := keep_lt kk3 c3_15
                      have d3_8 : getCells hh3 (hh0.length + 2) 2 = some [.hsl nb0_0 v3.seen.counts.length 0 1 false v3.seen.counts.length, .hsl nb0_1 (v3.entries.length * 3) 0 3 true v3.entries.length] := (keep_get kk3 c3_17 (by first | (simp; done) | (simp; omega))).trans c3_16
                      have d3_8l := keep_lt kk3 c3_17
                      have d3_9 : getCells hh3 nb1_0 v5.a.seen.counts.length = some (rows (v13.b.seen.counts : List Int)) := w3_0
                      have mm3_0 := len_rows w3_0
                      simp only [zs] at mm3_0
                      have d3_9l := keep_lt kk3 c3_19
                      have d3_10 : getCells hh3 nb1_1 (v5.a.entries.length * 3) = some (rows (v13.b.entries : List TEntry)) := w3_1
                      have mm3_1 := len_rows w3_1
                      simp only [zs] at mm3_1
                      have d3_10l := keep_lt kk3 c3_21
                      have d3_11 : getCells hh3 hh1.length 0 = some [] := (keep_get kk3 c3_23 (by first | (simp; done) | (simp; omega))).trans c3_22
                      have d3_11l := keep_lt kk3 c3_23
                      have d3_12 : getCells hh3 (hh1.length + 1) 0 = some [] := (keep_get kk3 c3_25 (by first | (simp; done) | (simp; omega))).trans c3_24
                      have d3_12l := keep_lt kk3 c3_25
                      have d3_13 : getCells hh3 (hh1.length + 2) 2 = some [.hsl nb1_0 v5.a.seen.counts.length 0 1 false v5.a.seen.counts.length, .hsl nb1_1 (v5.a.entries.length * 3) 0 3 true v5.a.entries.length] := (keep_get kk3 c3_27 (by first | (simp; done) | (simp; omega))).trans c3_26
                      have d3_13l := keep_lt kk3 c3_27
                      obtain ⟨v14, hv14, hp⟩ := bind_eq hp
                      by_cases hb15 : (decide (v14 < 0)) = true
                      · rw [if_t hb15] at hp
                        cases hp
                      · replace hb15 := eq_false_of_ne_true hb15
                        rw [if_f hb15] at hp
                        by_cases hb16 : (decide (v14 = v13.a)) = true
                        · rw [if_t hb16] at hp
                          simp (disch := first | omega | (simp only [List.length_set, List.length_append, List.length_cons, List.length_nil, rows_len, zs]; first | done | omega)) only [ep_laws_szSet, ep_laws_toSet, ep_spec_SetRemove, ep_laws_eqSet, ep_laws_heldSet, hb0, hv1, hb2, hv3, hv4, d0_0, d0_1, d0_2, d0_3, d0_4, d0_5, hv5, d1_0, d1_1, d1_2, d1_3, d1_4, d1_5, d1_6, d1_7, d1_8, d1_9, d1_10, hv6, hb7, hb8, hv9, hb10, hv11, d2_0, d2_1, d2_2, d2_3, d2_4, d2_5, d2_6, d2_7, d2_8, d2_9, d2_10, d2_11, d2_12, d2_13, hb12, hv13, d3_0, d3_1, d3_2, d3_3, d3_4, d3_5, d3_6, d3_7, d3_8, d3_9, d3_10, d3_11, d3_12, d3_13, hv14, hb15, hb16, gs, app_hsl, app_nil, reduceIte, reduceCtorEq, Nat.reduceAdd, Nat.reduceMul, Nat.reduceSub, Nat.reduceBEq, Nat.reduceEqDiff, Nat.reduceLeDiff, Nat.reduceLT, Nat.reduceGT, Int.reduceToNat, Int.reduceLT, Int.reduceLE, Int.reduceNeg, Int.reduceAdd, Int.reduceEq, Int.reduceNe]
                          refine call_f (fun h => getCells h 0 2 = some [.i (.sl 1 (x0.seen.counts.map enc)), .i (.sl 3 (x0.entries.map enc))] ∧ 0 < h.length ∧ getCells h 1 0 = some [] ∧ 1 < h.length ∧ getCells h 2 0 = some [] ∧ 2 < h.length ∧ getCells h 3 2 = some [.i (.sl 1 (v4.a.seen.counts.map enc)), .i (.sl 3 (v4.a.entries.map enc))] ∧ 3 < h.length ∧ getCells h nb0_0 v3.seen.counts.length = some (rows (v11.b.seen.counts : List Int)) ∧ nb0_0 < h.length ∧ getCells h nb0_1 (v3.entries.length * 3) = some (rows (v11.b.entries : List TEntry)) ∧ nb0_1 < h.length ∧ getCells h hh0.length 0 = some [] ∧ hh0.length < h.length ∧ getCells h (hh0.length + 1) 0 = some [] ∧ hh0.length + 1 < h.length ∧ getCells h (hh0.length + 2) 2 = some [.hsl nb0_0 v3.seen.counts.length 0 1 false v3.seen.counts.length, .hsl nb0_1 (v3.entries.length * 3) 0 3 true v3.entries.length] ∧ hh0.length + 2 < h.length ∧ getCells h nb1_0 v5.a.seen.counts.length = some (rows (v13.b.seen.counts : List Int)) ∧ nb1_0 < h.length ∧ getCells h nb1_1 (v5.a.entries.length * 3) = some (rows (v13.b.entries : List TEntry)) ∧ nb1_1 < h.length ∧ getCells h hh1.length 0 = some [] ∧ hh1.length < h.length ∧ getCells h (hh1.length + 1) 0 = some [] ∧ hh1.length + 1 < h.length ∧ getCells h (hh1.length + 2) 2 = some [.hsl nb1_0 v5.a.seen.counts.length 0 1 false v5.a.seen.counts.length, .hsl nb1_1 (v5.a.entries.length * 3) 0 3 true v5.a.entries.length] ∧ hh1.length + 2 < h.length) (fun h v h2 => oo_laws_toSet v3 h v h2) ?_ ?_ ?_
                          · simp (disch := first | omega | (simp only [List.length_set, List.length_append, List.length_cons, List.length_nil, rows_len, zs]; first | done | omega)) only [ep_laws_szSet, ep_laws_toSet, ep_spec_SetRemove, ep_laws_eqSet, ep_laws_heldSet, hb0, hv1, hb2, hv3, hv4, d0_0, d0_1, d0_2, d0_3, d0_4, d0_5, hv5, d1_0, d1_1, d1_2, d1_3, d1_4, d1_5, d1_6, d1_7, d1_8, d1_9, d1_10, hv6, hb7, hb8, hv9, hb10, hv11, d2_0, d2_1, d2_2, d2_3, d2_4, d2_5, d2_6, d2_7, d2_8, d2_9, d2_10, d2_11, d2_12, d2_13, hb12, hv13, d3_0, d3_1, d3_2, d3_3, d3_4, d3_5, d3_6, d3_7, d3_8, d3_9, d3_10, d3_11, d3_12, d3_13, hv14, hb15, hb16, gs, app_hsl, app_nil, reduceIte, reduceCtorEq, Nat.reduceAdd, Nat.reduceMul, Nat.reduceSub, Nat.reduceBEq, Nat.reduceEqDiff, Nat.reduceLeDiff, Nat.reduceLT, Nat.reduceGT, Int.reduceToNat, Int.reduceLT, Int.reduceLE, Int.reduceNeg, Int.reduceAdd, Int.reduceEq, Int.reduceNe] <;> omega
                          · rintro h ⟨c4_0, c4_1, c4_2, c4_3, c4_4, c4_5, c4_6, c4_7, c4_8, c4_9, c4_10, c4_11, c4_12, c4_13, c4_14, c4_15, c4_16, c4_17, c4_18, c4_19, c4_20, c4_21, c4_22, c4_23, c4_24, c4_25, c4_26, c4_27⟩
                            exact e_laws_toSet _ _ hv3 h _ (by simp (disch := first | omega | (simp only [List.length_set, List.length_append, List.length_cons, List.length_nil, rows_len, zs]; first | done | omega)) only [ep_laws_szSet, ep_laws_toSet, ep_spec_SetRemove, ep_laws_eqSet, ep_laws_heldSet, hb0, hv1, hb2, hv3, hv4, d0_0, d0_1, d0_2, d0_3, d0_4, d0_5, hv5, d1_0, d1_1, d1_2, d1_3, d1_4, d1_5, d1_6, d1_7, d1_8, d1_9, d1_10, hv6, hb7, hb8, hv9, hb10, hv11, d2_0, d2_1, d2_2, d2_3, d2_4, d2_5, d2_6, d2_7, d2_8, d2_9, d2_10, d2_11, d2_12, d2_13, hb12, hv13, d3_0, d3_1, d3_2, d3_3, d3_4, d3_5, d3_6, d3_7, d3_8, d3_9, d3_10, d3_11, d3_12, d3_13, hv14, hb15, hb16, c4_0, c4_1, c4_2, c4_3, c4_4, c4_5, c4_6, c4_7, c4_8, c4_9, c4_10, c4_11, c4_12, c4_13, c4_14, c4_15, c4_16, c4_17, c4_18, c4_19, c4_20, c4_21, c4_22, c4_23, c4_24, c4_25, c4_26, c4_27, gs, app_hsl, app_nil, reduceIte, reduceCtorEq, Nat.reduceAdd, Nat.reduceMul, Nat.reduceSub, Nat.reduceBEq, Nat.reduceEqDiff, Nat.reduceLeDiff, Nat.reduceLT, Nat.reduceGT, Int.reduceToNat, Int.reduceLT, Int.reduceLE, Int.reduceNeg, Int.reduceAdd, Int.reduceEq, Int.reduceNe])
                          · rintro h v hh4 ⟨c4_0, c4_1, c4_2, c4_3, c4_4, c4_5, c4_6, c4_7, c4_8, c4_9, c4_10, c4_11, c4_12, c4_13, c4_14, c4_15, c4_16, c4_17, c4_18, c4_19, c4_20, c4_21, c4_22, c4_23, c4_24, c4_25, c4_26, c4_27⟩ hpost
                            obtain ⟨kk4, nb4_0, nb4_1, rfl, lnb4_0, gnb4_0, wnb4_0, lnb4_1, gnb4_1, wnb4_1, ne4_1_0⟩ := hpost
                            have d4_0 : getCells hh4 0 2 = some [.i (.sl 1 (x0.seen.counts.map enc)), .i (.sl 3 (x0.entries.map enc))] := (keep_get kk4 c4_1 (by first | (simp; done) | (simp; omega))).trans c4_0
                            have d4_0l := keep_lt kk4 c4_1
                            have d4_1 : getCells hh4 1 0 = some [] := (keep_get kk4 c4_3 (by first | (simp; done) | (simp; omega))).trans c4_2
                            have d4_1l := keep_lt kk4 c4_3
                            have d4_2 : getCells hh4 2 0 = some [] := (keep_get kk4 c4_5 (by first | (simp; done) | (simp; omega))).trans c4_4
                            have d4_2l := keep_lt kk4 c4_5
                            have d4_3 : getCells hh4 3 2 = some [.i (.sl 1 (v4.a.seen.counts.map enc)), .i (.sl 3 (v4.a.entries.map enc))] := (keep_get kk4 c4_7 (by first | (simp; done) | (simp; omega))).trans c4_6
                            have d4_3l := keep_lt kk4 c4_7
                            have d4_4 : getCells hh4 nb0_0 v3.seen.counts.length = some (rows (v11.b.seen.counts : List Int)) := (keep_get kk4 c4_9 (by first | (simp; done) | (simp; omega))).trans c4_8
                            have d4_4l := keep_lt kk4 c4_9
                            have d4_5 : getCells hh4 nb0_1 (v3.entries.length * 3) = some (rows (v11.b.entries : List TEntry)) := (keep_get kk4 c4_11 (by first | (simp; done) | (simp; omega))).trans c4_10
                            have d4_5l := keep_lt kk4 c4_11
                            have d4_6 : getCells hh4 hh0.length 0 = some [] := (keep_get kk4 c4_13 (by first | (simp; done) | (simp; omega))).trans c4_12
                            have d4_6l := keep_lt kk4 c4_13
                            have d4_7 : getCells hh4 (hh0.length + 1) 0 = some [] := (keep_get kk4 c4_15 (by first | (simp; done) | (simp; omega))).trans c4_14
                            have d4_7l := keep_lt kk4 c4_15
                            have d4_8 : getCells hh4 (hh0.length + 2) 2 = some [.hsl nb0_0 v3.seen.counts.length 0 1 false v3.seen.counts.length, .hsl nb0_1 (v3.entries.length * 3) 0 3 true v3.entries.length] := (keep_get kk4 c4_17 (by first | (simp; done) | (simp; omega))).trans c4_16
                            have d4_8l := keep_lt kk4 c4_17
                            have d4_9 : getCells hh4 nb1_0 v5.a.seen.counts.length = some (rows (v13.b.seen.counts : List Int)) := (keep_get kk4 c4_19 (by first | (simp; done) | (simp; omega))).trans c4_18
                            have d4_9l := keep_lt kk4 c4_19
                            have d4_10 : getCells hh4 nb1_1 (v5.a.entries.length * 3) = some (rows (v13.b.entries : List TEntry)) := (keep_get kk4 c4_21 (by first | (simp; done) | (simp; omega))).trans c4_20
                            have d4_10l := keep_lt kk4 c4_21
                            have d4_11 : getCells hh4 hh1.length 0 = some [] := (keep_get kk4 c4_23 (by first | (simp; done) | (simp; omega))).trans c4_22
                            have d4_11l := keep_lt kk4 c4_23
                            have d4_12 : getCells hh4 (hh1.length + 1) 0 = some [] := (keep_get kk4 c4_25 (by first | (simp; done) | (simp; omega))).trans c4_24
                            have d4_12l := keep_lt kk4 c4_25
                            have d4_13 : getCells hh4 (hh1.length + 2) 2 = some [.hsl nb1_0 v5.a.seen.counts.length 0 1 false v5.a.seen.counts.length, .hsl nb1_1 (v5.a.entries.length * 3) 0 3 true v5.a.entries.length] := (keep_get kk4 c4_27 (by first | (simp; done) | (simp; omega))).trans c4_26
                            have d4_13l := keep_lt kk4 c4_27
                            have d4_14 := wnb4_0
                            have d4_15 := wnb4_1
                            simp (disch := first | omega | (simp only [List.length_set, List.length_append, List.length_cons, List.length_nil, rows_len, zs]; first | done | omega)) only [ep_laws_szSet, ep_laws_toSet, ep_spec_SetRemove, ep_laws_eqSet, ep_laws_heldSet, hb0, hv1, hb2, hv3, hv4, d0_0, d0_1, d0_2, d0_3, d0_4, d0_5, hv5, d1_0, d1_1, d1_2, d1_3, d1_4, d1_5, d1_6, d1_7, d1_8, d1_9, d1_10, hv6, hb7, hb8, hv9, hb10, hv11, d2_0, d2_1, d2_2, d2_3, d2_4, d2_5, d2_6, d2_7, d2_8, d2_9, d2_10, d2_11, d2_12, d2_13, hb12, hv13, d3_0, d3_1, d3_2, d3_3, d3_4, d3_5, d3_6, d3_7, d3_8, d3_9, d3_10, d3_11, d3_12, d3_13, hv14, hb15, hb16, d4_0, d4_1, d4_2, d4_3, d4_4, d4_5, d4_6, d4_7, d4_8, d4_9, d4_10, d4_11, d4_12, d4_13, d4_14, d4_15, gs, app_hsl, app_nil, reduceIte, reduceCtorEq, Nat.reduceAdd, Nat.reduceMul, Nat.reduceSub, Nat.reduceBEq, Nat.reduceEqDiff, Nat.reduceLeDiff, Nat.reduceLT, Nat.reduceGT, Int.reduceToNat, Int.reduceLT, Int.reduceLE, Int.reduceNeg, Int.reduceAdd, Int.reduceEq, Int.reduceNe]
                            refine call_f (fun h => getCells h 0 2 = some [.i (.sl 1 (x0.seen.counts.map enc)), .i (.sl 3 (x0.entries.map enc))] ∧ 0 < h.length ∧ getCells h 1 0 = some [] ∧ 1 < h.length ∧ getCells h 2 0 = some [] ∧ 2 < h.length ∧ getCells h 3 2 = some [.i (.sl 1 (v4.a.seen.counts.map enc)), .i (.sl 3 (v4.a.entries.map enc))] ∧ 3 < h.length ∧ getCells h nb0_0 v3.seen.counts.length = some (rows (v11.b.seen.counts : List Int)) ∧ nb0_0 < h.length ∧ getCells h nb0_1 (v3.entries.length * 3) = some (rows (v11.b.entries : List TEntry)) ∧ nb0_1 < h.length ∧ getCells h hh0.length 0 = some [] ∧ hh0.length < h.length ∧ getCells h (hh0.length + 1) 0 = some [] ∧ hh0.length + 1 < h.length ∧ getCells h (hh0.length + 2) 2 = some [.hsl nb0_0 v3.seen.counts.length 0 1 false v3.seen.counts.length, .hsl nb0_1 (v3.entries.length * 3) 0 3 true v3.entries.length] ∧ hh0.length + 2 < h.length ∧ getCells h nb1_0 v5.a.seen.counts.length = some (rows (v13.b.seen.counts : List Int)) ∧ nb1_0 < h.length ∧ getCells h nb1_1 (v5.a.entries.length * 3) = some (rows (v13.b.entries : List TEntry)) ∧ nb1_1 < h.length ∧ getCells h hh1.length 0 = some [] ∧ hh1.length < h.length ∧ getCells h (hh1.length + 1) 0 = some [] ∧ hh1.length + 1 < h.length ∧ getCells h (hh1.length + 2) 2 = some [.hsl nb1_0 v5.a.seen.counts.length 0 1 false v5.a.seen.counts.length, .hsl nb1_1 (v5.a.entries.length * 3) 0 3 true v5.a.entries.length] ∧ hh1.length + 2 < h.length ∧ getCells h nb4_0 v3.seen.counts.length = some (rows (v3.seen.counts : List Int)) ∧ nb4_0 < h.length ∧ getCells h nb4_1 (v3.entries.length * 3) = some (rows (v3.entries : List TEntry)) ∧ nb4_1 < h.length) (fun h v h2 => oo_impl_SetRemove v5 h v h2) ?_ ?_ ?_
                            · simp (disch := first | omega | (simp only [List.length_set, List.length_append, List.length_cons, List.length_nil, rows_len, zs]; first | done | omega)) only [ep_laws_szSet, ep_laws_toSet, ep_spec_SetRemove, ep_laws_eqSet, ep_laws_heldSet, hb0, hv1, hb2, hv3, hv4, d0_0, d0_1, d0_2, d0_3, d0_4, d0_5, hv5, d1_0, d1_1, d1_2, d1_3, d1_4, d1_5, d1_6, d1_7, d1_8, d1_9, d1_10, hv6, hb7, hb8, hv9, hb10, hv11, d2_0, d2_1, d2_2, d2_3, d2_4, d2_5, d2_6, d2_7, d2_8, d2_9, d2_10, d2_11, d2_12, d2_13, hb12, hv13, d3_0, d3_1, d3_2, d3_3, d3_4, d3_5, d3_6, d3_7, d3_8, d3_9, d3_10, d3_11, d3_12, d3_13, hv14, hb15, hb16, d4_0, d4_1, d4_2, d4_3, d4_4, d4_5, d4_6, d4_7, d4_8, d4_9, d4_10, d4_11, d4_12, d4_13, d4_14, d4_15, gs, app_hsl, app_nil, reduceIte, reduceCtorEq, Nat.reduceAdd, Nat.reduceMul, Nat.reduceSub, Nat.reduceBEq, Nat.reduceEqDiff, Nat.reduceLeDiff, Nat.reduceLT, Nat.reduceGT, Int.reduceToNat, Int.reduceLT, Int.reduceLE, Int.reduceNeg, Int.reduceAdd, Int.reduceEq, Int.reduceNe] <;> omega
                            · rintro h ⟨c5_0, c5_1, c5_2, c5_3, c5_4, c5_5, c5_6, c5_7, c5_8, c5_9, c5_10, c5_11, c5_12, c5_13, c5_14, c5_15, c5_16, c5_17, c5_18, c5_19, c5_20, c5_21, c5_22, c5_23, c5_24, c5_25, c5_26, c5_27, c5_28, c5_29, c5_30, c5_31⟩
                              exact e_impl_SetRemove _ _ _ hv5 h _ (by simp (disch := first | omega | (simp only [List.length_set, List.length_append, List.length_cons, List.length_nil, rows_len, zs]; first | done | omega)) only [ep_laws_szSet, ep_laws_toSet, ep_spec_SetRemove, ep_laws_eqSet, ep_laws_heldSet, hb0, hv1, hb2, hv3, hv4, d0_0, d0_1, d0_2, d0_3, d0_4, d0_5, hv5, d1_0, d1_1, d1_2, d1_3, d1_4, d1_5, d1_6, d1_7, d1_8, d1_9, d1_10, hv6, hb7, hb8, hv9, hb10, hv11, d2_0, d2_1, d2_2, d2_3, d2_4, d2_5, d2_6, d2_7, d2_8, d2_9, d2_10, d2_11, d2_12, d2_13, hb12, hv13, d3_0, d3_1, d3_2, d3_3, d3_4, d3_5, d3_6, d3_7, d3_8, d3_9, d3_10, d3_11, d3_12, d3_13, hv14, hb15, hb16, d4_0, d4_1, d4_2, d4_3, d4_4, d4_5, d4_6, d4_7, d4_8, d4_9, d4_10, d4_11, d4_12, d4_13, d4_14, d4_15, c5_0, c5_1, c5_2, c5_3, c5_4, c5_5, c5_6, c5_7, c5_8, c5_9, c5_10, c5_11, c5_12, c5_13, c5_14, c5_15, c5_16, c5_17, c5_18, c5_19, c5_20, c5_21, c5_22, c5_23, c5_24, c5_25, c5_26, c5_27, c5_28, c5_29, c5_30, c5_31, gs, app_hsl, app_nil, reduceIte, reduceCtorEq, Nat.reduceAdd, Nat.reduceMul, Nat.reduceSub, Nat.reduceBEq, Nat.reduceEqDiff, Nat.reduceLeDiff, Nat.reduceLT, Nat.reduceGT, Int.reduceToNat, Int.reduceLT, Int.reduceLE, Int.reduceNeg, Int.reduceAdd, Int.reduceEq, Int.reduceNe])
                            · rintro h v hh5 ⟨c5_0, c5_1, c5_2, c5_3, c5_4, c5_5, c5_6, c5_7, c5_8, c5_9, c5_10, c5_11, c5_12, c5_13, c5_14, c5_15, c5_16, c5_17, c5_18, c5_19, c5_20, c5_21, c5_22, c5_23, c5_24, c5_25, c5_26, c5_27, c5_28, c5_29, c5_30, c5_31⟩ hpost
                              obtain ⟨kk5, nb5_0, nb5_1, rfl, lnb5_0, gnb5_0, wnb5_0, lnb5_1, gnb5_1, wnb5_1, ne5_1_0⟩ := hpost
                              have d5_0 : getCells hh5 0 2 = some [.i (.sl 1 (x0.seen.counts.map enc)), .i (.sl 3 (x0.entries.map enc))] := (keep_get kk5 c5_1 (by first | (simp; done) | (simp; omega))).trans c5_0
                              have d5_0l := keep_lt kk5 c5_1
                              have d5_1 : getCells hh5 1 0 = some [] := (keep_get kk5 c5_3 (by first | (simp; done) | (simp; omega))).trans c5_2
                              have d5_1l := keep_lt kk5 c5_3
                              have d5_2 : getCells hh5 2 0 = some [] := (keep_get kk5 c5_5 (by first | (simp; done) | (simp; omega))).trans c5_4
                              have d5_2l := keep_lt kk5 c5_5
                              have d5_3 : getCells hh5 3 2 = some [.i (.sl 1 (v4.a.seen.counts.map enc)), .i (.sl 3 (v4.a.entries.map enc))] := (keep_get kk5 c5_7 (by first | (simp; done) | (simp; omega))).trans c5_6
                              have d5_3l := keep_lt kk5 c5_7
                              have d5_4 : getCells hh5 nb0_0 v3.seen.counts.length = some (rows (v11.b.seen.counts : List Int)) := (keep_get kk5 c5_9 (by first | (simp; done) | (simp; omega))).trans c5_8
                              have d5_4l := keep_lt kk5 c5_9
                              have d5_5 : getCells hh5 nb0_1 (v3.entries.length * 3) = some (rows (v11.b.entries : List TEntry)) := (keep_get kk5 c5_11 (by first | (simp; done) | (simp; omega))).trans c5_10
                              have d5_5l := keep_lt kk5 c5_11
                              have d5_6 : getCells hh5 hh0.length 0 = some [] := (keep_get kk5 c5_13 (by first | (simp; done) | (simp; omega))).trans c5_12
                              have d5_6l := keep_lt kk5 c5_13
                              have d5_7 : getCells hh5 (hh0.length + 1) 0 = some [] := (keep_get kk5 c5_15 (by first | (simp; done) | (simp; omega))).trans c5_14
                              have d5_7l := keep_lt kk5 c5_15
                              have d5_8 : getCells hh5 (hh0.length + 2) 2 = some [.hsl nb0_0 v3.seen.counts.length 0 1 false v3.seen.counts.length, .hsl nb0_1 (v3.entries.length * 3) 0 3 true v3.entries.length] := (keep_get kk5 c5_17 (by first | (simp; done) | (simp; omega))).trans c5_16
                              have d5_8l := keep_lt kk5 c5_17
                              have d5_9 : getCells hh5 nb1_0 v5.a.seen.counts.length = some (rows (v13.b.seen.counts : List Int)) := (keep_get kk5 c5_19 (by first | (simp; done) | (simp; omega))).trans c5_18
                              have d5_9l := keep_lt kk5 c5_19
                              have d5_10 : getCells hh5 nb1_1 (v5.a.entries.length * 3) = some (rows (v13.b.entries : List TEntry)) := (keep_get kk5 c5_21 (by first | (simp; done) | (simp; omega))).trans c5_20
                              have d5_10l := keep_lt kk5 c5_21
                              have d5_11 : getCells hh5 hh1.length 0 = some [] := (keep_get kk5 c5_23 (by first | (simp; done) | (simp; omega))).trans c5_22
                              have d5_11l := keep_lt kk5 c5_23
                              have d5_12 : getCells hh5 (hh1.length + 1) 0 = some [] := (keep_get kk5 c5_25 (by first | (simp; done) | (simp; omega))).trans c5_24
                              have d5_12l := keep_lt kk5 c5_25
                              have d5_13 : getCells hh5 (hh1.length + 2) 2 = some [.hsl nb1_0 v5.a.seen.counts.length 0 1 false v5.a.seen.counts.length, .hsl nb1_1 (v5.a.entries.length * 3) 0 3 true v5.a.entries.length] := (keep_get kk5 c5_27 (by first | (simp; done) | (simp; omega))).trans c5_26
                              have d5_13l := keep_lt kk5 c5_27
                              have d5_14 : getCells hh5 nb4_0 v3.seen.counts.length = some (rows (v3.seen.counts : List Int)) := (keep_get kk5 c5_29 (by first | (simp; done) | (simp; omega))).trans c5_28
                              have d5_14l := keep_lt kk5 c5_29
                              have d5_15 : getCells hh5 nb4_1 (v3.entries.length * 3) = some (rows (v3.entries : List TEntry)) := (keep_get kk5 c5_31 (by first | (simp; done) | (simp; omega))).trans c5_30
                              have d5_15l := keep_lt kk5 c5_31
                              have d5_16 := wnb5_0
                              have d5_17 := wnb5_1
                              cases hp
                              simp (disch := first | omega | (simp only [List.length_set, List.length_append, List.length_cons, List.length_nil, rows_len, zs]; first | done | omega)) only [ep_laws_szSet, ep_laws_toSet, ep_spec_SetRemove, ep_laws_eqSet, ep_laws_heldSet, hb0, hv1, hb2, hv3, hv4, d0_0, d0_1, d0_2, d0_3, d0_4, d0_5, hv5, d1_0, d1_1, d1_2, d1_3, d1_4, d1_5, d1_6, d1_7, d1_8, d1_9, d1_10, hv6, hb7, hb8, hv9, hb10, hv11, d2_0, d2_1, d2_2, d2_3, d2_4, d2_5, d2_6, d2_7, d2_8, d2_9, d2_10, d2_11, d2_12, d2_13, hb12, hv13, d3_0, d3_1, d3_2, d3_3, d3_4, d3_5, d3_6, d3_7, d3_8, d3_9, d3_10, d3_11, d3_12, d3_13, hv14, hb15, hb16, d4_0, d4_1, d4_2, d4_3, d4_4, d4_5, d4_6, d4_7, d4_8, d4_9, d4_10, d4_11, d4_12, d4_13, d4_14, d4_15, d5_0, d5_1, d5_2, d5_3, d5_4, d5_5, d5_6, d5_7, d5_8, d5_9, d5_10, d5_11, d5_12, d5_13, d5_14, d5_15, d5_16, d5_17, gs, app_hsl, app_nil, reduceIte, reduceCtorEq, Nat.reduceAdd, Nat.reduceMul, Nat.reduceSub, Nat.reduceBEq, Nat.reduceEqDiff, Nat.reduceLeDiff, Nat.reduceLT, Nat.reduceGT, Int.reduceToNat, Int.reduceLT, Int.reduceLE, Int.reduceNeg, Int.reduceAdd, Int.reduceEq, Int.reduceNe]
                        · replace hb16 := eq_false_of_ne_true hb16
                          rw [if_f hb16] at hp
                          cases hp
              · replace hb10 := eq_false_of_ne_true hb10
                rw [if_f hb10] at hp
                cases hp
            · replace hb8 := eq_false_of_ne_true hb8
              rw [if_f hb8] at hp
              cases hp
          · replace hb7 := eq_false_of_ne_true hb7
            rw [if_f hb7] at hp
            cases hp

end Go.AM
