/- Plain functions of DocObjects and their walks. No condition. -/
import Derived.Test.YtiabacjkejkbgaaLabGLogOKb
set_option linter.unusedVariables false
set_option linter.unusedSimpArgs false
set_option maxRecDepth 20000
namespace Go.AM
open Pic (enc dec dec_enc dec_sub)
open PicA (encA decA decA_encA decA_sub)
noncomputable def p_spec_l09Thing_l0 (x0 : List TOp) (x1 : Int) : Int → Option (Lp (Int) Int)
  | s0 =>
    if (decide (s0 < (x0.length : Int))) = true then
      (get? x0 s0).bind fun v2 =>
      if (decide (v2.obj = x1)) = true then
        (p_spec_l08Thing v2.kind).bind fun v4 =>
        some (.ret v4)
      else
        some (.go (w64 (s0 + 1)))
    else
      some (.out s0)
noncomputable def p_spec_l09Thing (x0 : List TOp) (x1 : Int) : Option Int :=
  (loopP (p_spec_l09Thing_l0 x0 x1) 0).bind fun ee0 => match ee0 with
  | .ret r => some r
  | .out o5 =>
    some 0
def c_spec_l09Thing (f_spec_l08Thing : Nat) : AFn := ⟨25, (.seq (.ops [⟨(.some 4), (.mv (.const (.int .i64 0))), .none, []⟩]) (.seq (.seq (.ops [⟨(.some 5), (.mv (.const (.int .i64 0))), .none, []⟩]) (.block 0 (.loop (.seq (.seq (.ops [⟨(.some 6), (.mv (.tmp 5)), .none, []⟩, ⟨(.some 7), (.mv (.tmp 0)), .none, []⟩, ⟨(.some 8), (.len (.tmp 7)), .none, []⟩, ⟨(.some 9), (.pu (.n (.ar .lss)) [(.tmp 6), (.tmp 8)]), .none, []⟩]) (.cond (.tmp 9) .skip (.exit 0))) (.seq (.block 1 (.seq (.ops [⟨(.some 12), (.mv (.tmp 0)), .none, []⟩, ⟨(.some 13), (.mv (.tmp 5)), .none, []⟩, ⟨(.some 14), (.idxS 12 (.tmp 12) (.tmp 13)), .none, []⟩, ⟨(.some 15), (.fieldA 5 (.tmp 14)), .none, []⟩, ⟨(.some 16), (.load 1 false (.tmp 15)), .none, []⟩, ⟨(.some 17), (.mv (.tmp 1)), .none, []⟩, ⟨(.some 18), (.pu (.n (.ar .eql)) [(.tmp 16), (.tmp 17)]), .none, []⟩]) (.cond (.tmp 18) (.seq (.ops [⟨(.some 19), (.mv (.tmp 0)), .none, []⟩, ⟨(.some 20), (.mv (.tmp 5)), .none, []⟩, ⟨(.some 21), (.idxS 12 (.tmp 19) (.tmp 20)), .none, []⟩, ⟨(.some 22), (.fieldA 4 (.tmp 21)), .none, []⟩, ⟨(.some 23), (.load 1 false (.tmp 22)), .none, []⟩, ⟨(.some 24), (.call (2 * f_spec_l08Thing) [(.tmp 23)]), .none, []⟩, ⟨(.some 4), (.mv (.tmp 24)), .none, []⟩]) .ret) .skip))) (.ops [⟨(.some 10), (.mv (.tmp 5)), .none, []⟩, ⟨(.some 11), (.pu (.n (.ar .add)) [(.tmp 10), (.const (.int .i64 1))]), .none, []⟩, ⟨(.some 5), (.mv (.tmp 11)), .none, []⟩])))))) (.seq (.ops [⟨(.some 4), (.mv (.const (.int .i64 0))), .none, []⟩]) .ret))), [(.tmp 4)]⟩
set_option maxHeartbeats 10000000 in
theorem d_spec_l09Thing {P : Program} {env : Env} {f_spec_l08Thing : Nat}  (ep_spec_l08Thing : env (2 * f_spec_l08Thing) = pureFn true (FA fun a : Int => p_spec_l08Thing a)) (x0 : List TOp) (x1 : Int) {b : Int} (hp : p_spec_l09Thing x0 x1 = some b) : R P env (c_spec_l09Thing f_spec_l08Thing) ((encA (x0, x1)).map ofI) [] (Tells true b) := by
  refine R_of (by simp [c_spec_l09Thing, encA]) ?_
  unfold c_spec_l09Thing
  unfold p_spec_l09Thing at hp
  obtain ⟨ee0, hee0, hp⟩ := bind_eq hp
  simp (maxSteps := 2000000) (disch := first | omega | (simp only [ls]; first | done | omega)) only [ep_spec_l08Thing, gx, Int.reduceToNat]
  refine W_loopP 0 (fun s t h => match s with | s0 => t 0 = .i (.sl 12 (x0.map enc)) ∧ t 1 = .i (.s (.int .i64 x1)) ∧ t 5 = .i (.s (.int .i64 s0))) (RK [.tmp 4] (Tells true)) ?_ hee0 ?_ ?_
  · rintro s0 ee tt0 hh0 ⟨ftt0_0, ftt0_1, ftt0_2⟩ hp
    rw [p_spec_l09Thing_l0] at hp
    by_cases hb1 : (decide (s0 < (x0.length : Int))) = true
    · rw [if_t hb1] at hp
      obtain ⟨v2, hv2, hp⟩ := bind_eq hp
      by_cases hb3 : (decide (v2.obj = x1)) = true
      · rw [if_t hb3] at hp
        obtain ⟨v4, hv4, hp⟩ := bind_eq hp
        have hp := Option.some.inj hp
        subst hp
        simp (maxSteps := 2000000) (disch := first | omega | (simp only [ls]; first | done | omega)) only [ep_spec_l08Thing, ftt0_0, ftt0_1, ftt0_2, hb1, hv2, hb3, hv4, gx, Int.reduceToNat]
      · replace hb3 := eq_false_of_ne_true hb3
        rw [if_f hb3] at hp
        have hp := Option.some.inj hp
        subst hp
        simp (maxSteps := 2000000) (disch := first | omega | (simp only [ls]; first | done | omega)) only [ep_spec_l08Thing, ftt0_0, ftt0_1, ftt0_2, hb1, hv2, hb3, gx, Int.reduceToNat] <;> omega
    · replace hb1 := eq_false_of_ne_true hb1
      rw [if_f hb1] at hp
      have hp := Option.some.inj hp
      subst hp
      simp (maxSteps := 2000000) (disch := first | omega | (simp only [ls]; first | done | omega)) only [ep_spec_l08Thing, ftt0_0, ftt0_1, ftt0_2, hb1, gx, Int.reduceToNat] <;> omega
  · simp (maxSteps := 2000000) (disch := first | omega | (simp only [ls]; first | done | omega)) only [ep_spec_l08Thing, gx, Int.reduceToNat] <;> omega
  · intro x tt1 hh1 hx
    rcases ee0 with o5 | r
    · obtain ⟨rfl, ftt1_0, ftt1_1, ftt1_2⟩ := hx
      dsimp only at hp
      have hp := Option.some.inj hp
      subst hp
      simp (maxSteps := 2000000) (disch := first | omega | (simp only [ls]; first | done | omega)) only [ep_spec_l08Thing, ftt1_0, ftt1_1, ftt1_2, gx, Int.reduceToNat]
    · obtain ⟨rfl, hx⟩ := hx
      dsimp only at hp
      cases hp
      simp only [seqK_ret, blockK_ret, retK_RK (K := Tells true), hx, and_self, true_and]

noncomputable def p_spec_DocObjects_l0 (x0 : List TOp) : List Int × Int → Option (Lp (List Int × Int) (T2 (List Int) Int))
  | (s2, s3) =>
    if (decide (s3 ≤ 100)) = true then
      (p_spec_l09Thing x0 s3).bind fun v5 =>
      if (decide (v5 = 0)) = true then
        some (.go (s2, w64 (s3 + 1)))
      else
        (app? 8 s2 ([s3])).bind fun v7 =>
        some (.go (v7, w64 (s3 + 1)))
    else
      some (.out (s2, s3))
noncomputable def p_spec_DocObjects (x0 : List TOp) : Option (T2 (List Int) Int) :=
  (p_spec_LogOK x0).bind fun v0 =>
  if (v0) = true then
    (loopP (p_spec_DocObjects_l0 x0) (([] : List Int), 1)).bind fun ee0 => match ee0 with
    | .ret r => some r
    | .out (o8, o9) =>
      some ⟨o8, 0⟩
  else
    some ⟨[], 1⟩
def c_spec_DocObjects (f_spec_LogOK : Nat) (f_spec_l09Thing : Nat) : AFn := ⟨24, (.seq (.ops [⟨(.some 2), (.vnil 1 false), .none, []⟩, ⟨(.some 3), (.mv (.const (.int .i64 0))), .none, []⟩]) (.seq (.seq (.ops [⟨(.some 6), (.mv (.tmp 0)), .none, []⟩, ⟨(.some 7), (.call (2 * f_spec_LogOK) [(.tmp 6)]), .none, []⟩, ⟨(.some 8), (.pu (.n (.un .not)) [(.tmp 7)]), .none, []⟩]) (.cond (.tmp 8) (.seq (.ops [⟨(.some 9), (.buildSl 1 false 0 [(.int .i64 0)] []), .none, []⟩, ⟨(.some 2), (.mv (.tmp 9)), .none, []⟩, ⟨(.some 3), (.mv (.const (.int .i64 1))), .none, []⟩]) .ret) .skip)) (.seq (.ops [⟨(.some 10), (.buildSl 1 false 0 [(.int .i64 0)] []), .none, []⟩, ⟨(.some 4), (.mv (.tmp 10)), .none, []⟩]) (.seq (.seq (.ops [⟨(.some 5), (.mv (.const (.int .i64 1))), .none, []⟩]) (.block 0 (.loop (.seq (.seq (.ops [⟨(.some 11), (.mv (.tmp 5)), .none, []⟩, ⟨(.some 12), (.pu (.n (.ar .leq)) [(.tmp 11), (.const (.int .i64 100))]), .none, []⟩]) (.cond (.tmp 12) .skip (.exit 0))) (.seq (.block 1 (.seq (.ops [⟨(.some 15), (.mv (.tmp 0)), .none, []⟩, ⟨(.some 16), (.mv (.tmp 5)), .none, []⟩, ⟨(.some 17), (.call (2 * f_spec_l09Thing) [(.tmp 15), (.tmp 16)]), .none, []⟩, ⟨(.some 18), (.pu (.n (.ar .neq)) [(.tmp 17), (.const (.int .i64 0))]), .none, []⟩]) (.cond (.tmp 18) (.ops [⟨(.some 19), (.mv (.tmp 4)), .none, []⟩, ⟨(.some 20), (.mv (.tmp 5)), .none, []⟩, ⟨(.some 21), (.buildSl 1 false 1 [(.int .i64 0)] [(0, (.tmp 20))]), .none, []⟩, ⟨(.some 22), (.append 1 false 8 (.tmp 19) (.tmp 21)), .none, []⟩, ⟨(.some 4), (.mv (.tmp 22)), .none, []⟩]) .skip))) (.ops [⟨(.some 13), (.mv (.tmp 5)), .none, []⟩, ⟨(.some 14), (.pu (.n (.ar .add)) [(.tmp 13), (.const (.int .i64 1))]), .none, []⟩, ⟨(.some 5), (.mv (.tmp 14)), .none, []⟩])))))) (.seq (.ops [⟨(.some 23), (.mv (.tmp 4)), .none, []⟩, ⟨(.some 2), (.mv (.tmp 23)), .none, []⟩, ⟨(.some 3), (.mv (.const (.int .i64 0))), .none, []⟩]) .ret))))), [(.tmp 2), (.tmp 3)]⟩
set_option maxHeartbeats 10000000 in
theorem d_spec_DocObjects {P : Program} {env : Env} {f_spec_LogOK : Nat} {f_spec_l09Thing : Nat}  (ep_spec_LogOK : env (2 * f_spec_LogOK) = pureFn true (FA fun a : List TOp => p_spec_LogOK a)) (ep_spec_l09Thing : env (2 * f_spec_l09Thing) = pureFn true (FA fun a : List TOp × Int => p_spec_l09Thing a.1 a.2)) (x0 : List TOp) {b : T2 (List Int) Int} (hp : p_spec_DocObjects x0 = some b) : R P env (c_spec_DocObjects f_spec_LogOK f_spec_l09Thing) ((encA (x0)).map ofI) [] (Tells true b) := by
  refine R_of (by simp [c_spec_DocObjects, encA]) ?_
  unfold c_spec_DocObjects
  unfold p_spec_DocObjects at hp
  obtain ⟨v0, hv0, hp⟩ := bind_eq hp
  by_cases hb1 : (v0) = true
  · rw [if_t hb1] at hp
    obtain ⟨ee0, hee0, hp⟩ := bind_eq hp
    simp (maxSteps := 2000000) (disch := first | omega | (simp only [ls]; first | done | omega)) only [ep_spec_LogOK, ep_spec_l09Thing, hv0, hb1, gx, Int.reduceToNat]
    refine W_loopP 0 (fun s t h => match s with | (s2, s3) => t 0 = .i (.sl 12 (x0.map enc)) ∧ t 4 = .hsl 1 s2.length 0 1 false s2.length ∧ t 5 = .i (.s (.int .i64 s3)) ∧ getCells h 1 s2.length = some (rows (s2 : List Int)) ∧ 1 < h.length) (RK [.tmp 2, .tmp 3] (Tells true)) ?_ hee0 ?_ ?_
    · rintro ⟨s2, s3⟩ ee tt0 hh0 ⟨ftt0_0, ftt0_1, ftt0_2, ftt0_3, ftt0_4⟩ hp
      rw [p_spec_DocObjects_l0] at hp
      by_cases hb4 : (decide (s3 ≤ 100)) = true
      · rw [if_t hb4] at hp
        obtain ⟨v5, hv5, hp⟩ := bind_eq hp
        by_cases hb6 : (decide (v5 = 0)) = true
        · rw [if_t hb6] at hp
          have hp := Option.some.inj hp
          subst hp
          simp (maxSteps := 2000000) (disch := first | omega | (simp only [ls]; first | done | omega)) only [ep_spec_LogOK, ep_spec_l09Thing, hv0, hb1, ftt0_0, ftt0_1, ftt0_2, ftt0_3, ftt0_4, hb4, hv5, hb6, gx, Int.reduceToNat] <;> omega
        · replace hb6 := eq_false_of_ne_true hb6
          rw [if_f hb6] at hp
          obtain ⟨v7, hv7, hp⟩ := bind_eq hp
          obtain ⟨kv7, qv7, lv7⟩ := app_some hv7
          have rv7 : rows s2 ++ [.i (.s (.int .i64 s3))] = rows v7 := by rw [qv7, rows_append]; rfl
          have mv7 : s2.length + 1 = v7.length := by simp at lv7; omega
          have nv7 : (s2.length + 1) * 8 ≤ 140737488355328 := by simp at kv7; omega
          have hp := Option.some.inj hp
          subst hp
          simp (maxSteps := 2000000) (disch := first | omega | (simp only [ls]; first | done | omega)) only [ep_spec_LogOK, ep_spec_l09Thing, hv0, hb1, ftt0_0, ftt0_1, ftt0_2, ftt0_3, ftt0_4, hb4, hv5, hb6, hv7, rv7, nv7, gx, Int.reduceToNat] <;> omega
      · replace hb4 := eq_false_of_ne_true hb4
        rw [if_f hb4] at hp
        have hp := Option.some.inj hp
        subst hp
        simp (maxSteps := 2000000) (disch := first | omega | (simp only [ls]; first | done | omega)) only [ep_spec_LogOK, ep_spec_l09Thing, hv0, hb1, ftt0_0, ftt0_1, ftt0_2, ftt0_3, ftt0_4, hb4, gx, Int.reduceToNat] <;> omega
    · simp (maxSteps := 2000000) (disch := first | omega | (simp only [ls]; first | done | omega)) only [ep_spec_LogOK, ep_spec_l09Thing, hv0, hb1, gx, Int.reduceToNat] <;> omega
    · intro x tt1 hh1 hx
      rcases ee0 with ⟨o8, o9⟩ | r
      · obtain ⟨rfl, ftt1_0, ftt1_1, ftt1_2, ftt1_3, ftt1_4⟩ := hx
        dsimp only at hp
        have hp := Option.some.inj hp
        subst hp
        simp (maxSteps := 2000000) (disch := first | omega | (simp only [ls]; first | done | omega)) only [ep_spec_LogOK, ep_spec_l09Thing, hv0, hb1, ftt1_0, ftt1_1, ftt1_2, ftt1_3, ftt1_4, gx, Int.reduceToNat]
      · obtain ⟨rfl, hx⟩ := hx
        dsimp only at hp
        cases hp
        simp only [seqK_ret, blockK_ret, retK_RK (K := Tells true), hx, and_self, true_and]
  · replace hb1 := eq_false_of_ne_true hb1
    rw [if_f hb1] at hp
    have hp := Option.some.inj hp
    subst hp
    simp (maxSteps := 2000000) (disch := first | omega | (simp only [ls]; first | done | omega)) only [ep_spec_LogOK, ep_spec_l09Thing, hv0, hb1, gx, Int.reduceToNat]

noncomputable def p_impl_DocObjects_l0 (v2 : TBook) : List Int × Int → Option (Lp (List Int × Int) (T2 (List Int) Int))
  | (s4, s5) =>
    if (decide (s5 < 101)) = true then
      (get? v2.kind s5).bind fun v7 =>
      if (decide (v7 = 0)) = true then
        some (.go (s4, w64 (s5 + 1)))
      else
        (app? 8 s4 ([s5])).bind fun v9 =>
        some (.go (v9, w64 (s5 + 1)))
    else
      some (.out (s4, s5))
noncomputable def p_impl_DocObjects (x0 : List TOp) : Option (T2 (List Int) Int) :=
  (p_impl_readBook x0).bind fun v0 =>
  if (v0.b) = true then
    (v0.a).bind fun v2 =>
    (loopP (p_impl_DocObjects_l0 v2) (([] : List Int), 0)).bind fun ee0 => match ee0 with
    | .ret r => some r
    | .out (o10, o11) =>
      some ⟨o10, 0⟩
  else
    some ⟨[], 1⟩
def c_impl_DocObjects (f_impl_readBook : Nat) : AFn := ⟨32, (.seq (.ops [⟨(.some 2), (.vnil 1 false), .none, []⟩, ⟨(.some 3), (.mv (.const (.int .i64 0))), .none, []⟩]) (.seq (.ops [⟨(.some 10), (.mv (.tmp 0)), .none, []⟩, ⟨(.some 11), (.call (2 * f_impl_readBook) [(.tmp 10)]), .none, []⟩, ⟨(.some 9), (.mv (.tmp 11)), .none, []⟩, ⟨(.some 12), (.extract 0 (.tmp 9)), .none, []⟩, ⟨(.some 13), (.extract 1 (.tmp 9)), .none, []⟩, ⟨(.some 4), (.mv (.tmp 12)), .none, []⟩, ⟨(.some 5), (.mv (.tmp 13)), .none, []⟩]) (.seq (.seq (.ops [⟨(.some 14), (.mv (.tmp 5)), .none, []⟩, ⟨(.some 15), (.pu (.n (.un .not)) [(.tmp 14)]), .none, []⟩]) (.cond (.tmp 15) (.seq (.ops [⟨(.some 2), (.vnil 1 false), .none, []⟩, ⟨(.some 3), (.mv (.const (.int .i64 1))), .none, []⟩]) .ret) .skip)) (.seq (.ops [⟨(.some 6), (.vnil 1 false), .none, []⟩]) (.seq (.seq (.ops [⟨(.some 16), (.mv (.tmp 4)), .none, []⟩, ⟨(.some 17), (.nilChk (.tmp 16)), .none, []⟩, ⟨(.some 18), (.fieldA 16 (.tmp 17)), .none, []⟩, ⟨(.some 19), (.load 101 true (.tmp 18)), .none, []⟩, ⟨(.some 20), (.mv (.const (.int .i64 0))), .none, []⟩]) (.block 0 (.loop (.seq (.ops [⟨(.some 21), (.pu (.n (.ar .lss)) [(.tmp 20), (.const (.int .i64 101))]), .none, []⟩]) (.seq (.cond (.tmp 21) .skip (.exit 0)) (.seq (.block 1 (.seq (.ops [⟨(.some 22), (.mv (.tmp 20)), .none, []⟩, ⟨(.some 23), (.idxV 101 1 false (.tmp 19) (.tmp 20)), .none, []⟩, ⟨(.some 7), (.mv (.tmp 22)), .none, []⟩, ⟨(.some 8), (.mv (.tmp 23)), .none, []⟩]) (.seq (.ops [⟨(.some 24), (.mv (.tmp 8)), .none, []⟩, ⟨(.some 25), (.pu (.n (.ar .neq)) [(.tmp 24), (.const (.int .i64 0))]), .none, []⟩]) (.cond (.tmp 25) (.ops [⟨(.some 26), (.mv (.tmp 6)), .none, []⟩, ⟨(.some 27), (.mv (.tmp 7)), .none, []⟩, ⟨(.some 28), (.buildSl 1 false 1 [(.int .i64 0)] [(0, (.tmp 27))]), .none, []⟩, ⟨(.some 29), (.append 1 false 8 (.tmp 26) (.tmp 28)), .none, []⟩, ⟨(.some 6), (.mv (.tmp 29)), .none, []⟩]) .skip)))) (.ops [⟨(.some 30), (.pu (.n (.ar .add)) [(.tmp 20), (.const (.int .i64 1))]), .none, []⟩, ⟨(.some 20), (.mv (.tmp 30)), .none, []⟩]))))))) (.seq (.ops [⟨(.some 31), (.mv (.tmp 6)), .none, []⟩, ⟨(.some 2), (.mv (.tmp 31)), .none, []⟩, ⟨(.some 3), (.mv (.const (.int .i64 0))), .none, []⟩]) .ret)))))), [(.tmp 2), (.tmp 3)]⟩
def o_impl_DocObjects (b : T2 (List Int) Int) (v : V) (h : Heap) : Prop := ∃ n0 : Nat, v = .tup [.hsl n0 b.a.length 0 1 false b.a.length, .i (.s (.int .i64 b.b))] ∧ getCells h n0 b.a.length = some (rows b.a)
def oo_impl_DocObjects (b : T2 (List Int) Int) (h : Heap) (v : V) (h2 : Heap) : Prop := Keep [] h h2 ∧ ∃ n0 : Nat, v = .tup [.hsl n0 b.a.length 0 1 false b.a.length, .i (.s (.int .i64 b.b))] ∧ n0 < h2.length ∧ h.length ≤ n0 ∧ getCells h2 n0 b.a.length = some (rows b.a)
def k_impl_DocObjects (F : Fun) : Prop := ∀ (x0 : List TOp) (b : T2 (List Int) Int), p_impl_DocObjects x0 = some b → ∀ (h : Heap) (args : List V), snapA 9 false h args = some (encA (x0)) → ∃ p, F none args h = some p ∧ oo_impl_DocObjects b h p.1 p.2
set_option maxHeartbeats 10000000 in
theorem w_impl_DocObjects {P : Program} {env : Env} {f_impl_readBook : Nat}  (ep_impl_readBook : env (2 * f_impl_readBook) = pureFn false (FA fun a : List TOp => p_impl_readBook a)) (x0 : List TOp) {b : T2 (List Int) Int} (hp : p_impl_DocObjects x0 = some b) : R P env (c_impl_DocObjects f_impl_readBook) ((encA (x0)).map ofI) [] (o_impl_DocObjects b) := by
  refine R_of (by simp [c_impl_DocObjects, encA]) ?_
  unfold c_impl_DocObjects
  unfold p_impl_DocObjects at hp
  obtain ⟨v0, hv0, hp⟩ := bind_eq hp
  by_cases hb1 : (v0.b) = true
  · rw [if_t hb1] at hp
    obtain ⟨v2, hv2, hp⟩ := bind_eq hp
    have hka3 := @ip_kinds v2
    have hka3l := @ip_kinds_len v2
    have hka3k := @KA_len v2
    obtain ⟨ee0, hee0, hp⟩ := bind_eq hp
    simp (maxSteps := 2000000) (disch := first | omega | (simp only [ls]; first | done | omega)) only [ep_impl_readBook, hv0, hb1, hv2, hka3, hka3l, hka3k, gx, Int.reduceToNat]
    refine W_loopP 0 (fun s t h => match s with | (s4, s5) => t 6 = .hsl 1 s4.length 0 1 false s4.length ∧ t 19 = .agg (KA v2) ∧ t 20 = .i (.s (.int .i64 s5)) ∧ getCells h 1 s4.length = some (rows (s4 : List Int)) ∧ 1 < h.length) (RK [.tmp 2, .tmp 3] (o_impl_DocObjects)) ?_ hee0 ?_ ?_
    · rintro ⟨s4, s5⟩ ee tt0 hh0 ⟨ftt0_0, ftt0_1, ftt0_2, ftt0_3, ftt0_4⟩ hp
      rw [p_impl_DocObjects_l0] at hp
      by_cases hb6 : (decide (s5 < 101)) = true
      · rw [if_t hb6] at hp
        obtain ⟨v7, hv7, hp⟩ := bind_eq hp
        have gv7 := get_some hv7
        have bv7 : s5 < 101 := by have := gv7.2.1; have := (v2).h2; omega
        have kv7 := KA_at hv7
        by_cases hb8 : (decide (v7 = 0)) = true
        · rw [if_t hb8] at hp
          have hp := Option.some.inj hp
          subst hp
          simp (maxSteps := 2000000) (disch := first | omega | (simp only [ls]; first | done | omega)) only [ep_impl_readBook, hv0, hb1, hv2, hka3, hka3l, hka3k, ftt0_0, ftt0_1, ftt0_2, ftt0_3, ftt0_4, hb6, hv7, (gv7).1, bv7, kv7, hb8, gx, Int.reduceToNat] <;> omega
        · replace hb8 := eq_false_of_ne_true hb8
          rw [if_f hb8] at hp
          obtain ⟨v9, hv9, hp⟩ := bind_eq hp
          obtain ⟨kv9, qv9, lv9⟩ := app_some hv9
          have rv9 : rows s4 ++ [.i (.s (.int .i64 s5))] = rows v9 := by rw [qv9, rows_append]; rfl
          have mv9 : s4.length + 1 = v9.length := by simp at lv9; omega
          have nv9 : (s4.length + 1) * 8 ≤ 140737488355328 := by simp at kv9; omega
          have hp := Option.some.inj hp
          subst hp
          simp (maxSteps := 2000000) (disch := first | omega | (simp only [ls]; first | done | omega)) only [ep_impl_readBook, hv0, hb1, hv2, hka3, hka3l, hka3k, ftt0_0, ftt0_1, ftt0_2, ftt0_3, ftt0_4, hb6, hv7, (gv7).1, bv7, kv7, hb8, hv9, rv9, nv9, gx, Int.reduceToNat] <;> omega
      · replace hb6 := eq_false_of_ne_true hb6
        rw [if_f hb6] at hp
        have hp := Option.some.inj hp
        subst hp
        simp (maxSteps := 2000000) (disch := first | omega | (simp only [ls]; first | done | omega)) only [ep_impl_readBook, hv0, hb1, hv2, hka3, hka3l, hka3k, ftt0_0, ftt0_1, ftt0_2, ftt0_3, ftt0_4, hb6, gx, Int.reduceToNat] <;> omega
    · simp (maxSteps := 2000000) (disch := first | omega | (simp only [ls]; first | done | omega)) only [ep_impl_readBook, hv0, hb1, hv2, hka3, hka3l, hka3k, gx, Int.reduceToNat] <;> omega
    · intro x tt1 hh1 hx
      rcases ee0 with ⟨o10, o11⟩ | r
      · obtain ⟨rfl, ftt1_0, ftt1_1, ftt1_2, ftt1_3, ftt1_4⟩ := hx
        dsimp only at hp
        have hp := Option.some.inj hp
        subst hp
        simp (maxSteps := 2000000) (disch := first | omega | (simp only [ls]; first | done | omega)) only [ep_impl_readBook, hv0, hb1, hv2, hka3, hka3l, hka3k, ftt1_0, ftt1_1, ftt1_2, ftt1_3, ftt1_4, gx, Int.reduceToNat]
        refine ⟨1, ?_⟩
        simp (maxSteps := 2000000) (disch := first | omega | (simp only [ls]; first | done | omega)) only [ep_impl_readBook, hv0, hb1, hv2, hka3, hka3l, hka3k, ftt1_0, ftt1_1, ftt1_2, ftt1_3, ftt1_4, o_impl_DocObjects, gx, Int.reduceToNat] <;> omega
      · obtain ⟨rfl, hx⟩ := hx
        dsimp only at hp
        cases hp
        simp only [seqK_ret, blockK_ret, retK_RK (K := o_impl_DocObjects), hx, and_self, true_and]
  · replace hb1 := eq_false_of_ne_true hb1
    rw [if_f hb1] at hp
    have hp := Option.some.inj hp
    subst hp
    simp (maxSteps := 2000000) (disch := first | omega | (simp only [ls]; first | done | omega)) only [ep_impl_readBook, hv0, hb1, gx, Int.reduceToNat]
    refine ⟨1, ?_⟩
    simp (maxSteps := 2000000) (disch := first | omega | (simp only [ls]; first | done | omega)) only [ep_impl_readBook, hv0, hb1, o_impl_DocObjects, gx, Int.reduceToNat] <;> omega
theorem ko_impl_DocObjects {P : Program} {env : Env} {f_impl_readBook : Nat}  (ep_impl_readBook : env (2 * f_impl_readBook) = pureFn false (FA fun a : List TOp => p_impl_readBook a)) : k_impl_DocObjects (ownFn P env (c_impl_DocObjects f_impl_readBook)) := by
  intro x0 b hp h args has
  obtain ⟨⟨v, H2⟩, hr, n0, rfl, wn0⟩ := w_impl_DocObjects ep_impl_readBook x0 hp
  exact ⟨_, own_call has hr rfl, keep_moved, n0 + h.length, rfl, (moved_lt wn0).2, (moved_lt wn0).1, moved_rows wn0⟩

noncomputable def p_laws_markIntS_l0 : List Int × Int × Int → Option (Lp (List Int × Int × Int) (T2 Int (List Int)))
  | (s0, s1, s2) =>
    if (decide (s2 < (s0.length : Int))) = true then
      (get? s0 s2).bind fun v5 =>
      some (.go ((s0.set s2.toNat s1), w64 (s1 + 1), w64 (s2 + 1)))
    else
      some (.out (s0, s1, s2))
noncomputable def p_laws_markIntS (x0 : List Int) (x1 : Int) : Option (T2 Int (List Int)) :=
  (loopP (p_laws_markIntS_l0) (x0, x1, 0)).bind fun ee0 => match ee0 with
  | .ret r => some r
  | .out (o7, o8, o9) =>
    some ⟨o8, o7⟩
def c_laws_markIntS : AFn := ⟨19, (.seq (.ops [⟨(.some 4), (.mv (.const (.int .i64 0))), .none, []⟩]) (.seq (.seq (.ops [⟨(.some 5), (.mv (.const (.int .i64 0))), .none, []⟩]) (.block 0 (.loop (.seq (.seq (.ops [⟨(.some 6), (.mv (.tmp 5)), .none, []⟩, ⟨(.some 7), (.mv (.tmp 0)), .none, []⟩, ⟨(.some 8), (.len (.tmp 7)), .none, []⟩, ⟨(.some 9), (.pu (.n (.ar .lss)) [(.tmp 6), (.tmp 8)]), .none, []⟩]) (.cond (.tmp 9) .skip (.exit 0))) (.seq (.block 1 (.seq (.ops [⟨(.some 12), (.mv (.tmp 0)), .none, []⟩, ⟨(.some 13), (.mv (.tmp 5)), .none, []⟩, ⟨(.some 14), (.mv (.tmp 1)), .none, []⟩, ⟨(.some 15), (.idxS 1 (.tmp 12) (.tmp 13)), .none, []⟩, ⟨.none, (.storeV [(0, false)] 1 (.tmp 15) (.tmp 14)), .none, []⟩]) (.ops [⟨(.some 16), (.mv (.tmp 1)), .none, []⟩, ⟨(.some 17), (.pu (.n (.ar .add)) [(.tmp 16), (.const (.int .i64 1))]), .none, []⟩, ⟨(.some 1), (.mv (.tmp 17)), .none, []⟩]))) (.ops [⟨(.some 10), (.mv (.tmp 5)), .none, []⟩, ⟨(.some 11), (.pu (.n (.ar .add)) [(.tmp 10), (.const (.int .i64 1))]), .none, []⟩, ⟨(.some 5), (.mv (.tmp 11)), .none, []⟩])))))) (.seq (.ops [⟨(.some 18), (.mv (.tmp 1)), .none, []⟩, ⟨(.some 4), (.mv (.tmp 18)), .none, []⟩]) .ret))), [(.tmp 4)]⟩
def i_laws_markIntS (pb0 pn0 : Nat) (h : Heap) (b : T2 Int (List Int)) (v : V) (h2 : Heap) : Prop := Keep [pb0] h h2 ∧ v = .i (.s (.int .i64 b.a)) ∧ getCells h2 pb0 pn0 = some (rows b.b)
def k_laws_markIntS (F : Fun) : Prop := ∀ (x0 : List Int) (x1 : Int) (b : T2 Int (List Int)), p_laws_markIntS x0 x1 = some b → ∀ (pb0 pn0 : Nat) (h : Heap), pn0 = (x0).length → getCells h pb0 pn0 = some (rows x0) → ∃ p, F none [.hsl pb0 pn0 0 1 false pn0, .i (.s (.int .i64 x1))] h = some p ∧ i_laws_markIntS pb0 pn0 h b p.1 p.2
set_option maxHeartbeats 10000000 in
theorem w_laws_markIntS {P : Program} {env : Env}  (x0 : List Int) (x1 : Int) {b : T2 Int (List Int)} (hp : p_laws_markIntS x0 x1 = some b) (pb0 pn0 : Nat) (hh : Heap) (pm0 : pn0 = (x0).length) (pf0 : getCells hh pb0 pn0 = some (rows x0)) : R P env (c_laws_markIntS) [.hsl pb0 pn0 0 1 false pn0, .i (.s (.int .i64 x1))] hh (i_laws_markIntS pb0 pn0 hh b) := by
  have pl0 := gc_lt pf0
  have pg0 : getCells hh pb0 x0.length = some (rows x0) := by rw [← pm0]; exact pf0
  refine R_of (by simp [c_laws_markIntS, encA]) ?_
  unfold c_laws_markIntS
  unfold p_laws_markIntS at hp
  obtain ⟨ee0, hee0, hp⟩ := bind_eq hp
  simp (maxSteps := 2000000) (disch := first | omega | (simp only [ls]; first | done | omega)) only [pf0, pg0, gx, Int.reduceToNat]
  refine W_loopP 0 (fun s t h => match s with | (s0, s1, s2) => t 0 = .hsl pb0 pn0 0 1 false pn0 ∧ t 1 = .i (.s (.int .i64 s1)) ∧ t 5 = .i (.s (.int .i64 s2)) ∧ getCells h pb0 pn0 = some (rows (s0 : List Int)) ∧ pb0 < h.length ∧ Keep [pb0] hh h) (RK [.tmp 4] (i_laws_markIntS pb0 pn0 hh)) ?_ hee0 ?_ ?_
  · rintro ⟨s0, s1, s2⟩ ee tt0 hh0 ⟨ftt0_0, ftt0_1, ftt0_2, ftt0_3, ftt0_4, ftt0_5⟩ hp
    have ztt0_3 := len_rows ftt0_3
    simp only [zs] at ztt0_3
    rw [p_laws_markIntS_l0] at hp
    have hz3 : ((pn0 : Nat) : Int) = (s0.length : Int) := by omega
    by_cases hb4 : (decide (s2 < (s0.length : Int))) = true
    · rw [if_t hb4] at hp
      obtain ⟨v5, hv5, hp⟩ := bind_eq hp
      have gv5 := get_some hv5
      have hs6 : List.take s2.toNat (rows s0) ++ .i (.s (.int .i64 s1)) :: List.drop (s2.toNat + 1) (rows s0) = rows (s0.set s2.toNat s1) := by simpa [splice, zs, cellsV, I.cells, enc_int] using rows_set_off (y := s1) (ys := [.i (.s (.int .i64 s1))]) (k := 0) gv5.2.2 (Nat.le_of_ble_eq_true rfl) (by rfl)
      have hp := Option.some.inj hp
      subst hp
      simp (maxSteps := 2000000) (disch := first | omega | (simp only [ls]; first | done | omega)) only [i_laws_markIntS, pf0, pg0, ftt0_0, ftt0_1, ftt0_2, ftt0_3, ftt0_4, ftt0_5, hz3, hb4, hv5, (gv5).1, (gv5).2.1, hs6, gx, Int.reduceToNat] <;> (repeat (first | omega | assumption | rfl | exact keep_refl | refine keep_app ?_ | (refine keep_set (by first | (left; simp; done) | (right; simp; omega)) ?_) | refine And.intro ?_ ?_))
    · replace hb4 := eq_false_of_ne_true hb4
      rw [if_f hb4] at hp
      have hp := Option.some.inj hp
      subst hp
      simp (maxSteps := 2000000) (disch := first | omega | (simp only [ls]; first | done | omega)) only [i_laws_markIntS, pf0, pg0, ftt0_0, ftt0_1, ftt0_2, ftt0_3, ftt0_4, ftt0_5, hz3, hb4, gx, Int.reduceToNat] <;> (repeat (first | omega | assumption | rfl | exact keep_refl | refine keep_app ?_ | (refine keep_set (by first | (left; simp; done) | (right; simp; omega)) ?_) | refine And.intro ?_ ?_))
  · simp (maxSteps := 2000000) (disch := first | omega | (simp only [ls]; first | done | omega)) only [i_laws_markIntS, pf0, pg0, gx, Int.reduceToNat] <;> (repeat (first | omega | assumption | rfl | exact keep_refl | refine keep_app ?_ | (refine keep_set (by first | (left; simp; done) | (right; simp; omega)) ?_) | refine And.intro ?_ ?_))
  · intro x tt1 hh1 hx
    rcases ee0 with ⟨o7, o8, o9⟩ | r
    · obtain ⟨rfl, ftt1_0, ftt1_1, ftt1_2, ftt1_3, ftt1_4, ftt1_5⟩ := hx
      have ztt1_3 := len_rows ftt1_3
      simp only [zs] at ztt1_3
      dsimp only at hp
      have hp := Option.some.inj hp
      subst hp
      simp (maxSteps := 2000000) (disch := first | omega | (simp only [ls]; first | done | omega)) only [i_laws_markIntS, pf0, pg0, ftt1_0, ftt1_1, ftt1_2, ftt1_3, ftt1_4, ftt1_5, gx, Int.reduceToNat] <;> (repeat (first | omega | assumption | rfl | exact keep_refl | refine keep_app ?_ | (refine keep_set (by first | (left; simp; done) | (right; simp; omega)) ?_) | refine And.intro ?_ ?_))
    · obtain ⟨rfl, hx⟩ := hx
      dsimp only at hp
      cases hp
      simp only [seqK_ret, blockK_ret, retK_RK (K := i_laws_markIntS pb0 pn0 hh), hx, and_self, true_and]
theorem ko_laws_markIntS {P : Program} {env : Env}  : k_laws_markIntS (runIn P env (c_laws_markIntS)) := by
  intro x0 x1 b hp pb0 pn0 h a0 a1
  exact w_laws_markIntS x0 x1 hp pb0 pn0 h a0 a1

noncomputable def p_laws_markText_l0 : Int × ByteArray → Option (Lp (Int × ByteArray) ByteArray)
  | (s1, s2) =>
    if (decide (0 < s1)) = true then
      (cat? (strOfNums [(IntKind.wrap .u8 (w64 (48 + (Int.tmod s1 10))))]) s2).bind fun v4 =>
      some (.go (w64 (Int.tdiv s1 10), v4))
    else
      some (.out (s1, s2))
noncomputable def p_laws_markText (x0 : Int) : Option ByteArray :=
  if (decide (x0 ≤ 0)) = true then
    some (ByteArray.mk #[109, 48])
  else
    (loopP (p_laws_markText_l0) (x0, (ByteArray.mk #[]))).bind fun ee0 => match ee0 with
    | .ret r => some r
    | .out (o5, o6) =>
      (cat? (ByteArray.mk #[109]) o6).bind fun v7 =>
      some v7
def c_laws_markText : AFn := ⟨20, (.seq (.ops [⟨(.some 2), (.mv (.const (.string ⟨#[]⟩))), .none, []⟩]) (.seq (.seq (.ops [⟨(.some 4), (.mv (.tmp 0)), .none, []⟩, ⟨(.some 5), (.pu (.n (.ar .leq)) [(.tmp 4), (.const (.int .i64 0))]), .none, []⟩]) (.cond (.tmp 5) (.seq (.ops [⟨(.some 2), (.mv (.const (.string ⟨#[109, 48]⟩))), .none, []⟩]) .ret) .skip)) (.seq (.ops [⟨(.some 3), (.mv (.const (.string ⟨#[]⟩))), .none, []⟩]) (.seq (.block 0 (.loop (.seq (.seq (.ops [⟨(.some 6), (.mv (.tmp 0)), .none, []⟩, ⟨(.some 7), (.pu (.n (.ar .gtr)) [(.tmp 6), (.const (.int .i64 0))]), .none, []⟩]) (.cond (.tmp 7) .skip (.exit 0))) (.block 1 (.seq (.ops [⟨(.some 8), (.mv (.tmp 0)), .none, []⟩, ⟨(.some 9), (.pu (.n (.ar .rem)) [(.tmp 8), (.const (.int .i64 10))]), .none, []⟩, ⟨(.some 10), (.pu (.n (.ar .add)) [(.const (.int .i64 48)), (.tmp 9)]), .none, []⟩, ⟨(.some 11), (.pu (.n (.conv .u8)) [(.tmp 10)]), .none, []⟩, ⟨(.some 12), (.buildSl 1 false 1 [(.int .u8 0)] [(0, (.tmp 11))]), .none, []⟩, ⟨(.some 13), (.b2s (.tmp 12)), .none, []⟩, ⟨(.some 14), (.mv (.tmp 3)), .none, []⟩, ⟨(.some 15), (.pu (.n (.ar .add)) [(.tmp 13), (.tmp 14)]), .none, []⟩, ⟨(.some 3), (.mv (.tmp 15)), .none, []⟩]) (.ops [⟨(.some 16), (.mv (.tmp 0)), .none, []⟩, ⟨(.some 17), (.pu (.n (.ar .quo)) [(.tmp 16), (.const (.int .i64 10))]), .none, []⟩, ⟨(.some 0), (.mv (.tmp 17)), .none, []⟩])))))) (.seq (.ops [⟨(.some 18), (.mv (.tmp 3)), .none, []⟩, ⟨(.some 19), (.pu (.n (.ar .add)) [(.const (.string ⟨#[109]⟩)), (.tmp 18)]), .none, []⟩, ⟨(.some 2), (.mv (.tmp 19)), .none, []⟩]) .ret))))), [(.tmp 2)]⟩
set_option maxHeartbeats 10000000 in
theorem d_laws_markText {P : Program} {env : Env}  (x0 : Int) {b : ByteArray} (hp : p_laws_markText x0 = some b) : R P env (c_laws_markText) ((encA (x0)).map ofI) [] (Tells true b) := by
  refine R_of (by simp [c_laws_markText, encA]) ?_
  unfold c_laws_markText
  unfold p_laws_markText at hp
  by_cases hb0 : (decide (x0 ≤ 0)) = true
  · rw [if_t hb0] at hp
    have hp := Option.some.inj hp
    subst hp
    simp (maxSteps := 2000000) (disch := first | omega | (simp only [ls]; first | done | omega)) only [hb0, gx, Int.reduceToNat]
  · replace hb0 := eq_false_of_ne_true hb0
    rw [if_f hb0] at hp
    obtain ⟨ee0, hee0, hp⟩ := bind_eq hp
    simp (maxSteps := 2000000) (disch := first | omega | (simp only [ls]; first | done | omega)) only [hb0, gx, Int.reduceToNat]
    refine W_loopP 0 (fun s t h => match s with | (s1, s2) => t 0 = .i (.s (.int .i64 s1)) ∧ t 3 = .i (.s (.string s2))) (RK [.tmp 2] (Tells true)) ?_ hee0 ?_ ?_
    · rintro ⟨s1, s2⟩ ee tt0 hh0 ⟨ftt0_0, ftt0_1⟩ hp
      rw [p_laws_markText_l0] at hp
      by_cases hb3 : (decide (0 < s1)) = true
      · rw [if_t hb3] at hp
        obtain ⟨v4, hv4, hp⟩ := bind_eq hp
        have hp := Option.some.inj hp
        subst hp
        simp (maxSteps := 2000000) (disch := first | omega | (simp only [ls]; first | done | omega)) only [hb0, ftt0_0, ftt0_1, hb3, hv4, gx, Int.reduceToNat] <;> omega
      · replace hb3 := eq_false_of_ne_true hb3
        rw [if_f hb3] at hp
        have hp := Option.some.inj hp
        subst hp
        simp (maxSteps := 2000000) (disch := first | omega | (simp only [ls]; first | done | omega)) only [hb0, ftt0_0, ftt0_1, hb3, gx, Int.reduceToNat] <;> omega
    · simp (maxSteps := 2000000) (disch := first | omega | (simp only [ls]; first | done | omega)) only [hb0, gx, Int.reduceToNat] <;> omega
    · intro x tt1 hh1 hx
      rcases ee0 with ⟨o5, o6⟩ | r
      · obtain ⟨rfl, ftt1_0, ftt1_1⟩ := hx
        dsimp only at hp
        obtain ⟨v7, hv7, hp⟩ := bind_eq hp
        have hp := Option.some.inj hp
        subst hp
        simp (maxSteps := 2000000) (disch := first | omega | (simp only [ls]; first | done | omega)) only [hb0, ftt1_0, ftt1_1, hv7, gx, Int.reduceToNat]
      · obtain ⟨rfl, hx⟩ := hx
        dsimp only at hp
        cases hp
        simp only [seqK_ret, blockK_ret, retK_RK (K := Tells true), hx, and_self, true_and]

section
open NestC (kid rowN)
noncomputable def p_laws_markOpS_r (x : TOp) (k : Int) : Option (T2 Int TOp) :=
  (p_laws_markIntS x.deps.counts (w64 (w64 (w64 (k + 1) + 1) + 1))).bind fun r =>
  (p_laws_markText (w64 (w64 (w64 (w64 (w64 (w64 (r.a + 1) + 1) + 1) + 1) + 1) + 1))).bind fun v1 =>
  (p_laws_markText (w64 (w64 (w64 (w64 (w64 (w64 (w64 (r.a + 1) + 1) + 1) + 1) + 1) + 1) + 1))).bind fun v2 =>
  some ⟨w64 (w64 (w64 (w64 (w64 (w64 (w64 (w64 (r.a + 1) + 1) + 1) + 1) + 1) + 1) + 1) + 1), ⟨k, w64 (k + 1), w64 (w64 (k + 1) + 1), ⟨r.b⟩, r.a, w64 (r.a + 1), w64 (w64 (r.a + 1) + 1), w64 (w64 (w64 (r.a + 1) + 1) + 1), ⟨w64 (w64 (w64 (w64 (r.a + 1) + 1) + 1) + 1), w64 (w64 (w64 (w64 (w64 (r.a + 1) + 1) + 1) + 1) + 1)⟩, v1, v2⟩⟩
noncomputable def p_laws_markOpS_l0 (x0 : List TOp) : List TOp × Int → Option (Lp (List TOp × Int) (T2 Int (List TOp)))
  | (s1, k) =>
    if s1.length < x0.length then
      (get? x0 (s1.length : Int)).bind fun v4 =>
      (p_laws_markOpS_r v4 k).bind fun v5 =>
      if (s1.length : Int) + 1 < 9223372036854775808 then some (.go (s1 ++ [v5.b], v5.a)) else none
    else
      some (.out (s1, k))
noncomputable def p_laws_markOpS (x0 : List TOp) (x1 : Int) : Option (T2 Int (List TOp)) :=
  (loopP (p_laws_markOpS_l0 x0) ([], x1)).bind fun ee0 => match ee0 with
    | .ret r => some r
    | .out (o8, k) => some ⟨k, o8⟩
def c_laws_markOpS (f_laws_markIntS : Nat) (f_laws_markText : Nat) : AFn := ⟨102, (.seq (.ops [⟨(.some 4), (.mv (.const (.int .i64 0))), .none, []⟩]) (.seq (.seq (.ops [⟨(.some 5), (.mv (.const (.int .i64 0))), .none, []⟩]) (.block 0 (.loop (.seq (.seq (.ops [⟨(.some 6), (.mv (.tmp 5)), .none, []⟩, ⟨(.some 7), (.mv (.tmp 0)), .none, []⟩, ⟨(.some 8), (.len (.tmp 7)), .none, []⟩, ⟨(.some 9), (.pu (.n (.ar .lss)) [(.tmp 6), (.tmp 8)]), .none, []⟩]) (.cond (.tmp 9) .skip (.exit 0))) (.seq (.block 1 (.seq (.ops [⟨(.some 12), (.mv (.tmp 0)), .none, []⟩, ⟨(.some 13), (.mv (.tmp 5)), .none, []⟩, ⟨(.some 14), (.mv (.tmp 1)), .none, []⟩, ⟨(.some 15), (.idxS 12 (.tmp 12) (.tmp 13)), .none, []⟩, ⟨(.some 16), (.fieldA 0 (.tmp 15)), .none, []⟩, ⟨.none, (.storeV [(0, false)] 1 (.tmp 16) (.tmp 14)), .none, []⟩]) (.seq (.ops [⟨(.some 17), (.mv (.tmp 1)), .none, []⟩, ⟨(.some 18), (.pu (.n (.ar .add)) [(.tmp 17), (.const (.int .i64 1))]), .none, []⟩, ⟨(.some 1), (.mv (.tmp 18)), .none, []⟩]) (.seq (.ops [⟨(.some 19), (.mv (.tmp 0)), .none, []⟩, ⟨(.some 20), (.mv (.tmp 5)), .none, []⟩, ⟨(.some 21), (.mv (.tmp 1)), .none, []⟩, ⟨(.some 22), (.idxS 12 (.tmp 19) (.tmp 20)), .none, []⟩, ⟨(.some 23), (.fieldA 1 (.tmp 22)), .none, []⟩, ⟨.none, (.storeV [(0, false)] 1 (.tmp 23) (.tmp 21)), .none, []⟩]) (.seq (.ops [⟨(.some 24), (.mv (.tmp 1)), .none, []⟩, ⟨(.some 25), (.pu (.n (.ar .add)) [(.tmp 24), (.const (.int .i64 1))]), .none, []⟩, ⟨(.some 1), (.mv (.tmp 25)), .none, []⟩]) (.seq (.ops [⟨(.some 26), (.mv (.tmp 0)), .none, []⟩, ⟨(.some 27), (.mv (.tmp 5)), .none, []⟩, ⟨(.some 28), (.mv (.tmp 1)), .none, []⟩, ⟨(.some 29), (.idxS 12 (.tmp 26) (.tmp 27)), .none, []⟩, ⟨(.some 30), (.fieldA 2 (.tmp 29)), .none, []⟩, ⟨.none, (.storeV [(0, false)] 1 (.tmp 30) (.tmp 28)), .none, []⟩]) (.seq (.ops [⟨(.some 31), (.mv (.tmp 1)), .none, []⟩, ⟨(.some 32), (.pu (.n (.ar .add)) [(.tmp 31), (.const (.int .i64 1))]), .none, []⟩, ⟨(.some 1), (.mv (.tmp 32)), .none, []⟩]) (.seq (.ops [⟨(.some 33), (.mv (.tmp 0)), .none, []⟩, ⟨(.some 34), (.mv (.tmp 5)), .none, []⟩, ⟨(.some 35), (.idxS 12 (.tmp 33) (.tmp 34)), .none, []⟩, ⟨(.some 36), (.fieldA 3 (.tmp 35)), .none, []⟩, ⟨(.some 37), (.fieldA 0 (.tmp 36)), .none, []⟩, ⟨(.some 38), (.load 1 false (.tmp 37)), .none, []⟩, ⟨(.some 39), (.mv (.tmp 1)), .none, []⟩, ⟨(.some 40), (.call (2 * f_laws_markIntS + 1) [(.tmp 38), (.tmp 39)]), .none, []⟩, ⟨(.some 1), (.mv (.tmp 40)), .none, []⟩]) (.seq (.ops [⟨(.some 41), (.mv (.tmp 0)), .none, []⟩, ⟨(.some 42), (.mv (.tmp 5)), .none, []⟩, ⟨(.some 43), (.mv (.tmp 1)), .none, []⟩, ⟨(.some 44), (.idxS 12 (.tmp 41) (.tmp 42)), .none, []⟩, ⟨(.some 45), (.fieldA 4 (.tmp 44)), .none, []⟩, ⟨.none, (.storeV [(0, false)] 1 (.tmp 45) (.tmp 43)), .none, []⟩]) (.seq (.ops [⟨(.some 46), (.mv (.tmp 1)), .none, []⟩, ⟨(.some 47), (.pu (.n (.ar .add)) [(.tmp 46), (.const (.int .i64 1))]), .none, []⟩, ⟨(.some 1), (.mv (.tmp 47)), .none, []⟩]) (.seq (.ops [⟨(.some 48), (.mv (.tmp 0)), .none, []⟩, ⟨(.some 49), (.mv (.tmp 5)), .none, []⟩, ⟨(.some 50), (.mv (.tmp 1)), .none, []⟩, ⟨(.some 51), (.idxS 12 (.tmp 48) (.tmp 49)), .none, []⟩, ⟨(.some 52), (.fieldA 5 (.tmp 51)), .none, []⟩, ⟨.none, (.storeV [(0, false)] 1 (.tmp 52) (.tmp 50)), .none, []⟩]) (.seq (.ops [⟨(.some 53), (.mv (.tmp 1)), .none, []⟩, ⟨(.some 54), (.pu (.n (.ar .add)) [(.tmp 53), (.const (.int .i64 1))]), .none, []⟩, ⟨(.some 1), (.mv (.tmp 54)), .none, []⟩]) (.seq (.ops [⟨(.some 55), (.mv (.tmp 0)), .none, []⟩, ⟨(.some 56), (.mv (.tmp 5)), .none, []⟩, ⟨(.some 57), (.mv (.tmp 1)), .none, []⟩, ⟨(.some 58), (.idxS 12 (.tmp 55) (.tmp 56)), .none, []⟩, ⟨(.some 59), (.fieldA 6 (.tmp 58)), .none, []⟩, ⟨.none, (.storeV [(0, false)] 1 (.tmp 59) (.tmp 57)), .none, []⟩]) (.seq (.ops [⟨(.some 60), (.mv (.tmp 1)), .none, []⟩, ⟨(.some 61), (.pu (.n (.ar .add)) [(.tmp 60), (.const (.int .i64 1))]), .none, []⟩, ⟨(.some 1), (.mv (.tmp 61)), .none, []⟩]) (.seq (.ops [⟨(.some 62), (.mv (.tmp 0)), .none, []⟩, ⟨(.some 63), (.mv (.tmp 5)), .none, []⟩, ⟨(.some 64), (.mv (.tmp 1)), .none, []⟩, ⟨(.some 65), (.idxS 12 (.tmp 62) (.tmp 63)), .none, []⟩, ⟨(.some 66), (.fieldA 7 (.tmp 65)), .none, []⟩, ⟨.none, (.storeV [(0, false)] 1 (.tmp 66) (.tmp 64)), .none, []⟩]) (.seq (.ops [⟨(.some 67), (.mv (.tmp 1)), .none, []⟩, ⟨(.some 68), (.pu (.n (.ar .add)) [(.tmp 67), (.const (.int .i64 1))]), .none, []⟩, ⟨(.some 1), (.mv (.tmp 68)), .none, []⟩]) (.seq (.ops [⟨(.some 69), (.mv (.tmp 0)), .none, []⟩, ⟨(.some 70), (.mv (.tmp 5)), .none, []⟩, ⟨(.some 71), (.mv (.tmp 1)), .none, []⟩, ⟨(.some 72), (.idxS 12 (.tmp 69) (.tmp 70)), .none, []⟩, ⟨(.some 73), (.fieldA 8 (.tmp 72)), .none, []⟩, ⟨(.some 74), (.fieldA 0 (.tmp 73)), .none, []⟩, ⟨.none, (.storeV [(0, false)] 1 (.tmp 74) (.tmp 71)), .none, []⟩]) (.seq (.ops [⟨(.some 75), (.mv (.tmp 1)), .none, []⟩, ⟨(.some 76), (.pu (.n (.ar .add)) [(.tmp 75), (.const (.int .i64 1))]), .none, []⟩, ⟨(.some 1), (.mv (.tmp 76)), .none, []⟩]) (.seq (.ops [⟨(.some 77), (.mv (.tmp 0)), .none, []⟩, ⟨(.some 78), (.mv (.tmp 5)), .none, []⟩, ⟨(.some 79), (.mv (.tmp 1)), .none, []⟩, ⟨(.some 80), (.idxS 12 (.tmp 77) (.tmp 78)), .none, []⟩, ⟨(.some 81), (.fieldA 8 (.tmp 80)), .none, []⟩, ⟨(.some 82), (.fieldA 1 (.tmp 81)), .none, []⟩, ⟨.none, (.storeV [(0, false)] 1 (.tmp 82) (.tmp 79)), .none, []⟩]) (.seq (.ops [⟨(.some 83), (.mv (.tmp 1)), .none, []⟩, ⟨(.some 84), (.pu (.n (.ar .add)) [(.tmp 83), (.const (.int .i64 1))]), .none, []⟩, ⟨(.some 1), (.mv (.tmp 84)), .none, []⟩]) (.seq (.ops [⟨(.some 85), (.mv (.tmp 0)), .none, []⟩, ⟨(.some 86), (.mv (.tmp 5)), .none, []⟩, ⟨(.some 87), (.mv (.tmp 1)), .none, []⟩, ⟨(.some 88), (.call (2 * f_laws_markText) [(.tmp 87)]), .none, []⟩, ⟨(.some 89), (.idxS 12 (.tmp 85) (.tmp 86)), .none, []⟩, ⟨(.some 90), (.fieldA 10 (.tmp 89)), .none, []⟩, ⟨.none, (.storeV [(0, false)] 1 (.tmp 90) (.tmp 88)), .none, []⟩]) (.seq (.ops [⟨(.some 91), (.mv (.tmp 1)), .none, []⟩, ⟨(.some 92), (.pu (.n (.ar .add)) [(.tmp 91), (.const (.int .i64 1))]), .none, []⟩, ⟨(.some 1), (.mv (.tmp 92)), .none, []⟩]) (.seq (.ops [⟨(.some 93), (.mv (.tmp 0)), .none, []⟩, ⟨(.some 94), (.mv (.tmp 5)), .none, []⟩, ⟨(.some 95), (.mv (.tmp 1)), .none, []⟩, ⟨(.some 96), (.call (2 * f_laws_markText) [(.tmp 95)]), .none, []⟩, ⟨(.some 97), (.idxS 12 (.tmp 93) (.tmp 94)), .none, []⟩, ⟨(.some 98), (.fieldA 11 (.tmp 97)), .none, []⟩, ⟨.none, (.storeV [(0, false)] 1 (.tmp 98) (.tmp 96)), .none, []⟩]) (.ops [⟨(.some 99), (.mv (.tmp 1)), .none, []⟩, ⟨(.some 100), (.pu (.n (.ar .add)) [(.tmp 99), (.const (.int .i64 1))]), .none, []⟩, ⟨(.some 1), (.mv (.tmp 100)), .none, []⟩])))))))))))))))))))))))) (.ops [⟨(.some 10), (.mv (.tmp 5)), .none, []⟩, ⟨(.some 11), (.pu (.n (.ar .add)) [(.tmp 10), (.const (.int .i64 1))]), .none, []⟩, ⟨(.some 5), (.mv (.tmp 11)), .none, []⟩])))))) (.seq (.ops [⟨(.some 101), (.mv (.tmp 1)), .none, []⟩, ⟨(.some 4), (.mv (.tmp 101)), .none, []⟩]) .ret))), [(.tmp 4)]⟩
def i_laws_markOpS (lo hi : Nat) (pv : V) (h : Heap) (b : T2 Int (List TOp)) (v : V) (h2 : Heap) : Prop := KeepI lo hi h h2 ∧ v = .i (.s (.int .i64 b.a)) ∧ NestV h2 lo hi pv b.b
def k_laws_markOpS (F : Fun) : Prop := ∀ (x0 : List TOp) (x1 : Int) (b : T2 Int (List TOp)), p_laws_markOpS x0 x1 = some b → ∀ (lo hi : Nat) (v : V) (h : Heap), NestV h lo hi v x0 → ∃ p, F none [v, .i (.s (.int .i64 x1))] h = some p ∧ i_laws_markOpS lo hi v h b p.1 p.2
def MkI (hh : Heap) (lo hi b : Nat) (gs : List Nat) (x0 : List TOp) (h : Heap) (s1 : List TOp) : Prop := KeepI lo hi hh h ∧ s1.length ≤ x0.length ∧ Nest h lo hi b gs (s1 ++ x0.drop s1.length)
set_option maxHeartbeats 10000000 in
theorem w_laws_markOpS {P : Program} {env : Env} {f_laws_markIntS f_laws_markText : Nat} (ep_laws_markText : env (2 * f_laws_markText) = pureFn true (FA fun a : Int => p_laws_markText a)) (e_laws_markIntS : k_laws_markIntS (env (2 * f_laws_markIntS + 1)))
    (x0 : List TOp) (x1 : Int) {b : T2 Int (List TOp)} (hp : p_laws_markOpS x0 x1 = some b) (lo hi : Nat) (pv : V) (hh : Heap) (pf0 : NestV hh lo hi pv x0) : R P env (c_laws_markOpS f_laws_markIntS f_laws_markText) [pv, .i (.s (.int .i64 x1))] hh (i_laws_markOpS lo hi pv hh b) := by
  refine R_of (by simp [c_laws_markOpS, encA]) ?_
  unfold c_laws_markOpS
  unfold p_laws_markOpS at hp
  obtain ⟨qb, qs, rfl, hN0⟩ := pf0
  obtain ⟨ee0, hee0, hp⟩ := bind_eq hp
  simp (maxSteps := 2000000) (disch := first | omega | (simp only [ls]; first | done | omega)) only [ep_laws_markText, gx, Int.reduceToNat]
  refine W_loopP 0 (fun (s1, k) t h => t 0 = .hsl qb (x0.length * 12) 0 12 true x0.length ∧ t 1 = .i (.s (.int .i64 k)) ∧ t 5 = .i (.s (.int .i64 (s1.length : Int))) ∧ MkI hh lo hi qb qs x0 h s1) (RK [.tmp 4] (i_laws_markOpS lo hi (.hsl qb (x0.length * Pic.z TOp) 0 (Pic.z TOp) true x0.length) hh)) ?_ hee0 ?_ ?_
  · rintro ⟨s1, k⟩ ee tt0 hh0 ⟨f0, f1, f2, f3⟩ hp
    rw [p_laws_markOpS_l0] at hp
    by_cases hb3 : s1.length < x0.length
    · rw [if_pos hb3] at hp
      obtain ⟨v4, hv4, hp⟩ := bind_eq hp
      obtain ⟨v5, hv5, hp⟩ := bind_eq hp
      split at hp
      case isFalse => cases hp
      rename_i hw0
      have hb4 : decide ((s1.length : Int) < (x0.length : Int)) = true := by simpa using hb3
      have hp := Option.some.inj hp
      subst hp
      unfold p_laws_markOpS_r at hv5
      obtain ⟨r, hr, hv5⟩ := bind_eq hv5
      obtain ⟨w1, hw1, hv5⟩ := bind_eq hv5
      obtain ⟨w2, hw2, hv5⟩ := bind_eq hv5
      have hv5 := Option.some.inj hv5
      subst hv5
      have g4 := get_some hv4
      rw [Int.toNat_natCast] at g4
      obtain ⟨hK, hle, hN⟩ := f3
      have hd : x0.drop s1.length = v4 :: x0.drop (s1.length + 1) := by
        rw [List.drop_eq_getElem_cons hb3]
        congr 1
        have := g4.2.2
        rw [List.getElem?_eq_getElem hb3] at this
        exact Option.some.inj this
      rw [hd] at hN
      obtain ⟨A, B, g, hA, hB, hrow, hkid, hg1, hg2, hgb, hb1, hb2, htop, hclose⟩ := nest_open hN
      have hn12 : (s1.length + ((x0.drop (s1.length + 1)).length + 1)) * Pic.z TOp = x0.length * 12 := by rw [z_TOp, List.length_drop]; congr 1; omega
      rw [hn12] at hrow hclose
      rw [z_TOp] at hA hB
      simp only [rowN, List.cons_append, List.nil_append, kid, iN, iS] at hrow hclose hkid
      have hlr := getCells_len hrow
      have hnn : (0:Int) ≤ (s1.length : Int) := by omega
      have hbl := gc_lt hrow
      have hAl : A.length + (B.length + 1 + 1 + 1 + 1 + 1 + 1 + 1 + 1 + 1 + 1 + 1 + 1) = x0.length * 12 := by rw [List.length_drop] at hB; omega
      simp (maxSteps := 2000000) (disch := first | omega | (simp only [ls]; first | done | omega)) only [ep_laws_markText, hv4, hb4, hb3, hAl, hbl, f0, f1, f2, hrow, hlr, hnn, Int.toNat_natCast, take_at hA, take_at0 hA, drop_at hA, drop_at0 hA, drop_at2 hA, take_at2 hA, drop_at3 hA, gx, Int.reduceToNat]
      refine call_f (fun h => getCells h qb (x0.length * 12) = some (A ++ V.i (I.s (Value.int IntKind.i64 k)) :: V.i (I.s (Value.int IntKind.i64 (w64 (k + 1)))) :: V.i (I.s (Value.int IntKind.i64 (w64 (w64 (k + 1) + 1)))) :: V.hsl g v4.deps.counts.length 0 1 false v4.deps.counts.length :: V.i (I.s (Value.int IntKind.i64 v4.kind)) :: V.i (I.s (Value.int IntKind.i64 v4.obj)) :: V.i (I.s (Value.int IntKind.i64 v4.n)) :: V.i (I.s (Value.int IntKind.i64 v4.undo)) :: V.i (I.s (Value.int IntKind.i64 v4.at_.time)) :: V.i (I.s (Value.int IntKind.i64 v4.at_.actor)) :: V.i (I.s (Value.string v4.key)) :: V.i (I.s (Value.string v4.text)) :: B) ∧ getCells h g v4.deps.counts.length = some (rows v4.deps.counts) ∧ Keep [qb, g] hh0 h) (fun h v h2 => i_laws_markIntS g v4.deps.counts.length h r v h2) ?_ ?_ ?_
      · exact ⟨by simp (maxSteps := 2000000) (disch := first | omega | (simp only [ls]; first | done | omega)) only [hrow, hlr, hAl, hbl, gx, Int.reduceToNat], by simp (maxSteps := 2000000) (disch := first | omega | (simp only [ls]; first | done | omega)) only [hkid, hgb, gx, Int.reduceToNat], keep_set (.inl (by simp)) (keep_set (.inl (by simp)) (keep_set (.inl (by simp)) keep_refl))⟩
      · rintro h ⟨c0, c1, c2⟩
        exact e_laws_markIntS _ _ _ hr g v4.deps.counts.length h rfl c1
      · rintro hc v hh1 ⟨c0, c1, c2⟩ hpost
        obtain ⟨kk, rfl, w⟩ := hpost
        have d0 := (keep_get kk (gc_lt c0) (by simp; omega)).trans c0
        have hbl1 := gc_lt d0
        have lr := len_rows w
        rw [show Pic.z Int = 1 from rfl, Nat.mul_one] at lr
        have hw : w64 ((s1.length : Int) + 1) = (s1.length : Int) + 1 := wrap_s (by omega) (by omega)
        have hlr1 := getCells_len d0
        simp (maxSteps := 2000000) (disch := first | omega | (simp only [ls]; first | done | omega)) only [ep_laws_markText, hw1, hw2, hv4, hb4, hb3, hAl, hbl1, f0, f1, f2, d0, hlr1, hnn, hw, Int.toNat_natCast, Int.natCast_add, take_at hA, take_at0 hA, drop_at hA, drop_at0 hA, drop_at2 hA, take_at2 hA, drop_at3 hA, gx, Int.reduceToNat]
        simp only [List.set_set]
        have hk2 := fun s => keep_set (s := s) (b := qb) (.inl (by simp)) (keep_trans c2 kk (by intro b hb; simp at hb; left; simp [hb]))
        refine ⟨⟨Nat.le_trans hK.len (hk2 _).len, fun c hc hn => ((hk2 _).at_ c (Nat.lt_of_lt_of_le hc hK.len) (by simp; omega)).trans (hK.at_ c hc hn)⟩, by simp; omega, ?_⟩
        rw [List.length_append, List.length_singleton, List.append_assoc, List.singleton_append]
        refine hclose _ _ (hk2 _).len (fun c h1 h2 h3 => (hk2 _).at_ c h1 (by simp [h2, h3])) ?_ ?_
        · rw [set_cells d0]
          · simp only [rowN, List.cons_append, List.nil_append, iN, iS, ← lr]
          · simp only [List.length_append, List.length_cons]
            omega
        · rw [getCells_congr (List.getElem?_set_ne (Ne.symm hgb))]
          simp only [kid, ← lr]
          exact w
    · rw [if_neg hb3] at hp
      have hb4 : decide ((s1.length : Int) < (x0.length : Int)) = false := by simpa using hb3
      have hp := Option.some.inj hp
      subst hp
      simp (maxSteps := 2000000) (disch := first | omega | (simp only [ls]; first | done | omega)) only [hb4, f0, f1, f2, f3, gx, Int.reduceToNat]
  · have : MkI hh lo hi qb qs x0 hh [] := ⟨keepI_refl, Nat.zero_le _, by simpa using hN0⟩
    simp (maxSteps := 2000000) (disch := first | omega | (simp only [ls]; first | done | omega)) only [this, gx, Int.reduceToNat]
  · intro x tt1 hh1 hx
    rcases ee0 with ⟨o8, k8⟩ | r
    · obtain ⟨rfl, f0, f1, f2, hK, hle, hN⟩ := hx
      dsimp only at hp
      have hp := Option.some.inj hp
      subst hp
      have hq : x0.length ≤ o8.length := loopP_outQ (Q := fun o : List TOp × Int => x0.length ≤ o.1.length) hee0 (fun s o h => by
        obtain ⟨s1, s2⟩ := s
        rw [p_laws_markOpS_l0] at h
        split at h
        · obtain ⟨_, _, h⟩ := bind_eq h
          obtain ⟨_, _, h⟩ := bind_eq h
          split at h <;> cases h
        · cases h
          dsimp only
          omega)
      have he : x0.length = o8.length := by omega
      rw [List.drop_eq_nil_of_le hq, List.append_nil] at hN
      have hd : i_laws_markOpS lo hi (.hsl qb (x0.length * 12) 0 12 true x0.length) hh ⟨k8, o8⟩ (.i (.s (.int .i64 k8))) hh1 := ⟨hK, rfl, qb, qs, by rw [he, z_TOp], hN⟩
      rw [z_TOp]
      simp (maxSteps := 2000000) (disch := first | omega | (simp only [ls]; first | done | omega)) only [f0, f1, f2, hd, gx, Int.reduceToNat]
    · obtain ⟨rfl, hx⟩ := hx
      dsimp only at hp
      cases hp
      simp only [seqK_ret, blockK_ret, retK_RK, hx, and_self, true_and]
theorem ko_laws_markOpS {P : Program} {env : Env} {f_laws_markIntS f_laws_markText : Nat} (ep_laws_markText : env (2 * f_laws_markText) = pureFn true (FA fun a : Int => p_laws_markText a)) (e_laws_markIntS : k_laws_markIntS (env (2 * f_laws_markIntS + 1))) : k_laws_markOpS (runIn P env (c_laws_markOpS f_laws_markIntS f_laws_markText)) := by
  intro x0 x1 b hp lo hi v h a0
  exact w_laws_markOpS ep_laws_markText e_laws_markIntS x0 x1 hp lo hi v h a0
end

noncomputable def p_laws_heldIntS_l0 (x0 : List Int) : Int × Int → Option (Lp (Int × Int) Int)
  | (s0, s1) =>
    if (decide (s1 < (x0.length : Int))) = true then
      (get? x0 s1).bind fun v3 =>
      if (decide (v3 = s0)) = true then
        some (.go (w64 (s0 + 1), w64 (s1 + 1)))
      else
        some (.ret (-1))
    else
      some (.out (s0, s1))
noncomputable def p_laws_heldIntS (x0 : List Int) (x1 : Int) : Option Int :=
  (loopP (p_laws_heldIntS_l0 x0) (x1, 0)).bind fun ee0 => match ee0 with
  | .ret r => some r
  | .out (o5, o6) =>
    some o5
def c_laws_heldIntS : AFn := ⟨21, (.seq (.ops [⟨(.some 4), (.mv (.const (.int .i64 0))), .none, []⟩]) (.seq (.seq (.ops [⟨(.some 5), (.mv (.const (.int .i64 0))), .none, []⟩]) (.block 0 (.loop (.seq (.seq (.ops [⟨(.some 6), (.mv (.tmp 5)), .none, []⟩, ⟨(.some 7), (.mv (.tmp 0)), .none, []⟩, ⟨(.some 8), (.len (.tmp 7)), .none, []⟩, ⟨(.some 9), (.pu (.n (.ar .lss)) [(.tmp 6), (.tmp 8)]), .none, []⟩]) (.cond (.tmp 9) .skip (.exit 0))) (.seq (.block 1 (.seq (.seq (.ops [⟨(.some 12), (.mv (.tmp 0)), .none, []⟩, ⟨(.some 13), (.mv (.tmp 5)), .none, []⟩, ⟨(.some 14), (.idxS 1 (.tmp 12) (.tmp 13)), .none, []⟩, ⟨(.some 15), (.load 1 false (.tmp 14)), .none, []⟩, ⟨(.some 16), (.mv (.tmp 1)), .none, []⟩, ⟨(.some 17), (.pu (.n (.ar .neq)) [(.tmp 15), (.tmp 16)]), .none, []⟩]) (.cond (.tmp 17) (.seq (.ops [⟨(.some 4), (.mv (.const (.int .i64 (-1)))), .none, []⟩]) .ret) .skip)) (.ops [⟨(.some 18), (.mv (.tmp 1)), .none, []⟩, ⟨(.some 19), (.pu (.n (.ar .add)) [(.tmp 18), (.const (.int .i64 1))]), .none, []⟩, ⟨(.some 1), (.mv (.tmp 19)), .none, []⟩]))) (.ops [⟨(.some 10), (.mv (.tmp 5)), .none, []⟩, ⟨(.some 11), (.pu (.n (.ar .add)) [(.tmp 10), (.const (.int .i64 1))]), .none, []⟩, ⟨(.some 5), (.mv (.tmp 11)), .none, []⟩])))))) (.seq (.ops [⟨(.some 20), (.mv (.tmp 1)), .none, []⟩, ⟨(.some 4), (.mv (.tmp 20)), .none, []⟩]) .ret))), [(.tmp 4)]⟩
set_option maxHeartbeats 10000000 in
theorem d_laws_heldIntS {P : Program} {env : Env}  (x0 : List Int) (x1 : Int) {b : Int} (hp : p_laws_heldIntS x0 x1 = some b) : R P env (c_laws_heldIntS) ((encA (x0, x1)).map ofI) [] (Tells true b) := by
  refine R_of (by simp [c_laws_heldIntS, encA]) ?_
  unfold c_laws_heldIntS
  unfold p_laws_heldIntS at hp
  obtain ⟨ee0, hee0, hp⟩ := bind_eq hp
  simp (maxSteps := 2000000) (disch := first | omega | (simp only [ls]; first | done | omega)) only [gx, Int.reduceToNat]
  refine W_loopP 0 (fun s t h => match s with | (s0, s1) => t 0 = .i (.sl 1 (x0.map enc)) ∧ t 1 = .i (.s (.int .i64 s0)) ∧ t 5 = .i (.s (.int .i64 s1))) (RK [.tmp 4] (Tells true)) ?_ hee0 ?_ ?_
  · rintro ⟨s0, s1⟩ ee tt0 hh0 ⟨ftt0_0, ftt0_1, ftt0_2⟩ hp
    rw [p_laws_heldIntS_l0] at hp
    by_cases hb2 : (decide (s1 < (x0.length : Int))) = true
    · rw [if_t hb2] at hp
      obtain ⟨v3, hv3, hp⟩ := bind_eq hp
      by_cases hb4 : (decide (v3 = s0)) = true
      · rw [if_t hb4] at hp
        have hp := Option.some.inj hp
        subst hp
        simp (maxSteps := 2000000) (disch := first | omega | (simp only [ls]; first | done | omega)) only [ftt0_0, ftt0_1, ftt0_2, hb2, hv3, hb4, gx, Int.reduceToNat] <;> omega
      · replace hb4 := eq_false_of_ne_true hb4
        rw [if_f hb4] at hp
        have hp := Option.some.inj hp
        subst hp
        simp (maxSteps := 2000000) (disch := first | omega | (simp only [ls]; first | done | omega)) only [ftt0_0, ftt0_1, ftt0_2, hb2, hv3, hb4, gx, Int.reduceToNat]
    · replace hb2 := eq_false_of_ne_true hb2
      rw [if_f hb2] at hp
      have hp := Option.some.inj hp
      subst hp
      simp (maxSteps := 2000000) (disch := first | omega | (simp only [ls]; first | done | omega)) only [ftt0_0, ftt0_1, ftt0_2, hb2, gx, Int.reduceToNat] <;> omega
  · simp (maxSteps := 2000000) (disch := first | omega | (simp only [ls]; first | done | omega)) only [gx, Int.reduceToNat] <;> omega
  · intro x tt1 hh1 hx
    rcases ee0 with ⟨o5, o6⟩ | r
    · obtain ⟨rfl, ftt1_0, ftt1_1, ftt1_2⟩ := hx
      dsimp only at hp
      have hp := Option.some.inj hp
      subst hp
      simp (maxSteps := 2000000) (disch := first | omega | (simp only [ls]; first | done | omega)) only [ftt1_0, ftt1_1, ftt1_2, gx, Int.reduceToNat]
    · obtain ⟨rfl, hx⟩ := hx
      dsimp only at hp
      cases hp
      simp only [seqK_ret, blockK_ret, retK_RK (K := Tells true), hx, and_self, true_and]

noncomputable def p_laws_FnExactDocObjects (x0 : List TOp) : Option Bool :=
  (p_laws_szOpS x0 1048576).bind fun v0 =>
  if (decide (v0 < 0)) = true then
    some true
  else
    (p_laws_toOpS x0).bind fun v2 =>
    (p_spec_DocObjects v2).bind fun v3 =>
    (p_impl_DocObjects v2).bind fun v4 =>
    (p_laws_eqIntS v4.a v3.a).bind fun v5 =>
    if (v5) = true then
      if (decide (v4.b = v3.b)) = true then
        (p_laws_eqOpS v2 v2).bind fun v8 =>
        if (v8) = true then
          (p_laws_markOpS v2 1).bind fun v10 =>
          if (decide (v10.a < 0)) = true then
            some false
          else
            (p_laws_markIntS v4.a 1).bind fun v12 =>
            (p_laws_heldIntS v12.b 1).bind fun v13 =>
            if (decide (v13 < 0)) = true then
              some false
            else
              if (decide (v13 = v12.a)) = true then
                some true
              else
                some false
        else
          some false
      else
        some false
    else
      some false
def c_laws_FnExactDocObjects (f_laws_szOpS : Nat) (f_laws_toOpS : Nat) (f_spec_DocObjects : Nat) (f_impl_DocObjects : Nat) (f_laws_eqIntS : Nat) (f_laws_eqOpS : Nat) (f_laws_markOpS : Nat) (f_laws_markIntS : Nat) (f_laws_heldIntS : Nat) : AFn := ⟨96, (.seq (.ops [⟨(.some 2), (.mv (.const (.bool false))), .none, []⟩]) (.seq (.ops [⟨(.some 3), (.mv (.const (.int .i64 1048576))), .none, []⟩]) (.seq (.ops [⟨(.some 14), (.mv (.tmp 0)), .none, []⟩, ⟨(.some 15), (.mv (.tmp 3)), .none, []⟩, ⟨(.some 16), (.call (2 * f_laws_szOpS) [(.tmp 14), (.tmp 15)]), .none, []⟩, ⟨(.some 3), (.mv (.tmp 16)), .none, []⟩]) (.seq (.seq (.ops [⟨(.some 17), (.mv (.tmp 3)), .none, []⟩, ⟨(.some 18), (.pu (.n (.ar .lss)) [(.tmp 17), (.const (.int .i64 0))]), .none, []⟩]) (.cond (.tmp 18) (.seq (.ops [⟨(.some 2), (.mv (.const (.bool true))), .none, []⟩]) .ret) .skip)) (.seq (.ops [⟨(.some 20), (.mv (.tmp 0)), .none, []⟩, ⟨(.some 21), (.call (2 * f_laws_toOpS) [(.tmp 20)]), .none, []⟩, ⟨(.some 22), (.call (2 * f_spec_DocObjects) [(.tmp 21)]), .none, []⟩, ⟨(.some 19), (.mv (.tmp 22)), .none, []⟩, ⟨(.some 23), (.extract 0 (.tmp 19)), .none, []⟩, ⟨(.some 24), (.extract 1 (.tmp 19)), .none, []⟩, ⟨(.some 4), (.mv (.tmp 23)), .none, []⟩, ⟨(.some 5), (.mv (.tmp 24)), .none, []⟩]) (.seq (.ops [⟨(.some 25), (.mv (.tmp 0)), .none, []⟩, ⟨(.some 26), (.call (2 * f_laws_toOpS + 1) [(.tmp 25)]), .none, []⟩, ⟨(.some 6), (.mv (.tmp 26)), .none, []⟩]) (.seq (.ops [⟨(.some 28), (.mv (.tmp 6)), .none, []⟩, ⟨(.some 29), (.call (2 * f_impl_DocObjects + 1) [(.tmp 28)]), .none, []⟩, ⟨(.some 27), (.mv (.tmp 29)), .none, []⟩, ⟨(.some 30), (.extract 0 (.tmp 27)), .none, []⟩, ⟨(.some 31), (.extract 1 (.tmp 27)), .none, []⟩, ⟨(.some 7), (.mv (.tmp 30)), .none, []⟩, ⟨(.some 8), (.mv (.tmp 31)), .none, []⟩]) (.seq (.seq (.ops [⟨(.some 32), (.mv (.tmp 7)), .none, []⟩, ⟨(.some 33), (.mv (.tmp 4)), .none, []⟩, ⟨(.some 34), (.call (2 * f_laws_eqIntS) [(.tmp 32), (.tmp 33)]), .none, []⟩, ⟨(.some 35), (.pu (.n (.un .not)) [(.tmp 34)]), .none, []⟩, ⟨(.some 36), (.mv (.tmp 35)), .none, []⟩, ⟨(.some 37), (.mv (.tmp 8)), (.some (36, false)), []⟩, ⟨(.some 38), (.mv (.tmp 5)), (.some (36, false)), []⟩, ⟨(.some 39), (.pu (.n (.ar .neq)) [(.tmp 37), (.tmp 38)]), (.some (36, false)), []⟩, ⟨(.some 40), (.pick (.tmp 36) (.const (.bool true)) (.tmp 39)), .none, []⟩]) (.cond (.tmp 40) (.seq (.ops [⟨(.some 2), (.mv (.const (.bool false))), .none, []⟩]) .ret) .skip)) (.seq (.seq (.ops [⟨(.some 41), (.mv (.tmp 6)), .none, []⟩, ⟨(.some 42), (.mv (.tmp 0)), .none, []⟩, ⟨(.some 43), (.call (2 * f_laws_toOpS + 1) [(.tmp 42)]), .none, []⟩, ⟨(.some 44), (.call (2 * f_laws_eqOpS) [(.tmp 41), (.tmp 43)]), .none, []⟩, ⟨(.some 45), (.pu (.n (.un .not)) [(.tmp 44)]), .none, []⟩]) (.cond (.tmp 45) (.seq (.ops [⟨(.some 2), (.mv (.const (.bool false))), .none, []⟩]) .ret) .skip)) (.seq (.ops [⟨(.some 9), (.mv (.const (.int .i64 1))), .none, []⟩]) (.seq (.ops [⟨(.some 46), (.mv (.tmp 6)), .none, []⟩, ⟨(.some 47), (.mv (.tmp 9)), .none, []⟩, ⟨(.some 48), (.call (2 * f_laws_markOpS + 1) [(.tmp 46), (.tmp 47)]), .none, []⟩, ⟨(.some 9), (.mv (.tmp 48)), .none, []⟩]) (.seq (.seq (.ops [⟨(.some 49), (.mv (.tmp 9)), .none, []⟩, ⟨(.some 50), (.pu (.n (.ar .lss)) [(.tmp 49), (.const (.int .i64 0))]), .none, []⟩, ⟨(.some 51), (.mv (.tmp 50)), .none, []⟩, ⟨(.some 52), (.mv (.tmp 7)), (.some (51, false)), []⟩, ⟨(.some 53), (.mv (.tmp 4)), (.some (51, false)), []⟩, ⟨(.some 54), (.call (2 * f_laws_eqIntS) [(.tmp 52), (.tmp 53)]), (.some (51, false)), []⟩, ⟨(.some 55), (.pu (.n (.un .not)) [(.tmp 54)]), (.some (51, false)), []⟩, ⟨(.some 56), (.pick (.tmp 51) (.const (.bool true)) (.tmp 55)), .none, []⟩, ⟨(.some 57), (.mv (.tmp 56)), .none, []⟩, ⟨(.some 58), (.mv (.tmp 8)), (.some (57, false)), []⟩, ⟨(.some 59), (.mv (.tmp 5)), (.some (57, false)), []⟩, ⟨(.some 60), (.pu (.n (.ar .neq)) [(.tmp 58), (.tmp 59)]), (.some (57, false)), []⟩, ⟨(.some 61), (.pick (.tmp 57) (.const (.bool true)) (.tmp 60)), .none, []⟩]) (.cond (.tmp 61) (.seq (.ops [⟨(.some 2), (.mv (.const (.bool false))), .none, []⟩]) .ret) .skip)) (.seq (.ops [⟨(.some 10), (.mv (.const (.int .i64 1))), .none, []⟩]) (.seq (.ops [⟨(.some 62), (.mv (.tmp 7)), .none, []⟩, ⟨(.some 63), (.mv (.tmp 10)), .none, []⟩, ⟨(.some 64), (.call (2 * f_laws_markIntS + 1) [(.tmp 62), (.tmp 63)]), .none, []⟩, ⟨(.some 10), (.mv (.tmp 64)), .none, []⟩]) (.seq (.ops [⟨(.some 11), (.mv (.const (.int .i64 1))), .none, []⟩]) (.seq (.ops [⟨(.some 65), (.mv (.tmp 7)), .none, []⟩, ⟨(.some 66), (.mv (.tmp 11)), .none, []⟩, ⟨(.some 67), (.call (2 * f_laws_heldIntS) [(.tmp 65), (.tmp 66)]), .none, []⟩, ⟨(.some 11), (.mv (.tmp 67)), .none, []⟩]) (.seq (.seq (.ops [⟨(.some 68), (.mv (.tmp 11)), .none, []⟩, ⟨(.some 69), (.pu (.n (.ar .lss)) [(.tmp 68), (.const (.int .i64 0))]), .none, []⟩]) (.cond (.tmp 69) (.seq (.ops [⟨(.some 2), (.mv (.const (.bool false))), .none, []⟩]) .ret) .skip)) (.seq (.seq (.ops [⟨(.some 70), (.mv (.tmp 11)), .none, []⟩, ⟨(.some 71), (.mv (.tmp 10)), .none, []⟩, ⟨(.some 72), (.pu (.n (.ar .neq)) [(.tmp 70), (.tmp 71)]), .none, []⟩]) (.cond (.tmp 72) (.seq (.ops [⟨(.some 2), (.mv (.const (.bool false))), .none, []⟩]) .ret) .skip)) (.seq (.ops [⟨(.some 74), (.mv (.tmp 0)), .none, []⟩, ⟨(.some 75), (.call (2 * f_laws_toOpS + 1) [(.tmp 74)]), .none, []⟩, ⟨(.some 76), (.call (2 * f_impl_DocObjects + 1) [(.tmp 75)]), .none, []⟩, ⟨(.some 73), (.mv (.tmp 76)), .none, []⟩, ⟨(.some 77), (.extract 0 (.tmp 73)), .none, []⟩, ⟨(.some 78), (.extract 1 (.tmp 73)), .none, []⟩, ⟨(.some 12), (.mv (.tmp 77)), .none, []⟩, ⟨(.some 13), (.mv (.tmp 78)), .none, []⟩]) (.seq (.seq (.ops [⟨(.some 79), (.mv (.tmp 12)), .none, []⟩, ⟨(.some 80), (.mv (.tmp 4)), .none, []⟩, ⟨(.some 81), (.call (2 * f_laws_eqIntS) [(.tmp 79), (.tmp 80)]), .none, []⟩, ⟨(.some 82), (.pu (.n (.un .not)) [(.tmp 81)]), .none, []⟩, ⟨(.some 83), (.mv (.tmp 82)), .none, []⟩, ⟨(.some 84), (.mv (.tmp 13)), (.some (83, false)), []⟩, ⟨(.some 85), (.mv (.tmp 5)), (.some (83, false)), []⟩, ⟨(.some 86), (.pu (.n (.ar .neq)) [(.tmp 84), (.tmp 85)]), (.some (83, false)), []⟩, ⟨(.some 87), (.pick (.tmp 83) (.const (.bool true)) (.tmp 86)), .none, []⟩]) (.cond (.tmp 87) (.seq (.ops [⟨(.some 2), (.mv (.const (.bool false))), .none, []⟩]) .ret) .skip)) (.seq (.ops [⟨(.some 11), (.mv (.const (.int .i64 1))), .none, []⟩]) (.seq (.ops [⟨(.some 88), (.mv (.tmp 7)), .none, []⟩, ⟨(.some 89), (.mv (.tmp 11)), .none, []⟩, ⟨(.some 90), (.call (2 * f_laws_heldIntS) [(.tmp 88), (.tmp 89)]), .none, []⟩, ⟨(.some 11), (.mv (.tmp 90)), .none, []⟩]) (.seq (.seq (.ops [⟨(.some 91), (.mv (.tmp 11)), .none, []⟩, ⟨(.some 92), (.pu (.n (.ar .lss)) [(.tmp 91), (.const (.int .i64 0))]), .none, []⟩]) (.cond (.tmp 92) (.seq (.ops [⟨(.some 2), (.mv (.const (.bool false))), .none, []⟩]) .ret) .skip)) (.seq (.seq (.ops [⟨(.some 93), (.mv (.tmp 11)), .none, []⟩, ⟨(.some 94), (.mv (.tmp 10)), .none, []⟩, ⟨(.some 95), (.pu (.n (.ar .neq)) [(.tmp 93), (.tmp 94)]), .none, []⟩]) (.cond (.tmp 95) (.seq (.ops [⟨(.some 2), (.mv (.const (.bool false))), .none, []⟩]) .ret) .skip)) (.seq (.ops [⟨(.some 2), (.mv (.const (.bool true))), .none, []⟩]) .ret))))))))))))))))))))))))), [(.tmp 2)]⟩
set_option maxHeartbeats 10000000 in
theorem d_laws_FnExactDocObjects {P : Program} {env : Env} {f_laws_szOpS : Nat} {f_laws_toOpS : Nat} {f_spec_DocObjects : Nat} {f_impl_DocObjects : Nat} {f_laws_eqIntS : Nat} {f_laws_eqOpS : Nat} {f_laws_markOpS : Nat} {f_laws_markIntS : Nat} {f_laws_heldIntS : Nat}  (ep_laws_szOpS : env (2 * f_laws_szOpS) = pureFn true (FA fun a : List TOp × Int => p_laws_szOpS a.1 a.2)) (ep_laws_toOpS : env (2 * f_laws_toOpS) = pureFn false (FA fun a : List TOp => p_laws_toOpS a)) (ep_spec_DocObjects : env (2 * f_spec_DocObjects) = pureFn true (FA fun a : List TOp => p_spec_DocObjects a)) (ep_laws_eqIntS : env (2 * f_laws_eqIntS) = pureFn true (FA fun a : List Int × List Int => p_laws_eqIntS a.1 a.2)) (ep_laws_eqOpS : env (2 * f_laws_eqOpS) = pureFn true (FA fun a : List TOp × List TOp => p_laws_eqOpS a.1 a.2)) (ep_laws_heldIntS : env (2 * f_laws_heldIntS) = pureFn true (FA fun a : List Int × Int => p_laws_heldIntS a.1 a.2)) (e_laws_toOpS : k_laws_toOpS (env (2 * f_laws_toOpS + 1))) (e_impl_DocObjects : k_impl_DocObjects (env (2 * f_impl_DocObjects + 1))) (e_laws_markOpS : k_laws_markOpS (env (2 * f_laws_markOpS + 1))) (e_laws_markIntS : k_laws_markIntS (env (2 * f_laws_markIntS + 1))) (x0 : List TOp) (hp : p_laws_FnExactDocObjects x0 = some true) : R P env (c_laws_FnExactDocObjects f_laws_szOpS f_laws_toOpS f_spec_DocObjects f_impl_DocObjects f_laws_eqIntS f_laws_eqOpS f_laws_markOpS f_laws_markIntS f_laws_heldIntS) ((encA (x0)).map ofI) [] (fun v _ => v = .i (iB true)) := by
  refine R_of (by simp [c_laws_FnExactDocObjects, encA]) ?_
  unfold c_laws_FnExactDocObjects
  unfold p_laws_FnExactDocObjects at hp
  obtain ⟨v0, hv0, hp⟩ := bind_eq hp
  by_cases hb1 : (decide (v0 < 0)) = true
  · rw [if_t hb1] at hp
    cases hp
    simp (maxSteps := 2000000) (disch := first | omega | (simp only [ls]; first | done | omega)) only [ep_laws_szOpS, ep_laws_toOpS, ep_spec_DocObjects, ep_laws_eqIntS, ep_laws_eqOpS, ep_laws_heldIntS, hv0, hb1, gx, Int.reduceToNat]
  · replace hb1 := eq_false_of_ne_true hb1
    rw [if_f hb1] at hp
    obtain ⟨v2, hv2, hp⟩ := bind_eq hp
    obtain ⟨v3, hv3, hp⟩ := bind_eq hp
    simp (maxSteps := 2000000) (disch := first | omega | (simp only [ls]; first | done | omega)) only [ep_laws_szOpS, ep_laws_toOpS, ep_spec_DocObjects, ep_laws_eqIntS, ep_laws_eqOpS, ep_laws_heldIntS, hv0, hb1, hv2, hv3, gx, Int.reduceToNat]
    refine call_f (fun h => True) (fun h v h2 => oo_laws_toOpS v2 h v h2) ?_ ?_ ?_
    · simp (maxSteps := 2000000) (disch := first | omega | (simp only [ls]; first | done | omega)) only [ep_laws_szOpS, ep_laws_toOpS, ep_spec_DocObjects, ep_laws_eqIntS, ep_laws_eqOpS, ep_laws_heldIntS, hv0, hb1, hv2, hv3, gx, Int.reduceToNat] <;> (repeat (first | refine And.intro ?_ ?_ | assumption | exact nest_ext (by assumption) | exact nest_wide (by assumption) (Nat.zero_le _) (by first | omega | (simp; omega)) (Nat.le_refl _) | exact nest_wide (nest_ext (by assumption)) (Nat.zero_le _) (by first | omega | (simp; omega)) (Nat.le_refl _) | exact nest_virt (by simp (maxSteps := 2000000) (disch := first | omega | (simp only [ls]; first | done | omega)) only [ep_laws_szOpS, ep_laws_toOpS, ep_spec_DocObjects, ep_laws_eqIntS, ep_laws_eqOpS, ep_laws_heldIntS, hv0, hb1, hv2, hv3, gx, Int.reduceToNat]) (by omega) (by first | omega | (simp; done) | (simp; omega)) (by first | omega | (simp; done) | (simp; omega)) | refine nest_ext ?_ | refine nest_set ?_ (by omega) | omega))
    · rintro h _
      exact e_laws_toOpS _ _ hv2 h _ (by simp (maxSteps := 2000000) (disch := first | omega | (simp only [ls]; first | done | omega)) only [ep_laws_szOpS, ep_laws_toOpS, ep_spec_DocObjects, ep_laws_eqIntS, ep_laws_eqOpS, ep_laws_heldIntS, hv0, hb1, hv2, hv3, gx, Int.reduceToNat])
    · rintro hc0 nb0_0 hh0 _ hpost
      obtain ⟨kk0, _, rfl, wnb0_0⟩ := hpost
      have d0_0 := wnb0_0
      have d0_0l := nest_lt d0_0
      have d0_0s : snap 9 false hh0 nb0_0 = some (.sl 12 (v2.map enc)) := snap_nest (n := 5) d0_0
      have d0_0n : lenS nb0_0 = some v2.length := nest_lenS d0_0
      obtain ⟨v4, hv4, hp⟩ := bind_eq hp
      simp (maxSteps := 2000000) (disch := first | omega | (simp only [ls]; first | done | omega)) only [ep_laws_szOpS, ep_laws_toOpS, ep_spec_DocObjects, ep_laws_eqIntS, ep_laws_eqOpS, ep_laws_heldIntS, hv0, hb1, hv2, hv3, d0_0, d0_0s, d0_0n, gx, Int.reduceToNat]
      refine call_f (fun h => NestV h hc0.length hh0.length nb0_0 (v2 : List TOp) ∧ hh0.length ≤ h.length) (fun h v h2 => oo_impl_DocObjects v4 h v h2) ?_ ?_ ?_
      · simp (maxSteps := 2000000) (disch := first | omega | (simp only [ls]; first | done | omega)) only [ep_laws_szOpS, ep_laws_toOpS, ep_spec_DocObjects, ep_laws_eqIntS, ep_laws_eqOpS, ep_laws_heldIntS, hv0, hb1, hv2, hv3, d0_0, d0_0s, d0_0n, hv4, gx, Int.reduceToNat] <;> (repeat (first | refine And.intro ?_ ?_ | assumption | exact nest_ext (by assumption) | exact nest_wide (by assumption) (Nat.zero_le _) (by first | omega | (simp; omega)) (Nat.le_refl _) | exact nest_wide (nest_ext (by assumption)) (Nat.zero_le _) (by first | omega | (simp; omega)) (Nat.le_refl _) | exact nest_virt (by simp (maxSteps := 2000000) (disch := first | omega | (simp only [ls]; first | done | omega)) only [ep_laws_szOpS, ep_laws_toOpS, ep_spec_DocObjects, ep_laws_eqIntS, ep_laws_eqOpS, ep_laws_heldIntS, hv0, hb1, hv2, hv3, d0_0, d0_0s, d0_0n, hv4, gx, Int.reduceToNat]) (by omega) (by first | omega | (simp; done) | (simp; omega)) (by first | omega | (simp; done) | (simp; omega)) | refine nest_ext ?_ | refine nest_set ?_ (by omega) | omega))
      · rintro h ⟨c1_0, c1_1⟩
        have sc1_0 : snap 9 false h nb0_0 = some (.sl 12 (v2.map enc)) := snap_nest (n := 5) c1_0
        exact e_impl_DocObjects _ _ hv4 h _ (by simp (maxSteps := 2000000) (disch := first | omega | (simp only [ls]; first | done | omega)) only [ep_laws_szOpS, ep_laws_toOpS, ep_spec_DocObjects, ep_laws_eqIntS, ep_laws_eqOpS, ep_laws_heldIntS, hv0, hb1, hv2, hv3, d0_0, d0_0s, d0_0n, hv4, c1_0, c1_1, sc1_0, gx, Int.reduceToNat])
      · rintro hc1 v hh1 ⟨c1_0, c1_1⟩ hpost
        obtain ⟨kk1, nb1_0, rfl, lnb1_0, gnb1_0, wnb1_0⟩ := hpost
        have d1_0 : NestV hh1 hc0.length hh0.length nb0_0 (v2 : List TOp) := nest_keep c1_0 kk1 (by intro b hb; first | (simp at hb; done) | (simp at hb; omega))
        have d1_0l := nest_lt d1_0
        have d1_0s : snap 9 false hh1 nb0_0 = some (.sl 12 (v2.map enc)) := snap_nest (n := 5) d1_0
        have d1_0n : lenS nb0_0 = some v2.length := nest_lenS d1_0
        have d1_1 := wnb1_0
        obtain ⟨v5, hv5, hp⟩ := bind_eq hp
        by_cases hb6 : (v5) = true
        · rw [if_t hb6] at hp
          by_cases hb7 : (decide (v4.b = v3.b)) = true
          · rw [if_t hb7] at hp
            simp (maxSteps := 2000000) (disch := first | omega | (simp only [ls]; first | done | omega)) only [ep_laws_szOpS, ep_laws_toOpS, ep_spec_DocObjects, ep_laws_eqIntS, ep_laws_eqOpS, ep_laws_heldIntS, hv0, hb1, hv2, hv3, d0_0, d0_0s, d0_0n, hv4, d1_0, d1_0s, d1_0n, d1_1, hv5, hb6, hb7, gx, Int.reduceToNat]
            refine call_f (fun h => NestV h hc0.length hh0.length nb0_0 (v2 : List TOp) ∧ hh0.length ≤ h.length ∧ getCells h nb1_0 v4.a.length = some (rows (v4.a : List Int)) ∧ nb1_0 < h.length) (fun h v h2 => oo_laws_toOpS v2 h v h2) ?_ ?_ ?_
            · simp (maxSteps := 2000000) (disch := first | omega | (simp only [ls]; first | done | omega)) only [ep_laws_szOpS, ep_laws_toOpS, ep_spec_DocObjects, ep_laws_eqIntS, ep_laws_eqOpS, ep_laws_heldIntS, hv0, hb1, hv2, hv3, d0_0, d0_0s, d0_0n, hv4, d1_0, d1_0s, d1_0n, d1_1, hv5, hb6, hb7, gx, Int.reduceToNat] <;> (repeat (first | refine And.intro ?_ ?_ | assumption | exact nest_ext (by assumption) | exact nest_wide (by assumption) (Nat.zero_le _) (by first | omega | (simp; omega)) (Nat.le_refl _) | exact nest_wide (nest_ext (by assumption)) (Nat.zero_le _) (by first | omega | (simp; omega)) (Nat.le_refl _) | exact nest_virt (by simp (maxSteps := 2000000) (disch := first | omega | (simp only [ls]; first | done | omega)) only [ep_laws_szOpS, ep_laws_toOpS, ep_spec_DocObjects, ep_laws_eqIntS, ep_laws_eqOpS, ep_laws_heldIntS, hv0, hb1, hv2, hv3, d0_0, d0_0s, d0_0n, hv4, d1_0, d1_0s, d1_0n, d1_1, hv5, hb6, hb7, gx, Int.reduceToNat]) (by omega) (by first | omega | (simp; done) | (simp; omega)) (by first | omega | (simp; done) | (simp; omega)) | refine nest_ext ?_ | refine nest_set ?_ (by omega) | omega))
            · rintro h ⟨c2_0, c2_1, c2_2, c2_3⟩
              have sc2_0 : snap 9 false h nb0_0 = some (.sl 12 (v2.map enc)) := snap_nest (n := 5) c2_0
              exact e_laws_toOpS _ _ hv2 h _ (by simp (maxSteps := 2000000) (disch := first | omega | (simp only [ls]; first | done | omega)) only [ep_laws_szOpS, ep_laws_toOpS, ep_spec_DocObjects, ep_laws_eqIntS, ep_laws_eqOpS, ep_laws_heldIntS, hv0, hb1, hv2, hv3, d0_0, d0_0s, d0_0n, hv4, d1_0, d1_0s, d1_0n, d1_1, hv5, hb6, hb7, c2_0, c2_1, c2_2, c2_3, sc2_0, gx, Int.reduceToNat])
            · rintro hc2 nb2_0 hh2 ⟨c2_0, c2_1, c2_2, c2_3⟩ hpost
              obtain ⟨kk2, _, rfl, wnb2_0⟩ := hpost
              have d2_0 : NestV hh2 hc0.length hh0.length nb0_0 (v2 : List TOp) := nest_keep c2_0 kk2 (by intro b hb; first | (simp at hb; done) | (simp at hb; omega))
              have d2_0l := nest_lt d2_0
              have d2_0s : snap 9 false hh2 nb0_0 = some (.sl 12 (v2.map enc)) := snap_nest (n := 5) d2_0
              have d2_0n : lenS nb0_0 = some v2.length := nest_lenS d2_0
              have d2_1 : getCells hh2 nb1_0 v4.a.length = some (rows (v4.a : List Int)) := (keep_get kk2 c2_3 (by first | (simp; done) | (simp; omega))).trans c2_2
              have d2_1l := keep_lt kk2 c2_3
              have d2_2 := wnb2_0
              have d2_2l := nest_lt d2_2
              have d2_2s : snap 9 false hh2 nb2_0 = some (.sl 12 (v2.map enc)) := snap_nest (n := 5) d2_2
              have d2_2n : lenS nb2_0 = some v2.length := nest_lenS d2_2
              obtain ⟨v8, hv8, hp⟩ := bind_eq hp
              by_cases hb9 : (v8) = true
              · rw [if_t hb9] at hp
                obtain ⟨v10, hv10, hp⟩ := bind_eq hp
                simp (maxSteps := 2000000) (disch := first | omega | (simp only [ls]; first | done | omega)) only [ep_laws_szOpS, ep_laws_toOpS, ep_spec_DocObjects, ep_laws_eqIntS, ep_laws_eqOpS, ep_laws_heldIntS, hv0, hb1, hv2, hv3, d0_0, d0_0s, d0_0n, hv4, d1_0, d1_0s, d1_0n, d1_1, hv5, hb6, hb7, d2_0, d2_0s, d2_0n, d2_1, d2_2, d2_2s, d2_2n, hv8, hb9, gx, Int.reduceToNat]
                refine call_f (fun h => NestV h hc0.length hh0.length nb0_0 (v2 : List TOp) ∧ hh0.length ≤ h.length ∧ getCells h nb1_0 v4.a.length = some (rows (v4.a : List Int)) ∧ nb1_0 < h.length ∧ NestV h hc2.length hh2.length nb2_0 (v2 : List TOp) ∧ hh2.length ≤ h.length) (fun h v h2 => i_laws_markOpS hc0.length hh0.length nb0_0 h v10 v h2) ?_ ?_ ?_
                · simp (maxSteps := 2000000) (disch := first | omega | (simp only [ls]; first | done | omega)) only [ep_laws_szOpS, ep_laws_toOpS, ep_spec_DocObjects, ep_laws_eqIntS, ep_laws_eqOpS, ep_laws_heldIntS, hv0, hb1, hv2, hv3, d0_0, d0_0s, d0_0n, hv4, d1_0, d1_0s, d1_0n, d1_1, hv5, hb6, hb7, d2_0, d2_0s, d2_0n, d2_1, d2_2, d2_2s, d2_2n, hv8, hb9, hv10, gx, Int.reduceToNat] <;> (repeat (first | refine And.intro ?_ ?_ | assumption | exact nest_ext (by assumption) | exact nest_wide (by assumption) (Nat.zero_le _) (by first | omega | (simp; omega)) (Nat.le_refl _) | exact nest_wide (nest_ext (by assumption)) (Nat.zero_le _) (by first | omega | (simp; omega)) (Nat.le_refl _) | exact nest_virt (by simp (maxSteps := 2000000) (disch := first | omega | (simp only [ls]; first | done | omega)) only [ep_laws_szOpS, ep_laws_toOpS, ep_spec_DocObjects, ep_laws_eqIntS, ep_laws_eqOpS, ep_laws_heldIntS, hv0, hb1, hv2, hv3, d0_0, d0_0s, d0_0n, hv4, d1_0, d1_0s, d1_0n, d1_1, hv5, hb6, hb7, d2_0, d2_0s, d2_0n, d2_1, d2_2, d2_2s, d2_2n, hv8, hb9, hv10, gx, Int.reduceToNat]) (by omega) (by first | omega | (simp; done) | (simp; omega)) (by first | omega | (simp; done) | (simp; omega)) | refine nest_ext ?_ | refine nest_set ?_ (by omega) | omega))
                · rintro h ⟨c3_0, c3_1, c3_2, c3_3, c3_4, c3_5⟩
                  have sc3_0 : snap 9 false h nb0_0 = some (.sl 12 (v2.map enc)) := snap_nest (n := 5) c3_0
                  have sc3_2 : snap 9 false h nb2_0 = some (.sl 12 (v2.map enc)) := snap_nest (n := 5) c3_4
                  exact e_laws_markOpS _ _ _ hv10 _ _ _ h c3_0
                · rintro hc3 v hh3 ⟨c3_0, c3_1, c3_2, c3_3, c3_4, c3_5⟩ hpost
                  obtain ⟨kk3, rfl, w3_0⟩ := hpost
                  have d3_0 : NestV hh3 hc0.length hh0.length nb0_0 (v10.b : List TOp) := w3_0
                  have d3_0l := nest_lt d3_0
                  have d3_0s : snap 9 false hh3 nb0_0 = some (.sl 12 (v10.b.map enc)) := snap_nest (n := 5) d3_0
                  have d3_0n : lenS nb0_0 = some v10.b.length := nest_lenS d3_0
                  have d3_1 : getCells hh3 nb1_0 v4.a.length = some (rows (v4.a : List Int)) := (keepI_get kk3 c3_3 (by omega)).trans c3_2
                  have d3_1l := keepI_lt kk3 c3_3
                  have d3_2 : NestV hh3 hc2.length hh2.length nb2_0 (v2 : List TOp) := nest_keepI c3_4 kk3 (by omega)
                  have d3_2l := nest_lt d3_2
                  have d3_2s : snap 9 false hh3 nb2_0 = some (.sl 12 (v2.map enc)) := snap_nest (n := 5) d3_2
                  have d3_2n : lenS nb2_0 = some v2.length := nest_lenS d3_2
                  by_cases hb11 : (decide (v10.a < 0)) = true
                  · rw [if_t hb11] at hp
                    cases hp
                  · replace hb11 := eq_false_of_ne_true hb11
                    rw [if_f hb11] at hp
                    obtain ⟨v12, hv12, hp⟩ := bind_eq hp
                    simp (maxSteps := 2000000) (disch := first | omega | (simp only [ls]; first | done | omega)) only [ep_laws_szOpS, ep_laws_toOpS, ep_spec_DocObjects, ep_laws_eqIntS, ep_laws_eqOpS, ep_laws_heldIntS, hv0, hb1, hv2, hv3, d0_0, d0_0s, d0_0n, hv4, d1_0, d1_0s, d1_0n, d1_1, hv5, hb6, hb7, d2_0, d2_0s, d2_0n, d2_1, d2_2, d2_2s, d2_2n, hv8, hb9, hv10, d3_0, d3_0s, d3_0n, d3_1, d3_2, d3_2s, d3_2n, hb11, gx, Int.reduceToNat]
                    refine call_f (fun h => NestV h hc0.length hh0.length nb0_0 (v10.b : List TOp) ∧ hh0.length ≤ h.length ∧ getCells h nb1_0 v4.a.length = some (rows (v4.a : List Int)) ∧ nb1_0 < h.length ∧ NestV h hc2.length hh2.length nb2_0 (v2 : List TOp) ∧ hh2.length ≤ h.length) (fun h v h2 => i_laws_markIntS nb1_0 v4.a.length h v12 v h2) ?_ ?_ ?_
                    · simp (maxSteps := 2000000) (disch := first | omega | (simp only [ls]; first | done | omega)) only [ep_laws_szOpS, ep_laws_toOpS, ep_spec_DocObjects, ep_laws_eqIntS, ep_laws_eqOpS, ep_laws_heldIntS, hv0, hb1, hv2, hv3, d0_0, d0_0s, d0_0n, hv4, d1_0, d1_0s, d1_0n, d1_1, hv5, hb6, hb7, d2_0, d2_0s, d2_0n, d2_1, d2_2, d2_2s, d2_2n, hv8, hb9, hv10, d3_0, d3_0s, d3_0n, d3_1, d3_2, d3_2s, d3_2n, hb11, hv12, gx, Int.reduceToNat] <;> (repeat (first | refine And.intro ?_ ?_ | assumption | exact nest_ext (by assumption) | exact nest_wide (by assumption) (Nat.zero_le _) (by first | omega | (simp; omega)) (Nat.le_refl _) | exact nest_wide (nest_ext (by assumption)) (Nat.zero_le _) (by first | omega | (simp; omega)) (Nat.le_refl _) | exact nest_virt (by simp (maxSteps := 2000000) (disch := first | omega | (simp only [ls]; first | done | omega)) only [ep_laws_szOpS, ep_laws_toOpS, ep_spec_DocObjects, ep_laws_eqIntS, ep_laws_eqOpS, ep_laws_heldIntS, hv0, hb1, hv2, hv3, d0_0, d0_0s, d0_0n, hv4, d1_0, d1_0s, d1_0n, d1_1, hv5, hb6, hb7, d2_0, d2_0s, d2_0n, d2_1, d2_2, d2_2s, d2_2n, hv8, hb9, hv10, d3_0, d3_0s, d3_0n, d3_1, d3_2, d3_2s, d3_2n, hb11, hv12, gx, Int.reduceToNat]) (by omega) (by first | omega | (simp; done) | (simp; omega)) (by first | omega | (simp; done) | (simp; omega)) | refine nest_ext ?_ | refine nest_set ?_ (by omega) | omega))
                    · rintro h ⟨c4_0, c4_1, c4_2, c4_3, c4_4, c4_5⟩
                      have sc4_0 : snap 9 false h nb0_0 = some (.sl 12 (v10.b.map enc)) := snap_nest (n := 5) c4_0
                      have sc4_2 : snap 9 false h nb2_0 = some (.sl 12 (v2.map enc)) := snap_nest (n := 5) c4_4
                      exact e_laws_markIntS _ _ _ hv12 nb1_0 v4.a.length h (by first | omega | rfl) c4_2
                    · rintro hc4 v hh4 ⟨c4_0, c4_1, c4_2, c4_3, c4_4, c4_5⟩ hpost
                      obtain ⟨kk4, rfl, w4_0⟩ := hpost
                      have d4_0 : NestV hh4 hc0.length hh0.length nb0_0 (v10.b : List TOp) := nest_keep c4_0 kk4 (by intro b hb; first | (simp at hb; done) | (simp at hb; omega))
                      have d4_0l := nest_lt d4_0
                      have d4_0s : snap 9 false hh4 nb0_0 = some (.sl 12 (v10.b.map enc)) := snap_nest (n := 5) d4_0
                      have d4_0n : lenS nb0_0 = some v10.b.length := nest_lenS d4_0
                      have d4_1 : getCells hh4 nb1_0 v4.a.length = some (rows (v12.b : List Int)) := w4_0
                      have mm4_0 := len_rows w4_0
                      simp only [zs] at mm4_0
                      have d4_1l := keep_lt kk4 c4_3
                      have d4_2 : NestV hh4 hc2.length hh2.length nb2_0 (v2 : List TOp) := nest_keep c4_4 kk4 (by intro b hb; first | (simp at hb; done) | (simp at hb; omega))
                      have d4_2l := nest_lt d4_2
                      have d4_2s : snap 9 false hh4 nb2_0 = some (.sl 12 (v2.map enc)) := snap_nest (n := 5) d4_2
                      have d4_2n : lenS nb2_0 = some v2.length := nest_lenS d4_2
                      obtain ⟨v13, hv13, hp⟩ := bind_eq hp
                      by_cases hb14 : (decide (v13 < 0)) = true
                      · rw [if_t hb14] at hp
                        cases hp
                      · replace hb14 := eq_false_of_ne_true hb14
                        rw [if_f hb14] at hp
                        by_cases hb15 : (decide (v13 = v12.a)) = true
                        · rw [if_t hb15] at hp
                          simp (maxSteps := 2000000) (disch := first | omega | (simp only [ls]; first | done | omega)) only [ep_laws_szOpS, ep_laws_toOpS, ep_spec_DocObjects, ep_laws_eqIntS, ep_laws_eqOpS, ep_laws_heldIntS, hv0, hb1, hv2, hv3, d0_0, d0_0s, d0_0n, hv4, d1_0, d1_0s, d1_0n, d1_1, hv5, hb6, hb7, d2_0, d2_0s, d2_0n, d2_1, d2_2, d2_2s, d2_2n, hv8, hb9, hv10, d3_0, d3_0s, d3_0n, d3_1, d3_2, d3_2s, d3_2n, hb11, hv12, d4_0, d4_0s, d4_0n, d4_1, d4_2, d4_2s, d4_2n, hv13, hb14, hb15, gx, Int.reduceToNat]
                          refine call_f (fun h => NestV h hc0.length hh0.length nb0_0 (v10.b : List TOp) ∧ hh0.length ≤ h.length ∧ getCells h nb1_0 v4.a.length = some (rows (v12.b : List Int)) ∧ nb1_0 < h.length ∧ NestV h hc2.length hh2.length nb2_0 (v2 : List TOp) ∧ hh2.length ≤ h.length) (fun h v h2 => oo_laws_toOpS v2 h v h2) ?_ ?_ ?_
                          · simp (maxSteps := 2000000) (disch := first | omega | (simp only [ls]; first | done | omega)) only [ep_laws_szOpS, ep_laws_toOpS, ep_spec_DocObjects, ep_laws_eqIntS, ep_laws_eqOpS, ep_laws_heldIntS, hv0, hb1, hv2, hv3, d0_0, d0_0s, d0_0n, hv4, d1_0, d1_0s, d1_0n, d1_1, hv5, hb6, hb7, d2_0, d2_0s, d2_0n, d2_1, d2_2, d2_2s, d2_2n, hv8, hb9, hv10, d3_0, d3_0s, d3_0n, d3_1, d3_2, d3_2s, d3_2n, hb11, hv12, d4_0, d4_0s, d4_0n, d4_1, d4_2, d4_2s, d4_2n, hv13, hb14, hb15, gx, Int.reduceToNat] <;> (repeat (first | refine And.intro ?_ ?_ | assumption | exact nest_ext (by assumption) | exact nest_wide (by assumption) (Nat.zero_le _) (by first | omega | (simp; omega)) (Nat.le_refl _) | exact nest_wide (nest_ext (by assumption)) (Nat.zero_le _) (by first | omega | (simp; omega)) (Nat.le_refl _) | exact nest_virt (by simp (maxSteps := 2000000) (disch := first | omega | (simp only [ls]; first | done | omega)) only [ep_laws_szOpS, ep_laws_toOpS, ep_spec_DocObjects, ep_laws_eqIntS, ep_laws_eqOpS, ep_laws_heldIntS, hv0, hb1, hv2, hv3, d0_0, d0_0s, d0_0n, hv4, d1_0, d1_0s, d1_0n, d1_1, hv5, hb6, hb7, d2_0, d2_0s, d2_0n, d2_1, d2_2, d2_2s, d2_2n, hv8, hb9, hv10, d3_0, d3_0s, d3_0n, d3_1, d3_2, d3_2s, d3_2n, hb11, hv12, d4_0, d4_0s, d4_0n, d4_1, d4_2, d4_2s, d4_2n, hv13, hb14, hb15, gx, Int.reduceToNat]) (by omega) (by first | omega | (simp; done) | (simp; omega)) (by first | omega | (simp; done) | (simp; omega)) | refine nest_ext ?_ | refine nest_set ?_ (by omega) | omega))
                          · rintro h ⟨c5_0, c5_1, c5_2, c5_3, c5_4, c5_5⟩
                            have sc5_0 : snap 9 false h nb0_0 = some (.sl 12 (v10.b.map enc)) := snap_nest (n := 5) c5_0
                            have sc5_2 : snap 9 false h nb2_0 = some (.sl 12 (v2.map enc)) := snap_nest (n := 5) c5_4
                            exact e_laws_toOpS _ _ hv2 h _ (by simp (maxSteps := 2000000) (disch := first | omega | (simp only [ls]; first | done | omega)) only [ep_laws_szOpS, ep_laws_toOpS, ep_spec_DocObjects, ep_laws_eqIntS, ep_laws_eqOpS, ep_laws_heldIntS, hv0, hb1, hv2, hv3, d0_0, d0_0s, d0_0n, hv4, d1_0, d1_0s, d1_0n, d1_1, hv5, hb6, hb7, d2_0, d2_0s, d2_0n, d2_1, d2_2, d2_2s, d2_2n, hv8, hb9, hv10, d3_0, d3_0s, d3_0n, d3_1, d3_2, d3_2s, d3_2n, hb11, hv12, d4_0, d4_0s, d4_0n, d4_1, d4_2, d4_2s, d4_2n, hv13, hb14, hb15, c5_0, c5_1, c5_2, c5_3, c5_4, c5_5, sc5_0, sc5_2, gx, Int.reduceToNat])
                          · rintro hc5 nb5_0 hh5 ⟨c5_0, c5_1, c5_2, c5_3, c5_4, c5_5⟩ hpost
                            obtain ⟨kk5, _, rfl, wnb5_0⟩ := hpost
                            have d5_0 : NestV hh5 hc0.length hh0.length nb0_0 (v10.b : List TOp) := nest_keep c5_0 kk5 (by intro b hb; first | (simp at hb; done) | (simp at hb; omega))
                            have d5_0l := nest_lt d5_0
                            have d5_0s : snap 9 false hh5 nb0_0 = some (.sl 12 (v10.b.map enc)) := snap_nest (n := 5) d5_0
                            have d5_0n : lenS nb0_0 = some v10.b.length := nest_lenS d5_0
                            have d5_1 : getCells hh5 nb1_0 v4.a.length = some (rows (v12.b : List Int)) := (keep_get kk5 c5_3 (by first | (simp; done) | (simp; omega))).trans c5_2
                            have d5_1l := keep_lt kk5 c5_3
                            have d5_2 : NestV hh5 hc2.length hh2.length nb2_0 (v2 : List TOp) := nest_keep c5_4 kk5 (by intro b hb; first | (simp at hb; done) | (simp at hb; omega))
                            have d5_2l := nest_lt d5_2
                            have d5_2s : snap 9 false hh5 nb2_0 = some (.sl 12 (v2.map enc)) := snap_nest (n := 5) d5_2
                            have d5_2n : lenS nb2_0 = some v2.length := nest_lenS d5_2
                            have d5_3 := wnb5_0
                            have d5_3l := nest_lt d5_3
                            have d5_3s : snap 9 false hh5 nb5_0 = some (.sl 12 (v2.map enc)) := snap_nest (n := 5) d5_3
                            have d5_3n : lenS nb5_0 = some v2.length := nest_lenS d5_3
                            simp (maxSteps := 2000000) (disch := first | omega | (simp only [ls]; first | done | omega)) only [ep_laws_szOpS, ep_laws_toOpS, ep_spec_DocObjects, ep_laws_eqIntS, ep_laws_eqOpS, ep_laws_heldIntS, hv0, hb1, hv2, hv3, d0_0, d0_0s, d0_0n, hv4, d1_0, d1_0s, d1_0n, d1_1, hv5, hb6, hb7, d2_0, d2_0s, d2_0n, d2_1, d2_2, d2_2s, d2_2n, hv8, hb9, hv10, d3_0, d3_0s, d3_0n, d3_1, d3_2, d3_2s, d3_2n, hb11, hv12, d4_0, d4_0s, d4_0n, d4_1, d4_2, d4_2s, d4_2n, hv13, hb14, hb15, d5_0, d5_0s, d5_0n, d5_1, d5_2, d5_2s, d5_2n, d5_3, d5_3s, d5_3n, gx, Int.reduceToNat]
                            refine call_f (fun h => NestV h hc0.length hh0.length nb0_0 (v10.b : List TOp) ∧ hh0.length ≤ h.length ∧ getCells h nb1_0 v4.a.length = some (rows (v12.b : List Int)) ∧ nb1_0 < h.length ∧ NestV h hc2.length hh2.length nb2_0 (v2 : List TOp) ∧ hh2.length ≤ h.length ∧ NestV h hc5.length hh5.length nb5_0 (v2 : List TOp) ∧ hh5.length ≤ h.length) (fun h v h2 => oo_impl_DocObjects v4 h v h2) ?_ ?_ ?_
                            · simp (maxSteps := 2000000) (disch := first | omega | (simp only [ls]; first | done | omega)) only [ep_laws_szOpS, ep_laws_toOpS, ep_spec_DocObjects, ep_laws_eqIntS, ep_laws_eqOpS, ep_laws_heldIntS, hv0, hb1, hv2, hv3, d0_0, d0_0s, d0_0n, hv4, d1_0, d1_0s, d1_0n, d1_1, hv5, hb6, hb7, d2_0, d2_0s, d2_0n, d2_1, d2_2, d2_2s, d2_2n, hv8, hb9, hv10, d3_0, d3_0s, d3_0n, d3_1, d3_2, d3_2s, d3_2n, hb11, hv12, d4_0, d4_0s, d4_0n, d4_1, d4_2, d4_2s, d4_2n, hv13, hb14, hb15, d5_0, d5_0s, d5_0n, d5_1, d5_2, d5_2s, d5_2n, d5_3, d5_3s, d5_3n, gx, Int.reduceToNat] <;> (repeat (first | refine And.intro ?_ ?_ | assumption | exact nest_ext (by assumption) | exact nest_wide (by assumption) (Nat.zero_le _) (by first | omega | (simp; omega)) (Nat.le_refl _) | exact nest_wide (nest_ext (by assumption)) (Nat.zero_le _) (by first | omega | (simp; omega)) (Nat.le_refl _) | exact nest_virt (by simp (maxSteps := 2000000) (disch := first | omega | (simp only [ls]; first | done | omega)) only [ep_laws_szOpS, ep_laws_toOpS, ep_spec_DocObjects, ep_laws_eqIntS, ep_laws_eqOpS, ep_laws_heldIntS, hv0, hb1, hv2, hv3, d0_0, d0_0s, d0_0n, hv4, d1_0, d1_0s, d1_0n, d1_1, hv5, hb6, hb7, d2_0, d2_0s, d2_0n, d2_1, d2_2, d2_2s, d2_2n, hv8, hb9, hv10, d3_0, d3_0s, d3_0n, d3_1, d3_2, d3_2s, d3_2n, hb11, hv12, d4_0, d4_0s, d4_0n, d4_1, d4_2, d4_2s, d4_2n, hv13, hb14, hb15, d5_0, d5_0s, d5_0n, d5_1, d5_2, d5_2s, d5_2n, d5_3, d5_3s, d5_3n, gx, Int.reduceToNat]) (by omega) (by first | omega | (simp; done) | (simp; omega)) (by first | omega | (simp; done) | (simp; omega)) | refine nest_ext ?_ | refine nest_set ?_ (by omega) | omega))
                            · rintro h ⟨c6_0, c6_1, c6_2, c6_3, c6_4, c6_5, c6_6, c6_7⟩
                              have sc6_0 : snap 9 false h nb0_0 = some (.sl 12 (v10.b.map enc)) := snap_nest (n := 5) c6_0
                              have sc6_2 : snap 9 false h nb2_0 = some (.sl 12 (v2.map enc)) := snap_nest (n := 5) c6_4
                              have sc6_3 : snap 9 false h nb5_0 = some (.sl 12 (v2.map enc)) := snap_nest (n := 5) c6_6
                              exact e_impl_DocObjects _ _ hv4 h _ (by simp (maxSteps := 2000000) (disch := first | omega | (simp only [ls]; first | done | omega)) only [ep_laws_szOpS, ep_laws_toOpS, ep_spec_DocObjects, ep_laws_eqIntS, ep_laws_eqOpS, ep_laws_heldIntS, hv0, hb1, hv2, hv3, d0_0, d0_0s, d0_0n, hv4, d1_0, d1_0s, d1_0n, d1_1, hv5, hb6, hb7, d2_0, d2_0s, d2_0n, d2_1, d2_2, d2_2s, d2_2n, hv8, hb9, hv10, d3_0, d3_0s, d3_0n, d3_1, d3_2, d3_2s, d3_2n, hb11, hv12, d4_0, d4_0s, d4_0n, d4_1, d4_2, d4_2s, d4_2n, hv13, hb14, hb15, d5_0, d5_0s, d5_0n, d5_1, d5_2, d5_2s, d5_2n, d5_3, d5_3s, d5_3n, c6_0, c6_1, c6_2, c6_3, c6_4, c6_5, c6_6, c6_7, sc6_0, sc6_2, sc6_3, gx, Int.reduceToNat])
                            · rintro hc6 v hh6 ⟨c6_0, c6_1, c6_2, c6_3, c6_4, c6_5, c6_6, c6_7⟩ hpost
                              obtain ⟨kk6, nb6_0, rfl, lnb6_0, gnb6_0, wnb6_0⟩ := hpost
                              have d6_0 : NestV hh6 hc0.length hh0.length nb0_0 (v10.b : List TOp) := nest_keep c6_0 kk6 (by intro b hb; first | (simp at hb; done) | (simp at hb; omega))
                              have d6_0l := nest_lt d6_0
                              have d6_0s : snap 9 false hh6 nb0_0 = some (.sl 12 (v10.b.map enc)) := snap_nest (n := 5) d6_0
                              have d6_0n : lenS nb0_0 = some v10.b.length := nest_lenS d6_0
                              have d6_1 : getCells hh6 nb1_0 v4.a.length = some (rows (v12.b : List Int)) := (keep_get kk6 c6_3 (by first | (simp; done) | (simp; omega))).trans c6_2
                              have d6_1l := keep_lt kk6 c6_3
                              have d6_2 : NestV hh6 hc2.length hh2.length nb2_0 (v2 : List TOp) := nest_keep c6_4 kk6 (by intro b hb; first | (simp at hb; done) | (simp at hb; omega))
                              have d6_2l := nest_lt d6_2
                              have d6_2s : snap 9 false hh6 nb2_0 = some (.sl 12 (v2.map enc)) := snap_nest (n := 5) d6_2
                              have d6_2n : lenS nb2_0 = some v2.length := nest_lenS d6_2
                              have d6_3 : NestV hh6 hc5.length hh5.length nb5_0 (v2 : List TOp) := nest_keep c6_6 kk6 (by intro b hb; first | (simp at hb; done) | (simp at hb; omega))
                              have d6_3l := nest_lt d6_3
                              have d6_3s : snap 9 false hh6 nb5_0 = some (.sl 12 (v2.map enc)) := snap_nest (n := 5) d6_3
                              have d6_3n : lenS nb5_0 = some v2.length := nest_lenS d6_3
                              have d6_4 := wnb6_0
                              cases hp
                              simp (maxSteps := 2000000) (disch := first | omega | (simp only [ls]; first | done | omega)) only [ep_laws_szOpS, ep_laws_toOpS, ep_spec_DocObjects, ep_laws_eqIntS, ep_laws_eqOpS, ep_laws_heldIntS, hv0, hb1, hv2, hv3, d0_0, d0_0s, d0_0n, hv4, d1_0, d1_0s, d1_0n, d1_1, hv5, hb6, hb7, d2_0, d2_0s, d2_0n, d2_1, d2_2, d2_2s, d2_2n, hv8, hb9, hv10, d3_0, d3_0s, d3_0n, d3_1, d3_2, d3_2s, d3_2n, hb11, hv12, d4_0, d4_0s, d4_0n, d4_1, d4_2, d4_2s, d4_2n, hv13, hb14, hb15, d5_0, d5_0s, d5_0n, d5_1, d5_2, d5_2s, d5_2n, d5_3, d5_3s, d5_3n, d6_0, d6_0s, d6_0n, d6_1, d6_2, d6_2s, d6_2n, d6_3, d6_3s, d6_3n, d6_4, gx, Int.reduceToNat]
                        · replace hb15 := eq_false_of_ne_true hb15
                          rw [if_f hb15] at hp
                          cases hp
              · replace hb9 := eq_false_of_ne_true hb9
                rw [if_f hb9] at hp
                cases hp
          · replace hb7 := eq_false_of_ne_true hb7
            rw [if_f hb7] at hp
            cases hp
        · replace hb6 := eq_false_of_ne_true hb6
          rw [if_f hb6] at hp
          cases hp

end Go.AM
