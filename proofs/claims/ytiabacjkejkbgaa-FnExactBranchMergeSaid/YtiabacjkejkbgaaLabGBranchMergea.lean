/- Plain functions of BranchMerge and their walks. No condition. -/
import Derived.Test.YtiabacjkejkbgaaLabGLogOKb
set_option linter.unusedVariables false
set_option linter.unusedSimpArgs false
set_option maxRecDepth 20000
namespace Go.AM
open Pic (enc dec dec_enc dec_sub)
open PicA (encA decA decA_encA decA_sub)
/-- Four results. -/
structure T4 (α β γ δ : Type) where
  a : α
  b : β
  c : γ
  d : δ
theorem eta_T4 {α β γ δ : Type} {p : T4 α β γ δ} : T4.mk p.a p.b p.c p.d = p := rfl
def decT4 {α β γ δ : Type} [Pic α] [Pic β] [Pic γ] [Pic δ] : I → Option (T4 α β γ δ)
  | .tup [x, y, z, w] => (dec x).bind fun a => (dec y).bind fun b => (dec z).bind fun c => (dec w).map fun d => ⟨a, b, c, d⟩
  | _ => none
instance {α β γ δ : Type} [Pic α] [Pic β] [Pic γ] [Pic δ] : Pic (T4 α β γ δ) where
  z := 1
  ag := false
  enc p := .tup [enc p.a, enc p.b, enc p.c, enc p.d]
  dec := decT4
  dec_enc p := by simp [decT4, dec_enc]
  len _ := rfl
  pos := by decide
  one := .inr rfl
  row _ := rfl
  dec_sub x p h := by
    unfold decT4 at h
    split at h
    · obtain ⟨a, h1, h⟩ := Option.bind_eq_some_iff.1 h
      obtain ⟨b, h2, h⟩ := Option.bind_eq_some_iff.1 h
      obtain ⟨c, h3, h⟩ := Option.bind_eq_some_iff.1 h
      obtain ⟨d, h4, rfl⟩ := Option.map_eq_some_iff.1 h
      exact .tup (.cons (dec_sub _ _ h1) (.cons (dec_sub _ _ h2) (.cons (dec_sub _ _ h3) (.cons (dec_sub _ _ h4) .nil))))
    · cases h
section
variable {α β γ δ : Type} [Pic α] [Pic β] [Pic γ] [Pic δ] {t : Nat → V} {h : Heap}
theorem enc_T4 {p : T4 α β γ δ} : enc p = .tup [enc p.a, enc p.b, enc p.c, enc p.d] := rfl
theorem dec_T4 {x y z w : I} : (dec (.tup [x, y, z, w]) : Option (T4 α β γ δ)) = (dec x).bind fun a => (dec y).bind fun b => (dec z).bind fun c => (dec w).map fun d => ⟨a, b, c, d⟩ := rfl
theorem ret_four {a b c d : ARes} : retV ⟨t, h⟩ [a, b, c, d] = (resV ⟨t, h⟩ a).bind fun x => (resV ⟨t, h⟩ b).bind fun y => (resV ⟨t, h⟩ c).bind fun z => (resV ⟨t, h⟩ d).map fun w => .tup [x, y, z, w] := by
  simp only [retV, List.mapM_cons, List.mapM_nil]
  cases resV ⟨t, h⟩ a <;> simp
  cases resV ⟨t, h⟩ b <;> simp
  cases resV ⟨t, h⟩ c <;> simp
  cases resV ⟨t, h⟩ d <;> rfl
end
/-- A function that hands over what it made, some of its results left out of sight. -/
def weakL : List Bool → List V → List V
  | m :: ms, v :: vs => (if m then .bad else v) :: weakL ms vs
  | [], vs => vs
  | _, [] => []
noncomputable def ownFnW (m : List Bool) (P : Program) (env : Env) (A : AFn) : Fun := fun slot args H =>
  (args.mapM (snap 9 false H)).bind fun as => (runFn P env A (as.map ofI) []).bind fun p => match p.1 with
    | .tup cs => if ((weakL m cs).all fun v => match v with | .bad => true | v => V.good v) = true then some (.tup ((weakL m cs).map (V.shift H.length)), H ++ p.2.map (Slot.move H.length)) else none
    | _ => none
section
variable {P : Program} {base : Nat} {X : Nat → Prop} {w w' : World} {H H2 : Heap} {G G2 : List Nat}
theorem RVL.weak {M : Nat → Prop} {base' : Nat} : ∀ (m : List Bool) {cs : List V} {vs : List Value}, RVL w base' M H2 G2 cs vs → RVL w base' M H2 G2 (weakL m cs) vs
  | [], cs, vs, h => by
    have : weakL [] cs = cs := by cases cs <;> rfl
    rw [this]
    exact h
  | m :: ms, [], vs, h => by cases h; exact .nil
  | m :: ms, c :: cs, vs, h => by
    cases h with
    | cons a b =>
      refine .cons ?_ (RVL.weak ms b)
      cases m with
      | true => exact .bad
      | false => exact a
theorem RVL.movedW {M M' : Nat → Prop} {base' n : Nat} (hn : n = H.length) (hg : G.length = H.length) : ∀ (cs : List V) {vs : List Value}, (cs.all fun v => match v with | .bad => true | v => V.good v) = true → RVL w base' M H2 G2 cs vs → RVL w base M' (H ++ H2.map (Slot.move n)) (G ++ G2) (cs.map (V.shift n)) vs
  | [], vs, _, h => by cases h; exact .nil
  | c :: cs, vs, hx, h => by
    cases h with
    | cons a b =>
      simp only [List.all_cons, Bool.and_eq_true] at hx
      refine .cons ?_ (RVL.movedW hn hg cs hx.2 b)
      cases c with
      | bad => exact .bad
      | _ => exact RV.moved hn hg hx.1 a
theorem ownFnW_ok {m : List Bool} {env : Env} {pur : Nat → Bool} {md : Modes} {f : FuncId} {A : AFn} (hE : EnvOK P env) (hpur : ∀ f, pur f = true → PurEnv env f) (hcall : callable P f = true) (hc : compFn P pur md f = some A) : FunOK P f (ownFnW m P env A) := by
  intro slot args H v H' hg
  refine ⟨hcall, ?_⟩
  unfold ownFnW at hg
  obtain ⟨as, h1, hg⟩ := Option.bind_eq_some_iff.1 hg
  obtain ⟨⟨u, H2⟩, h2, hg⟩ := Option.bind_eq_some_iff.1 hg
  simp only at hg
  split at hg
  · rename_i cs
    split at hg
    · rename_i hh
      simp only [Option.some.injEq, Prod.mk.injEq] at hg
      obtain ⟨rfl, rfl⟩ := hg
      intro base X w G xs hS hl
      have hS0 : SimH w.heap.size (fun _ => False) w [] [] := ⟨rfl, Nat.le_refl _, fun k hk => hk.elim, fun b s hb => by simp at hb, fun b b' s s' k hb => by simp at hb⟩
      have hno : ∀ k, ¬ Mof (fun _ => False) [] [] k := by
        rintro k (hk | ⟨b, s, hb, _⟩)
        · exact hk
        · simp at hb
      have hl0 : RL w (Mof (fun _ => False) [] []) as xs.toList :=
        snap_list (fun v x r hv hr => (snap_ok hS false 9 v x r hv hr).weaken (fun k hk => (hno k hk).elim)) hl h1
      refine (fn_ok hE hpur hc h2 w.heap.size _ w [] xs hS0 hl0.ofI).mono ?_
      rintro e w' ⟨x, G2, rfl, hE2, hS2, hv⟩
      obtain ⟨r1, r2⟩ := beside_ok (H2 := H2) rfl hS hE2 hS2
      refine ⟨x, G ++ G2, rfl, r1, r2, ?_⟩
      cases hv with
      | tup hl => exact .tup (RVL.movedW rfl hS.len _ hh (RVL.weak m hl))
    · cases hg
  · cases hg
end
theorem ownFnW_app {m : List Bool} {P : Program} {env : Env} {A : AFn} : Appends (ownFnW m P env A) := by
  intro slot args h v h2 he
  unfold ownFnW at he
  obtain ⟨as, _, he⟩ := Option.bind_eq_some_iff.1 he
  obtain ⟨p, _, he⟩ := Option.bind_eq_some_iff.1 he
  split at he
  · split at he
    · simp only [Option.some.injEq, Prod.mk.injEq] at he
      exact ⟨_, he.2.symm⟩
    · cases he
  · cases he
theorem own_callW {m : List Bool} {P : Program} {env : Env} {A : AFn} {h H2 : Heap} {as : List I} {args : List V} {cs : List V} (has : snapA 9 false h args = some as) (hr : runFn P env A (as.map ofI) [] = some (.tup cs, H2)) (hh : ((weakL m cs).all fun v => match v with | .bad => true | v => V.good v) = true) :
    ownFnW m P env A none args h = some (.tup ((weakL m cs).map (V.shift h.length)), h ++ H2.map (Slot.move h.length)) := by
  unfold ownFnW
  have has' : args.mapM (snap 9 false h) = some as := has
  rw [has', Option.bind_some, hr, Option.bind_some]
  simp only
  rw [if_pos hh]
noncomputable def p_spec_l05Same_l0 (x0 : List Int) (x1 : List Int) : Int → Option (Lp (Int) Bool)
  | s1 =>
    if (decide (s1 < (x0.length : Int))) = true then
      (get? x0 s1).bind fun v3 =>
      (get? x1 s1).bind fun v4 =>
      if (decide (v3 = v4)) = true then
        some (.go (w64 (s1 + 1)))
      else
        some (.ret false)
    else
      some (.out s1)
noncomputable def p_spec_l05Same (x0 : List Int) (x1 : List Int) : Option Bool :=
  if (decide ((x0.length : Int) = (x1.length : Int))) = true then
    (loopP (p_spec_l05Same_l0 x0 x1) 0).bind fun ee0 => match ee0 with
    | .ret r => some r
    | .out o6 =>
      some true
  else
    some false
def c_spec_l05Same : AFn := ⟨26, (.seq (.ops [(qS 4 (.mv (.const (.bool false))))]) (.seq (.seq (.ops [(qS 6 (.mv (.tmp 0))), (qS 7 (.len (.tmp 6))), (qS 8 (.mv (.tmp 1))), (qS 9 (.len (.tmp 8))), (qS 10 (.pu (.n (.ar .neq)) [(.tmp 7), (.tmp 9)]))]) (.cond (.tmp 10) (.seq (.ops [(qS 4 (.mv (.const (.bool false))))]) .ret) .skip)) (.seq (.seq (.ops [(qS 5 (.mv (ic 0)))]) (.block 0 (.loop (.seq (.seq (.ops [(qS 11 (.mv (.tmp 5))), (qS 12 (.mv (.tmp 0))), (qS 13 (.len (.tmp 12))), (qS 14 (.pu (.n (.ar .lss)) [(.tmp 11), (.tmp 13)]))]) (.cond (.tmp 14) .skip (.exit 0))) (.seq (.block 1 (.seq (.ops [(qS 17 (.mv (.tmp 0))), (qS 18 (.mv (.tmp 5))), (qS 19 (.idxS 1 (.tmp 17) (.tmp 18))), (qS 20 (.load 1 false (.tmp 19))), (qS 21 (.mv (.tmp 1))), (qS 22 (.mv (.tmp 5))), (qS 23 (.idxS 1 (.tmp 21) (.tmp 22))), (qS 24 (.load 1 false (.tmp 23))), (qS 25 (.pu (.n (.ar .neq)) [(.tmp 20), (.tmp 24)]))]) (.cond (.tmp 25) (.seq (.ops [(qS 4 (.mv (.const (.bool false))))]) .ret) .skip))) (.ops [(qS 15 (.mv (.tmp 5))), (qS 16 (.pu (.n (.ar .add)) [(.tmp 15), (ic 1)])), (qS 5 (.mv (.tmp 16)))])))))) (.seq (.ops [(qS 4 (.mv (.const (.bool true))))]) .ret)))), [(.tmp 4)]⟩
set_option maxHeartbeats 10000000 in
theorem d_spec_l05Same {P : Program} {env : Env}  (x0 : List Int) (x1 : List Int) {b : Bool} (hp : p_spec_l05Same x0 x1 = some b) : R P env (c_spec_l05Same) ((encA (x0, x1)).map ofI) [] (Tells true b) := by
  refine R_of (by simp [c_spec_l05Same, encA]) ?_
  unfold c_spec_l05Same
  unfold p_spec_l05Same at hp
  by_cases hb0 : (decide ((x0.length : Int) = (x1.length : Int))) = true
  · rw [if_t hb0] at hp
    obtain ⟨ee0, hee0, hp⟩ := bind_eq hp
    simp (maxSteps := 2000000) (disch := first|omega|(simp only[ls];first|done|omega)) only [hb0, gx, eta_T4, enc_T4, dec_T4, ret_four]
    refine W_loopP 0 (fun s t h => match s with | s1 => t 0 = .i (.sl 1 (x0.map enc)) ∧ t 1 = .i (.sl 1 (x1.map enc)) ∧ t 5 = .i (.s (.int .i64 s1))) (RK [.tmp 4] (Tells true)) ?_ hee0 ?_ ?_
    · rintro s1 ee tt0 hh0 ⟨ftt0_0, ftt0_1, ftt0_2⟩ hp
      rw [p_spec_l05Same_l0] at hp
      by_cases hb2 : (decide (s1 < (x0.length : Int))) = true
      · rw [if_t hb2] at hp
        obtain ⟨v3, hv3, hp⟩ := bind_eq hp
        obtain ⟨v4, hv4, hp⟩ := bind_eq hp
        by_cases hb5 : (decide (v3 = v4)) = true
        · rw [if_t hb5] at hp
          have hp := Option.some.inj hp
          subst hp
          simp (maxSteps := 2000000) (disch := first|omega|(simp only[ls];first|done|omega)) only [hb0, ftt0_0, ftt0_1, ftt0_2, hb2, hv3, hv4, hb5, gx, eta_T4, enc_T4, dec_T4, ret_four] <;> omega
        · replace hb5 := eq_false_of_ne_true hb5
          rw [if_f hb5] at hp
          have hp := Option.some.inj hp
          subst hp
          simp (maxSteps := 2000000) (disch := first|omega|(simp only[ls];first|done|omega)) only [hb0, ftt0_0, ftt0_1, ftt0_2, hb2, hv3, hv4, hb5, gx, eta_T4, enc_T4, dec_T4, ret_four]
      · replace hb2 := eq_false_of_ne_true hb2
        rw [if_f hb2] at hp
        have hp := Option.some.inj hp
        subst hp
        simp (maxSteps := 2000000) (disch := first|omega|(simp only[ls];first|done|omega)) only [hb0, ftt0_0, ftt0_1, ftt0_2, hb2, gx, eta_T4, enc_T4, dec_T4, ret_four] <;> omega
    · simp (maxSteps := 2000000) (disch := first|omega|(simp only[ls];first|done|omega)) only [hb0, gx, eta_T4, enc_T4, dec_T4, ret_four] <;> omega
    · intro x tt1 hh1 hx
      rcases ee0 with o6 | r
      · obtain ⟨rfl, ftt1_0, ftt1_1, ftt1_2⟩ := hx
        dsimp only at hp
        have hp := Option.some.inj hp
        subst hp
        simp (maxSteps := 2000000) (disch := first|omega|(simp only[ls];first|done|omega)) only [hb0, ftt1_0, ftt1_1, ftt1_2, gx, eta_T4, enc_T4, dec_T4, ret_four]
      · obtain ⟨rfl, hx⟩ := hx
        dsimp only at hp
        cases hp
        simp only [seqK_ret, blockK_ret, retK_RK (K := Tells true), hx, and_self, true_and]
  · replace hb0 := eq_false_of_ne_true hb0
    rw [if_f hb0] at hp
    have hp := Option.some.inj hp
    subst hp
    simp (maxSteps := 2000000) (disch := first|omega|(simp only[ls];first|done|omega)) only [hb0, gx, eta_T4, enc_T4, dec_T4, ret_four]

noncomputable def p_spec_l08SameOp (x0 : TOp) (x1 : TOp) : Option Bool :=
  if (decide (x0.actor = x1.actor)) = true then
    if (decide (x0.seq = x1.seq)) = true then
      if (decide (x0.time = x1.time)) = true then
        (p_spec_l05Same x0.deps.counts x1.deps.counts).bind fun v3 =>
        if (v3) = true then
          if (decide (x0.kind = x1.kind)) = true then
            if (decide (x0.obj = x1.obj)) = true then
              if (decide (x0.n = x1.n)) = true then
                if (decide (x0.undo = x1.undo)) = true then
                  if ((decide (x0.at_.time = x1.at_.time) && decide (x0.at_.actor = x1.at_.actor))) = true then
                    if (decide (x0.key = x1.key)) = true then
                      some (decide (x0.text = x1.text))
                    else
                      some false
                  else
                    some false
                else
                  some false
              else
                some false
            else
              some false
          else
            some false
        else
          some false
      else
        some false
    else
      some false
  else
    some false
def c_spec_l08SameOp (f_spec_l05Same : Nat) : AFn := ⟨82, (.seq (.ops [(qS 2 (.box (.tmp 0))), (qS 3 (.box (.tmp 1))), (qS 4 (.mv (.const (.bool false))))]) (.seq (.ops [(qS 5 (.fieldA 0 (.tmp 2))), (qS 6 (.load 1 false (.tmp 5))), (qS 7 (.fieldA 0 (.tmp 3))), (qS 8 (.load 1 false (.tmp 7))), (qS 9 (.pu (.n (.ar .eql)) [(.tmp 6), (.tmp 8)])), (qS 10 (.mv (.tmp 9))), ⟨(.some 11), (.fieldA 1 (.tmp 2)), (.some (10, true)), []⟩, ⟨(.some 12), (.load 1 false (.tmp 11)), (.some (10, true)), []⟩, ⟨(.some 13), (.fieldA 1 (.tmp 3)), (.some (10, true)), []⟩, ⟨(.some 14), (.load 1 false (.tmp 13)), (.some (10, true)), []⟩, ⟨(.some 15), (.pu (.n (.ar .eql)) [(.tmp 12), (.tmp 14)]), (.some (10, true)), []⟩, (qS 16 (.pick (.tmp 10) (.tmp 15) (.const (.bool false)))), (qS 17 (.mv (.tmp 16))), ⟨(.some 18), (.fieldA 2 (.tmp 2)), (.some (17, true)), []⟩, ⟨(.some 19), (.load 1 false (.tmp 18)), (.some (17, true)), []⟩, ⟨(.some 20), (.fieldA 2 (.tmp 3)), (.some (17, true)), []⟩, ⟨(.some 21), (.load 1 false (.tmp 20)), (.some (17, true)), []⟩, ⟨(.some 22), (.pu (.n (.ar .eql)) [(.tmp 19), (.tmp 21)]), (.some (17, true)), []⟩, (qS 23 (.pick (.tmp 17) (.tmp 22) (.const (.bool false)))), (qS 24 (.mv (.tmp 23))), ⟨(.some 25), (.fieldA 3 (.tmp 2)), (.some (24, true)), []⟩, ⟨(.some 26), (.fieldA 0 (.tmp 25)), (.some (24, true)), []⟩, ⟨(.some 27), (.load 1 false (.tmp 26)), (.some (24, true)), []⟩, ⟨(.some 28), (.fieldA 3 (.tmp 3)), (.some (24, true)), []⟩, ⟨(.some 29), (.fieldA 0 (.tmp 28)), (.some (24, true)), []⟩, ⟨(.some 30), (.load 1 false (.tmp 29)), (.some (24, true)), []⟩, ⟨(.some 31), (.call (2 * f_spec_l05Same) [(.tmp 27), (.tmp 30)]), (.some (24, true)), []⟩, (qS 32 (.pick (.tmp 24) (.tmp 31) (.const (.bool false)))), (qS 33 (.mv (.tmp 32))), ⟨(.some 34), (.fieldA 4 (.tmp 2)), (.some (33, true)), []⟩, ⟨(.some 35), (.load 1 false (.tmp 34)), (.some (33, true)), []⟩, ⟨(.some 36), (.fieldA 4 (.tmp 3)), (.some (33, true)), []⟩, ⟨(.some 37), (.load 1 false (.tmp 36)), (.some (33, true)), []⟩, ⟨(.some 38), (.pu (.n (.ar .eql)) [(.tmp 35), (.tmp 37)]), (.some (33, true)), []⟩, (qS 39 (.pick (.tmp 33) (.tmp 38) (.const (.bool false)))), (qS 40 (.mv (.tmp 39))), ⟨(.some 41), (.fieldA 5 (.tmp 2)), (.some (40, true)), []⟩, ⟨(.some 42), (.load 1 false (.tmp 41)), (.some (40, true)), []⟩, ⟨(.some 43), (.fieldA 5 (.tmp 3)), (.some (40, true)), []⟩, ⟨(.some 44), (.load 1 false (.tmp 43)), (.some (40, true)), []⟩, ⟨(.some 45), (.pu (.n (.ar .eql)) [(.tmp 42), (.tmp 44)]), (.some (40, true)), []⟩, (qS 46 (.pick (.tmp 40) (.tmp 45) (.const (.bool false)))), (qS 47 (.mv (.tmp 46))), ⟨(.some 48), (.fieldA 6 (.tmp 2)), (.some (47, true)), []⟩, ⟨(.some 49), (.load 1 false (.tmp 48)), (.some (47, true)), []⟩, ⟨(.some 50), (.fieldA 6 (.tmp 3)), (.some (47, true)), []⟩, ⟨(.some 51), (.load 1 false (.tmp 50)), (.some (47, true)), []⟩, ⟨(.some 52), (.pu (.n (.ar .eql)) [(.tmp 49), (.tmp 51)]), (.some (47, true)), []⟩, (qS 53 (.pick (.tmp 47) (.tmp 52) (.const (.bool false)))), (qS 54 (.mv (.tmp 53))), ⟨(.some 55), (.fieldA 7 (.tmp 2)), (.some (54, true)), []⟩, ⟨(.some 56), (.load 1 false (.tmp 55)), (.some (54, true)), []⟩, ⟨(.some 57), (.fieldA 7 (.tmp 3)), (.some (54, true)), []⟩, ⟨(.some 58), (.load 1 false (.tmp 57)), (.some (54, true)), []⟩, ⟨(.some 59), (.pu (.n (.ar .eql)) [(.tmp 56), (.tmp 58)]), (.some (54, true)), []⟩, (qS 60 (.pick (.tmp 54) (.tmp 59) (.const (.bool false)))), (qS 61 (.mv (.tmp 60))), ⟨(.some 62), (.fieldA 8 (.tmp 2)), (.some (61, true)), []⟩, ⟨(.some 63), (.load 2 true (.tmp 62)), (.some (61, true)), []⟩, ⟨(.some 64), (.fieldA 8 (.tmp 3)), (.some (61, true)), []⟩, ⟨(.some 65), (.load 2 true (.tmp 64)), (.some (61, true)), []⟩, ⟨(.some 66), (.aeq false [(.int .i64), (.int .i64)] (.tmp 63) (.tmp 65)), (.some (61, true)), []⟩, (qS 67 (.pick (.tmp 61) (.tmp 66) (.const (.bool false)))), (qS 68 (.mv (.tmp 67))), ⟨(.some 69), (.fieldA 10 (.tmp 2)), (.some (68, true)), []⟩, ⟨(.some 70), (.load 1 false (.tmp 69)), (.some (68, true)), []⟩, ⟨(.some 71), (.fieldA 10 (.tmp 3)), (.some (68, true)), []⟩, ⟨(.some 72), (.load 1 false (.tmp 71)), (.some (68, true)), []⟩, ⟨(.some 73), (.pu (.n (.ar .eql)) [(.tmp 70), (.tmp 72)]), (.some (68, true)), []⟩, (qS 74 (.pick (.tmp 68) (.tmp 73) (.const (.bool false)))), (qS 75 (.mv (.tmp 74))), ⟨(.some 76), (.fieldA 11 (.tmp 2)), (.some (75, true)), []⟩, ⟨(.some 77), (.load 1 false (.tmp 76)), (.some (75, true)), []⟩, ⟨(.some 78), (.fieldA 11 (.tmp 3)), (.some (75, true)), []⟩, ⟨(.some 79), (.load 1 false (.tmp 78)), (.some (75, true)), []⟩, ⟨(.some 80), (.pu (.n (.ar .eql)) [(.tmp 77), (.tmp 79)]), (.some (75, true)), []⟩, (qS 81 (.pick (.tmp 75) (.tmp 80) (.const (.bool false)))), (qS 4 (.mv (.tmp 81)))]) .ret)), [(.tmp 4)]⟩
set_option maxHeartbeats 10000000 in
theorem d_spec_l08SameOp {P : Program} {env : Env} {f_spec_l05Same : Nat}  (ep_spec_l05Same : env (2 * f_spec_l05Same) = pureFn true (FA fun a : List Int × List Int => p_spec_l05Same a.1 a.2)) (x0 : TOp) (x1 : TOp) {b : Bool} (hp : p_spec_l08SameOp x0 x1 = some b) : R P env (c_spec_l08SameOp f_spec_l05Same) ((encA (x0, x1)).map ofI) [] (Tells true b) := by
  refine R_of (by simp [c_spec_l08SameOp, encA]) ?_
  have E := ep_spec_l05Same
  unfold c_spec_l08SameOp
  unfold p_spec_l08SameOp at hp
  by_cases hb0 : (decide (x0.actor = x1.actor)) = true
  · rw [if_t hb0] at hp
    by_cases hb1 : (decide (x0.seq = x1.seq)) = true
    · rw [if_t hb1] at hp
      by_cases hb2 : (decide (x0.time = x1.time)) = true
      · rw [if_t hb2] at hp
        obtain ⟨v3, hv3, hp⟩ := bind_eq hp
        by_cases hb4 : (v3) = true
        · rw [if_t hb4] at hp
          by_cases hb5 : (decide (x0.kind = x1.kind)) = true
          · rw [if_t hb5] at hp
            by_cases hb6 : (decide (x0.obj = x1.obj)) = true
            · rw [if_t hb6] at hp
              by_cases hb7 : (decide (x0.n = x1.n)) = true
              · rw [if_t hb7] at hp
                by_cases hb8 : (decide (x0.undo = x1.undo)) = true
                · rw [if_t hb8] at hp
                  by_cases hb9 : ((decide (x0.at_.time = x1.at_.time) && decide (x0.at_.actor = x1.at_.actor))) = true
                  · rw [if_t hb9] at hp
                    by_cases hb10 : (decide (x0.key = x1.key)) = true
                    · rw [if_t hb10] at hp
                      have hp := Option.some.inj hp
                      subst hp
                      simp (maxSteps := 2000000) (disch := first|omega|(simp only[ls];first|done|omega)) only [E, hb0, hb1, hb2, hv3, hb4, hb5, hb6, hb7, hb8, hb9, hb10, gx, eta_T4, enc_T4, dec_T4, ret_four]
                    · replace hb10 := eq_false_of_ne_true hb10
                      rw [if_f hb10] at hp
                      have hp := Option.some.inj hp
                      subst hp
                      simp (maxSteps := 2000000) (disch := first|omega|(simp only[ls];first|done|omega)) only [E, hb0, hb1, hb2, hv3, hb4, hb5, hb6, hb7, hb8, hb9, hb10, gx, eta_T4, enc_T4, dec_T4, ret_four]
                  · replace hb9 := eq_false_of_ne_true hb9
                    rw [if_f hb9] at hp
                    have hp := Option.some.inj hp
                    subst hp
                    simp (maxSteps := 2000000) (disch := first|omega|(simp only[ls];first|done|omega)) only [E, hb0, hb1, hb2, hv3, hb4, hb5, hb6, hb7, hb8, hb9, gx, eta_T4, enc_T4, dec_T4, ret_four]
                · replace hb8 := eq_false_of_ne_true hb8
                  rw [if_f hb8] at hp
                  have hp := Option.some.inj hp
                  subst hp
                  simp (maxSteps := 2000000) (disch := first|omega|(simp only[ls];first|done|omega)) only [E, hb0, hb1, hb2, hv3, hb4, hb5, hb6, hb7, hb8, gx, eta_T4, enc_T4, dec_T4, ret_four]
              · replace hb7 := eq_false_of_ne_true hb7
                rw [if_f hb7] at hp
                have hp := Option.some.inj hp
                subst hp
                simp (maxSteps := 2000000) (disch := first|omega|(simp only[ls];first|done|omega)) only [E, hb0, hb1, hb2, hv3, hb4, hb5, hb6, hb7, gx, eta_T4, enc_T4, dec_T4, ret_four]
            · replace hb6 := eq_false_of_ne_true hb6
              rw [if_f hb6] at hp
              have hp := Option.some.inj hp
              subst hp
              simp (maxSteps := 2000000) (disch := first|omega|(simp only[ls];first|done|omega)) only [E, hb0, hb1, hb2, hv3, hb4, hb5, hb6, gx, eta_T4, enc_T4, dec_T4, ret_four]
          · replace hb5 := eq_false_of_ne_true hb5
            rw [if_f hb5] at hp
            have hp := Option.some.inj hp
            subst hp
            simp (maxSteps := 2000000) (disch := first|omega|(simp only[ls];first|done|omega)) only [E, hb0, hb1, hb2, hv3, hb4, hb5, gx, eta_T4, enc_T4, dec_T4, ret_four]
        · replace hb4 := eq_false_of_ne_true hb4
          rw [if_f hb4] at hp
          have hp := Option.some.inj hp
          subst hp
          simp (maxSteps := 2000000) (disch := first|omega|(simp only[ls];first|done|omega)) only [E, hb0, hb1, hb2, hv3, hb4, gx, eta_T4, enc_T4, dec_T4, ret_four]
      · replace hb2 := eq_false_of_ne_true hb2
        rw [if_f hb2] at hp
        have hp := Option.some.inj hp
        subst hp
        simp (maxSteps := 2000000) (disch := first|omega|(simp only[ls];first|done|omega)) only [E, hb0, hb1, hb2, gx, eta_T4, enc_T4, dec_T4, ret_four]
    · replace hb1 := eq_false_of_ne_true hb1
      rw [if_f hb1] at hp
      have hp := Option.some.inj hp
      subst hp
      simp (maxSteps := 2000000) (disch := first|omega|(simp only[ls];first|done|omega)) only [E, hb0, hb1, gx, eta_T4, enc_T4, dec_T4, ret_four]
  · replace hb0 := eq_false_of_ne_true hb0
    rw [if_f hb0] at hp
    have hp := Option.some.inj hp
    subst hp
    simp (maxSteps := 2000000) (disch := first|omega|(simp only[ls];first|done|omega)) only [E, hb0, gx, eta_T4, enc_T4, dec_T4, ret_four]

noncomputable def p_spec_l11Code_l0 (x0 : List TOp) (x1 : List TOp) : Int → Option (Lp (Int) Int)
  | s4 =>
    if (decide (s4 < (x0.length : Int))) = true then
      (get? x0 s4).bind fun v6 =>
      (p_spec_l08Find x1 v6.actor v6.seq).bind fun v7 =>
      if (decide (0 ≤ v7)) = true then
        (get? x1 v7).bind fun v9 =>
        (p_spec_l08SameOp v6 v9).bind fun v10 =>
        if (v10) = true then
          some (.go (w64 (s4 + 1)))
        else
          some (.ret 16)
      else
        some (.go (w64 (s4 + 1)))
    else
      some (.out s4)
noncomputable def p_spec_l11Code (x0 : List TOp) (x1 : List TOp) : Option Int :=
  (p_spec_LogOK x0).bind fun v0 =>
  if (v0) = true then
    (p_spec_LogOK x1).bind fun v2 =>
    if (v2) = true then
      (loopP (p_spec_l11Code_l0 x0 x1) 0).bind fun ee0 => match ee0 with
      | .ret r => some r
      | .out o12 =>
        some 0
    else
      some 1
  else
    some 1
def c_spec_l11Code (f_spec_LogOK : Nat) (f_spec_l08Find : Nat) (f_spec_l08SameOp : Nat) : AFn := ⟨47, (.seq (.ops [(qS 4 (.mv (ic 0)))]) (.seq (.seq (.ops [(qS 7 (.mv (.tmp 0))), (qS 8 (.call (2 * f_spec_LogOK) [(.tmp 7)])), (qS 9 (.pu (.n (.un .not)) [(.tmp 8)])), (qS 10 (.mv (.tmp 9))), ⟨(.some 11), (.mv (.tmp 1)), (.some (10, false)), []⟩, ⟨(.some 12), (.call (2 * f_spec_LogOK) [(.tmp 11)]), (.some (10, false)), []⟩, ⟨(.some 13), (.pu (.n (.un .not)) [(.tmp 12)]), (.some (10, false)), []⟩, (qS 14 (.pick (.tmp 10) (.const (.bool true)) (.tmp 13)))]) (.cond (.tmp 14) (.seq (.ops [(qS 4 (.mv (ic 1)))]) .ret) .skip)) (.seq (.seq (.ops [(qS 5 (.mv (ic 0)))]) (.block 0 (.loop (.seq (.seq (.ops [(qS 15 (.mv (.tmp 5))), (qS 16 (.mv (.tmp 0))), (qS 17 (.len (.tmp 16))), (qS 18 (.pu (.n (.ar .lss)) [(.tmp 15), (.tmp 17)]))]) (.cond (.tmp 18) .skip (.exit 0))) (.seq (.block 1 (.seq (.ops [(qS 21 (.mv (.tmp 1))), (qS 22 (.mv (.tmp 0))), (qS 23 (.mv (.tmp 5))), (qS 24 (.idxS 12 (.tmp 22) (.tmp 23))), (qS 25 (.fieldA 0 (.tmp 24))), (qS 26 (.load 1 false (.tmp 25))), (qS 27 (.mv (.tmp 0))), (qS 28 (.mv (.tmp 5))), (qS 29 (.idxS 12 (.tmp 27) (.tmp 28))), (qS 30 (.fieldA 1 (.tmp 29))), (qS 31 (.load 1 false (.tmp 30))), (qS 32 (.call (2 * f_spec_l08Find) [(.tmp 21), (.tmp 26), (.tmp 31)])), (qS 6 (.mv (.tmp 32)))]) (.seq (.ops [(qS 33 (.mv (.tmp 6))), (qS 34 (.pu (.n (.ar .geq)) [(.tmp 33), (ic 0)])), (qS 35 (.mv (.tmp 34))), ⟨(.some 36), (.mv (.tmp 0)), (.some (35, true)), []⟩, ⟨(.some 37), (.mv (.tmp 5)), (.some (35, true)), []⟩, ⟨(.some 38), (.idxS 12 (.tmp 36) (.tmp 37)), (.some (35, true)), []⟩, ⟨(.some 39), (.load 12 true (.tmp 38)), (.some (35, true)), []⟩, ⟨(.some 40), (.mv (.tmp 1)), (.some (35, true)), []⟩, ⟨(.some 41), (.mv (.tmp 6)), (.some (35, true)), []⟩, ⟨(.some 42), (.idxS 12 (.tmp 40) (.tmp 41)), (.some (35, true)), []⟩, ⟨(.some 43), (.load 12 true (.tmp 42)), (.some (35, true)), []⟩, ⟨(.some 44), (.call (2 * f_spec_l08SameOp) [(.tmp 39), (.tmp 43)]), (.some (35, true)), []⟩, ⟨(.some 45), (.pu (.n (.un .not)) [(.tmp 44)]), (.some (35, true)), []⟩, (qS 46 (.pick (.tmp 35) (.tmp 45) (.const (.bool false))))]) (.cond (.tmp 46) (.seq (.ops [(qS 4 (.mv (ic 16)))]) .ret) .skip)))) (.ops [(qS 19 (.mv (.tmp 5))), (qS 20 (.pu (.n (.ar .add)) [(.tmp 19), (ic 1)])), (qS 5 (.mv (.tmp 20)))])))))) (.seq (.ops [(qS 4 (.mv (ic 0)))]) .ret)))), [(.tmp 4)]⟩
set_option maxHeartbeats 10000000 in
theorem d_spec_l11Code {P : Program} {env : Env} {f_spec_LogOK : Nat} {f_spec_l08Find : Nat} {f_spec_l08SameOp : Nat}  (ep_spec_LogOK : env (2 * f_spec_LogOK) = pureFn true (FA fun a : List TOp => p_spec_LogOK a)) (ep_spec_l08Find : env (2 * f_spec_l08Find) = pureFn true (FA fun a : List TOp × Int × Int => p_spec_l08Find a.1 a.2.1 a.2.2)) (ep_spec_l08SameOp : env (2 * f_spec_l08SameOp) = pureFn true (FA fun a : TOp × TOp => p_spec_l08SameOp a.1 a.2)) (x0 : List TOp) (x1 : List TOp) {b : Int} (hp : p_spec_l11Code x0 x1 = some b) : R P env (c_spec_l11Code f_spec_LogOK f_spec_l08Find f_spec_l08SameOp) ((encA (x0, x1)).map ofI) [] (Tells true b) := by
  refine R_of (by simp [c_spec_l11Code, encA]) ?_
  have E := And.intro opc (And.intro ep_spec_LogOK (And.intro ep_spec_l08Find ep_spec_l08SameOp))
  unfold c_spec_l11Code
  unfold p_spec_l11Code at hp
  obtain ⟨v0, hv0, hp⟩ := bind_eq hp
  by_cases hb1 : (v0) = true
  · rw [if_t hb1] at hp
    obtain ⟨v2, hv2, hp⟩ := bind_eq hp
    by_cases hb3 : (v2) = true
    · rw [if_t hb3] at hp
      obtain ⟨ee0, hee0, hp⟩ := bind_eq hp
      simp (maxSteps := 2000000) (disch := first|omega|(simp only[ls];first|done|omega)) only [E, hv0, hb1, hv2, hb3, gx, eta_T4, enc_T4, dec_T4, ret_four]
      refine W_loopP 0 (fun s t h => match s with | s4 => t 0 = .i (.sl 12 (x0.map enc)) ∧ t 1 = .i (.sl 12 (x1.map enc)) ∧ t 5 = .i (.s (.int .i64 s4))) (RK [.tmp 4] (Tells true)) ?_ hee0 ?_ ?_
      · rintro s4 ee tt0 hh0 ⟨ftt0_0, ftt0_1, ftt0_2⟩ hp
        rw [p_spec_l11Code_l0] at hp
        by_cases hb5 : (decide (s4 < (x0.length : Int))) = true
        · rw [if_t hb5] at hp
          obtain ⟨v6, hv6, hp⟩ := bind_eq hp
          obtain ⟨v7, hv7, hp⟩ := bind_eq hp
          by_cases hb8 : (decide (0 ≤ v7)) = true
          · rw [if_t hb8] at hp
            obtain ⟨v9, hv9, hp⟩ := bind_eq hp
            obtain ⟨v10, hv10, hp⟩ := bind_eq hp
            by_cases hb11 : (v10) = true
            · rw [if_t hb11] at hp
              have hp := Option.some.inj hp
              subst hp
              simp (maxSteps := 2000000) (disch := first|omega|(simp only[ls];first|done|omega)) only [E, hv0, hb1, hv2, hb3, ftt0_0, ftt0_1, ftt0_2, hb5, hv6, hv7, hb8, hv9, hv10, hb11, gx, eta_T4, enc_T4, dec_T4, ret_four] <;> omega
            · replace hb11 := eq_false_of_ne_true hb11
              rw [if_f hb11] at hp
              have hp := Option.some.inj hp
              subst hp
              simp (maxSteps := 2000000) (disch := first|omega|(simp only[ls];first|done|omega)) only [E, hv0, hb1, hv2, hb3, ftt0_0, ftt0_1, ftt0_2, hb5, hv6, hv7, hb8, hv9, hv10, hb11, gx, eta_T4, enc_T4, dec_T4, ret_four]
          · replace hb8 := eq_false_of_ne_true hb8
            rw [if_f hb8] at hp
            have hp := Option.some.inj hp
            subst hp
            simp (maxSteps := 2000000) (disch := first|omega|(simp only[ls];first|done|omega)) only [E, hv0, hb1, hv2, hb3, ftt0_0, ftt0_1, ftt0_2, hb5, hv6, hv7, hb8, gx, eta_T4, enc_T4, dec_T4, ret_four] <;> omega
        · replace hb5 := eq_false_of_ne_true hb5
          rw [if_f hb5] at hp
          have hp := Option.some.inj hp
          subst hp
          simp (maxSteps := 2000000) (disch := first|omega|(simp only[ls];first|done|omega)) only [E, hv0, hb1, hv2, hb3, ftt0_0, ftt0_1, ftt0_2, hb5, gx, eta_T4, enc_T4, dec_T4, ret_four] <;> omega
      · simp (maxSteps := 2000000) (disch := first|omega|(simp only[ls];first|done|omega)) only [E, hv0, hb1, hv2, hb3, gx, eta_T4, enc_T4, dec_T4, ret_four] <;> omega
      · intro x tt1 hh1 hx
        rcases ee0 with o12 | r
        · obtain ⟨rfl, ftt1_0, ftt1_1, ftt1_2⟩ := hx
          dsimp only at hp
          have hp := Option.some.inj hp
          subst hp
          simp (maxSteps := 2000000) (disch := first|omega|(simp only[ls];first|done|omega)) only [E, hv0, hb1, hv2, hb3, ftt1_0, ftt1_1, ftt1_2, gx, eta_T4, enc_T4, dec_T4, ret_four]
        · obtain ⟨rfl, hx⟩ := hx
          dsimp only at hp
          cases hp
          simp only [seqK_ret, blockK_ret, retK_RK (K := Tells true), hx, and_self, true_and]
    · replace hb3 := eq_false_of_ne_true hb3
      rw [if_f hb3] at hp
      have hp := Option.some.inj hp
      subst hp
      simp (maxSteps := 2000000) (disch := first|omega|(simp only[ls];first|done|omega)) only [E, hv0, hb1, hv2, hb3, gx, eta_T4, enc_T4, dec_T4, ret_four]
  · replace hb1 := eq_false_of_ne_true hb1
    rw [if_f hb1] at hp
    have hp := Option.some.inj hp
    subst hp
    simp (maxSteps := 2000000) (disch := first|omega|(simp only[ls];first|done|omega)) only [E, hv0, hb1, gx, eta_T4, enc_T4, dec_T4, ret_four]

noncomputable def p_spec_l08KindFits_l0 (x0 : List TOp) (x1 : TOp) : Int → Option (Lp (Int) Bool)
  | s0 =>
    if (decide (s0 < (x0.length : Int))) = true then
      (get? x0 s0).bind fun v2 =>
      if (decide (v2.obj = x1.obj)) = true then
        (p_spec_l08Thing v2.kind).bind fun v4 =>
        (p_spec_l08Thing x1.kind).bind fun v5 =>
        if (decide (v4 = v5)) = true then
          some (.go (w64 (s0 + 1)))
        else
          some (.ret false)
      else
        some (.go (w64 (s0 + 1)))
    else
      some (.out s0)
noncomputable def p_spec_l08KindFits (x0 : List TOp) (x1 : TOp) : Option Bool :=
  (loopP (p_spec_l08KindFits_l0 x0 x1) 0).bind fun ee0 => match ee0 with
  | .ret r => some r
  | .out o7 =>
    some true
def c_spec_l08KindFits (f_spec_l08Thing : Nat) : AFn := ⟨32, (.seq (.ops [(qS 3 (.box (.tmp 1))), (qS 4 (.mv (.const (.bool false))))]) (.seq (.seq (.ops [(qS 5 (.mv (ic 0)))]) (.block 0 (.loop (.seq (.seq (.ops [(qS 6 (.mv (.tmp 5))), (qS 7 (.mv (.tmp 0))), (qS 8 (.len (.tmp 7))), (qS 9 (.pu (.n (.ar .lss)) [(.tmp 6), (.tmp 8)]))]) (.cond (.tmp 9) .skip (.exit 0))) (.seq (.block 1 (.seq (.ops [(qS 12 (.mv (.tmp 0))), (qS 13 (.mv (.tmp 5))), (qS 14 (.idxS 12 (.tmp 12) (.tmp 13))), (qS 15 (.fieldA 5 (.tmp 14))), (qS 16 (.load 1 false (.tmp 15))), (qS 17 (.fieldA 5 (.tmp 3))), (qS 18 (.load 1 false (.tmp 17))), (qS 19 (.pu (.n (.ar .eql)) [(.tmp 16), (.tmp 18)])), (qS 20 (.mv (.tmp 19))), ⟨(.some 21), (.mv (.tmp 0)), (.some (20, true)), []⟩, ⟨(.some 22), (.mv (.tmp 5)), (.some (20, true)), []⟩, ⟨(.some 23), (.idxS 12 (.tmp 21) (.tmp 22)), (.some (20, true)), []⟩, ⟨(.some 24), (.fieldA 4 (.tmp 23)), (.some (20, true)), []⟩, ⟨(.some 25), (.load 1 false (.tmp 24)), (.some (20, true)), []⟩, ⟨(.some 26), (.call (2 * f_spec_l08Thing) [(.tmp 25)]), (.some (20, true)), []⟩, ⟨(.some 27), (.fieldA 4 (.tmp 3)), (.some (20, true)), []⟩, ⟨(.some 28), (.load 1 false (.tmp 27)), (.some (20, true)), []⟩, ⟨(.some 29), (.call (2 * f_spec_l08Thing) [(.tmp 28)]), (.some (20, true)), []⟩, ⟨(.some 30), (.pu (.n (.ar .neq)) [(.tmp 26), (.tmp 29)]), (.some (20, true)), []⟩, (qS 31 (.pick (.tmp 20) (.tmp 30) (.const (.bool false))))]) (.cond (.tmp 31) (.seq (.ops [(qS 4 (.mv (.const (.bool false))))]) .ret) .skip))) (.ops [(qS 10 (.mv (.tmp 5))), (qS 11 (.pu (.n (.ar .add)) [(.tmp 10), (ic 1)])), (qS 5 (.mv (.tmp 11)))])))))) (.seq (.ops [(qS 4 (.mv (.const (.bool true))))]) .ret))), [(.tmp 4)]⟩
set_option maxHeartbeats 10000000 in
theorem d_spec_l08KindFits {P : Program} {env : Env} {f_spec_l08Thing : Nat}  (ep_spec_l08Thing : env (2 * f_spec_l08Thing) = pureFn true (FA fun a : Int => p_spec_l08Thing a)) (x0 : List TOp) (x1 : TOp) {b : Bool} (hp : p_spec_l08KindFits x0 x1 = some b) : R P env (c_spec_l08KindFits f_spec_l08Thing) ((encA (x0, x1)).map ofI) [] (Tells true b) := by
  refine R_of (by simp [c_spec_l08KindFits, encA]) ?_
  have E := ep_spec_l08Thing
  unfold c_spec_l08KindFits
  unfold p_spec_l08KindFits at hp
  obtain ⟨ee0, hee0, hp⟩ := bind_eq hp
  simp (maxSteps := 2000000) (disch := first|omega|(simp only[ls];first|done|omega)) only [E, gx, eta_T4, enc_T4, dec_T4, ret_four]
  refine W_loopP 0 (fun s t h => match s with | s0 => t 0 = .i (.sl 12 (x0.map enc)) ∧ t 3 = .ptr 0 12 0 ∧ t 5 = .i (.s (.int .i64 s0)) ∧ getCells h 0 12 = some [.i (.s (.int .i64 x1.actor)), .i (.s (.int .i64 x1.seq)), .i (.s (.int .i64 x1.time)), .i (.sl 1 (x1.deps.counts.map enc)), .i (.s (.int .i64 x1.kind)), .i (.s (.int .i64 x1.obj)), .i (.s (.int .i64 x1.n)), .i (.s (.int .i64 x1.undo)), .i (.s (.int .i64 x1.at_.time)), .i (.s (.int .i64 x1.at_.actor)), .i (.s (.string x1.key)), .i (.s (.string x1.text))] ∧ 0 < h.length) (RK [.tmp 4] (Tells true)) ?_ hee0 ?_ ?_
  · rintro s0 ee tt0 hh0 ⟨ftt0_0, ftt0_1, ftt0_2, ftt0_3, ftt0_4⟩ hp
    rw [p_spec_l08KindFits_l0] at hp
    by_cases hb1 : (decide (s0 < (x0.length : Int))) = true
    · rw [if_t hb1] at hp
      obtain ⟨v2, hv2, hp⟩ := bind_eq hp
      by_cases hb3 : (decide (v2.obj = x1.obj)) = true
      · rw [if_t hb3] at hp
        obtain ⟨v4, hv4, hp⟩ := bind_eq hp
        obtain ⟨v5, hv5, hp⟩ := bind_eq hp
        by_cases hb6 : (decide (v4 = v5)) = true
        · rw [if_t hb6] at hp
          have hp := Option.some.inj hp
          subst hp
          simp (maxSteps := 2000000) (disch := first|omega|(simp only[ls];first|done|omega)) only [E, ftt0_0, ftt0_1, ftt0_2, ftt0_3, ftt0_4, hb1, hv2, hb3, hv4, hv5, hb6, gx, eta_T4, enc_T4, dec_T4, ret_four] <;> omega
        · replace hb6 := eq_false_of_ne_true hb6
          rw [if_f hb6] at hp
          have hp := Option.some.inj hp
          subst hp
          simp (maxSteps := 2000000) (disch := first|omega|(simp only[ls];first|done|omega)) only [E, ftt0_0, ftt0_1, ftt0_2, ftt0_3, ftt0_4, hb1, hv2, hb3, hv4, hv5, hb6, gx, eta_T4, enc_T4, dec_T4, ret_four]
      · replace hb3 := eq_false_of_ne_true hb3
        rw [if_f hb3] at hp
        have hp := Option.some.inj hp
        subst hp
        simp (maxSteps := 2000000) (disch := first|omega|(simp only[ls];first|done|omega)) only [E, ftt0_0, ftt0_1, ftt0_2, ftt0_3, ftt0_4, hb1, hv2, hb3, gx, eta_T4, enc_T4, dec_T4, ret_four] <;> omega
    · replace hb1 := eq_false_of_ne_true hb1
      rw [if_f hb1] at hp
      have hp := Option.some.inj hp
      subst hp
      simp (maxSteps := 2000000) (disch := first|omega|(simp only[ls];first|done|omega)) only [E, ftt0_0, ftt0_1, ftt0_2, ftt0_3, ftt0_4, hb1, gx, eta_T4, enc_T4, dec_T4, ret_four] <;> omega
  · simp (maxSteps := 2000000) (disch := first|omega|(simp only[ls];first|done|omega)) only [E, gx, eta_T4, enc_T4, dec_T4, ret_four] <;> omega
  · intro x tt1 hh1 hx
    rcases ee0 with o7 | r
    · obtain ⟨rfl, ftt1_0, ftt1_1, ftt1_2, ftt1_3, ftt1_4⟩ := hx
      dsimp only at hp
      have hp := Option.some.inj hp
      subst hp
      simp (maxSteps := 2000000) (disch := first|omega|(simp only[ls];first|done|omega)) only [E, ftt1_0, ftt1_1, ftt1_2, ftt1_3, ftt1_4, gx, eta_T4, enc_T4, dec_T4, ret_four]
    · obtain ⟨rfl, hx⟩ := hx
      dsimp only at hp
      cases hp
      simp only [seqK_ret, blockK_ret, retK_RK (K := Tells true), hx, and_self, true_and]

noncomputable def p_spec_l02Copy (x0 : TVec) : Option TVec :=
  (app? 8 ([] : List Int) x0.counts).bind fun v0 =>
  some (TVec.mk v0)
def c_spec_l02Copy : AFn := ⟨8, (.seq (.ops [(qS 1 (.box (.tmp 0))), (qS 2 (.allocV [(1, false)] [(.slice .none 0 0)]))]) (.seq (.ops [(qS 3 (.buildSl 1 false 0 [(.int .i64 0)] [])), (qS 4 (.fieldA 0 (.tmp 1))), (qS 5 (.load 1 false (.tmp 4))), (qS 6 (.append 1 false 8 (.tmp 3) (.tmp 5))), (qS 7 (.build [(.slice .none 0 0)] [(0, (1, (.tmp 6)))])), ⟨.none, (.storeV [(1, false)] 1 (.tmp 2) (.tmp 7)), .none, []⟩]) .ret)), [(.cell 2 1 true)]⟩
def o_spec_l02Copy (b : TVec) (v : V) (h : Heap) : Prop := ∃ n0 : Nat, v = .agg [.hsl n0 b.counts.length 0 1 false b.counts.length] ∧ getCells h n0 b.counts.length = some (rows b.counts)
def oo_spec_l02Copy (b : TVec) (h : Heap) (v : V) (h2 : Heap) : Prop := Keep [] h h2 ∧ ∃ n0 : Nat, v = .agg [.hsl n0 b.counts.length 0 1 false b.counts.length] ∧ n0 < h2.length ∧ h.length ≤ n0 ∧ getCells h2 n0 b.counts.length = some (rows b.counts)
def k_spec_l02Copy (F : Fun) : Prop := ∀ (x0 : TVec) (b : TVec), p_spec_l02Copy x0 = some b → ∀ (h : Heap) (args : List V), snapA 9 false h args = some (encA (x0)) → ∃ p, F none args h = some p ∧ oo_spec_l02Copy b h p.1 p.2
set_option maxHeartbeats 10000000 in
theorem w_spec_l02Copy {P : Program} {env : Env}  (x0 : TVec) {b : TVec} (hp : p_spec_l02Copy x0 = some b) : R P env (c_spec_l02Copy) ((encA (x0)).map ofI) [] (o_spec_l02Copy b) := by
  refine R_of (by simp [c_spec_l02Copy, encA]) ?_
  unfold c_spec_l02Copy
  unfold p_spec_l02Copy at hp
  obtain ⟨v0, hv0, hp⟩ := bind_eq hp
  simp (maxSteps := 2000000) (disch := first|omega|(simp only[ls];first|done|omega)) only [gx, eta_T4, enc_T4, dec_T4, ret_four]
  refine app_f (b := 3) (xs := ([] : List Int)) (ys := x0.counts) (fun h => getCells h 0 1 = some [.i (.sl 1 (x0.counts.map enc))] ∧ 0 < h.length ∧ getCells h 1 0 = some [] ∧ 1 < h.length ∧ getCells h 2 1 = some [.hsl 1 0 0 1 false 0] ∧ 2 < h.length ∧ getCells h 3 0 = some [] ∧ 3 < h.length) ?_ ?_ hv0 rfl (by first | rfl | omega | (simp; omega)) (by first | rfl | omega | (simp; omega)) (by first | rfl | omega | (simp; omega)) ?_
  · simp (maxSteps := 2000000) (disch := first|omega|(simp only[ls];first|done|omega)) only [hv0, gx, eta_T4, enc_T4, dec_T4, ret_four] <;> omega
  · rintro h ⟨c0_0, c0_1, c0_2, c0_3, c0_4, c0_5, c0_6, c0_7⟩
    exact gc_eq c0_6 (by omega)
  · rintro h hh0 ⟨c0_0, c0_1, c0_2, c0_3, c0_4, c0_5, c0_6, c0_7⟩ kk0 w0
    have d0_0 : getCells hh0 0 1 = some [.i (.sl 1 (x0.counts.map enc))] := (keep_get kk0 c0_1 (by first | (simp; done) | (simp; omega))).trans c0_0
    have d0_0l := keep_lt kk0 c0_1
    have d0_1 : getCells hh0 1 0 = some [] := (keep_get kk0 c0_3 (by first | (simp; done) | (simp; omega))).trans c0_2
    have d0_1l := keep_lt kk0 c0_3
    have d0_2 : getCells hh0 2 1 = some [.hsl 1 0 0 1 false 0] := (keep_get kk0 c0_5 (by first | (simp; done) | (simp; omega))).trans c0_4
    have d0_2l := keep_lt kk0 c0_5
    have d0_3 : getCells hh0 3 v0.length = some (rows (v0 : List Int)) := by simpa only [Nat.mul_one] using w0
    have d0_3l := keep_lt kk0 c0_7
    have hp := Option.some.inj hp
    subst hp
    simp (maxSteps := 2000000) (disch := first|omega|(simp only[ls];first|done|omega)) only [hv0, d0_0, d0_1, d0_2, d0_3, gx, eta_T4, enc_T4, dec_T4, ret_four]
    refine ⟨3, ?_⟩
    simp (maxSteps := 2000000) (disch := first|omega|(simp only[ls];first|done|omega)) only [hv0, d0_0, d0_1, d0_2, d0_3, o_spec_l02Copy, gx, eta_T4, enc_T4, dec_T4, ret_four] <;> omega
theorem ko_spec_l02Copy {P : Program} {env : Env}  : k_spec_l02Copy (ownFn P env (c_spec_l02Copy)) := by
  intro x0 b hp h args has
  obtain ⟨⟨v, H2⟩, hr, n0, rfl, wn0⟩ := w_spec_l02Copy x0 hp
  exact ⟨_, own_call has hr rfl, keep_moved, n0 + h.length, rfl, (moved_lt wn0).2, (moved_lt wn0).1, moved_rows wn0⟩

noncomputable def p_spec_l08CopyOp (x0 : TOp) : Option TOp :=
  (p_spec_l02Copy x0.deps).bind fun v0 =>
  some (TOp.mk x0.actor x0.seq x0.time v0 x0.kind x0.obj x0.n x0.undo x0.at_ x0.key x0.text)
def c_spec_l08CopyOp (f_spec_l02Copy : Nat) : AFn := ⟨8, (.seq (.ops [(qS 1 (.box (.tmp 0))), (qS 2 (.allocV [(0, false), (0, false), (0, false), (1, false), (0, false), (0, false), (0, false), (0, false), (0, false), (0, false), (0, false), (0, false)] [(.int .i64 0), (.int .i64 0), (.int .i64 0), (.slice .none 0 0), (.int .i64 0), (.int .i64 0), (.int .i64 0), (.int .i64 0), (.int .i64 0), (.int .i64 0), (.string ⟨#[]⟩), (.string ⟨#[]⟩)]))]) (.seq (.ops [(qS 3 (.fieldA 3 (.tmp 1))), (qS 4 (.load 1 true (.tmp 3))), (qS 5 (.call (2 * f_spec_l02Copy + 1) [(.tmp 4)])), (qS 6 (.fieldA 3 (.tmp 1))), ⟨.none, (.storeV [(1, false)] 1 (.tmp 6) (.tmp 5)), .none, []⟩]) (.seq (.ops [(qS 7 (.load 12 true (.tmp 1))), ⟨.none, (.storeV [(0, false), (0, false), (0, false), (1, false), (0, false), (0, false), (0, false), (0, false), (0, false), (0, false), (0, false), (0, false)] 12 (.tmp 2) (.tmp 7)), .none, []⟩]) .ret))), [(.cell 2 12 true)]⟩
set_option maxHeartbeats 10000000 in
theorem d_spec_l08CopyOp {P : Program} {env : Env} {f_spec_l02Copy : Nat}  (e_spec_l02Copy : k_spec_l02Copy (env (2 * f_spec_l02Copy + 1))) (x0 : TOp) {b : TOp} (hp : p_spec_l08CopyOp x0 = some b) : R P env (c_spec_l08CopyOp f_spec_l02Copy) ((encA (x0)).map ofI) [] (Tells true b) := by
  refine R_of (by simp [c_spec_l08CopyOp, encA]) ?_
  have E := opc
  unfold c_spec_l08CopyOp
  unfold p_spec_l08CopyOp at hp
  obtain ⟨v0, hv0, hp⟩ := bind_eq hp
  simp (maxSteps := 2000000) (disch := first|omega|(simp only[ls];first|done|omega)) only [E, gx, eta_T4, enc_T4, dec_T4, ret_four]
  refine call_f (fun h => getCells h 0 12 = some [.i (.s (.int .i64 x0.actor)), .i (.s (.int .i64 x0.seq)), .i (.s (.int .i64 x0.time)), .i (.sl 1 (x0.deps.counts.map enc)), .i (.s (.int .i64 x0.kind)), .i (.s (.int .i64 x0.obj)), .i (.s (.int .i64 x0.n)), .i (.s (.int .i64 x0.undo)), .i (.s (.int .i64 x0.at_.time)), .i (.s (.int .i64 x0.at_.actor)), .i (.s (.string x0.key)), .i (.s (.string x0.text))] ∧ 0 < h.length ∧ getCells h 1 0 = some [] ∧ 1 < h.length ∧ getCells h 2 12 = some [.i (.s (.int .i64 0)), .i (.s (.int .i64 0)), .i (.s (.int .i64 0)), .hsl 1 0 0 1 false 0, .i (.s (.int .i64 0)), .i (.s (.int .i64 0)), .i (.s (.int .i64 0)), .i (.s (.int .i64 0)), .i (.s (.int .i64 0)), .i (.s (.int .i64 0)), .i (.s (.string (ByteArray.mk #[]))), .i (.s (.string (ByteArray.mk #[])))] ∧ 2 < h.length) (fun h v h2 => oo_spec_l02Copy v0 h v h2) ?_ ?_ ?_
  · simp (maxSteps := 2000000) (disch := first|omega|(simp only[ls];first|done|omega)) only [E, hv0, gx, eta_T4, enc_T4, dec_T4, ret_four] <;> omega
  · rintro h ⟨c0_0, c0_1, c0_2, c0_3, c0_4, c0_5⟩
    exact e_spec_l02Copy _ _ hv0 h _ (by simp (maxSteps := 2000000) (disch := first|omega|(simp only[ls];first|done|omega)) only [E, hv0, c0_0, c0_1, c0_2, c0_3, c0_4, c0_5, gx, eta_T4, enc_T4, dec_T4, ret_four])
  · rintro hc0 v hh0 ⟨c0_0, c0_1, c0_2, c0_3, c0_4, c0_5⟩ hpost
    obtain ⟨kk0, nb0_0, rfl, lnb0_0, gnb0_0, wnb0_0⟩ := hpost
    have d0_0 : getCells hh0 0 12 = some [.i (.s (.int .i64 x0.actor)), .i (.s (.int .i64 x0.seq)), .i (.s (.int .i64 x0.time)), .i (.sl 1 (x0.deps.counts.map enc)), .i (.s (.int .i64 x0.kind)), .i (.s (.int .i64 x0.obj)), .i (.s (.int .i64 x0.n)), .i (.s (.int .i64 x0.undo)), .i (.s (.int .i64 x0.at_.time)), .i (.s (.int .i64 x0.at_.actor)), .i (.s (.string x0.key)), .i (.s (.string x0.text))] := (keep_get kk0 c0_1 (by first | (simp; done) | (simp; omega))).trans c0_0
    have d0_0l := keep_lt kk0 c0_1
    have d0_1 : getCells hh0 1 0 = some [] := (keep_get kk0 c0_3 (by first | (simp; done) | (simp; omega))).trans c0_2
    have d0_1l := keep_lt kk0 c0_3
    have d0_2 : getCells hh0 2 12 = some [.i (.s (.int .i64 0)), .i (.s (.int .i64 0)), .i (.s (.int .i64 0)), .hsl 1 0 0 1 false 0, .i (.s (.int .i64 0)), .i (.s (.int .i64 0)), .i (.s (.int .i64 0)), .i (.s (.int .i64 0)), .i (.s (.int .i64 0)), .i (.s (.int .i64 0)), .i (.s (.string (ByteArray.mk #[]))), .i (.s (.string (ByteArray.mk #[])))] := (keep_get kk0 c0_5 (by first | (simp; done) | (simp; omega))).trans c0_4
    have d0_2l := keep_lt kk0 c0_5
    have d0_3 := wnb0_0
    have hp := Option.some.inj hp
    subst hp
    simp (maxSteps := 2000000) (disch := first|omega|(simp only[ls];first|done|omega)) only [E, hv0, d0_0, d0_1, d0_2, d0_3, gx, eta_T4, enc_T4, dec_T4, ret_four]

noncomputable def p_spec_l08Copy_l0 (x0 : List TOp) : List TOp × Int → Option (Lp (List TOp × Int) (List TOp))
  | (s0, s1) =>
    if (decide (s1 < (x0.length : Int))) = true then
      (get? x0 s1).bind fun v3 =>
      (p_spec_l08CopyOp v3).bind fun v4 =>
      (app? 128 s0 ([v4])).bind fun v5 =>
      some (.go (v5, w64 (s1 + 1)))
    else
      some (.out (s0, s1))
noncomputable def p_spec_l08Copy (x0 : List TOp) : Option (List TOp) :=
  (loopP (p_spec_l08Copy_l0 x0) (([] : List TOp), 0)).bind fun ee0 => match ee0 with
  | .ret r => some r
  | .out (o6, o7) =>
    some o6
def c_spec_l08Copy (f_spec_l08CopyOp : Nat) : AFn := ⟨21, (.seq (.ops [(qS 2 (.vnil 12 true))]) (.seq (.ops [(qS 5 (.buildSl 12 true 0 [(.int .i64 0), (.int .i64 0), (.int .i64 0), (.slice .none 0 0), (.int .i64 0), (.int .i64 0), (.int .i64 0), (.int .i64 0), (.int .i64 0), (.int .i64 0), (.string ⟨#[]⟩), (.string ⟨#[]⟩)] [])), (qS 3 (.mv (.tmp 5)))]) (.seq (.seq (.ops [(qS 4 (.mv (ic 0)))]) (.block 0 (.loop (.seq (.seq (.ops [(qS 6 (.mv (.tmp 4))), (qS 7 (.mv (.tmp 0))), (qS 8 (.len (.tmp 7))), (qS 9 (.pu (.n (.ar .lss)) [(.tmp 6), (.tmp 8)]))]) (.cond (.tmp 9) .skip (.exit 0))) (.seq (.block 1 (.ops [(qS 12 (.mv (.tmp 3))), (qS 13 (.mv (.tmp 0))), (qS 14 (.mv (.tmp 4))), (qS 15 (.idxS 12 (.tmp 13) (.tmp 14))), (qS 16 (.load 12 true (.tmp 15))), (qS 17 (.call (2 * f_spec_l08CopyOp) [(.tmp 16)])), (qS 18 (.buildSl 12 true 1 [(.int .i64 0), (.int .i64 0), (.int .i64 0), (.slice .none 0 0), (.int .i64 0), (.int .i64 0), (.int .i64 0), (.int .i64 0), (.int .i64 0), (.int .i64 0), (.string ⟨#[]⟩), (.string ⟨#[]⟩)] [(0, (.tmp 17))])), (qS 19 (.append 12 true 128 (.tmp 12) (.tmp 18))), (qS 3 (.mv (.tmp 19)))])) (.ops [(qS 10 (.mv (.tmp 4))), (qS 11 (.pu (.n (.ar .add)) [(.tmp 10), (ic 1)])), (qS 4 (.mv (.tmp 11)))])))))) (.seq (.ops [(qS 20 (.mv (.tmp 3))), (qS 2 (.mv (.tmp 20)))]) .ret)))), [(.tmp 2)]⟩
set_option maxHeartbeats 10000000 in
theorem d_spec_l08Copy {P : Program} {env : Env} {f_spec_l08CopyOp : Nat}  (ep_spec_l08CopyOp : env (2 * f_spec_l08CopyOp) = pureFn true (FA fun a : TOp => p_spec_l08CopyOp a)) (x0 : List TOp) {b : List TOp} (hp : p_spec_l08Copy x0 = some b) : R P env (c_spec_l08Copy f_spec_l08CopyOp) ((encA (x0)).map ofI) [] (Tells false b) := by
  refine R_of (by simp [c_spec_l08Copy, encA]) ?_
  have E := And.intro opc ep_spec_l08CopyOp
  unfold c_spec_l08Copy
  unfold p_spec_l08Copy at hp
  obtain ⟨ee0, hee0, hp⟩ := bind_eq hp
  simp (maxSteps := 2000000) (disch := first|omega|(simp only[ls];first|done|omega)) only [E, gx, eta_T4, enc_T4, dec_T4, ret_four]
  refine W_loopP 0 (fun s t h => match s with | (s0, s1) => t 0 = .i (.sl 12 (x0.map enc)) ∧ t 3 = .hsl 1 (s0.length * 12) 0 12 true s0.length ∧ t 4 = .i (.s (.int .i64 s1)) ∧ getCells h 1 (s0.length * 12) = some (rows (s0 : List TOp)) ∧ 1 < h.length) (RK [.tmp 2] (Tells false)) ?_ hee0 ?_ ?_
  · rintro ⟨s0, s1⟩ ee tt0 hh0 ⟨ftt0_0, ftt0_1, ftt0_2, ftt0_3, ftt0_4⟩ hp
    rw [p_spec_l08Copy_l0] at hp
    by_cases hb2 : (decide (s1 < (x0.length : Int))) = true
    · rw [if_t hb2] at hp
      obtain ⟨v3, hv3, hp⟩ := bind_eq hp
      obtain ⟨v4, hv4, hp⟩ := bind_eq hp
      obtain ⟨v5, hv5, hp⟩ := bind_eq hp
      obtain ⟨kv5, qv5, lv5⟩ := app_some hv5
      have rv5 : rows s0 ++ [.i (.s (.int .i64 v4.actor)), .i (.s (.int .i64 v4.seq)), .i (.s (.int .i64 v4.time)), .i (.sl 1 (v4.deps.counts.map enc)), .i (.s (.int .i64 v4.kind)), .i (.s (.int .i64 v4.obj)), .i (.s (.int .i64 v4.n)), .i (.s (.int .i64 v4.undo)), .i (.s (.int .i64 v4.at_.time)), .i (.s (.int .i64 v4.at_.actor)), .i (.s (.string v4.key)), .i (.s (.string v4.text))] = rows v5 := by rw [qv5, rows_append]; rfl
      have mv5 : s0.length + 1 = v5.length := by simp at lv5; omega
      have nv5 : (s0.length + 1) * 128 ≤ 140737488355328 := by simp at kv5; omega
      have hp := Option.some.inj hp
      subst hp
      simp (maxSteps := 2000000) (disch := first|omega|(simp only[ls];first|done|omega)) only [E, ftt0_0, ftt0_1, ftt0_2, ftt0_3, ftt0_4, hb2, hv3, hv4, hv5, rv5, nv5, gx, eta_T4, enc_T4, dec_T4, ret_four] <;> omega
    · replace hb2 := eq_false_of_ne_true hb2
      rw [if_f hb2] at hp
      have hp := Option.some.inj hp
      subst hp
      simp (maxSteps := 2000000) (disch := first|omega|(simp only[ls];first|done|omega)) only [E, ftt0_0, ftt0_1, ftt0_2, ftt0_3, ftt0_4, hb2, gx, eta_T4, enc_T4, dec_T4, ret_four] <;> omega
  · simp (maxSteps := 2000000) (disch := first|omega|(simp only[ls];first|done|omega)) only [E, gx, eta_T4, enc_T4, dec_T4, ret_four] <;> omega
  · intro x tt1 hh1 hx
    rcases ee0 with ⟨o6, o7⟩ | r
    · obtain ⟨rfl, ftt1_0, ftt1_1, ftt1_2, ftt1_3, ftt1_4⟩ := hx
      dsimp only at hp
      have hp := Option.some.inj hp
      subst hp
      simp (maxSteps := 2000000) (disch := first|omega|(simp only[ls];first|done|omega)) only [E, ftt1_0, ftt1_1, ftt1_2, ftt1_3, ftt1_4, gx, eta_T4, enc_T4, dec_T4, ret_four]
    · obtain ⟨rfl, hx⟩ := hx
      dsimp only at hp
      cases hp
      simp only [seqK_ret, blockK_ret, retK_RK (K := Tells false), hx, and_self, true_and]

noncomputable def p_spec_l08Insert_l0 (x0 : List TOp) (x1 : TOp) : Int → Option (Lp (Int) (List TOp))
  | s0 =>
    if (decide (s0 < (x0.length : Int))) = true then
      (get? x0 s0).bind fun v2 =>
      if (decide (v2.actor < x1.actor)) = true then
        some (.go (w64 (s0 + 1)))
      else
        if (decide (v2.actor = x1.actor)) = true then
          if (decide (v2.seq < x1.seq)) = true then
            some (.go (w64 (s0 + 1)))
          else
            some (.out s0)
        else
          some (.out s0)
    else
      some (.out s0)
noncomputable def p_spec_l08Insert (x0 : List TOp) (x1 : TOp) : Option (List TOp) :=
  (loopP (p_spec_l08Insert_l0 x0 x1) 0).bind fun ee0 => match ee0 with
  | .ret r => some r
  | .out o6 =>
    ((mkL 0 128 (w64 ((x0.length : Int) + 1)) () : Option (List Unit))).bind fun v7 =>
    (cut? x0 0 o6).bind fun v8 =>
    (app? 128 ([] : List TOp) v8).bind fun v9 =>
    (app? 128 v9 ([x1])).bind fun v10 =>
    (cut? x0 o6 (x0.length : Int)).bind fun v11 =>
    (app? 128 v10 v11).bind fun v12 =>
    some v12
def c_spec_l08Insert : AFn := ⟨61, (.seq (.ops [(qS 3 (.box (.tmp 1))), (qS 4 (.vnil 12 true))]) (.seq (.ops [(qS 5 (.mv (ic 0)))]) (.seq (.block 0 (.loop (.seq (.seq (.ops [(qS 7 (.mv (.tmp 5))), (qS 8 (.mv (.tmp 0))), (qS 9 (.len (.tmp 8))), (qS 10 (.pu (.n (.ar .lss)) [(.tmp 7), (.tmp 9)])), (qS 11 (.mv (.tmp 10))), ⟨(.some 12), (.mv (.tmp 0)), (.some (11, true)), []⟩, ⟨(.some 13), (.mv (.tmp 5)), (.some (11, true)), []⟩, ⟨(.some 14), (.idxS 12 (.tmp 12) (.tmp 13)), (.some (11, true)), []⟩, ⟨(.some 15), (.fieldA 0 (.tmp 14)), (.some (11, true)), []⟩, ⟨(.some 16), (.load 1 false (.tmp 15)), (.some (11, true)), []⟩, ⟨(.some 17), (.fieldA 0 (.tmp 3)), (.some (11, true)), []⟩, ⟨(.some 18), (.load 1 false (.tmp 17)), (.some (11, true)), []⟩, ⟨(.some 19), (.pu (.n (.ar .lss)) [(.tmp 16), (.tmp 18)]), (.some (11, true)), []⟩, ⟨(.some 20), (.mv (.tmp 19)), (.some (11, true)), []⟩, ⟨(.some 21), (.mv (.tmp 0)), (.some (20, false)), []⟩, ⟨(.some 22), (.mv (.tmp 5)), (.some (20, false)), []⟩, ⟨(.some 23), (.idxS 12 (.tmp 21) (.tmp 22)), (.some (20, false)), []⟩, ⟨(.some 24), (.fieldA 0 (.tmp 23)), (.some (20, false)), []⟩, ⟨(.some 25), (.load 1 false (.tmp 24)), (.some (20, false)), []⟩, ⟨(.some 26), (.fieldA 0 (.tmp 3)), (.some (20, false)), []⟩, ⟨(.some 27), (.load 1 false (.tmp 26)), (.some (20, false)), []⟩, ⟨(.some 28), (.pu (.n (.ar .eql)) [(.tmp 25), (.tmp 27)]), (.some (20, false)), []⟩, ⟨(.some 29), (.mv (.tmp 28)), (.some (20, false)), []⟩, ⟨(.some 30), (.mv (.tmp 0)), (.some (29, true)), []⟩, ⟨(.some 31), (.mv (.tmp 5)), (.some (29, true)), []⟩, ⟨(.some 32), (.idxS 12 (.tmp 30) (.tmp 31)), (.some (29, true)), []⟩, ⟨(.some 33), (.fieldA 1 (.tmp 32)), (.some (29, true)), []⟩, ⟨(.some 34), (.load 1 false (.tmp 33)), (.some (29, true)), []⟩, ⟨(.some 35), (.fieldA 1 (.tmp 3)), (.some (29, true)), []⟩, ⟨(.some 36), (.load 1 false (.tmp 35)), (.some (29, true)), []⟩, ⟨(.some 37), (.pu (.n (.ar .lss)) [(.tmp 34), (.tmp 36)]), (.some (29, true)), []⟩, ⟨(.some 38), (.pick (.tmp 29) (.tmp 37) (.const (.bool false))), (.some (20, false)), []⟩, ⟨(.some 39), (.pick (.tmp 20) (.const (.bool true)) (.tmp 38)), (.some (11, true)), []⟩, (qS 40 (.pick (.tmp 11) (.tmp 39) (.const (.bool false))))]) (.cond (.tmp 40) .skip (.exit 0))) (.block 1 (.ops [(qS 41 (.mv (.tmp 5))), (qS 42 (.pu (.n (.ar .add)) [(.tmp 41), (ic 1)])), (qS 5 (.mv (.tmp 42)))]))))) (.seq (.ops [(qS 43 (.mv (.tmp 0))), (qS 44 (.len (.tmp 43))), (qS 45 (.pu (.n (.ar .add)) [(.tmp 44), (ic 1)])), (qS 46 (.makeSl 12 true 128 [(.int .i64 0), (.int .i64 0), (.int .i64 0), (.slice .none 0 0), (.int .i64 0), (.int .i64 0), (.int .i64 0), (.int .i64 0), (.int .i64 0), (.int .i64 0), (.string ⟨#[]⟩), (.string ⟨#[]⟩)] (ic 0) (.tmp 45))), (qS 6 (.mv (.tmp 46)))]) (.seq (.ops [(qS 47 (.mv (.tmp 6))), (qS 48 (.mv (.tmp 0))), (qS 49 (.mv (.tmp 5))), (qS 50 (.slice 12 (.tmp 48) .none (.some (.tmp 49)))), (qS 51 (.append 12 true 128 (.tmp 47) (.tmp 50))), (qS 6 (.mv (.tmp 51)))]) (.seq (.ops [(qS 52 (.mv (.tmp 6))), (qS 53 (.load 12 true (.tmp 3))), (qS 54 (.buildSl 12 true 1 [(.int .i64 0), (.int .i64 0), (.int .i64 0), (.slice .none 0 0), (.int .i64 0), (.int .i64 0), (.int .i64 0), (.int .i64 0), (.int .i64 0), (.int .i64 0), (.string ⟨#[]⟩), (.string ⟨#[]⟩)] [(0, (.tmp 53))])), (qS 55 (.append 12 true 128 (.tmp 52) (.tmp 54))), (qS 6 (.mv (.tmp 55)))]) (.seq (.ops [(qS 56 (.mv (.tmp 6))), (qS 57 (.mv (.tmp 0))), (qS 58 (.mv (.tmp 5))), (qS 59 (.slice 12 (.tmp 57) (.some (.tmp 58)) .none)), (qS 60 (.append 12 true 128 (.tmp 56) (.tmp 59))), (qS 4 (.mv (.tmp 60)))]) .ret))))))), [(.tmp 4)]⟩
set_option maxHeartbeats 10000000 in
theorem d_spec_l08Insert {P : Program} {env : Env}  (x0 : List TOp) (x1 : TOp) {b : List TOp} (hp : p_spec_l08Insert x0 x1 = some b) : R P env (c_spec_l08Insert) ((encA (x0, x1)).map ofI) [] (Tells false b) := by
  refine R_of (by simp [c_spec_l08Insert, encA]) ?_
  have E := opc
  unfold c_spec_l08Insert
  unfold p_spec_l08Insert at hp
  obtain ⟨ee0, hee0, hp⟩ := bind_eq hp
  simp (maxSteps := 2000000) (disch := first|omega|(simp only[ls];first|done|omega)) only [E, gx, eta_T4, enc_T4, dec_T4, ret_four]
  refine W_loopP 0 (fun s t h => match s with | s0 => t 0 = .i (.sl 12 (x0.map enc)) ∧ t 3 = .ptr 0 12 0 ∧ t 5 = .i (.s (.int .i64 s0)) ∧ getCells h 0 12 = some [.i (.s (.int .i64 x1.actor)), .i (.s (.int .i64 x1.seq)), .i (.s (.int .i64 x1.time)), .i (.sl 1 (x1.deps.counts.map enc)), .i (.s (.int .i64 x1.kind)), .i (.s (.int .i64 x1.obj)), .i (.s (.int .i64 x1.n)), .i (.s (.int .i64 x1.undo)), .i (.s (.int .i64 x1.at_.time)), .i (.s (.int .i64 x1.at_.actor)), .i (.s (.string x1.key)), .i (.s (.string x1.text))] ∧ 0 < h.length) (RK [.tmp 4] (Tells false)) ?_ hee0 ?_ ?_
  · rintro s0 ee tt0 hh0 ⟨ftt0_0, ftt0_1, ftt0_2, ftt0_3, ftt0_4⟩ hp
    rw [p_spec_l08Insert_l0] at hp
    by_cases hb1 : (decide (s0 < (x0.length : Int))) = true
    · rw [if_t hb1] at hp
      obtain ⟨v2, hv2, hp⟩ := bind_eq hp
      by_cases hb3 : (decide (v2.actor < x1.actor)) = true
      · rw [if_t hb3] at hp
        have hp := Option.some.inj hp
        subst hp
        simp (maxSteps := 2000000) (disch := first|omega|(simp only[ls];first|done|omega)) only [E, ftt0_0, ftt0_1, ftt0_2, ftt0_3, ftt0_4, hb1, hv2, hb3, gx, eta_T4, enc_T4, dec_T4, ret_four] <;> omega
      · replace hb3 := eq_false_of_ne_true hb3
        rw [if_f hb3] at hp
        by_cases hb4 : (decide (v2.actor = x1.actor)) = true
        · rw [if_t hb4] at hp
          by_cases hb5 : (decide (v2.seq < x1.seq)) = true
          · rw [if_t hb5] at hp
            have hp := Option.some.inj hp
            subst hp
            simp (maxSteps := 2000000) (disch := first|omega|(simp only[ls];first|done|omega)) only [E, ftt0_0, ftt0_1, ftt0_2, ftt0_3, ftt0_4, hb1, hv2, hb3, hb4, hb5, gx, eta_T4, enc_T4, dec_T4, ret_four] <;> omega
          · replace hb5 := eq_false_of_ne_true hb5
            rw [if_f hb5] at hp
            have hp := Option.some.inj hp
            subst hp
            simp (maxSteps := 2000000) (disch := first|omega|(simp only[ls];first|done|omega)) only [E, ftt0_0, ftt0_1, ftt0_2, ftt0_3, ftt0_4, hb1, hv2, hb3, hb4, hb5, gx, eta_T4, enc_T4, dec_T4, ret_four] <;> omega
        · replace hb4 := eq_false_of_ne_true hb4
          rw [if_f hb4] at hp
          have hp := Option.some.inj hp
          subst hp
          simp (maxSteps := 2000000) (disch := first|omega|(simp only[ls];first|done|omega)) only [E, ftt0_0, ftt0_1, ftt0_2, ftt0_3, ftt0_4, hb1, hv2, hb3, hb4, gx, eta_T4, enc_T4, dec_T4, ret_four] <;> omega
    · replace hb1 := eq_false_of_ne_true hb1
      rw [if_f hb1] at hp
      have hp := Option.some.inj hp
      subst hp
      simp (maxSteps := 2000000) (disch := first|omega|(simp only[ls];first|done|omega)) only [E, ftt0_0, ftt0_1, ftt0_2, ftt0_3, ftt0_4, hb1, gx, eta_T4, enc_T4, dec_T4, ret_four] <;> omega
  · simp (maxSteps := 2000000) (disch := first|omega|(simp only[ls];first|done|omega)) only [E, gx, eta_T4, enc_T4, dec_T4, ret_four] <;> omega
  · intro x tt1 hh1 hx
    rcases ee0 with o6 | r
    · obtain ⟨rfl, ftt1_0, ftt1_1, ftt1_2, ftt1_3, ftt1_4⟩ := hx
      dsimp only at hp
      obtain ⟨v7, hv7, hp⟩ := bind_eq hp
      obtain ⟨kv7, qv7, lv7⟩ := mkL_some hv7
      have rv7 : (List.replicate 0 [.i (.s (.int .i64 0)), .i (.s (.int .i64 0)), .i (.s (.int .i64 0)), .i (.s (.slice none 0 0)), .i (.s (.int .i64 0)), .i (.s (.int .i64 0)), .i (.s (.int .i64 0)), .i (.s (.int .i64 0)), .i (.s (.int .i64 0)), .i (.s (.int .i64 0)), .i (.s (.string (ByteArray.mk #[]))), .i (.s (.string (ByteArray.mk #[])))]).flatten = ([] : List V) := rfl
      obtain ⟨v8, hv8, hp⟩ := bind_eq hp
      obtain ⟨v9, hv9, hp⟩ := bind_eq hp
      simp (maxSteps := 2000000) (disch := first|omega|(simp only[ls];first|done|omega)) only [E, ftt1_0, ftt1_1, ftt1_2, ftt1_3, ftt1_4, hv7, rv7, kv7.1, kv7.2.1, kv7.2.2.1, kv7.2.2.2, hv8, gx, eta_T4, enc_T4, dec_T4, ret_four]
      refine app_f (b := hh1.length) (xs := ([] : List TOp)) (ys := v8) (fun h => getCells h 0 12 = some [.i (.s (.int .i64 x1.actor)), .i (.s (.int .i64 x1.seq)), .i (.s (.int .i64 x1.time)), .i (.sl 1 (x1.deps.counts.map enc)), .i (.s (.int .i64 x1.kind)), .i (.s (.int .i64 x1.obj)), .i (.s (.int .i64 x1.n)), .i (.s (.int .i64 x1.undo)), .i (.s (.int .i64 x1.at_.time)), .i (.s (.int .i64 x1.at_.actor)), .i (.s (.string x1.key)), .i (.s (.string x1.text))] ∧ 0 < h.length ∧ getCells h hh1.length 0 = some [] ∧ hh1.length < h.length) ?_ ?_ hv9 rfl (by first | rfl | omega | (simp; omega)) (by first | rfl | omega | (simp; omega)) (by first | rfl | omega | (simp; omega)) ?_
      · simp (maxSteps := 2000000) (disch := first|omega|(simp only[ls];first|done|omega)) only [E, ftt1_0, ftt1_1, ftt1_2, ftt1_3, ftt1_4, hv7, rv7, kv7.1, kv7.2.1, kv7.2.2.1, kv7.2.2.2, hv8, hv9, gx, eta_T4, enc_T4, dec_T4, ret_four] <;> omega
      · rintro h ⟨c2_0, c2_1, c2_2, c2_3⟩
        exact gc_eq c2_2 (by omega)
      · rintro h hh2 ⟨c2_0, c2_1, c2_2, c2_3⟩ kk2 w2
        have d2_0 : getCells hh2 0 12 = some [.i (.s (.int .i64 x1.actor)), .i (.s (.int .i64 x1.seq)), .i (.s (.int .i64 x1.time)), .i (.sl 1 (x1.deps.counts.map enc)), .i (.s (.int .i64 x1.kind)), .i (.s (.int .i64 x1.obj)), .i (.s (.int .i64 x1.n)), .i (.s (.int .i64 x1.undo)), .i (.s (.int .i64 x1.at_.time)), .i (.s (.int .i64 x1.at_.actor)), .i (.s (.string x1.key)), .i (.s (.string x1.text))] := (keep_get kk2 c2_1 (by first | (simp; done) | (simp; omega))).trans c2_0
        have d2_0l := keep_lt kk2 c2_1
        have d2_1 : getCells hh2 hh1.length (v9.length * 12) = some (rows (v9 : List TOp)) := by simpa only [Nat.mul_one] using w2
        have d2_1l := keep_lt kk2 c2_3
        obtain ⟨v10, hv10, hp⟩ := bind_eq hp
        obtain ⟨kv10, qv10, lv10⟩ := app_some hv10
        have rv10 : rows v9 ++ [.i (.s (.int .i64 x1.actor)), .i (.s (.int .i64 x1.seq)), .i (.s (.int .i64 x1.time)), .i (.sl 1 (x1.deps.counts.map enc)), .i (.s (.int .i64 x1.kind)), .i (.s (.int .i64 x1.obj)), .i (.s (.int .i64 x1.n)), .i (.s (.int .i64 x1.undo)), .i (.s (.int .i64 x1.at_.time)), .i (.s (.int .i64 x1.at_.actor)), .i (.s (.string x1.key)), .i (.s (.string x1.text))] = rows v10 := by rw [qv10, rows_append]; rfl
        have mv10 : v9.length + 1 = v10.length := by simp at lv10; omega
        have nv10 : (v9.length + 1) * 128 ≤ 140737488355328 := by simp at kv10; omega
        obtain ⟨v11, hv11, hp⟩ := bind_eq hp
        obtain ⟨v12, hv12, hp⟩ := bind_eq hp
        simp (maxSteps := 2000000) (disch := first|omega|(simp only[ls];first|done|omega)) only [E, ftt1_0, ftt1_1, ftt1_2, ftt1_3, ftt1_4, hv7, rv7, kv7.1, kv7.2.1, kv7.2.2.1, kv7.2.2.2, hv8, hv9, d2_0, d2_1, hv10, rv10, nv10, hv11, gx, eta_T4, enc_T4, dec_T4, ret_four]
        refine app_f (b := hh1.length) (xs := v10) (ys := v11) (fun h => getCells h 0 12 = some [.i (.s (.int .i64 x1.actor)), .i (.s (.int .i64 x1.seq)), .i (.s (.int .i64 x1.time)), .i (.sl 1 (x1.deps.counts.map enc)), .i (.s (.int .i64 x1.kind)), .i (.s (.int .i64 x1.obj)), .i (.s (.int .i64 x1.n)), .i (.s (.int .i64 x1.undo)), .i (.s (.int .i64 x1.at_.time)), .i (.s (.int .i64 x1.at_.actor)), .i (.s (.string x1.key)), .i (.s (.string x1.text))] ∧ 0 < h.length ∧ getCells h hh1.length ((v9.length + 1) * 12) = some (rows (v10 : List TOp)) ∧ hh1.length < h.length ∧ getCells h hh2.length 12 = some (rows ([x1] : List TOp)) ∧ hh2.length < h.length) ?_ ?_ hv12 rfl (by first | rfl | omega | (simp; omega)) (by first | rfl | omega | (simp; omega)) (by first | rfl | omega | (simp; omega)) ?_
        · simp (maxSteps := 2000000) (disch := first|omega|(simp only[ls];first|done|omega)) only [E, ftt1_0, ftt1_1, ftt1_2, ftt1_3, ftt1_4, hv7, rv7, kv7.1, kv7.2.1, kv7.2.2.1, kv7.2.2.2, hv8, hv9, d2_0, d2_1, hv10, rv10, nv10, hv11, hv12, gx, eta_T4, enc_T4, dec_T4, ret_four] <;> omega
        · rintro h ⟨c3_0, c3_1, c3_2, c3_3, c3_4, c3_5⟩
          exact gc_eq c3_2 (by omega)
        · rintro h hh3 ⟨c3_0, c3_1, c3_2, c3_3, c3_4, c3_5⟩ kk3 w3
          have d3_0 : getCells hh3 0 12 = some [.i (.s (.int .i64 x1.actor)), .i (.s (.int .i64 x1.seq)), .i (.s (.int .i64 x1.time)), .i (.sl 1 (x1.deps.counts.map enc)), .i (.s (.int .i64 x1.kind)), .i (.s (.int .i64 x1.obj)), .i (.s (.int .i64 x1.n)), .i (.s (.int .i64 x1.undo)), .i (.s (.int .i64 x1.at_.time)), .i (.s (.int .i64 x1.at_.actor)), .i (.s (.string x1.key)), .i (.s (.string x1.text))] := (keep_get kk3 c3_1 (by first | (simp; done) | (simp; omega))).trans c3_0
          have d3_0l := keep_lt kk3 c3_1
          have d3_1 : getCells hh3 hh1.length (v12.length * 12) = some (rows (v12 : List TOp)) := by simpa only [Nat.mul_one] using w3
          have d3_1l := keep_lt kk3 c3_3
          have d3_2 : getCells hh3 hh2.length 12 = some (rows ([x1] : List TOp)) := (keep_get kk3 c3_5 (by first | (simp; done) | (simp; omega))).trans c3_4
          have d3_2l := keep_lt kk3 c3_5
          have hp := Option.some.inj hp
          subst hp
          simp (maxSteps := 2000000) (disch := first|omega|(simp only[ls];first|done|omega)) only [E, ftt1_0, ftt1_1, ftt1_2, ftt1_3, ftt1_4, hv7, rv7, kv7.1, kv7.2.1, kv7.2.2.1, kv7.2.2.2, hv8, hv9, d2_0, d2_1, hv10, rv10, nv10, hv11, hv12, d3_0, d3_1, d3_2, gx, eta_T4, enc_T4, dec_T4, ret_four]
    · obtain ⟨rfl, hx⟩ := hx
      dsimp only at hp
      cases hp
      simp only [seqK_ret, blockK_ret, retK_RK (K := Tells false), hx, and_self, true_and]

noncomputable def p_spec_BranchMerge_l0 (x0 : List TOp) (x1 : List TOp) : Int → Option (Lp (Int) (T2 (List TOp) Int))
  | s2 =>
    if (decide (s2 < (x0.length : Int))) = true then
      (get? x0 s2).bind fun v4 =>
      (p_spec_l08KindFits x1 v4).bind fun v5 =>
      if (v5) = true then
        some (.go (w64 (s2 + 1)))
      else
        some (.ret ⟨[], 8⟩)
    else
      some (.out s2)
noncomputable def p_spec_BranchMerge_l1 (x1 : List TOp) (v9 : TVec) : List TOp × Int → Option (Lp (List TOp × Int) (T2 (List TOp) Int))
  | (s10, s11) =>
    if (decide (s11 < (x1.length : Int))) = true then
      (get? x1 s11).bind fun v13 =>
      (get? v9.counts v13.actor).bind fun v14 =>
      if (decide (v14 < v13.seq)) = true then
        (p_spec_l08CopyOp v13).bind fun v16 =>
        (p_spec_l08Insert s10 v16).bind fun v17 =>
        some (.go (v17, w64 (s11 + 1)))
      else
        some (.go (s10, w64 (s11 + 1)))
    else
      some (.out (s10, s11))
noncomputable def p_spec_BranchMerge (x0 : List TOp) (x1 : List TOp) : Option (T2 (List TOp) Int) :=
  (p_spec_l11Code x0 x1).bind fun v0 =>
  if (decide (v0 = 0)) = true then
    (loopP (p_spec_BranchMerge_l0 x0 x1) 0).bind fun ee0 => match ee0 with
    | .ret r => some r
    | .out o7 =>
      (p_spec_l08Copy x0).bind fun v8 =>
      (p_spec_l08Counts x0).bind fun v9 =>
      (loopP (p_spec_BranchMerge_l1 x1 v9) (v8, 0)).bind fun ee1 => match ee1 with
      | .ret r => some r
      | .out (o18, o19) =>
        if (decide (1024 < (o18.length : Int))) = true then
          some ⟨[], 11⟩
        else
          some ⟨o18, 0⟩
  else
    some ⟨[], v0⟩
def c_spec_BranchMerge (f_spec_l11Code : Nat) (f_spec_l08KindFits : Nat) (f_spec_l08Copy : Nat) (f_spec_l08Counts : Nat) (f_spec_l08CopyOp : Nat) (f_spec_l08Insert : Nat) : AFn := ⟨69, (.seq (.ops [(qS 4 (.vnil 12 true)), (qS 5 (.mv (ic 0)))]) (.seq (.ops [(qS 11 (.mv (.tmp 0))), (qS 12 (.mv (.tmp 1))), (qS 13 (.call (2 * f_spec_l11Code) [(.tmp 11), (.tmp 12)])), (qS 6 (.mv (.tmp 13)))]) (.seq (.seq (.ops [(qS 14 (.mv (.tmp 6))), (qS 15 (.pu (.n (.ar .neq)) [(.tmp 14), (ic 0)]))]) (.cond (.tmp 15) (.seq (.ops [(qS 16 (.buildSl 12 true 0 [(.int .i64 0), (.int .i64 0), (.int .i64 0), (.slice .none 0 0), (.int .i64 0), (.int .i64 0), (.int .i64 0), (.int .i64 0), (.int .i64 0), (.int .i64 0), (.string ⟨#[]⟩), (.string ⟨#[]⟩)] [])), (qS 17 (.mv (.tmp 6))), (qS 4 (.mv (.tmp 16))), (qS 5 (.mv (.tmp 17)))]) .ret) .skip)) (.seq (.seq (.ops [(qS 7 (.mv (ic 0)))]) (.block 0 (.loop (.seq (.seq (.ops [(qS 18 (.mv (.tmp 7))), (qS 19 (.mv (.tmp 0))), (qS 20 (.len (.tmp 19))), (qS 21 (.pu (.n (.ar .lss)) [(.tmp 18), (.tmp 20)]))]) (.cond (.tmp 21) .skip (.exit 0))) (.seq (.block 1 (.seq (.ops [(qS 24 (.mv (.tmp 1))), (qS 25 (.mv (.tmp 0))), (qS 26 (.mv (.tmp 7))), (qS 27 (.idxS 12 (.tmp 25) (.tmp 26))), (qS 28 (.load 12 true (.tmp 27))), (qS 29 (.call (2 * f_spec_l08KindFits) [(.tmp 24), (.tmp 28)])), (qS 30 (.pu (.n (.un .not)) [(.tmp 29)]))]) (.cond (.tmp 30) (.seq (.ops [(qS 31 (.buildSl 12 true 0 [(.int .i64 0), (.int .i64 0), (.int .i64 0), (.slice .none 0 0), (.int .i64 0), (.int .i64 0), (.int .i64 0), (.int .i64 0), (.int .i64 0), (.int .i64 0), (.string ⟨#[]⟩), (.string ⟨#[]⟩)] [])), (qS 4 (.mv (.tmp 31))), (qS 5 (.mv (ic 8)))]) .ret) .skip))) (.ops [(qS 22 (.mv (.tmp 7))), (qS 23 (.pu (.n (.ar .add)) [(.tmp 22), (ic 1)])), (qS 7 (.mv (.tmp 23)))])))))) (.seq (.ops [(qS 32 (.mv (.tmp 0))), (qS 33 (.call (2 * f_spec_l08Copy) [(.tmp 32)])), (qS 8 (.mv (.tmp 33)))]) (.seq (.ops [(qS 34 (.mv (.tmp 0))), (qS 35 (.call (2 * f_spec_l08Counts) [(.tmp 34)])), (qS 9 (.allocV [(1, false)] [(.slice .none 0 0)])), ⟨.none, (.storeV [(1, false)] 1 (.tmp 9) (.tmp 35)), .none, []⟩]) (.seq (.seq (.ops [(qS 10 (.mv (ic 0)))]) (.block 2 (.loop (.seq (.seq (.ops [(qS 36 (.mv (.tmp 10))), (qS 37 (.mv (.tmp 1))), (qS 38 (.len (.tmp 37))), (qS 39 (.pu (.n (.ar .lss)) [(.tmp 36), (.tmp 38)]))]) (.cond (.tmp 39) .skip (.exit 2))) (.seq (.block 3 (.seq (.ops [(qS 42 (.mv (.tmp 1))), (qS 43 (.mv (.tmp 10))), (qS 44 (.idxS 12 (.tmp 42) (.tmp 43))), (qS 45 (.fieldA 1 (.tmp 44))), (qS 46 (.load 1 false (.tmp 45))), (qS 47 (.fieldA 0 (.tmp 9))), (qS 48 (.load 1 false (.tmp 47))), (qS 49 (.mv (.tmp 1))), (qS 50 (.mv (.tmp 10))), (qS 51 (.idxS 12 (.tmp 49) (.tmp 50))), (qS 52 (.fieldA 0 (.tmp 51))), (qS 53 (.load 1 false (.tmp 52))), (qS 54 (.idxS 1 (.tmp 48) (.tmp 53))), (qS 55 (.load 1 false (.tmp 54))), (qS 56 (.pu (.n (.ar .gtr)) [(.tmp 46), (.tmp 55)]))]) (.cond (.tmp 56) (.ops [(qS 57 (.mv (.tmp 8))), (qS 58 (.mv (.tmp 1))), (qS 59 (.mv (.tmp 10))), (qS 60 (.idxS 12 (.tmp 58) (.tmp 59))), (qS 61 (.load 12 true (.tmp 60))), (qS 62 (.call (2 * f_spec_l08CopyOp) [(.tmp 61)])), (qS 63 (.call (2 * f_spec_l08Insert) [(.tmp 57), (.tmp 62)])), (qS 8 (.mv (.tmp 63)))]) .skip))) (.ops [(qS 40 (.mv (.tmp 10))), (qS 41 (.pu (.n (.ar .add)) [(.tmp 40), (ic 1)])), (qS 10 (.mv (.tmp 41)))])))))) (.seq (.seq (.ops [(qS 64 (.mv (.tmp 8))), (qS 65 (.len (.tmp 64))), (qS 66 (.pu (.n (.ar .gtr)) [(.tmp 65), (ic 1024)]))]) (.cond (.tmp 66) (.seq (.ops [(qS 67 (.buildSl 12 true 0 [(.int .i64 0), (.int .i64 0), (.int .i64 0), (.slice .none 0 0), (.int .i64 0), (.int .i64 0), (.int .i64 0), (.int .i64 0), (.int .i64 0), (.int .i64 0), (.string ⟨#[]⟩), (.string ⟨#[]⟩)] [])), (qS 4 (.mv (.tmp 67))), (qS 5 (.mv (ic 11)))]) .ret) .skip)) (.seq (.ops [(qS 68 (.mv (.tmp 8))), (qS 4 (.mv (.tmp 68))), (qS 5 (.mv (ic 0)))]) .ret))))))))), [(.tmp 4), (.tmp 5)]⟩
set_option maxHeartbeats 10000000 in
theorem d_spec_BranchMerge {P : Program} {env : Env} {f_spec_l11Code : Nat} {f_spec_l08KindFits : Nat} {f_spec_l08Copy : Nat} {f_spec_l08Counts : Nat} {f_spec_l08CopyOp : Nat} {f_spec_l08Insert : Nat}  (ep_spec_l11Code : env (2 * f_spec_l11Code) = pureFn true (FA fun a : List TOp × List TOp => p_spec_l11Code a.1 a.2)) (ep_spec_l08KindFits : env (2 * f_spec_l08KindFits) = pureFn true (FA fun a : List TOp × TOp => p_spec_l08KindFits a.1 a.2)) (ep_spec_l08Copy : env (2 * f_spec_l08Copy) = pureFn false (FA fun a : List TOp => p_spec_l08Copy a)) (ep_spec_l08Counts : env (2 * f_spec_l08Counts) = pureFn true (FA fun a : List TOp => p_spec_l08Counts a)) (ep_spec_l08CopyOp : env (2 * f_spec_l08CopyOp) = pureFn true (FA fun a : TOp => p_spec_l08CopyOp a)) (ep_spec_l08Insert : env (2 * f_spec_l08Insert) = pureFn false (FA fun a : List TOp × TOp => p_spec_l08Insert a.1 a.2)) (x0 : List TOp) (x1 : List TOp) {b : T2 (List TOp) Int} (hp : p_spec_BranchMerge x0 x1 = some b) : R P env (c_spec_BranchMerge f_spec_l11Code f_spec_l08KindFits f_spec_l08Copy f_spec_l08Counts f_spec_l08CopyOp f_spec_l08Insert) ((encA (x0, x1)).map ofI) [] (Tells false b) := by
  refine R_of (by simp [c_spec_BranchMerge, encA]) ?_
  have E := And.intro opc (And.intro ep_spec_l11Code (And.intro ep_spec_l08KindFits (And.intro ep_spec_l08Copy (And.intro ep_spec_l08Counts (And.intro ep_spec_l08CopyOp ep_spec_l08Insert)))))
  unfold c_spec_BranchMerge
  unfold p_spec_BranchMerge at hp
  obtain ⟨v0, hv0, hp⟩ := bind_eq hp
  by_cases hb1 : (decide (v0 = 0)) = true
  · rw [if_t hb1] at hp
    obtain ⟨ee0, hee0, hp⟩ := bind_eq hp
    simp (maxSteps := 2000000) (disch := first|omega|(simp only[ls];first|done|omega)) only [E, hv0, hb1, gx, eta_T4, enc_T4, dec_T4, ret_four]
    refine W_loopP 0 (fun s t h => match s with | s2 => t 0 = .i (.sl 12 (x0.map enc)) ∧ t 1 = .i (.sl 12 (x1.map enc)) ∧ t 7 = .i (.s (.int .i64 s2))) (RK [.tmp 4, .tmp 5] (Tells false)) ?_ hee0 ?_ ?_
    · rintro s2 ee tt0 hh0 ⟨ftt0_0, ftt0_1, ftt0_2⟩ hp
      rw [p_spec_BranchMerge_l0] at hp
      by_cases hb3 : (decide (s2 < (x0.length : Int))) = true
      · rw [if_t hb3] at hp
        obtain ⟨v4, hv4, hp⟩ := bind_eq hp
        obtain ⟨v5, hv5, hp⟩ := bind_eq hp
        by_cases hb6 : (v5) = true
        · rw [if_t hb6] at hp
          have hp := Option.some.inj hp
          subst hp
          simp (maxSteps := 2000000) (disch := first|omega|(simp only[ls];first|done|omega)) only [E, hv0, hb1, ftt0_0, ftt0_1, ftt0_2, hb3, hv4, hv5, hb6, gx, eta_T4, enc_T4, dec_T4, ret_four] <;> omega
        · replace hb6 := eq_false_of_ne_true hb6
          rw [if_f hb6] at hp
          have hp := Option.some.inj hp
          subst hp
          simp (maxSteps := 2000000) (disch := first|omega|(simp only[ls];first|done|omega)) only [E, hv0, hb1, ftt0_0, ftt0_1, ftt0_2, hb3, hv4, hv5, hb6, gx, eta_T4, enc_T4, dec_T4, ret_four]
      · replace hb3 := eq_false_of_ne_true hb3
        rw [if_f hb3] at hp
        have hp := Option.some.inj hp
        subst hp
        simp (maxSteps := 2000000) (disch := first|omega|(simp only[ls];first|done|omega)) only [E, hv0, hb1, ftt0_0, ftt0_1, ftt0_2, hb3, gx, eta_T4, enc_T4, dec_T4, ret_four] <;> omega
    · simp (maxSteps := 2000000) (disch := first|omega|(simp only[ls];first|done|omega)) only [E, hv0, hb1, gx, eta_T4, enc_T4, dec_T4, ret_four] <;> omega
    · intro x tt1 hh1 hx
      rcases ee0 with o7 | r
      · obtain ⟨rfl, ftt1_0, ftt1_1, ftt1_2⟩ := hx
        dsimp only at hp
        obtain ⟨v8, hv8, hp⟩ := bind_eq hp
        obtain ⟨v9, hv9, hp⟩ := bind_eq hp
        obtain ⟨ee1, hee1, hp⟩ := bind_eq hp
        simp (maxSteps := 2000000) (disch := first|omega|(simp only[ls];first|done|omega)) only [E, hv0, hb1, ftt1_0, ftt1_1, ftt1_2, hv8, hv9, gx, eta_T4, enc_T4, dec_T4, ret_four]
        refine W_loopP 2 (fun s t h => match s with | (s10, s11) => t 1 = .i (.sl 12 (x1.map enc)) ∧ t 8 = .i (.sl 12 (s10.map enc)) ∧ t 9 = .ptr (hh1.length + 1) 1 0 ∧ t 10 = .i (.s (.int .i64 s11)) ∧ getCells h (hh1.length + 1) 1 = some [.i (.sl 1 (v9.counts.map enc))] ∧ hh1.length + 1 < h.length) (RK [.tmp 4, .tmp 5] (Tells false)) ?_ hee1 ?_ ?_
        · rintro ⟨s10, s11⟩ ee tt2 hh2 ⟨ftt2_0, ftt2_1, ftt2_2, ftt2_3, ftt2_4, ftt2_5⟩ hp
          rw [p_spec_BranchMerge_l1] at hp
          by_cases hb12 : (decide (s11 < (x1.length : Int))) = true
          · rw [if_t hb12] at hp
            obtain ⟨v13, hv13, hp⟩ := bind_eq hp
            obtain ⟨v14, hv14, hp⟩ := bind_eq hp
            by_cases hb15 : (decide (v14 < v13.seq)) = true
            · rw [if_t hb15] at hp
              obtain ⟨v16, hv16, hp⟩ := bind_eq hp
              obtain ⟨v17, hv17, hp⟩ := bind_eq hp
              have hp := Option.some.inj hp
              subst hp
              simp (maxSteps := 2000000) (disch := first|omega|(simp only[ls];first|done|omega)) only [E, hv0, hb1, ftt1_0, ftt1_1, ftt1_2, hv8, hv9, ftt2_0, ftt2_1, ftt2_2, ftt2_3, ftt2_4, ftt2_5, hb12, hv13, hv14, hb15, hv16, hv17, gx, eta_T4, enc_T4, dec_T4, ret_four] <;> omega
            · replace hb15 := eq_false_of_ne_true hb15
              rw [if_f hb15] at hp
              have hp := Option.some.inj hp
              subst hp
              simp (maxSteps := 2000000) (disch := first|omega|(simp only[ls];first|done|omega)) only [E, hv0, hb1, ftt1_0, ftt1_1, ftt1_2, hv8, hv9, ftt2_0, ftt2_1, ftt2_2, ftt2_3, ftt2_4, ftt2_5, hb12, hv13, hv14, hb15, gx, eta_T4, enc_T4, dec_T4, ret_four] <;> omega
          · replace hb12 := eq_false_of_ne_true hb12
            rw [if_f hb12] at hp
            have hp := Option.some.inj hp
            subst hp
            simp (maxSteps := 2000000) (disch := first|omega|(simp only[ls];first|done|omega)) only [E, hv0, hb1, ftt1_0, ftt1_1, ftt1_2, hv8, hv9, ftt2_0, ftt2_1, ftt2_2, ftt2_3, ftt2_4, ftt2_5, hb12, gx, eta_T4, enc_T4, dec_T4, ret_four] <;> omega
        · simp (maxSteps := 2000000) (disch := first|omega|(simp only[ls];first|done|omega)) only [E, hv0, hb1, ftt1_0, ftt1_1, ftt1_2, hv8, hv9, gx, eta_T4, enc_T4, dec_T4, ret_four] <;> omega
        · intro x tt3 hh3 hx
          rcases ee1 with ⟨o18, o19⟩ | r
          · obtain ⟨rfl, ftt3_0, ftt3_1, ftt3_2, ftt3_3, ftt3_4, ftt3_5⟩ := hx
            dsimp only at hp
            by_cases hb20 : (decide (1024 < (o18.length : Int))) = true
            · rw [if_t hb20] at hp
              have hp := Option.some.inj hp
              subst hp
              simp (maxSteps := 2000000) (disch := first|omega|(simp only[ls];first|done|omega)) only [E, hv0, hb1, ftt1_0, ftt1_1, ftt1_2, hv8, hv9, ftt3_0, ftt3_1, ftt3_2, ftt3_3, ftt3_4, ftt3_5, hb20, gx, eta_T4, enc_T4, dec_T4, ret_four]
            · replace hb20 := eq_false_of_ne_true hb20
              rw [if_f hb20] at hp
              have hp := Option.some.inj hp
              subst hp
              simp (maxSteps := 2000000) (disch := first|omega|(simp only[ls];first|done|omega)) only [E, hv0, hb1, ftt1_0, ftt1_1, ftt1_2, hv8, hv9, ftt3_0, ftt3_1, ftt3_2, ftt3_3, ftt3_4, ftt3_5, hb20, gx, eta_T4, enc_T4, dec_T4, ret_four]
          · obtain ⟨rfl, hx⟩ := hx
            dsimp only at hp
            cases hp
            simp only [seqK_ret, blockK_ret, retK_RK (K := Tells false), hx, and_self, true_and]
      · obtain ⟨rfl, hx⟩ := hx
        dsimp only at hp
        cases hp
        simp only [seqK_ret, blockK_ret, retK_RK (K := Tells false), hx, and_self, true_and]
  · replace hb1 := eq_false_of_ne_true hb1
    rw [if_f hb1] at hp
    have hp := Option.some.inj hp
    subst hp
    simp (maxSteps := 2000000) (disch := first|omega|(simp only[ls];first|done|omega)) only [E, hv0, hb1, gx, eta_T4, enc_T4, dec_T4, ret_four]

noncomputable def p_impl_vecSame_l0 (x0 : TVec) (x1 : TVec) : Int → Option (Lp (Int) Bool)
  | s1 =>
    if (decide (s1 < (x0.counts.length : Int))) = true then
      (get? x0.counts s1).bind fun v3 =>
      (get? x1.counts s1).bind fun v4 =>
      if (decide (v3 = v4)) = true then
        some (.go (w64 (s1 + 1)))
      else
        some (.ret false)
    else
      some (.out s1)
noncomputable def p_impl_vecSame (x0 : TVec) (x1 : TVec) : Option Bool :=
  if (decide ((x0.counts.length : Int) = (x1.counts.length : Int))) = true then
    (loopP (p_impl_vecSame_l0 x0 x1) 0).bind fun ee0 => match ee0 with
    | .ret r => some r
    | .out o6 =>
      some true
  else
    some false
def c_impl_vecSame : AFn := ⟨30, (.seq (.ops [(qS 2 (.box (.tmp 0))), (qS 3 (.box (.tmp 1))), (qS 4 (.mv (.const (.bool false))))]) (.seq (.seq (.ops [(qS 7 (.fieldA 0 (.tmp 2))), (qS 8 (.load 1 false (.tmp 7))), (qS 9 (.len (.tmp 8))), (qS 10 (.fieldA 0 (.tmp 3))), (qS 11 (.load 1 false (.tmp 10))), (qS 12 (.len (.tmp 11))), (qS 13 (.pu (.n (.ar .neq)) [(.tmp 9), (.tmp 12)]))]) (.cond (.tmp 13) (.seq (.ops [(qS 4 (.mv (.const (.bool false))))]) .ret) .skip)) (.seq (.seq (.ops [(qS 14 (.fieldA 0 (.tmp 2))), (qS 15 (.load 1 false (.tmp 14))), (qS 16 (.len (.tmp 15))), (qS 17 (.mv (ic 0)))]) (.block 0 (.loop (.seq (.ops [(qS 18 (.pu (.n (.ar .lss)) [(.tmp 17), (.tmp 16)]))]) (.seq (.cond (.tmp 18) .skip (.exit 0)) (.seq (.block 1 (.seq (.ops [(qS 19 (.mv (.tmp 17))), (qS 20 (.idxS 1 (.tmp 15) (.tmp 17))), (qS 21 (.load 1 false (.tmp 20))), (qS 5 (.mv (.tmp 19))), (qS 6 (.mv (.tmp 21)))]) (.seq (.ops [(qS 22 (.mv (.tmp 6))), (qS 23 (.fieldA 0 (.tmp 3))), (qS 24 (.load 1 false (.tmp 23))), (qS 25 (.mv (.tmp 5))), (qS 26 (.idxS 1 (.tmp 24) (.tmp 25))), (qS 27 (.load 1 false (.tmp 26))), (qS 28 (.pu (.n (.ar .neq)) [(.tmp 22), (.tmp 27)]))]) (.cond (.tmp 28) (.seq (.ops [(qS 4 (.mv (.const (.bool false))))]) .ret) .skip)))) (.ops [(qS 29 (.pu (.n (.ar .add)) [(.tmp 17), (ic 1)])), (qS 17 (.mv (.tmp 29)))]))))))) (.seq (.ops [(qS 4 (.mv (.const (.bool true))))]) .ret)))), [(.tmp 4)]⟩
set_option maxHeartbeats 10000000 in
theorem d_impl_vecSame {P : Program} {env : Env}  (x0 : TVec) (x1 : TVec) {b : Bool} (hp : p_impl_vecSame x0 x1 = some b) : R P env (c_impl_vecSame) ((encA (x0, x1)).map ofI) [] (Tells true b) := by
  refine R_of (by simp [c_impl_vecSame, encA]) ?_
  unfold c_impl_vecSame
  unfold p_impl_vecSame at hp
  by_cases hb0 : (decide ((x0.counts.length : Int) = (x1.counts.length : Int))) = true
  · rw [if_t hb0] at hp
    obtain ⟨ee0, hee0, hp⟩ := bind_eq hp
    simp (maxSteps := 2000000) (disch := first|omega|(simp only[ls];first|done|omega)) only [hb0, gx, eta_T4, enc_T4, dec_T4, ret_four]
    refine W_loopP 0 (fun s t h => match s with | s1 => t 3 = .ptr 1 1 0 ∧ t 15 = .i (.sl 1 (x0.counts.map enc)) ∧ t 16 = .i (.s (.int .i64 (x0.counts.length : Int))) ∧ t 17 = .i (.s (.int .i64 s1)) ∧ getCells h 1 1 = some [.i (.sl 1 (x1.counts.map enc))] ∧ 1 < h.length) (RK [.tmp 4] (Tells true)) ?_ hee0 ?_ ?_
    · rintro s1 ee tt0 hh0 ⟨ftt0_0, ftt0_1, ftt0_2, ftt0_3, ftt0_4, ftt0_5⟩ hp
      rw [p_impl_vecSame_l0] at hp
      by_cases hb2 : (decide (s1 < (x0.counts.length : Int))) = true
      · rw [if_t hb2] at hp
        obtain ⟨v3, hv3, hp⟩ := bind_eq hp
        obtain ⟨v4, hv4, hp⟩ := bind_eq hp
        by_cases hb5 : (decide (v3 = v4)) = true
        · rw [if_t hb5] at hp
          have hp := Option.some.inj hp
          subst hp
          simp (maxSteps := 2000000) (disch := first|omega|(simp only[ls];first|done|omega)) only [hb0, ftt0_0, ftt0_1, ftt0_2, ftt0_3, ftt0_4, ftt0_5, hb2, hv3, hv4, hb5, gx, eta_T4, enc_T4, dec_T4, ret_four] <;> omega
        · replace hb5 := eq_false_of_ne_true hb5
          rw [if_f hb5] at hp
          have hp := Option.some.inj hp
          subst hp
          simp (maxSteps := 2000000) (disch := first|omega|(simp only[ls];first|done|omega)) only [hb0, ftt0_0, ftt0_1, ftt0_2, ftt0_3, ftt0_4, ftt0_5, hb2, hv3, hv4, hb5, gx, eta_T4, enc_T4, dec_T4, ret_four]
      · replace hb2 := eq_false_of_ne_true hb2
        rw [if_f hb2] at hp
        have hp := Option.some.inj hp
        subst hp
        simp (maxSteps := 2000000) (disch := first|omega|(simp only[ls];first|done|omega)) only [hb0, ftt0_0, ftt0_1, ftt0_2, ftt0_3, ftt0_4, ftt0_5, hb2, gx, eta_T4, enc_T4, dec_T4, ret_four] <;> omega
    · simp (maxSteps := 2000000) (disch := first|omega|(simp only[ls];first|done|omega)) only [hb0, gx, eta_T4, enc_T4, dec_T4, ret_four] <;> omega
    · intro x tt1 hh1 hx
      rcases ee0 with o6 | r
      · obtain ⟨rfl, ftt1_0, ftt1_1, ftt1_2, ftt1_3, ftt1_4, ftt1_5⟩ := hx
        dsimp only at hp
        have hp := Option.some.inj hp
        subst hp
        simp (maxSteps := 2000000) (disch := first|omega|(simp only[ls];first|done|omega)) only [hb0, ftt1_0, ftt1_1, ftt1_2, ftt1_3, ftt1_4, ftt1_5, gx, eta_T4, enc_T4, dec_T4, ret_four]
      · obtain ⟨rfl, hx⟩ := hx
        dsimp only at hp
        cases hp
        simp only [seqK_ret, blockK_ret, retK_RK (K := Tells true), hx, and_self, true_and]
  · replace hb0 := eq_false_of_ne_true hb0
    rw [if_f hb0] at hp
    have hp := Option.some.inj hp
    subst hp
    simp (maxSteps := 2000000) (disch := first|omega|(simp only[ls];first|done|omega)) only [hb0, gx, eta_T4, enc_T4, dec_T4, ret_four]

noncomputable def p_impl_opSame (x0 : TOp) (x1 : TOp) : Option Bool :=
  (p_impl_vecSame x0.deps x1.deps).bind fun v0 =>
  if (v0) = true then
    if (decide (x0.actor = x1.actor)) = true then
      if (decide (x0.seq = x1.seq)) = true then
        if (decide (x0.time = x1.time)) = true then
          if (decide (x0.kind = x1.kind)) = true then
            if (decide (x0.obj = x1.obj)) = true then
              if (decide (x0.n = x1.n)) = true then
                if (decide (x0.undo = x1.undo)) = true then
                  if ((decide (x0.at_.time = x1.at_.time) && decide (x0.at_.actor = x1.at_.actor))) = true then
                    if (decide (x0.key = x1.key)) = true then
                      some (decide (x0.text = x1.text))
                    else
                      some false
                  else
                    some false
                else
                  some false
              else
                some false
            else
              some false
          else
            some false
        else
          some false
      else
        some false
    else
      some false
  else
    some false
def c_impl_opSame (f_impl_vecSame : Nat) : AFn := ⟨79, (.seq (.ops [(qS 2 (.box (.tmp 0))), (qS 3 (.box (.tmp 1))), (qS 4 (.mv (.const (.bool false))))]) (.seq (.seq (.ops [(qS 5 (.fieldA 3 (.tmp 2))), (qS 6 (.load 1 true (.tmp 5))), (qS 7 (.fieldA 3 (.tmp 3))), (qS 8 (.load 1 true (.tmp 7))), (qS 9 (.call (2 * f_impl_vecSame) [(.tmp 6), (.tmp 8)])), (qS 10 (.pu (.n (.un .not)) [(.tmp 9)]))]) (.cond (.tmp 10) (.seq (.ops [(qS 4 (.mv (.const (.bool false))))]) .ret) .skip)) (.seq (.ops [(qS 11 (.fieldA 0 (.tmp 2))), (qS 12 (.load 1 false (.tmp 11))), (qS 13 (.fieldA 0 (.tmp 3))), (qS 14 (.load 1 false (.tmp 13))), (qS 15 (.pu (.n (.ar .eql)) [(.tmp 12), (.tmp 14)])), (qS 16 (.mv (.tmp 15))), ⟨(.some 17), (.fieldA 1 (.tmp 2)), (.some (16, true)), []⟩, ⟨(.some 18), (.load 1 false (.tmp 17)), (.some (16, true)), []⟩, ⟨(.some 19), (.fieldA 1 (.tmp 3)), (.some (16, true)), []⟩, ⟨(.some 20), (.load 1 false (.tmp 19)), (.some (16, true)), []⟩, ⟨(.some 21), (.pu (.n (.ar .eql)) [(.tmp 18), (.tmp 20)]), (.some (16, true)), []⟩, (qS 22 (.pick (.tmp 16) (.tmp 21) (.const (.bool false)))), (qS 23 (.mv (.tmp 22))), ⟨(.some 24), (.fieldA 2 (.tmp 2)), (.some (23, true)), []⟩, ⟨(.some 25), (.load 1 false (.tmp 24)), (.some (23, true)), []⟩, ⟨(.some 26), (.fieldA 2 (.tmp 3)), (.some (23, true)), []⟩, ⟨(.some 27), (.load 1 false (.tmp 26)), (.some (23, true)), []⟩, ⟨(.some 28), (.pu (.n (.ar .eql)) [(.tmp 25), (.tmp 27)]), (.some (23, true)), []⟩, (qS 29 (.pick (.tmp 23) (.tmp 28) (.const (.bool false)))), (qS 30 (.mv (.tmp 29))), ⟨(.some 31), (.fieldA 4 (.tmp 2)), (.some (30, true)), []⟩, ⟨(.some 32), (.load 1 false (.tmp 31)), (.some (30, true)), []⟩, ⟨(.some 33), (.fieldA 4 (.tmp 3)), (.some (30, true)), []⟩, ⟨(.some 34), (.load 1 false (.tmp 33)), (.some (30, true)), []⟩, ⟨(.some 35), (.pu (.n (.ar .eql)) [(.tmp 32), (.tmp 34)]), (.some (30, true)), []⟩, (qS 36 (.pick (.tmp 30) (.tmp 35) (.const (.bool false)))), (qS 37 (.mv (.tmp 36))), ⟨(.some 38), (.fieldA 5 (.tmp 2)), (.some (37, true)), []⟩, ⟨(.some 39), (.load 1 false (.tmp 38)), (.some (37, true)), []⟩, ⟨(.some 40), (.fieldA 5 (.tmp 3)), (.some (37, true)), []⟩, ⟨(.some 41), (.load 1 false (.tmp 40)), (.some (37, true)), []⟩, ⟨(.some 42), (.pu (.n (.ar .eql)) [(.tmp 39), (.tmp 41)]), (.some (37, true)), []⟩, (qS 43 (.pick (.tmp 37) (.tmp 42) (.const (.bool false)))), (qS 44 (.mv (.tmp 43))), ⟨(.some 45), (.fieldA 6 (.tmp 2)), (.some (44, true)), []⟩, ⟨(.some 46), (.load 1 false (.tmp 45)), (.some (44, true)), []⟩, ⟨(.some 47), (.fieldA 6 (.tmp 3)), (.some (44, true)), []⟩, ⟨(.some 48), (.load 1 false (.tmp 47)), (.some (44, true)), []⟩, ⟨(.some 49), (.pu (.n (.ar .eql)) [(.tmp 46), (.tmp 48)]), (.some (44, true)), []⟩, (qS 50 (.pick (.tmp 44) (.tmp 49) (.const (.bool false)))), (qS 51 (.mv (.tmp 50))), ⟨(.some 52), (.fieldA 7 (.tmp 2)), (.some (51, true)), []⟩, ⟨(.some 53), (.load 1 false (.tmp 52)), (.some (51, true)), []⟩, ⟨(.some 54), (.fieldA 7 (.tmp 3)), (.some (51, true)), []⟩, ⟨(.some 55), (.load 1 false (.tmp 54)), (.some (51, true)), []⟩, ⟨(.some 56), (.pu (.n (.ar .eql)) [(.tmp 53), (.tmp 55)]), (.some (51, true)), []⟩, (qS 57 (.pick (.tmp 51) (.tmp 56) (.const (.bool false)))), (qS 58 (.mv (.tmp 57))), ⟨(.some 59), (.fieldA 8 (.tmp 2)), (.some (58, true)), []⟩, ⟨(.some 60), (.load 2 true (.tmp 59)), (.some (58, true)), []⟩, ⟨(.some 61), (.fieldA 8 (.tmp 3)), (.some (58, true)), []⟩, ⟨(.some 62), (.load 2 true (.tmp 61)), (.some (58, true)), []⟩, ⟨(.some 63), (.aeq false [(.int .i64), (.int .i64)] (.tmp 60) (.tmp 62)), (.some (58, true)), []⟩, (qS 64 (.pick (.tmp 58) (.tmp 63) (.const (.bool false)))), (qS 65 (.mv (.tmp 64))), ⟨(.some 66), (.fieldA 10 (.tmp 2)), (.some (65, true)), []⟩, ⟨(.some 67), (.load 1 false (.tmp 66)), (.some (65, true)), []⟩, ⟨(.some 68), (.fieldA 10 (.tmp 3)), (.some (65, true)), []⟩, ⟨(.some 69), (.load 1 false (.tmp 68)), (.some (65, true)), []⟩, ⟨(.some 70), (.pu (.n (.ar .eql)) [(.tmp 67), (.tmp 69)]), (.some (65, true)), []⟩, (qS 71 (.pick (.tmp 65) (.tmp 70) (.const (.bool false)))), (qS 72 (.mv (.tmp 71))), ⟨(.some 73), (.fieldA 11 (.tmp 2)), (.some (72, true)), []⟩, ⟨(.some 74), (.load 1 false (.tmp 73)), (.some (72, true)), []⟩, ⟨(.some 75), (.fieldA 11 (.tmp 3)), (.some (72, true)), []⟩, ⟨(.some 76), (.load 1 false (.tmp 75)), (.some (72, true)), []⟩, ⟨(.some 77), (.pu (.n (.ar .eql)) [(.tmp 74), (.tmp 76)]), (.some (72, true)), []⟩, (qS 78 (.pick (.tmp 72) (.tmp 77) (.const (.bool false)))), (qS 4 (.mv (.tmp 78)))]) .ret))), [(.tmp 4)]⟩
set_option maxHeartbeats 10000000 in
theorem d_impl_opSame {P : Program} {env : Env} {f_impl_vecSame : Nat}  (ep_impl_vecSame : env (2 * f_impl_vecSame) = pureFn true (FA fun a : TVec × TVec => p_impl_vecSame a.1 a.2)) (x0 : TOp) (x1 : TOp) {b : Bool} (hp : p_impl_opSame x0 x1 = some b) : R P env (c_impl_opSame f_impl_vecSame) ((encA (x0, x1)).map ofI) [] (Tells true b) := by
  refine R_of (by simp [c_impl_opSame, encA]) ?_
  have E := ep_impl_vecSame
  unfold c_impl_opSame
  unfold p_impl_opSame at hp
  obtain ⟨v0, hv0, hp⟩ := bind_eq hp
  by_cases hb1 : (v0) = true
  · rw [if_t hb1] at hp
    by_cases hb2 : (decide (x0.actor = x1.actor)) = true
    · rw [if_t hb2] at hp
      by_cases hb3 : (decide (x0.seq = x1.seq)) = true
      · rw [if_t hb3] at hp
        by_cases hb4 : (decide (x0.time = x1.time)) = true
        · rw [if_t hb4] at hp
          by_cases hb5 : (decide (x0.kind = x1.kind)) = true
          · rw [if_t hb5] at hp
            by_cases hb6 : (decide (x0.obj = x1.obj)) = true
            · rw [if_t hb6] at hp
              by_cases hb7 : (decide (x0.n = x1.n)) = true
              · rw [if_t hb7] at hp
                by_cases hb8 : (decide (x0.undo = x1.undo)) = true
                · rw [if_t hb8] at hp
                  by_cases hb9 : ((decide (x0.at_.time = x1.at_.time) && decide (x0.at_.actor = x1.at_.actor))) = true
                  · rw [if_t hb9] at hp
                    by_cases hb10 : (decide (x0.key = x1.key)) = true
                    · rw [if_t hb10] at hp
                      have hp := Option.some.inj hp
                      subst hp
                      simp (maxSteps := 2000000) (disch := first|omega|(simp only[ls];first|done|omega)) only [E, hv0, hb1, hb2, hb3, hb4, hb5, hb6, hb7, hb8, hb9, hb10, gx, eta_T4, enc_T4, dec_T4, ret_four]
                    · replace hb10 := eq_false_of_ne_true hb10
                      rw [if_f hb10] at hp
                      have hp := Option.some.inj hp
                      subst hp
                      simp (maxSteps := 2000000) (disch := first|omega|(simp only[ls];first|done|omega)) only [E, hv0, hb1, hb2, hb3, hb4, hb5, hb6, hb7, hb8, hb9, hb10, gx, eta_T4, enc_T4, dec_T4, ret_four]
                  · replace hb9 := eq_false_of_ne_true hb9
                    rw [if_f hb9] at hp
                    have hp := Option.some.inj hp
                    subst hp
                    simp (maxSteps := 2000000) (disch := first|omega|(simp only[ls];first|done|omega)) only [E, hv0, hb1, hb2, hb3, hb4, hb5, hb6, hb7, hb8, hb9, gx, eta_T4, enc_T4, dec_T4, ret_four]
                · replace hb8 := eq_false_of_ne_true hb8
                  rw [if_f hb8] at hp
                  have hp := Option.some.inj hp
                  subst hp
                  simp (maxSteps := 2000000) (disch := first|omega|(simp only[ls];first|done|omega)) only [E, hv0, hb1, hb2, hb3, hb4, hb5, hb6, hb7, hb8, gx, eta_T4, enc_T4, dec_T4, ret_four]
              · replace hb7 := eq_false_of_ne_true hb7
                rw [if_f hb7] at hp
                have hp := Option.some.inj hp
                subst hp
                simp (maxSteps := 2000000) (disch := first|omega|(simp only[ls];first|done|omega)) only [E, hv0, hb1, hb2, hb3, hb4, hb5, hb6, hb7, gx, eta_T4, enc_T4, dec_T4, ret_four]
            · replace hb6 := eq_false_of_ne_true hb6
              rw [if_f hb6] at hp
              have hp := Option.some.inj hp
              subst hp
              simp (maxSteps := 2000000) (disch := first|omega|(simp only[ls];first|done|omega)) only [E, hv0, hb1, hb2, hb3, hb4, hb5, hb6, gx, eta_T4, enc_T4, dec_T4, ret_four]
          · replace hb5 := eq_false_of_ne_true hb5
            rw [if_f hb5] at hp
            have hp := Option.some.inj hp
            subst hp
            simp (maxSteps := 2000000) (disch := first|omega|(simp only[ls];first|done|omega)) only [E, hv0, hb1, hb2, hb3, hb4, hb5, gx, eta_T4, enc_T4, dec_T4, ret_four]
        · replace hb4 := eq_false_of_ne_true hb4
          rw [if_f hb4] at hp
          have hp := Option.some.inj hp
          subst hp
          simp (maxSteps := 2000000) (disch := first|omega|(simp only[ls];first|done|omega)) only [E, hv0, hb1, hb2, hb3, hb4, gx, eta_T4, enc_T4, dec_T4, ret_four]
      · replace hb3 := eq_false_of_ne_true hb3
        rw [if_f hb3] at hp
        have hp := Option.some.inj hp
        subst hp
        simp (maxSteps := 2000000) (disch := first|omega|(simp only[ls];first|done|omega)) only [E, hv0, hb1, hb2, hb3, gx, eta_T4, enc_T4, dec_T4, ret_four]
    · replace hb2 := eq_false_of_ne_true hb2
      rw [if_f hb2] at hp
      have hp := Option.some.inj hp
      subst hp
      simp (maxSteps := 2000000) (disch := first|omega|(simp only[ls];first|done|omega)) only [E, hv0, hb1, hb2, gx, eta_T4, enc_T4, dec_T4, ret_four]
  · replace hb1 := eq_false_of_ne_true hb1
    rw [if_f hb1] at hp
    have hp := Option.some.inj hp
    subst hp
    simp (maxSteps := 2000000) (disch := first|omega|(simp only[ls];first|done|omega)) only [E, hv0, hb1, gx, eta_T4, enc_T4, dec_T4, ret_four]

noncomputable def p_impl_readTwo_l0 (v0 : T2 (Option TBook) Bool) (v2 : T2 (Option TBook) Bool) (s4 : Int) : Int → Option (Lp (Int) (T3 (Option TBook) (Option TBook) Int))
  | s6 =>
    (v0.a).bind fun v7 =>
    (get? v7.of_ s4).bind fun v8 =>
    if (decide (s6 < (v8.length : Int))) = true then
      (v2.a).bind fun v11 =>
      (get? v11.of_ s4).bind fun v12 =>
      if (decide (s6 < (v12.length : Int))) = true then
        (get? v8 s6).bind fun v16 =>
        (get? v12 s6).bind fun v18 =>
        (p_impl_opSame v16 v18).bind fun v19 =>
        if (v19) = true then
          some (.go (w64 (s6 + 1)))
        else
          some (.ret ⟨(none : Option TBook), (none : Option TBook), 16⟩)
      else
        some (.out s6)
    else
      some (.out s6)
noncomputable def p_impl_readTwo_l1 (v0 : T2 (Option TBook) Bool) (v2 : T2 (Option TBook) Bool) : Int → Option (Lp (Int) (T3 (Option TBook) (Option TBook) Int))
  | s4 =>
    if (decide (s4 < 16)) = true then
      (loopP (p_impl_readTwo_l0 v0 v2 s4) 0).bind fun ee0 => match ee0 with
      | .ret r => some (.ret r)
      | .out o21 =>
        some (.go (w64 (s4 + 1)))
    else
      some (.out s4)
noncomputable def p_impl_readTwo (x0 : List TOp) (x1 : List TOp) : Option (T3 (Option TBook) (Option TBook) Int) :=
  (p_impl_readBook x0).bind fun v0 =>
  if (v0.b) = true then
    (p_impl_readBook x1).bind fun v2 =>
    if (v2.b) = true then
      (loopP (p_impl_readTwo_l1 v0 v2) 0).bind fun ee1 => match ee1 with
      | .ret r => some r
      | .out o22 =>
        some ⟨v0.a, v2.a, 0⟩
    else
      some ⟨(none : Option TBook), (none : Option TBook), 1⟩
  else
    some ⟨(none : Option TBook), (none : Option TBook), 1⟩
def c_impl_readTwo (f_impl_readBook : Nat) (f_impl_opSame : Nat) : AFn := ⟨74, (.seq (.ops [(qS 4 (.mv (.const (.pointer .none)))), (qS 5 (.mv (.const (.pointer .none)))), (qS 6 (.mv (ic 0)))]) (.seq (.ops [(qS 13 (.mv (.tmp 0))), (qS 14 (.call (2 * f_impl_readBook) [(.tmp 13)])), (qS 12 (.mv (.tmp 14))), (qS 15 (.extract 0 (.tmp 12))), (qS 16 (.extract 1 (.tmp 12))), (qS 7 (.mv (.tmp 15))), (qS 8 (.mv (.tmp 16)))]) (.seq (.seq (.ops [(qS 17 (.mv (.tmp 8))), (qS 18 (.pu (.n (.un .not)) [(.tmp 17)]))]) (.cond (.tmp 18) (.seq (.ops [(qS 4 (.mv (.const (.pointer .none)))), (qS 5 (.mv (.const (.pointer .none)))), (qS 6 (.mv (ic 1)))]) .ret) .skip)) (.seq (.ops [(qS 20 (.mv (.tmp 1))), (qS 21 (.call (2 * f_impl_readBook) [(.tmp 20)])), (qS 19 (.mv (.tmp 21))), (qS 22 (.extract 0 (.tmp 19))), (qS 23 (.extract 1 (.tmp 19))), (qS 9 (.mv (.tmp 22))), (qS 8 (.mv (.tmp 23)))]) (.seq (.seq (.ops [(qS 24 (.mv (.tmp 8))), (qS 25 (.pu (.n (.un .not)) [(.tmp 24)]))]) (.cond (.tmp 25) (.seq (.ops [(qS 4 (.mv (.const (.pointer .none)))), (qS 5 (.mv (.const (.pointer .none)))), (qS 6 (.mv (ic 1)))]) .ret) .skip)) (.seq (.seq (.ops [(qS 26 (.mv (ic 0)))]) (.block 0 (.loop (.seq (.ops [(qS 27 (.pu (.n (.ar .lss)) [(.tmp 26), (ic 16)]))]) (.seq (.cond (.tmp 27) .skip (.exit 0)) (.seq (.block 1 (.seq (.ops [(qS 28 (.mv (.tmp 26))), (qS 10 (.mv (.tmp 28)))]) (.seq (.ops [(qS 11 (.mv (ic 0)))]) (.block 2 (.loop (.seq (.seq (.ops [(qS 29 (.mv (.tmp 11))), (qS 30 (.mv (.tmp 7))), (qS 31 (.mv (.tmp 10))), (qS 32 (.nilChk (.tmp 30))), (qS 33 (.fieldA 0 (.tmp 32))), (qS 34 (.idxA 16 1 (.tmp 33) (.tmp 31))), (qS 35 (.load 1 false (.tmp 34))), (qS 36 (.len (.tmp 35))), (qS 37 (.pu (.n (.ar .lss)) [(.tmp 29), (.tmp 36)])), (qS 38 (.mv (.tmp 37))), ⟨(.some 39), (.mv (.tmp 11)), (.some (38, true)), []⟩, ⟨(.some 40), (.mv (.tmp 9)), (.some (38, true)), []⟩, ⟨(.some 41), (.mv (.tmp 10)), (.some (38, true)), []⟩, ⟨(.some 42), (.nilChk (.tmp 40)), (.some (38, true)), []⟩, ⟨(.some 43), (.fieldA 0 (.tmp 42)), (.some (38, true)), []⟩, ⟨(.some 44), (.idxA 16 1 (.tmp 43) (.tmp 41)), (.some (38, true)), []⟩, ⟨(.some 45), (.load 1 false (.tmp 44)), (.some (38, true)), []⟩, ⟨(.some 46), (.len (.tmp 45)), (.some (38, true)), []⟩, ⟨(.some 47), (.pu (.n (.ar .lss)) [(.tmp 39), (.tmp 46)]), (.some (38, true)), []⟩, (qS 48 (.pick (.tmp 38) (.tmp 47) (.const (.bool false))))]) (.cond (.tmp 48) .skip (.exit 2))) (.seq (.block 3 (.seq (.ops [(qS 51 (.mv (.tmp 7))), (qS 52 (.mv (.tmp 10))), (qS 53 (.nilChk (.tmp 51))), (qS 54 (.fieldA 0 (.tmp 53))), (qS 55 (.idxA 16 1 (.tmp 54) (.tmp 52))), (qS 56 (.load 1 false (.tmp 55))), (qS 57 (.mv (.tmp 11))), (qS 58 (.idxS 12 (.tmp 56) (.tmp 57))), (qS 59 (.load 12 true (.tmp 58))), (qS 60 (.mv (.tmp 9))), (qS 61 (.mv (.tmp 10))), (qS 62 (.nilChk (.tmp 60))), (qS 63 (.fieldA 0 (.tmp 62))), (qS 64 (.idxA 16 1 (.tmp 63) (.tmp 61))), (qS 65 (.load 1 false (.tmp 64))), (qS 66 (.mv (.tmp 11))), (qS 67 (.idxS 12 (.tmp 65) (.tmp 66))), (qS 68 (.load 12 true (.tmp 67))), (qS 69 (.call (2 * f_impl_opSame) [(.tmp 59), (.tmp 68)])), (qS 70 (.pu (.n (.un .not)) [(.tmp 69)]))]) (.cond (.tmp 70) (.seq (.ops [(qS 4 (.mv (.const (.pointer .none)))), (qS 5 (.mv (.const (.pointer .none)))), (qS 6 (.mv (ic 16)))]) .ret) .skip))) (.ops [(qS 49 (.mv (.tmp 11))), (qS 50 (.pu (.n (.ar .add)) [(.tmp 49), (ic 1)])), (qS 11 (.mv (.tmp 50)))])))))))) (.ops [(qS 71 (.pu (.n (.ar .add)) [(.tmp 26), (ic 1)])), (qS 26 (.mv (.tmp 71)))]))))))) (.seq (.ops [(qS 72 (.mv (.tmp 7))), (qS 73 (.mv (.tmp 9))), (qS 4 (.mv (.tmp 72))), (qS 5 (.mv (.tmp 73))), (qS 6 (.mv (ic 0)))]) .ret))))))), [(.tmp 4), (.tmp 5), (.tmp 6)]⟩
set_option maxHeartbeats 10000000 in
theorem d_impl_readTwo {P : Program} {env : Env} {f_impl_readBook : Nat} {f_impl_opSame : Nat}  (ep_impl_readBook : env (2 * f_impl_readBook) = pureFn false (FA fun a : List TOp => p_impl_readBook a)) (ep_impl_opSame : env (2 * f_impl_opSame) = pureFn true (FA fun a : TOp × TOp => p_impl_opSame a.1 a.2)) (x0 : List TOp) (x1 : List TOp) {b : T3 (Option TBook) (Option TBook) Int} (hp : p_impl_readTwo x0 x1 = some b) : R P env (c_impl_readTwo f_impl_readBook f_impl_opSame) ((encA (x0, x1)).map ofI) [] (Tells false b) := by
  refine R_of (by simp [c_impl_readTwo, encA]) ?_
  have E := And.intro opc (And.intro ep_impl_readBook ep_impl_opSame)
  unfold c_impl_readTwo
  unfold p_impl_readTwo at hp
  obtain ⟨v0, hv0, hp⟩ := bind_eq hp
  by_cases hb1 : (v0.b) = true
  · rw [if_t hb1] at hp
    obtain ⟨v2, hv2, hp⟩ := bind_eq hp
    by_cases hb3 : (v2.b) = true
    · rw [if_t hb3] at hp
      obtain ⟨ee1, hee1, hp⟩ := bind_eq hp
      simp (maxSteps := 2000000) (disch := first|omega|(simp only[ls];first|done|omega)) only [E, hv0, hb1, hv2, hb3, gx, eta_T4, enc_T4, dec_T4, ret_four]
      refine W_loopP 0 (fun s t h => match s with | s4 => t 7 = .i (enc (v0.a : Option TBook)) ∧ t 9 = .i (enc (v2.a : Option TBook)) ∧ t 26 = .i (.s (.int .i64 s4))) (RK [.tmp 4, .tmp 5, .tmp 6] (Tells false)) ?_ hee1 ?_ ?_
      · rintro s4 ee tt0 hh0 ⟨ftt0_0, ftt0_1, ftt0_2⟩ hp
        rw [p_impl_readTwo_l1] at hp
        by_cases hb5 : (decide (s4 < 16)) = true
        · rw [if_t hb5] at hp
          obtain ⟨ee0, hee0, hp⟩ := bind_eq hp
          simp (maxSteps := 2000000) (disch := first|omega|(simp only[ls];first|done|omega)) only [E, hv0, hb1, hv2, hb3, ftt0_0, ftt0_1, ftt0_2, hb5, gx, eta_T4, enc_T4, dec_T4, ret_four]
          refine W_loopP 2 (fun s t h => match s with | s6 => t 7 = .i (enc (v0.a : Option TBook)) ∧ t 9 = .i (enc (v2.a : Option TBook)) ∧ t 10 = .i (.s (.int .i64 s4)) ∧ t 11 = .i (.s (.int .i64 s6)) ∧ t 26 = .i (.s (.int .i64 s4))) (RK [.tmp 4, .tmp 5, .tmp 6] (Tells false)) ?_ hee0 ?_ ?_
          · rintro s6 ee tt1 hh1 ⟨ftt1_0, ftt1_1, ftt1_2, ftt1_3, ftt1_4⟩ hp
            rw [p_impl_readTwo_l0] at hp
            obtain ⟨v7, hv7, hp⟩ := bind_eq hp
            obtain ⟨v8, hv8, hp⟩ := bind_eq hp
            have gv8 := get_some hv8
            have bv8 : s4 < 16 := by have := gv8.2.1; have := (v7).h1; omega
            have hk9 := ip_of hv8
            have hk9l : 1 ≤ _ := ip_len0 (k := v7) (i := s4) (by have := gv8.2.1; have := (v7).h1; omega)
            by_cases hb10 : (decide (s6 < (v8.length : Int))) = true
            · rw [if_t hb10] at hp
              obtain ⟨v11, hv11, hp⟩ := bind_eq hp
              obtain ⟨v12, hv12, hp⟩ := bind_eq hp
              have gv12 := get_some hv12
              have bv12 : s4 < 16 := by have := gv12.2.1; have := (v11).h1; omega
              have hk13 := ip_of hv12
              have hk13l : 1 ≤ _ := ip_len0 (k := v11) (i := s4) (by have := gv12.2.1; have := (v11).h1; omega)
              by_cases hb14 : (decide (s6 < (v12.length : Int))) = true
              · rw [if_t hb14] at hp
                have hk15 := ip_of hv8
                have hk15l : 1 ≤ _ := ip_len0 (k := v7) (i := s4) (by have := gv8.2.1; have := (v7).h1; omega)
                obtain ⟨v16, hv16, hp⟩ := bind_eq hp
                have hk17 := ip_of hv12
                have hk17l : 1 ≤ _ := ip_len0 (k := v11) (i := s4) (by have := gv12.2.1; have := (v11).h1; omega)
                obtain ⟨v18, hv18, hp⟩ := bind_eq hp
                obtain ⟨v19, hv19, hp⟩ := bind_eq hp
                by_cases hb20 : (v19) = true
                · rw [if_t hb20] at hp
                  have hp := Option.some.inj hp
                  subst hp
                  simp (maxSteps := 2000000) (disch := first|omega|(simp only[ls];first|done|omega)) only [E, hv0, hb1, hv2, hb3, ftt0_0, ftt0_1, ftt0_2, hb5, ftt1_0, ftt1_1, ftt1_2, ftt1_3, ftt1_4, hv7, hv8, (gv8).1, bv8, hk9, hk9l, hb10, hv11, hv12, (gv12).1, bv12, hk13, hk13l, hb14, hk15, hk15l, hv16, hk17, hk17l, hv18, hv19, hb20, gx, eta_T4, enc_T4, dec_T4, ret_four] <;> omega
                · replace hb20 := eq_false_of_ne_true hb20
                  rw [if_f hb20] at hp
                  have hp := Option.some.inj hp
                  subst hp
                  simp (maxSteps := 2000000) (disch := first|omega|(simp only[ls];first|done|omega)) only [E, hv0, hb1, hv2, hb3, ftt0_0, ftt0_1, ftt0_2, hb5, ftt1_0, ftt1_1, ftt1_2, ftt1_3, ftt1_4, hv7, hv8, (gv8).1, bv8, hk9, hk9l, hb10, hv11, hv12, (gv12).1, bv12, hk13, hk13l, hb14, hk15, hk15l, hv16, hk17, hk17l, hv18, hv19, hb20, gx, eta_T4, enc_T4, dec_T4, ret_four]
              · replace hb14 := eq_false_of_ne_true hb14
                rw [if_f hb14] at hp
                have hp := Option.some.inj hp
                subst hp
                simp (maxSteps := 2000000) (disch := first|omega|(simp only[ls];first|done|omega)) only [E, hv0, hb1, hv2, hb3, ftt0_0, ftt0_1, ftt0_2, hb5, ftt1_0, ftt1_1, ftt1_2, ftt1_3, ftt1_4, hv7, hv8, (gv8).1, bv8, hk9, hk9l, hb10, hv11, hv12, (gv12).1, bv12, hk13, hk13l, hb14, gx, eta_T4, enc_T4, dec_T4, ret_four] <;> omega
            · replace hb10 := eq_false_of_ne_true hb10
              rw [if_f hb10] at hp
              have hp := Option.some.inj hp
              subst hp
              simp (maxSteps := 2000000) (disch := first|omega|(simp only[ls];first|done|omega)) only [E, hv0, hb1, hv2, hb3, ftt0_0, ftt0_1, ftt0_2, hb5, ftt1_0, ftt1_1, ftt1_2, ftt1_3, ftt1_4, hv7, hv8, (gv8).1, bv8, hk9, hk9l, hb10, gx, eta_T4, enc_T4, dec_T4, ret_four] <;> omega
          · simp (maxSteps := 2000000) (disch := first|omega|(simp only[ls];first|done|omega)) only [E, hv0, hb1, hv2, hb3, ftt0_0, ftt0_1, ftt0_2, hb5, gx, eta_T4, enc_T4, dec_T4, ret_four] <;> omega
          · intro x tt2 hh2 hx
            rcases ee0 with o21 | r
            · obtain ⟨rfl, ftt2_0, ftt2_1, ftt2_2, ftt2_3, ftt2_4⟩ := hx
              dsimp only at hp
              have hp := Option.some.inj hp
              subst hp
              simp (maxSteps := 2000000) (disch := first|omega|(simp only[ls];first|done|omega)) only [E, hv0, hb1, hv2, hb3, ftt0_0, ftt0_1, ftt0_2, hb5, ftt2_0, ftt2_1, ftt2_2, ftt2_3, ftt2_4, gx, eta_T4, enc_T4, dec_T4, ret_four] <;> omega
            · obtain ⟨rfl, hx⟩ := hx
              dsimp only at hp
              cases hp
              simp only [seqK_ret, blockK_ret, retK_RK (K := Tells false), hx, and_self, true_and]
        · replace hb5 := eq_false_of_ne_true hb5
          rw [if_f hb5] at hp
          have hp := Option.some.inj hp
          subst hp
          simp (maxSteps := 2000000) (disch := first|omega|(simp only[ls];first|done|omega)) only [E, hv0, hb1, hv2, hb3, ftt0_0, ftt0_1, ftt0_2, hb5, gx, eta_T4, enc_T4, dec_T4, ret_four] <;> omega
      · simp (maxSteps := 2000000) (disch := first|omega|(simp only[ls];first|done|omega)) only [E, hv0, hb1, hv2, hb3, gx, eta_T4, enc_T4, dec_T4, ret_four] <;> omega
      · intro x tt3 hh3 hx
        rcases ee1 with o22 | r
        · obtain ⟨rfl, ftt3_0, ftt3_1, ftt3_2⟩ := hx
          dsimp only at hp
          have hp := Option.some.inj hp
          subst hp
          simp (maxSteps := 2000000) (disch := first|omega|(simp only[ls];first|done|omega)) only [E, hv0, hb1, hv2, hb3, ftt3_0, ftt3_1, ftt3_2, gx, eta_T4, enc_T4, dec_T4, ret_four]
        · obtain ⟨rfl, hx⟩ := hx
          dsimp only at hp
          cases hp
          simp only [seqK_ret, blockK_ret, retK_RK (K := Tells false), hx, and_self, true_and]
    · replace hb3 := eq_false_of_ne_true hb3
      rw [if_f hb3] at hp
      have hp := Option.some.inj hp
      subst hp
      simp (maxSteps := 2000000) (disch := first|omega|(simp only[ls];first|done|omega)) only [E, hv0, hb1, hv2, hb3, gx, eta_T4, enc_T4, dec_T4, ret_four]
  · replace hb1 := eq_false_of_ne_true hb1
    rw [if_f hb1] at hp
    have hp := Option.some.inj hp
    subst hp
    simp (maxSteps := 2000000) (disch := first|omega|(simp only[ls];first|done|omega)) only [E, hv0, hb1, gx, eta_T4, enc_T4, dec_T4, ret_four]

noncomputable def p_impl_vecCopy (x0 : TVec) : Option TVec :=
  (app? 8 ([] : List Int) x0.counts).bind fun v0 =>
  some (TVec.mk v0)
def c_impl_vecCopy : AFn := ⟨7, (.seq (.ops [(qS 1 (.box (.tmp 0))), (qS 2 (.allocV [(1, false)] [(.slice .none 0 0)]))]) (.seq (.ops [(qS 3 (.fieldA 0 (.tmp 1))), (qS 4 (.load 1 false (.tmp 3))), (qS 5 (.appendV 1 false 8 (.tmp 4))), (qS 6 (.build [(.slice .none 0 0)] [(0, (1, (.tmp 5)))])), ⟨.none, (.storeV [(1, false)] 1 (.tmp 2) (.tmp 6)), .none, []⟩]) .ret)), [(.cell 2 1 true)]⟩
def o_impl_vecCopy (b : TVec) (v : V) (h : Heap) : Prop := ∃ n0 : Nat, v = .agg [.hsl n0 b.counts.length 0 1 false b.counts.length] ∧ getCells h n0 b.counts.length = some (rows b.counts)
def oo_impl_vecCopy (b : TVec) (h : Heap) (v : V) (h2 : Heap) : Prop := Keep [] h h2 ∧ ∃ n0 : Nat, v = .agg [.hsl n0 b.counts.length 0 1 false b.counts.length] ∧ n0 < h2.length ∧ h.length ≤ n0 ∧ getCells h2 n0 b.counts.length = some (rows b.counts)
def k_impl_vecCopy (F : Fun) : Prop := ∀ (x0 : TVec) (b : TVec), p_impl_vecCopy x0 = some b → ∀ (h : Heap) (args : List V), snapA 9 false h args = some (encA (x0)) → ∃ p, F none args h = some p ∧ oo_impl_vecCopy b h p.1 p.2
set_option maxHeartbeats 10000000 in
theorem w_impl_vecCopy {P : Program} {env : Env}  (x0 : TVec) {b : TVec} (hp : p_impl_vecCopy x0 = some b) : R P env (c_impl_vecCopy) ((encA (x0)).map ofI) [] (o_impl_vecCopy b) := by
  refine R_of (by simp [c_impl_vecCopy, encA]) ?_
  unfold c_impl_vecCopy
  unfold p_impl_vecCopy at hp
  obtain ⟨v0, hv0, hp⟩ := bind_eq hp
  simp (maxSteps := 2000000) (disch := first|omega|(simp only[ls];first|done|omega)) only [gx, eta_T4, enc_T4, dec_T4, ret_four]
  refine app_f (b := 3) (xs := ([] : List Int)) (ys := x0.counts) (fun h => getCells h 0 1 = some [.i (.sl 1 (x0.counts.map enc))] ∧ 0 < h.length ∧ getCells h 1 0 = some [] ∧ 1 < h.length ∧ getCells h 2 1 = some [.hsl 1 0 0 1 false 0] ∧ 2 < h.length ∧ getCells h 3 0 = some [] ∧ 3 < h.length) ?_ ?_ hv0 rfl (by first | rfl | omega | (simp; omega)) (by first | rfl | omega | (simp; omega)) (by first | rfl | omega | (simp; omega)) ?_
  · simp (maxSteps := 2000000) (disch := first|omega|(simp only[ls];first|done|omega)) only [hv0, gx, eta_T4, enc_T4, dec_T4, ret_four] <;> omega
  · rintro h ⟨c0_0, c0_1, c0_2, c0_3, c0_4, c0_5, c0_6, c0_7⟩
    exact gc_eq c0_6 (by omega)
  · rintro h hh0 ⟨c0_0, c0_1, c0_2, c0_3, c0_4, c0_5, c0_6, c0_7⟩ kk0 w0
    have d0_0 : getCells hh0 0 1 = some [.i (.sl 1 (x0.counts.map enc))] := (keep_get kk0 c0_1 (by first | (simp; done) | (simp; omega))).trans c0_0
    have d0_0l := keep_lt kk0 c0_1
    have d0_1 : getCells hh0 1 0 = some [] := (keep_get kk0 c0_3 (by first | (simp; done) | (simp; omega))).trans c0_2
    have d0_1l := keep_lt kk0 c0_3
    have d0_2 : getCells hh0 2 1 = some [.hsl 1 0 0 1 false 0] := (keep_get kk0 c0_5 (by first | (simp; done) | (simp; omega))).trans c0_4
    have d0_2l := keep_lt kk0 c0_5
    have d0_3 : getCells hh0 3 v0.length = some (rows (v0 : List Int)) := by simpa only [Nat.mul_one] using w0
    have d0_3l := keep_lt kk0 c0_7
    have hp := Option.some.inj hp
    subst hp
    simp (maxSteps := 2000000) (disch := first|omega|(simp only[ls];first|done|omega)) only [hv0, d0_0, d0_1, d0_2, d0_3, gx, eta_T4, enc_T4, dec_T4, ret_four]
    refine ⟨3, ?_⟩
    simp (maxSteps := 2000000) (disch := first|omega|(simp only[ls];first|done|omega)) only [hv0, d0_0, d0_1, d0_2, d0_3, o_impl_vecCopy, gx, eta_T4, enc_T4, dec_T4, ret_four] <;> omega
theorem ko_impl_vecCopy {P : Program} {env : Env}  : k_impl_vecCopy (ownFn P env (c_impl_vecCopy)) := by
  intro x0 b hp h args has
  obtain ⟨⟨v, H2⟩, hr, n0, rfl, wn0⟩ := w_impl_vecCopy x0 hp
  exact ⟨_, own_call has hr rfl, keep_moved, n0 + h.length, rfl, (moved_lt wn0).2, (moved_lt wn0).1, moved_rows wn0⟩

noncomputable def p_impl_opCopy (x0 : TOp) : Option TOp :=
  (p_impl_vecCopy x0.deps).bind fun v0 =>
  some (TOp.mk x0.actor x0.seq x0.time v0 x0.kind x0.obj x0.n x0.undo x0.at_ x0.key x0.text)
def c_impl_opCopy (f_impl_vecCopy : Nat) : AFn := ⟨8, (.seq (.ops [(qS 1 (.box (.tmp 0))), (qS 2 (.allocV [(0, false), (0, false), (0, false), (1, false), (0, false), (0, false), (0, false), (0, false), (0, false), (0, false), (0, false), (0, false)] [(.int .i64 0), (.int .i64 0), (.int .i64 0), (.slice .none 0 0), (.int .i64 0), (.int .i64 0), (.int .i64 0), (.int .i64 0), (.int .i64 0), (.int .i64 0), (.string ⟨#[]⟩), (.string ⟨#[]⟩)]))]) (.seq (.ops [(qS 3 (.fieldA 3 (.tmp 1))), (qS 4 (.load 1 true (.tmp 3))), (qS 5 (.call (2 * f_impl_vecCopy + 1) [(.tmp 4)])), (qS 6 (.fieldA 3 (.tmp 1))), ⟨.none, (.storeV [(1, false)] 1 (.tmp 6) (.tmp 5)), .none, []⟩]) (.seq (.ops [(qS 7 (.load 12 true (.tmp 1))), ⟨.none, (.storeV [(0, false), (0, false), (0, false), (1, false), (0, false), (0, false), (0, false), (0, false), (0, false), (0, false), (0, false), (0, false)] 12 (.tmp 2) (.tmp 7)), .none, []⟩]) .ret))), [(.cell 2 12 true)]⟩
def o_impl_opCopy (b : TOp) (v : V) (h : Heap) : Prop := ∃ n0 : Nat, v = .agg [.i (.s (.int .i64 b.actor)), .i (.s (.int .i64 b.seq)), .i (.s (.int .i64 b.time)), .hsl n0 b.deps.counts.length 0 1 false b.deps.counts.length, .i (.s (.int .i64 b.kind)), .i (.s (.int .i64 b.obj)), .i (.s (.int .i64 b.n)), .i (.s (.int .i64 b.undo)), .i (.s (.int .i64 b.at_.time)), .i (.s (.int .i64 b.at_.actor)), .i (.s (.string b.key)), .i (.s (.string b.text))] ∧ getCells h n0 b.deps.counts.length = some (rows b.deps.counts)
def oo_impl_opCopy (b : TOp) (h : Heap) (v : V) (h2 : Heap) : Prop := Keep [] h h2 ∧ ∃ n0 : Nat, v = .agg [.i (.s (.int .i64 b.actor)), .i (.s (.int .i64 b.seq)), .i (.s (.int .i64 b.time)), .hsl n0 b.deps.counts.length 0 1 false b.deps.counts.length, .i (.s (.int .i64 b.kind)), .i (.s (.int .i64 b.obj)), .i (.s (.int .i64 b.n)), .i (.s (.int .i64 b.undo)), .i (.s (.int .i64 b.at_.time)), .i (.s (.int .i64 b.at_.actor)), .i (.s (.string b.key)), .i (.s (.string b.text))] ∧ n0 < h2.length ∧ h.length ≤ n0 ∧ getCells h2 n0 b.deps.counts.length = some (rows b.deps.counts)
def k_impl_opCopy (F : Fun) : Prop := ∀ (x0 : TOp) (b : TOp), p_impl_opCopy x0 = some b → ∀ (h : Heap) (args : List V), snapA 9 false h args = some (encA (x0)) → ∃ p, F none args h = some p ∧ oo_impl_opCopy b h p.1 p.2
set_option maxHeartbeats 10000000 in
theorem w_impl_opCopy {P : Program} {env : Env} {f_impl_vecCopy : Nat}  (e_impl_vecCopy : k_impl_vecCopy (env (2 * f_impl_vecCopy + 1))) (x0 : TOp) {b : TOp} (hp : p_impl_opCopy x0 = some b) : R P env (c_impl_opCopy f_impl_vecCopy) ((encA (x0)).map ofI) [] (o_impl_opCopy b) := by
  refine R_of (by simp [c_impl_opCopy, encA]) ?_
  have E := opc
  unfold c_impl_opCopy
  unfold p_impl_opCopy at hp
  obtain ⟨v0, hv0, hp⟩ := bind_eq hp
  simp (maxSteps := 2000000) (disch := first|omega|(simp only[ls];first|done|omega)) only [E, gx, eta_T4, enc_T4, dec_T4, ret_four]
  refine call_f (fun h => getCells h 0 12 = some [.i (.s (.int .i64 x0.actor)), .i (.s (.int .i64 x0.seq)), .i (.s (.int .i64 x0.time)), .i (.sl 1 (x0.deps.counts.map enc)), .i (.s (.int .i64 x0.kind)), .i (.s (.int .i64 x0.obj)), .i (.s (.int .i64 x0.n)), .i (.s (.int .i64 x0.undo)), .i (.s (.int .i64 x0.at_.time)), .i (.s (.int .i64 x0.at_.actor)), .i (.s (.string x0.key)), .i (.s (.string x0.text))] ∧ 0 < h.length ∧ getCells h 1 0 = some [] ∧ 1 < h.length ∧ getCells h 2 12 = some [.i (.s (.int .i64 0)), .i (.s (.int .i64 0)), .i (.s (.int .i64 0)), .hsl 1 0 0 1 false 0, .i (.s (.int .i64 0)), .i (.s (.int .i64 0)), .i (.s (.int .i64 0)), .i (.s (.int .i64 0)), .i (.s (.int .i64 0)), .i (.s (.int .i64 0)), .i (.s (.string (ByteArray.mk #[]))), .i (.s (.string (ByteArray.mk #[])))] ∧ 2 < h.length) (fun h v h2 => oo_impl_vecCopy v0 h v h2) ?_ ?_ ?_
  · simp (maxSteps := 2000000) (disch := first|omega|(simp only[ls];first|done|omega)) only [E, hv0, gx, eta_T4, enc_T4, dec_T4, ret_four] <;> omega
  · rintro h ⟨c0_0, c0_1, c0_2, c0_3, c0_4, c0_5⟩
    exact e_impl_vecCopy _ _ hv0 h _ (by simp (maxSteps := 2000000) (disch := first|omega|(simp only[ls];first|done|omega)) only [E, hv0, c0_0, c0_1, c0_2, c0_3, c0_4, c0_5, gx, eta_T4, enc_T4, dec_T4, ret_four])
  · rintro hc0 v hh0 ⟨c0_0, c0_1, c0_2, c0_3, c0_4, c0_5⟩ hpost
    obtain ⟨kk0, nb0_0, rfl, lnb0_0, gnb0_0, wnb0_0⟩ := hpost
    have d0_0 : getCells hh0 0 12 = some [.i (.s (.int .i64 x0.actor)), .i (.s (.int .i64 x0.seq)), .i (.s (.int .i64 x0.time)), .i (.sl 1 (x0.deps.counts.map enc)), .i (.s (.int .i64 x0.kind)), .i (.s (.int .i64 x0.obj)), .i (.s (.int .i64 x0.n)), .i (.s (.int .i64 x0.undo)), .i (.s (.int .i64 x0.at_.time)), .i (.s (.int .i64 x0.at_.actor)), .i (.s (.string x0.key)), .i (.s (.string x0.text))] := (keep_get kk0 c0_1 (by first | (simp; done) | (simp; omega))).trans c0_0
    have d0_0l := keep_lt kk0 c0_1
    have d0_1 : getCells hh0 1 0 = some [] := (keep_get kk0 c0_3 (by first | (simp; done) | (simp; omega))).trans c0_2
    have d0_1l := keep_lt kk0 c0_3
    have d0_2 : getCells hh0 2 12 = some [.i (.s (.int .i64 0)), .i (.s (.int .i64 0)), .i (.s (.int .i64 0)), .hsl 1 0 0 1 false 0, .i (.s (.int .i64 0)), .i (.s (.int .i64 0)), .i (.s (.int .i64 0)), .i (.s (.int .i64 0)), .i (.s (.int .i64 0)), .i (.s (.int .i64 0)), .i (.s (.string (ByteArray.mk #[]))), .i (.s (.string (ByteArray.mk #[])))] := (keep_get kk0 c0_5 (by first | (simp; done) | (simp; omega))).trans c0_4
    have d0_2l := keep_lt kk0 c0_5
    have d0_3 := wnb0_0
    have hp := Option.some.inj hp
    subst hp
    simp (maxSteps := 2000000) (disch := first|omega|(simp only[ls];first|done|omega)) only [E, hv0, d0_0, d0_1, d0_2, d0_3, gx, eta_T4, enc_T4, dec_T4, ret_four]
    refine ⟨nb0_0, ?_⟩
    simp (maxSteps := 2000000) (disch := first|omega|(simp only[ls];first|done|omega)) only [E, hv0, d0_0, d0_1, d0_2, d0_3, o_impl_opCopy, gx, eta_T4, enc_T4, dec_T4, ret_four] <;> omega
theorem ko_impl_opCopy {P : Program} {env : Env} {f_impl_vecCopy : Nat}  (e_impl_vecCopy : k_impl_vecCopy (env (2 * f_impl_vecCopy + 1))) : k_impl_opCopy (ownFn P env (c_impl_opCopy f_impl_vecCopy)) := by
  intro x0 b hp h args has
  obtain ⟨⟨v, H2⟩, hr, n0, rfl, wn0⟩ := w_impl_opCopy e_impl_vecCopy x0 hp
  exact ⟨_, own_call has hr rfl, keep_moved, n0 + h.length, rfl, (moved_lt wn0).2, (moved_lt wn0).1, moved_rows wn0⟩

noncomputable def p_impl_merge_l0 (v0 : T3 (Option TBook) (Option TBook) Int) (v2 : TBook) : Int → Option (Lp (Int) (T4 (Option TBook) (Option TBook) (List TOp) Int))
  | s4 =>
    if (decide (s4 < 101)) = true then
      (get? v2.kind s4).bind fun v6 =>
      if (decide (v6 = 0)) = true then
        some (.go (w64 (s4 + 1)))
      else
        (v0.b).bind fun v8 =>
        (get? v8.kind s4).bind fun v9 =>
        if (decide (v9 = 0)) = true then
          some (.go (w64 (s4 + 1)))
        else
          if (decide (v9 = v6)) = true then
            some (.go (w64 (s4 + 1)))
          else
            some (.ret ⟨(none : Option TBook), (none : Option TBook), [], 8⟩)
    else
      some (.out s4)
noncomputable def p_impl_merge_l3 (v21 : List TOp) : List TOp × Int → Option (Lp (List TOp × Int) (T4 (Option TBook) (Option TBook) (List TOp) Int))
  | (s25, s26) =>
    if (decide (s26 < (v21.length : Int))) = true then
      (get? v21 s26).bind fun v28 =>
      (p_impl_opCopy v28).bind fun v29 =>
      (app? 128 s25 [v29]).bind fun v30 =>
      some (.go (v30, w64 (s26 + 1)))
    else
      some (.out (s25, s26))
noncomputable def p_impl_merge_l4 (v18 : List TOp) : List TOp × Int → Option (Lp (List TOp × Int) (T4 (Option TBook) (Option TBook) (List TOp) Int))
  | (s33, s34) =>
    if (decide (s34 < (v18.length : Int))) = true then
      (get? v18 s34).bind fun v36 =>
      (p_impl_opCopy v36).bind fun v37 =>
      (app? 128 s33 [v37]).bind fun v38 =>
      some (.go (v38, w64 (s34 + 1)))
    else
      some (.out (s33, s34))
noncomputable def p_impl_merge_l5 (v0 : T3 (Option TBook) (Option TBook) Int) (v2 : TBook) : List TOp × Int → Option (Lp (List TOp × Int) (T4 (Option TBook) (Option TBook) (List TOp) Int))
  | (s15, s16) =>
    if (decide (s16 < 16)) = true then
      (get? v2.of_ s16).bind fun v18 =>
      (v0.b).bind fun v20 =>
      (get? v20.of_ s16).bind fun v21 =>
      if (decide ((v18.length : Int) < (v21.length : Int))) = true then
        (loopP (p_impl_merge_l3 v21) (s15, 0)).bind fun ee3 => match ee3 with
        | .ret r => some (.ret r)
        | .out (o31, o32) =>
          some (.go (o31, w64 (s16 + 1)))
      else
        (loopP (p_impl_merge_l4 v18) (s15, 0)).bind fun ee4 => match ee4 with
        | .ret r => some (.ret r)
        | .out (o39, o40) =>
          some (.go (o39, w64 (s16 + 1)))
    else
      some (.out (s15, s16))
noncomputable def p_impl_merge (x0 : List TOp) (x1 : List TOp) : Option (T4 (Option TBook) (Option TBook) (List TOp) Int) :=
  (p_impl_readTwo x0 x1).bind fun v0 =>
  if (decide (v0.c = 0)) = true then
    (v0.a).bind fun v2 =>
    (loopP (p_impl_merge_l0 v0 v2) 0).bind fun ee0 => match ee0 with
    | .ret r => some r
    | .out o14 =>
      (loopP (p_impl_merge_l5 v0 v2) (([] : List TOp), 0)).bind fun ee5 => match ee5 with
      | .ret r => some r
      | .out (o41, o42) =>
        if (decide (1024 < (o41.length : Int))) = true then
          some ⟨(none : Option TBook), (none : Option TBook), [], 11⟩
        else
          some ⟨v0.a, v0.b, o41, 0⟩
  else
    some ⟨(none : Option TBook), (none : Option TBook), [], v0.c⟩
def c_impl_merge (f_impl_readTwo : Nat) (f_impl_opCopy : Nat) : AFn := ⟨102, (.seq (.ops [(qS 4 (.mv (.const (.pointer .none)))), (qS 5 (.mv (.const (.pointer .none)))), (qS 6 (.vnil 12 true)), (qS 7 (.mv (ic 0)))]) (.seq (.ops [(qS 19 (.mv (.tmp 0))), (qS 20 (.mv (.tmp 1))), (qS 21 (.call (2 * f_impl_readTwo) [(.tmp 19), (.tmp 20)])), (qS 18 (.mv (.tmp 21))), (qS 22 (.extract 0 (.tmp 18))), (qS 23 (.extract 1 (.tmp 18))), (qS 24 (.extract 2 (.tmp 18))), (qS 8 (.mv (.tmp 22))), (qS 9 (.mv (.tmp 23))), (qS 10 (.mv (.tmp 24)))]) (.seq (.seq (.ops [(qS 25 (.mv (.tmp 10))), (qS 26 (.pu (.n (.ar .neq)) [(.tmp 25), (ic 0)]))]) (.cond (.tmp 26) (.seq (.ops [(qS 27 (.mv (.tmp 10))), (qS 4 (.mv (.const (.pointer .none)))), (qS 5 (.mv (.const (.pointer .none)))), (qS 6 (.vnil 12 true)), (qS 7 (.mv (.tmp 27)))]) .ret) .skip)) (.seq (.seq (.ops [(qS 28 (.mv (.tmp 8))), (qS 29 (.nilChk (.tmp 28))), (qS 30 (.fieldA 16 (.tmp 29))), (qS 31 (.load 101 true (.tmp 30))), (qS 32 (.mv (ic 0)))]) (.block 0 (.loop (.seq (.ops [(qS 33 (.pu (.n (.ar .lss)) [(.tmp 32), (ic 101)]))]) (.seq (.cond (.tmp 33) .skip (.exit 0)) (.seq (.block 1 (.seq (.ops [(qS 34 (.mv (.tmp 32))), (qS 35 (.idxV 101 1 false (.tmp 31) (.tmp 32))), (qS 11 (.mv (.tmp 34))), (qS 12 (.mv (.tmp 35)))]) (.seq (.ops [(qS 36 (.mv (.tmp 12))), (qS 37 (.pu (.n (.ar .neq)) [(.tmp 36), (ic 0)])), (qS 38 (.mv (.tmp 37))), ⟨(.some 39), (.mv (.tmp 9)), (.some (38, true)), []⟩, ⟨(.some 40), (.mv (.tmp 11)), (.some (38, true)), []⟩, ⟨(.some 41), (.nilChk (.tmp 39)), (.some (38, true)), []⟩, ⟨(.some 42), (.fieldA 16 (.tmp 41)), (.some (38, true)), []⟩, ⟨(.some 43), (.idxA 101 1 (.tmp 42) (.tmp 40)), (.some (38, true)), []⟩, ⟨(.some 44), (.load 1 false (.tmp 43)), (.some (38, true)), []⟩, ⟨(.some 45), (.pu (.n (.ar .neq)) [(.tmp 44), (ic 0)]), (.some (38, true)), []⟩, (qS 46 (.pick (.tmp 38) (.tmp 45) (.const (.bool false)))), (qS 47 (.mv (.tmp 46))), ⟨(.some 48), (.mv (.tmp 9)), (.some (47, true)), []⟩, ⟨(.some 49), (.mv (.tmp 11)), (.some (47, true)), []⟩, ⟨(.some 50), (.nilChk (.tmp 48)), (.some (47, true)), []⟩, ⟨(.some 51), (.fieldA 16 (.tmp 50)), (.some (47, true)), []⟩, ⟨(.some 52), (.idxA 101 1 (.tmp 51) (.tmp 49)), (.some (47, true)), []⟩, ⟨(.some 53), (.load 1 false (.tmp 52)), (.some (47, true)), []⟩, ⟨(.some 54), (.mv (.tmp 12)), (.some (47, true)), []⟩, ⟨(.some 55), (.pu (.n (.ar .neq)) [(.tmp 53), (.tmp 54)]), (.some (47, true)), []⟩, (qS 56 (.pick (.tmp 47) (.tmp 55) (.const (.bool false))))]) (.cond (.tmp 56) (.seq (.ops [(qS 4 (.mv (.const (.pointer .none)))), (qS 5 (.mv (.const (.pointer .none)))), (qS 6 (.vnil 12 true)), (qS 7 (.mv (ic 8)))]) .ret) .skip)))) (.ops [(qS 57 (.pu (.n (.ar .add)) [(.tmp 32), (ic 1)])), (qS 32 (.mv (.tmp 57)))]))))))) (.seq (.ops [(qS 13 (.vnil 12 true))]) (.seq (.seq (.ops [(qS 58 (.mv (ic 0)))]) (.block 2 (.loop (.seq (.ops [(qS 59 (.pu (.n (.ar .lss)) [(.tmp 58), (ic 16)]))]) (.seq (.cond (.tmp 59) .skip (.exit 2)) (.seq (.block 3 (.seq (.ops [(qS 60 (.mv (.tmp 58))), (qS 14 (.mv (.tmp 60)))]) (.seq (.ops [(qS 61 (.mv (.tmp 8))), (qS 62 (.mv (.tmp 14))), (qS 63 (.nilChk (.tmp 61))), (qS 64 (.fieldA 0 (.tmp 63))), (qS 65 (.idxA 16 1 (.tmp 64) (.tmp 62))), (qS 66 (.load 1 false (.tmp 65))), (qS 15 (.mv (.tmp 66)))]) (.seq (.seq (.ops [(qS 67 (.mv (.tmp 9))), (qS 68 (.mv (.tmp 14))), (qS 69 (.nilChk (.tmp 67))), (qS 70 (.fieldA 0 (.tmp 69))), (qS 71 (.idxA 16 1 (.tmp 70) (.tmp 68))), (qS 72 (.load 1 false (.tmp 71))), (qS 73 (.len (.tmp 72))), (qS 74 (.mv (.tmp 15))), (qS 75 (.len (.tmp 74))), (qS 76 (.pu (.n (.ar .gtr)) [(.tmp 73), (.tmp 75)]))]) (.cond (.tmp 76) (.ops [(qS 77 (.mv (.tmp 9))), (qS 78 (.mv (.tmp 14))), (qS 79 (.nilChk (.tmp 77))), (qS 80 (.fieldA 0 (.tmp 79))), (qS 81 (.idxA 16 1 (.tmp 80) (.tmp 78))), (qS 82 (.load 1 false (.tmp 81))), (qS 15 (.mv (.tmp 82)))]) .skip)) (.seq (.ops [(qS 83 (.mv (.tmp 15))), (qS 84 (.len (.tmp 83))), (qS 85 (.mv (ic 0)))]) (.block 4 (.loop (.seq (.ops [(qS 86 (.pu (.n (.ar .lss)) [(.tmp 85), (.tmp 84)]))]) (.seq (.cond (.tmp 86) .skip (.exit 4)) (.seq (.block 5 (.seq (.ops [(qS 87 (.idxS 12 (.tmp 83) (.tmp 85))), (qS 88 (.load 12 true (.tmp 87))), (qS 17 (.allocV [(0, false), (0, false), (0, false), (1, false), (0, false), (0, false), (0, false), (0, false), (0, false), (0, false), (0, false), (0, false)] [(.int .i64 0), (.int .i64 0), (.int .i64 0), (.slice .none 0 0), (.int .i64 0), (.int .i64 0), (.int .i64 0), (.int .i64 0), (.int .i64 0), (.int .i64 0), (.string ⟨#[]⟩), (.string ⟨#[]⟩)])), ⟨.none, (.storeV [(0, false), (0, false), (0, false), (1, false), (0, false), (0, false), (0, false), (0, false), (0, false), (0, false), (0, false), (0, false)] 12 (.tmp 17) (.tmp 88)), .none, []⟩]) (.ops [(qS 89 (.mv (.tmp 13))), (qS 90 (.load 12 true (.tmp 17))), (qS 91 (.call (2 * f_impl_opCopy + 1) [(.tmp 90)])), (qS 92 (.buildSl 12 true 1 [(.int .i64 0), (.int .i64 0), (.int .i64 0), (.slice .none 0 0), (.int .i64 0), (.int .i64 0), (.int .i64 0), (.int .i64 0), (.int .i64 0), (.int .i64 0), (.string ⟨#[]⟩), (.string ⟨#[]⟩)] [(0, (.tmp 91))])), (qS 93 (.append 12 true 128 (.tmp 89) (.tmp 92))), (qS 13 (.mv (.tmp 93)))]))) (.ops [(qS 94 (.pu (.n (.ar .add)) [(.tmp 85), (ic 1)])), (qS 85 (.mv (.tmp 94)))]))))))))))) (.ops [(qS 95 (.pu (.n (.ar .add)) [(.tmp 58), (ic 1)])), (qS 58 (.mv (.tmp 95)))]))))))) (.seq (.seq (.ops [(qS 96 (.mv (.tmp 13))), (qS 97 (.len (.tmp 96))), (qS 98 (.pu (.n (.ar .gtr)) [(.tmp 97), (ic 1024)]))]) (.cond (.tmp 98) (.seq (.ops [(qS 4 (.mv (.const (.pointer .none)))), (qS 5 (.mv (.const (.pointer .none)))), (qS 6 (.vnil 12 true)), (qS 7 (.mv (ic 11)))]) .ret) .skip)) (.seq (.ops [(qS 99 (.mv (.tmp 8))), (qS 100 (.mv (.tmp 9))), (qS 101 (.mv (.tmp 13))), (qS 4 (.mv (.tmp 99))), (qS 5 (.mv (.tmp 100))), (qS 6 (.mv (.tmp 101))), (qS 7 (.mv (ic 0)))]) .ret)))))))), [(.tmp 4), (.tmp 5), (.tmp 6), (.tmp 7)]⟩
def o_impl_merge (b : T4 (Option TBook) (Option TBook) (List TOp) Int) (v : V) (h : Heap) : Prop := ∃ n0 : V, v = .tup [.i (enc (b.a : Option TBook)), .i (enc (b.b : Option TBook)), n0, .i (.s (.int .i64 b.d))] ∧ NestV h 0 h.length n0 b.c
def oo_impl_merge (b : T4 (Option TBook) (Option TBook) (List TOp) Int) (h : Heap) (v : V) (h2 : Heap) : Prop := Keep [] h h2 ∧ ∃ n0 : V, v = .tup [.bad, .bad, n0, .i (.s (.int .i64 b.d))] ∧ NestV h2 h.length h2.length n0 b.c
def k_impl_merge (F : Fun) : Prop := ∀ (x0 : List TOp) (x1 : List TOp) (b : T4 (Option TBook) (Option TBook) (List TOp) Int), p_impl_merge x0 x1 = some b → ∀ (h : Heap) (args : List V), snapA 9 false h args = some (encA (x0, x1)) → ∃ p, F none args h = some p ∧ oo_impl_merge b h p.1 p.2
set_option maxHeartbeats 10000000 in
theorem w_impl_merge {P : Program} {env : Env} {f_impl_readTwo : Nat} {f_impl_opCopy : Nat}  (ep_impl_readTwo : env (2 * f_impl_readTwo) = pureFn false (FA fun a : List TOp × List TOp => p_impl_readTwo a.1 a.2)) (e_impl_opCopy : k_impl_opCopy (env (2 * f_impl_opCopy + 1))) (x0 : List TOp) (x1 : List TOp) {b : T4 (Option TBook) (Option TBook) (List TOp) Int} (hp : p_impl_merge x0 x1 = some b) : R P env (c_impl_merge f_impl_readTwo f_impl_opCopy) ((encA (x0, x1)).map ofI) [] (o_impl_merge b) := by
  refine R_of (by simp [c_impl_merge, encA]) ?_
  have E := And.intro opc ep_impl_readTwo
  unfold c_impl_merge
  unfold p_impl_merge at hp
  obtain ⟨v0, hv0, hp⟩ := bind_eq hp
  by_cases hb1 : (decide (v0.c = 0)) = true
  · rw [if_t hb1] at hp
    obtain ⟨v2, hv2, hp⟩ := bind_eq hp
    have hka3 := @ip_kinds v2
    have hka3l := @ip_kinds_len v2
    have hka3k := @KA_len v2
    obtain ⟨ee0, hee0, hp⟩ := bind_eq hp
    simp (maxSteps := 2000000) (disch := first|omega|(simp only[ls];first|done|omega)) only [E, hv0, hb1, hv2, hka3, hka3l, hka3k, gx, eta_T4, enc_T4, dec_T4, ret_four]
    refine W_loopP 0 (fun s t h => match s with | s4 => t 8 = .i (enc (v0.a : Option TBook)) ∧ t 9 = .i (enc (v0.b : Option TBook)) ∧ t 31 = .agg (KA v2) ∧ t 32 = .i (.s (.int .i64 s4))) (RK [.tmp 4, .tmp 5, .tmp 6, .tmp 7] (o_impl_merge)) ?_ hee0 ?_ ?_
    · rintro s4 ee tt0 hh0 ⟨ftt0_0, ftt0_1, ftt0_2, ftt0_3⟩ hp
      rw [p_impl_merge_l0] at hp
      by_cases hb5 : (decide (s4 < 101)) = true
      · rw [if_t hb5] at hp
        obtain ⟨v6, hv6, hp⟩ := bind_eq hp
        have gv6 := get_some hv6
        have bv6 : s4 < 101 := by have := gv6.2.1; have := (v2).h2; omega
        have kv6 := KA_at hv6
        by_cases hb7 : (decide (v6 = 0)) = true
        · rw [if_t hb7] at hp
          have hp := Option.some.inj hp
          subst hp
          simp (maxSteps := 2000000) (disch := first|omega|(simp only[ls];first|done|omega)) only [E, hv0, hb1, hv2, hka3, hka3l, hka3k, ftt0_0, ftt0_1, ftt0_2, ftt0_3, hb5, hv6, (gv6).1, bv6, kv6, hb7, gx, eta_T4, enc_T4, dec_T4, ret_four] <;> (repeat (first | refine And.intro ?_ ?_ | assumption | exact nest_ext (by assumption) | exact nest_wide (by assumption) (Nat.zero_le _) (by first | omega | (simp; omega)) (Nat.le_refl _) | exact nest_wide (nest_ext (by assumption)) (Nat.zero_le _) (by first | omega | (simp; omega)) (Nat.le_refl _) | exact nest_virt (by simp (maxSteps := 2000000) (disch := first|omega|(simp only[ls];first|done|omega)) only [E, hv0, hb1, hv2, hka3, hka3l, hka3k, ftt0_0, ftt0_1, ftt0_2, ftt0_3, hb5, hv6, (gv6).1, bv6, kv6, hb7, gx, eta_T4, enc_T4, dec_T4, ret_four]) (by omega) (by first | omega | (simp; done) | (simp; omega)) (by first | omega | (simp; done) | (simp; omega)) | refine nest_ext ?_ | refine nest_set ?_ (by omega) | omega))
        · replace hb7 := eq_false_of_ne_true hb7
          rw [if_f hb7] at hp
          obtain ⟨v8, hv8, hp⟩ := bind_eq hp
          obtain ⟨v9, hv9, hp⟩ := bind_eq hp
          have gv9 := get_some hv9
          have bv9 : s4 < 101 := by have := gv9.2.1; have := (v8).h2; omega
          have cv9 : s4.toNat < (List.drop 16 (bookC v8)).length := by rw [List.length_drop, bookC_len]; omega
          have hk10 := ip_kind hv9
          have hk10l : 1 ≤ _ := ip_len (k := v8) (i := s4) (n := 16) (by have := gv9.2.1; have := (v8).h2; omega)
          by_cases hb11 : (decide (v9 = 0)) = true
          · rw [if_t hb11] at hp
            have hp := Option.some.inj hp
            subst hp
            simp (maxSteps := 2000000) (disch := first|omega|(simp only[ls];first|done|omega)) only [E, hv0, hb1, hv2, hka3, hka3l, hka3k, ftt0_0, ftt0_1, ftt0_2, ftt0_3, hb5, hv6, (gv6).1, bv6, kv6, hb7, hv8, hv9, (gv9).1, bv9, cv9, hk10, hk10l, hb11, gx, eta_T4, enc_T4, dec_T4, ret_four] <;> (repeat (first | refine And.intro ?_ ?_ | assumption | exact nest_ext (by assumption) | exact nest_wide (by assumption) (Nat.zero_le _) (by first | omega | (simp; omega)) (Nat.le_refl _) | exact nest_wide (nest_ext (by assumption)) (Nat.zero_le _) (by first | omega | (simp; omega)) (Nat.le_refl _) | exact nest_virt (by simp (maxSteps := 2000000) (disch := first|omega|(simp only[ls];first|done|omega)) only [E, hv0, hb1, hv2, hka3, hka3l, hka3k, ftt0_0, ftt0_1, ftt0_2, ftt0_3, hb5, hv6, (gv6).1, bv6, kv6, hb7, hv8, hv9, (gv9).1, bv9, cv9, hk10, hk10l, hb11, gx, eta_T4, enc_T4, dec_T4, ret_four]) (by omega) (by first | omega | (simp; done) | (simp; omega)) (by first | omega | (simp; done) | (simp; omega)) | refine nest_ext ?_ | refine nest_set ?_ (by omega) | omega))
          · replace hb11 := eq_false_of_ne_true hb11
            rw [if_f hb11] at hp
            have hk12 := ip_kind hv9
            have hk12l : 1 ≤ _ := ip_len (k := v8) (i := s4) (n := 16) (by have := gv9.2.1; have := (v8).h2; omega)
            by_cases hb13 : (decide (v9 = v6)) = true
            · rw [if_t hb13] at hp
              have hp := Option.some.inj hp
              subst hp
              simp (maxSteps := 2000000) (disch := first|omega|(simp only[ls];first|done|omega)) only [E, hv0, hb1, hv2, hka3, hka3l, hka3k, ftt0_0, ftt0_1, ftt0_2, ftt0_3, hb5, hv6, (gv6).1, bv6, kv6, hb7, hv8, hv9, (gv9).1, bv9, cv9, hk10, hk10l, hb11, hk12, hk12l, hb13, gx, eta_T4, enc_T4, dec_T4, ret_four] <;> (repeat (first | refine And.intro ?_ ?_ | assumption | exact nest_ext (by assumption) | exact nest_wide (by assumption) (Nat.zero_le _) (by first | omega | (simp; omega)) (Nat.le_refl _) | exact nest_wide (nest_ext (by assumption)) (Nat.zero_le _) (by first | omega | (simp; omega)) (Nat.le_refl _) | exact nest_virt (by simp (maxSteps := 2000000) (disch := first|omega|(simp only[ls];first|done|omega)) only [E, hv0, hb1, hv2, hka3, hka3l, hka3k, ftt0_0, ftt0_1, ftt0_2, ftt0_3, hb5, hv6, (gv6).1, bv6, kv6, hb7, hv8, hv9, (gv9).1, bv9, cv9, hk10, hk10l, hb11, hk12, hk12l, hb13, gx, eta_T4, enc_T4, dec_T4, ret_four]) (by omega) (by first | omega | (simp; done) | (simp; omega)) (by first | omega | (simp; done) | (simp; omega)) | refine nest_ext ?_ | refine nest_set ?_ (by omega) | omega))
            · replace hb13 := eq_false_of_ne_true hb13
              rw [if_f hb13] at hp
              have hp := Option.some.inj hp
              subst hp
              simp (maxSteps := 2000000) (disch := first|omega|(simp only[ls];first|done|omega)) only [E, hv0, hb1, hv2, hka3, hka3l, hka3k, ftt0_0, ftt0_1, ftt0_2, ftt0_3, hb5, hv6, (gv6).1, bv6, kv6, hb7, hv8, hv9, (gv9).1, bv9, cv9, hk10, hk10l, hb11, hk12, hk12l, hb13, gx, eta_T4, enc_T4, dec_T4, ret_four]
              refine ⟨(.hsl hh0.length 0 0 12 true 0), ?_⟩
              simp (maxSteps := 2000000) (disch := first|omega|(simp only[ls];first|done|omega)) only [E, hv0, hb1, hv2, hka3, hka3l, hka3k, ftt0_0, ftt0_1, ftt0_2, ftt0_3, hb5, hv6, (gv6).1, bv6, kv6, hb7, hv8, hv9, (gv9).1, bv9, cv9, hk10, hk10l, hb11, hk12, hk12l, hb13, o_impl_merge, gx, eta_T4, enc_T4, dec_T4, ret_four] <;> (repeat (first | refine And.intro ?_ ?_ | assumption | exact nest_ext (by assumption) | exact nest_wide (by assumption) (Nat.zero_le _) (by first | omega | (simp; omega)) (Nat.le_refl _) | exact nest_wide (nest_ext (by assumption)) (Nat.zero_le _) (by first | omega | (simp; omega)) (Nat.le_refl _) | exact nest_virt (by simp (maxSteps := 2000000) (disch := first|omega|(simp only[ls];first|done|omega)) only [E, hv0, hb1, hv2, hka3, hka3l, hka3k, ftt0_0, ftt0_1, ftt0_2, ftt0_3, hb5, hv6, (gv6).1, bv6, kv6, hb7, hv8, hv9, (gv9).1, bv9, cv9, hk10, hk10l, hb11, hk12, hk12l, hb13, o_impl_merge, gx, eta_T4, enc_T4, dec_T4, ret_four]) (by omega) (by first | omega | (simp; done) | (simp; omega)) (by first | omega | (simp; done) | (simp; omega)) | refine nest_ext ?_ | refine nest_set ?_ (by omega) | omega))
      · replace hb5 := eq_false_of_ne_true hb5
        rw [if_f hb5] at hp
        have hp := Option.some.inj hp
        subst hp
        simp (maxSteps := 2000000) (disch := first|omega|(simp only[ls];first|done|omega)) only [E, hv0, hb1, hv2, hka3, hka3l, hka3k, ftt0_0, ftt0_1, ftt0_2, ftt0_3, hb5, gx, eta_T4, enc_T4, dec_T4, ret_four] <;> (repeat (first | refine And.intro ?_ ?_ | assumption | exact nest_ext (by assumption) | exact nest_wide (by assumption) (Nat.zero_le _) (by first | omega | (simp; omega)) (Nat.le_refl _) | exact nest_wide (nest_ext (by assumption)) (Nat.zero_le _) (by first | omega | (simp; omega)) (Nat.le_refl _) | exact nest_virt (by simp (maxSteps := 2000000) (disch := first|omega|(simp only[ls];first|done|omega)) only [E, hv0, hb1, hv2, hka3, hka3l, hka3k, ftt0_0, ftt0_1, ftt0_2, ftt0_3, hb5, gx, eta_T4, enc_T4, dec_T4, ret_four]) (by omega) (by first | omega | (simp; done) | (simp; omega)) (by first | omega | (simp; done) | (simp; omega)) | refine nest_ext ?_ | refine nest_set ?_ (by omega) | omega))
    · simp (maxSteps := 2000000) (disch := first|omega|(simp only[ls];first|done|omega)) only [E, hv0, hb1, hv2, hka3, hka3l, hka3k, gx, eta_T4, enc_T4, dec_T4, ret_four] <;> (repeat (first | refine And.intro ?_ ?_ | assumption | exact nest_ext (by assumption) | exact nest_wide (by assumption) (Nat.zero_le _) (by first | omega | (simp; omega)) (Nat.le_refl _) | exact nest_wide (nest_ext (by assumption)) (Nat.zero_le _) (by first | omega | (simp; omega)) (Nat.le_refl _) | exact nest_virt (by simp (maxSteps := 2000000) (disch := first|omega|(simp only[ls];first|done|omega)) only [E, hv0, hb1, hv2, hka3, hka3l, hka3k, gx, eta_T4, enc_T4, dec_T4, ret_four]) (by omega) (by first | omega | (simp; done) | (simp; omega)) (by first | omega | (simp; done) | (simp; omega)) | refine nest_ext ?_ | refine nest_set ?_ (by omega) | omega))
    · intro x tt1 hh1 hx
      rcases ee0 with o14 | r
      · obtain ⟨rfl, ftt1_0, ftt1_1, ftt1_2, ftt1_3⟩ := hx
        dsimp only at hp
        obtain ⟨ee5, hee5, hp⟩ := bind_eq hp
        simp (maxSteps := 2000000) (disch := first|omega|(simp only[ls];first|done|omega)) only [E, hv0, hb1, hv2, hka3, hka3l, hka3k, ftt1_0, ftt1_1, ftt1_2, ftt1_3, gx, eta_T4, enc_T4, dec_T4, ret_four]
        refine W_loopP 2 (fun s t h => match s with | (s15, s16) => ∃ bkv2_13 : V, ∃ bkh2_13 : Nat, t 8 = .i (enc (v0.a : Option TBook)) ∧ t 9 = .i (enc (v0.b : Option TBook)) ∧ t 13 = bkv2_13 ∧ t 58 = .i (.s (.int .i64 s16)) ∧ NestV h hh1.length bkh2_13 bkv2_13 (s15 : List TOp) ∧ bkh2_13 ≤ h.length) (RK [.tmp 4, .tmp 5, .tmp 6, .tmp 7] (o_impl_merge)) ?_ hee5 ?_ ?_
        · rintro ⟨s15, s16⟩ ee tt2 hh2 ⟨bkv2_13, bkh2_13, ftt2_0, ftt2_1, ftt2_2, ftt2_3, ftt2_4, ftt2_5⟩ hp
          have zntt2_4 := nest_lenS ftt2_4
          rw [p_impl_merge_l5] at hp
          by_cases hb17 : (decide (s16 < 16)) = true
          · rw [if_t hb17] at hp
            obtain ⟨v18, hv18, hp⟩ := bind_eq hp
            have gv18 := get_some hv18
            have bv18 : s16 < 16 := by have := gv18.2.1; have := (v2).h1; omega
            have hk19 := ip_of hv18
            have hk19l : 1 ≤ _ := ip_len0 (k := v2) (i := s16) (by have := gv18.2.1; have := (v2).h1; omega)
            obtain ⟨v20, hv20, hp⟩ := bind_eq hp
            obtain ⟨v21, hv21, hp⟩ := bind_eq hp
            have gv21 := get_some hv21
            have bv21 : s16 < 16 := by have := gv21.2.1; have := (v20).h1; omega
            have hk22 := ip_of hv21
            have hk22l : 1 ≤ _ := ip_len0 (k := v20) (i := s16) (by have := gv21.2.1; have := (v20).h1; omega)
            by_cases hb23 : (decide ((v18.length : Int) < (v21.length : Int))) = true
            · rw [if_t hb23] at hp
              have hk24 := ip_of hv21
              have hk24l : 1 ≤ _ := ip_len0 (k := v20) (i := s16) (by have := gv21.2.1; have := (v20).h1; omega)
              obtain ⟨ee3, hee3, hp⟩ := bind_eq hp
              simp (maxSteps := 2000000) (disch := first|omega|(simp only[ls];first|done|omega)) only [E, hv0, hb1, hv2, hka3, hka3l, hka3k, ftt1_0, ftt1_1, ftt1_2, ftt1_3, ftt2_0, ftt2_1, ftt2_2, ftt2_3, ftt2_4, ftt2_5, zntt2_4, hb17, hv18, (gv18).1, bv18, hk19, hk19l, hv20, hv21, (gv21).1, bv21, hk22, hk22l, hb23, hk24, hk24l, gx, eta_T4, enc_T4, dec_T4, ret_four]
              refine W_loopP 4 (fun s t h => match s with | (s25, s26) => ∃ bkv3_13 : V, ∃ bkh3_13 : Nat, t 8 = .i (enc (v0.a : Option TBook)) ∧ t 9 = .i (enc (v0.b : Option TBook)) ∧ t 13 = bkv3_13 ∧ t 58 = .i (.s (.int .i64 s16)) ∧ t 83 = .i (.sl 12 (v21.map enc)) ∧ t 84 = .i (.s (.int .i64 (v21.length : Int))) ∧ t 85 = .i (.s (.int .i64 s26)) ∧ NestV h hh1.length bkh3_13 bkv3_13 (s25 : List TOp) ∧ bkh3_13 ≤ h.length) (RK [.tmp 4, .tmp 5, .tmp 6, .tmp 7] (o_impl_merge)) ?_ hee3 ?_ ?_
              · rintro ⟨s25, s26⟩ ee tt3 hh3 ⟨bkv3_13, bkh3_13, ftt3_0, ftt3_1, ftt3_2, ftt3_3, ftt3_4, ftt3_5, ftt3_6, ftt3_7, ftt3_8⟩ hp
                have zntt3_7 := nest_lenS ftt3_7
                rw [p_impl_merge_l3] at hp
                by_cases hb27 : (decide (s26 < (v21.length : Int))) = true
                · rw [if_t hb27] at hp
                  obtain ⟨v28, hv28, hp⟩ := bind_eq hp
                  obtain ⟨v29, hv29, hp⟩ := bind_eq hp
                  simp (maxSteps := 2000000) (disch := first|omega|(simp only[ls];first|done|omega)) only [E, hv0, hb1, hv2, hka3, hka3l, hka3k, ftt1_0, ftt1_1, ftt1_2, ftt1_3, ftt2_0, ftt2_1, ftt2_2, ftt2_3, ftt2_4, ftt2_5, zntt2_4, hb17, hv18, (gv18).1, bv18, hk19, hk19l, hv20, hv21, (gv21).1, bv21, hk22, hk22l, hb23, hk24, hk24l, ftt3_0, ftt3_1, ftt3_2, ftt3_3, ftt3_4, ftt3_5, ftt3_6, ftt3_7, ftt3_8, zntt3_7, hb27, hv28, gx, eta_T4, enc_T4, dec_T4, ret_four]
                  refine call_f (fun h => NestV h hh1.length bkh3_13 bkv3_13 (s25 : List TOp) ∧ bkh3_13 ≤ h.length ∧ getCells h hh3.length 0 = some [] ∧ hh3.length < h.length ∧ getCells h (hh3.length + 1) 12 = some [.i (.s (.int .i64 v28.actor)), .i (.s (.int .i64 v28.seq)), .i (.s (.int .i64 v28.time)), .i (.sl 1 (v28.deps.counts.map enc)), .i (.s (.int .i64 v28.kind)), .i (.s (.int .i64 v28.obj)), .i (.s (.int .i64 v28.n)), .i (.s (.int .i64 v28.undo)), .i (.s (.int .i64 v28.at_.time)), .i (.s (.int .i64 v28.at_.actor)), .i (.s (.string v28.key)), .i (.s (.string v28.text))] ∧ hh3.length + 1 < h.length) (fun h v h2 => oo_impl_opCopy v29 h v h2) ?_ ?_ ?_
                  · simp (maxSteps := 2000000) (disch := first|omega|(simp only[ls];first|done|omega)) only [E, hv0, hb1, hv2, hka3, hka3l, hka3k, ftt1_0, ftt1_1, ftt1_2, ftt1_3, ftt2_0, ftt2_1, ftt2_2, ftt2_3, ftt2_4, ftt2_5, zntt2_4, hb17, hv18, (gv18).1, bv18, hk19, hk19l, hv20, hv21, (gv21).1, bv21, hk22, hk22l, hb23, hk24, hk24l, ftt3_0, ftt3_1, ftt3_2, ftt3_3, ftt3_4, ftt3_5, ftt3_6, ftt3_7, ftt3_8, zntt3_7, hb27, hv28, hv29, gx, eta_T4, enc_T4, dec_T4, ret_four] <;> (repeat (first | refine And.intro ?_ ?_ | assumption | exact nest_ext (by assumption) | exact nest_wide (by assumption) (Nat.zero_le _) (by first | omega | (simp; omega)) (Nat.le_refl _) | exact nest_wide (nest_ext (by assumption)) (Nat.zero_le _) (by first | omega | (simp; omega)) (Nat.le_refl _) | exact nest_virt (by simp (maxSteps := 2000000) (disch := first|omega|(simp only[ls];first|done|omega)) only [E, hv0, hb1, hv2, hka3, hka3l, hka3k, ftt1_0, ftt1_1, ftt1_2, ftt1_3, ftt2_0, ftt2_1, ftt2_2, ftt2_3, ftt2_4, ftt2_5, zntt2_4, hb17, hv18, (gv18).1, bv18, hk19, hk19l, hv20, hv21, (gv21).1, bv21, hk22, hk22l, hb23, hk24, hk24l, ftt3_0, ftt3_1, ftt3_2, ftt3_3, ftt3_4, ftt3_5, ftt3_6, ftt3_7, ftt3_8, zntt3_7, hb27, hv28, hv29, gx, eta_T4, enc_T4, dec_T4, ret_four]) (by omega) (by first | omega | (simp; done) | (simp; omega)) (by first | omega | (simp; done) | (simp; omega)) | refine nest_ext ?_ | refine nest_set ?_ (by omega) | omega))
                  · rintro h ⟨c4_0, c4_1, c4_2, c4_3, c4_4, c4_5⟩
                    have sc4_0 : snap 9 false h bkv3_13 = some (.sl 12 (s25.map enc)) := snap_nest (n := 5) c4_0
                    exact e_impl_opCopy _ _ hv29 h _ (by simp (maxSteps := 2000000) (disch := first|omega|(simp only[ls];first|done|omega)) only [E, hv0, hb1, hv2, hka3, hka3l, hka3k, ftt1_0, ftt1_1, ftt1_2, ftt1_3, ftt2_0, ftt2_1, ftt2_2, ftt2_3, ftt2_4, ftt2_5, zntt2_4, hb17, hv18, (gv18).1, bv18, hk19, hk19l, hv20, hv21, (gv21).1, bv21, hk22, hk22l, hb23, hk24, hk24l, ftt3_0, ftt3_1, ftt3_2, ftt3_3, ftt3_4, ftt3_5, ftt3_6, ftt3_7, ftt3_8, zntt3_7, hb27, hv28, hv29, c4_0, c4_1, c4_2, c4_3, c4_4, c4_5, sc4_0, gx, eta_T4, enc_T4, dec_T4, ret_four])
                  · rintro hc4 v hh4 ⟨c4_0, c4_1, c4_2, c4_3, c4_4, c4_5⟩ hpost
                    obtain ⟨kk4, nb4_0, rfl, lnb4_0, gnb4_0, wnb4_0⟩ := hpost
                    have d4_0 : NestV hh4 hh1.length bkh3_13 bkv3_13 (s25 : List TOp) := nest_keep c4_0 kk4 (by intro b hb; first | (simp at hb; done) | (simp at hb; omega))
                    have d4_0l := nest_lt d4_0
                    have d4_0s : snap 9 false hh4 bkv3_13 = some (.sl 12 (s25.map enc)) := snap_nest (n := 5) d4_0
                    have d4_0n : lenS bkv3_13 = some s25.length := nest_lenS d4_0
                    have d4_1 : getCells hh4 hh3.length 0 = some [] := (keep_get kk4 c4_3 (by first | (simp; done) | (simp; omega))).trans c4_2
                    have d4_1l := keep_lt kk4 c4_3
                    have d4_2 : getCells hh4 (hh3.length + 1) 12 = some [.i (.s (.int .i64 v28.actor)), .i (.s (.int .i64 v28.seq)), .i (.s (.int .i64 v28.time)), .i (.sl 1 (v28.deps.counts.map enc)), .i (.s (.int .i64 v28.kind)), .i (.s (.int .i64 v28.obj)), .i (.s (.int .i64 v28.n)), .i (.s (.int .i64 v28.undo)), .i (.s (.int .i64 v28.at_.time)), .i (.s (.int .i64 v28.at_.actor)), .i (.s (.string v28.key)), .i (.s (.string v28.text))] := (keep_get kk4 c4_5 (by first | (simp; done) | (simp; omega))).trans c4_4
                    have d4_2l := keep_lt kk4 c4_5
                    have d4_3 := wnb4_0
                    obtain ⟨v30, hv30, hp⟩ := bind_eq hp
                    simp (maxSteps := 2000000) (disch := first|omega|(simp only[ls];first|done|omega)) only [E, hv0, hb1, hv2, hka3, hka3l, hka3k, ftt1_0, ftt1_1, ftt1_2, ftt1_3, ftt2_0, ftt2_1, ftt2_2, ftt2_3, ftt2_4, ftt2_5, zntt2_4, hb17, hv18, (gv18).1, bv18, hk19, hk19l, hv20, hv21, (gv21).1, bv21, hk22, hk22l, hb23, hk24, hk24l, ftt3_0, ftt3_1, ftt3_2, ftt3_3, ftt3_4, ftt3_5, ftt3_6, ftt3_7, ftt3_8, zntt3_7, hb27, hv28, hv29, d4_0, d4_0s, d4_0n, d4_1, d4_2, d4_3, gx, eta_T4, enc_T4, dec_T4, ret_four]
                    refine app_nest_f (lo := hh1.length) (hi := bkh3_13) (g := nb4_0) (x := (v29 : TOp)) (xs := s25) (fun h => NestV h hh1.length bkh3_13 bkv3_13 (s25 : List TOp) ∧ bkh3_13 ≤ h.length ∧ getCells h hh3.length 0 = some [] ∧ hh3.length < h.length ∧ getCells h (hh3.length + 1) 12 = some [.i (.s (.int .i64 v28.actor)), .i (.s (.int .i64 v28.seq)), .i (.s (.int .i64 v28.time)), .i (.sl 1 (v28.deps.counts.map enc)), .i (.s (.int .i64 v28.kind)), .i (.s (.int .i64 v28.obj)), .i (.s (.int .i64 v28.n)), .i (.s (.int .i64 v28.undo)), .i (.s (.int .i64 v28.at_.time)), .i (.s (.int .i64 v28.at_.actor)), .i (.s (.string v28.key)), .i (.s (.string v28.text))] ∧ hh3.length + 1 < h.length ∧ getCells h nb4_0 v29.deps.counts.length = some (rows (v29.deps.counts : List Int)) ∧ nb4_0 < h.length) ?_ ?_ hv30 ?_ (by omega) ?_
                    · simp (maxSteps := 2000000) (disch := first|omega|(simp only[ls];first|done|omega)) only [E, hv0, hb1, hv2, hka3, hka3l, hka3k, ftt1_0, ftt1_1, ftt1_2, ftt1_3, ftt2_0, ftt2_1, ftt2_2, ftt2_3, ftt2_4, ftt2_5, zntt2_4, hb17, hv18, (gv18).1, bv18, hk19, hk19l, hv20, hv21, (gv21).1, bv21, hk22, hk22l, hb23, hk24, hk24l, ftt3_0, ftt3_1, ftt3_2, ftt3_3, ftt3_4, ftt3_5, ftt3_6, ftt3_7, ftt3_8, zntt3_7, hb27, hv28, hv29, d4_0, d4_0s, d4_0n, d4_1, d4_2, d4_3, hv30, gx, eta_T4, enc_T4, dec_T4, ret_four] <;> (repeat (first | refine And.intro ?_ ?_ | assumption | exact nest_ext (by assumption) | exact nest_wide (by assumption) (Nat.zero_le _) (by first | omega | (simp; omega)) (Nat.le_refl _) | exact nest_wide (nest_ext (by assumption)) (Nat.zero_le _) (by first | omega | (simp; omega)) (Nat.le_refl _) | exact nest_virt (by simp (maxSteps := 2000000) (disch := first|omega|(simp only[ls];first|done|omega)) only [E, hv0, hb1, hv2, hka3, hka3l, hka3k, ftt1_0, ftt1_1, ftt1_2, ftt1_3, ftt2_0, ftt2_1, ftt2_2, ftt2_3, ftt2_4, ftt2_5, zntt2_4, hb17, hv18, (gv18).1, bv18, hk19, hk19l, hv20, hv21, (gv21).1, bv21, hk22, hk22l, hb23, hk24, hk24l, ftt3_0, ftt3_1, ftt3_2, ftt3_3, ftt3_4, ftt3_5, ftt3_6, ftt3_7, ftt3_8, zntt3_7, hb27, hv28, hv29, d4_0, d4_0s, d4_0n, d4_1, d4_2, d4_3, hv30, gx, eta_T4, enc_T4, dec_T4, ret_four]) (by omega) (by first | omega | (simp; done) | (simp; omega)) (by first | omega | (simp; done) | (simp; omega)) | refine nest_ext ?_ | refine nest_set ?_ (by omega) | omega))
                    · rintro h ⟨c5_0, c5_1, c5_2, c5_3, c5_4, c5_5, c5_6, c5_7⟩
                      exact c5_0
                    · rintro h ⟨c5_0, c5_1, c5_2, c5_3, c5_4, c5_5, c5_6, c5_7⟩
                      first | exact c5_6 | exact gc_eq c5_6 (by first | rfl | omega | (simp; omega))
                    · rintro h0 nv5 hh5 ⟨c5_0, c5_1, c5_2, c5_3, c5_4, c5_5, c5_6, c5_7⟩ kk5 w5
                      have d5_0 : getCells hh5 hh3.length 0 = some [] := (keepI_get kk5 c5_3 (by omega)).trans c5_2
                      have d5_0l := keepI_lt kk5 c5_3
                      have d5_1 : getCells hh5 (hh3.length + 1) 12 = some [.i (.s (.int .i64 v28.actor)), .i (.s (.int .i64 v28.seq)), .i (.s (.int .i64 v28.time)), .i (.sl 1 (v28.deps.counts.map enc)), .i (.s (.int .i64 v28.kind)), .i (.s (.int .i64 v28.obj)), .i (.s (.int .i64 v28.n)), .i (.s (.int .i64 v28.undo)), .i (.s (.int .i64 v28.at_.time)), .i (.s (.int .i64 v28.at_.actor)), .i (.s (.string v28.key)), .i (.s (.string v28.text))] := (keepI_get kk5 c5_5 (by omega)).trans c5_4
                      have d5_1l := keepI_lt kk5 c5_5
                      have d5_2 : NestV hh5 hh1.length (nb4_0 + 1) nv5 (v30 : List TOp) := w5
                      have d5_2l := nest_lt d5_2
                      have d5_2n : lenS nv5 = some v30.length := nest_lenS d5_2
                      have hp := Option.some.inj hp
                      subst hp
                      simp (maxSteps := 2000000) (disch := first|omega|(simp only[ls];first|done|omega)) only [E, hv0, hb1, hv2, hka3, hka3l, hka3k, ftt1_0, ftt1_1, ftt1_2, ftt1_3, ftt2_0, ftt2_1, ftt2_2, ftt2_3, ftt2_4, ftt2_5, zntt2_4, hb17, hv18, (gv18).1, bv18, hk19, hk19l, hv20, hv21, (gv21).1, bv21, hk22, hk22l, hb23, hk24, hk24l, ftt3_0, ftt3_1, ftt3_2, ftt3_3, ftt3_4, ftt3_5, ftt3_6, ftt3_7, ftt3_8, zntt3_7, hb27, hv28, hv29, d4_0, d4_0s, d4_0n, d4_1, d4_2, d4_3, hv30, d5_0, d5_1, d5_2, d5_2n, gx, eta_T4, enc_T4, dec_T4, ret_four]
                      refine ⟨nv5, nb4_0 + 1, ?_⟩
                      simp (maxSteps := 2000000) (disch := first|omega|(simp only[ls];first|done|omega)) only [E, hv0, hb1, hv2, hka3, hka3l, hka3k, ftt1_0, ftt1_1, ftt1_2, ftt1_3, ftt2_0, ftt2_1, ftt2_2, ftt2_3, ftt2_4, ftt2_5, zntt2_4, hb17, hv18, (gv18).1, bv18, hk19, hk19l, hv20, hv21, (gv21).1, bv21, hk22, hk22l, hb23, hk24, hk24l, ftt3_0, ftt3_1, ftt3_2, ftt3_3, ftt3_4, ftt3_5, ftt3_6, ftt3_7, ftt3_8, zntt3_7, hb27, hv28, hv29, d4_0, d4_0s, d4_0n, d4_1, d4_2, d4_3, hv30, d5_0, d5_1, d5_2, d5_2n, gx, eta_T4, enc_T4, dec_T4, ret_four] <;> (repeat (first | refine And.intro ?_ ?_ | assumption | exact nest_ext (by assumption) | exact nest_wide (by assumption) (Nat.zero_le _) (by first | omega | (simp; omega)) (Nat.le_refl _) | exact nest_wide (nest_ext (by assumption)) (Nat.zero_le _) (by first | omega | (simp; omega)) (Nat.le_refl _) | exact nest_virt (by simp (maxSteps := 2000000) (disch := first|omega|(simp only[ls];first|done|omega)) only [E, hv0, hb1, hv2, hka3, hka3l, hka3k, ftt1_0, ftt1_1, ftt1_2, ftt1_3, ftt2_0, ftt2_1, ftt2_2, ftt2_3, ftt2_4, ftt2_5, zntt2_4, hb17, hv18, (gv18).1, bv18, hk19, hk19l, hv20, hv21, (gv21).1, bv21, hk22, hk22l, hb23, hk24, hk24l, ftt3_0, ftt3_1, ftt3_2, ftt3_3, ftt3_4, ftt3_5, ftt3_6, ftt3_7, ftt3_8, zntt3_7, hb27, hv28, hv29, d4_0, d4_0s, d4_0n, d4_1, d4_2, d4_3, hv30, d5_0, d5_1, d5_2, d5_2n, gx, eta_T4, enc_T4, dec_T4, ret_four]) (by omega) (by first | omega | (simp; done) | (simp; omega)) (by first | omega | (simp; done) | (simp; omega)) | refine nest_ext ?_ | refine nest_set ?_ (by omega) | omega))
                · replace hb27 := eq_false_of_ne_true hb27
                  rw [if_f hb27] at hp
                  have hp := Option.some.inj hp
                  subst hp
                  simp (maxSteps := 2000000) (disch := first|omega|(simp only[ls];first|done|omega)) only [E, hv0, hb1, hv2, hka3, hka3l, hka3k, ftt1_0, ftt1_1, ftt1_2, ftt1_3, ftt2_0, ftt2_1, ftt2_2, ftt2_3, ftt2_4, ftt2_5, zntt2_4, hb17, hv18, (gv18).1, bv18, hk19, hk19l, hv20, hv21, (gv21).1, bv21, hk22, hk22l, hb23, hk24, hk24l, ftt3_0, ftt3_1, ftt3_2, ftt3_3, ftt3_4, ftt3_5, ftt3_6, ftt3_7, ftt3_8, zntt3_7, hb27, gx, eta_T4, enc_T4, dec_T4, ret_four]
                  refine ⟨bkv3_13, bkh3_13, ?_⟩
                  simp (maxSteps := 2000000) (disch := first|omega|(simp only[ls];first|done|omega)) only [E, hv0, hb1, hv2, hka3, hka3l, hka3k, ftt1_0, ftt1_1, ftt1_2, ftt1_3, ftt2_0, ftt2_1, ftt2_2, ftt2_3, ftt2_4, ftt2_5, zntt2_4, hb17, hv18, (gv18).1, bv18, hk19, hk19l, hv20, hv21, (gv21).1, bv21, hk22, hk22l, hb23, hk24, hk24l, ftt3_0, ftt3_1, ftt3_2, ftt3_3, ftt3_4, ftt3_5, ftt3_6, ftt3_7, ftt3_8, zntt3_7, hb27, gx, eta_T4, enc_T4, dec_T4, ret_four] <;> (repeat (first | refine And.intro ?_ ?_ | assumption | exact nest_ext (by assumption) | exact nest_wide (by assumption) (Nat.zero_le _) (by first | omega | (simp; omega)) (Nat.le_refl _) | exact nest_wide (nest_ext (by assumption)) (Nat.zero_le _) (by first | omega | (simp; omega)) (Nat.le_refl _) | exact nest_virt (by simp (maxSteps := 2000000) (disch := first|omega|(simp only[ls];first|done|omega)) only [E, hv0, hb1, hv2, hka3, hka3l, hka3k, ftt1_0, ftt1_1, ftt1_2, ftt1_3, ftt2_0, ftt2_1, ftt2_2, ftt2_3, ftt2_4, ftt2_5, zntt2_4, hb17, hv18, (gv18).1, bv18, hk19, hk19l, hv20, hv21, (gv21).1, bv21, hk22, hk22l, hb23, hk24, hk24l, ftt3_0, ftt3_1, ftt3_2, ftt3_3, ftt3_4, ftt3_5, ftt3_6, ftt3_7, ftt3_8, zntt3_7, hb27, gx, eta_T4, enc_T4, dec_T4, ret_four]) (by omega) (by first | omega | (simp; done) | (simp; omega)) (by first | omega | (simp; done) | (simp; omega)) | refine nest_ext ?_ | refine nest_set ?_ (by omega) | omega))
              · refine ⟨bkv2_13, bkh2_13, ?_⟩
                simp (maxSteps := 2000000) (disch := first|omega|(simp only[ls];first|done|omega)) only [E, hv0, hb1, hv2, hka3, hka3l, hka3k, ftt1_0, ftt1_1, ftt1_2, ftt1_3, ftt2_0, ftt2_1, ftt2_2, ftt2_3, ftt2_4, ftt2_5, zntt2_4, hb17, hv18, (gv18).1, bv18, hk19, hk19l, hv20, hv21, (gv21).1, bv21, hk22, hk22l, hb23, hk24, hk24l, gx, eta_T4, enc_T4, dec_T4, ret_four] <;> (repeat (first | refine And.intro ?_ ?_ | assumption | exact nest_ext (by assumption) | exact nest_wide (by assumption) (Nat.zero_le _) (by first | omega | (simp; omega)) (Nat.le_refl _) | exact nest_wide (nest_ext (by assumption)) (Nat.zero_le _) (by first | omega | (simp; omega)) (Nat.le_refl _) | exact nest_virt (by simp (maxSteps := 2000000) (disch := first|omega|(simp only[ls];first|done|omega)) only [E, hv0, hb1, hv2, hka3, hka3l, hka3k, ftt1_0, ftt1_1, ftt1_2, ftt1_3, ftt2_0, ftt2_1, ftt2_2, ftt2_3, ftt2_4, ftt2_5, zntt2_4, hb17, hv18, (gv18).1, bv18, hk19, hk19l, hv20, hv21, (gv21).1, bv21, hk22, hk22l, hb23, hk24, hk24l, gx, eta_T4, enc_T4, dec_T4, ret_four]) (by omega) (by first | omega | (simp; done) | (simp; omega)) (by first | omega | (simp; done) | (simp; omega)) | refine nest_ext ?_ | refine nest_set ?_ (by omega) | omega))
              · intro x tt6 hh6 hx
                rcases ee3 with ⟨o31, o32⟩ | r
                · obtain ⟨rfl, bov3_13, boh3_13, ftt6_0, ftt6_1, ftt6_2, ftt6_3, ftt6_4, ftt6_5, ftt6_6, ftt6_7, ftt6_8⟩ := hx
                  have zntt6_7 := nest_lenS ftt6_7
                  dsimp only at hp
                  have hp := Option.some.inj hp
                  subst hp
                  simp (maxSteps := 2000000) (disch := first|omega|(simp only[ls];first|done|omega)) only [E, hv0, hb1, hv2, hka3, hka3l, hka3k, ftt1_0, ftt1_1, ftt1_2, ftt1_3, ftt2_0, ftt2_1, ftt2_2, ftt2_3, ftt2_4, ftt2_5, zntt2_4, hb17, hv18, (gv18).1, bv18, hk19, hk19l, hv20, hv21, (gv21).1, bv21, hk22, hk22l, hb23, hk24, hk24l, ftt6_0, ftt6_1, ftt6_2, ftt6_3, ftt6_4, ftt6_5, ftt6_6, ftt6_7, ftt6_8, zntt6_7, gx, eta_T4, enc_T4, dec_T4, ret_four]
                  refine ⟨bov3_13, boh3_13, ?_⟩
                  simp (maxSteps := 2000000) (disch := first|omega|(simp only[ls];first|done|omega)) only [E, hv0, hb1, hv2, hka3, hka3l, hka3k, ftt1_0, ftt1_1, ftt1_2, ftt1_3, ftt2_0, ftt2_1, ftt2_2, ftt2_3, ftt2_4, ftt2_5, zntt2_4, hb17, hv18, (gv18).1, bv18, hk19, hk19l, hv20, hv21, (gv21).1, bv21, hk22, hk22l, hb23, hk24, hk24l, ftt6_0, ftt6_1, ftt6_2, ftt6_3, ftt6_4, ftt6_5, ftt6_6, ftt6_7, ftt6_8, zntt6_7, gx, eta_T4, enc_T4, dec_T4, ret_four] <;> (repeat (first | refine And.intro ?_ ?_ | assumption | exact nest_ext (by assumption) | exact nest_wide (by assumption) (Nat.zero_le _) (by first | omega | (simp; omega)) (Nat.le_refl _) | exact nest_wide (nest_ext (by assumption)) (Nat.zero_le _) (by first | omega | (simp; omega)) (Nat.le_refl _) | exact nest_virt (by simp (maxSteps := 2000000) (disch := first|omega|(simp only[ls];first|done|omega)) only [E, hv0, hb1, hv2, hka3, hka3l, hka3k, ftt1_0, ftt1_1, ftt1_2, ftt1_3, ftt2_0, ftt2_1, ftt2_2, ftt2_3, ftt2_4, ftt2_5, zntt2_4, hb17, hv18, (gv18).1, bv18, hk19, hk19l, hv20, hv21, (gv21).1, bv21, hk22, hk22l, hb23, hk24, hk24l, ftt6_0, ftt6_1, ftt6_2, ftt6_3, ftt6_4, ftt6_5, ftt6_6, ftt6_7, ftt6_8, zntt6_7, gx, eta_T4, enc_T4, dec_T4, ret_four]) (by omega) (by first | omega | (simp; done) | (simp; omega)) (by first | omega | (simp; done) | (simp; omega)) | refine nest_ext ?_ | refine nest_set ?_ (by omega) | omega))
                · obtain ⟨rfl, hx⟩ := hx
                  dsimp only at hp
                  cases hp
                  simp only [seqK_ret, blockK_ret, retK_RK (K := o_impl_merge), hx, and_self, true_and]
            · replace hb23 := eq_false_of_ne_true hb23
              rw [if_f hb23] at hp
              obtain ⟨ee4, hee4, hp⟩ := bind_eq hp
              simp (maxSteps := 2000000) (disch := first|omega|(simp only[ls];first|done|omega)) only [E, hv0, hb1, hv2, hka3, hka3l, hka3k, ftt1_0, ftt1_1, ftt1_2, ftt1_3, ftt2_0, ftt2_1, ftt2_2, ftt2_3, ftt2_4, ftt2_5, zntt2_4, hb17, hv18, (gv18).1, bv18, hk19, hk19l, hv20, hv21, (gv21).1, bv21, hk22, hk22l, hb23, gx, eta_T4, enc_T4, dec_T4, ret_four]
              refine W_loopP 4 (fun s t h => match s with | (s33, s34) => ∃ bkv7_13 : V, ∃ bkh7_13 : Nat, t 8 = .i (enc (v0.a : Option TBook)) ∧ t 9 = .i (enc (v0.b : Option TBook)) ∧ t 13 = bkv7_13 ∧ t 58 = .i (.s (.int .i64 s16)) ∧ t 83 = .i (.sl 12 (v18.map enc)) ∧ t 84 = .i (.s (.int .i64 (v18.length : Int))) ∧ t 85 = .i (.s (.int .i64 s34)) ∧ NestV h hh1.length bkh7_13 bkv7_13 (s33 : List TOp) ∧ bkh7_13 ≤ h.length) (RK [.tmp 4, .tmp 5, .tmp 6, .tmp 7] (o_impl_merge)) ?_ hee4 ?_ ?_
              · rintro ⟨s33, s34⟩ ee tt7 hh7 ⟨bkv7_13, bkh7_13, ftt7_0, ftt7_1, ftt7_2, ftt7_3, ftt7_4, ftt7_5, ftt7_6, ftt7_7, ftt7_8⟩ hp
                have zntt7_7 := nest_lenS ftt7_7
                rw [p_impl_merge_l4] at hp
                by_cases hb35 : (decide (s34 < (v18.length : Int))) = true
                · rw [if_t hb35] at hp
                  obtain ⟨v36, hv36, hp⟩ := bind_eq hp
                  obtain ⟨v37, hv37, hp⟩ := bind_eq hp
                  simp (maxSteps := 2000000) (disch := first|omega|(simp only[ls];first|done|omega)) only [E, hv0, hb1, hv2, hka3, hka3l, hka3k, ftt1_0, ftt1_1, ftt1_2, ftt1_3, ftt2_0, ftt2_1, ftt2_2, ftt2_3, ftt2_4, ftt2_5, zntt2_4, hb17, hv18, (gv18).1, bv18, hk19, hk19l, hv20, hv21, (gv21).1, bv21, hk22, hk22l, hb23, ftt7_0, ftt7_1, ftt7_2, ftt7_3, ftt7_4, ftt7_5, ftt7_6, ftt7_7, ftt7_8, zntt7_7, hb35, hv36, gx, eta_T4, enc_T4, dec_T4, ret_four]
                  refine call_f (fun h => NestV h hh1.length bkh7_13 bkv7_13 (s33 : List TOp) ∧ bkh7_13 ≤ h.length ∧ getCells h hh7.length 0 = some [] ∧ hh7.length < h.length ∧ getCells h (hh7.length + 1) 12 = some [.i (.s (.int .i64 v36.actor)), .i (.s (.int .i64 v36.seq)), .i (.s (.int .i64 v36.time)), .i (.sl 1 (v36.deps.counts.map enc)), .i (.s (.int .i64 v36.kind)), .i (.s (.int .i64 v36.obj)), .i (.s (.int .i64 v36.n)), .i (.s (.int .i64 v36.undo)), .i (.s (.int .i64 v36.at_.time)), .i (.s (.int .i64 v36.at_.actor)), .i (.s (.string v36.key)), .i (.s (.string v36.text))] ∧ hh7.length + 1 < h.length) (fun h v h2 => oo_impl_opCopy v37 h v h2) ?_ ?_ ?_
                  · simp (maxSteps := 2000000) (disch := first|omega|(simp only[ls];first|done|omega)) only [E, hv0, hb1, hv2, hka3, hka3l, hka3k, ftt1_0, ftt1_1, ftt1_2, ftt1_3, ftt2_0, ftt2_1, ftt2_2, ftt2_3, ftt2_4, ftt2_5, zntt2_4, hb17, hv18, (gv18).1, bv18, hk19, hk19l, hv20, hv21, (gv21).1, bv21, hk22, hk22l, hb23, ftt7_0, ftt7_1, ftt7_2, ftt7_3, ftt7_4, ftt7_5, ftt7_6, ftt7_7, ftt7_8, zntt7_7, hb35, hv36, hv37, gx, eta_T4, enc_T4, dec_T4, ret_four] <;> (repeat (first | refine And.intro ?_ ?_ | assumption | exact nest_ext (by assumption) | exact nest_wide (by assumption) (Nat.zero_le _) (by first | omega | (simp; omega)) (Nat.le_refl _) | exact nest_wide (nest_ext (by assumption)) (Nat.zero_le _) (by first | omega | (simp; omega)) (Nat.le_refl _) | exact nest_virt (by simp (maxSteps := 2000000) (disch := first|omega|(simp only[ls];first|done|omega)) only [E, hv0, hb1, hv2, hka3, hka3l, hka3k, ftt1_0, ftt1_1, ftt1_2, ftt1_3, ftt2_0, ftt2_1, ftt2_2, ftt2_3, ftt2_4, ftt2_5, zntt2_4, hb17, hv18, (gv18).1, bv18, hk19, hk19l, hv20, hv21, (gv21).1, bv21, hk22, hk22l, hb23, ftt7_0, ftt7_1, ftt7_2, ftt7_3, ftt7_4, ftt7_5, ftt7_6, ftt7_7, ftt7_8, zntt7_7, hb35, hv36, hv37, gx, eta_T4, enc_T4, dec_T4, ret_four]) (by omega) (by first | omega | (simp; done) | (simp; omega)) (by first | omega | (simp; done) | (simp; omega)) | refine nest_ext ?_ | refine nest_set ?_ (by omega) | omega))
                  · rintro h ⟨c8_0, c8_1, c8_2, c8_3, c8_4, c8_5⟩
                    have sc8_0 : snap 9 false h bkv7_13 = some (.sl 12 (s33.map enc)) := snap_nest (n := 5) c8_0
                    exact e_impl_opCopy _ _ hv37 h _ (by simp (maxSteps := 2000000) (disch := first|omega|(simp only[ls];first|done|omega)) only [E, hv0, hb1, hv2, hka3, hka3l, hka3k, ftt1_0, ftt1_1, ftt1_2, ftt1_3, ftt2_0, ftt2_1, ftt2_2, ftt2_3, ftt2_4, ftt2_5, zntt2_4, hb17, hv18, (gv18).1, bv18, hk19, hk19l, hv20, hv21, (gv21).1, bv21, hk22, hk22l, hb23, ftt7_0, ftt7_1, ftt7_2, ftt7_3, ftt7_4, ftt7_5, ftt7_6, ftt7_7, ftt7_8, zntt7_7, hb35, hv36, hv37, c8_0, c8_1, c8_2, c8_3, c8_4, c8_5, sc8_0, gx, eta_T4, enc_T4, dec_T4, ret_four])
                  · rintro hc8 v hh8 ⟨c8_0, c8_1, c8_2, c8_3, c8_4, c8_5⟩ hpost
                    obtain ⟨kk8, nb8_0, rfl, lnb8_0, gnb8_0, wnb8_0⟩ := hpost
                    have d8_0 : NestV hh8 hh1.length bkh7_13 bkv7_13 (s33 : List TOp) := nest_keep c8_0 kk8 (by intro b hb; first | (simp at hb; done) | (simp at hb; omega))
                    have d8_0l := nest_lt d8_0
                    have d8_0s : snap 9 false hh8 bkv7_13 = some (.sl 12 (s33.map enc)) := snap_nest (n := 5) d8_0
                    have d8_0n : lenS bkv7_13 = some s33.length := nest_lenS d8_0
                    have d8_1 : getCells hh8 hh7.length 0 = some [] := (keep_get kk8 c8_3 (by first | (simp; done) | (simp; omega))).trans c8_2
                    have d8_1l := keep_lt kk8 c8_3
                    have d8_2 : getCells hh8 (hh7.length + 1) 12 = some [.i (.s (.int .i64 v36.actor)), .i (.s (.int .i64 v36.seq)), .i (.s (.int .i64 v36.time)), .i (.sl 1 (v36.deps.counts.map enc)), .i (.s (.int .i64 v36.kind)), .i (.s (.int .i64 v36.obj)), .i (.s (.int .i64 v36.n)), .i (.s (.int .i64 v36.undo)), .i (.s (.int .i64 v36.at_.time)), .i (.s (.int .i64 v36.at_.actor)), .i (.s (.string v36.key)), .i (.s (.string v36.text))] := (keep_get kk8 c8_5 (by first | (simp; done) | (simp; omega))).trans c8_4
                    have d8_2l := keep_lt kk8 c8_5
                    have d8_3 := wnb8_0
                    obtain ⟨v38, hv38, hp⟩ := bind_eq hp
                    simp (maxSteps := 2000000) (disch := first|omega|(simp only[ls];first|done|omega)) only [E, hv0, hb1, hv2, hka3, hka3l, hka3k, ftt1_0, ftt1_1, ftt1_2, ftt1_3, ftt2_0, ftt2_1, ftt2_2, ftt2_3, ftt2_4, ftt2_5, zntt2_4, hb17, hv18, (gv18).1, bv18, hk19, hk19l, hv20, hv21, (gv21).1, bv21, hk22, hk22l, hb23, ftt7_0, ftt7_1, ftt7_2, ftt7_3, ftt7_4, ftt7_5, ftt7_6, ftt7_7, ftt7_8, zntt7_7, hb35, hv36, hv37, d8_0, d8_0s, d8_0n, d8_1, d8_2, d8_3, gx, eta_T4, enc_T4, dec_T4, ret_four]
                    refine app_nest_f (lo := hh1.length) (hi := bkh7_13) (g := nb8_0) (x := (v37 : TOp)) (xs := s33) (fun h => NestV h hh1.length bkh7_13 bkv7_13 (s33 : List TOp) ∧ bkh7_13 ≤ h.length ∧ getCells h hh7.length 0 = some [] ∧ hh7.length < h.length ∧ getCells h (hh7.length + 1) 12 = some [.i (.s (.int .i64 v36.actor)), .i (.s (.int .i64 v36.seq)), .i (.s (.int .i64 v36.time)), .i (.sl 1 (v36.deps.counts.map enc)), .i (.s (.int .i64 v36.kind)), .i (.s (.int .i64 v36.obj)), .i (.s (.int .i64 v36.n)), .i (.s (.int .i64 v36.undo)), .i (.s (.int .i64 v36.at_.time)), .i (.s (.int .i64 v36.at_.actor)), .i (.s (.string v36.key)), .i (.s (.string v36.text))] ∧ hh7.length + 1 < h.length ∧ getCells h nb8_0 v37.deps.counts.length = some (rows (v37.deps.counts : List Int)) ∧ nb8_0 < h.length) ?_ ?_ hv38 ?_ (by omega) ?_
                    · simp (maxSteps := 2000000) (disch := first|omega|(simp only[ls];first|done|omega)) only [E, hv0, hb1, hv2, hka3, hka3l, hka3k, ftt1_0, ftt1_1, ftt1_2, ftt1_3, ftt2_0, ftt2_1, ftt2_2, ftt2_3, ftt2_4, ftt2_5, zntt2_4, hb17, hv18, (gv18).1, bv18, hk19, hk19l, hv20, hv21, (gv21).1, bv21, hk22, hk22l, hb23, ftt7_0, ftt7_1, ftt7_2, ftt7_3, ftt7_4, ftt7_5, ftt7_6, ftt7_7, ftt7_8, zntt7_7, hb35, hv36, hv37, d8_0, d8_0s, d8_0n, d8_1, d8_2, d8_3, hv38, gx, eta_T4, enc_T4, dec_T4, ret_four] <;> (repeat (first | refine And.intro ?_ ?_ | assumption | exact nest_ext (by assumption) | exact nest_wide (by assumption) (Nat.zero_le _) (by first | omega | (simp; omega)) (Nat.le_refl _) | exact nest_wide (nest_ext (by assumption)) (Nat.zero_le _) (by first | omega | (simp; omega)) (Nat.le_refl _) | exact nest_virt (by simp (maxSteps := 2000000) (disch := first|omega|(simp only[ls];first|done|omega)) only [E, hv0, hb1, hv2, hka3, hka3l, hka3k, ftt1_0, ftt1_1, ftt1_2, ftt1_3, ftt2_0, ftt2_1, ftt2_2, ftt2_3, ftt2_4, ftt2_5, zntt2_4, hb17, hv18, (gv18).1, bv18, hk19, hk19l, hv20, hv21, (gv21).1, bv21, hk22, hk22l, hb23, ftt7_0, ftt7_1, ftt7_2, ftt7_3, ftt7_4, ftt7_5, ftt7_6, ftt7_7, ftt7_8, zntt7_7, hb35, hv36, hv37, d8_0, d8_0s, d8_0n, d8_1, d8_2, d8_3, hv38, gx, eta_T4, enc_T4, dec_T4, ret_four]) (by omega) (by first | omega | (simp; done) | (simp; omega)) (by first | omega | (simp; done) | (simp; omega)) | refine nest_ext ?_ | refine nest_set ?_ (by omega) | omega))
                    · rintro h ⟨c9_0, c9_1, c9_2, c9_3, c9_4, c9_5, c9_6, c9_7⟩
                      exact c9_0
                    · rintro h ⟨c9_0, c9_1, c9_2, c9_3, c9_4, c9_5, c9_6, c9_7⟩
                      first | exact c9_6 | exact gc_eq c9_6 (by first | rfl | omega | (simp; omega))
                    · rintro h0 nv9 hh9 ⟨c9_0, c9_1, c9_2, c9_3, c9_4, c9_5, c9_6, c9_7⟩ kk9 w9
                      have d9_0 : getCells hh9 hh7.length 0 = some [] := (keepI_get kk9 c9_3 (by omega)).trans c9_2
                      have d9_0l := keepI_lt kk9 c9_3
                      have d9_1 : getCells hh9 (hh7.length + 1) 12 = some [.i (.s (.int .i64 v36.actor)), .i (.s (.int .i64 v36.seq)), .i (.s (.int .i64 v36.time)), .i (.sl 1 (v36.deps.counts.map enc)), .i (.s (.int .i64 v36.kind)), .i (.s (.int .i64 v36.obj)), .i (.s (.int .i64 v36.n)), .i (.s (.int .i64 v36.undo)), .i (.s (.int .i64 v36.at_.time)), .i (.s (.int .i64 v36.at_.actor)), .i (.s (.string v36.key)), .i (.s (.string v36.text))] := (keepI_get kk9 c9_5 (by omega)).trans c9_4
                      have d9_1l := keepI_lt kk9 c9_5
                      have d9_2 : NestV hh9 hh1.length (nb8_0 + 1) nv9 (v38 : List TOp) := w9
                      have d9_2l := nest_lt d9_2
                      have d9_2n : lenS nv9 = some v38.length := nest_lenS d9_2
                      have hp := Option.some.inj hp
                      subst hp
                      simp (maxSteps := 2000000) (disch := first|omega|(simp only[ls];first|done|omega)) only [E, hv0, hb1, hv2, hka3, hka3l, hka3k, ftt1_0, ftt1_1, ftt1_2, ftt1_3, ftt2_0, ftt2_1, ftt2_2, ftt2_3, ftt2_4, ftt2_5, zntt2_4, hb17, hv18, (gv18).1, bv18, hk19, hk19l, hv20, hv21, (gv21).1, bv21, hk22, hk22l, hb23, ftt7_0, ftt7_1, ftt7_2, ftt7_3, ftt7_4, ftt7_5, ftt7_6, ftt7_7, ftt7_8, zntt7_7, hb35, hv36, hv37, d8_0, d8_0s, d8_0n, d8_1, d8_2, d8_3, hv38, d9_0, d9_1, d9_2, d9_2n, gx, eta_T4, enc_T4, dec_T4, ret_four]
                      refine ⟨nv9, nb8_0 + 1, ?_⟩
                      simp (maxSteps := 2000000) (disch := first|omega|(simp only[ls];first|done|omega)) only [E, hv0, hb1, hv2, hka3, hka3l, hka3k, ftt1_0, ftt1_1, ftt1_2, ftt1_3, ftt2_0, ftt2_1, ftt2_2, ftt2_3, ftt2_4, ftt2_5, zntt2_4, hb17, hv18, (gv18).1, bv18, hk19, hk19l, hv20, hv21, (gv21).1, bv21, hk22, hk22l, hb23, ftt7_0, ftt7_1, ftt7_2, ftt7_3, ftt7_4, ftt7_5, ftt7_6, ftt7_7, ftt7_8, zntt7_7, hb35, hv36, hv37, d8_0, d8_0s, d8_0n, d8_1, d8_2, d8_3, hv38, d9_0, d9_1, d9_2, d9_2n, gx, eta_T4, enc_T4, dec_T4, ret_four] <;> (repeat (first | refine And.intro ?_ ?_ | assumption | exact nest_ext (by assumption) | exact nest_wide (by assumption) (Nat.zero_le _) (by first | omega | (simp; omega)) (Nat.le_refl _) | exact nest_wide (nest_ext (by assumption)) (Nat.zero_le _) (by first | omega | (simp; omega)) (Nat.le_refl _) | exact nest_virt (by simp (maxSteps := 2000000) (disch := first|omega|(simp only[ls];first|done|omega)) only [E, hv0, hb1, hv2, hka3, hka3l, hka3k, ftt1_0, ftt1_1, ftt1_2, ftt1_3, ftt2_0, ftt2_1, ftt2_2, ftt2_3, ftt2_4, ftt2_5, zntt2_4, hb17, hv18, (gv18).1, bv18, hk19, hk19l, hv20, hv21, (gv21).1, bv21, hk22, hk22l, hb23, ftt7_0, ftt7_1, ftt7_2, ftt7_3, ftt7_4, ftt7_5, ftt7_6, ftt7_7, ftt7_8, zntt7_7, hb35, hv36, hv37, d8_0, d8_0s, d8_0n, d8_1, d8_2, d8_3, hv38, d9_0, d9_1, d9_2, d9_2n, gx, eta_T4, enc_T4, dec_T4, ret_four]) (by omega) (by first | omega | (simp; done) | (simp; omega)) (by first | omega | (simp; done) | (simp; omega)) | refine nest_ext ?_ | refine nest_set ?_ (by omega) | omega))
                · replace hb35 := eq_false_of_ne_true hb35
                  rw [if_f hb35] at hp
                  have hp := Option.some.inj hp
                  subst hp
                  simp (maxSteps := 2000000) (disch := first|omega|(simp only[ls];first|done|omega)) only [E, hv0, hb1, hv2, hka3, hka3l, hka3k, ftt1_0, ftt1_1, ftt1_2, ftt1_3, ftt2_0, ftt2_1, ftt2_2, ftt2_3, ftt2_4, ftt2_5, zntt2_4, hb17, hv18, (gv18).1, bv18, hk19, hk19l, hv20, hv21, (gv21).1, bv21, hk22, hk22l, hb23, ftt7_0, ftt7_1, ftt7_2, ftt7_3, ftt7_4, ftt7_5, ftt7_6, ftt7_7, ftt7_8, zntt7_7, hb35, gx, eta_T4, enc_T4, dec_T4, ret_four]
                  refine ⟨bkv7_13, bkh7_13, ?_⟩
                  simp (maxSteps := 2000000) (disch := first|omega|(simp only[ls];first|done|omega)) only [E, hv0, hb1, hv2, hka3, hka3l, hka3k, ftt1_0, ftt1_1, ftt1_2, ftt1_3, ftt2_0, ftt2_1, ftt2_2, ftt2_3, ftt2_4, ftt2_5, zntt2_4, hb17, hv18, (gv18).1, bv18, hk19, hk19l, hv20, hv21, (gv21).1, bv21, hk22, hk22l, hb23, ftt7_0, ftt7_1, ftt7_2, ftt7_3, ftt7_4, ftt7_5, ftt7_6, ftt7_7, ftt7_8, zntt7_7, hb35, gx, eta_T4, enc_T4, dec_T4, ret_four] <;> (repeat (first | refine And.intro ?_ ?_ | assumption | exact nest_ext (by assumption) | exact nest_wide (by assumption) (Nat.zero_le _) (by first | omega | (simp; omega)) (Nat.le_refl _) | exact nest_wide (nest_ext (by assumption)) (Nat.zero_le _) (by first | omega | (simp; omega)) (Nat.le_refl _) | exact nest_virt (by simp (maxSteps := 2000000) (disch := first|omega|(simp only[ls];first|done|omega)) only [E, hv0, hb1, hv2, hka3, hka3l, hka3k, ftt1_0, ftt1_1, ftt1_2, ftt1_3, ftt2_0, ftt2_1, ftt2_2, ftt2_3, ftt2_4, ftt2_5, zntt2_4, hb17, hv18, (gv18).1, bv18, hk19, hk19l, hv20, hv21, (gv21).1, bv21, hk22, hk22l, hb23, ftt7_0, ftt7_1, ftt7_2, ftt7_3, ftt7_4, ftt7_5, ftt7_6, ftt7_7, ftt7_8, zntt7_7, hb35, gx, eta_T4, enc_T4, dec_T4, ret_four]) (by omega) (by first | omega | (simp; done) | (simp; omega)) (by first | omega | (simp; done) | (simp; omega)) | refine nest_ext ?_ | refine nest_set ?_ (by omega) | omega))
              · refine ⟨bkv2_13, bkh2_13, ?_⟩
                simp (maxSteps := 2000000) (disch := first|omega|(simp only[ls];first|done|omega)) only [E, hv0, hb1, hv2, hka3, hka3l, hka3k, ftt1_0, ftt1_1, ftt1_2, ftt1_3, ftt2_0, ftt2_1, ftt2_2, ftt2_3, ftt2_4, ftt2_5, zntt2_4, hb17, hv18, (gv18).1, bv18, hk19, hk19l, hv20, hv21, (gv21).1, bv21, hk22, hk22l, hb23, gx, eta_T4, enc_T4, dec_T4, ret_four] <;> (repeat (first | refine And.intro ?_ ?_ | assumption | exact nest_ext (by assumption) | exact nest_wide (by assumption) (Nat.zero_le _) (by first | omega | (simp; omega)) (Nat.le_refl _) | exact nest_wide (nest_ext (by assumption)) (Nat.zero_le _) (by first | omega | (simp; omega)) (Nat.le_refl _) | exact nest_virt (by simp (maxSteps := 2000000) (disch := first|omega|(simp only[ls];first|done|omega)) only [E, hv0, hb1, hv2, hka3, hka3l, hka3k, ftt1_0, ftt1_1, ftt1_2, ftt1_3, ftt2_0, ftt2_1, ftt2_2, ftt2_3, ftt2_4, ftt2_5, zntt2_4, hb17, hv18, (gv18).1, bv18, hk19, hk19l, hv20, hv21, (gv21).1, bv21, hk22, hk22l, hb23, gx, eta_T4, enc_T4, dec_T4, ret_four]) (by omega) (by first | omega | (simp; done) | (simp; omega)) (by first | omega | (simp; done) | (simp; omega)) | refine nest_ext ?_ | refine nest_set ?_ (by omega) | omega))
              · intro x tt10 hh10 hx
                rcases ee4 with ⟨o39, o40⟩ | r
                · obtain ⟨rfl, bov7_13, boh7_13, ftt10_0, ftt10_1, ftt10_2, ftt10_3, ftt10_4, ftt10_5, ftt10_6, ftt10_7, ftt10_8⟩ := hx
                  have zntt10_7 := nest_lenS ftt10_7
                  dsimp only at hp
                  have hp := Option.some.inj hp
                  subst hp
                  simp (maxSteps := 2000000) (disch := first|omega|(simp only[ls];first|done|omega)) only [E, hv0, hb1, hv2, hka3, hka3l, hka3k, ftt1_0, ftt1_1, ftt1_2, ftt1_3, ftt2_0, ftt2_1, ftt2_2, ftt2_3, ftt2_4, ftt2_5, zntt2_4, hb17, hv18, (gv18).1, bv18, hk19, hk19l, hv20, hv21, (gv21).1, bv21, hk22, hk22l, hb23, ftt10_0, ftt10_1, ftt10_2, ftt10_3, ftt10_4, ftt10_5, ftt10_6, ftt10_7, ftt10_8, zntt10_7, gx, eta_T4, enc_T4, dec_T4, ret_four]
                  refine ⟨bov7_13, boh7_13, ?_⟩
                  simp (maxSteps := 2000000) (disch := first|omega|(simp only[ls];first|done|omega)) only [E, hv0, hb1, hv2, hka3, hka3l, hka3k, ftt1_0, ftt1_1, ftt1_2, ftt1_3, ftt2_0, ftt2_1, ftt2_2, ftt2_3, ftt2_4, ftt2_5, zntt2_4, hb17, hv18, (gv18).1, bv18, hk19, hk19l, hv20, hv21, (gv21).1, bv21, hk22, hk22l, hb23, ftt10_0, ftt10_1, ftt10_2, ftt10_3, ftt10_4, ftt10_5, ftt10_6, ftt10_7, ftt10_8, zntt10_7, gx, eta_T4, enc_T4, dec_T4, ret_four] <;> (repeat (first | refine And.intro ?_ ?_ | assumption | exact nest_ext (by assumption) | exact nest_wide (by assumption) (Nat.zero_le _) (by first | omega | (simp; omega)) (Nat.le_refl _) | exact nest_wide (nest_ext (by assumption)) (Nat.zero_le _) (by first | omega | (simp; omega)) (Nat.le_refl _) | exact nest_virt (by simp (maxSteps := 2000000) (disch := first|omega|(simp only[ls];first|done|omega)) only [E, hv0, hb1, hv2, hka3, hka3l, hka3k, ftt1_0, ftt1_1, ftt1_2, ftt1_3, ftt2_0, ftt2_1, ftt2_2, ftt2_3, ftt2_4, ftt2_5, zntt2_4, hb17, hv18, (gv18).1, bv18, hk19, hk19l, hv20, hv21, (gv21).1, bv21, hk22, hk22l, hb23, ftt10_0, ftt10_1, ftt10_2, ftt10_3, ftt10_4, ftt10_5, ftt10_6, ftt10_7, ftt10_8, zntt10_7, gx, eta_T4, enc_T4, dec_T4, ret_four]) (by omega) (by first | omega | (simp; done) | (simp; omega)) (by first | omega | (simp; done) | (simp; omega)) | refine nest_ext ?_ | refine nest_set ?_ (by omega) | omega))
                · obtain ⟨rfl, hx⟩ := hx
                  dsimp only at hp
                  cases hp
                  simp only [seqK_ret, blockK_ret, retK_RK (K := o_impl_merge), hx, and_self, true_and]
          · replace hb17 := eq_false_of_ne_true hb17
            rw [if_f hb17] at hp
            have hp := Option.some.inj hp
            subst hp
            simp (maxSteps := 2000000) (disch := first|omega|(simp only[ls];first|done|omega)) only [E, hv0, hb1, hv2, hka3, hka3l, hka3k, ftt1_0, ftt1_1, ftt1_2, ftt1_3, ftt2_0, ftt2_1, ftt2_2, ftt2_3, ftt2_4, ftt2_5, zntt2_4, hb17, gx, eta_T4, enc_T4, dec_T4, ret_four]
            refine ⟨bkv2_13, bkh2_13, ?_⟩
            simp (maxSteps := 2000000) (disch := first|omega|(simp only[ls];first|done|omega)) only [E, hv0, hb1, hv2, hka3, hka3l, hka3k, ftt1_0, ftt1_1, ftt1_2, ftt1_3, ftt2_0, ftt2_1, ftt2_2, ftt2_3, ftt2_4, ftt2_5, zntt2_4, hb17, gx, eta_T4, enc_T4, dec_T4, ret_four] <;> (repeat (first | refine And.intro ?_ ?_ | assumption | exact nest_ext (by assumption) | exact nest_wide (by assumption) (Nat.zero_le _) (by first | omega | (simp; omega)) (Nat.le_refl _) | exact nest_wide (nest_ext (by assumption)) (Nat.zero_le _) (by first | omega | (simp; omega)) (Nat.le_refl _) | exact nest_virt (by simp (maxSteps := 2000000) (disch := first|omega|(simp only[ls];first|done|omega)) only [E, hv0, hb1, hv2, hka3, hka3l, hka3k, ftt1_0, ftt1_1, ftt1_2, ftt1_3, ftt2_0, ftt2_1, ftt2_2, ftt2_3, ftt2_4, ftt2_5, zntt2_4, hb17, gx, eta_T4, enc_T4, dec_T4, ret_four]) (by omega) (by first | omega | (simp; done) | (simp; omega)) (by first | omega | (simp; done) | (simp; omega)) | refine nest_ext ?_ | refine nest_set ?_ (by omega) | omega))
        · refine ⟨(.hsl hh1.length 0 0 12 true 0), hh1.length + 1, ?_⟩
          simp (maxSteps := 2000000) (disch := first|omega|(simp only[ls];first|done|omega)) only [E, hv0, hb1, hv2, hka3, hka3l, hka3k, ftt1_0, ftt1_1, ftt1_2, ftt1_3, gx, eta_T4, enc_T4, dec_T4, ret_four] <;> (repeat (first | refine And.intro ?_ ?_ | assumption | exact nest_ext (by assumption) | exact nest_wide (by assumption) (Nat.zero_le _) (by first | omega | (simp; omega)) (Nat.le_refl _) | exact nest_wide (nest_ext (by assumption)) (Nat.zero_le _) (by first | omega | (simp; omega)) (Nat.le_refl _) | exact nest_virt (by simp (maxSteps := 2000000) (disch := first|omega|(simp only[ls];first|done|omega)) only [E, hv0, hb1, hv2, hka3, hka3l, hka3k, ftt1_0, ftt1_1, ftt1_2, ftt1_3, gx, eta_T4, enc_T4, dec_T4, ret_four]) (by omega) (by first | omega | (simp; done) | (simp; omega)) (by first | omega | (simp; done) | (simp; omega)) | refine nest_ext ?_ | refine nest_set ?_ (by omega) | omega))
        · intro x tt11 hh11 hx
          rcases ee5 with ⟨o41, o42⟩ | r
          · obtain ⟨rfl, bov2_13, boh2_13, ftt11_0, ftt11_1, ftt11_2, ftt11_3, ftt11_4, ftt11_5⟩ := hx
            have zntt11_4 := nest_lenS ftt11_4
            dsimp only at hp
            by_cases hb43 : (decide (1024 < (o41.length : Int))) = true
            · rw [if_t hb43] at hp
              have hp := Option.some.inj hp
              subst hp
              simp (maxSteps := 2000000) (disch := first|omega|(simp only[ls];first|done|omega)) only [E, hv0, hb1, hv2, hka3, hka3l, hka3k, ftt1_0, ftt1_1, ftt1_2, ftt1_3, ftt11_0, ftt11_1, ftt11_2, ftt11_3, ftt11_4, ftt11_5, zntt11_4, hb43, gx, eta_T4, enc_T4, dec_T4, ret_four]
              refine ⟨(.hsl hh11.length 0 0 12 true 0), ?_⟩
              simp (maxSteps := 2000000) (disch := first|omega|(simp only[ls];first|done|omega)) only [E, hv0, hb1, hv2, hka3, hka3l, hka3k, ftt1_0, ftt1_1, ftt1_2, ftt1_3, ftt11_0, ftt11_1, ftt11_2, ftt11_3, ftt11_4, ftt11_5, zntt11_4, hb43, o_impl_merge, gx, eta_T4, enc_T4, dec_T4, ret_four] <;> (repeat (first | refine And.intro ?_ ?_ | assumption | exact nest_ext (by assumption) | exact nest_wide (by assumption) (Nat.zero_le _) (by first | omega | (simp; omega)) (Nat.le_refl _) | exact nest_wide (nest_ext (by assumption)) (Nat.zero_le _) (by first | omega | (simp; omega)) (Nat.le_refl _) | exact nest_virt (by simp (maxSteps := 2000000) (disch := first|omega|(simp only[ls];first|done|omega)) only [E, hv0, hb1, hv2, hka3, hka3l, hka3k, ftt1_0, ftt1_1, ftt1_2, ftt1_3, ftt11_0, ftt11_1, ftt11_2, ftt11_3, ftt11_4, ftt11_5, zntt11_4, hb43, o_impl_merge, gx, eta_T4, enc_T4, dec_T4, ret_four]) (by omega) (by first | omega | (simp; done) | (simp; omega)) (by first | omega | (simp; done) | (simp; omega)) | refine nest_ext ?_ | refine nest_set ?_ (by omega) | omega))
            · replace hb43 := eq_false_of_ne_true hb43
              rw [if_f hb43] at hp
              have hp := Option.some.inj hp
              subst hp
              simp (maxSteps := 2000000) (disch := first|omega|(simp only[ls];first|done|omega)) only [E, hv0, hb1, hv2, hka3, hka3l, hka3k, ftt1_0, ftt1_1, ftt1_2, ftt1_3, ftt11_0, ftt11_1, ftt11_2, ftt11_3, ftt11_4, ftt11_5, zntt11_4, hb43, gx, eta_T4, enc_T4, dec_T4, ret_four]
              refine ⟨bov2_13, ?_⟩
              simp (maxSteps := 2000000) (disch := first|omega|(simp only[ls];first|done|omega)) only [E, hv0, hb1, hv2, hka3, hka3l, hka3k, ftt1_0, ftt1_1, ftt1_2, ftt1_3, ftt11_0, ftt11_1, ftt11_2, ftt11_3, ftt11_4, ftt11_5, zntt11_4, hb43, o_impl_merge, gx, eta_T4, enc_T4, dec_T4, ret_four] <;> (repeat (first | refine And.intro ?_ ?_ | assumption | exact nest_ext (by assumption) | exact nest_wide (by assumption) (Nat.zero_le _) (by first | omega | (simp; omega)) (Nat.le_refl _) | exact nest_wide (nest_ext (by assumption)) (Nat.zero_le _) (by first | omega | (simp; omega)) (Nat.le_refl _) | exact nest_virt (by simp (maxSteps := 2000000) (disch := first|omega|(simp only[ls];first|done|omega)) only [E, hv0, hb1, hv2, hka3, hka3l, hka3k, ftt1_0, ftt1_1, ftt1_2, ftt1_3, ftt11_0, ftt11_1, ftt11_2, ftt11_3, ftt11_4, ftt11_5, zntt11_4, hb43, o_impl_merge, gx, eta_T4, enc_T4, dec_T4, ret_four]) (by omega) (by first | omega | (simp; done) | (simp; omega)) (by first | omega | (simp; done) | (simp; omega)) | refine nest_ext ?_ | refine nest_set ?_ (by omega) | omega))
          · obtain ⟨rfl, hx⟩ := hx
            dsimp only at hp
            cases hp
            simp only [seqK_ret, blockK_ret, retK_RK (K := o_impl_merge), hx, and_self, true_and]
      · obtain ⟨rfl, hx⟩ := hx
        dsimp only at hp
        cases hp
        simp only [seqK_ret, blockK_ret, retK_RK (K := o_impl_merge), hx, and_self, true_and]
  · replace hb1 := eq_false_of_ne_true hb1
    rw [if_f hb1] at hp
    have hp := Option.some.inj hp
    subst hp
    simp (maxSteps := 2000000) (disch := first|omega|(simp only[ls];first|done|omega)) only [E, hv0, hb1, gx, eta_T4, enc_T4, dec_T4, ret_four]
    refine ⟨(.hsl 1 0 0 12 true 0), ?_⟩
    simp (maxSteps := 2000000) (disch := first|omega|(simp only[ls];first|done|omega)) only [E, hv0, hb1, o_impl_merge, gx, eta_T4, enc_T4, dec_T4, ret_four] <;> (repeat (first | refine And.intro ?_ ?_ | assumption | exact nest_ext (by assumption) | exact nest_wide (by assumption) (Nat.zero_le _) (by first | omega | (simp; omega)) (Nat.le_refl _) | exact nest_wide (nest_ext (by assumption)) (Nat.zero_le _) (by first | omega | (simp; omega)) (Nat.le_refl _) | exact nest_virt (by simp (maxSteps := 2000000) (disch := first|omega|(simp only[ls];first|done|omega)) only [E, hv0, hb1, o_impl_merge, gx, eta_T4, enc_T4, dec_T4, ret_four]) (by omega) (by first | omega | (simp; done) | (simp; omega)) (by first | omega | (simp; done) | (simp; omega)) | refine nest_ext ?_ | refine nest_set ?_ (by omega) | omega))
theorem ko_impl_merge {P : Program} {env : Env} {f_impl_readTwo : Nat} {f_impl_opCopy : Nat}  (ep_impl_readTwo : env (2 * f_impl_readTwo) = pureFn false (FA fun a : List TOp × List TOp => p_impl_readTwo a.1 a.2)) (e_impl_opCopy : k_impl_opCopy (env (2 * f_impl_opCopy + 1))) : k_impl_merge (ownFnW [true, true, false, false] P env (c_impl_merge f_impl_readTwo f_impl_opCopy)) := by
  intro x0 x1 b hp h args has
  obtain ⟨⟨v, H2⟩, hr, n0, rfl, wn0⟩ := w_impl_merge ep_impl_readTwo e_impl_opCopy x0 x1 hp
  exact ⟨_, own_callW has hr (by obtain ⟨_, _, rfl, _⟩ := wn0; first | rfl | simp [V.handed, V.good]), keep_moved, n0.shift h.length, rfl, nest_movedO wn0⟩

noncomputable def p_impl_BranchMerge (x0 : List TOp) (x1 : List TOp) : Option (T2 (List TOp) Int) :=
  (p_impl_merge x0 x1).bind fun v0 =>
  some ⟨v0.c, v0.d⟩
def c_impl_BranchMerge (f_impl_merge : Nat) : AFn := ⟨20, (.seq (.ops [(qS 4 (.vnil 12 true)), (qS 5 (.mv (ic 0)))]) (.seq (.ops [(qS 11 (.mv (.tmp 0))), (qS 12 (.mv (.tmp 1))), (qS 13 (.call (2 * f_impl_merge + 1) [(.tmp 11), (.tmp 12)])), (qS 10 (.mv (.tmp 13))), (qS 14 (.extract 0 (.tmp 10))), (qS 15 (.extract 1 (.tmp 10))), (qS 16 (.extract 2 (.tmp 10))), (qS 17 (.extract 3 (.tmp 10))), (qS 6 (.mv (.tmp 14))), (qS 7 (.mv (.tmp 15))), (qS 8 (.mv (.tmp 16))), (qS 9 (.mv (.tmp 17)))]) (.seq (.ops [(qS 18 (.mv (.tmp 8))), (qS 19 (.mv (.tmp 9))), (qS 4 (.mv (.tmp 18))), (qS 5 (.mv (.tmp 19)))]) .ret))), [(.tmp 4), (.tmp 5)]⟩
def o_impl_BranchMerge (b : T2 (List TOp) Int) (v : V) (h : Heap) : Prop := ∃ n0 : V, v = .tup [n0, .i (.s (.int .i64 b.b))] ∧ NestV h 0 h.length n0 b.a
def oo_impl_BranchMerge (b : T2 (List TOp) Int) (h : Heap) (v : V) (h2 : Heap) : Prop := Keep [] h h2 ∧ ∃ n0 : V, v = .tup [n0, .i (.s (.int .i64 b.b))] ∧ NestV h2 h.length h2.length n0 b.a
def k_impl_BranchMerge (F : Fun) : Prop := ∀ (x0 : List TOp) (x1 : List TOp) (b : T2 (List TOp) Int), p_impl_BranchMerge x0 x1 = some b → ∀ (h : Heap) (args : List V), snapA 9 false h args = some (encA (x0, x1)) → ∃ p, F none args h = some p ∧ oo_impl_BranchMerge b h p.1 p.2
set_option maxHeartbeats 10000000 in
theorem w_impl_BranchMerge {P : Program} {env : Env} {f_impl_merge : Nat}  (e_impl_merge : k_impl_merge (env (2 * f_impl_merge + 1))) (x0 : List TOp) (x1 : List TOp) {b : T2 (List TOp) Int} (hp : p_impl_BranchMerge x0 x1 = some b) : R P env (c_impl_BranchMerge f_impl_merge) ((encA (x0, x1)).map ofI) [] (o_impl_BranchMerge b) := by
  refine R_of (by simp [c_impl_BranchMerge, encA]) ?_
  unfold c_impl_BranchMerge
  unfold p_impl_BranchMerge at hp
  obtain ⟨v0, hv0, hp⟩ := bind_eq hp
  simp (maxSteps := 2000000) (disch := first|omega|(simp only[ls];first|done|omega)) only [gx, eta_T4, enc_T4, dec_T4, ret_four]
  refine call_f (fun h => getCells h 0 0 = some [] ∧ 0 < h.length) (fun h v h2 => oo_impl_merge v0 h v h2) ?_ ?_ ?_
  · simp (maxSteps := 2000000) (disch := first|omega|(simp only[ls];first|done|omega)) only [hv0, gx, eta_T4, enc_T4, dec_T4, ret_four] <;> (repeat (first | refine And.intro ?_ ?_ | assumption | exact nest_ext (by assumption) | exact nest_wide (by assumption) (Nat.zero_le _) (by first | omega | (simp; omega)) (Nat.le_refl _) | exact nest_wide (nest_ext (by assumption)) (Nat.zero_le _) (by first | omega | (simp; omega)) (Nat.le_refl _) | exact nest_virt (by simp (maxSteps := 2000000) (disch := first|omega|(simp only[ls];first|done|omega)) only [hv0, gx, eta_T4, enc_T4, dec_T4, ret_four]) (by omega) (by first | omega | (simp; done) | (simp; omega)) (by first | omega | (simp; done) | (simp; omega)) | refine nest_ext ?_ | refine nest_set ?_ (by omega) | omega))
  · rintro h ⟨c0_0, c0_1⟩
    exact e_impl_merge _ _ _ hv0 h _ (by simp (maxSteps := 2000000) (disch := first|omega|(simp only[ls];first|done|omega)) only [hv0, c0_0, c0_1, gx, eta_T4, enc_T4, dec_T4, ret_four])
  · rintro hc0 v hh0 ⟨c0_0, c0_1⟩ hpost
    obtain ⟨kk0, nb0_0, rfl, wnb0_0⟩ := hpost
    have d0_0 : getCells hh0 0 0 = some [] := (keep_get kk0 c0_1 (by first | (simp; done) | (simp; omega))).trans c0_0
    have d0_0l := keep_lt kk0 c0_1
    have d0_1 := wnb0_0
    have d0_1l := nest_lt d0_1
    have d0_1s : snap 9 false hh0 nb0_0 = some (.sl 12 (v0.c.map enc)) := snap_nest (n := 5) d0_1
    have d0_1n : lenS nb0_0 = some v0.c.length := nest_lenS d0_1
    have hp := Option.some.inj hp
    subst hp
    simp (maxSteps := 2000000) (disch := first|omega|(simp only[ls];first|done|omega)) only [hv0, d0_0, d0_1, d0_1s, d0_1n, gx, eta_T4, enc_T4, dec_T4, ret_four]
    refine ⟨nb0_0, ?_⟩
    simp (maxSteps := 2000000) (disch := first|omega|(simp only[ls];first|done|omega)) only [hv0, d0_0, d0_1, d0_1s, d0_1n, o_impl_BranchMerge, gx, eta_T4, enc_T4, dec_T4, ret_four] <;> (repeat (first | refine And.intro ?_ ?_ | assumption | exact nest_ext (by assumption) | exact nest_wide (by assumption) (Nat.zero_le _) (by first | omega | (simp; omega)) (Nat.le_refl _) | exact nest_wide (nest_ext (by assumption)) (Nat.zero_le _) (by first | omega | (simp; omega)) (Nat.le_refl _) | exact nest_virt (by simp (maxSteps := 2000000) (disch := first|omega|(simp only[ls];first|done|omega)) only [hv0, d0_0, d0_1, d0_1s, d0_1n, o_impl_BranchMerge, gx, eta_T4, enc_T4, dec_T4, ret_four]) (by omega) (by first | omega | (simp; done) | (simp; omega)) (by first | omega | (simp; done) | (simp; omega)) | refine nest_ext ?_ | refine nest_set ?_ (by omega) | omega))
theorem ko_impl_BranchMerge {P : Program} {env : Env} {f_impl_merge : Nat}  (e_impl_merge : k_impl_merge (env (2 * f_impl_merge + 1))) : k_impl_BranchMerge (ownFn P env (c_impl_BranchMerge f_impl_merge)) := by
  intro x0 x1 b hp h args has
  obtain ⟨⟨v, H2⟩, hr, n0, rfl, wn0⟩ := w_impl_BranchMerge e_impl_merge x0 x1 hp
  exact ⟨_, own_call has hr (by obtain ⟨_, _, rfl, _⟩ := wn0; first | rfl | simp [V.handed, V.good]), keep_moved, n0.shift h.length, rfl, nest_movedO wn0⟩

noncomputable def p_laws_markIntS_l0 : List Int × Int × Int → Option (Lp (List Int × Int × Int) (T2 Int (List Int)))
  | (s0, s1, s2) =>
    if (decide (s2 < (s0.length : Int))) = true then
      (get? s0 s2).bind fun v5 =>
      some (.go ((s0.set s2.toNat s1), w64 (s1 + 1), w64 (s2 + 1)))
    else
      some (.out (s0, s1, s2))
noncomputable def p_laws_markIntS (x0 : List Int) (x1 : Int) : Option (T2 Int (List Int)) :=
  (loopP (p_laws_markIntS_l0) (x0, x1, 0)).bind fun ee0 => match ee0 with
  | .ret r => some r
  | .out (o7, o8, o9) =>
    some ⟨o8, o7⟩
def c_laws_markIntS : AFn := ⟨19, (.seq (.ops [(qS 4 (.mv (ic 0)))]) (.seq (.seq (.ops [(qS 5 (.mv (ic 0)))]) (.block 0 (.loop (.seq (.seq (.ops [(qS 6 (.mv (.tmp 5))), (qS 7 (.mv (.tmp 0))), (qS 8 (.len (.tmp 7))), (qS 9 (.pu (.n (.ar .lss)) [(.tmp 6), (.tmp 8)]))]) (.cond (.tmp 9) .skip (.exit 0))) (.seq (.block 1 (.seq (.ops [(qS 12 (.mv (.tmp 0))), (qS 13 (.mv (.tmp 5))), (qS 14 (.mv (.tmp 1))), (qS 15 (.idxS 1 (.tmp 12) (.tmp 13))), ⟨.none, (.storeV [(0, false)] 1 (.tmp 15) (.tmp 14)), .none, []⟩]) (.ops [(qS 16 (.mv (.tmp 1))), (qS 17 (.pu (.n (.ar .add)) [(.tmp 16), (ic 1)])), (qS 1 (.mv (.tmp 17)))]))) (.ops [(qS 10 (.mv (.tmp 5))), (qS 11 (.pu (.n (.ar .add)) [(.tmp 10), (ic 1)])), (qS 5 (.mv (.tmp 11)))])))))) (.seq (.ops [(qS 18 (.mv (.tmp 1))), (qS 4 (.mv (.tmp 18)))]) .ret))), [(.tmp 4)]⟩
def i_laws_markIntS (pb0 pn0 : Nat) (h : Heap) (b : T2 Int (List Int)) (v : V) (h2 : Heap) : Prop := Keep [pb0] h h2 ∧ v = .i (.s (.int .i64 b.a)) ∧ getCells h2 pb0 pn0 = some (rows b.b)
def k_laws_markIntS (F : Fun) : Prop := ∀ (x0 : List Int) (x1 : Int) (b : T2 Int (List Int)), p_laws_markIntS x0 x1 = some b → ∀ (pb0 pn0 : Nat) (h : Heap), pn0 = (x0).length → getCells h pb0 pn0 = some (rows x0) → ∃ p, F none [.hsl pb0 pn0 0 1 false pn0, .i (.s (.int .i64 x1))] h = some p ∧ i_laws_markIntS pb0 pn0 h b p.1 p.2
set_option maxHeartbeats 10000000 in
theorem w_laws_markIntS {P : Program} {env : Env}  (x0 : List Int) (x1 : Int) {b : T2 Int (List Int)} (hp : p_laws_markIntS x0 x1 = some b) (pb0 pn0 : Nat) (hh : Heap) (pm0 : pn0 = (x0).length) (pf0 : getCells hh pb0 pn0 = some (rows x0)) : R P env (c_laws_markIntS) [.hsl pb0 pn0 0 1 false pn0, .i (.s (.int .i64 x1))] hh (i_laws_markIntS pb0 pn0 hh b) := by
  have pl0 := gc_lt pf0
  have pg0 : getCells hh pb0 x0.length = some (rows x0) := by rw [← pm0]; exact pf0
  refine R_of (by simp [c_laws_markIntS, encA]) ?_
  unfold c_laws_markIntS
  unfold p_laws_markIntS at hp
  obtain ⟨ee0, hee0, hp⟩ := bind_eq hp
  simp (maxSteps := 2000000) (disch := first|omega|(simp only[ls];first|done|omega)) only [pf0, pg0, gx, eta_T4, enc_T4, dec_T4, ret_four]
  refine W_loopP 0 (fun s t h => match s with | (s0, s1, s2) => t 0 = .hsl pb0 pn0 0 1 false pn0 ∧ t 1 = .i (.s (.int .i64 s1)) ∧ t 5 = .i (.s (.int .i64 s2)) ∧ getCells h pb0 pn0 = some (rows (s0 : List Int)) ∧ pb0 < h.length ∧ Keep [pb0] hh h) (RK [.tmp 4] (i_laws_markIntS pb0 pn0 hh)) ?_ hee0 ?_ ?_
  · rintro ⟨s0, s1, s2⟩ ee tt0 hh0 ⟨ftt0_0, ftt0_1, ftt0_2, ftt0_3, ftt0_4, ftt0_5⟩ hp
    have ztt0_3 := len_rows ftt0_3
    simp only [zs] at ztt0_3
    rw [p_laws_markIntS_l0] at hp
    have hz3 : ((pn0 : Nat) : Int) = (s0.length : Int) := by omega
    by_cases hb4 : (decide (s2 < (s0.length : Int))) = true
    · rw [if_t hb4] at hp
      obtain ⟨v5, hv5, hp⟩ := bind_eq hp
      have gv5 := get_some hv5
      have hs6 : List.take s2.toNat (rows s0) ++ .i (.s (.int .i64 s1)) :: List.drop (s2.toNat + 1) (rows s0) = rows (s0.set s2.toNat s1) := by simpa [splice, zs, cellsV, I.cells, enc_int] using rows_set_off (y := s1) (ys := [.i (.s (.int .i64 s1))]) (k := 0) gv5.2.2 (Nat.le_of_ble_eq_true rfl) (by rfl)
      have hp := Option.some.inj hp
      subst hp
      simp (maxSteps := 2000000) (disch := first|omega|(simp only[ls];first|done|omega)) only [i_laws_markIntS, pf0, pg0, ftt0_0, ftt0_1, ftt0_2, ftt0_3, ftt0_4, ftt0_5, hz3, hb4, hv5, (gv5).1, (gv5).2.1, hs6, gx, eta_T4, enc_T4, dec_T4, ret_four] <;> (repeat (first | omega | assumption | rfl | exact keep_refl | refine keep_app ?_ | (refine keep_set (by first | (left; simp; done) | (right; simp; omega)) ?_) | refine And.intro ?_ ?_))
    · replace hb4 := eq_false_of_ne_true hb4
      rw [if_f hb4] at hp
      have hp := Option.some.inj hp
      subst hp
      simp (maxSteps := 2000000) (disch := first|omega|(simp only[ls];first|done|omega)) only [i_laws_markIntS, pf0, pg0, ftt0_0, ftt0_1, ftt0_2, ftt0_3, ftt0_4, ftt0_5, hz3, hb4, gx, eta_T4, enc_T4, dec_T4, ret_four] <;> (repeat (first | omega | assumption | rfl | exact keep_refl | refine keep_app ?_ | (refine keep_set (by first | (left; simp; done) | (right; simp; omega)) ?_) | refine And.intro ?_ ?_))
  · simp (maxSteps := 2000000) (disch := first|omega|(simp only[ls];first|done|omega)) only [i_laws_markIntS, pf0, pg0, gx, eta_T4, enc_T4, dec_T4, ret_four] <;> (repeat (first | omega | assumption | rfl | exact keep_refl | refine keep_app ?_ | (refine keep_set (by first | (left; simp; done) | (right; simp; omega)) ?_) | refine And.intro ?_ ?_))
  · intro x tt1 hh1 hx
    rcases ee0 with ⟨o7, o8, o9⟩ | r
    · obtain ⟨rfl, ftt1_0, ftt1_1, ftt1_2, ftt1_3, ftt1_4, ftt1_5⟩ := hx
      have ztt1_3 := len_rows ftt1_3
      simp only [zs] at ztt1_3
      dsimp only at hp
      have hp := Option.some.inj hp
      subst hp
      simp (maxSteps := 2000000) (disch := first|omega|(simp only[ls];first|done|omega)) only [i_laws_markIntS, pf0, pg0, ftt1_0, ftt1_1, ftt1_2, ftt1_3, ftt1_4, ftt1_5, gx, eta_T4, enc_T4, dec_T4, ret_four] <;> (repeat (first | omega | assumption | rfl | exact keep_refl | refine keep_app ?_ | (refine keep_set (by first | (left; simp; done) | (right; simp; omega)) ?_) | refine And.intro ?_ ?_))
    · obtain ⟨rfl, hx⟩ := hx
      dsimp only at hp
      cases hp
      simp only [seqK_ret, blockK_ret, retK_RK (K := i_laws_markIntS pb0 pn0 hh), hx, and_self, true_and]
theorem ko_laws_markIntS {P : Program} {env : Env}  : k_laws_markIntS (runIn P env (c_laws_markIntS)) := by
  intro x0 x1 b hp pb0 pn0 h a0 a1
  exact w_laws_markIntS x0 x1 hp pb0 pn0 h a0 a1

noncomputable def p_laws_markText_l0 : Int × ByteArray → Option (Lp (Int × ByteArray) ByteArray)
  | (s1, s2) =>
    if (decide (0 < s1)) = true then
      (cat? (strOfNums [(IntKind.wrap .u8 (w64 (48 + (Int.tmod s1 10))))]) s2).bind fun v4 =>
      some (.go (w64 (Int.tdiv s1 10), v4))
    else
      some (.out (s1, s2))
noncomputable def p_laws_markText (x0 : Int) : Option ByteArray :=
  if (decide (x0 ≤ 0)) = true then
    some (ByteArray.mk #[109, 48])
  else
    (loopP (p_laws_markText_l0) (x0, (ByteArray.mk #[]))).bind fun ee0 => match ee0 with
    | .ret r => some r
    | .out (o5, o6) =>
      (cat? (ByteArray.mk #[109]) o6).bind fun v7 =>
      some v7
def c_laws_markText : AFn := ⟨20, (.seq (.ops [(qS 2 (.mv (.const (.string ⟨#[]⟩))))]) (.seq (.seq (.ops [(qS 4 (.mv (.tmp 0))), (qS 5 (.pu (.n (.ar .leq)) [(.tmp 4), (ic 0)]))]) (.cond (.tmp 5) (.seq (.ops [(qS 2 (.mv (.const (.string ⟨#[109, 48]⟩))))]) .ret) .skip)) (.seq (.ops [(qS 3 (.mv (.const (.string ⟨#[]⟩))))]) (.seq (.block 0 (.loop (.seq (.seq (.ops [(qS 6 (.mv (.tmp 0))), (qS 7 (.pu (.n (.ar .gtr)) [(.tmp 6), (ic 0)]))]) (.cond (.tmp 7) .skip (.exit 0))) (.block 1 (.seq (.ops [(qS 8 (.mv (.tmp 0))), (qS 9 (.pu (.n (.ar .rem)) [(.tmp 8), (ic 10)])), (qS 10 (.pu (.n (.ar .add)) [(ic 48), (.tmp 9)])), (qS 11 (.pu (.n (.conv .u8)) [(.tmp 10)])), (qS 12 (.buildSl 1 false 1 [(.int .u8 0)] [(0, (.tmp 11))])), (qS 13 (.b2s (.tmp 12))), (qS 14 (.mv (.tmp 3))), (qS 15 (.pu (.n (.ar .add)) [(.tmp 13), (.tmp 14)])), (qS 3 (.mv (.tmp 15)))]) (.ops [(qS 16 (.mv (.tmp 0))), (qS 17 (.pu (.n (.ar .quo)) [(.tmp 16), (ic 10)])), (qS 0 (.mv (.tmp 17)))])))))) (.seq (.ops [(qS 18 (.mv (.tmp 3))), (qS 19 (.pu (.n (.ar .add)) [(.const (.string ⟨#[109]⟩)), (.tmp 18)])), (qS 2 (.mv (.tmp 19)))]) .ret))))), [(.tmp 2)]⟩
set_option maxHeartbeats 10000000 in
theorem d_laws_markText {P : Program} {env : Env}  (x0 : Int) {b : ByteArray} (hp : p_laws_markText x0 = some b) : R P env (c_laws_markText) ((encA (x0)).map ofI) [] (Tells true b) := by
  refine R_of (by simp [c_laws_markText, encA]) ?_
  unfold c_laws_markText
  unfold p_laws_markText at hp
  by_cases hb0 : (decide (x0 ≤ 0)) = true
  · rw [if_t hb0] at hp
    have hp := Option.some.inj hp
    subst hp
    simp (maxSteps := 2000000) (disch := first|omega|(simp only[ls];first|done|omega)) only [hb0, gx, eta_T4, enc_T4, dec_T4, ret_four]
  · replace hb0 := eq_false_of_ne_true hb0
    rw [if_f hb0] at hp
    obtain ⟨ee0, hee0, hp⟩ := bind_eq hp
    simp (maxSteps := 2000000) (disch := first|omega|(simp only[ls];first|done|omega)) only [hb0, gx, eta_T4, enc_T4, dec_T4, ret_four]
    refine W_loopP 0 (fun s t h => match s with | (s1, s2) => t 0 = .i (.s (.int .i64 s1)) ∧ t 3 = .i (.s (.string s2))) (RK [.tmp 2] (Tells true)) ?_ hee0 ?_ ?_
    · rintro ⟨s1, s2⟩ ee tt0 hh0 ⟨ftt0_0, ftt0_1⟩ hp
      rw [p_laws_markText_l0] at hp
      by_cases hb3 : (decide (0 < s1)) = true
      · rw [if_t hb3] at hp
        obtain ⟨v4, hv4, hp⟩ := bind_eq hp
        have hp := Option.some.inj hp
        subst hp
        simp (maxSteps := 2000000) (disch := first|omega|(simp only[ls];first|done|omega)) only [hb0, ftt0_0, ftt0_1, hb3, hv4, gx, eta_T4, enc_T4, dec_T4, ret_four] <;> omega
      · replace hb3 := eq_false_of_ne_true hb3
        rw [if_f hb3] at hp
        have hp := Option.some.inj hp
        subst hp
        simp (maxSteps := 2000000) (disch := first|omega|(simp only[ls];first|done|omega)) only [hb0, ftt0_0, ftt0_1, hb3, gx, eta_T4, enc_T4, dec_T4, ret_four] <;> omega
    · simp (maxSteps := 2000000) (disch := first|omega|(simp only[ls];first|done|omega)) only [hb0, gx, eta_T4, enc_T4, dec_T4, ret_four] <;> omega
    · intro x tt1 hh1 hx
      rcases ee0 with ⟨o5, o6⟩ | r
      · obtain ⟨rfl, ftt1_0, ftt1_1⟩ := hx
        dsimp only at hp
        obtain ⟨v7, hv7, hp⟩ := bind_eq hp
        have hp := Option.some.inj hp
        subst hp
        simp (maxSteps := 2000000) (disch := first|omega|(simp only[ls];first|done|omega)) only [hb0, ftt1_0, ftt1_1, hv7, gx, eta_T4, enc_T4, dec_T4, ret_four]
      · obtain ⟨rfl, hx⟩ := hx
        dsimp only at hp
        cases hp
        simp only [seqK_ret, blockK_ret, retK_RK (K := Tells true), hx, and_self, true_and]

section
open NestC (kid rowN)
noncomputable def p_laws_markOpS_r (x : TOp) (k : Int) : Option (T2 Int TOp) :=
  (p_laws_markIntS x.deps.counts (w64 (w64 (w64 (k + 1) + 1) + 1))).bind fun r =>
  (p_laws_markText (w64 (w64 (w64 (w64 (w64 (w64 (r.a + 1) + 1) + 1) + 1) + 1) + 1))).bind fun v1 =>
  (p_laws_markText (w64 (w64 (w64 (w64 (w64 (w64 (w64 (r.a + 1) + 1) + 1) + 1) + 1) + 1) + 1))).bind fun v2 =>
  some ⟨w64 (w64 (w64 (w64 (w64 (w64 (w64 (w64 (r.a + 1) + 1) + 1) + 1) + 1) + 1) + 1) + 1), ⟨k, w64 (k + 1), w64 (w64 (k + 1) + 1), ⟨r.b⟩, r.a, w64 (r.a + 1), w64 (w64 (r.a + 1) + 1), w64 (w64 (w64 (r.a + 1) + 1) + 1), ⟨w64 (w64 (w64 (w64 (r.a + 1) + 1) + 1) + 1), w64 (w64 (w64 (w64 (w64 (r.a + 1) + 1) + 1) + 1) + 1)⟩, v1, v2⟩⟩
noncomputable def p_laws_markOpS_l0 (x0 : List TOp) : List TOp × Int → Option (Lp (List TOp × Int) (T2 Int (List TOp)))
  | (s1, k) =>
    if s1.length < x0.length then
      (get? x0 (s1.length : Int)).bind fun v4 =>
      (p_laws_markOpS_r v4 k).bind fun v5 =>
      if (s1.length : Int) + 1 < 9223372036854775808 then some (.go (s1 ++ [v5.b], v5.a)) else none
    else
      some (.out (s1, k))
noncomputable def p_laws_markOpS (x0 : List TOp) (x1 : Int) : Option (T2 Int (List TOp)) :=
  (loopP (p_laws_markOpS_l0 x0) ([], x1)).bind fun ee0 => match ee0 with
    | .ret r => some r
    | .out (o8, k) => some ⟨k, o8⟩
def c_laws_markOpS (f_laws_markIntS : Nat) (f_laws_markText : Nat) : AFn := ⟨102, (.seq (.ops [(qS 4 (.mv (ic 0)))]) (.seq (.seq (.ops [(qS 5 (.mv (ic 0)))]) (.block 0 (.loop (.seq (.seq (.ops [(qS 6 (.mv (.tmp 5))), (qS 7 (.mv (.tmp 0))), (qS 8 (.len (.tmp 7))), (qS 9 (.pu (.n (.ar .lss)) [(.tmp 6), (.tmp 8)]))]) (.cond (.tmp 9) .skip (.exit 0))) (.seq (.block 1 (.seq (.ops [(qS 12 (.mv (.tmp 0))), (qS 13 (.mv (.tmp 5))), (qS 14 (.mv (.tmp 1))), (qS 15 (.idxS 12 (.tmp 12) (.tmp 13))), (qS 16 (.fieldA 0 (.tmp 15))), ⟨.none, (.storeV [(0, false)] 1 (.tmp 16) (.tmp 14)), .none, []⟩]) (.seq (.ops [(qS 17 (.mv (.tmp 1))), (qS 18 (.pu (.n (.ar .add)) [(.tmp 17), (ic 1)])), (qS 1 (.mv (.tmp 18)))]) (.seq (.ops [(qS 19 (.mv (.tmp 0))), (qS 20 (.mv (.tmp 5))), (qS 21 (.mv (.tmp 1))), (qS 22 (.idxS 12 (.tmp 19) (.tmp 20))), (qS 23 (.fieldA 1 (.tmp 22))), ⟨.none, (.storeV [(0, false)] 1 (.tmp 23) (.tmp 21)), .none, []⟩]) (.seq (.ops [(qS 24 (.mv (.tmp 1))), (qS 25 (.pu (.n (.ar .add)) [(.tmp 24), (ic 1)])), (qS 1 (.mv (.tmp 25)))]) (.seq (.ops [(qS 26 (.mv (.tmp 0))), (qS 27 (.mv (.tmp 5))), (qS 28 (.mv (.tmp 1))), (qS 29 (.idxS 12 (.tmp 26) (.tmp 27))), (qS 30 (.fieldA 2 (.tmp 29))), ⟨.none, (.storeV [(0, false)] 1 (.tmp 30) (.tmp 28)), .none, []⟩]) (.seq (.ops [(qS 31 (.mv (.tmp 1))), (qS 32 (.pu (.n (.ar .add)) [(.tmp 31), (ic 1)])), (qS 1 (.mv (.tmp 32)))]) (.seq (.ops [(qS 33 (.mv (.tmp 0))), (qS 34 (.mv (.tmp 5))), (qS 35 (.idxS 12 (.tmp 33) (.tmp 34))), (qS 36 (.fieldA 3 (.tmp 35))), (qS 37 (.fieldA 0 (.tmp 36))), (qS 38 (.load 1 false (.tmp 37))), (qS 39 (.mv (.tmp 1))), (qS 40 (.call (2 * f_laws_markIntS + 1) [(.tmp 38), (.tmp 39)])), (qS 1 (.mv (.tmp 40)))]) (.seq (.ops [(qS 41 (.mv (.tmp 0))), (qS 42 (.mv (.tmp 5))), (qS 43 (.mv (.tmp 1))), (qS 44 (.idxS 12 (.tmp 41) (.tmp 42))), (qS 45 (.fieldA 4 (.tmp 44))), ⟨.none, (.storeV [(0, false)] 1 (.tmp 45) (.tmp 43)), .none, []⟩]) (.seq (.ops [(qS 46 (.mv (.tmp 1))), (qS 47 (.pu (.n (.ar .add)) [(.tmp 46), (ic 1)])), (qS 1 (.mv (.tmp 47)))]) (.seq (.ops [(qS 48 (.mv (.tmp 0))), (qS 49 (.mv (.tmp 5))), (qS 50 (.mv (.tmp 1))), (qS 51 (.idxS 12 (.tmp 48) (.tmp 49))), (qS 52 (.fieldA 5 (.tmp 51))), ⟨.none, (.storeV [(0, false)] 1 (.tmp 52) (.tmp 50)), .none, []⟩]) (.seq (.ops [(qS 53 (.mv (.tmp 1))), (qS 54 (.pu (.n (.ar .add)) [(.tmp 53), (ic 1)])), (qS 1 (.mv (.tmp 54)))]) (.seq (.ops [(qS 55 (.mv (.tmp 0))), (qS 56 (.mv (.tmp 5))), (qS 57 (.mv (.tmp 1))), (qS 58 (.idxS 12 (.tmp 55) (.tmp 56))), (qS 59 (.fieldA 6 (.tmp 58))), ⟨.none, (.storeV [(0, false)] 1 (.tmp 59) (.tmp 57)), .none, []⟩]) (.seq (.ops [(qS 60 (.mv (.tmp 1))), (qS 61 (.pu (.n (.ar .add)) [(.tmp 60), (ic 1)])), (qS 1 (.mv (.tmp 61)))]) (.seq (.ops [(qS 62 (.mv (.tmp 0))), (qS 63 (.mv (.tmp 5))), (qS 64 (.mv (.tmp 1))), (qS 65 (.idxS 12 (.tmp 62) (.tmp 63))), (qS 66 (.fieldA 7 (.tmp 65))), ⟨.none, (.storeV [(0, false)] 1 (.tmp 66) (.tmp 64)), .none, []⟩]) (.seq (.ops [(qS 67 (.mv (.tmp 1))), (qS 68 (.pu (.n (.ar .add)) [(.tmp 67), (ic 1)])), (qS 1 (.mv (.tmp 68)))]) (.seq (.ops [(qS 69 (.mv (.tmp 0))), (qS 70 (.mv (.tmp 5))), (qS 71 (.mv (.tmp 1))), (qS 72 (.idxS 12 (.tmp 69) (.tmp 70))), (qS 73 (.fieldA 8 (.tmp 72))), (qS 74 (.fieldA 0 (.tmp 73))), ⟨.none, (.storeV [(0, false)] 1 (.tmp 74) (.tmp 71)), .none, []⟩]) (.seq (.ops [(qS 75 (.mv (.tmp 1))), (qS 76 (.pu (.n (.ar .add)) [(.tmp 75), (ic 1)])), (qS 1 (.mv (.tmp 76)))]) (.seq (.ops [(qS 77 (.mv (.tmp 0))), (qS 78 (.mv (.tmp 5))), (qS 79 (.mv (.tmp 1))), (qS 80 (.idxS 12 (.tmp 77) (.tmp 78))), (qS 81 (.fieldA 8 (.tmp 80))), (qS 82 (.fieldA 1 (.tmp 81))), ⟨.none, (.storeV [(0, false)] 1 (.tmp 82) (.tmp 79)), .none, []⟩]) (.seq (.ops [(qS 83 (.mv (.tmp 1))), (qS 84 (.pu (.n (.ar .add)) [(.tmp 83), (ic 1)])), (qS 1 (.mv (.tmp 84)))]) (.seq (.ops [(qS 85 (.mv (.tmp 0))), (qS 86 (.mv (.tmp 5))), (qS 87 (.mv (.tmp 1))), (qS 88 (.call (2 * f_laws_markText) [(.tmp 87)])), (qS 89 (.idxS 12 (.tmp 85) (.tmp 86))), (qS 90 (.fieldA 10 (.tmp 89))), ⟨.none, (.storeV [(0, false)] 1 (.tmp 90) (.tmp 88)), .none, []⟩]) (.seq (.ops [(qS 91 (.mv (.tmp 1))), (qS 92 (.pu (.n (.ar .add)) [(.tmp 91), (ic 1)])), (qS 1 (.mv (.tmp 92)))]) (.seq (.ops [(qS 93 (.mv (.tmp 0))), (qS 94 (.mv (.tmp 5))), (qS 95 (.mv (.tmp 1))), (qS 96 (.call (2 * f_laws_markText) [(.tmp 95)])), (qS 97 (.idxS 12 (.tmp 93) (.tmp 94))), (qS 98 (.fieldA 11 (.tmp 97))), ⟨.none, (.storeV [(0, false)] 1 (.tmp 98) (.tmp 96)), .none, []⟩]) (.ops [(qS 99 (.mv (.tmp 1))), (qS 100 (.pu (.n (.ar .add)) [(.tmp 99), (ic 1)])), (qS 1 (.mv (.tmp 100)))])))))))))))))))))))))))) (.ops [(qS 10 (.mv (.tmp 5))), (qS 11 (.pu (.n (.ar .add)) [(.tmp 10), (ic 1)])), (qS 5 (.mv (.tmp 11)))])))))) (.seq (.ops [(qS 101 (.mv (.tmp 1))), (qS 4 (.mv (.tmp 101)))]) .ret))), [(.tmp 4)]⟩
def i_laws_markOpS (lo hi : Nat) (pv : V) (h : Heap) (b : T2 Int (List TOp)) (v : V) (h2 : Heap) : Prop := KeepI lo hi h h2 ∧ v = .i (.s (.int .i64 b.a)) ∧ NestV h2 lo hi pv b.b
def k_laws_markOpS (F : Fun) : Prop := ∀ (x0 : List TOp) (x1 : Int) (b : T2 Int (List TOp)), p_laws_markOpS x0 x1 = some b → ∀ (lo hi : Nat) (v : V) (h : Heap), NestV h lo hi v x0 → ∃ p, F none [v, .i (.s (.int .i64 x1))] h = some p ∧ i_laws_markOpS lo hi v h b p.1 p.2
def MkI (hh : Heap) (lo hi b : Nat) (gs : List Nat) (x0 : List TOp) (h : Heap) (s1 : List TOp) : Prop := KeepI lo hi hh h ∧ s1.length ≤ x0.length ∧ Nest h lo hi b gs (s1 ++ x0.drop s1.length)
set_option maxHeartbeats 10000000 in
theorem w_laws_markOpS {P : Program} {env : Env} {f_laws_markIntS f_laws_markText : Nat} (ep_laws_markText : env (2 * f_laws_markText) = pureFn true (FA fun a : Int => p_laws_markText a)) (e_laws_markIntS : k_laws_markIntS (env (2 * f_laws_markIntS + 1)))
    (x0 : List TOp) (x1 : Int) {b : T2 Int (List TOp)} (hp : p_laws_markOpS x0 x1 = some b) (lo hi : Nat) (pv : V) (hh : Heap) (pf0 : NestV hh lo hi pv x0) : R P env (c_laws_markOpS f_laws_markIntS f_laws_markText) [pv, .i (.s (.int .i64 x1))] hh (i_laws_markOpS lo hi pv hh b) := by
  refine R_of (by simp [c_laws_markOpS, encA]) ?_
  unfold c_laws_markOpS
  unfold p_laws_markOpS at hp
  obtain ⟨qb, qs, rfl, hN0⟩ := pf0
  obtain ⟨ee0, hee0, hp⟩ := bind_eq hp
  simp (maxSteps := 2000000) (disch := first|omega|(simp only[ls];first|done|omega)) only [ep_laws_markText, gx, eta_T4, enc_T4, dec_T4, ret_four]
  refine W_loopP 0 (fun (s1, k) t h => t 0 = .hsl qb (x0.length * 12) 0 12 true x0.length ∧ t 1 = .i (.s (.int .i64 k)) ∧ t 5 = .i (.s (.int .i64 (s1.length : Int))) ∧ MkI hh lo hi qb qs x0 h s1) (RK [.tmp 4] (i_laws_markOpS lo hi (.hsl qb (x0.length * Pic.z TOp) 0 (Pic.z TOp) true x0.length) hh)) ?_ hee0 ?_ ?_
  · rintro ⟨s1, k⟩ ee tt0 hh0 ⟨f0, f1, f2, f3⟩ hp
    rw [p_laws_markOpS_l0] at hp
    by_cases hb3 : s1.length < x0.length
    · rw [if_pos hb3] at hp
      obtain ⟨v4, hv4, hp⟩ := bind_eq hp
      obtain ⟨v5, hv5, hp⟩ := bind_eq hp
      split at hp
      case isFalse => cases hp
      rename_i hw0
      have hb4 : decide ((s1.length : Int) < (x0.length : Int)) = true := by simpa using hb3
      have hp := Option.some.inj hp
      subst hp
      unfold p_laws_markOpS_r at hv5
      obtain ⟨r, hr, hv5⟩ := bind_eq hv5
      obtain ⟨w1, hw1, hv5⟩ := bind_eq hv5
      obtain ⟨w2, hw2, hv5⟩ := bind_eq hv5
      have hv5 := Option.some.inj hv5
      subst hv5
      have g4 := get_some hv4
      rw [Int.toNat_natCast] at g4
      obtain ⟨hK, hle, hN⟩ := f3
      have hd : x0.drop s1.length = v4 :: x0.drop (s1.length + 1) := by
        rw [List.drop_eq_getElem_cons hb3]
        congr 1
        have := g4.2.2
        rw [List.getElem?_eq_getElem hb3] at this
        exact Option.some.inj this
      rw [hd] at hN
      obtain ⟨A, B, g, hA, hB, hrow, hkid, hg1, hg2, hgb, hb1, hb2, htop, hclose⟩ := nest_open hN
      have hn12 : (s1.length + ((x0.drop (s1.length + 1)).length + 1)) * Pic.z TOp = x0.length * 12 := by rw [z_TOp, List.length_drop]; congr 1; omega
      rw [hn12] at hrow hclose
      rw [z_TOp] at hA hB
      simp only [rowN, List.cons_append, List.nil_append, kid, iN, iS] at hrow hclose hkid
      have hlr := getCells_len hrow
      have hnn : (0:Int) ≤ (s1.length : Int) := by omega
      have hbl := gc_lt hrow
      have hAl : A.length + (B.length + 1 + 1 + 1 + 1 + 1 + 1 + 1 + 1 + 1 + 1 + 1 + 1) = x0.length * 12 := by rw [List.length_drop] at hB; omega
      simp (maxSteps := 2000000) (disch := first|omega|(simp only[ls];first|done|omega)) only [ep_laws_markText, hv4, hb4, hb3, hAl, hbl, f0, f1, f2, hrow, hlr, hnn, Int.toNat_natCast, take_at hA, take_at0 hA, drop_at hA, drop_at0 hA, drop_at2 hA, take_at2 hA, drop_at3 hA, gx, eta_T4, enc_T4, dec_T4, ret_four]
      refine call_f (fun h => getCells h qb (x0.length * 12) = some (A ++ V.i (I.s (Value.int IntKind.i64 k)) :: V.i (I.s (Value.int IntKind.i64 (w64 (k + 1)))) :: V.i (I.s (Value.int IntKind.i64 (w64 (w64 (k + 1) + 1)))) :: V.hsl g v4.deps.counts.length 0 1 false v4.deps.counts.length :: V.i (I.s (Value.int IntKind.i64 v4.kind)) :: V.i (I.s (Value.int IntKind.i64 v4.obj)) :: V.i (I.s (Value.int IntKind.i64 v4.n)) :: V.i (I.s (Value.int IntKind.i64 v4.undo)) :: V.i (I.s (Value.int IntKind.i64 v4.at_.time)) :: V.i (I.s (Value.int IntKind.i64 v4.at_.actor)) :: V.i (I.s (Value.string v4.key)) :: V.i (I.s (Value.string v4.text)) :: B) ∧ getCells h g v4.deps.counts.length = some (rows v4.deps.counts) ∧ Keep [qb, g] hh0 h) (fun h v h2 => i_laws_markIntS g v4.deps.counts.length h r v h2) ?_ ?_ ?_
      · exact ⟨by simp (maxSteps := 2000000) (disch := first|omega|(simp only[ls];first|done|omega)) only [hrow, hlr, hAl, hbl, gx, eta_T4, enc_T4, dec_T4, ret_four], by simp (maxSteps := 2000000) (disch := first|omega|(simp only[ls];first|done|omega)) only [hkid, hgb, gx, eta_T4, enc_T4, dec_T4, ret_four], keep_set (.inl (by simp)) (keep_set (.inl (by simp)) (keep_set (.inl (by simp)) keep_refl))⟩
      · rintro h ⟨c0, c1, c2⟩
        exact e_laws_markIntS _ _ _ hr g v4.deps.counts.length h rfl c1
      · rintro hc v hh1 ⟨c0, c1, c2⟩ hpost
        obtain ⟨kk, rfl, w⟩ := hpost
        have d0 := (keep_get kk (gc_lt c0) (by simp; omega)).trans c0
        have hbl1 := gc_lt d0
        have lr := len_rows w
        rw [show Pic.z Int = 1 from rfl, Nat.mul_one] at lr
        have hw : w64 ((s1.length : Int) + 1) = (s1.length : Int) + 1 := wrap_s (by omega) (by omega)
        have hlr1 := getCells_len d0
        simp (maxSteps := 2000000) (disch := first|omega|(simp only[ls];first|done|omega)) only [ep_laws_markText, hw1, hw2, hv4, hb4, hb3, hAl, hbl1, f0, f1, f2, d0, hlr1, hnn, hw, Int.toNat_natCast, Int.natCast_add, take_at hA, take_at0 hA, drop_at hA, drop_at0 hA, drop_at2 hA, take_at2 hA, drop_at3 hA, gx, eta_T4, enc_T4, dec_T4, ret_four]
        simp only [List.set_set]
        have hk2 := fun s => keep_set (s := s) (b := qb) (.inl (by simp)) (keep_trans c2 kk (by intro b hb; simp at hb; left; simp [hb]))
        refine ⟨⟨Nat.le_trans hK.len (hk2 _).len, fun c hc hn => ((hk2 _).at_ c (Nat.lt_of_lt_of_le hc hK.len) (by simp; omega)).trans (hK.at_ c hc hn)⟩, by simp; omega, ?_⟩
        rw [List.length_append, List.length_singleton, List.append_assoc, List.singleton_append]
        refine hclose _ _ (hk2 _).len (fun c h1 h2 h3 => (hk2 _).at_ c h1 (by simp [h2, h3])) ?_ ?_
        · rw [set_cells d0]
          · simp only [rowN, List.cons_append, List.nil_append, iN, iS, ← lr]
          · simp only [List.length_append, List.length_cons]
            omega
        · rw [getCells_congr (List.getElem?_set_ne (Ne.symm hgb))]
          simp only [kid, ← lr]
          exact w
    · rw [if_neg hb3] at hp
      have hb4 : decide ((s1.length : Int) < (x0.length : Int)) = false := by simpa using hb3
      have hp := Option.some.inj hp
      subst hp
      simp (maxSteps := 2000000) (disch := first|omega|(simp only[ls];first|done|omega)) only [hb4, f0, f1, f2, f3, gx, eta_T4, enc_T4, dec_T4, ret_four]
  · have : MkI hh lo hi qb qs x0 hh [] := ⟨keepI_refl, Nat.zero_le _, by simpa using hN0⟩
    simp (maxSteps := 2000000) (disch := first|omega|(simp only[ls];first|done|omega)) only [this, gx, eta_T4, enc_T4, dec_T4, ret_four]
  · intro x tt1 hh1 hx
    rcases ee0 with ⟨o8, k8⟩ | r
    · obtain ⟨rfl, f0, f1, f2, hK, hle, hN⟩ := hx
      dsimp only at hp
      have hp := Option.some.inj hp
      subst hp
      have hq : x0.length ≤ o8.length := loopP_outQ (Q := fun o : List TOp × Int => x0.length ≤ o.1.length) hee0 (fun s o h => by
        obtain ⟨s1, s2⟩ := s
        rw [p_laws_markOpS_l0] at h
        split at h
        · obtain ⟨_, _, h⟩ := bind_eq h
          obtain ⟨_, _, h⟩ := bind_eq h
          split at h <;> cases h
        · cases h
          dsimp only
          omega)
      have he : x0.length = o8.length := by omega
      rw [List.drop_eq_nil_of_le hq, List.append_nil] at hN
      have hd : i_laws_markOpS lo hi (.hsl qb (x0.length * 12) 0 12 true x0.length) hh ⟨k8, o8⟩ (.i (.s (.int .i64 k8))) hh1 := ⟨hK, rfl, qb, qs, by rw [he, z_TOp], hN⟩
      rw [z_TOp]
      simp (maxSteps := 2000000) (disch := first|omega|(simp only[ls];first|done|omega)) only [f0, f1, f2, hd, gx, eta_T4, enc_T4, dec_T4, ret_four]
    · obtain ⟨rfl, hx⟩ := hx
      dsimp only at hp
      cases hp
      simp only [seqK_ret, blockK_ret, retK_RK, hx, and_self, true_and]
theorem ko_laws_markOpS {P : Program} {env : Env} {f_laws_markIntS f_laws_markText : Nat} (ep_laws_markText : env (2 * f_laws_markText) = pureFn true (FA fun a : Int => p_laws_markText a)) (e_laws_markIntS : k_laws_markIntS (env (2 * f_laws_markIntS + 1))) : k_laws_markOpS (runIn P env (c_laws_markOpS f_laws_markIntS f_laws_markText)) := by
  intro x0 x1 b hp lo hi v h a0
  exact w_laws_markOpS ep_laws_markText e_laws_markIntS x0 x1 hp lo hi v h a0
end

noncomputable def p_laws_heldIntS_l0 (x0 : List Int) : Int × Int → Option (Lp (Int × Int) Int)
  | (s0, s1) =>
    if (decide (s1 < (x0.length : Int))) = true then
      (get? x0 s1).bind fun v3 =>
      if (decide (v3 = s0)) = true then
        some (.go (w64 (s0 + 1), w64 (s1 + 1)))
      else
        some (.ret (-1))
    else
      some (.out (s0, s1))
noncomputable def p_laws_heldIntS (x0 : List Int) (x1 : Int) : Option Int :=
  (loopP (p_laws_heldIntS_l0 x0) (x1, 0)).bind fun ee0 => match ee0 with
  | .ret r => some r
  | .out (o5, o6) =>
    some o5
def c_laws_heldIntS : AFn := ⟨21, (.seq (.ops [(qS 4 (.mv (ic 0)))]) (.seq (.seq (.ops [(qS 5 (.mv (ic 0)))]) (.block 0 (.loop (.seq (.seq (.ops [(qS 6 (.mv (.tmp 5))), (qS 7 (.mv (.tmp 0))), (qS 8 (.len (.tmp 7))), (qS 9 (.pu (.n (.ar .lss)) [(.tmp 6), (.tmp 8)]))]) (.cond (.tmp 9) .skip (.exit 0))) (.seq (.block 1 (.seq (.seq (.ops [(qS 12 (.mv (.tmp 0))), (qS 13 (.mv (.tmp 5))), (qS 14 (.idxS 1 (.tmp 12) (.tmp 13))), (qS 15 (.load 1 false (.tmp 14))), (qS 16 (.mv (.tmp 1))), (qS 17 (.pu (.n (.ar .neq)) [(.tmp 15), (.tmp 16)]))]) (.cond (.tmp 17) (.seq (.ops [(qS 4 (.mv (ic (-1))))]) .ret) .skip)) (.ops [(qS 18 (.mv (.tmp 1))), (qS 19 (.pu (.n (.ar .add)) [(.tmp 18), (ic 1)])), (qS 1 (.mv (.tmp 19)))]))) (.ops [(qS 10 (.mv (.tmp 5))), (qS 11 (.pu (.n (.ar .add)) [(.tmp 10), (ic 1)])), (qS 5 (.mv (.tmp 11)))])))))) (.seq (.ops [(qS 20 (.mv (.tmp 1))), (qS 4 (.mv (.tmp 20)))]) .ret))), [(.tmp 4)]⟩
set_option maxHeartbeats 10000000 in
theorem d_laws_heldIntS {P : Program} {env : Env}  (x0 : List Int) (x1 : Int) {b : Int} (hp : p_laws_heldIntS x0 x1 = some b) : R P env (c_laws_heldIntS) ((encA (x0, x1)).map ofI) [] (Tells true b) := by
  refine R_of (by simp [c_laws_heldIntS, encA]) ?_
  unfold c_laws_heldIntS
  unfold p_laws_heldIntS at hp
  obtain ⟨ee0, hee0, hp⟩ := bind_eq hp
  simp (maxSteps := 2000000) (disch := first|omega|(simp only[ls];first|done|omega)) only [gx, eta_T4, enc_T4, dec_T4, ret_four]
  refine W_loopP 0 (fun s t h => match s with | (s0, s1) => t 0 = .i (.sl 1 (x0.map enc)) ∧ t 1 = .i (.s (.int .i64 s0)) ∧ t 5 = .i (.s (.int .i64 s1))) (RK [.tmp 4] (Tells true)) ?_ hee0 ?_ ?_
  · rintro ⟨s0, s1⟩ ee tt0 hh0 ⟨ftt0_0, ftt0_1, ftt0_2⟩ hp
    rw [p_laws_heldIntS_l0] at hp
    by_cases hb2 : (decide (s1 < (x0.length : Int))) = true
    · rw [if_t hb2] at hp
      obtain ⟨v3, hv3, hp⟩ := bind_eq hp
      by_cases hb4 : (decide (v3 = s0)) = true
      · rw [if_t hb4] at hp
        have hp := Option.some.inj hp
        subst hp
        simp (maxSteps := 2000000) (disch := first|omega|(simp only[ls];first|done|omega)) only [ftt0_0, ftt0_1, ftt0_2, hb2, hv3, hb4, gx, eta_T4, enc_T4, dec_T4, ret_four] <;> omega
      · replace hb4 := eq_false_of_ne_true hb4
        rw [if_f hb4] at hp
        have hp := Option.some.inj hp
        subst hp
        simp (maxSteps := 2000000) (disch := first|omega|(simp only[ls];first|done|omega)) only [ftt0_0, ftt0_1, ftt0_2, hb2, hv3, hb4, gx, eta_T4, enc_T4, dec_T4, ret_four]
    · replace hb2 := eq_false_of_ne_true hb2
      rw [if_f hb2] at hp
      have hp := Option.some.inj hp
      subst hp
      simp (maxSteps := 2000000) (disch := first|omega|(simp only[ls];first|done|omega)) only [ftt0_0, ftt0_1, ftt0_2, hb2, gx, eta_T4, enc_T4, dec_T4, ret_four] <;> omega
  · simp (maxSteps := 2000000) (disch := first|omega|(simp only[ls];first|done|omega)) only [gx, eta_T4, enc_T4, dec_T4, ret_four] <;> omega
  · intro x tt1 hh1 hx
    rcases ee0 with ⟨o5, o6⟩ | r
    · obtain ⟨rfl, ftt1_0, ftt1_1, ftt1_2⟩ := hx
      dsimp only at hp
      have hp := Option.some.inj hp
      subst hp
      simp (maxSteps := 2000000) (disch := first|omega|(simp only[ls];first|done|omega)) only [ftt1_0, ftt1_1, ftt1_2, gx, eta_T4, enc_T4, dec_T4, ret_four]
    · obtain ⟨rfl, hx⟩ := hx
      dsimp only at hp
      cases hp
      simp only [seqK_ret, blockK_ret, retK_RK (K := Tells true), hx, and_self, true_and]

noncomputable def p_laws_heldOpS_l0 (x0 : List TOp) : Int × Int → Option (Lp (Int × Int) Int)
  | (s0, s1) =>
    if (decide (s1 < (x0.length : Int))) = true then
      (get? x0 s1).bind fun v3 =>
      if (decide (v3.actor = s0)) = true then
        if (decide (v3.seq = w64 (s0 + 1))) = true then
          if (decide (v3.time = w64 ((w64 (s0 + 1)) + 1))) = true then
            (p_laws_heldIntS v3.deps.counts (w64 ((w64 ((w64 (s0 + 1)) + 1)) + 1))).bind fun v7 =>
            if (decide (v7 < 0)) = true then
              some (.ret (-1))
            else
              if (decide (v3.kind = v7)) = true then
                if (decide (v3.obj = w64 (v7 + 1))) = true then
                  if (decide (v3.n = w64 ((w64 (v7 + 1)) + 1))) = true then
                    if (decide (v3.undo = w64 ((w64 ((w64 (v7 + 1)) + 1)) + 1))) = true then
                      if (decide (v3.at_.time = w64 ((w64 ((w64 ((w64 (v7 + 1)) + 1)) + 1)) + 1))) = true then
                        if (decide (v3.at_.actor = w64 ((w64 ((w64 ((w64 ((w64 (v7 + 1)) + 1)) + 1)) + 1)) + 1))) = true then
                          (p_laws_markText (w64 ((w64 ((w64 ((w64 ((w64 ((w64 (v7 + 1)) + 1)) + 1)) + 1)) + 1)) + 1))).bind fun v15 =>
                          if (decide (v3.key = v15)) = true then
                            (p_laws_markText (w64 ((w64 ((w64 ((w64 ((w64 ((w64 ((w64 (v7 + 1)) + 1)) + 1)) + 1)) + 1)) + 1)) + 1))).bind fun v17 =>
                            if (decide (v3.text = v17)) = true then
                              some (.go (w64 ((w64 ((w64 ((w64 ((w64 ((w64 ((w64 ((w64 (v7 + 1)) + 1)) + 1)) + 1)) + 1)) + 1)) + 1)) + 1), w64 (s1 + 1)))
                            else
                              some (.ret (-1))
                          else
                            some (.ret (-1))
                        else
                          some (.ret (-1))
                      else
                        some (.ret (-1))
                    else
                      some (.ret (-1))
                  else
                    some (.ret (-1))
                else
                  some (.ret (-1))
              else
                some (.ret (-1))
          else
            some (.ret (-1))
        else
          some (.ret (-1))
      else
        some (.ret (-1))
    else
      some (.out (s0, s1))
noncomputable def p_laws_heldOpS (x0 : List TOp) (x1 : Int) : Option Int :=
  (loopP (p_laws_heldOpS_l0 x0) (x1, 0)).bind fun ee0 => match ee0 with
  | .ret r => some r
  | .out (o19, o20) =>
    some o19
def c_laws_heldOpS (f_laws_heldIntS : Nat) (f_laws_markText : Nat) : AFn := ⟨126, (.seq (.ops [(qS 4 (.mv (ic 0)))]) (.seq (.seq (.ops [(qS 5 (.mv (ic 0)))]) (.block 0 (.loop (.seq (.seq (.ops [(qS 6 (.mv (.tmp 5))), (qS 7 (.mv (.tmp 0))), (qS 8 (.len (.tmp 7))), (qS 9 (.pu (.n (.ar .lss)) [(.tmp 6), (.tmp 8)]))]) (.cond (.tmp 9) .skip (.exit 0))) (.seq (.block 1 (.seq (.seq (.ops [(qS 12 (.mv (.tmp 0))), (qS 13 (.mv (.tmp 5))), (qS 14 (.idxS 12 (.tmp 12) (.tmp 13))), (qS 15 (.fieldA 0 (.tmp 14))), (qS 16 (.load 1 false (.tmp 15))), (qS 17 (.mv (.tmp 1))), (qS 18 (.pu (.n (.ar .neq)) [(.tmp 16), (.tmp 17)]))]) (.cond (.tmp 18) (.seq (.ops [(qS 4 (.mv (ic (-1))))]) .ret) .skip)) (.seq (.ops [(qS 19 (.mv (.tmp 1))), (qS 20 (.pu (.n (.ar .add)) [(.tmp 19), (ic 1)])), (qS 1 (.mv (.tmp 20)))]) (.seq (.seq (.ops [(qS 21 (.mv (.tmp 0))), (qS 22 (.mv (.tmp 5))), (qS 23 (.idxS 12 (.tmp 21) (.tmp 22))), (qS 24 (.fieldA 1 (.tmp 23))), (qS 25 (.load 1 false (.tmp 24))), (qS 26 (.mv (.tmp 1))), (qS 27 (.pu (.n (.ar .neq)) [(.tmp 25), (.tmp 26)]))]) (.cond (.tmp 27) (.seq (.ops [(qS 4 (.mv (ic (-1))))]) .ret) .skip)) (.seq (.ops [(qS 28 (.mv (.tmp 1))), (qS 29 (.pu (.n (.ar .add)) [(.tmp 28), (ic 1)])), (qS 1 (.mv (.tmp 29)))]) (.seq (.seq (.ops [(qS 30 (.mv (.tmp 0))), (qS 31 (.mv (.tmp 5))), (qS 32 (.idxS 12 (.tmp 30) (.tmp 31))), (qS 33 (.fieldA 2 (.tmp 32))), (qS 34 (.load 1 false (.tmp 33))), (qS 35 (.mv (.tmp 1))), (qS 36 (.pu (.n (.ar .neq)) [(.tmp 34), (.tmp 35)]))]) (.cond (.tmp 36) (.seq (.ops [(qS 4 (.mv (ic (-1))))]) .ret) .skip)) (.seq (.ops [(qS 37 (.mv (.tmp 1))), (qS 38 (.pu (.n (.ar .add)) [(.tmp 37), (ic 1)])), (qS 1 (.mv (.tmp 38)))]) (.seq (.ops [(qS 39 (.mv (.tmp 0))), (qS 40 (.mv (.tmp 5))), (qS 41 (.idxS 12 (.tmp 39) (.tmp 40))), (qS 42 (.fieldA 3 (.tmp 41))), (qS 43 (.fieldA 0 (.tmp 42))), (qS 44 (.load 1 false (.tmp 43))), (qS 45 (.mv (.tmp 1))), (qS 46 (.call (2 * f_laws_heldIntS) [(.tmp 44), (.tmp 45)])), (qS 1 (.mv (.tmp 46)))]) (.seq (.seq (.ops [(qS 47 (.mv (.tmp 1))), (qS 48 (.pu (.n (.ar .lss)) [(.tmp 47), (ic 0)]))]) (.cond (.tmp 48) (.seq (.ops [(qS 4 (.mv (ic (-1))))]) .ret) .skip)) (.seq (.seq (.ops [(qS 49 (.mv (.tmp 0))), (qS 50 (.mv (.tmp 5))), (qS 51 (.idxS 12 (.tmp 49) (.tmp 50))), (qS 52 (.fieldA 4 (.tmp 51))), (qS 53 (.load 1 false (.tmp 52))), (qS 54 (.mv (.tmp 1))), (qS 55 (.pu (.n (.ar .neq)) [(.tmp 53), (.tmp 54)]))]) (.cond (.tmp 55) (.seq (.ops [(qS 4 (.mv (ic (-1))))]) .ret) .skip)) (.seq (.ops [(qS 56 (.mv (.tmp 1))), (qS 57 (.pu (.n (.ar .add)) [(.tmp 56), (ic 1)])), (qS 1 (.mv (.tmp 57)))]) (.seq (.seq (.ops [(qS 58 (.mv (.tmp 0))), (qS 59 (.mv (.tmp 5))), (qS 60 (.idxS 12 (.tmp 58) (.tmp 59))), (qS 61 (.fieldA 5 (.tmp 60))), (qS 62 (.load 1 false (.tmp 61))), (qS 63 (.mv (.tmp 1))), (qS 64 (.pu (.n (.ar .neq)) [(.tmp 62), (.tmp 63)]))]) (.cond (.tmp 64) (.seq (.ops [(qS 4 (.mv (ic (-1))))]) .ret) .skip)) (.seq (.ops [(qS 65 (.mv (.tmp 1))), (qS 66 (.pu (.n (.ar .add)) [(.tmp 65), (ic 1)])), (qS 1 (.mv (.tmp 66)))]) (.seq (.seq (.ops [(qS 67 (.mv (.tmp 0))), (qS 68 (.mv (.tmp 5))), (qS 69 (.idxS 12 (.tmp 67) (.tmp 68))), (qS 70 (.fieldA 6 (.tmp 69))), (qS 71 (.load 1 false (.tmp 70))), (qS 72 (.mv (.tmp 1))), (qS 73 (.pu (.n (.ar .neq)) [(.tmp 71), (.tmp 72)]))]) (.cond (.tmp 73) (.seq (.ops [(qS 4 (.mv (ic (-1))))]) .ret) .skip)) (.seq (.ops [(qS 74 (.mv (.tmp 1))), (qS 75 (.pu (.n (.ar .add)) [(.tmp 74), (ic 1)])), (qS 1 (.mv (.tmp 75)))]) (.seq (.seq (.ops [(qS 76 (.mv (.tmp 0))), (qS 77 (.mv (.tmp 5))), (qS 78 (.idxS 12 (.tmp 76) (.tmp 77))), (qS 79 (.fieldA 7 (.tmp 78))), (qS 80 (.load 1 false (.tmp 79))), (qS 81 (.mv (.tmp 1))), (qS 82 (.pu (.n (.ar .neq)) [(.tmp 80), (.tmp 81)]))]) (.cond (.tmp 82) (.seq (.ops [(qS 4 (.mv (ic (-1))))]) .ret) .skip)) (.seq (.ops [(qS 83 (.mv (.tmp 1))), (qS 84 (.pu (.n (.ar .add)) [(.tmp 83), (ic 1)])), (qS 1 (.mv (.tmp 84)))]) (.seq (.seq (.ops [(qS 85 (.mv (.tmp 0))), (qS 86 (.mv (.tmp 5))), (qS 87 (.idxS 12 (.tmp 85) (.tmp 86))), (qS 88 (.fieldA 8 (.tmp 87))), (qS 89 (.fieldA 0 (.tmp 88))), (qS 90 (.load 1 false (.tmp 89))), (qS 91 (.mv (.tmp 1))), (qS 92 (.pu (.n (.ar .neq)) [(.tmp 90), (.tmp 91)]))]) (.cond (.tmp 92) (.seq (.ops [(qS 4 (.mv (ic (-1))))]) .ret) .skip)) (.seq (.ops [(qS 93 (.mv (.tmp 1))), (qS 94 (.pu (.n (.ar .add)) [(.tmp 93), (ic 1)])), (qS 1 (.mv (.tmp 94)))]) (.seq (.seq (.ops [(qS 95 (.mv (.tmp 0))), (qS 96 (.mv (.tmp 5))), (qS 97 (.idxS 12 (.tmp 95) (.tmp 96))), (qS 98 (.fieldA 8 (.tmp 97))), (qS 99 (.fieldA 1 (.tmp 98))), (qS 100 (.load 1 false (.tmp 99))), (qS 101 (.mv (.tmp 1))), (qS 102 (.pu (.n (.ar .neq)) [(.tmp 100), (.tmp 101)]))]) (.cond (.tmp 102) (.seq (.ops [(qS 4 (.mv (ic (-1))))]) .ret) .skip)) (.seq (.ops [(qS 103 (.mv (.tmp 1))), (qS 104 (.pu (.n (.ar .add)) [(.tmp 103), (ic 1)])), (qS 1 (.mv (.tmp 104)))]) (.seq (.seq (.ops [(qS 105 (.mv (.tmp 0))), (qS 106 (.mv (.tmp 5))), (qS 107 (.idxS 12 (.tmp 105) (.tmp 106))), (qS 108 (.fieldA 10 (.tmp 107))), (qS 109 (.load 1 false (.tmp 108))), (qS 110 (.mv (.tmp 1))), (qS 111 (.call (2 * f_laws_markText) [(.tmp 110)])), (qS 112 (.pu (.n (.ar .neq)) [(.tmp 109), (.tmp 111)]))]) (.cond (.tmp 112) (.seq (.ops [(qS 4 (.mv (ic (-1))))]) .ret) .skip)) (.seq (.ops [(qS 113 (.mv (.tmp 1))), (qS 114 (.pu (.n (.ar .add)) [(.tmp 113), (ic 1)])), (qS 1 (.mv (.tmp 114)))]) (.seq (.seq (.ops [(qS 115 (.mv (.tmp 0))), (qS 116 (.mv (.tmp 5))), (qS 117 (.idxS 12 (.tmp 115) (.tmp 116))), (qS 118 (.fieldA 11 (.tmp 117))), (qS 119 (.load 1 false (.tmp 118))), (qS 120 (.mv (.tmp 1))), (qS 121 (.call (2 * f_laws_markText) [(.tmp 120)])), (qS 122 (.pu (.n (.ar .neq)) [(.tmp 119), (.tmp 121)]))]) (.cond (.tmp 122) (.seq (.ops [(qS 4 (.mv (ic (-1))))]) .ret) .skip)) (.ops [(qS 123 (.mv (.tmp 1))), (qS 124 (.pu (.n (.ar .add)) [(.tmp 123), (ic 1)])), (qS 1 (.mv (.tmp 124)))]))))))))))))))))))))))))) (.ops [(qS 10 (.mv (.tmp 5))), (qS 11 (.pu (.n (.ar .add)) [(.tmp 10), (ic 1)])), (qS 5 (.mv (.tmp 11)))])))))) (.seq (.ops [(qS 125 (.mv (.tmp 1))), (qS 4 (.mv (.tmp 125)))]) .ret))), [(.tmp 4)]⟩
set_option maxHeartbeats 10000000 in
theorem d_laws_heldOpS {P : Program} {env : Env} {f_laws_heldIntS : Nat} {f_laws_markText : Nat}  (ep_laws_heldIntS : env (2 * f_laws_heldIntS) = pureFn true (FA fun a : List Int × Int => p_laws_heldIntS a.1 a.2)) (ep_laws_markText : env (2 * f_laws_markText) = pureFn true (FA fun a : Int => p_laws_markText a)) (x0 : List TOp) (x1 : Int) {b : Int} (hp : p_laws_heldOpS x0 x1 = some b) : R P env (c_laws_heldOpS f_laws_heldIntS f_laws_markText) ((encA (x0, x1)).map ofI) [] (Tells true b) := by
  refine R_of (by simp [c_laws_heldOpS, encA]) ?_
  have E := And.intro ep_laws_heldIntS ep_laws_markText
  unfold c_laws_heldOpS
  unfold p_laws_heldOpS at hp
  obtain ⟨ee0, hee0, hp⟩ := bind_eq hp
  simp (maxSteps := 2000000) (disch := first|omega|(simp only[ls];first|done|omega)) only [E, gx, eta_T4, enc_T4, dec_T4, ret_four]
  refine W_loopP 0 (fun s t h => match s with | (s0, s1) => t 0 = .i (.sl 12 (x0.map enc)) ∧ t 1 = .i (.s (.int .i64 s0)) ∧ t 5 = .i (.s (.int .i64 s1))) (RK [.tmp 4] (Tells true)) ?_ hee0 ?_ ?_
  · rintro ⟨s0, s1⟩ ee tt0 hh0 ⟨ftt0_0, ftt0_1, ftt0_2⟩ hp
    rw [p_laws_heldOpS_l0] at hp
    by_cases hb2 : (decide (s1 < (x0.length : Int))) = true
    · rw [if_t hb2] at hp
      obtain ⟨v3, hv3, hp⟩ := bind_eq hp
      by_cases hb4 : (decide (v3.actor = s0)) = true
      · rw [if_t hb4] at hp
        by_cases hb5 : (decide (v3.seq = w64 (s0 + 1))) = true
        · rw [if_t hb5] at hp
          by_cases hb6 : (decide (v3.time = w64 ((w64 (s0 + 1)) + 1))) = true
          · rw [if_t hb6] at hp
            obtain ⟨v7, hv7, hp⟩ := bind_eq hp
            by_cases hb8 : (decide (v7 < 0)) = true
            · rw [if_t hb8] at hp
              have hp := Option.some.inj hp
              subst hp
              simp (maxSteps := 2000000) (disch := first|omega|(simp only[ls];first|done|omega)) only [E, ftt0_0, ftt0_1, ftt0_2, hb2, hv3, hb4, hb5, hb6, hv7, hb8, gx, eta_T4, enc_T4, dec_T4, ret_four]
            · replace hb8 := eq_false_of_ne_true hb8
              rw [if_f hb8] at hp
              by_cases hb9 : (decide (v3.kind = v7)) = true
              · rw [if_t hb9] at hp
                by_cases hb10 : (decide (v3.obj = w64 (v7 + 1))) = true
                · rw [if_t hb10] at hp
                  by_cases hb11 : (decide (v3.n = w64 ((w64 (v7 + 1)) + 1))) = true
                  · rw [if_t hb11] at hp
                    by_cases hb12 : (decide (v3.undo = w64 ((w64 ((w64 (v7 + 1)) + 1)) + 1))) = true
                    · rw [if_t hb12] at hp
                      by_cases hb13 : (decide (v3.at_.time = w64 ((w64 ((w64 ((w64 (v7 + 1)) + 1)) + 1)) + 1))) = true
                      · rw [if_t hb13] at hp
                        by_cases hb14 : (decide (v3.at_.actor = w64 ((w64 ((w64 ((w64 ((w64 (v7 + 1)) + 1)) + 1)) + 1)) + 1))) = true
                        · rw [if_t hb14] at hp
                          obtain ⟨v15, hv15, hp⟩ := bind_eq hp
                          by_cases hb16 : (decide (v3.key = v15)) = true
                          · rw [if_t hb16] at hp
                            obtain ⟨v17, hv17, hp⟩ := bind_eq hp
                            by_cases hb18 : (decide (v3.text = v17)) = true
                            · rw [if_t hb18] at hp
                              have hp := Option.some.inj hp
                              subst hp
                              simp (maxSteps := 2000000) (disch := first|omega|(simp only[ls];first|done|omega)) only [E, ftt0_0, ftt0_1, ftt0_2, hb2, hv3, hb4, hb5, hb6, hv7, hb8, hb9, hb10, hb11, hb12, hb13, hb14, hv15, hb16, hv17, hb18, gx, eta_T4, enc_T4, dec_T4, ret_four] <;> omega
                            · replace hb18 := eq_false_of_ne_true hb18
                              rw [if_f hb18] at hp
                              have hp := Option.some.inj hp
                              subst hp
                              simp (maxSteps := 2000000) (disch := first|omega|(simp only[ls];first|done|omega)) only [E, ftt0_0, ftt0_1, ftt0_2, hb2, hv3, hb4, hb5, hb6, hv7, hb8, hb9, hb10, hb11, hb12, hb13, hb14, hv15, hb16, hv17, hb18, gx, eta_T4, enc_T4, dec_T4, ret_four]
                          · replace hb16 := eq_false_of_ne_true hb16
                            rw [if_f hb16] at hp
                            have hp := Option.some.inj hp
                            subst hp
                            simp (maxSteps := 2000000) (disch := first|omega|(simp only[ls];first|done|omega)) only [E, ftt0_0, ftt0_1, ftt0_2, hb2, hv3, hb4, hb5, hb6, hv7, hb8, hb9, hb10, hb11, hb12, hb13, hb14, hv15, hb16, gx, eta_T4, enc_T4, dec_T4, ret_four]
                        · replace hb14 := eq_false_of_ne_true hb14
                          rw [if_f hb14] at hp
                          have hp := Option.some.inj hp
                          subst hp
                          simp (maxSteps := 2000000) (disch := first|omega|(simp only[ls];first|done|omega)) only [E, ftt0_0, ftt0_1, ftt0_2, hb2, hv3, hb4, hb5, hb6, hv7, hb8, hb9, hb10, hb11, hb12, hb13, hb14, gx, eta_T4, enc_T4, dec_T4, ret_four]
                      · replace hb13 := eq_false_of_ne_true hb13
                        rw [if_f hb13] at hp
                        have hp := Option.some.inj hp
                        subst hp
                        simp (maxSteps := 2000000) (disch := first|omega|(simp only[ls];first|done|omega)) only [E, ftt0_0, ftt0_1, ftt0_2, hb2, hv3, hb4, hb5, hb6, hv7, hb8, hb9, hb10, hb11, hb12, hb13, gx, eta_T4, enc_T4, dec_T4, ret_four]
                    · replace hb12 := eq_false_of_ne_true hb12
                      rw [if_f hb12] at hp
                      have hp := Option.some.inj hp
                      subst hp
                      simp (maxSteps := 2000000) (disch := first|omega|(simp only[ls];first|done|omega)) only [E, ftt0_0, ftt0_1, ftt0_2, hb2, hv3, hb4, hb5, hb6, hv7, hb8, hb9, hb10, hb11, hb12, gx, eta_T4, enc_T4, dec_T4, ret_four]
                  · replace hb11 := eq_false_of_ne_true hb11
                    rw [if_f hb11] at hp
                    have hp := Option.some.inj hp
                    subst hp
                    simp (maxSteps := 2000000) (disch := first|omega|(simp only[ls];first|done|omega)) only [E, ftt0_0, ftt0_1, ftt0_2, hb2, hv3, hb4, hb5, hb6, hv7, hb8, hb9, hb10, hb11, gx, eta_T4, enc_T4, dec_T4, ret_four]
                · replace hb10 := eq_false_of_ne_true hb10
                  rw [if_f hb10] at hp
                  have hp := Option.some.inj hp
                  subst hp
                  simp (maxSteps := 2000000) (disch := first|omega|(simp only[ls];first|done|omega)) only [E, ftt0_0, ftt0_1, ftt0_2, hb2, hv3, hb4, hb5, hb6, hv7, hb8, hb9, hb10, gx, eta_T4, enc_T4, dec_T4, ret_four]
              · replace hb9 := eq_false_of_ne_true hb9
                rw [if_f hb9] at hp
                have hp := Option.some.inj hp
                subst hp
                simp (maxSteps := 2000000) (disch := first|omega|(simp only[ls];first|done|omega)) only [E, ftt0_0, ftt0_1, ftt0_2, hb2, hv3, hb4, hb5, hb6, hv7, hb8, hb9, gx, eta_T4, enc_T4, dec_T4, ret_four]
          · replace hb6 := eq_false_of_ne_true hb6
            rw [if_f hb6] at hp
            have hp := Option.some.inj hp
            subst hp
            simp (maxSteps := 2000000) (disch := first|omega|(simp only[ls];first|done|omega)) only [E, ftt0_0, ftt0_1, ftt0_2, hb2, hv3, hb4, hb5, hb6, gx, eta_T4, enc_T4, dec_T4, ret_four]
        · replace hb5 := eq_false_of_ne_true hb5
          rw [if_f hb5] at hp
          have hp := Option.some.inj hp
          subst hp
          simp (maxSteps := 2000000) (disch := first|omega|(simp only[ls];first|done|omega)) only [E, ftt0_0, ftt0_1, ftt0_2, hb2, hv3, hb4, hb5, gx, eta_T4, enc_T4, dec_T4, ret_four]
      · replace hb4 := eq_false_of_ne_true hb4
        rw [if_f hb4] at hp
        have hp := Option.some.inj hp
        subst hp
        simp (maxSteps := 2000000) (disch := first|omega|(simp only[ls];first|done|omega)) only [E, ftt0_0, ftt0_1, ftt0_2, hb2, hv3, hb4, gx, eta_T4, enc_T4, dec_T4, ret_four]
    · replace hb2 := eq_false_of_ne_true hb2
      rw [if_f hb2] at hp
      have hp := Option.some.inj hp
      subst hp
      simp (maxSteps := 2000000) (disch := first|omega|(simp only[ls];first|done|omega)) only [E, ftt0_0, ftt0_1, ftt0_2, hb2, gx, eta_T4, enc_T4, dec_T4, ret_four] <;> omega
  · simp (maxSteps := 2000000) (disch := first|omega|(simp only[ls];first|done|omega)) only [E, gx, eta_T4, enc_T4, dec_T4, ret_four] <;> omega
  · intro x tt1 hh1 hx
    rcases ee0 with ⟨o19, o20⟩ | r
    · obtain ⟨rfl, ftt1_0, ftt1_1, ftt1_2⟩ := hx
      dsimp only at hp
      have hp := Option.some.inj hp
      subst hp
      simp (maxSteps := 2000000) (disch := first|omega|(simp only[ls];first|done|omega)) only [E, ftt1_0, ftt1_1, ftt1_2, gx, eta_T4, enc_T4, dec_T4, ret_four]
    · obtain ⟨rfl, hx⟩ := hx
      dsimp only at hp
      cases hp
      simp only [seqK_ret, blockK_ret, retK_RK (K := Tells true), hx, and_self, true_and]

end Go.AM
