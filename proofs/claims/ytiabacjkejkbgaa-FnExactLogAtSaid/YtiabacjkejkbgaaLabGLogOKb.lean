/- Plain functions of LogOK and their walks. No condition. -/
import Derived.Test.YtiabacjkejkbgaaLabGLogOKa
set_option linter.unusedVariables false
set_option linter.unusedSimpArgs false
set_option maxRecDepth 20000
namespace Go.AM
open Pic (enc dec dec_enc dec_sub)
open PicA (encA decA decA_encA decA_sub)
section
open NestC (kid rowN)
noncomputable def p_impl_book_put (x0 : TBook) (x1 : TOp) : Option TBook :=
  (get? x0.of_ x1.actor).bind fun v0 =>
  (app? 128 v0 [x1]).bind fun v1 =>
  (p_impl_Op_thing x1).bind fun v2 =>
  (get? x0.kind x1.obj).bind fun _ =>
  (p_impl_Op_stamp x1).bind fun v4 =>
  (p_impl_StampLess x0.top v4).bind fun v5 =>
  if v5 = true then some ((((x0.setOf x1.actor.toNat v1).setKind x1.obj.toNat v2).setSize (w64 (x0.size + 1))).setTop v4)
  else some (((x0.setOf x1.actor.toNat v1).setKind x1.obj.toNat v2).setSize (w64 (x0.size + 1)))
def c_impl_book_put (f_impl_Op_thing : Nat) (f_impl_Op_stamp : Nat) (f_impl_StampLess : Nat) : AFn := ⟨47, (.seq (.ops [⟨(.some 3), (.box (.tmp 1)), .none, []⟩]) (.seq (.ops [⟨(.some 4), (.mv (.tmp 0)), .none, []⟩, ⟨(.some 5), (.fieldA 0 (.tmp 3)), .none, []⟩, ⟨(.some 6), (.load 1 false (.tmp 5)), .none, []⟩, ⟨(.some 7), (.mv (.tmp 0)), .none, []⟩, ⟨(.some 8), (.fieldA 0 (.tmp 3)), .none, []⟩, ⟨(.some 9), (.load 1 false (.tmp 8)), .none, []⟩, ⟨(.some 10), (.nilChk (.tmp 7)), .none, []⟩, ⟨(.some 11), (.fieldA 0 (.tmp 10)), .none, []⟩, ⟨(.some 12), (.idxA 16 1 (.tmp 11) (.tmp 9)), .none, []⟩, ⟨(.some 13), (.load 1 false (.tmp 12)), .none, []⟩, ⟨(.some 14), (.load 12 true (.tmp 3)), .none, []⟩, ⟨(.some 15), (.buildSl 12 true 1 [(.int .i64 0), (.int .i64 0), (.int .i64 0), (.slice .none 0 0), (.int .i64 0), (.int .i64 0), (.int .i64 0), (.int .i64 0), (.int .i64 0), (.int .i64 0), (.string ⟨#[]⟩), (.string ⟨#[]⟩)] [(0, (.tmp 14))]), .none, []⟩, ⟨(.some 16), (.append 12 true 128 (.tmp 13) (.tmp 15)), .none, [(.tmp 5)]⟩, ⟨(.some 17), (.nilChk (.tmp 4)), .none, []⟩, ⟨(.some 18), (.fieldA 0 (.tmp 17)), .none, []⟩, ⟨(.some 19), (.idxA 16 1 (.tmp 18) (.tmp 6)), .none, []⟩, ⟨.none, (.store 1 (.tmp 19) (.tmp 16)), .none, []⟩]) (.seq (.ops [⟨(.some 20), (.mv (.tmp 0)), .none, []⟩, ⟨(.some 21), (.fieldA 5 (.tmp 3)), .none, []⟩, ⟨(.some 22), (.load 1 false (.tmp 21)), .none, []⟩, ⟨(.some 23), (.load 12 true (.tmp 3)), .none, []⟩, ⟨(.some 24), (.call (2 * f_impl_Op_thing) [(.tmp 23)]), .none, []⟩, ⟨(.some 25), (.nilChk (.tmp 20)), .none, []⟩, ⟨(.some 26), (.fieldA 16 (.tmp 25)), .none, []⟩, ⟨(.some 27), (.idxA 101 1 (.tmp 26) (.tmp 22)), .none, []⟩, ⟨.none, (.store 1 (.tmp 27) (.tmp 24)), .none, []⟩]) (.seq (.ops [⟨(.some 28), (.mv (.tmp 0)), .none, []⟩, ⟨(.some 29), (.nilChk (.tmp 28)), .none, []⟩, ⟨(.some 30), (.fieldA 117 (.tmp 29)), .none, []⟩, ⟨(.some 31), (.load 1 false (.tmp 30)), .none, []⟩, ⟨(.some 32), (.pu (.n (.ar .add)) [(.tmp 31), (.const (.int .i64 1))]), .none, []⟩, ⟨(.some 33), (.nilChk (.tmp 28)), .none, []⟩, ⟨(.some 34), (.fieldA 117 (.tmp 33)), .none, []⟩, ⟨.none, (.storeV [(0, false)] 1 (.tmp 34) (.tmp 32)), .none, []⟩]) (.seq (.ops [⟨(.some 35), (.mv (.tmp 0)), .none, []⟩, ⟨(.some 36), (.nilChk (.tmp 35)), .none, []⟩, ⟨(.some 37), (.fieldA 118 (.tmp 36)), .none, []⟩, ⟨(.some 38), (.load 2 true (.tmp 37)), .none, []⟩, ⟨(.some 39), (.load 12 true (.tmp 3)), .none, []⟩, ⟨(.some 40), (.call (2 * f_impl_Op_stamp) [(.tmp 39)]), .none, []⟩, ⟨(.some 41), (.call (2 * f_impl_StampLess) [(.tmp 38), (.tmp 40)]), .none, []⟩]) (.cond (.tmp 41) (.ops [⟨(.some 42), (.mv (.tmp 0)), .none, []⟩, ⟨(.some 43), (.load 12 true (.tmp 3)), .none, []⟩, ⟨(.some 44), (.call (2 * f_impl_Op_stamp) [(.tmp 43)]), .none, []⟩, ⟨(.some 45), (.nilChk (.tmp 42)), .none, []⟩, ⟨(.some 46), (.fieldA 118 (.tmp 45)), .none, []⟩, ⟨.none, (.storeV [(0, false), (0, false)] 2 (.tmp 46) (.tmp 44)), .none, []⟩]) .skip)))))), []⟩
def i_impl_book_put (pb : Nat) (h : Heap) (b : TBook) (v : V) (h2 : Heap) : Prop := h.length ≤ h2.length ∧ v = .tup [] ∧ BookAt h2 pb b ∧ ∀ c, c < h.length → Free h c pb → h2[c]? = h[c]? ∧ Free h2 c pb
def k_impl_book_put (F : Fun) : Prop := ∀ (x0 : TBook) (x1 : TOp) (b : TBook), p_impl_book_put x0 x1 = some b → ∀ (pb : Nat) (h : Heap), BookAt h pb x0 → ∃ p, F none [.ptr pb 120 0, .agg [.i (.s (.int .i64 x1.actor)), .i (.s (.int .i64 x1.seq)), .i (.s (.int .i64 x1.time)), .i (.sl 1 (x1.deps.counts.map enc)), .i (.s (.int .i64 x1.kind)), .i (.s (.int .i64 x1.obj)), .i (.s (.int .i64 x1.n)), .i (.s (.int .i64 x1.undo)), .i (.s (.int .i64 x1.at_.time)), .i (.s (.int .i64 x1.at_.actor)), .i (.s (.string x1.key)), .i (.s (.string x1.text))]] h = some p ∧ i_impl_book_put pb h b p.1 p.2
set_option maxHeartbeats 10000000 in
theorem w_impl_book_put {P : Program} {env : Env} {f_impl_Op_thing f_impl_Op_stamp f_impl_StampLess : Nat} (ep_impl_Op_thing : env (2 * f_impl_Op_thing) = pureFn true (FA fun a : TOp => p_impl_Op_thing a)) (ep_impl_Op_stamp : env (2 * f_impl_Op_stamp) = pureFn true (FA fun a : TOp => p_impl_Op_stamp a)) (ep_impl_StampLess : env (2 * f_impl_StampLess) = pureFn true (FA fun a : TStamp × TStamp => p_impl_StampLess a.1 a.2))
    (x0 : TBook) (x1 : TOp) {b : TBook} (hp : p_impl_book_put x0 x1 = some b) (pb : Nat) (hh : Heap) (pf0 : BookAt hh pb x0) : R P env (c_impl_book_put f_impl_Op_thing f_impl_Op_stamp f_impl_StampLess) [.ptr pb 120 0, .agg [.i (.s (.int .i64 x1.actor)), .i (.s (.int .i64 x1.seq)), .i (.s (.int .i64 x1.time)), .i (.sl 1 (x1.deps.counts.map enc)), .i (.s (.int .i64 x1.kind)), .i (.s (.int .i64 x1.obj)), .i (.s (.int .i64 x1.n)), .i (.s (.int .i64 x1.undo)), .i (.s (.int .i64 x1.at_.time)), .i (.s (.int .i64 x1.at_.actor)), .i (.s (.string x1.key)), .i (.s (.string x1.text))]] hh (i_impl_book_put pb hh b) := by
  refine R_of (by simp [c_impl_book_put]) ?_
  unfold c_impl_book_put
  unfold p_impl_book_put at hp
  obtain ⟨vs, hv⟩ := pf0
  obtain ⟨v0, hv0, hp⟩ := bind_eq hp
  obtain ⟨v1, hv1, hp⟩ := bind_eq hp
  obtain ⟨v2, hv2, hp⟩ := bind_eq hp
  obtain ⟨v3, hv3, hp⟩ := bind_eq hp
  obtain ⟨v4, hv4, hp⟩ := bind_eq hp
  obtain ⟨v5, hv5, hp⟩ := bind_eq hp
  have g0 := get_some hv0
  have g3 := get_some hv3
  have ha1 : x1.actor < 16 := by have := g0.2.1; rw [x0.h1] at this; exact this
  have ho1 : x1.obj < 101 := by have := g3.2.1; rw [x0.h2] at this; exact this
  have ha0 := g0.1
  have ho0 := g3.1
  obtain ⟨u, hu⟩ : ∃ u, vs[x1.actor.toNat]? = some u := ⟨_, List.getElem?_eq_getElem (by rw [hv.len]; omega)⟩
  obtain ⟨k1, q1, l1⟩ := app_some hv1
  have hown := hv.own _ _ _ hu g0.2.2
  have hpl := gc_lt hv.row
  have hrow := hv.row
  have hl120 := getCells_len hrow
  have e1 := ld_of (R := BR x0) hu
  have e2 : ∀ u', List.take x1.actor.toNat (vs ++ BR x0) ++ u' :: List.drop (x1.actor.toNat + 1) (vs ++ BR x0) = vs.set x1.actor.toNat u' ++ BR (x0.setOf x1.actor.toNat v1) := fun u' => st_of (by rw [hv.len]; omega)
  have hvl : ∀ u', (vs.set x1.actor.toNat u').length = 16 := fun u' => by rw [List.length_set]; exact hv.len
  have e3 : ∀ u', List.take (16 + x1.obj.toNat) (vs.set x1.actor.toNat u' ++ BR (x0.setOf x1.actor.toNat v1)) ++ .i (.s (.int .i64 v2)) :: List.drop (16 + x1.obj.toNat + 1) (vs.set x1.actor.toNat u' ++ BR (x0.setOf x1.actor.toNat v1)) = vs.set x1.actor.toNat u' ++ BR ((x0.setOf x1.actor.toNat v1).setKind x1.obj.toNat v2) := fun u' => st_kind (hvl u') (by omega)
  have e4 : ∀ u', List.take 1 (List.drop 117 (vs.set x1.actor.toNat u' ++ BR ((x0.setOf x1.actor.toNat v1).setKind x1.obj.toNat v2))) = [.i (.s (.int .i64 x0.size))] := fun u' => ld_size (hvl u')
  have e5 : ∀ u', List.take 117 (vs.set x1.actor.toNat u' ++ BR ((x0.setOf x1.actor.toNat v1).setKind x1.obj.toNat v2)) ++ .i (.s (.int .i64 (w64 (x0.size + 1)))) :: List.drop 118 (vs.set x1.actor.toNat u' ++ BR ((x0.setOf x1.actor.toNat v1).setKind x1.obj.toNat v2)) = vs.set x1.actor.toNat u' ++ BR (((x0.setOf x1.actor.toNat v1).setKind x1.obj.toNat v2).setSize (w64 (x0.size + 1))) := fun u' => st_size (hvl u')
  have e6 : ∀ u', List.take 2 (List.drop 118 (vs.set x1.actor.toNat u' ++ BR (((x0.setOf x1.actor.toNat v1).setKind x1.obj.toNat v2).setSize (w64 (x0.size + 1))))) = [.i (.s (.int .i64 x0.top.time)), .i (.s (.int .i64 x0.top.actor))] := fun u' => ld_top (hvl u')
  have e7 : ∀ u', List.take 118 (vs.set x1.actor.toNat u' ++ BR (((x0.setOf x1.actor.toNat v1).setKind x1.obj.toNat v2).setSize (w64 (x0.size + 1)))) ++ .i (.s (.int .i64 v4.time)) :: .i (.s (.int .i64 v4.actor)) :: List.drop 120 (vs.set x1.actor.toNat u' ++ BR (((x0.setOf x1.actor.toNat v1).setKind x1.obj.toNat v2).setSize (w64 (x0.size + 1)))) = vs.set x1.actor.toNat u' ++ BR ((((x0.setOf x1.actor.toNat v1).setKind x1.obj.toNat v2).setSize (w64 (x0.size + 1))).setTop v4) := fun u' => st_top (hvl u')
  have hl2 : ∀ u' k, (vs.set x1.actor.toNat u' ++ BR k).length = 120 := fun u' k => by rw [List.length_append, hvl, BR_len]
  rcases hown with ⟨rfl, rfl⟩ | ⟨c, rfl, hc⟩
  · have k2 : 1 * 128 ≤ 140737488355328 := by omega
    have q2 : v1 = [x1] := q1
    cases v5 <;> (have hp := Option.some.inj hp; subst hp)
    all_goals
      simp (maxSteps := 2000000) (disch := first | omega | (simp only [ls]; first | done | omega)) only [idxA_ptr, retV_nil, at_app, at_app_set, ep_impl_Op_thing, ep_impl_Op_stamp, ep_impl_StampLess, hv2, hv4, hv5, hrow, hpl, hl120, hl2, e1, e2, e3, e4, e5, e6, e7, ha0, ha1, ho0, ho1, k2, gx, Int.reduceToNat]
      simp only [List.set_set]
      refine ⟨by simp, rfl, (fun hB : BookV _ pb _ _ => ⟨⟨_, hB⟩, fun c hc1 hf => ⟨?_, free_put hf hrow hB.row rfl ?_⟩⟩) (book_put (h := hh) (c' := hh.length + 2) hv hu g0.2.2 rfl (fun c h1 h2 h3 => by rw [List.getElem?_append_left (by simpa using h1), List.getElem?_set_ne (Ne.symm h2)]) ?_ (by rw [q2]) ?_ (.inl (by omega)))⟩
      · rw [getCells_congr (List.getElem?_append_left (by simpa using hpl))]
        exact set_cells hrow (hl2 _ _)
      · unfold getCells
        rw [q2, List.getElem?_append_right (by simp), List.length_set, Nat.add_sub_cancel_left]
        rfl
      · rw [List.getElem?_append_left (by simpa using hc1), List.getElem?_set_ne (Ne.symm hf.ne)]
      · omega
  · have hne := hv.ne _ _ _ _ _ _ _ hu
    have hcl := gc_lt hc
    have hcl2 := getCells_len hc
    have k2 : (v0.length + 1) * 128 ≤ 140737488355328 := by simp at k1; omega
    have q2 : rows v0 ++ [.i (.s (.int .i64 x1.actor)), .i (.s (.int .i64 x1.seq)), .i (.s (.int .i64 x1.time)), .i (.sl 1 (x1.deps.counts.map enc)), .i (.s (.int .i64 x1.kind)), .i (.s (.int .i64 x1.obj)), .i (.s (.int .i64 x1.n)), .i (.s (.int .i64 x1.undo)), .i (.s (.int .i64 x1.at_.time)), .i (.s (.int .i64 x1.at_.actor)), .i (.s (.string x1.key)), .i (.s (.string x1.text))] = rows v1 := by rw [q1, rows_append]; rfl
    have q3 : v1.length = v0.length + 1 := by simpa using l1
    have q4 : v0.length * 12 + 12 = v1.length * 12 := by omega
    have hfne : ∀ c2, Free hh c2 pb → c2 ≠ c := fun c2 hf e => by
      subst e
      exact hf.no _ hrow x1.actor.toNat _ _ _ _ _ (by rw [List.getElem?_append_left (by rw [hv.len]; omega)]; exact hu)
    cases v5 <;> (have hp := Option.some.inj hp; subst hp)
    all_goals
      simp (maxSteps := 2000000) (disch := first | omega | (simp only [ls]; first | done | omega)) only [idxA_ptr, retV_nil, at_app, at_app_set, ep_impl_Op_thing, ep_impl_Op_stamp, ep_impl_StampLess, hv2, hv4, hv5, hrow, hpl, hl120, hl2, e1, e2, e3, e4, e5, e6, e7, ha0, ha1, ho0, ho1, k2, hc, hcl, hcl2, hne, Ne.symm hne, q2, gx, Int.reduceToNat]
      simp only [List.set_set]
      refine ⟨by simp, rfl, (fun hB : BookV _ pb _ _ => ⟨⟨_, hB⟩, fun c2 hc1 hf => ⟨?_, free_put hf hrow hB.row rfl (hfne c2 hf)⟩⟩) (book_put (h := hh) (c' := c) hv hu g0.2.2 rfl (fun c2 h1 h2 h3 => by rw [List.getElem?_append_left (by simpa using h1), List.getElem?_set_ne (Ne.symm h2), List.getElem?_set_ne (fun e => h3 _ _ _ _ _ (by rw [e]))]) ?_ (by rw [← q4, q3]) ?_ (.inr ⟨_, _, _, _, _, rfl⟩))⟩
      · rw [getCells_congr (List.getElem?_append_left (by simpa using hpl))]
        exact set_cells ((getCells_congr (List.getElem?_set_ne hne)).trans hrow) (hl2 _ _)
      · rw [getCells_congr (List.getElem?_append_left (by simpa using hcl)), getCells_congr (List.getElem?_set_ne (Ne.symm hne))]
        exact set_cells hc (rows_len (α := TOp))
      · rw [List.getElem?_append_left (by simpa using hc1), List.getElem?_set_ne (Ne.symm hf.ne), List.getElem?_set_ne (Ne.symm (hfne c2 hf))]
theorem ko_impl_book_put {P : Program} {env : Env} {f_impl_Op_thing f_impl_Op_stamp f_impl_StampLess : Nat} (ep_impl_Op_thing : env (2 * f_impl_Op_thing) = pureFn true (FA fun a : TOp => p_impl_Op_thing a)) (ep_impl_Op_stamp : env (2 * f_impl_Op_stamp) = pureFn true (FA fun a : TOp => p_impl_Op_stamp a)) (ep_impl_StampLess : env (2 * f_impl_StampLess) = pureFn true (FA fun a : TStamp × TStamp => p_impl_StampLess a.1 a.2)) : k_impl_book_put (runIn P env (c_impl_book_put f_impl_Op_thing f_impl_Op_stamp f_impl_StampLess)) := by
  intro x0 x1 b hp pb h a0
  exact w_impl_book_put ep_impl_Op_thing ep_impl_Op_stamp ep_impl_StampLess x0 x1 hp pb h a0
end

noncomputable def p_impl_readBook_l0 (x0 : List TOp) : TBook × Int → Option (Lp (TBook × Int) (T2 (Option TBook) Bool))
  | (s1, s2) =>
    if (decide (s2 < (x0.length : Int))) = true then
      (get? x0 s2).bind fun v4 =>
      (p_impl_opOK v4).bind fun v5 =>
      if (v5) = true then
        if (decide (0 < s2)) = true then
          (get? x0 (w64 (s2 - 1))).bind fun v8 =>
          if (decide (v4.actor < v8.actor)) = true then
            some (.ret ⟨(none : Option TBook), false⟩)
          else
            (get? s1.of_ v4.actor).bind fun v10 =>
            if (decide (v4.seq = w64 ((v10.length : Int) + 1))) = true then
              (get? s1.kind v4.obj).bind fun v14 =>
              if (decide (v14 = 0)) = true then
                (p_impl_book_put s1 v4).bind fun v17 =>
                some (.go (v17, w64 (s2 + 1)))
              else
                (p_impl_Op_thing v4).bind fun v19 =>
                if (decide (v14 = v19)) = true then
                  (p_impl_book_put s1 v4).bind fun v21 =>
                  some (.go (v21, w64 (s2 + 1)))
                else
                  some (.ret ⟨(none : Option TBook), false⟩)
            else
              some (.ret ⟨(none : Option TBook), false⟩)
        else
          (get? s1.of_ v4.actor).bind fun v22 =>
          if (decide (v4.seq = w64 ((v22.length : Int) + 1))) = true then
            (get? s1.kind v4.obj).bind fun v26 =>
            if (decide (v26 = 0)) = true then
              (p_impl_book_put s1 v4).bind fun v29 =>
              some (.go (v29, w64 (s2 + 1)))
            else
              (p_impl_Op_thing v4).bind fun v31 =>
              if (decide (v26 = v31)) = true then
                (p_impl_book_put s1 v4).bind fun v33 =>
                some (.go (v33, w64 (s2 + 1)))
              else
                some (.ret ⟨(none : Option TBook), false⟩)
          else
            some (.ret ⟨(none : Option TBook), false⟩)
      else
        some (.ret ⟨(none : Option TBook), false⟩)
    else
      some (.out (s1, s2))
noncomputable def p_impl_readBook_l1 (o34 : TBook) (v38 : TOp) : Int → Option (Lp (Int) (T2 (Option TBook) Bool))
  | s39 =>
    if (decide (s39 < (v38.deps.counts.length : Int))) = true then
      (get? v38.deps.counts s39).bind fun v41 =>
      (get? o34.of_ s39).bind fun v42 =>
      if (decide ((v42.length : Int) < v41)) = true then
        some (.ret ⟨(none : Option TBook), false⟩)
      else
        if (decide (0 < v41)) = true then
          (get? v42 (w64 (v41 - 1))).bind fun v47 =>
          (p_impl_Op_stamp v47).bind fun v49 =>
          (p_impl_Op_stamp v38).bind fun v50 =>
          (p_impl_StampLess v49 v50).bind fun v51 =>
          if (v51) = true then
            some (.go (w64 (s39 + 1)))
          else
            some (.ret ⟨(none : Option TBook), false⟩)
        else
          some (.go (w64 (s39 + 1)))
    else
      some (.out s39)
noncomputable def p_impl_readBook_l2 (x0 : List TOp) (o34 : TBook) : Int → Option (Lp (Int) (T2 (Option TBook) Bool))
  | s36 =>
    if (decide (s36 < (x0.length : Int))) = true then
      (get? x0 s36).bind fun v38 =>
      (loopP (p_impl_readBook_l1 o34 v38) 0).bind fun ee1 => match ee1 with
      | .ret r => some (.ret r)
      | .out o53 =>
        some (.go (w64 (s36 + 1)))
    else
      some (.out s36)
noncomputable def p_impl_readBook (x0 : List TOp) : Option (T2 (Option TBook) Bool) :=
  if (decide (1024 < (x0.length : Int))) = true then
    some ⟨(none : Option TBook), false⟩
  else
    (loopP (p_impl_readBook_l0 x0) (book0, 0)).bind fun ee0 => match ee0 with
    | .ret r => some r
    | .out (o34, o35) =>
      (loopP (p_impl_readBook_l2 x0 o34) 0).bind fun ee2 => match ee2 with
      | .ret r => some r
      | .out o54 =>
        some ⟨(some o34), true⟩
def c_impl_readBook (f_impl_opOK : Nat) (f_impl_Op_thing : Nat) (f_impl_book_put : Nat) (f_impl_Op_stamp : Nat) (f_impl_StampLess : Nat) : AFn := ⟨127, (.seq (.ops [⟨(.some 2), (.mv (.const (.pointer .none))), .none, []⟩, ⟨(.some 3), (.mv (.const (.bool false))), .none, []⟩]) (.seq (.seq (.ops [⟨(.some 11), (.mv (.tmp 0)), .none, []⟩, ⟨(.some 12), (.len (.tmp 11)), .none, []⟩, ⟨(.some 13), (.pu (.n (.ar .gtr)) [(.tmp 12), (.const (.int .i64 1024))]), .none, []⟩]) (.cond (.tmp 13) (.seq (.ops [⟨(.some 2), (.mv (.const (.pointer .none))), .none, []⟩, ⟨(.some 3), (.mv (.const (.bool false))), .none, []⟩]) .ret) .skip)) (.seq (.ops [⟨(.some 14), (.build [(.slice .none 0 0), (.slice .none 0 0), (.slice .none 0 0), (.slice .none 0 0), (.slice .none 0 0), (.slice .none 0 0), (.slice .none 0 0), (.slice .none 0 0), (.slice .none 0 0), (.slice .none 0 0), (.slice .none 0 0), (.slice .none 0 0), (.slice .none 0 0), (.slice .none 0 0), (.slice .none 0 0), (.slice .none 0 0), (.int .i64 0), (.int .i64 0), (.int .i64 0), (.int .i64 0), (.int .i64 0), (.int .i64 0), (.int .i64 0), (.int .i64 0), (.int .i64 0), (.int .i64 0), (.int .i64 0), (.int .i64 0), (.int .i64 0), (.int .i64 0), (.int .i64 0), (.int .i64 0), (.int .i64 0), (.int .i64 0), (.int .i64 0), (.int .i64 0), (.int .i64 0), (.int .i64 0), (.int .i64 0), (.int .i64 0), (.int .i64 0), (.int .i64 0), (.int .i64 0), (.int .i64 0), (.int .i64 0), (.int .i64 0), (.int .i64 0), (.int .i64 0), (.int .i64 0), (.int .i64 0), (.int .i64 0), (.int .i64 0), (.int .i64 0), (.int .i64 0), (.int .i64 0), (.int .i64 0), (.int .i64 0), (.int .i64 0), (.int .i64 0), (.int .i64 0), (.int .i64 0), (.int .i64 0), (.int .i64 0), (.int .i64 0), (.int .i64 0), (.int .i64 0), (.int .i64 0), (.int .i64 0), (.int .i64 0), (.int .i64 0), (.int .i64 0), (.int .i64 0), (.int .i64 0), (.int .i64 0), (.int .i64 0), (.int .i64 0), (.int .i64 0), (.int .i64 0), (.int .i64 0), (.int .i64 0), (.int .i64 0), (.int .i64 0), (.int .i64 0), (.int .i64 0), (.int .i64 0), (.int .i64 0), (.int .i64 0), (.int .i64 0), (.int .i64 0), (.int .i64 0), (.int .i64 0), (.int .i64 0), (.int .i64 0), (.int .i64 0), (.int .i64 0), (.int .i64 0), (.int .i64 0), (.int .i64 0), (.int .i64 0), (.int .i64 0), (.int .i64 0), (.int .i64 0), (.int .i64 0), (.int .i64 0), (.int .i64 0), (.int .i64 0), (.int .i64 0), (.int .i64 0), (.int .i64 0), (.int .i64 0), (.int .i64 0), (.int .i64 0), (.int .i64 0), (.int .i64 0), (.int .i64 0), (.int .i64 0), (.int .i64 0), (.int .i64 0), (.int .i64 0), (.int .i64 0)] []), .none, []⟩, ⟨(.some 15), (.box (.tmp 14)), .none, []⟩, ⟨(.some 4), (.mv (.tmp 15)), .none, []⟩]) (.seq (.seq (.ops [⟨(.some 16), (.mv (.tmp 0)), .none, []⟩, ⟨(.some 17), (.len (.tmp 16)), .none, []⟩, ⟨(.some 18), (.mv (.const (.int .i64 0))), .none, []⟩]) (.block 0 (.loop (.seq (.ops [⟨(.some 19), (.pu (.n (.ar .lss)) [(.tmp 18), (.tmp 17)]), .none, []⟩]) (.seq (.cond (.tmp 19) .skip (.exit 0)) (.seq (.block 1 (.seq (.ops [⟨(.some 20), (.mv (.tmp 18)), .none, []⟩, ⟨(.some 21), (.idxS 12 (.tmp 16) (.tmp 18)), .none, []⟩, ⟨(.some 22), (.load 12 true (.tmp 21)), .none, []⟩, ⟨(.some 6), (.allocV [(0, false), (0, false), (0, false), (1, false), (0, false), (0, false), (0, false), (0, false), (0, false), (0, false), (0, false), (0, false)] [(.int .i64 0), (.int .i64 0), (.int .i64 0), (.slice .none 0 0), (.int .i64 0), (.int .i64 0), (.int .i64 0), (.int .i64 0), (.int .i64 0), (.int .i64 0), (.string ⟨#[]⟩), (.string ⟨#[]⟩)]), .none, []⟩, ⟨(.some 5), (.mv (.tmp 20)), .none, []⟩, ⟨.none, (.storeV [(0, false), (0, false), (0, false), (1, false), (0, false), (0, false), (0, false), (0, false), (0, false), (0, false), (0, false), (0, false)] 12 (.tmp 6) (.tmp 22)), .none, []⟩]) (.seq (.seq (.ops [⟨(.some 23), (.load 12 true (.tmp 6)), .none, []⟩, ⟨(.some 24), (.call (2 * f_impl_opOK) [(.tmp 23)]), .none, []⟩, ⟨(.some 25), (.pu (.n (.un .not)) [(.tmp 24)]), .none, []⟩, ⟨(.some 26), (.mv (.tmp 25)), .none, []⟩, ⟨(.some 27), (.mv (.tmp 5)), (.some (26, false)), []⟩, ⟨(.some 28), (.pu (.n (.ar .gtr)) [(.tmp 27), (.const (.int .i64 0))]), (.some (26, false)), []⟩, ⟨(.some 29), (.mv (.tmp 28)), (.some (26, false)), []⟩, ⟨(.some 30), (.mv (.tmp 0)), (.some (29, true)), []⟩, ⟨(.some 31), (.mv (.tmp 5)), (.some (29, true)), []⟩, ⟨(.some 32), (.pu (.n (.ar .sub)) [(.tmp 31), (.const (.int .i64 1))]), (.some (29, true)), []⟩, ⟨(.some 33), (.idxS 12 (.tmp 30) (.tmp 32)), (.some (29, true)), []⟩, ⟨(.some 34), (.fieldA 0 (.tmp 33)), (.some (29, true)), []⟩, ⟨(.some 35), (.load 1 false (.tmp 34)), (.some (29, true)), []⟩, ⟨(.some 36), (.fieldA 0 (.tmp 6)), (.some (29, true)), []⟩, ⟨(.some 37), (.load 1 false (.tmp 36)), (.some (29, true)), []⟩, ⟨(.some 38), (.pu (.n (.ar .gtr)) [(.tmp 35), (.tmp 37)]), (.some (29, true)), []⟩, ⟨(.some 39), (.pick (.tmp 29) (.tmp 38) (.const (.bool false))), (.some (26, false)), []⟩, ⟨(.some 40), (.pick (.tmp 26) (.const (.bool true)) (.tmp 39)), .none, []⟩, ⟨(.some 41), (.mv (.tmp 40)), .none, []⟩, ⟨(.some 42), (.fieldA 1 (.tmp 6)), (.some (41, false)), []⟩, ⟨(.some 43), (.load 1 false (.tmp 42)), (.some (41, false)), []⟩, ⟨(.some 44), (.mv (.tmp 4)), (.some (41, false)), []⟩, ⟨(.some 45), (.fieldA 0 (.tmp 6)), (.some (41, false)), []⟩, ⟨(.some 46), (.load 1 false (.tmp 45)), (.some (41, false)), []⟩, ⟨(.some 47), (.nilChk (.tmp 44)), (.some (41, false)), []⟩, ⟨(.some 48), (.fieldA 0 (.tmp 47)), (.some (41, false)), []⟩, ⟨(.some 49), (.idxA 16 1 (.tmp 48) (.tmp 46)), (.some (41, false)), []⟩, ⟨(.some 50), (.load 1 false (.tmp 49)), (.some (41, false)), []⟩, ⟨(.some 51), (.len (.tmp 50)), (.some (41, false)), []⟩, ⟨(.some 52), (.pu (.n (.ar .add)) [(.tmp 51), (.const (.int .i64 1))]), (.some (41, false)), []⟩, ⟨(.some 53), (.pu (.n (.ar .neq)) [(.tmp 43), (.tmp 52)]), (.some (41, false)), []⟩, ⟨(.some 54), (.pick (.tmp 41) (.const (.bool true)) (.tmp 53)), .none, []⟩]) (.cond (.tmp 54) (.seq (.ops [⟨(.some 2), (.mv (.const (.pointer .none))), .none, []⟩, ⟨(.some 3), (.mv (.const (.bool false))), .none, []⟩]) .ret) .skip)) (.seq (.seq (.ops [⟨(.some 55), (.mv (.tmp 4)), .none, []⟩, ⟨(.some 56), (.fieldA 5 (.tmp 6)), .none, []⟩, ⟨(.some 57), (.load 1 false (.tmp 56)), .none, []⟩, ⟨(.some 58), (.nilChk (.tmp 55)), .none, []⟩, ⟨(.some 59), (.fieldA 16 (.tmp 58)), .none, []⟩, ⟨(.some 60), (.idxA 101 1 (.tmp 59) (.tmp 57)), .none, []⟩, ⟨(.some 61), (.load 1 false (.tmp 60)), .none, []⟩, ⟨(.some 62), (.pu (.n (.ar .neq)) [(.tmp 61), (.const (.int .i64 0))]), .none, []⟩, ⟨(.some 63), (.mv (.tmp 62)), .none, []⟩, ⟨(.some 64), (.mv (.tmp 4)), (.some (63, true)), []⟩, ⟨(.some 65), (.fieldA 5 (.tmp 6)), (.some (63, true)), []⟩, ⟨(.some 66), (.load 1 false (.tmp 65)), (.some (63, true)), []⟩, ⟨(.some 67), (.nilChk (.tmp 64)), (.some (63, true)), []⟩, ⟨(.some 68), (.fieldA 16 (.tmp 67)), (.some (63, true)), []⟩, ⟨(.some 69), (.idxA 101 1 (.tmp 68) (.tmp 66)), (.some (63, true)), []⟩, ⟨(.some 70), (.load 1 false (.tmp 69)), (.some (63, true)), []⟩, ⟨(.some 71), (.load 12 true (.tmp 6)), (.some (63, true)), []⟩, ⟨(.some 72), (.call (2 * f_impl_Op_thing) [(.tmp 71)]), (.some (63, true)), []⟩, ⟨(.some 73), (.pu (.n (.ar .neq)) [(.tmp 70), (.tmp 72)]), (.some (63, true)), []⟩, ⟨(.some 74), (.pick (.tmp 63) (.tmp 73) (.const (.bool false))), .none, []⟩]) (.cond (.tmp 74) (.seq (.ops [⟨(.some 2), (.mv (.const (.pointer .none))), .none, []⟩, ⟨(.some 3), (.mv (.const (.bool false))), .none, []⟩]) .ret) .skip)) (.ops [⟨(.some 75), (.mv (.tmp 4)), .none, []⟩, ⟨(.some 76), (.load 12 true (.tmp 6)), .none, []⟩, ⟨(.some 77), (.call (2 * f_impl_book_put + 1) [(.tmp 75), (.tmp 76)]), .none, []⟩]))))) (.ops [⟨(.some 78), (.pu (.n (.ar .add)) [(.tmp 18), (.const (.int .i64 1))]), .none, []⟩, ⟨(.some 18), (.mv (.tmp 78)), .none, []⟩]))))))) (.seq (.seq (.ops [⟨(.some 79), (.mv (.tmp 0)), .none, []⟩, ⟨(.some 80), (.len (.tmp 79)), .none, []⟩, ⟨(.some 81), (.mv (.const (.int .i64 0))), .none, []⟩]) (.block 2 (.loop (.seq (.ops [⟨(.some 82), (.pu (.n (.ar .lss)) [(.tmp 81), (.tmp 80)]), .none, []⟩]) (.seq (.cond (.tmp 82) .skip (.exit 2)) (.seq (.block 3 (.seq (.ops [⟨(.some 83), (.idxS 12 (.tmp 79) (.tmp 81)), .none, []⟩, ⟨(.some 84), (.load 12 true (.tmp 83)), .none, []⟩, ⟨(.some 8), (.allocV [(0, false), (0, false), (0, false), (1, false), (0, false), (0, false), (0, false), (0, false), (0, false), (0, false), (0, false), (0, false)] [(.int .i64 0), (.int .i64 0), (.int .i64 0), (.slice .none 0 0), (.int .i64 0), (.int .i64 0), (.int .i64 0), (.int .i64 0), (.int .i64 0), (.int .i64 0), (.string ⟨#[]⟩), (.string ⟨#[]⟩)]), .none, []⟩, ⟨.none, (.storeV [(0, false), (0, false), (0, false), (1, false), (0, false), (0, false), (0, false), (0, false), (0, false), (0, false), (0, false), (0, false)] 12 (.tmp 8) (.tmp 84)), .none, []⟩]) (.seq (.ops [⟨(.some 85), (.fieldA 3 (.tmp 8)), .none, []⟩, ⟨(.some 86), (.fieldA 0 (.tmp 85)), .none, []⟩, ⟨(.some 87), (.load 1 false (.tmp 86)), .none, []⟩, ⟨(.some 88), (.len (.tmp 87)), .none, []⟩, ⟨(.some 89), (.mv (.const (.int .i64 0))), .none, []⟩]) (.block 4 (.loop (.seq (.ops [⟨(.some 90), (.pu (.n (.ar .lss)) [(.tmp 89), (.tmp 88)]), .none, []⟩]) (.seq (.cond (.tmp 90) .skip (.exit 4)) (.seq (.block 5 (.seq (.ops [⟨(.some 91), (.mv (.tmp 89)), .none, []⟩, ⟨(.some 92), (.idxS 1 (.tmp 87) (.tmp 89)), .none, []⟩, ⟨(.some 93), (.load 1 false (.tmp 92)), .none, []⟩, ⟨(.some 9), (.mv (.tmp 91)), .none, []⟩, ⟨(.some 10), (.mv (.tmp 93)), .none, []⟩]) (.seq (.ops [⟨(.some 94), (.mv (.tmp 10)), .none, []⟩, ⟨(.some 95), (.mv (.tmp 4)), .none, []⟩, ⟨(.some 96), (.mv (.tmp 9)), .none, []⟩, ⟨(.some 97), (.nilChk (.tmp 95)), .none, []⟩, ⟨(.some 98), (.fieldA 0 (.tmp 97)), .none, []⟩, ⟨(.some 99), (.idxA 16 1 (.tmp 98) (.tmp 96)), .none, []⟩, ⟨(.some 100), (.load 1 false (.tmp 99)), .none, []⟩, ⟨(.some 101), (.len (.tmp 100)), .none, []⟩, ⟨(.some 102), (.pu (.n (.ar .gtr)) [(.tmp 94), (.tmp 101)]), .none, []⟩, ⟨(.some 103), (.mv (.tmp 102)), .none, []⟩, ⟨(.some 104), (.mv (.tmp 10)), (.some (103, false)), []⟩, ⟨(.some 105), (.pu (.n (.ar .gtr)) [(.tmp 104), (.const (.int .i64 0))]), (.some (103, false)), []⟩, ⟨(.some 106), (.mv (.tmp 105)), (.some (103, false)), []⟩, ⟨(.some 107), (.mv (.tmp 4)), (.some (106, true)), []⟩, ⟨(.some 108), (.mv (.tmp 9)), (.some (106, true)), []⟩, ⟨(.some 109), (.nilChk (.tmp 107)), (.some (106, true)), []⟩, ⟨(.some 110), (.fieldA 0 (.tmp 109)), (.some (106, true)), []⟩, ⟨(.some 111), (.idxA 16 1 (.tmp 110) (.tmp 108)), (.some (106, true)), []⟩, ⟨(.some 112), (.load 1 false (.tmp 111)), (.some (106, true)), []⟩, ⟨(.some 113), (.mv (.tmp 10)), (.some (106, true)), []⟩, ⟨(.some 114), (.pu (.n (.ar .sub)) [(.tmp 113), (.const (.int .i64 1))]), (.some (106, true)), []⟩, ⟨(.some 115), (.idxS 12 (.tmp 112) (.tmp 114)), (.some (106, true)), []⟩, ⟨(.some 116), (.load 12 true (.tmp 115)), (.some (106, true)), []⟩, ⟨(.some 117), (.call (2 * f_impl_Op_stamp) [(.tmp 116)]), (.some (106, true)), []⟩, ⟨(.some 118), (.load 12 true (.tmp 8)), (.some (106, true)), []⟩, ⟨(.some 119), (.call (2 * f_impl_Op_stamp) [(.tmp 118)]), (.some (106, true)), []⟩, ⟨(.some 120), (.call (2 * f_impl_StampLess) [(.tmp 117), (.tmp 119)]), (.some (106, true)), []⟩, ⟨(.some 121), (.pu (.n (.un .not)) [(.tmp 120)]), (.some (106, true)), []⟩, ⟨(.some 122), (.pick (.tmp 106) (.tmp 121) (.const (.bool false))), (.some (103, false)), []⟩, ⟨(.some 123), (.pick (.tmp 103) (.const (.bool true)) (.tmp 122)), .none, []⟩]) (.cond (.tmp 123) (.seq (.ops [⟨(.some 2), (.mv (.const (.pointer .none))), .none, []⟩, ⟨(.some 3), (.mv (.const (.bool false))), .none, []⟩]) .ret) .skip)))) (.ops [⟨(.some 124), (.pu (.n (.ar .add)) [(.tmp 89), (.const (.int .i64 1))]), .none, []⟩, ⟨(.some 89), (.mv (.tmp 124)), .none, []⟩]))))))))) (.ops [⟨(.some 125), (.pu (.n (.ar .add)) [(.tmp 81), (.const (.int .i64 1))]), .none, []⟩, ⟨(.some 81), (.mv (.tmp 125)), .none, []⟩]))))))) (.seq (.ops [⟨(.some 126), (.mv (.tmp 4)), .none, []⟩, ⟨(.some 2), (.mv (.tmp 126)), .none, []⟩, ⟨(.some 3), (.mv (.const (.bool true))), .none, []⟩]) .ret)))))), [(.tmp 2), (.tmp 3)]⟩
set_option maxHeartbeats 10000000 in
theorem d_impl_readBook {P : Program} {env : Env} {f_impl_opOK : Nat} {f_impl_Op_thing : Nat} {f_impl_book_put : Nat} {f_impl_Op_stamp : Nat} {f_impl_StampLess : Nat}  (ep_impl_opOK : env (2 * f_impl_opOK) = pureFn true (FA fun a : TOp => p_impl_opOK a)) (ep_impl_Op_thing : env (2 * f_impl_Op_thing) = pureFn true (FA fun a : TOp => p_impl_Op_thing a)) (ep_impl_Op_stamp : env (2 * f_impl_Op_stamp) = pureFn true (FA fun a : TOp => p_impl_Op_stamp a)) (ep_impl_StampLess : env (2 * f_impl_StampLess) = pureFn true (FA fun a : TStamp × TStamp => p_impl_StampLess a.1 a.2)) (e_impl_book_put : k_impl_book_put (env (2 * f_impl_book_put + 1))) (x0 : List TOp) {b : T2 (Option TBook) Bool} (hp : p_impl_readBook x0 = some b) : R P env (c_impl_readBook f_impl_opOK f_impl_Op_thing f_impl_book_put f_impl_Op_stamp f_impl_StampLess) ((encA (x0)).map ofI) [] (Tells false b) := by
  refine R_of (by simp [c_impl_readBook, encA]) ?_
  have hO0 := @opc_virtC
  have hO1 := @opc_nilsOf
  have hO2 := @opc_virtV
  have hO3 := @opc_nilsV
  have hO4 := @opc_one
  have hO5 := @opc_splice
  have hO6 := @opc_virtVw
  have hO7 := @opc_nilsVw
  have hO8 := @opc_onew
  unfold c_impl_readBook
  unfold p_impl_readBook at hp
  try simp (maxSteps := 2000000) (disch := first | omega | (simp only [ls]; first | done | omega)) only [hO0, hO1, hO2, hO3, hO4, hO5, hO6, hO7, hO8, ep_impl_opOK, ep_impl_Op_thing, ep_impl_Op_stamp, ep_impl_StampLess, gx, Int.reduceToNat]
  by_cases hb0 : (decide (1024 < (x0.length : Int))) = true
  · rw [if_t hb0] at hp
    have hp := Option.some.inj hp
    subst hp
    simp (maxSteps := 2000000) (disch := first | omega | (simp only [ls]; first | done | omega)) only [hO0, hO1, hO2, hO3, hO4, hO5, hO6, hO7, hO8, ep_impl_opOK, ep_impl_Op_thing, ep_impl_Op_stamp, ep_impl_StampLess, hb0, gx, Int.reduceToNat]
  · replace hb0 := eq_false_of_ne_true hb0
    rw [if_f hb0] at hp
    obtain ⟨ee0, hee0, hp⟩ := bind_eq hp
    simp (maxSteps := 2000000) (disch := first | omega | (simp only [ls]; first | done | omega)) only [hO0, hO1, hO2, hO3, hO4, hO5, hO6, hO7, hO8, ep_impl_opOK, ep_impl_Op_thing, ep_impl_Op_stamp, ep_impl_StampLess, hb0, gx, Int.reduceToNat]
    refine W_loopP 0 (fun s t h => match s with | (s1, s2) => t 0 = .i (.sl 12 (x0.map enc)) ∧ t 4 = .ptr 0 120 0 ∧ t 16 = .i (.sl 12 (x0.map enc)) ∧ t 17 = .i (.s (.int .i64 (x0.length : Int))) ∧ t 18 = .i (.s (.int .i64 s2)) ∧ BookAt h 0 s1 ∧ 0 < h.length) (RK [.tmp 2, .tmp 3] (Tells false)) ?_ hee0 ?_ ?_
    · rintro ⟨s1, s2⟩ ee tt0 hh0 ⟨ftt0_0, ftt0_1, ftt0_2, ftt0_3, ftt0_4, ftt0_5, ftt0_6⟩ hp
      rw [p_impl_readBook_l0] at hp
      try simp (maxSteps := 2000000) (disch := first | omega | (simp only [ls]; first | done | omega)) only [hO0, hO1, hO2, hO3, hO4, hO5, hO6, hO7, hO8, ep_impl_opOK, ep_impl_Op_thing, ep_impl_Op_stamp, ep_impl_StampLess, hb0, ftt0_0, ftt0_1, ftt0_2, ftt0_3, ftt0_4, ftt0_5, ftt0_6, gx, Int.reduceToNat]
      by_cases hb3 : (decide (s2 < (x0.length : Int))) = true
      · rw [if_t hb3] at hp
        obtain ⟨v4, hv4, hp⟩ := bind_eq hp
        obtain ⟨v5, hv5, hp⟩ := bind_eq hp
        try simp (maxSteps := 2000000) (disch := first | omega | (simp only [ls]; first | done | omega)) only [hO0, hO1, hO2, hO3, hO4, hO5, hO6, hO7, hO8, ep_impl_opOK, ep_impl_Op_thing, ep_impl_Op_stamp, ep_impl_StampLess, hb0, ftt0_0, ftt0_1, ftt0_2, ftt0_3, ftt0_4, ftt0_5, ftt0_6, hb3, hv4, hv5, gx, Int.reduceToNat]
        by_cases hb6 : (v5) = true
        · rw [if_t hb6] at hp
          try simp (maxSteps := 2000000) (disch := first | omega | (simp only [ls]; first | done | omega)) only [hO0, hO1, hO2, hO3, hO4, hO5, hO6, hO7, hO8, ep_impl_opOK, ep_impl_Op_thing, ep_impl_Op_stamp, ep_impl_StampLess, hb0, ftt0_0, ftt0_1, ftt0_2, ftt0_3, ftt0_4, ftt0_5, ftt0_6, hb3, hv4, hv5, hb6, gx, Int.reduceToNat]
          by_cases hb7 : (decide (0 < s2)) = true
          · rw [if_t hb7] at hp
            obtain ⟨v8, hv8, hp⟩ := bind_eq hp
            try simp (maxSteps := 2000000) (disch := first | omega | (simp only [ls]; first | done | omega)) only [hO0, hO1, hO2, hO3, hO4, hO5, hO6, hO7, hO8, ep_impl_opOK, ep_impl_Op_thing, ep_impl_Op_stamp, ep_impl_StampLess, hb0, ftt0_0, ftt0_1, ftt0_2, ftt0_3, ftt0_4, ftt0_5, ftt0_6, hb3, hv4, hv5, hb6, hb7, hv8, gx, Int.reduceToNat]
            by_cases hb9 : (decide (v4.actor < v8.actor)) = true
            · rw [if_t hb9] at hp
              have hp := Option.some.inj hp
              subst hp
              simp (maxSteps := 2000000) (disch := first | omega | (simp only [ls]; first | done | omega)) only [hO0, hO1, hO2, hO3, hO4, hO5, hO6, hO7, hO8, ep_impl_opOK, ep_impl_Op_thing, ep_impl_Op_stamp, ep_impl_StampLess, hb0, ftt0_0, ftt0_1, ftt0_2, ftt0_3, ftt0_4, ftt0_5, ftt0_6, hb3, hv4, hv5, hb6, hb7, hv8, hb9, gx, Int.reduceToNat]
            · replace hb9 := eq_false_of_ne_true hb9
              rw [if_f hb9] at hp
              obtain ⟨v10, hv10, hp⟩ := bind_eq hp
              have gv10 := get_some hv10
              have bv10 : v4.actor < 16 := by have := gv10.2.1; have := (s1).h1; omega
              obtain ⟨vs11, hv11⟩ : BookAt hh0 0 s1 := by assumption
              have hr11 := hv11.row
              have hl11 := getCells_len hr11
              obtain ⟨u12, hu12⟩ : ∃ u, vs11[v4.actor.toNat]? = some u := ⟨_, List.getElem?_eq_getElem (by have := gv10.2.1; have := (s1).h1; have := hv11.len; omega)⟩
              have du12 := ld_of (R := BR s1) hu12
              have ou12 := hv11.own _ _ _ hu12 gv10.2.2
              have nu12 := ownL_lenS ou12
              try simp (maxSteps := 2000000) (disch := first | omega | (simp only [ls]; first | done | omega)) only [hO0, hO1, hO2, hO3, hO4, hO5, hO6, hO7, hO8, ep_impl_opOK, ep_impl_Op_thing, ep_impl_Op_stamp, ep_impl_StampLess, hb0, ftt0_0, ftt0_1, ftt0_2, ftt0_3, ftt0_4, ftt0_5, ftt0_6, hb3, hv4, hv5, hb6, hb7, hv8, hb9, hv10, (gv10).1, bv10, hr11, hl11, du12, nu12, gx, Int.reduceToNat]
              by_cases hb13 : (decide (v4.seq = w64 ((v10.length : Int) + 1))) = true
              · rw [if_t hb13] at hp
                obtain ⟨v14, hv14, hp⟩ := bind_eq hp
                have gv14 := get_some hv14
                have bv14 : v4.obj < 101 := by have := gv14.2.1; have := (s1).h2; omega
                have hk15 := ld_kind (vs := vs11) (k := s1) hv11.len gv14.2.2
                try simp (maxSteps := 2000000) (disch := first | omega | (simp only [ls]; first | done | omega)) only [hO0, hO1, hO2, hO3, hO4, hO5, hO6, hO7, hO8, ep_impl_opOK, ep_impl_Op_thing, ep_impl_Op_stamp, ep_impl_StampLess, hb0, ftt0_0, ftt0_1, ftt0_2, ftt0_3, ftt0_4, ftt0_5, ftt0_6, hb3, hv4, hv5, hb6, hb7, hv8, hb9, hv10, (gv10).1, bv10, hr11, hl11, du12, nu12, hb13, hv14, (gv14).1, bv14, hk15, gx, Int.reduceToNat]
                by_cases hb16 : (decide (v14 = 0)) = true
                · rw [if_t hb16] at hp
                  obtain ⟨v17, hv17, hp⟩ := bind_eq hp
                  simp (maxSteps := 2000000) (disch := first | omega | (simp only [ls]; first | done | omega)) only [hO0, hO1, hO2, hO3, hO4, hO5, hO6, hO7, hO8, ep_impl_opOK, ep_impl_Op_thing, ep_impl_Op_stamp, ep_impl_StampLess, hb0, ftt0_0, ftt0_1, ftt0_2, ftt0_3, ftt0_4, ftt0_5, ftt0_6, hb3, hv4, hv5, hb6, hb7, hv8, hb9, hv10, (gv10).1, bv10, hr11, hl11, du12, nu12, hb13, hv14, (gv14).1, bv14, hk15, hb16, gx, Int.reduceToNat]
                  refine call_f (fun h => BookAt h 0 s1 ∧ 0 < h.length ∧ getCells h hh0.length 0 = some [] ∧ hh0.length < h.length ∧ getCells h (hh0.length + 1) 12 = some [.i (.s (.int .i64 v4.actor)), .i (.s (.int .i64 v4.seq)), .i (.s (.int .i64 v4.time)), .i (.sl 1 (v4.deps.counts.map enc)), .i (.s (.int .i64 v4.kind)), .i (.s (.int .i64 v4.obj)), .i (.s (.int .i64 v4.n)), .i (.s (.int .i64 v4.undo)), .i (.s (.int .i64 v4.at_.time)), .i (.s (.int .i64 v4.at_.actor)), .i (.s (.string v4.key)), .i (.s (.string v4.text))] ∧ hh0.length + 1 < h.length ∧ Free h hh0.length 0 ∧ Free h (hh0.length + 1) 0) (fun h v h2 => i_impl_book_put 0 h v17 v h2) ?_ ?_ ?_
                  · simp (maxSteps := 2000000) (disch := first | omega | (simp only [ls]; first | done | omega)) only [hO0, hO1, hO2, hO3, hO4, hO5, hO6, hO7, hO8, ep_impl_opOK, ep_impl_Op_thing, ep_impl_Op_stamp, ep_impl_StampLess, hb0, ftt0_0, ftt0_1, ftt0_2, ftt0_3, ftt0_4, ftt0_5, ftt0_6, hb3, hv4, hv5, hb6, hb7, hv8, hb9, hv10, (gv10).1, bv10, hr11, hl11, du12, nu12, hb13, hv14, (gv14).1, bv14, hk15, hb16, hv17, gx, Int.reduceToNat] <;> (repeat (first | refine And.intro ?_ ?_ | assumption | exact book_ext (by assumption) | exact book_new rfl | exact free_ext (by assumption) (by first | omega | assumption) | exact free_new (k := book0) rfl (by first | decide | omega) | exact free_fresh (by assumption) (by first | exact Nat.le_refl _ | omega) | refine book_ext ?_ | refine free_ext ?_ (by first | omega | (simp; omega)) | omega))
                  · rintro h ⟨c1_0, c1_1, c1_2, c1_3, c1_4, c1_5, c1_6, c1_7⟩
                    exact e_impl_book_put _ _ _ hv17 _ h c1_0
                  · rintro hc1 v hh1 ⟨c1_0, c1_1, c1_2, c1_3, c1_4, c1_5, c1_6, c1_7⟩ hpost
                    obtain ⟨kk1, rfl, w1_0, wf1⟩ := hpost
                    have d1_0 : BookAt hh1 0 v17 := w1_0
                    have d1_0l := book_lt d1_0
                    have d1_1 : getCells hh1 hh0.length 0 = some [] := (free_get (wf1 _ c1_3 c1_6).1).trans c1_2
                    have d1_1l := Nat.lt_of_lt_of_le c1_3 kk1
                    have d1_2 : getCells hh1 (hh0.length + 1) 12 = some [.i (.s (.int .i64 v4.actor)), .i (.s (.int .i64 v4.seq)), .i (.s (.int .i64 v4.time)), .i (.sl 1 (v4.deps.counts.map enc)), .i (.s (.int .i64 v4.kind)), .i (.s (.int .i64 v4.obj)), .i (.s (.int .i64 v4.n)), .i (.s (.int .i64 v4.undo)), .i (.s (.int .i64 v4.at_.time)), .i (.s (.int .i64 v4.at_.actor)), .i (.s (.string v4.key)), .i (.s (.string v4.text))] := (free_get (wf1 _ c1_5 c1_7).1).trans c1_4
                    have d1_2l := Nat.lt_of_lt_of_le c1_5 kk1
                    have ff1_0 : Free hh1 hh0.length 0 := (wf1 _ c1_3 c1_6).2
                    have ff1_1 : Free hh1 (hh0.length + 1) 0 := (wf1 _ c1_5 c1_7).2
                    have hp := Option.some.inj hp
                    subst hp
                    simp (maxSteps := 2000000) (disch := first | omega | (simp only [ls]; first | done | omega)) only [hO0, hO1, hO2, hO3, hO4, hO5, hO6, hO7, hO8, ep_impl_opOK, ep_impl_Op_thing, ep_impl_Op_stamp, ep_impl_StampLess, hb0, ftt0_0, ftt0_1, ftt0_2, ftt0_3, ftt0_4, ftt0_5, ftt0_6, hb3, hv4, hv5, hb6, hb7, hv8, hb9, hv10, (gv10).1, bv10, hr11, hl11, du12, nu12, hb13, hv14, (gv14).1, bv14, hk15, hb16, hv17, d1_0, d1_1, d1_2, ff1_0, ff1_1, gx, Int.reduceToNat] <;> (repeat (first | refine And.intro ?_ ?_ | assumption | exact book_ext (by assumption) | exact book_new rfl | exact free_ext (by assumption) (by first | omega | assumption) | exact free_new (k := book0) rfl (by first | decide | omega) | exact free_fresh (by assumption) (by first | exact Nat.le_refl _ | omega) | refine book_ext ?_ | refine free_ext ?_ (by first | omega | (simp; omega)) | omega))
                · replace hb16 := eq_false_of_ne_true hb16
                  rw [if_f hb16] at hp
                  have hk18 := ld_kind (vs := vs11) (k := s1) hv11.len gv14.2.2
                  obtain ⟨v19, hv19, hp⟩ := bind_eq hp
                  try simp (maxSteps := 2000000) (disch := first | omega | (simp only [ls]; first | done | omega)) only [hO0, hO1, hO2, hO3, hO4, hO5, hO6, hO7, hO8, ep_impl_opOK, ep_impl_Op_thing, ep_impl_Op_stamp, ep_impl_StampLess, hb0, ftt0_0, ftt0_1, ftt0_2, ftt0_3, ftt0_4, ftt0_5, ftt0_6, hb3, hv4, hv5, hb6, hb7, hv8, hb9, hv10, (gv10).1, bv10, hr11, hl11, du12, nu12, hb13, hv14, (gv14).1, bv14, hk15, hb16, hk18, hv19, gx, Int.reduceToNat]
                  by_cases hb20 : (decide (v14 = v19)) = true
                  · rw [if_t hb20] at hp
                    obtain ⟨v21, hv21, hp⟩ := bind_eq hp
                    simp (maxSteps := 2000000) (disch := first | omega | (simp only [ls]; first | done | omega)) only [hO0, hO1, hO2, hO3, hO4, hO5, hO6, hO7, hO8, ep_impl_opOK, ep_impl_Op_thing, ep_impl_Op_stamp, ep_impl_StampLess, hb0, ftt0_0, ftt0_1, ftt0_2, ftt0_3, ftt0_4, ftt0_5, ftt0_6, hb3, hv4, hv5, hb6, hb7, hv8, hb9, hv10, (gv10).1, bv10, hr11, hl11, du12, nu12, hb13, hv14, (gv14).1, bv14, hk15, hb16, hk18, hv19, hb20, gx, Int.reduceToNat]
                    refine call_f (fun h => BookAt h 0 s1 ∧ 0 < h.length ∧ getCells h hh0.length 0 = some [] ∧ hh0.length < h.length ∧ getCells h (hh0.length + 1) 12 = some [.i (.s (.int .i64 v4.actor)), .i (.s (.int .i64 v4.seq)), .i (.s (.int .i64 v4.time)), .i (.sl 1 (v4.deps.counts.map enc)), .i (.s (.int .i64 v4.kind)), .i (.s (.int .i64 v4.obj)), .i (.s (.int .i64 v4.n)), .i (.s (.int .i64 v4.undo)), .i (.s (.int .i64 v4.at_.time)), .i (.s (.int .i64 v4.at_.actor)), .i (.s (.string v4.key)), .i (.s (.string v4.text))] ∧ hh0.length + 1 < h.length ∧ Free h hh0.length 0 ∧ Free h (hh0.length + 1) 0) (fun h v h2 => i_impl_book_put 0 h v21 v h2) ?_ ?_ ?_
                    · simp (maxSteps := 2000000) (disch := first | omega | (simp only [ls]; first | done | omega)) only [hO0, hO1, hO2, hO3, hO4, hO5, hO6, hO7, hO8, ep_impl_opOK, ep_impl_Op_thing, ep_impl_Op_stamp, ep_impl_StampLess, hb0, ftt0_0, ftt0_1, ftt0_2, ftt0_3, ftt0_4, ftt0_5, ftt0_6, hb3, hv4, hv5, hb6, hb7, hv8, hb9, hv10, (gv10).1, bv10, hr11, hl11, du12, nu12, hb13, hv14, (gv14).1, bv14, hk15, hb16, hk18, hv19, hb20, hv21, gx, Int.reduceToNat] <;> (repeat (first | refine And.intro ?_ ?_ | assumption | exact book_ext (by assumption) | exact book_new rfl | exact free_ext (by assumption) (by first | omega | assumption) | exact free_new (k := book0) rfl (by first | decide | omega) | exact free_fresh (by assumption) (by first | exact Nat.le_refl _ | omega) | refine book_ext ?_ | refine free_ext ?_ (by first | omega | (simp; omega)) | omega))
                    · rintro h ⟨c2_0, c2_1, c2_2, c2_3, c2_4, c2_5, c2_6, c2_7⟩
                      exact e_impl_book_put _ _ _ hv21 _ h c2_0
                    · rintro hc2 v hh2 ⟨c2_0, c2_1, c2_2, c2_3, c2_4, c2_5, c2_6, c2_7⟩ hpost
                      obtain ⟨kk2, rfl, w2_0, wf2⟩ := hpost
                      have d2_0 : BookAt hh2 0 v21 := w2_0
                      have d2_0l := book_lt d2_0
                      have d2_1 : getCells hh2 hh0.length 0 = some [] := (free_get (wf2 _ c2_3 c2_6).1).trans c2_2
                      have d2_1l := Nat.lt_of_lt_of_le c2_3 kk2
                      have d2_2 : getCells hh2 (hh0.length + 1) 12 = some [.i (.s (.int .i64 v4.actor)), .i (.s (.int .i64 v4.seq)), .i (.s (.int .i64 v4.time)), .i (.sl 1 (v4.deps.counts.map enc)), .i (.s (.int .i64 v4.kind)), .i (.s (.int .i64 v4.obj)), .i (.s (.int .i64 v4.n)), .i (.s (.int .i64 v4.undo)), .i (.s (.int .i64 v4.at_.time)), .i (.s (.int .i64 v4.at_.actor)), .i (.s (.string v4.key)), .i (.s (.string v4.text))] := (free_get (wf2 _ c2_5 c2_7).1).trans c2_4
                      have d2_2l := Nat.lt_of_lt_of_le c2_5 kk2
                      have ff2_0 : Free hh2 hh0.length 0 := (wf2 _ c2_3 c2_6).2
                      have ff2_1 : Free hh2 (hh0.length + 1) 0 := (wf2 _ c2_5 c2_7).2
                      have hp := Option.some.inj hp
                      subst hp
                      simp (maxSteps := 2000000) (disch := first | omega | (simp only [ls]; first | done | omega)) only [hO0, hO1, hO2, hO3, hO4, hO5, hO6, hO7, hO8, ep_impl_opOK, ep_impl_Op_thing, ep_impl_Op_stamp, ep_impl_StampLess, hb0, ftt0_0, ftt0_1, ftt0_2, ftt0_3, ftt0_4, ftt0_5, ftt0_6, hb3, hv4, hv5, hb6, hb7, hv8, hb9, hv10, (gv10).1, bv10, hr11, hl11, du12, nu12, hb13, hv14, (gv14).1, bv14, hk15, hb16, hk18, hv19, hb20, hv21, d2_0, d2_1, d2_2, ff2_0, ff2_1, gx, Int.reduceToNat] <;> (repeat (first | refine And.intro ?_ ?_ | assumption | exact book_ext (by assumption) | exact book_new rfl | exact free_ext (by assumption) (by first | omega | assumption) | exact free_new (k := book0) rfl (by first | decide | omega) | exact free_fresh (by assumption) (by first | exact Nat.le_refl _ | omega) | refine book_ext ?_ | refine free_ext ?_ (by first | omega | (simp; omega)) | omega))
                  · replace hb20 := eq_false_of_ne_true hb20
                    rw [if_f hb20] at hp
                    have hp := Option.some.inj hp
                    subst hp
                    simp (maxSteps := 2000000) (disch := first | omega | (simp only [ls]; first | done | omega)) only [hO0, hO1, hO2, hO3, hO4, hO5, hO6, hO7, hO8, ep_impl_opOK, ep_impl_Op_thing, ep_impl_Op_stamp, ep_impl_StampLess, hb0, ftt0_0, ftt0_1, ftt0_2, ftt0_3, ftt0_4, ftt0_5, ftt0_6, hb3, hv4, hv5, hb6, hb7, hv8, hb9, hv10, (gv10).1, bv10, hr11, hl11, du12, nu12, hb13, hv14, (gv14).1, bv14, hk15, hb16, hk18, hv19, hb20, gx, Int.reduceToNat]
              · replace hb13 := eq_false_of_ne_true hb13
                rw [if_f hb13] at hp
                have hp := Option.some.inj hp
                subst hp
                simp (maxSteps := 2000000) (disch := first | omega | (simp only [ls]; first | done | omega)) only [hO0, hO1, hO2, hO3, hO4, hO5, hO6, hO7, hO8, ep_impl_opOK, ep_impl_Op_thing, ep_impl_Op_stamp, ep_impl_StampLess, hb0, ftt0_0, ftt0_1, ftt0_2, ftt0_3, ftt0_4, ftt0_5, ftt0_6, hb3, hv4, hv5, hb6, hb7, hv8, hb9, hv10, (gv10).1, bv10, hr11, hl11, du12, nu12, hb13, gx, Int.reduceToNat]
          · replace hb7 := eq_false_of_ne_true hb7
            rw [if_f hb7] at hp
            obtain ⟨v22, hv22, hp⟩ := bind_eq hp
            have gv22 := get_some hv22
            have bv22 : v4.actor < 16 := by have := gv22.2.1; have := (s1).h1; omega
            obtain ⟨vs23, hv23⟩ : BookAt hh0 0 s1 := by assumption
            have hr23 := hv23.row
            have hl23 := getCells_len hr23
            obtain ⟨u24, hu24⟩ : ∃ u, vs23[v4.actor.toNat]? = some u := ⟨_, List.getElem?_eq_getElem (by have := gv22.2.1; have := (s1).h1; have := hv23.len; omega)⟩
            have du24 := ld_of (R := BR s1) hu24
            have ou24 := hv23.own _ _ _ hu24 gv22.2.2
            have nu24 := ownL_lenS ou24
            try simp (maxSteps := 2000000) (disch := first | omega | (simp only [ls]; first | done | omega)) only [hO0, hO1, hO2, hO3, hO4, hO5, hO6, hO7, hO8, ep_impl_opOK, ep_impl_Op_thing, ep_impl_Op_stamp, ep_impl_StampLess, hb0, ftt0_0, ftt0_1, ftt0_2, ftt0_3, ftt0_4, ftt0_5, ftt0_6, hb3, hv4, hv5, hb6, hb7, hv22, (gv22).1, bv22, hr23, hl23, du24, nu24, gx, Int.reduceToNat]
            by_cases hb25 : (decide (v4.seq = w64 ((v22.length : Int) + 1))) = true
            · rw [if_t hb25] at hp
              obtain ⟨v26, hv26, hp⟩ := bind_eq hp
              have gv26 := get_some hv26
              have bv26 : v4.obj < 101 := by have := gv26.2.1; have := (s1).h2; omega
              have hk27 := ld_kind (vs := vs23) (k := s1) hv23.len gv26.2.2
              try simp (maxSteps := 2000000) (disch := first | omega | (simp only [ls]; first | done | omega)) only [hO0, hO1, hO2, hO3, hO4, hO5, hO6, hO7, hO8, ep_impl_opOK, ep_impl_Op_thing, ep_impl_Op_stamp, ep_impl_StampLess, hb0, ftt0_0, ftt0_1, ftt0_2, ftt0_3, ftt0_4, ftt0_5, ftt0_6, hb3, hv4, hv5, hb6, hb7, hv22, (gv22).1, bv22, hr23, hl23, du24, nu24, hb25, hv26, (gv26).1, bv26, hk27, gx, Int.reduceToNat]
              by_cases hb28 : (decide (v26 = 0)) = true
              · rw [if_t hb28] at hp
                obtain ⟨v29, hv29, hp⟩ := bind_eq hp
                simp (maxSteps := 2000000) (disch := first | omega | (simp only [ls]; first | done | omega)) only [hO0, hO1, hO2, hO3, hO4, hO5, hO6, hO7, hO8, ep_impl_opOK, ep_impl_Op_thing, ep_impl_Op_stamp, ep_impl_StampLess, hb0, ftt0_0, ftt0_1, ftt0_2, ftt0_3, ftt0_4, ftt0_5, ftt0_6, hb3, hv4, hv5, hb6, hb7, hv22, (gv22).1, bv22, hr23, hl23, du24, nu24, hb25, hv26, (gv26).1, bv26, hk27, hb28, gx, Int.reduceToNat]
                refine call_f (fun h => BookAt h 0 s1 ∧ 0 < h.length ∧ getCells h hh0.length 0 = some [] ∧ hh0.length < h.length ∧ getCells h (hh0.length + 1) 12 = some [.i (.s (.int .i64 v4.actor)), .i (.s (.int .i64 v4.seq)), .i (.s (.int .i64 v4.time)), .i (.sl 1 (v4.deps.counts.map enc)), .i (.s (.int .i64 v4.kind)), .i (.s (.int .i64 v4.obj)), .i (.s (.int .i64 v4.n)), .i (.s (.int .i64 v4.undo)), .i (.s (.int .i64 v4.at_.time)), .i (.s (.int .i64 v4.at_.actor)), .i (.s (.string v4.key)), .i (.s (.string v4.text))] ∧ hh0.length + 1 < h.length ∧ Free h hh0.length 0 ∧ Free h (hh0.length + 1) 0) (fun h v h2 => i_impl_book_put 0 h v29 v h2) ?_ ?_ ?_
                · simp (maxSteps := 2000000) (disch := first | omega | (simp only [ls]; first | done | omega)) only [hO0, hO1, hO2, hO3, hO4, hO5, hO6, hO7, hO8, ep_impl_opOK, ep_impl_Op_thing, ep_impl_Op_stamp, ep_impl_StampLess, hb0, ftt0_0, ftt0_1, ftt0_2, ftt0_3, ftt0_4, ftt0_5, ftt0_6, hb3, hv4, hv5, hb6, hb7, hv22, (gv22).1, bv22, hr23, hl23, du24, nu24, hb25, hv26, (gv26).1, bv26, hk27, hb28, hv29, gx, Int.reduceToNat] <;> (repeat (first | refine And.intro ?_ ?_ | assumption | exact book_ext (by assumption) | exact book_new rfl | exact free_ext (by assumption) (by first | omega | assumption) | exact free_new (k := book0) rfl (by first | decide | omega) | exact free_fresh (by assumption) (by first | exact Nat.le_refl _ | omega) | refine book_ext ?_ | refine free_ext ?_ (by first | omega | (simp; omega)) | omega))
                · rintro h ⟨c3_0, c3_1, c3_2, c3_3, c3_4, c3_5, c3_6, c3_7⟩
                  exact e_impl_book_put _ _ _ hv29 _ h c3_0
                · rintro hc3 v hh3 ⟨c3_0, c3_1, c3_2, c3_3, c3_4, c3_5, c3_6, c3_7⟩ hpost
                  obtain ⟨kk3, rfl, w3_0, wf3⟩ := hpost
                  have d3_0 : BookAt hh3 0 v29 := w3_0
                  have d3_0l := book_lt d3_0
                  have d3_1 : getCells hh3 hh0.length 0 = some [] := (free_get (wf3 _ c3_3 c3_6).1).trans c3_2
                  have d3_1l := Nat.lt_of_lt_of_le c3_3 kk3
                  have d3_2 : getCells hh3 (hh0.length + 1) 12 = some [.i (.s (.int .i64 v4.actor)), .i (.s (.int .i64 v4.seq)), .i (.s (.int .i64 v4.time)), .i (.sl 1 (v4.deps.counts.map enc)), .i (.s (.int .i64 v4.kind)), .i (.s (.int .i64 v4.obj)), .i (.s (.int .i64 v4.n)), .i (.s (.int .i64 v4.undo)), .i (.s (.int .i64 v4.at_.time)), .i (.s (.int .i64 v4.at_.actor)), .i (.s (.string v4.key)), .i (.s (.string v4.text))] := (free_get (wf3 _ c3_5 c3_7).1).trans c3_4
                  have d3_2l := Nat.lt_of_lt_of_le c3_5 kk3
                  have ff3_0 : Free hh3 hh0.length 0 := (wf3 _ c3_3 c3_6).2
                  have ff3_1 : Free hh3 (hh0.length + 1) 0 := (wf3 _ c3_5 c3_7).2
                  have hp := Option.some.inj hp
                  subst hp
                  simp (maxSteps := 2000000) (disch := first | omega | (simp only [ls]; first | done | omega)) only [hO0, hO1, hO2, hO3, hO4, hO5, hO6, hO7, hO8, ep_impl_opOK, ep_impl_Op_thing, ep_impl_Op_stamp, ep_impl_StampLess, hb0, ftt0_0, ftt0_1, ftt0_2, ftt0_3, ftt0_4, ftt0_5, ftt0_6, hb3, hv4, hv5, hb6, hb7, hv22, (gv22).1, bv22, hr23, hl23, du24, nu24, hb25, hv26, (gv26).1, bv26, hk27, hb28, hv29, d3_0, d3_1, d3_2, ff3_0, ff3_1, gx, Int.reduceToNat] <;> (repeat (first | refine And.intro ?_ ?_ | assumption | exact book_ext (by assumption) | exact book_new rfl | exact free_ext (by assumption) (by first | omega | assumption) | exact free_new (k := book0) rfl (by first | decide | omega) | exact free_fresh (by assumption) (by first | exact Nat.le_refl _ | omega) | refine book_ext ?_ | refine free_ext ?_ (by first | omega | (simp; omega)) | omega))
              · replace hb28 := eq_false_of_ne_true hb28
                rw [if_f hb28] at hp
                have hk30 := ld_kind (vs := vs23) (k := s1) hv23.len gv26.2.2
                obtain ⟨v31, hv31, hp⟩ := bind_eq hp
                try simp (maxSteps := 2000000) (disch := first | omega | (simp only [ls]; first | done | omega)) only [hO0, hO1, hO2, hO3, hO4, hO5, hO6, hO7, hO8, ep_impl_opOK, ep_impl_Op_thing, ep_impl_Op_stamp, ep_impl_StampLess, hb0, ftt0_0, ftt0_1, ftt0_2, ftt0_3, ftt0_4, ftt0_5, ftt0_6, hb3, hv4, hv5, hb6, hb7, hv22, (gv22).1, bv22, hr23, hl23, du24, nu24, hb25, hv26, (gv26).1, bv26, hk27, hb28, hk30, hv31, gx, Int.reduceToNat]
                by_cases hb32 : (decide (v26 = v31)) = true
                · rw [if_t hb32] at hp
                  obtain ⟨v33, hv33, hp⟩ := bind_eq hp
                  simp (maxSteps := 2000000) (disch := first | omega | (simp only [ls]; first | done | omega)) only [hO0, hO1, hO2, hO3, hO4, hO5, hO6, hO7, hO8, ep_impl_opOK, ep_impl_Op_thing, ep_impl_Op_stamp, ep_impl_StampLess, hb0, ftt0_0, ftt0_1, ftt0_2, ftt0_3, ftt0_4, ftt0_5, ftt0_6, hb3, hv4, hv5, hb6, hb7, hv22, (gv22).1, bv22, hr23, hl23, du24, nu24, hb25, hv26, (gv26).1, bv26, hk27, hb28, hk30, hv31, hb32, gx, Int.reduceToNat]
                  refine call_f (fun h => BookAt h 0 s1 ∧ 0 < h.length ∧ getCells h hh0.length 0 = some [] ∧ hh0.length < h.length ∧ getCells h (hh0.length + 1) 12 = some [.i (.s (.int .i64 v4.actor)), .i (.s (.int .i64 v4.seq)), .i (.s (.int .i64 v4.time)), .i (.sl 1 (v4.deps.counts.map enc)), .i (.s (.int .i64 v4.kind)), .i (.s (.int .i64 v4.obj)), .i (.s (.int .i64 v4.n)), .i (.s (.int .i64 v4.undo)), .i (.s (.int .i64 v4.at_.time)), .i (.s (.int .i64 v4.at_.actor)), .i (.s (.string v4.key)), .i (.s (.string v4.text))] ∧ hh0.length + 1 < h.length ∧ Free h hh0.length 0 ∧ Free h (hh0.length + 1) 0) (fun h v h2 => i_impl_book_put 0 h v33 v h2) ?_ ?_ ?_
                  · simp (maxSteps := 2000000) (disch := first | omega | (simp only [ls]; first | done | omega)) only [hO0, hO1, hO2, hO3, hO4, hO5, hO6, hO7, hO8, ep_impl_opOK, ep_impl_Op_thing, ep_impl_Op_stamp, ep_impl_StampLess, hb0, ftt0_0, ftt0_1, ftt0_2, ftt0_3, ftt0_4, ftt0_5, ftt0_6, hb3, hv4, hv5, hb6, hb7, hv22, (gv22).1, bv22, hr23, hl23, du24, nu24, hb25, hv26, (gv26).1, bv26, hk27, hb28, hk30, hv31, hb32, hv33, gx, Int.reduceToNat] <;> (repeat (first | refine And.intro ?_ ?_ | assumption | exact book_ext (by assumption) | exact book_new rfl | exact free_ext (by assumption) (by first | omega | assumption) | exact free_new (k := book0) rfl (by first | decide | omega) | exact free_fresh (by assumption) (by first | exact Nat.le_refl _ | omega) | refine book_ext ?_ | refine free_ext ?_ (by first | omega | (simp; omega)) | omega))
                  · rintro h ⟨c4_0, c4_1, c4_2, c4_3, c4_4, c4_5, c4_6, c4_7⟩
                    exact e_impl_book_put _ _ _ hv33 _ h c4_0
                  · rintro hc4 v hh4 ⟨c4_0, c4_1, c4_2, c4_3, c4_4, c4_5, c4_6, c4_7⟩ hpost
                    obtain ⟨kk4, rfl, w4_0, wf4⟩ := hpost
                    have d4_0 : BookAt hh4 0 v33 := w4_0
                    have d4_0l := book_lt d4_0
                    have d4_1 : getCells hh4 hh0.length 0 = some [] := (free_get (wf4 _ c4_3 c4_6).1).trans c4_2
                    have d4_1l := Nat.lt_of_lt_of_le c4_3 kk4
                    have d4_2 : getCells hh4 (hh0.length + 1) 12 = some [.i (.s (.int .i64 v4.actor)), .i (.s (.int .i64 v4.seq)), .i (.s (.int .i64 v4.time)), .i (.sl 1 (v4.deps.counts.map enc)), .i (.s (.int .i64 v4.kind)), .i (.s (.int .i64 v4.obj)), .i (.s (.int .i64 v4.n)), .i (.s (.int .i64 v4.undo)), .i (.s (.int .i64 v4.at_.time)), .i (.s (.int .i64 v4.at_.actor)), .i (.s (.string v4.key)), .i (.s (.string v4.text))] := (free_get (wf4 _ c4_5 c4_7).1).trans c4_4
                    have d4_2l := Nat.lt_of_lt_of_le c4_5 kk4
                    have ff4_0 : Free hh4 hh0.length 0 := (wf4 _ c4_3 c4_6).2
                    have ff4_1 : Free hh4 (hh0.length + 1) 0 := (wf4 _ c4_5 c4_7).2
                    have hp := Option.some.inj hp
                    subst hp
                    simp (maxSteps := 2000000) (disch := first | omega | (simp only [ls]; first | done | omega)) only [hO0, hO1, hO2, hO3, hO4, hO5, hO6, hO7, hO8, ep_impl_opOK, ep_impl_Op_thing, ep_impl_Op_stamp, ep_impl_StampLess, hb0, ftt0_0, ftt0_1, ftt0_2, ftt0_3, ftt0_4, ftt0_5, ftt0_6, hb3, hv4, hv5, hb6, hb7, hv22, (gv22).1, bv22, hr23, hl23, du24, nu24, hb25, hv26, (gv26).1, bv26, hk27, hb28, hk30, hv31, hb32, hv33, d4_0, d4_1, d4_2, ff4_0, ff4_1, gx, Int.reduceToNat] <;> (repeat (first | refine And.intro ?_ ?_ | assumption | exact book_ext (by assumption) | exact book_new rfl | exact free_ext (by assumption) (by first | omega | assumption) | exact free_new (k := book0) rfl (by first | decide | omega) | exact free_fresh (by assumption) (by first | exact Nat.le_refl _ | omega) | refine book_ext ?_ | refine free_ext ?_ (by first | omega | (simp; omega)) | omega))
                · replace hb32 := eq_false_of_ne_true hb32
                  rw [if_f hb32] at hp
                  have hp := Option.some.inj hp
                  subst hp
                  simp (maxSteps := 2000000) (disch := first | omega | (simp only [ls]; first | done | omega)) only [hO0, hO1, hO2, hO3, hO4, hO5, hO6, hO7, hO8, ep_impl_opOK, ep_impl_Op_thing, ep_impl_Op_stamp, ep_impl_StampLess, hb0, ftt0_0, ftt0_1, ftt0_2, ftt0_3, ftt0_4, ftt0_5, ftt0_6, hb3, hv4, hv5, hb6, hb7, hv22, (gv22).1, bv22, hr23, hl23, du24, nu24, hb25, hv26, (gv26).1, bv26, hk27, hb28, hk30, hv31, hb32, gx, Int.reduceToNat]
            · replace hb25 := eq_false_of_ne_true hb25
              rw [if_f hb25] at hp
              have hp := Option.some.inj hp
              subst hp
              simp (maxSteps := 2000000) (disch := first | omega | (simp only [ls]; first | done | omega)) only [hO0, hO1, hO2, hO3, hO4, hO5, hO6, hO7, hO8, ep_impl_opOK, ep_impl_Op_thing, ep_impl_Op_stamp, ep_impl_StampLess, hb0, ftt0_0, ftt0_1, ftt0_2, ftt0_3, ftt0_4, ftt0_5, ftt0_6, hb3, hv4, hv5, hb6, hb7, hv22, (gv22).1, bv22, hr23, hl23, du24, nu24, hb25, gx, Int.reduceToNat]
        · replace hb6 := eq_false_of_ne_true hb6
          rw [if_f hb6] at hp
          have hp := Option.some.inj hp
          subst hp
          simp (maxSteps := 2000000) (disch := first | omega | (simp only [ls]; first | done | omega)) only [hO0, hO1, hO2, hO3, hO4, hO5, hO6, hO7, hO8, ep_impl_opOK, ep_impl_Op_thing, ep_impl_Op_stamp, ep_impl_StampLess, hb0, ftt0_0, ftt0_1, ftt0_2, ftt0_3, ftt0_4, ftt0_5, ftt0_6, hb3, hv4, hv5, hb6, gx, Int.reduceToNat]
      · replace hb3 := eq_false_of_ne_true hb3
        rw [if_f hb3] at hp
        have hp := Option.some.inj hp
        subst hp
        simp (maxSteps := 2000000) (disch := first | omega | (simp only [ls]; first | done | omega)) only [hO0, hO1, hO2, hO3, hO4, hO5, hO6, hO7, hO8, ep_impl_opOK, ep_impl_Op_thing, ep_impl_Op_stamp, ep_impl_StampLess, hb0, ftt0_0, ftt0_1, ftt0_2, ftt0_3, ftt0_4, ftt0_5, ftt0_6, hb3, gx, Int.reduceToNat] <;> (repeat (first | refine And.intro ?_ ?_ | assumption | exact book_ext (by assumption) | exact book_new rfl | exact free_ext (by assumption) (by first | omega | assumption) | exact free_new (k := book0) rfl (by first | decide | omega) | exact free_fresh (by assumption) (by first | exact Nat.le_refl _ | omega) | refine book_ext ?_ | refine free_ext ?_ (by first | omega | (simp; omega)) | omega))
    · simp (maxSteps := 2000000) (disch := first | omega | (simp only [ls]; first | done | omega)) only [hO0, hO1, hO2, hO3, hO4, hO5, hO6, hO7, hO8, ep_impl_opOK, ep_impl_Op_thing, ep_impl_Op_stamp, ep_impl_StampLess, hb0, gx, Int.reduceToNat] <;> (repeat (first | refine And.intro ?_ ?_ | assumption | exact book_ext (by assumption) | exact book_new rfl | exact free_ext (by assumption) (by first | omega | assumption) | exact free_new (k := book0) rfl (by first | decide | omega) | exact free_fresh (by assumption) (by first | exact Nat.le_refl _ | omega) | refine book_ext ?_ | refine free_ext ?_ (by first | omega | (simp; omega)) | omega))
    · intro x tt5 hh5 hx
      rcases ee0 with ⟨o34, o35⟩ | r
      · obtain ⟨rfl, ftt5_0, ftt5_1, ftt5_2, ftt5_3, ftt5_4, ftt5_5, ftt5_6⟩ := hx
        dsimp only at hp
        obtain ⟨ee2, hee2, hp⟩ := bind_eq hp
        simp (maxSteps := 2000000) (disch := first | omega | (simp only [ls]; first | done | omega)) only [hO0, hO1, hO2, hO3, hO4, hO5, hO6, hO7, hO8, ep_impl_opOK, ep_impl_Op_thing, ep_impl_Op_stamp, ep_impl_StampLess, hb0, ftt5_0, ftt5_1, ftt5_2, ftt5_3, ftt5_4, ftt5_5, ftt5_6, gx, Int.reduceToNat]
        refine W_loopP 2 (fun s t h => match s with | s36 => t 4 = .ptr 0 120 0 ∧ t 79 = .i (.sl 12 (x0.map enc)) ∧ t 80 = .i (.s (.int .i64 (x0.length : Int))) ∧ t 81 = .i (.s (.int .i64 s36)) ∧ BookAt h 0 o34 ∧ 0 < h.length) (RK [.tmp 2, .tmp 3] (Tells false)) ?_ hee2 ?_ ?_
        · rintro s36 ee tt6 hh6 ⟨ftt6_0, ftt6_1, ftt6_2, ftt6_3, ftt6_4, ftt6_5⟩ hp
          rw [p_impl_readBook_l2] at hp
          try simp (maxSteps := 2000000) (disch := first | omega | (simp only [ls]; first | done | omega)) only [hO0, hO1, hO2, hO3, hO4, hO5, hO6, hO7, hO8, ep_impl_opOK, ep_impl_Op_thing, ep_impl_Op_stamp, ep_impl_StampLess, hb0, ftt5_0, ftt5_1, ftt5_2, ftt5_3, ftt5_4, ftt5_5, ftt5_6, ftt6_0, ftt6_1, ftt6_2, ftt6_3, ftt6_4, ftt6_5, gx, Int.reduceToNat]
          by_cases hb37 : (decide (s36 < (x0.length : Int))) = true
          · rw [if_t hb37] at hp
            obtain ⟨v38, hv38, hp⟩ := bind_eq hp
            obtain ⟨ee1, hee1, hp⟩ := bind_eq hp
            simp (maxSteps := 2000000) (disch := first | omega | (simp only [ls]; first | done | omega)) only [hO0, hO1, hO2, hO3, hO4, hO5, hO6, hO7, hO8, ep_impl_opOK, ep_impl_Op_thing, ep_impl_Op_stamp, ep_impl_StampLess, hb0, ftt5_0, ftt5_1, ftt5_2, ftt5_3, ftt5_4, ftt5_5, ftt5_6, ftt6_0, ftt6_1, ftt6_2, ftt6_3, ftt6_4, ftt6_5, hb37, hv38, gx, Int.reduceToNat]
            refine W_loopP 4 (fun s t h => match s with | s39 => t 4 = .ptr 0 120 0 ∧ t 8 = .ptr (hh6.length + 1) 12 0 ∧ t 79 = .i (.sl 12 (x0.map enc)) ∧ t 80 = .i (.s (.int .i64 (x0.length : Int))) ∧ t 81 = .i (.s (.int .i64 s36)) ∧ t 87 = .i (.sl 1 (v38.deps.counts.map enc)) ∧ t 88 = .i (.s (.int .i64 (v38.deps.counts.length : Int))) ∧ t 89 = .i (.s (.int .i64 s39)) ∧ BookAt h 0 o34 ∧ 0 < h.length ∧ getCells h (hh6.length + 1) 12 = some [.i (.s (.int .i64 v38.actor)), .i (.s (.int .i64 v38.seq)), .i (.s (.int .i64 v38.time)), .i (.sl 1 (v38.deps.counts.map enc)), .i (.s (.int .i64 v38.kind)), .i (.s (.int .i64 v38.obj)), .i (.s (.int .i64 v38.n)), .i (.s (.int .i64 v38.undo)), .i (.s (.int .i64 v38.at_.time)), .i (.s (.int .i64 v38.at_.actor)), .i (.s (.string v38.key)), .i (.s (.string v38.text))] ∧ hh6.length + 1 < h.length ∧ Free h (hh6.length + 1) 0) (RK [.tmp 2, .tmp 3] (Tells false)) ?_ hee1 ?_ ?_
            · rintro s39 ee tt7 hh7 ⟨ftt7_0, ftt7_1, ftt7_2, ftt7_3, ftt7_4, ftt7_5, ftt7_6, ftt7_7, ftt7_8, ftt7_9, ftt7_10, ftt7_11, ftt7_12⟩ hp
              rw [p_impl_readBook_l1] at hp
              try simp (maxSteps := 2000000) (disch := first | omega | (simp only [ls]; first | done | omega)) only [hO0, hO1, hO2, hO3, hO4, hO5, hO6, hO7, hO8, ep_impl_opOK, ep_impl_Op_thing, ep_impl_Op_stamp, ep_impl_StampLess, hb0, ftt5_0, ftt5_1, ftt5_2, ftt5_3, ftt5_4, ftt5_5, ftt5_6, ftt6_0, ftt6_1, ftt6_2, ftt6_3, ftt6_4, ftt6_5, hb37, hv38, ftt7_0, ftt7_1, ftt7_2, ftt7_3, ftt7_4, ftt7_5, ftt7_6, ftt7_7, ftt7_8, ftt7_9, ftt7_10, ftt7_11, ftt7_12, gx, Int.reduceToNat]
              by_cases hb40 : (decide (s39 < (v38.deps.counts.length : Int))) = true
              · rw [if_t hb40] at hp
                obtain ⟨v41, hv41, hp⟩ := bind_eq hp
                obtain ⟨v42, hv42, hp⟩ := bind_eq hp
                have gv42 := get_some hv42
                have bv42 : s39 < 16 := by have := gv42.2.1; have := (o34).h1; omega
                obtain ⟨vs43, hv43⟩ : BookAt hh7 0 o34 := by assumption
                have hr43 := hv43.row
                have hl43 := getCells_len hr43
                obtain ⟨u44, hu44⟩ : ∃ u, vs43[s39.toNat]? = some u := ⟨_, List.getElem?_eq_getElem (by have := gv42.2.1; have := (o34).h1; have := hv43.len; omega)⟩
                have du44 := ld_of (R := BR o34) hu44
                have ou44 := hv43.own _ _ _ hu44 gv42.2.2
                have nu44 := ownL_lenS ou44
                try simp (maxSteps := 2000000) (disch := first | omega | (simp only [ls]; first | done | omega)) only [hO0, hO1, hO2, hO3, hO4, hO5, hO6, hO7, hO8, ep_impl_opOK, ep_impl_Op_thing, ep_impl_Op_stamp, ep_impl_StampLess, hb0, ftt5_0, ftt5_1, ftt5_2, ftt5_3, ftt5_4, ftt5_5, ftt5_6, ftt6_0, ftt6_1, ftt6_2, ftt6_3, ftt6_4, ftt6_5, hb37, hv38, ftt7_0, ftt7_1, ftt7_2, ftt7_3, ftt7_4, ftt7_5, ftt7_6, ftt7_7, ftt7_8, ftt7_9, ftt7_10, ftt7_11, ftt7_12, hb40, hv41, hv42, (gv42).1, bv42, hr43, hl43, du44, nu44, gx, Int.reduceToNat]
                by_cases hb45 : (decide ((v42.length : Int) < v41)) = true
                · rw [if_t hb45] at hp
                  have hp := Option.some.inj hp
                  subst hp
                  simp (maxSteps := 2000000) (disch := first | omega | (simp only [ls]; first | done | omega)) only [hO0, hO1, hO2, hO3, hO4, hO5, hO6, hO7, hO8, ep_impl_opOK, ep_impl_Op_thing, ep_impl_Op_stamp, ep_impl_StampLess, hb0, ftt5_0, ftt5_1, ftt5_2, ftt5_3, ftt5_4, ftt5_5, ftt5_6, ftt6_0, ftt6_1, ftt6_2, ftt6_3, ftt6_4, ftt6_5, hb37, hv38, ftt7_0, ftt7_1, ftt7_2, ftt7_3, ftt7_4, ftt7_5, ftt7_6, ftt7_7, ftt7_8, ftt7_9, ftt7_10, ftt7_11, ftt7_12, hb40, hv41, hv42, (gv42).1, bv42, hr43, hl43, du44, nu44, hb45, gx, Int.reduceToNat]
                · replace hb45 := eq_false_of_ne_true hb45
                  rw [if_f hb45] at hp
                  try simp (maxSteps := 2000000) (disch := first | omega | (simp only [ls]; first | done | omega)) only [hO0, hO1, hO2, hO3, hO4, hO5, hO6, hO7, hO8, ep_impl_opOK, ep_impl_Op_thing, ep_impl_Op_stamp, ep_impl_StampLess, hb0, ftt5_0, ftt5_1, ftt5_2, ftt5_3, ftt5_4, ftt5_5, ftt5_6, ftt6_0, ftt6_1, ftt6_2, ftt6_3, ftt6_4, ftt6_5, hb37, hv38, ftt7_0, ftt7_1, ftt7_2, ftt7_3, ftt7_4, ftt7_5, ftt7_6, ftt7_7, ftt7_8, ftt7_9, ftt7_10, ftt7_11, ftt7_12, hb40, hv41, hv42, (gv42).1, bv42, hr43, hl43, du44, nu44, hb45, gx, Int.reduceToNat]
                  by_cases hb46 : (decide (0 < v41)) = true
                  · rw [if_t hb46] at hp
                    obtain ⟨v47, hv47, hp⟩ := bind_eq hp
                    have gv47 := get_some hv47
                    obtain ⟨cw44, evcw44, hccw44⟩ := ownL_idx ou44 hv47
                    have hl48 : List.take 12 (List.drop (((w64 (v41 - 1)).toNat) * 12) (rows v42)) = [.i (.s (.int .i64 v47.actor)), .i (.s (.int .i64 v47.seq)), .i (.s (.int .i64 v47.time)), .i (.sl 1 (v47.deps.counts.map enc)), .i (.s (.int .i64 v47.kind)), .i (.s (.int .i64 v47.obj)), .i (.s (.int .i64 v47.n)), .i (.s (.int .i64 v47.undo)), .i (.s (.int .i64 v47.at_.time)), .i (.s (.int .i64 v47.at_.actor)), .i (.s (.string v47.key)), .i (.s (.string v47.text))] := by simpa [zs, cellsV, I.cells, enc_TOp, enc_list] using rows_get_off (k := 0) (m := 12) gv47.2.2 (Nat.le_of_ble_eq_true rfl)
                    obtain ⟨v49, hv49, hp⟩ := bind_eq hp
                    obtain ⟨v50, hv50, hp⟩ := bind_eq hp
                    obtain ⟨v51, hv51, hp⟩ := bind_eq hp
                    try simp (maxSteps := 2000000) (disch := first | omega | (simp only [ls]; first | done | omega)) only [hO0, hO1, hO2, hO3, hO4, hO5, hO6, hO7, hO8, ep_impl_opOK, ep_impl_Op_thing, ep_impl_Op_stamp, ep_impl_StampLess, hb0, ftt5_0, ftt5_1, ftt5_2, ftt5_3, ftt5_4, ftt5_5, ftt5_6, ftt6_0, ftt6_1, ftt6_2, ftt6_3, ftt6_4, ftt6_5, hb37, hv38, ftt7_0, ftt7_1, ftt7_2, ftt7_3, ftt7_4, ftt7_5, ftt7_6, ftt7_7, ftt7_8, ftt7_9, ftt7_10, ftt7_11, ftt7_12, hb40, hv41, hv42, (gv42).1, bv42, hr43, hl43, du44, nu44, hb45, hb46, hv47, (gv47).1, (gv47).2.1, evcw44, hccw44, hl48, hv49, hv50, hv51, gx, Int.reduceToNat]
                    by_cases hb52 : (v51) = true
                    · rw [if_t hb52] at hp
                      have hp := Option.some.inj hp
                      subst hp
                      simp (maxSteps := 2000000) (disch := first | omega | (simp only [ls]; first | done | omega)) only [hO0, hO1, hO2, hO3, hO4, hO5, hO6, hO7, hO8, ep_impl_opOK, ep_impl_Op_thing, ep_impl_Op_stamp, ep_impl_StampLess, hb0, ftt5_0, ftt5_1, ftt5_2, ftt5_3, ftt5_4, ftt5_5, ftt5_6, ftt6_0, ftt6_1, ftt6_2, ftt6_3, ftt6_4, ftt6_5, hb37, hv38, ftt7_0, ftt7_1, ftt7_2, ftt7_3, ftt7_4, ftt7_5, ftt7_6, ftt7_7, ftt7_8, ftt7_9, ftt7_10, ftt7_11, ftt7_12, hb40, hv41, hv42, (gv42).1, bv42, hr43, hl43, du44, nu44, hb45, hb46, hv47, (gv47).1, (gv47).2.1, evcw44, hccw44, hl48, hv49, hv50, hv51, hb52, gx, Int.reduceToNat] <;> (repeat (first | refine And.intro ?_ ?_ | assumption | exact book_ext (by assumption) | exact book_new rfl | exact free_ext (by assumption) (by first | omega | assumption) | exact free_new (k := book0) rfl (by first | decide | omega) | exact free_fresh (by assumption) (by first | exact Nat.le_refl _ | omega) | refine book_ext ?_ | refine free_ext ?_ (by first | omega | (simp; omega)) | omega))
                    · replace hb52 := eq_false_of_ne_true hb52
                      rw [if_f hb52] at hp
                      have hp := Option.some.inj hp
                      subst hp
                      simp (maxSteps := 2000000) (disch := first | omega | (simp only [ls]; first | done | omega)) only [hO0, hO1, hO2, hO3, hO4, hO5, hO6, hO7, hO8, ep_impl_opOK, ep_impl_Op_thing, ep_impl_Op_stamp, ep_impl_StampLess, hb0, ftt5_0, ftt5_1, ftt5_2, ftt5_3, ftt5_4, ftt5_5, ftt5_6, ftt6_0, ftt6_1, ftt6_2, ftt6_3, ftt6_4, ftt6_5, hb37, hv38, ftt7_0, ftt7_1, ftt7_2, ftt7_3, ftt7_4, ftt7_5, ftt7_6, ftt7_7, ftt7_8, ftt7_9, ftt7_10, ftt7_11, ftt7_12, hb40, hv41, hv42, (gv42).1, bv42, hr43, hl43, du44, nu44, hb45, hb46, hv47, (gv47).1, (gv47).2.1, evcw44, hccw44, hl48, hv49, hv50, hv51, hb52, gx, Int.reduceToNat]
                  · replace hb46 := eq_false_of_ne_true hb46
                    rw [if_f hb46] at hp
                    have hp := Option.some.inj hp
                    subst hp
                    simp (maxSteps := 2000000) (disch := first | omega | (simp only [ls]; first | done | omega)) only [hO0, hO1, hO2, hO3, hO4, hO5, hO6, hO7, hO8, ep_impl_opOK, ep_impl_Op_thing, ep_impl_Op_stamp, ep_impl_StampLess, hb0, ftt5_0, ftt5_1, ftt5_2, ftt5_3, ftt5_4, ftt5_5, ftt5_6, ftt6_0, ftt6_1, ftt6_2, ftt6_3, ftt6_4, ftt6_5, hb37, hv38, ftt7_0, ftt7_1, ftt7_2, ftt7_3, ftt7_4, ftt7_5, ftt7_6, ftt7_7, ftt7_8, ftt7_9, ftt7_10, ftt7_11, ftt7_12, hb40, hv41, hv42, (gv42).1, bv42, hr43, hl43, du44, nu44, hb45, hb46, gx, Int.reduceToNat] <;> (repeat (first | refine And.intro ?_ ?_ | assumption | exact book_ext (by assumption) | exact book_new rfl | exact free_ext (by assumption) (by first | omega | assumption) | exact free_new (k := book0) rfl (by first | decide | omega) | exact free_fresh (by assumption) (by first | exact Nat.le_refl _ | omega) | refine book_ext ?_ | refine free_ext ?_ (by first | omega | (simp; omega)) | omega))
              · replace hb40 := eq_false_of_ne_true hb40
                rw [if_f hb40] at hp
                have hp := Option.some.inj hp
                subst hp
                simp (maxSteps := 2000000) (disch := first | omega | (simp only [ls]; first | done | omega)) only [hO0, hO1, hO2, hO3, hO4, hO5, hO6, hO7, hO8, ep_impl_opOK, ep_impl_Op_thing, ep_impl_Op_stamp, ep_impl_StampLess, hb0, ftt5_0, ftt5_1, ftt5_2, ftt5_3, ftt5_4, ftt5_5, ftt5_6, ftt6_0, ftt6_1, ftt6_2, ftt6_3, ftt6_4, ftt6_5, hb37, hv38, ftt7_0, ftt7_1, ftt7_2, ftt7_3, ftt7_4, ftt7_5, ftt7_6, ftt7_7, ftt7_8, ftt7_9, ftt7_10, ftt7_11, ftt7_12, hb40, gx, Int.reduceToNat] <;> (repeat (first | refine And.intro ?_ ?_ | assumption | exact book_ext (by assumption) | exact book_new rfl | exact free_ext (by assumption) (by first | omega | assumption) | exact free_new (k := book0) rfl (by first | decide | omega) | exact free_fresh (by assumption) (by first | exact Nat.le_refl _ | omega) | refine book_ext ?_ | refine free_ext ?_ (by first | omega | (simp; omega)) | omega))
            · simp (maxSteps := 2000000) (disch := first | omega | (simp only [ls]; first | done | omega)) only [hO0, hO1, hO2, hO3, hO4, hO5, hO6, hO7, hO8, ep_impl_opOK, ep_impl_Op_thing, ep_impl_Op_stamp, ep_impl_StampLess, hb0, ftt5_0, ftt5_1, ftt5_2, ftt5_3, ftt5_4, ftt5_5, ftt5_6, ftt6_0, ftt6_1, ftt6_2, ftt6_3, ftt6_4, ftt6_5, hb37, hv38, gx, Int.reduceToNat] <;> (repeat (first | refine And.intro ?_ ?_ | assumption | exact book_ext (by assumption) | exact book_new rfl | exact free_ext (by assumption) (by first | omega | assumption) | exact free_new (k := book0) rfl (by first | decide | omega) | exact free_fresh (by assumption) (by first | exact Nat.le_refl _ | omega) | refine book_ext ?_ | refine free_ext ?_ (by first | omega | (simp; omega)) | omega))
            · intro x tt8 hh8 hx
              rcases ee1 with o53 | r
              · obtain ⟨rfl, ftt8_0, ftt8_1, ftt8_2, ftt8_3, ftt8_4, ftt8_5, ftt8_6, ftt8_7, ftt8_8, ftt8_9, ftt8_10, ftt8_11, ftt8_12⟩ := hx
                dsimp only at hp
                have hp := Option.some.inj hp
                subst hp
                simp (maxSteps := 2000000) (disch := first | omega | (simp only [ls]; first | done | omega)) only [hO0, hO1, hO2, hO3, hO4, hO5, hO6, hO7, hO8, ep_impl_opOK, ep_impl_Op_thing, ep_impl_Op_stamp, ep_impl_StampLess, hb0, ftt5_0, ftt5_1, ftt5_2, ftt5_3, ftt5_4, ftt5_5, ftt5_6, ftt6_0, ftt6_1, ftt6_2, ftt6_3, ftt6_4, ftt6_5, hb37, hv38, ftt8_0, ftt8_1, ftt8_2, ftt8_3, ftt8_4, ftt8_5, ftt8_6, ftt8_7, ftt8_8, ftt8_9, ftt8_10, ftt8_11, ftt8_12, gx, Int.reduceToNat] <;> (repeat (first | refine And.intro ?_ ?_ | assumption | exact book_ext (by assumption) | exact book_new rfl | exact free_ext (by assumption) (by first | omega | assumption) | exact free_new (k := book0) rfl (by first | decide | omega) | exact free_fresh (by assumption) (by first | exact Nat.le_refl _ | omega) | refine book_ext ?_ | refine free_ext ?_ (by first | omega | (simp; omega)) | omega))
              · obtain ⟨rfl, hx⟩ := hx
                dsimp only at hp
                cases hp
                simp only [seqK_ret, blockK_ret, retK_RK (K := Tells false), hx, and_self, true_and]
          · replace hb37 := eq_false_of_ne_true hb37
            rw [if_f hb37] at hp
            have hp := Option.some.inj hp
            subst hp
            simp (maxSteps := 2000000) (disch := first | omega | (simp only [ls]; first | done | omega)) only [hO0, hO1, hO2, hO3, hO4, hO5, hO6, hO7, hO8, ep_impl_opOK, ep_impl_Op_thing, ep_impl_Op_stamp, ep_impl_StampLess, hb0, ftt5_0, ftt5_1, ftt5_2, ftt5_3, ftt5_4, ftt5_5, ftt5_6, ftt6_0, ftt6_1, ftt6_2, ftt6_3, ftt6_4, ftt6_5, hb37, gx, Int.reduceToNat] <;> (repeat (first | refine And.intro ?_ ?_ | assumption | exact book_ext (by assumption) | exact book_new rfl | exact free_ext (by assumption) (by first | omega | assumption) | exact free_new (k := book0) rfl (by first | decide | omega) | exact free_fresh (by assumption) (by first | exact Nat.le_refl _ | omega) | refine book_ext ?_ | refine free_ext ?_ (by first | omega | (simp; omega)) | omega))
        · simp (maxSteps := 2000000) (disch := first | omega | (simp only [ls]; first | done | omega)) only [hO0, hO1, hO2, hO3, hO4, hO5, hO6, hO7, hO8, ep_impl_opOK, ep_impl_Op_thing, ep_impl_Op_stamp, ep_impl_StampLess, hb0, ftt5_0, ftt5_1, ftt5_2, ftt5_3, ftt5_4, ftt5_5, ftt5_6, gx, Int.reduceToNat] <;> (repeat (first | refine And.intro ?_ ?_ | assumption | exact book_ext (by assumption) | exact book_new rfl | exact free_ext (by assumption) (by first | omega | assumption) | exact free_new (k := book0) rfl (by first | decide | omega) | exact free_fresh (by assumption) (by first | exact Nat.le_refl _ | omega) | refine book_ext ?_ | refine free_ext ?_ (by first | omega | (simp; omega)) | omega))
        · intro x tt9 hh9 hx
          rcases ee2 with o54 | r
          · obtain ⟨rfl, ftt9_0, ftt9_1, ftt9_2, ftt9_3, ftt9_4, ftt9_5⟩ := hx
            dsimp only at hp
            obtain ⟨y0, sy0, dy0⟩ := snap_book (n := 5) (show BookAt hh9 0 o34 by assumption)
            have hp := Option.some.inj hp
            subst hp
            simp (maxSteps := 2000000) (disch := first | omega | (simp only [ls]; first | done | omega)) only [hO0, hO1, hO2, hO3, hO4, hO5, hO6, hO7, hO8, ep_impl_opOK, ep_impl_Op_thing, ep_impl_Op_stamp, ep_impl_StampLess, hb0, ftt5_0, ftt5_1, ftt5_2, ftt5_3, ftt5_4, ftt5_5, ftt5_6, ftt9_0, ftt9_1, ftt9_2, ftt9_3, ftt9_4, ftt9_5, sy0, dy0, gx, Int.reduceToNat]
          · obtain ⟨rfl, hx⟩ := hx
            dsimp only at hp
            cases hp
            simp only [seqK_ret, blockK_ret, retK_RK (K := Tells false), hx, and_self, true_and]
      · obtain ⟨rfl, hx⟩ := hx
        dsimp only at hp
        cases hp
        simp only [seqK_ret, blockK_ret, retK_RK (K := Tells false), hx, and_self, true_and]

noncomputable def p_impl_LogOK (x0 : List TOp) : Option Bool :=
  (p_impl_readBook x0).bind fun v0 =>
  some v0.b
def c_impl_LogOK (f_impl_readBook : Nat) : AFn := ⟨11, (.seq (.ops [⟨(.some 2), (.mv (.const (.bool false))), .none, []⟩]) (.seq (.ops [⟨(.some 6), (.mv (.tmp 0)), .none, []⟩, ⟨(.some 7), (.call (2 * f_impl_readBook) [(.tmp 6)]), .none, []⟩, ⟨(.some 5), (.mv (.tmp 7)), .none, []⟩, ⟨(.some 8), (.extract 0 (.tmp 5)), .none, []⟩, ⟨(.some 9), (.extract 1 (.tmp 5)), .none, []⟩, ⟨(.some 3), (.mv (.tmp 8)), .none, []⟩, ⟨(.some 4), (.mv (.tmp 9)), .none, []⟩]) (.seq (.ops [⟨(.some 10), (.mv (.tmp 4)), .none, []⟩, ⟨(.some 2), (.mv (.tmp 10)), .none, []⟩]) .ret))), [(.tmp 2)]⟩
set_option maxHeartbeats 10000000 in
theorem d_impl_LogOK {P : Program} {env : Env} {f_impl_readBook : Nat}  (ep_impl_readBook : env (2 * f_impl_readBook) = pureFn false (FA fun a : List TOp => p_impl_readBook a)) (x0 : List TOp) {b : Bool} (hp : p_impl_LogOK x0 = some b) : R P env (c_impl_LogOK f_impl_readBook) ((encA (x0)).map ofI) [] (Tells true b) := by
  refine R_of (by simp [c_impl_LogOK, encA]) ?_
  unfold c_impl_LogOK
  unfold p_impl_LogOK at hp
  obtain ⟨v0, hv0, hp⟩ := bind_eq hp
  have hp := Option.some.inj hp
  subst hp
  simp (maxSteps := 2000000) (disch := first | omega | (simp only [ls]; first | done | omega)) only [ep_impl_readBook, hv0, gx, Int.reduceToNat]

noncomputable def p_laws_eqIntS_l0 (x0 : List Int) (x1 : List Int) : Int → Option (Lp (Int) Bool)
  | s1 =>
    if (decide (s1 < (x0.length : Int))) = true then
      (get? x0 s1).bind fun v3 =>
      (get? x1 s1).bind fun v4 =>
      if (decide (v3 = v4)) = true then
        some (.go (w64 (s1 + 1)))
      else
        some (.ret false)
    else
      some (.out s1)
noncomputable def p_laws_eqIntS (x0 : List Int) (x1 : List Int) : Option Bool :=
  if (decide ((x0.length : Int) = (x1.length : Int))) = true then
    (loopP (p_laws_eqIntS_l0 x0 x1) 0).bind fun ee0 => match ee0 with
    | .ret r => some r
    | .out o6 =>
      some true
  else
    some false
def c_laws_eqIntS : AFn := ⟨26, (.seq (.ops [⟨(.some 4), (.mv (.const (.bool false))), .none, []⟩]) (.seq (.seq (.ops [⟨(.some 6), (.mv (.tmp 0)), .none, []⟩, ⟨(.some 7), (.len (.tmp 6)), .none, []⟩, ⟨(.some 8), (.mv (.tmp 1)), .none, []⟩, ⟨(.some 9), (.len (.tmp 8)), .none, []⟩, ⟨(.some 10), (.pu (.n (.ar .neq)) [(.tmp 7), (.tmp 9)]), .none, []⟩]) (.cond (.tmp 10) (.seq (.ops [⟨(.some 4), (.mv (.const (.bool false))), .none, []⟩]) .ret) .skip)) (.seq (.seq (.ops [⟨(.some 5), (.mv (.const (.int .i64 0))), .none, []⟩]) (.block 0 (.loop (.seq (.seq (.ops [⟨(.some 11), (.mv (.tmp 5)), .none, []⟩, ⟨(.some 12), (.mv (.tmp 0)), .none, []⟩, ⟨(.some 13), (.len (.tmp 12)), .none, []⟩, ⟨(.some 14), (.pu (.n (.ar .lss)) [(.tmp 11), (.tmp 13)]), .none, []⟩]) (.cond (.tmp 14) .skip (.exit 0))) (.seq (.block 1 (.seq (.ops [⟨(.some 17), (.mv (.tmp 0)), .none, []⟩, ⟨(.some 18), (.mv (.tmp 5)), .none, []⟩, ⟨(.some 19), (.idxS 1 (.tmp 17) (.tmp 18)), .none, []⟩, ⟨(.some 20), (.load 1 false (.tmp 19)), .none, []⟩, ⟨(.some 21), (.mv (.tmp 1)), .none, []⟩, ⟨(.some 22), (.mv (.tmp 5)), .none, []⟩, ⟨(.some 23), (.idxS 1 (.tmp 21) (.tmp 22)), .none, []⟩, ⟨(.some 24), (.load 1 false (.tmp 23)), .none, []⟩, ⟨(.some 25), (.pu (.n (.ar .neq)) [(.tmp 20), (.tmp 24)]), .none, []⟩]) (.cond (.tmp 25) (.seq (.ops [⟨(.some 4), (.mv (.const (.bool false))), .none, []⟩]) .ret) .skip))) (.ops [⟨(.some 15), (.mv (.tmp 5)), .none, []⟩, ⟨(.some 16), (.pu (.n (.ar .add)) [(.tmp 15), (.const (.int .i64 1))]), .none, []⟩, ⟨(.some 5), (.mv (.tmp 16)), .none, []⟩])))))) (.seq (.ops [⟨(.some 4), (.mv (.const (.bool true))), .none, []⟩]) .ret)))), [(.tmp 4)]⟩
set_option maxHeartbeats 10000000 in
theorem d_laws_eqIntS {P : Program} {env : Env}  (x0 : List Int) (x1 : List Int) {b : Bool} (hp : p_laws_eqIntS x0 x1 = some b) : R P env (c_laws_eqIntS) ((encA (x0, x1)).map ofI) [] (Tells true b) := by
  refine R_of (by simp [c_laws_eqIntS, encA]) ?_
  unfold c_laws_eqIntS
  unfold p_laws_eqIntS at hp
  by_cases hb0 : (decide ((x0.length : Int) = (x1.length : Int))) = true
  · rw [if_t hb0] at hp
    obtain ⟨ee0, hee0, hp⟩ := bind_eq hp
    simp (maxSteps := 2000000) (disch := first | omega | (simp only [ls]; first | done | omega)) only [hb0, gx, Int.reduceToNat]
    refine W_loopP 0 (fun s t h => match s with | s1 => t 0 = .i (.sl 1 (x0.map enc)) ∧ t 1 = .i (.sl 1 (x1.map enc)) ∧ t 5 = .i (.s (.int .i64 s1))) (RK [.tmp 4] (Tells true)) ?_ hee0 ?_ ?_
    · rintro s1 ee tt0 hh0 ⟨ftt0_0, ftt0_1, ftt0_2⟩ hp
      rw [p_laws_eqIntS_l0] at hp
      by_cases hb2 : (decide (s1 < (x0.length : Int))) = true
      · rw [if_t hb2] at hp
        obtain ⟨v3, hv3, hp⟩ := bind_eq hp
        obtain ⟨v4, hv4, hp⟩ := bind_eq hp
        by_cases hb5 : (decide (v3 = v4)) = true
        · rw [if_t hb5] at hp
          have hp := Option.some.inj hp
          subst hp
          simp (maxSteps := 2000000) (disch := first | omega | (simp only [ls]; first | done | omega)) only [hb0, ftt0_0, ftt0_1, ftt0_2, hb2, hv3, hv4, hb5, gx, Int.reduceToNat] <;> omega
        · replace hb5 := eq_false_of_ne_true hb5
          rw [if_f hb5] at hp
          have hp := Option.some.inj hp
          subst hp
          simp (maxSteps := 2000000) (disch := first | omega | (simp only [ls]; first | done | omega)) only [hb0, ftt0_0, ftt0_1, ftt0_2, hb2, hv3, hv4, hb5, gx, Int.reduceToNat]
      · replace hb2 := eq_false_of_ne_true hb2
        rw [if_f hb2] at hp
        have hp := Option.some.inj hp
        subst hp
        simp (maxSteps := 2000000) (disch := first | omega | (simp only [ls]; first | done | omega)) only [hb0, ftt0_0, ftt0_1, ftt0_2, hb2, gx, Int.reduceToNat] <;> omega
    · simp (maxSteps := 2000000) (disch := first | omega | (simp only [ls]; first | done | omega)) only [hb0, gx, Int.reduceToNat] <;> omega
    · intro x tt1 hh1 hx
      rcases ee0 with o6 | r
      · obtain ⟨rfl, ftt1_0, ftt1_1, ftt1_2⟩ := hx
        dsimp only at hp
        have hp := Option.some.inj hp
        subst hp
        simp (maxSteps := 2000000) (disch := first | omega | (simp only [ls]; first | done | omega)) only [hb0, ftt1_0, ftt1_1, ftt1_2, gx, Int.reduceToNat]
      · obtain ⟨rfl, hx⟩ := hx
        dsimp only at hp
        cases hp
        simp only [seqK_ret, blockK_ret, retK_RK (K := Tells true), hx, and_self, true_and]
  · replace hb0 := eq_false_of_ne_true hb0
    rw [if_f hb0] at hp
    have hp := Option.some.inj hp
    subst hp
    simp (maxSteps := 2000000) (disch := first | omega | (simp only [ls]; first | done | omega)) only [hb0, gx, Int.reduceToNat]

noncomputable def p_laws_eqVector (x0 : TVec) (x1 : TVec) : Option Bool :=
  (p_laws_eqIntS x0.counts x1.counts).bind fun v0 =>
  if (v0) = true then
    some true
  else
    some false
def c_laws_eqVector (f_laws_eqIntS : Nat) : AFn := ⟨11, (.seq (.ops [⟨(.some 2), (.box (.tmp 0)), .none, []⟩, ⟨(.some 3), (.box (.tmp 1)), .none, []⟩, ⟨(.some 4), (.mv (.const (.bool false))), .none, []⟩]) (.seq (.seq (.ops [⟨(.some 5), (.fieldA 0 (.tmp 2)), .none, []⟩, ⟨(.some 6), (.load 1 false (.tmp 5)), .none, []⟩, ⟨(.some 7), (.fieldA 0 (.tmp 3)), .none, []⟩, ⟨(.some 8), (.load 1 false (.tmp 7)), .none, []⟩, ⟨(.some 9), (.call (2 * f_laws_eqIntS) [(.tmp 6), (.tmp 8)]), .none, []⟩, ⟨(.some 10), (.pu (.n (.un .not)) [(.tmp 9)]), .none, []⟩]) (.cond (.tmp 10) (.seq (.ops [⟨(.some 4), (.mv (.const (.bool false))), .none, []⟩]) .ret) .skip)) (.seq (.ops [⟨(.some 4), (.mv (.const (.bool true))), .none, []⟩]) .ret))), [(.tmp 4)]⟩
set_option maxHeartbeats 10000000 in
theorem d_laws_eqVector {P : Program} {env : Env} {f_laws_eqIntS : Nat}  (ep_laws_eqIntS : env (2 * f_laws_eqIntS) = pureFn true (FA fun a : List Int × List Int => p_laws_eqIntS a.1 a.2)) (x0 : TVec) (x1 : TVec) {b : Bool} (hp : p_laws_eqVector x0 x1 = some b) : R P env (c_laws_eqVector f_laws_eqIntS) ((encA (x0, x1)).map ofI) [] (Tells true b) := by
  refine R_of (by simp [c_laws_eqVector, encA]) ?_
  unfold c_laws_eqVector
  unfold p_laws_eqVector at hp
  obtain ⟨v0, hv0, hp⟩ := bind_eq hp
  by_cases hb1 : (v0) = true
  · rw [if_t hb1] at hp
    have hp := Option.some.inj hp
    subst hp
    simp (maxSteps := 2000000) (disch := first | omega | (simp only [ls]; first | done | omega)) only [ep_laws_eqIntS, hv0, hb1, gx, Int.reduceToNat]
  · replace hb1 := eq_false_of_ne_true hb1
    rw [if_f hb1] at hp
    have hp := Option.some.inj hp
    subst hp
    simp (maxSteps := 2000000) (disch := first | omega | (simp only [ls]; first | done | omega)) only [ep_laws_eqIntS, hv0, hb1, gx, Int.reduceToNat]

noncomputable def p_laws_eqStamp (x0 : TStamp) (x1 : TStamp) : Option Bool :=
  if (decide (x0.time = x1.time)) = true then
    if (decide (x0.actor = x1.actor)) = true then
      some true
    else
      some false
  else
    some false
def c_laws_eqStamp : AFn := ⟨15, (.seq (.ops [⟨(.some 2), (.box (.tmp 0)), .none, []⟩, ⟨(.some 3), (.box (.tmp 1)), .none, []⟩, ⟨(.some 4), (.mv (.const (.bool false))), .none, []⟩]) (.seq (.seq (.ops [⟨(.some 5), (.fieldA 0 (.tmp 2)), .none, []⟩, ⟨(.some 6), (.load 1 false (.tmp 5)), .none, []⟩, ⟨(.some 7), (.fieldA 0 (.tmp 3)), .none, []⟩, ⟨(.some 8), (.load 1 false (.tmp 7)), .none, []⟩, ⟨(.some 9), (.pu (.n (.ar .neq)) [(.tmp 6), (.tmp 8)]), .none, []⟩]) (.cond (.tmp 9) (.seq (.ops [⟨(.some 4), (.mv (.const (.bool false))), .none, []⟩]) .ret) .skip)) (.seq (.seq (.ops [⟨(.some 10), (.fieldA 1 (.tmp 2)), .none, []⟩, ⟨(.some 11), (.load 1 false (.tmp 10)), .none, []⟩, ⟨(.some 12), (.fieldA 1 (.tmp 3)), .none, []⟩, ⟨(.some 13), (.load 1 false (.tmp 12)), .none, []⟩, ⟨(.some 14), (.pu (.n (.ar .neq)) [(.tmp 11), (.tmp 13)]), .none, []⟩]) (.cond (.tmp 14) (.seq (.ops [⟨(.some 4), (.mv (.const (.bool false))), .none, []⟩]) .ret) .skip)) (.seq (.ops [⟨(.some 4), (.mv (.const (.bool true))), .none, []⟩]) .ret)))), [(.tmp 4)]⟩
set_option maxHeartbeats 10000000 in
theorem d_laws_eqStamp {P : Program} {env : Env}  (x0 : TStamp) (x1 : TStamp) {b : Bool} (hp : p_laws_eqStamp x0 x1 = some b) : R P env (c_laws_eqStamp) ((encA (x0, x1)).map ofI) [] (Tells true b) := by
  refine R_of (by simp [c_laws_eqStamp, encA]) ?_
  unfold c_laws_eqStamp
  unfold p_laws_eqStamp at hp
  by_cases hb0 : (decide (x0.time = x1.time)) = true
  · rw [if_t hb0] at hp
    by_cases hb1 : (decide (x0.actor = x1.actor)) = true
    · rw [if_t hb1] at hp
      have hp := Option.some.inj hp
      subst hp
      simp (maxSteps := 2000000) (disch := first | omega | (simp only [ls]; first | done | omega)) only [hb0, hb1, gx, Int.reduceToNat]
    · replace hb1 := eq_false_of_ne_true hb1
      rw [if_f hb1] at hp
      have hp := Option.some.inj hp
      subst hp
      simp (maxSteps := 2000000) (disch := first | omega | (simp only [ls]; first | done | omega)) only [hb0, hb1, gx, Int.reduceToNat]
  · replace hb0 := eq_false_of_ne_true hb0
    rw [if_f hb0] at hp
    have hp := Option.some.inj hp
    subst hp
    simp (maxSteps := 2000000) (disch := first | omega | (simp only [ls]; first | done | omega)) only [hb0, gx, Int.reduceToNat]

noncomputable def p_laws_eqOp (x0 : TOp) (x1 : TOp) : Option Bool :=
  if (decide (x0.actor = x1.actor)) = true then
    if (decide (x0.seq = x1.seq)) = true then
      if (decide (x0.time = x1.time)) = true then
        (p_laws_eqVector x0.deps x1.deps).bind fun v3 =>
        if (v3) = true then
          if (decide (x0.kind = x1.kind)) = true then
            if (decide (x0.obj = x1.obj)) = true then
              if (decide (x0.n = x1.n)) = true then
                if (decide (x0.undo = x1.undo)) = true then
                  (p_laws_eqStamp x0.at_ x1.at_).bind fun v9 =>
                  if (v9) = true then
                    if (decide (x0.key = x1.key)) = true then
                      if (decide (x0.text = x1.text)) = true then
                        some true
                      else
                        some false
                    else
                      some false
                  else
                    some false
                else
                  some false
              else
                some false
            else
              some false
          else
            some false
        else
          some false
      else
        some false
    else
      some false
  else
    some false
def c_laws_eqOp (f_laws_eqVector : Nat) (f_laws_eqStamp : Nat) : AFn := ⟨62, (.seq (.ops [⟨(.some 2), (.box (.tmp 0)), .none, []⟩, ⟨(.some 3), (.box (.tmp 1)), .none, []⟩, ⟨(.some 4), (.mv (.const (.bool false))), .none, []⟩]) (.seq (.seq (.ops [⟨(.some 5), (.fieldA 0 (.tmp 2)), .none, []⟩, ⟨(.some 6), (.load 1 false (.tmp 5)), .none, []⟩, ⟨(.some 7), (.fieldA 0 (.tmp 3)), .none, []⟩, ⟨(.some 8), (.load 1 false (.tmp 7)), .none, []⟩, ⟨(.some 9), (.pu (.n (.ar .neq)) [(.tmp 6), (.tmp 8)]), .none, []⟩]) (.cond (.tmp 9) (.seq (.ops [⟨(.some 4), (.mv (.const (.bool false))), .none, []⟩]) .ret) .skip)) (.seq (.seq (.ops [⟨(.some 10), (.fieldA 1 (.tmp 2)), .none, []⟩, ⟨(.some 11), (.load 1 false (.tmp 10)), .none, []⟩, ⟨(.some 12), (.fieldA 1 (.tmp 3)), .none, []⟩, ⟨(.some 13), (.load 1 false (.tmp 12)), .none, []⟩, ⟨(.some 14), (.pu (.n (.ar .neq)) [(.tmp 11), (.tmp 13)]), .none, []⟩]) (.cond (.tmp 14) (.seq (.ops [⟨(.some 4), (.mv (.const (.bool false))), .none, []⟩]) .ret) .skip)) (.seq (.seq (.ops [⟨(.some 15), (.fieldA 2 (.tmp 2)), .none, []⟩, ⟨(.some 16), (.load 1 false (.tmp 15)), .none, []⟩, ⟨(.some 17), (.fieldA 2 (.tmp 3)), .none, []⟩, ⟨(.some 18), (.load 1 false (.tmp 17)), .none, []⟩, ⟨(.some 19), (.pu (.n (.ar .neq)) [(.tmp 16), (.tmp 18)]), .none, []⟩]) (.cond (.tmp 19) (.seq (.ops [⟨(.some 4), (.mv (.const (.bool false))), .none, []⟩]) .ret) .skip)) (.seq (.seq (.ops [⟨(.some 20), (.fieldA 3 (.tmp 2)), .none, []⟩, ⟨(.some 21), (.load 1 true (.tmp 20)), .none, []⟩, ⟨(.some 22), (.fieldA 3 (.tmp 3)), .none, []⟩, ⟨(.some 23), (.load 1 true (.tmp 22)), .none, []⟩, ⟨(.some 24), (.call (2 * f_laws_eqVector) [(.tmp 21), (.tmp 23)]), .none, []⟩, ⟨(.some 25), (.pu (.n (.un .not)) [(.tmp 24)]), .none, []⟩]) (.cond (.tmp 25) (.seq (.ops [⟨(.some 4), (.mv (.const (.bool false))), .none, []⟩]) .ret) .skip)) (.seq (.seq (.ops [⟨(.some 26), (.fieldA 4 (.tmp 2)), .none, []⟩, ⟨(.some 27), (.load 1 false (.tmp 26)), .none, []⟩, ⟨(.some 28), (.fieldA 4 (.tmp 3)), .none, []⟩, ⟨(.some 29), (.load 1 false (.tmp 28)), .none, []⟩, ⟨(.some 30), (.pu (.n (.ar .neq)) [(.tmp 27), (.tmp 29)]), .none, []⟩]) (.cond (.tmp 30) (.seq (.ops [⟨(.some 4), (.mv (.const (.bool false))), .none, []⟩]) .ret) .skip)) (.seq (.seq (.ops [⟨(.some 31), (.fieldA 5 (.tmp 2)), .none, []⟩, ⟨(.some 32), (.load 1 false (.tmp 31)), .none, []⟩, ⟨(.some 33), (.fieldA 5 (.tmp 3)), .none, []⟩, ⟨(.some 34), (.load 1 false (.tmp 33)), .none, []⟩, ⟨(.some 35), (.pu (.n (.ar .neq)) [(.tmp 32), (.tmp 34)]), .none, []⟩]) (.cond (.tmp 35) (.seq (.ops [⟨(.some 4), (.mv (.const (.bool false))), .none, []⟩]) .ret) .skip)) (.seq (.seq (.ops [⟨(.some 36), (.fieldA 6 (.tmp 2)), .none, []⟩, ⟨(.some 37), (.load 1 false (.tmp 36)), .none, []⟩, ⟨(.some 38), (.fieldA 6 (.tmp 3)), .none, []⟩, ⟨(.some 39), (.load 1 false (.tmp 38)), .none, []⟩, ⟨(.some 40), (.pu (.n (.ar .neq)) [(.tmp 37), (.tmp 39)]), .none, []⟩]) (.cond (.tmp 40) (.seq (.ops [⟨(.some 4), (.mv (.const (.bool false))), .none, []⟩]) .ret) .skip)) (.seq (.seq (.ops [⟨(.some 41), (.fieldA 7 (.tmp 2)), .none, []⟩, ⟨(.some 42), (.load 1 false (.tmp 41)), .none, []⟩, ⟨(.some 43), (.fieldA 7 (.tmp 3)), .none, []⟩, ⟨(.some 44), (.load 1 false (.tmp 43)), .none, []⟩, ⟨(.some 45), (.pu (.n (.ar .neq)) [(.tmp 42), (.tmp 44)]), .none, []⟩]) (.cond (.tmp 45) (.seq (.ops [⟨(.some 4), (.mv (.const (.bool false))), .none, []⟩]) .ret) .skip)) (.seq (.seq (.ops [⟨(.some 46), (.fieldA 8 (.tmp 2)), .none, []⟩, ⟨(.some 47), (.load 2 true (.tmp 46)), .none, []⟩, ⟨(.some 48), (.fieldA 8 (.tmp 3)), .none, []⟩, ⟨(.some 49), (.load 2 true (.tmp 48)), .none, []⟩, ⟨(.some 50), (.call (2 * f_laws_eqStamp) [(.tmp 47), (.tmp 49)]), .none, []⟩, ⟨(.some 51), (.pu (.n (.un .not)) [(.tmp 50)]), .none, []⟩]) (.cond (.tmp 51) (.seq (.ops [⟨(.some 4), (.mv (.const (.bool false))), .none, []⟩]) .ret) .skip)) (.seq (.seq (.ops [⟨(.some 52), (.fieldA 10 (.tmp 2)), .none, []⟩, ⟨(.some 53), (.load 1 false (.tmp 52)), .none, []⟩, ⟨(.some 54), (.fieldA 10 (.tmp 3)), .none, []⟩, ⟨(.some 55), (.load 1 false (.tmp 54)), .none, []⟩, ⟨(.some 56), (.pu (.n (.ar .neq)) [(.tmp 53), (.tmp 55)]), .none, []⟩]) (.cond (.tmp 56) (.seq (.ops [⟨(.some 4), (.mv (.const (.bool false))), .none, []⟩]) .ret) .skip)) (.seq (.seq (.ops [⟨(.some 57), (.fieldA 11 (.tmp 2)), .none, []⟩, ⟨(.some 58), (.load 1 false (.tmp 57)), .none, []⟩, ⟨(.some 59), (.fieldA 11 (.tmp 3)), .none, []⟩, ⟨(.some 60), (.load 1 false (.tmp 59)), .none, []⟩, ⟨(.some 61), (.pu (.n (.ar .neq)) [(.tmp 58), (.tmp 60)]), .none, []⟩]) (.cond (.tmp 61) (.seq (.ops [⟨(.some 4), (.mv (.const (.bool false))), .none, []⟩]) .ret) .skip)) (.seq (.ops [⟨(.some 4), (.mv (.const (.bool true))), .none, []⟩]) .ret))))))))))))), [(.tmp 4)]⟩
set_option maxHeartbeats 10000000 in
theorem d_laws_eqOp {P : Program} {env : Env} {f_laws_eqVector : Nat} {f_laws_eqStamp : Nat}  (ep_laws_eqVector : env (2 * f_laws_eqVector) = pureFn true (FA fun a : TVec × TVec => p_laws_eqVector a.1 a.2)) (ep_laws_eqStamp : env (2 * f_laws_eqStamp) = pureFn true (FA fun a : TStamp × TStamp => p_laws_eqStamp a.1 a.2)) (x0 : TOp) (x1 : TOp) {b : Bool} (hp : p_laws_eqOp x0 x1 = some b) : R P env (c_laws_eqOp f_laws_eqVector f_laws_eqStamp) ((encA (x0, x1)).map ofI) [] (Tells true b) := by
  refine R_of (by simp [c_laws_eqOp, encA]) ?_
  unfold c_laws_eqOp
  unfold p_laws_eqOp at hp
  by_cases hb0 : (decide (x0.actor = x1.actor)) = true
  · rw [if_t hb0] at hp
    by_cases hb1 : (decide (x0.seq = x1.seq)) = true
    · rw [if_t hb1] at hp
      by_cases hb2 : (decide (x0.time = x1.time)) = true
      · rw [if_t hb2] at hp
        obtain ⟨v3, hv3, hp⟩ := bind_eq hp
        by_cases hb4 : (v3) = true
        · rw [if_t hb4] at hp
          by_cases hb5 : (decide (x0.kind = x1.kind)) = true
          · rw [if_t hb5] at hp
            by_cases hb6 : (decide (x0.obj = x1.obj)) = true
            · rw [if_t hb6] at hp
              by_cases hb7 : (decide (x0.n = x1.n)) = true
              · rw [if_t hb7] at hp
                by_cases hb8 : (decide (x0.undo = x1.undo)) = true
                · rw [if_t hb8] at hp
                  obtain ⟨v9, hv9, hp⟩ := bind_eq hp
                  by_cases hb10 : (v9) = true
                  · rw [if_t hb10] at hp
                    by_cases hb11 : (decide (x0.key = x1.key)) = true
                    · rw [if_t hb11] at hp
                      by_cases hb12 : (decide (x0.text = x1.text)) = true
                      · rw [if_t hb12] at hp
                        have hp := Option.some.inj hp
                        subst hp
                        simp (maxSteps := 2000000) (disch := first | omega | (simp only [ls]; first | done | omega)) only [ep_laws_eqVector, ep_laws_eqStamp, hb0, hb1, hb2, hv3, hb4, hb5, hb6, hb7, hb8, hv9, hb10, hb11, hb12, gx, Int.reduceToNat]
                      · replace hb12 := eq_false_of_ne_true hb12
                        rw [if_f hb12] at hp
                        have hp := Option.some.inj hp
                        subst hp
                        simp (maxSteps := 2000000) (disch := first | omega | (simp only [ls]; first | done | omega)) only [ep_laws_eqVector, ep_laws_eqStamp, hb0, hb1, hb2, hv3, hb4, hb5, hb6, hb7, hb8, hv9, hb10, hb11, hb12, gx, Int.reduceToNat]
                    · replace hb11 := eq_false_of_ne_true hb11
                      rw [if_f hb11] at hp
                      have hp := Option.some.inj hp
                      subst hp
                      simp (maxSteps := 2000000) (disch := first | omega | (simp only [ls]; first | done | omega)) only [ep_laws_eqVector, ep_laws_eqStamp, hb0, hb1, hb2, hv3, hb4, hb5, hb6, hb7, hb8, hv9, hb10, hb11, gx, Int.reduceToNat]
                  · replace hb10 := eq_false_of_ne_true hb10
                    rw [if_f hb10] at hp
                    have hp := Option.some.inj hp
                    subst hp
                    simp (maxSteps := 2000000) (disch := first | omega | (simp only [ls]; first | done | omega)) only [ep_laws_eqVector, ep_laws_eqStamp, hb0, hb1, hb2, hv3, hb4, hb5, hb6, hb7, hb8, hv9, hb10, gx, Int.reduceToNat]
                · replace hb8 := eq_false_of_ne_true hb8
                  rw [if_f hb8] at hp
                  have hp := Option.some.inj hp
                  subst hp
                  simp (maxSteps := 2000000) (disch := first | omega | (simp only [ls]; first | done | omega)) only [ep_laws_eqVector, ep_laws_eqStamp, hb0, hb1, hb2, hv3, hb4, hb5, hb6, hb7, hb8, gx, Int.reduceToNat]
              · replace hb7 := eq_false_of_ne_true hb7
                rw [if_f hb7] at hp
                have hp := Option.some.inj hp
                subst hp
                simp (maxSteps := 2000000) (disch := first | omega | (simp only [ls]; first | done | omega)) only [ep_laws_eqVector, ep_laws_eqStamp, hb0, hb1, hb2, hv3, hb4, hb5, hb6, hb7, gx, Int.reduceToNat]
            · replace hb6 := eq_false_of_ne_true hb6
              rw [if_f hb6] at hp
              have hp := Option.some.inj hp
              subst hp
              simp (maxSteps := 2000000) (disch := first | omega | (simp only [ls]; first | done | omega)) only [ep_laws_eqVector, ep_laws_eqStamp, hb0, hb1, hb2, hv3, hb4, hb5, hb6, gx, Int.reduceToNat]
          · replace hb5 := eq_false_of_ne_true hb5
            rw [if_f hb5] at hp
            have hp := Option.some.inj hp
            subst hp
            simp (maxSteps := 2000000) (disch := first | omega | (simp only [ls]; first | done | omega)) only [ep_laws_eqVector, ep_laws_eqStamp, hb0, hb1, hb2, hv3, hb4, hb5, gx, Int.reduceToNat]
        · replace hb4 := eq_false_of_ne_true hb4
          rw [if_f hb4] at hp
          have hp := Option.some.inj hp
          subst hp
          simp (maxSteps := 2000000) (disch := first | omega | (simp only [ls]; first | done | omega)) only [ep_laws_eqVector, ep_laws_eqStamp, hb0, hb1, hb2, hv3, hb4, gx, Int.reduceToNat]
      · replace hb2 := eq_false_of_ne_true hb2
        rw [if_f hb2] at hp
        have hp := Option.some.inj hp
        subst hp
        simp (maxSteps := 2000000) (disch := first | omega | (simp only [ls]; first | done | omega)) only [ep_laws_eqVector, ep_laws_eqStamp, hb0, hb1, hb2, gx, Int.reduceToNat]
    · replace hb1 := eq_false_of_ne_true hb1
      rw [if_f hb1] at hp
      have hp := Option.some.inj hp
      subst hp
      simp (maxSteps := 2000000) (disch := first | omega | (simp only [ls]; first | done | omega)) only [ep_laws_eqVector, ep_laws_eqStamp, hb0, hb1, gx, Int.reduceToNat]
  · replace hb0 := eq_false_of_ne_true hb0
    rw [if_f hb0] at hp
    have hp := Option.some.inj hp
    subst hp
    simp (maxSteps := 2000000) (disch := first | omega | (simp only [ls]; first | done | omega)) only [ep_laws_eqVector, ep_laws_eqStamp, hb0, gx, Int.reduceToNat]

noncomputable def p_laws_eqOpS_l0 (x0 : List TOp) (x1 : List TOp) : Int → Option (Lp (Int) Bool)
  | s1 =>
    if (decide (s1 < (x0.length : Int))) = true then
      (get? x0 s1).bind fun v3 =>
      (get? x1 s1).bind fun v4 =>
      (p_laws_eqOp v3 v4).bind fun v5 =>
      if (v5) = true then
        some (.go (w64 (s1 + 1)))
      else
        some (.ret false)
    else
      some (.out s1)
noncomputable def p_laws_eqOpS (x0 : List TOp) (x1 : List TOp) : Option Bool :=
  if (decide ((x0.length : Int) = (x1.length : Int))) = true then
    (loopP (p_laws_eqOpS_l0 x0 x1) 0).bind fun ee0 => match ee0 with
    | .ret r => some r
    | .out o7 =>
      some true
  else
    some false
def c_laws_eqOpS (f_laws_eqOp : Nat) : AFn := ⟨27, (.seq (.ops [⟨(.some 4), (.mv (.const (.bool false))), .none, []⟩]) (.seq (.seq (.ops [⟨(.some 6), (.mv (.tmp 0)), .none, []⟩, ⟨(.some 7), (.len (.tmp 6)), .none, []⟩, ⟨(.some 8), (.mv (.tmp 1)), .none, []⟩, ⟨(.some 9), (.len (.tmp 8)), .none, []⟩, ⟨(.some 10), (.pu (.n (.ar .neq)) [(.tmp 7), (.tmp 9)]), .none, []⟩]) (.cond (.tmp 10) (.seq (.ops [⟨(.some 4), (.mv (.const (.bool false))), .none, []⟩]) .ret) .skip)) (.seq (.seq (.ops [⟨(.some 5), (.mv (.const (.int .i64 0))), .none, []⟩]) (.block 0 (.loop (.seq (.seq (.ops [⟨(.some 11), (.mv (.tmp 5)), .none, []⟩, ⟨(.some 12), (.mv (.tmp 0)), .none, []⟩, ⟨(.some 13), (.len (.tmp 12)), .none, []⟩, ⟨(.some 14), (.pu (.n (.ar .lss)) [(.tmp 11), (.tmp 13)]), .none, []⟩]) (.cond (.tmp 14) .skip (.exit 0))) (.seq (.block 1 (.seq (.ops [⟨(.some 17), (.mv (.tmp 0)), .none, []⟩, ⟨(.some 18), (.mv (.tmp 5)), .none, []⟩, ⟨(.some 19), (.idxS 12 (.tmp 17) (.tmp 18)), .none, []⟩, ⟨(.some 20), (.load 12 true (.tmp 19)), .none, []⟩, ⟨(.some 21), (.mv (.tmp 1)), .none, []⟩, ⟨(.some 22), (.mv (.tmp 5)), .none, []⟩, ⟨(.some 23), (.idxS 12 (.tmp 21) (.tmp 22)), .none, []⟩, ⟨(.some 24), (.load 12 true (.tmp 23)), .none, []⟩, ⟨(.some 25), (.call (2 * f_laws_eqOp) [(.tmp 20), (.tmp 24)]), .none, []⟩, ⟨(.some 26), (.pu (.n (.un .not)) [(.tmp 25)]), .none, []⟩]) (.cond (.tmp 26) (.seq (.ops [⟨(.some 4), (.mv (.const (.bool false))), .none, []⟩]) .ret) .skip))) (.ops [⟨(.some 15), (.mv (.tmp 5)), .none, []⟩, ⟨(.some 16), (.pu (.n (.ar .add)) [(.tmp 15), (.const (.int .i64 1))]), .none, []⟩, ⟨(.some 5), (.mv (.tmp 16)), .none, []⟩])))))) (.seq (.ops [⟨(.some 4), (.mv (.const (.bool true))), .none, []⟩]) .ret)))), [(.tmp 4)]⟩
set_option maxHeartbeats 10000000 in
theorem d_laws_eqOpS {P : Program} {env : Env} {f_laws_eqOp : Nat}  (ep_laws_eqOp : env (2 * f_laws_eqOp) = pureFn true (FA fun a : TOp × TOp => p_laws_eqOp a.1 a.2)) (x0 : List TOp) (x1 : List TOp) {b : Bool} (hp : p_laws_eqOpS x0 x1 = some b) : R P env (c_laws_eqOpS f_laws_eqOp) ((encA (x0, x1)).map ofI) [] (Tells true b) := by
  refine R_of (by simp [c_laws_eqOpS, encA]) ?_
  have hO0 := @opc_virtC
  have hO1 := @opc_nilsOf
  have hO2 := @opc_virtV
  have hO3 := @opc_nilsV
  have hO4 := @opc_one
  have hO5 := @opc_splice
  have hO6 := @opc_virtVw
  have hO7 := @opc_nilsVw
  have hO8 := @opc_onew
  unfold c_laws_eqOpS
  unfold p_laws_eqOpS at hp
  by_cases hb0 : (decide ((x0.length : Int) = (x1.length : Int))) = true
  · rw [if_t hb0] at hp
    obtain ⟨ee0, hee0, hp⟩ := bind_eq hp
    simp (maxSteps := 2000000) (disch := first | omega | (simp only [ls]; first | done | omega)) only [hO0, hO1, hO2, hO3, hO4, hO5, hO6, hO7, hO8, ep_laws_eqOp, hb0, gx, Int.reduceToNat]
    refine W_loopP 0 (fun s t h => match s with | s1 => t 0 = .i (.sl 12 (x0.map enc)) ∧ t 1 = .i (.sl 12 (x1.map enc)) ∧ t 5 = .i (.s (.int .i64 s1))) (RK [.tmp 4] (Tells true)) ?_ hee0 ?_ ?_
    · rintro s1 ee tt0 hh0 ⟨ftt0_0, ftt0_1, ftt0_2⟩ hp
      rw [p_laws_eqOpS_l0] at hp
      by_cases hb2 : (decide (s1 < (x0.length : Int))) = true
      · rw [if_t hb2] at hp
        obtain ⟨v3, hv3, hp⟩ := bind_eq hp
        obtain ⟨v4, hv4, hp⟩ := bind_eq hp
        obtain ⟨v5, hv5, hp⟩ := bind_eq hp
        by_cases hb6 : (v5) = true
        · rw [if_t hb6] at hp
          have hp := Option.some.inj hp
          subst hp
          simp (maxSteps := 2000000) (disch := first | omega | (simp only [ls]; first | done | omega)) only [hO0, hO1, hO2, hO3, hO4, hO5, hO6, hO7, hO8, ep_laws_eqOp, hb0, ftt0_0, ftt0_1, ftt0_2, hb2, hv3, hv4, hv5, hb6, gx, Int.reduceToNat] <;> omega
        · replace hb6 := eq_false_of_ne_true hb6
          rw [if_f hb6] at hp
          have hp := Option.some.inj hp
          subst hp
          simp (maxSteps := 2000000) (disch := first | omega | (simp only [ls]; first | done | omega)) only [hO0, hO1, hO2, hO3, hO4, hO5, hO6, hO7, hO8, ep_laws_eqOp, hb0, ftt0_0, ftt0_1, ftt0_2, hb2, hv3, hv4, hv5, hb6, gx, Int.reduceToNat]
      · replace hb2 := eq_false_of_ne_true hb2
        rw [if_f hb2] at hp
        have hp := Option.some.inj hp
        subst hp
        simp (maxSteps := 2000000) (disch := first | omega | (simp only [ls]; first | done | omega)) only [hO0, hO1, hO2, hO3, hO4, hO5, hO6, hO7, hO8, ep_laws_eqOp, hb0, ftt0_0, ftt0_1, ftt0_2, hb2, gx, Int.reduceToNat] <;> omega
    · simp (maxSteps := 2000000) (disch := first | omega | (simp only [ls]; first | done | omega)) only [hO0, hO1, hO2, hO3, hO4, hO5, hO6, hO7, hO8, ep_laws_eqOp, hb0, gx, Int.reduceToNat] <;> omega
    · intro x tt1 hh1 hx
      rcases ee0 with o7 | r
      · obtain ⟨rfl, ftt1_0, ftt1_1, ftt1_2⟩ := hx
        dsimp only at hp
        have hp := Option.some.inj hp
        subst hp
        simp (maxSteps := 2000000) (disch := first | omega | (simp only [ls]; first | done | omega)) only [hO0, hO1, hO2, hO3, hO4, hO5, hO6, hO7, hO8, ep_laws_eqOp, hb0, ftt1_0, ftt1_1, ftt1_2, gx, Int.reduceToNat]
      · obtain ⟨rfl, hx⟩ := hx
        dsimp only at hp
        cases hp
        simp only [seqK_ret, blockK_ret, retK_RK (K := Tells true), hx, and_self, true_and]
  · replace hb0 := eq_false_of_ne_true hb0
    rw [if_f hb0] at hp
    have hp := Option.some.inj hp
    subst hp
    simp (maxSteps := 2000000) (disch := first | omega | (simp only [ls]; first | done | omega)) only [hO0, hO1, hO2, hO3, hO4, hO5, hO6, hO7, hO8, ep_laws_eqOp, hb0, gx, Int.reduceToNat]

noncomputable def p_laws_FnExactLogOK (x0 : List TOp) : Option Bool :=
  (p_laws_szOpS x0 1048576).bind fun v0 =>
  if (decide (v0 < 0)) = true then
    some true
  else
    (p_laws_toOpS x0).bind fun v2 =>
    (p_spec_LogOK v2).bind fun v3 =>
    (p_impl_LogOK v2).bind fun v4 =>
    if ((xor true (v4 == v3))) = true then
      some false
    else
      (p_laws_eqOpS v2 v2).bind fun v6 =>
      if (v6) = true then
        some true
      else
        some false
def c_laws_FnExactLogOK (f_laws_szOpS : Nat) (f_laws_toOpS : Nat) (f_spec_LogOK : Nat) (f_impl_LogOK : Nat) (f_laws_eqOpS : Nat) : AFn := ⟨27, (.seq (.ops [⟨(.some 2), (.mv (.const (.bool false))), .none, []⟩]) (.seq (.ops [⟨(.some 3), (.mv (.const (.int .i64 1048576))), .none, []⟩]) (.seq (.ops [⟨(.some 7), (.mv (.tmp 0)), .none, []⟩, ⟨(.some 8), (.mv (.tmp 3)), .none, []⟩, ⟨(.some 9), (.call (2 * f_laws_szOpS) [(.tmp 7), (.tmp 8)]), .none, []⟩, ⟨(.some 3), (.mv (.tmp 9)), .none, []⟩]) (.seq (.seq (.ops [⟨(.some 10), (.mv (.tmp 3)), .none, []⟩, ⟨(.some 11), (.pu (.n (.ar .lss)) [(.tmp 10), (.const (.int .i64 0))]), .none, []⟩]) (.cond (.tmp 11) (.seq (.ops [⟨(.some 2), (.mv (.const (.bool true))), .none, []⟩]) .ret) .skip)) (.seq (.ops [⟨(.some 12), (.mv (.tmp 0)), .none, []⟩, ⟨(.some 13), (.call (2 * f_laws_toOpS) [(.tmp 12)]), .none, []⟩, ⟨(.some 14), (.call (2 * f_spec_LogOK) [(.tmp 13)]), .none, []⟩, ⟨(.some 4), (.mv (.tmp 14)), .none, []⟩]) (.seq (.ops [⟨(.some 15), (.mv (.tmp 0)), .none, []⟩, ⟨(.some 16), (.call (2 * f_laws_toOpS + 1) [(.tmp 15)]), .none, []⟩, ⟨(.some 5), (.mv (.tmp 16)), .none, []⟩]) (.seq (.ops [⟨(.some 17), (.mv (.tmp 5)), .none, []⟩, ⟨(.some 18), (.call (2 * f_impl_LogOK) [(.tmp 17)]), .none, []⟩, ⟨(.some 6), (.mv (.tmp 18)), .none, []⟩]) (.seq (.seq (.ops [⟨(.some 19), (.mv (.tmp 6)), .none, []⟩, ⟨(.some 20), (.mv (.tmp 4)), .none, []⟩, ⟨(.some 21), (.pu (.n (.beq true)) [(.tmp 19), (.tmp 20)]), .none, []⟩]) (.cond (.tmp 21) (.seq (.ops [⟨(.some 2), (.mv (.const (.bool false))), .none, []⟩]) .ret) .skip)) (.seq (.seq (.ops [⟨(.some 22), (.mv (.tmp 5)), .none, []⟩, ⟨(.some 23), (.mv (.tmp 0)), .none, []⟩, ⟨(.some 24), (.call (2 * f_laws_toOpS + 1) [(.tmp 23)]), .none, []⟩, ⟨(.some 25), (.call (2 * f_laws_eqOpS) [(.tmp 22), (.tmp 24)]), .none, []⟩, ⟨(.some 26), (.pu (.n (.un .not)) [(.tmp 25)]), .none, []⟩]) (.cond (.tmp 26) (.seq (.ops [⟨(.some 2), (.mv (.const (.bool false))), .none, []⟩]) .ret) .skip)) (.seq (.ops [⟨(.some 2), (.mv (.const (.bool true))), .none, []⟩]) .ret)))))))))), [(.tmp 2)]⟩
set_option maxHeartbeats 10000000 in
theorem d_laws_FnExactLogOK {P : Program} {env : Env} {f_laws_szOpS : Nat} {f_laws_toOpS : Nat} {f_spec_LogOK : Nat} {f_impl_LogOK : Nat} {f_laws_eqOpS : Nat}  (ep_laws_szOpS : env (2 * f_laws_szOpS) = pureFn true (FA fun a : List TOp × Int => p_laws_szOpS a.1 a.2)) (ep_laws_toOpS : env (2 * f_laws_toOpS) = pureFn false (FA fun a : List TOp => p_laws_toOpS a)) (ep_spec_LogOK : env (2 * f_spec_LogOK) = pureFn true (FA fun a : List TOp => p_spec_LogOK a)) (ep_impl_LogOK : env (2 * f_impl_LogOK) = pureFn true (FA fun a : List TOp => p_impl_LogOK a)) (ep_laws_eqOpS : env (2 * f_laws_eqOpS) = pureFn true (FA fun a : List TOp × List TOp => p_laws_eqOpS a.1 a.2)) (e_laws_toOpS : k_laws_toOpS (env (2 * f_laws_toOpS + 1))) (x0 : List TOp) (hp : p_laws_FnExactLogOK x0 = some true) : R P env (c_laws_FnExactLogOK f_laws_szOpS f_laws_toOpS f_spec_LogOK f_impl_LogOK f_laws_eqOpS) ((encA (x0)).map ofI) [] (fun v _ => v = .i (iB true)) := by
  refine R_of (by simp [c_laws_FnExactLogOK, encA]) ?_
  unfold c_laws_FnExactLogOK
  unfold p_laws_FnExactLogOK at hp
  obtain ⟨v0, hv0, hp⟩ := bind_eq hp
  by_cases hb1 : (decide (v0 < 0)) = true
  · rw [if_t hb1] at hp
    cases hp
    simp (maxSteps := 2000000) (disch := first | omega | (simp only [ls]; first | done | omega)) only [ep_laws_szOpS, ep_laws_toOpS, ep_spec_LogOK, ep_impl_LogOK, ep_laws_eqOpS, hv0, hb1, gx, Int.reduceToNat]
  · replace hb1 := eq_false_of_ne_true hb1
    rw [if_f hb1] at hp
    obtain ⟨v2, hv2, hp⟩ := bind_eq hp
    obtain ⟨v3, hv3, hp⟩ := bind_eq hp
    simp (maxSteps := 2000000) (disch := first | omega | (simp only [ls]; first | done | omega)) only [ep_laws_szOpS, ep_laws_toOpS, ep_spec_LogOK, ep_impl_LogOK, ep_laws_eqOpS, hv0, hb1, hv2, hv3, gx, Int.reduceToNat]
    refine call_f (fun h => True) (fun h v h2 => oo_laws_toOpS v2 h v h2) ?_ ?_ ?_
    · simp (maxSteps := 2000000) (disch := first | omega | (simp only [ls]; first | done | omega)) only [ep_laws_szOpS, ep_laws_toOpS, ep_spec_LogOK, ep_impl_LogOK, ep_laws_eqOpS, hv0, hb1, hv2, hv3, gx, Int.reduceToNat] <;> (repeat (first | refine And.intro ?_ ?_ | assumption | exact nest_ext (by assumption) | exact nest_wide (by assumption) (Nat.zero_le _) (by first | omega | (simp; omega)) (Nat.le_refl _) | exact nest_wide (nest_ext (by assumption)) (Nat.zero_le _) (by first | omega | (simp; omega)) (Nat.le_refl _) | exact nest_virt (by simp (maxSteps := 2000000) (disch := first | omega | (simp only [ls]; first | done | omega)) only [ep_laws_szOpS, ep_laws_toOpS, ep_spec_LogOK, ep_impl_LogOK, ep_laws_eqOpS, hv0, hb1, hv2, hv3, gx, Int.reduceToNat]) (by omega) (by first | omega | (simp; done) | (simp; omega)) (by first | omega | (simp; done) | (simp; omega)) | refine nest_ext ?_ | refine nest_set ?_ (by omega) | omega))
    · rintro h _
      exact e_laws_toOpS _ _ hv2 h _ (by simp (maxSteps := 2000000) (disch := first | omega | (simp only [ls]; first | done | omega)) only [ep_laws_szOpS, ep_laws_toOpS, ep_spec_LogOK, ep_impl_LogOK, ep_laws_eqOpS, hv0, hb1, hv2, hv3, gx, Int.reduceToNat])
    · rintro hc0 nb0_0 hh0 _ hpost
      obtain ⟨kk0, _, rfl, wnb0_0⟩ := hpost
      have d0_0 := wnb0_0
      have d0_0l := nest_lt d0_0
      have d0_0s : snap 9 false hh0 nb0_0 = some (.sl 12 (v2.map enc)) := snap_nest (n := 5) d0_0
      have d0_0n : lenS nb0_0 = some v2.length := nest_lenS d0_0
      obtain ⟨v4, hv4, hp⟩ := bind_eq hp
      by_cases hb5 : ((xor true (v4 == v3))) = true
      · rw [if_t hb5] at hp
        cases hp
      · replace hb5 := eq_false_of_ne_true hb5
        rw [if_f hb5] at hp
        simp (maxSteps := 2000000) (disch := first | omega | (simp only [ls]; first | done | omega)) only [ep_laws_szOpS, ep_laws_toOpS, ep_spec_LogOK, ep_impl_LogOK, ep_laws_eqOpS, hv0, hb1, hv2, hv3, d0_0, d0_0s, d0_0n, hv4, hb5, gx, Int.reduceToNat]
        refine call_f (fun h => NestV h hc0.length hh0.length nb0_0 (v2 : List TOp) ∧ hh0.length ≤ h.length) (fun h v h2 => oo_laws_toOpS v2 h v h2) ?_ ?_ ?_
        · simp (maxSteps := 2000000) (disch := first | omega | (simp only [ls]; first | done | omega)) only [ep_laws_szOpS, ep_laws_toOpS, ep_spec_LogOK, ep_impl_LogOK, ep_laws_eqOpS, hv0, hb1, hv2, hv3, d0_0, d0_0s, d0_0n, hv4, hb5, gx, Int.reduceToNat] <;> (repeat (first | refine And.intro ?_ ?_ | assumption | exact nest_ext (by assumption) | exact nest_wide (by assumption) (Nat.zero_le _) (by first | omega | (simp; omega)) (Nat.le_refl _) | exact nest_wide (nest_ext (by assumption)) (Nat.zero_le _) (by first | omega | (simp; omega)) (Nat.le_refl _) | exact nest_virt (by simp (maxSteps := 2000000) (disch := first | omega | (simp only [ls]; first | done | omega)) only [ep_laws_szOpS, ep_laws_toOpS, ep_spec_LogOK, ep_impl_LogOK, ep_laws_eqOpS, hv0, hb1, hv2, hv3, d0_0, d0_0s, d0_0n, hv4, hb5, gx, Int.reduceToNat]) (by omega) (by first | omega | (simp; done) | (simp; omega)) (by first | omega | (simp; done) | (simp; omega)) | refine nest_ext ?_ | refine nest_set ?_ (by omega) | omega))
        · rintro h ⟨c1_0, c1_1⟩
          have sc1_0 : snap 9 false h nb0_0 = some (.sl 12 (v2.map enc)) := snap_nest (n := 5) c1_0
          exact e_laws_toOpS _ _ hv2 h _ (by simp (maxSteps := 2000000) (disch := first | omega | (simp only [ls]; first | done | omega)) only [ep_laws_szOpS, ep_laws_toOpS, ep_spec_LogOK, ep_impl_LogOK, ep_laws_eqOpS, hv0, hb1, hv2, hv3, d0_0, d0_0s, d0_0n, hv4, hb5, c1_0, c1_1, sc1_0, gx, Int.reduceToNat])
        · rintro hc1 nb1_0 hh1 ⟨c1_0, c1_1⟩ hpost
          obtain ⟨kk1, _, rfl, wnb1_0⟩ := hpost
          have d1_0 : NestV hh1 hc0.length hh0.length nb0_0 (v2 : List TOp) := nest_keep c1_0 kk1 (by intro b hb; first | (simp at hb; done) | (simp at hb; omega))
          have d1_0l := nest_lt d1_0
          have d1_0s : snap 9 false hh1 nb0_0 = some (.sl 12 (v2.map enc)) := snap_nest (n := 5) d1_0
          have d1_0n : lenS nb0_0 = some v2.length := nest_lenS d1_0
          have d1_1 := wnb1_0
          have d1_1l := nest_lt d1_1
          have d1_1s : snap 9 false hh1 nb1_0 = some (.sl 12 (v2.map enc)) := snap_nest (n := 5) d1_1
          have d1_1n : lenS nb1_0 = some v2.length := nest_lenS d1_1
          obtain ⟨v6, hv6, hp⟩ := bind_eq hp
          by_cases hb7 : (v6) = true
          · rw [if_t hb7] at hp
            cases hp
            simp (maxSteps := 2000000) (disch := first | omega | (simp only [ls]; first | done | omega)) only [ep_laws_szOpS, ep_laws_toOpS, ep_spec_LogOK, ep_impl_LogOK, ep_laws_eqOpS, hv0, hb1, hv2, hv3, d0_0, d0_0s, d0_0n, hv4, hb5, d1_0, d1_0s, d1_0n, d1_1, d1_1s, d1_1n, hv6, hb7, gx, Int.reduceToNat]
          · replace hb7 := eq_false_of_ne_true hb7
            rw [if_f hb7] at hp
            cases hp

end Go.AM
