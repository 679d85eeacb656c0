/- Calls, and all operations together. No condition. -/
import Derived.Test.YtogokiglmhnjkaaLabB14
import Derived.Test.YtogokiglmhnjkaaLabM2
import Derived.Test.YtogokiglmhnjkaaLabB7n
import Derived.Test.YtogokiglmhnjkaaLabB7e
set_option linter.unusedVariables false
set_option linter.unusedSimpArgs false
namespace Go.AM

/-- What is owed of a function: on whatever heap it is called. -/
def FnOK (P : Program) (f : FuncId) (args : List V) (H : Heap) (v : V) (H' : Heap) : Prop :=
  ∀ (base : Nat) (X : Nat → Prop) (w : World) (G : List Nat) (xs : Array Value), SimH base X w H G → RVL w base (Mof X H G) H G args xs.toList →
    Calls P f xs w fun e w' => ∃ x G', e = .returned x ∧ Ext w H G w' H' G' ∧ SimH base X w' H' G' ∧ RV w' base (Mof X H' G') H' G' v x

def EnvOK (P : Program) (env : Env) : Prop := ∀ f slot args H v H', env f slot args H = some (v, H') → callable P (f / 2) = true ∧ FnOK P (f / 2) args H v H'

section
variable {P : Program} {base : Nat} {X : Nat → Prop} {o : Oper} {a : Act} {w : World} {H H' : Heap} {G : List Nat} {v : V} {t : Nat → V}

theorem run_callFunc {f : FuncId} (h : callable P f = true) (args : Array Value) (w : World) : (callFunc f args).run P w = .ok (.enter f args) w := by
  unfold callable at h
  split at h
  · rename_i fn hf
    simp at h
    obtain ⟨h1, h2⟩ := h
    have hb : fn.body.isNone = false := by
      cases hb : fn.body with
      | none => rw [hb] at h1; simp at h1
      | some c => rfl
    have hn : (fn.name == "runtime.NumGoroutine") = false := by simpa using h2
    unfold callFunc
    simp only [Sem.run_bind, run_program, Result.andThen_ok, hf, hn, hb, Bool.false_eq_true, if_false]
    rfl
  · cases h

theorem StepOK.enter {f : FuncId} {args : List V} {xs : Array Value} (hS : SimH base X w H G) (hr : (execOp a.eval o).run P w = .ok (.enter f xs) w) (hf : FnOK P f args H v H') (hl : RVL w base (Mof X H G) H G args xs.toList) :
    StepOK P base X o a w H G v H' := by
  intro next Q hn
  unfold Oper.wp
  rw [hr, Oper.upon_enter]
  refine (hf base X w G xs hS hl).mono ?_
  rintro e w' ⟨x, G', rfl, hE, hS', hv⟩
  exact hn x w' G' hE hS' hv

theorem ok_call {env : Env} {slot : Option Nat} {c : Call} {f : FuncId} (hS : SimH base X w H G) (hT : TV w base (Mof X H G) H G t a.tmps) (ho : o.op = .call c) (hc : c.callee = .value (.func f)) (hf : callable P f = true)
    (hE : EnvOK P env) {d : Nat} (hd : d / 2 = f) (hv : env d slot (c.args.toList.map (St.ev ⟨t, H⟩)) H = some (v, H')) : StepOK P base X o a w H G v H' := by
  obtain ⟨h1, h2⟩ := hE d slot _ H v H' hv
  rw [hd] at h1 h2
  refine StepOK.enter (f := f) (xs := c.args.map a.eval) hS ?_ h2 ?_
  · simp only [execOp, ho, resolve, hc, Act.eval, Deferred.ofValue, invoke, Sem.run_bind, Sem.run_pure, Result.andThen_ok]
    rw [run_callFunc hf]
    simp [Act.eval]
  · have := evs_ok (h := H) hT c.args.toList
    simpa using this

theorem ok_dyn {env : Env} {slot : Option Nat} {c : Call} {g : Operand} {f : FuncId} {caps : List V} (hS : SimH base X w H G) (hT : TV w base (Mof X H G) H G t a.tmps) (ho : o.op = .call c) (hc : c.callee = .value g)
    (hg : St.ev ⟨t, H⟩ g = .clo f caps) (hE : EnvOK P env) (hv : env (2 * f) slot (c.args.toList.map (St.ev ⟨t, H⟩) ++ caps) H = some (v, H')) : StepOK P base X o a w H G v H' := by
  obtain ⟨h1, h2⟩ := hE (2 * f) slot _ H v H' hv
  rw [show 2 * f / 2 = f from Nat.mul_div_cancel_left f (by decide)] at h1 h2
  have hgv := ev_ok (h := H) hT g
  rw [hg] at hgv
  generalize hu : a.eval g = u at hgv
  cases hgv with
  | clo hl =>
    rename_i xs
    refine StepOK.enter (f := f) (xs := c.args.map a.eval ++ xs) hS ?_ h2 ?_
    · simp only [execOp, ho, resolve, hc, hu, Deferred.ofValue, invoke, Sem.run_bind, Sem.run_pure, Result.andThen_ok]
      rw [run_callFunc h1]
      simp
    · have := (evs_ok (h := H) hT c.args.toList).append hl
      simpa using this

theorem ok_aeq {op : BinOp} {ty yt : TypeId} {x y : Operand} {ks : List SK} {p q : List Value} {neg : Bool} (hS : SimH base X w H G) (hT : TV w base (Mof X H G) H G t a.tmps) (ho : o.op = .binOp op ty x y yt) (hk : eqShape P ty = some ks)
    (hop : (op = .eql ∧ neg = false) ∨ (op = .neq ∧ neg = true)) (hx : scalsV (St.ev ⟨t, H⟩ x) = some p) (hy : scalsV (St.ev ⟨t, H⟩ y) = some q) (hp : fitsL ks p = true) (hq : fitsL ks q = true) :
    StepOK P base X o a w H G (.i (.s (.bool (xor neg (eqL p q))))) H := by
  have h1 := scalsV_ok (ev_ok (h := H) hT x) hx
  have h2 := scalsV_ok (ev_ok (h := H) hT y) hy
  unfold eqShape at hk
  split at hk
  · rename_i hag
    split at hk
    · cases hk
    · rename_i hgd
      have he := equalIn_run w 8 9992 ty ks hk p q (.agg p.toArray) (.agg q.toArray) hp hq ⟨(fun _ => rfl), (fun h => by rw [hag] at h; cases h), (by rw [hag]; rfl)⟩ ⟨(fun _ => rfl), (fun h => by rw [hag] at h; cases h), (by rw [hag]; rfl)⟩
      have heq : (Op.equal ty (.agg p.toArray) (.agg q.toArray)).run P w = .ok (eqL p q) w := he
      refine StepOK.value (x := .bool (xor neg (eqL p q))) hS ?_ (.i (.s rfl))
      rcases hop with ⟨rfl, rfl⟩ | ⟨rfl, rfl⟩
      · simp only [execOp, ho, h1, h2, Sem.run_bind, run_eqGuard_agg w .eql ty x y p.toArray q.toArray (by simpa using hgd), Result.andThen_ok, binOp, heq, Sem.run_pure, Bool.false_bne, Bool.false_xor]
      · simp only [execOp, ho, h1, h2, Sem.run_bind, run_eqGuard_agg w .neq ty x y p.toArray q.toArray (by simpa using hgd), Result.andThen_ok, binOp, heq, Sem.run_pure, Bool.true_xor]
  · cases hk

theorem step_ok {env : Env} {slot : Option Nat} {aop : AOp} (hE : EnvOK P env) (hS : SimH base X w H G) (hT : TV w base (Mof X H G) H G t a.tmps) (hc : compOp P o = some aop) (hs : stepOp P env slot aop ⟨t, H⟩ = some (v, H')) :
    StepOK P base X o a w H G v H' := by
  unfold compOp at hc
  split at hc
  · -- move, assign
    rename_i x ho
    cases hc
    simp only [stepOp, Option.some.injEq, Prod.mk.injEq] at hs
    obtain ⟨rfl, rfl⟩ := hs
    exact ok_mv hS hT (.inl ho)
  · rename_i x ho
    cases hc
    simp only [stepOp, Option.some.injEq, Prod.mk.injEq] at hs
    obtain ⟨rfl, rfl⟩ := hs
    exact ok_mv hS hT (.inr ho)
  · -- pick
    rename_i c x y ho
    cases hc
    simp only [stepOp] at hs
    split at hs
    · rename_i b hcv
      simp only [Option.some.injEq, Prod.mk.injEq] at hs
      obtain ⟨rfl, rfl⟩ := hs
      exact ok_pick hS hT ho hcv
    · cases hs
  · -- alloc
    rename_i e ho
    obtain ⟨zero, hz, rfl⟩ := Option.map_eq_some_iff.1 hc
    simp only [stepOp] at hs
    obtain ⟨⟨b, h1⟩, hn, he⟩ := Option.map_eq_some_iff.1 hs
    simp only [Prod.mk.injEq] at he
    obtain ⟨rfl, rfl⟩ := he
    exact ok_alloc hS ho hz hn
  · -- box
    rename_i e x ho
    cases hc
    simp only [stepOp] at hs
    split at hs
    · rename_i hx
      obtain ⟨⟨b, h1⟩, hn, he⟩ := Option.map_eq_some_iff.1 hs
      simp only [Prod.mk.injEq] at he
      obtain ⟨rfl, rfl⟩ := he
      exact ok_box hS hT ho hx hn
    · cases hs
  · -- build
    rename_i ty parts ho
    split at hc
    · rename_i fields hu
      obtain ⟨zero, hz, hc⟩ := Option.bind_eq_some_iff.1 hc
      obtain ⟨fs, hfs, hc⟩ := Option.bind_eq_some_iff.1 hc
      split at hc
      · rename_i hpl
        cases hc
        simp only [stepOp] at hs
        obtain ⟨cs, hf, he⟩ := Option.map_eq_some_iff.1 hs
        simp only [Prod.mk.injEq] at he
        obtain ⟨rfl, rfl⟩ := he
        exact ok_buildStruct hS hT ho hu hz hfs hpl hf
      · cases hc
    · rename_i n e hu
      obtain ⟨zero, hz, hc⟩ := Option.bind_eq_some_iff.1 hc
      obtain ⟨z, hzz, rfl⟩ := Option.map_eq_some_iff.1 hc
      simp only [stepOp] at hs
      obtain ⟨cs, hf, he⟩ := Option.map_eq_some_iff.1 hs
      simp only [Prod.mk.injEq] at he
      obtain ⟨rfl, rfl⟩ := he
      exact ok_buildArray hS hT ho hu hz hzz hf
    · cases hc
  · -- buildSlice
    rename_i ty n parts ho
    split at hc
    · rename_i e hu
      obtain ⟨z, hz, hc⟩ := Option.bind_eq_some_iff.1 hc
      obtain ⟨ag, ha, hc⟩ := Option.bind_eq_some_iff.1 hc
      obtain ⟨zero, hzero, hc⟩ := Option.bind_eq_some_iff.1 hc
      split at hc
      · rename_i hcond
        cases hc
        simp only [stepOp] at hs
        obtain ⟨cs, hf, hs⟩ := Option.bind_eq_some_iff.1 hs
        obtain ⟨⟨b, h1⟩, hn, he⟩ := Option.map_eq_some_iff.1 hs
        simp only [Prod.mk.injEq] at he
        obtain ⟨rfl, rfl⟩ := he
        exact ok_buildSl hS hT ho hu hz hzero hcond.2.1 hcond.2.2 hcond.1 hf hn
      · cases hc
    · cases hc
  · -- load
    rename_i ty x ho
    obtain ⟨z, hz, hc⟩ := Option.bind_eq_some_iff.1 hc
    obtain ⟨ag, ha, rfl⟩ := Option.map_eq_some_iff.1 hc
    simp only [stepOp] at hs
    obtain ⟨u, hu, he⟩ := Option.map_eq_some_iff.1 hs
    simp only [Prod.mk.injEq] at he
    obtain ⟨rfl, rfl⟩ := he
    exact ok_load hS hT ho hz ha hu
  · -- store
    rename_i ty p x ho
    obtain ⟨z, hz, rfl⟩ := Option.map_eq_some_iff.1 hc
    simp only [stepOp] at hs
    obtain ⟨u, hu, he⟩ := Option.map_eq_some_iff.1 hs
    simp only [Prod.mk.injEq] at he
    obtain ⟨rfl, rfl⟩ := he
    exact ok_store hS hT ho hz hu
  · -- nilCheck
    rename_i x ho
    cases hc
    simp only [stepOp] at hs
    obtain ⟨u, hu, he⟩ := Option.map_eq_some_iff.1 hs
    simp only [Prod.mk.injEq] at he
    obtain ⟨rfl, rfl⟩ := he
    exact ok_nilChk hS hT ho hu
  · -- binOp
    rename_i op ty x y yt ho
    split at hc
    · rename_i ks hk
      cases hc
      simp only [stepOp] at hs
      obtain ⟨p, h1, hs⟩ := Option.bind_eq_some_iff.1 hs
      obtain ⟨q, h2, hs⟩ := Option.bind_eq_some_iff.1 hs
      split at hs
      · rename_i hcond
        simp only [Option.some.injEq, Prod.mk.injEq] at hs
        obtain ⟨rfl, rfl⟩ := hs
        exact ok_aeq hS hT ho hk (.inl ⟨rfl, rfl⟩) h1 h2 hcond.1 hcond.2
      · cases hs
    · rename_i ks hk
      cases hc
      simp only [stepOp] at hs
      obtain ⟨p, h1, hs⟩ := Option.bind_eq_some_iff.1 hs
      obtain ⟨q, h2, hs⟩ := Option.bind_eq_some_iff.1 hs
      split at hs
      · rename_i hcond
        simp only [Option.some.injEq, Prod.mk.injEq] at hs
        obtain ⟨rfl, rfl⟩ := hs
        exact ok_aeq hS hT ho hk (.inr ⟨rfl, rfl⟩) h1 h2 hcond.1 hcond.2
      · cases hs
    case h_4 => cases hc
    cases hc
    simp only [stepOp] at hs
    obtain ⟨vs, h1, hs⟩ := Option.bind_eq_some_iff.1 hs
    obtain ⟨u, h2, hs⟩ := Option.bind_eq_some_iff.1 hs
    obtain ⟨x', h3, he⟩ := Option.map_eq_some_iff.1 hs
    simp only [Prod.mk.injEq] at he
    obtain ⟨rfl, rfl⟩ := he
    have := evL_ok hT h1
    subst this
    exact ok_pure hS (by simp only [execOp, ho, Pu.run, List.map_cons, List.map_nil]) h2 h3
  · -- unOp
    rename_i op ty x ho
    cases hc
    simp only [stepOp] at hs
    obtain ⟨vs, h1, hs⟩ := Option.bind_eq_some_iff.1 hs
    obtain ⟨u, h2, hs⟩ := Option.bind_eq_some_iff.1 hs
    obtain ⟨x', h3, he⟩ := Option.map_eq_some_iff.1 hs
    simp only [Prod.mk.injEq] at he
    obtain ⟨rfl, rfl⟩ := he
    have := evL_ok hT h1
    subst this
    exact ok_pure hS (by simp only [execOp, ho, Pu.run, List.map_cons, List.map_nil]) h2 h3
  · -- convert
    rename_i s d x ho
    split at hc
    · rename_i e hus hud
      split at hc
      · rename_i hu8
        cases hc
        simp only [stepOp] at hs
        obtain ⟨ys, h1, hs⟩ := Option.bind_eq_some_iff.1 hs
        obtain ⟨n, h2, hs⟩ := Option.bind_eq_some_iff.1 hs
        obtain ⟨bs, h3, hs⟩ := Option.bind_eq_some_iff.1 hs
        split at hs
        · rename_i hl
          simp only [Option.some.injEq, Prod.mk.injEq] at hs
          obtain ⟨rfl, rfl⟩ := hs
          refine ok_b2s hS hT ho hus ?_ hud h1 h2 h3 hl
          unfold isU8 at hu8
          split at hu8
          · rename_i h; exact h
          · cases hu8
        · cases hs
      · cases hc
    · cases hc
      simp only [stepOp] at hs
      obtain ⟨vs, h1, hs⟩ := Option.bind_eq_some_iff.1 hs
      obtain ⟨u, h2, hs⟩ := Option.bind_eq_some_iff.1 hs
      obtain ⟨x', h3, he⟩ := Option.map_eq_some_iff.1 hs
      simp only [Prod.mk.injEq] at he
      obtain ⟨rfl, rfl⟩ := he
      have := evL_ok hT h1
      subst this
      exact ok_pure hS (by simp only [execOp, ho, Pu.run, List.map_cons, List.map_nil]) h2 h3
  · -- slice
    rename_i ty x lo hi ho
    split at hc
    · rename_i hu
      cases hc
      simp only [stepOp] at hs
      obtain ⟨vs, h1, hs⟩ := Option.bind_eq_some_iff.1 hs
      obtain ⟨u, h2, hs⟩ := Option.bind_eq_some_iff.1 hs
      obtain ⟨x', h3, he⟩ := Option.map_eq_some_iff.1 hs
      simp only [Prod.mk.injEq] at he
      obtain ⟨rfl, rfl⟩ := he
      have := evL_ok hT h1
      subst this
      refine ok_pure hS ?_ h2 h3
      cases lo <;> cases hi <;> simp only [execOp, ho, Pu.run, List.map_cons, List.map_nil, Option.isSome_none, Option.isSome_some, Option.toList_none, Option.toList_some, List.nil_append, List.append_nil, List.cons_append, Option.map_none, Option.map_some]
    · rename_i e hu
      obtain ⟨z, hz, rfl⟩ := Option.map_eq_some_iff.1 hc
      simp only [stepOp] at hs
      obtain ⟨u, hu2, he⟩ := Option.map_eq_some_iff.1 hs
      simp only [Prod.mk.injEq] at he
      obtain ⟨rfl, rfl⟩ := he
      exact ok_slice hS hT ho hu hz hu2
    · rename_i n e hu
      obtain ⟨z, hz, hc⟩ := Option.bind_eq_some_iff.1 hc
      obtain ⟨ag, ha, hc⟩ := Option.bind_eq_some_iff.1 hc
      split at hc
      · rename_i hzp
        cases hc
        simp only [stepOp] at hs
        obtain ⟨u, hu2, he⟩ := Option.map_eq_some_iff.1 hs
        simp only [Prod.mk.injEq] at he
        obtain ⟨rfl, rfl⟩ := he
        exact ok_sliceA hS hT ho hu hz hzp hu2
      · cases hc
    · cases hc
  · -- fieldAddr
    rename_i s x f ho
    split at hc
    · rename_i fields hu
      obtain ⟨fd, hf, hc⟩ := Option.bind_eq_some_iff.1 hc
      obtain ⟨z, hz, hc⟩ := Option.bind_eq_some_iff.1 hc
      split at hc
      · cases hc
      · rename_i hne
        cases hc
        simp only [stepOp] at hs
        obtain ⟨u, hu2, he⟩ := Option.map_eq_some_iff.1 hs
        simp only [Prod.mk.injEq] at he
        obtain ⟨rfl, rfl⟩ := he
        exact ok_fieldA hS hT ho hu hf hz hne hu2
    · cases hc
  · -- field
    rename_i s x f ho
    split at hc
    · rename_i fields hu
      obtain ⟨fd, hf, hc⟩ := Option.bind_eq_some_iff.1 hc
      obtain ⟨z, hz, hc⟩ := Option.bind_eq_some_iff.1 hc
      obtain ⟨ag, ha, rfl⟩ := Option.map_eq_some_iff.1 hc
      simp only [stepOp] at hs
      by_cases hcond : fd.offset + (if ag then z else 1) ≤ (St.ev ⟨t, H⟩ x).cells.length ∧ isAggV (St.ev ⟨t, H⟩ x) = true
      · rw [if_pos hcond] at hs
        obtain ⟨u, hu2, he⟩ := Option.map_eq_some_iff.1 hs
        simp only [Prod.mk.injEq] at he
        obtain ⟨rfl, rfl⟩ := he
        exact ok_field hS hT ho hu hf hz ha hcond.1 hcond.2 hu2
      · rw [if_neg hcond] at hs
        cases hs
    · cases hc
  · -- indexAddr
    rename_i ty x i ho
    split at hc
    · rename_i e hu
      obtain ⟨z, hz, rfl⟩ := Option.map_eq_some_iff.1 hc
      simp only [stepOp] at hs
      obtain ⟨n, hn, hs⟩ := Option.bind_eq_some_iff.1 hs
      obtain ⟨u, hu2, he⟩ := Option.map_eq_some_iff.1 hs
      simp only [Prod.mk.injEq] at he
      obtain ⟨rfl, rfl⟩ := he
      exact ok_idxS hS hT ho hu hz hn hu2
    · rename_i n e hu
      obtain ⟨z, hz, rfl⟩ := Option.map_eq_some_iff.1 hc
      simp only [stepOp] at hs
      obtain ⟨k, hk, hs⟩ := Option.bind_eq_some_iff.1 hs
      split at hs
      · rename_i hcond
        obtain ⟨u, hu2, he⟩ := Option.map_eq_some_iff.1 hs
        simp only [Prod.mk.injEq] at he
        obtain ⟨rfl, rfl⟩ := he
        exact ok_idxA hS hT ho hu hz hk hcond.1 hcond.2 hu2
      · cases hs
    · cases hc
  · -- index
    rename_i ty x i ho
    split at hc
    · rename_i n e hu
      obtain ⟨z, hz, hc⟩ := Option.bind_eq_some_iff.1 hc
      obtain ⟨ag, ha, hc⟩ := Option.bind_eq_some_iff.1 hc
      split at hc
      · rename_i hz1
        cases hc
        simp only [stepOp] at hs
        obtain ⟨k, hk, hs⟩ := Option.bind_eq_some_iff.1 hs
        split at hs
        · rename_i hcond
          obtain ⟨u, hu2, he⟩ := Option.map_eq_some_iff.1 hs
          simp only [Prod.mk.injEq] at he
          obtain ⟨rfl, rfl⟩ := he
          exact ok_idxV hS hT ho hu hz ha hz1 hk hcond.1 hcond.2.1 hcond.2.2.1 hcond.2.2.2 hu2
        · cases hs
      · cases hc
    · rename_i hu
      cases hc
      simp only [stepOp] at hs
      obtain ⟨vs, h1, hs⟩ := Option.bind_eq_some_iff.1 hs
      obtain ⟨u, h2, hs⟩ := Option.bind_eq_some_iff.1 hs
      obtain ⟨x', h3, he⟩ := Option.map_eq_some_iff.1 hs
      simp only [Prod.mk.injEq] at he
      obtain ⟨rfl, rfl⟩ := he
      have := evL_ok hT h1
      subst this
      exact ok_pure hS (by simp only [execOp, ho, Pu.run, List.map_cons, List.map_nil]) h2 h3
    · cases hc
  · -- extract
    rename_i x k ho
    cases hc
    simp only [stepOp] at hs
    obtain ⟨u, hu2, he⟩ := Option.map_eq_some_iff.1 hs
    simp only [Prod.mk.injEq] at he
    obtain ⟨rfl, rfl⟩ := he
    exact ok_extract hS hT ho hu2
  · -- makeSlice
    rename_i ty l c ho
    split at hc
    · rename_i e hu
      obtain ⟨z, hz, hc⟩ := Option.bind_eq_some_iff.1 hc
      obtain ⟨ag, ha, hc⟩ := Option.bind_eq_some_iff.1 hc
      obtain ⟨zero, hzero, hc⟩ := Option.bind_eq_some_iff.1 hc
      obtain ⟨y, hy, hc⟩ := Option.bind_eq_some_iff.1 hc
      split at hc
      · rename_i hcond
        cases hc
        simp only [stepOp] at hs
        obtain ⟨n, hn, hs⟩ := Option.bind_eq_some_iff.1 hs
        obtain ⟨m, hm, hs⟩ := Option.bind_eq_some_iff.1 hs
        split at hs
        · rename_i hc2
          obtain ⟨⟨b, h1⟩, hns, he⟩ := Option.map_eq_some_iff.1 hs
          simp only [Prod.mk.injEq] at he
          obtain ⟨rfl, rfl⟩ := he
          exact ok_makeSl hS hT ho hu hz hzero hy hcond.1 hcond.2.1 hcond.2.2 hn hm hc2.1 hc2.2.1 hc2.2.2.1 hc2.2.2.2 hns
        · cases hs
      · cases hc
    · cases hc
  · -- makeFunc
    rename_i f first caps ho
    split at hc
    · rename_i hf
      cases hc
      simp only [stepOp, Option.some.injEq, Prod.mk.injEq] at hs
      obtain ⟨rfl, rfl⟩ := hs
      exact ok_clo hS hT ho hf
    · cases hc
  · -- makeInterface
    rename_i ty x ho
    split at hc
    · cases hc
    · rename_i hi
      cases hc
      simp only [stepOp, Option.some.injEq, Prod.mk.injEq] at hs
      obtain ⟨rfl, rfl⟩ := hs
      exact ok_ifc hS hT ho (by simpa using hi)
  · -- call
    rename_i c ho
    unfold compCall at hc
    split at hc
    · rename_i b hcal
      split at hc
      · -- append
        rename_i s x t1 t2 ha hat
        split at hc
        · rename_i e hu
          obtain ⟨z, hz, hc⟩ := Option.bind_eq_some_iff.1 hc
          obtain ⟨ag, hag, hc⟩ := Option.bind_eq_some_iff.1 hc
          obtain ⟨y, hy, hc⟩ := Option.bind_eq_some_iff.1 hc
          split at hc
          · rename_i hcond
            cases hc
            simp only [stepOp] at hs
            obtain ⟨ys, h1, hs⟩ := Option.bind_eq_some_iff.1 hs
            obtain ⟨n, h2, hs⟩ := Option.bind_eq_some_iff.1 hs
            split at hs
            · rename_i hc2
              exact ok_append hS hT ho hcal ha hat ⟨hu, hz, hy, hcond.1, hcond.2.1, hcond.2.2.1, hcond.2.2.2.1, hcond.2.2.2.2⟩ h1 h2 hc2.1 hc2.2 hs
            · cases hs
          · cases hc
        · cases hc
      · -- len
        rename_i x ty ha hat
        split at hc
        · rename_i hu
          cases hc
          simp only [stepOp] at hs
          obtain ⟨vs, h1, hs⟩ := Option.bind_eq_some_iff.1 hs
          obtain ⟨u, h2, hs⟩ := Option.bind_eq_some_iff.1 hs
          obtain ⟨x', h3, he⟩ := Option.map_eq_some_iff.1 hs
          simp only [Prod.mk.injEq] at he
          obtain ⟨rfl, rfl⟩ := he
          have := evL_ok hT h1
          subst this
          have ha' : c.args = #[x] := by apply Array.ext'; simpa using ha
          exact ok_pure hS (by simp [execOp, ho, resolve, hcal, ha', invoke, builtin, Pu.run]) h2 h3
        · rename_i e hu
          cases hc
          simp only [stepOp] at hs
          obtain ⟨n, hn, he⟩ := Option.map_eq_some_iff.1 hs
          simp only [Prod.mk.injEq] at he
          obtain ⟨rfl, rfl⟩ := he
          exact ok_len hS hT ho hcal ha hat hu hn
        · rename_i kt e hu
          cases hc
          simp only [stepOp] at hs
          obtain ⟨q, hm, he⟩ := Option.map_eq_some_iff.1 hs
          simp only [Prod.mk.injEq] at he
          obtain ⟨rfl, rfl⟩ := he
          exact ok_mlen hS hT ho hcal ha hat hu hm
        · cases hc
      · -- max
        cases hc
        simp only [stepOp] at hs
        obtain ⟨vs, h1, hs⟩ := Option.bind_eq_some_iff.1 hs
        obtain ⟨u, h2, hs⟩ := Option.bind_eq_some_iff.1 hs
        obtain ⟨x', h3, he⟩ := Option.map_eq_some_iff.1 hs
        simp only [Prod.mk.injEq] at he
        obtain ⟨rfl, rfl⟩ := he
        have := evL_ok hT h1
        subst this
        have hmap : c.args.map a.eval = (c.args.toList.map a.eval).toArray := by apply Array.ext'; simp
        exact ok_pure hS (by simp [execOp, ho, resolve, hcal, invoke, builtin, Pu.run, hmap]) h2 h3
      · -- min
        cases hc
        simp only [stepOp] at hs
        obtain ⟨vs, h1, hs⟩ := Option.bind_eq_some_iff.1 hs
        obtain ⟨u, h2, hs⟩ := Option.bind_eq_some_iff.1 hs
        obtain ⟨x', h3, he⟩ := Option.map_eq_some_iff.1 hs
        simp only [Prod.mk.injEq] at he
        obtain ⟨rfl, rfl⟩ := he
        have := evL_ok hT h1
        subst this
        have hmap : c.args.map a.eval = (c.args.toList.map a.eval).toArray := by apply Array.ext'; simp
        exact ok_pure hS (by simp [execOp, ho, resolve, hcal, invoke, builtin, Pu.run, hmap]) h2 h3
      · -- delete
        rename_i m k mt tl ha hat
        split at hc
        · rename_i kt e hu
          obtain ⟨q, hq, rfl⟩ := Option.map_eq_some_iff.1 hc
          simp only [stepOp] at hs
          obtain ⟨p, hm, hs⟩ := Option.bind_eq_some_iff.1 hs
          obtain ⟨l, hl, hs⟩ := Option.bind_eq_some_iff.1 hs
          obtain ⟨cs, hcs, hs⟩ := Option.bind_eq_some_iff.1 hs
          split at hs
          · rename_i hf
            simp only [Option.some.injEq, Prod.mk.injEq] at hs
            obtain ⟨rfl, rfl⟩ := hs
            exact ok_del hS hT ho hcal ha hat hu hq hm hl hcs hf
          · cases hs
        · cases hc
      · cases hc
    · rename_i f hcal
      split at hc
      · rename_i hf
        cases hc
        exact ok_call hS hT ho hcal hf hE (by simp only [FuncId] at *; omega) hs
      · cases hc
    · rename_i g hcal
      cases hc
      simp only [stepOp] at hs
      split at hs
      · rename_i f caps hg
        exact ok_dyn hS hT ho hcal hg hE hs
      · cases hs
    · cases hc
  · -- makeMap
    rename_i ty ho
    cases hc
    simp only [stepOp] at hs
    obtain ⟨⟨b, h1⟩, hn, he⟩ := Option.map_eq_some_iff.1 hs
    simp only [Prod.mk.injEq] at he
    obtain ⟨rfl, rfl⟩ := he
    exact ok_makeMap hS ho hn
  · -- lookup
    rename_i mt m k ok ho
    split at hc
    · rename_i kt e hu
      obtain ⟨q, hq, hc⟩ := Option.bind_eq_some_iff.1 hc
      obtain ⟨z, hz, rfl⟩ := Option.map_eq_some_iff.1 hc
      simp only [stepOp] at hs
      obtain ⟨p, hm, hs⟩ := Option.bind_eq_some_iff.1 hs
      obtain ⟨l, hl, hs⟩ := Option.bind_eq_some_iff.1 hs
      obtain ⟨cs, hcs, hs⟩ := Option.bind_eq_some_iff.1 hs
      split at hs
      · rename_i hf
        obtain ⟨u, hu2, hs⟩ := Option.map_eq_some_iff.1 hs
        simp only [Prod.mk.injEq] at hs
        obtain ⟨rfl, rfl⟩ := hs
        exact ok_lookup hS hT ho hu hq hz hm hl hcs hf hu2
      · cases hs
    · cases hc
  · -- mapUpdate
    rename_i mt m k x ho
    split at hc
    · rename_i kt e hu
      obtain ⟨q, hq, rfl⟩ := Option.map_eq_some_iff.1 hc
      simp only [stepOp] at hs
      obtain ⟨p, hm, hs⟩ := Option.bind_eq_some_iff.1 hs
      obtain ⟨l, hl, hs⟩ := Option.bind_eq_some_iff.1 hs
      obtain ⟨cs, hcs, hs⟩ := Option.bind_eq_some_iff.1 hs
      split at hs
      · rename_i hf
        simp only [Option.some.injEq, Prod.mk.injEq] at hs
        obtain ⟨rfl, rfl⟩ := hs
        exact ok_mapSet hS hT (.inl ho) hu hq hm hl hcs hf
      · cases hs
    · cases hc
  · rename_i mt m k x ho
    split at hc
    · rename_i kt e hu
      obtain ⟨q, hq, rfl⟩ := Option.map_eq_some_iff.1 hc
      simp only [stepOp] at hs
      obtain ⟨p, hm, hs⟩ := Option.bind_eq_some_iff.1 hs
      obtain ⟨l, hl, hs⟩ := Option.bind_eq_some_iff.1 hs
      obtain ⟨cs, hcs, hs⟩ := Option.bind_eq_some_iff.1 hs
      split at hs
      · rename_i hf
        simp only [Option.some.injEq, Prod.mk.injEq] at hs
        obtain ⟨rfl, rfl⟩ := hs
        exact ok_mapSet hS hT (.inr ho) hu hq hm hl hcs hf
      · cases hs
    · cases hc
  · cases hc

end

/-- How slices in the cells of a type are laid: only a hint. -/
def slHint (P : Program) : Nat → TypeId → List (Nat × Bool)
  | 0, _ => []
  | n + 1, t => match P.underlying t with
    | some (.slice e) => [((szOf P e).getD 0, (agOf P e).getD false)]
    | some (.struct fs) => fs.toList.flatMap fun f => slHint P n f.type
    | some (.array k e) => (List.replicate k (slHint P n e)).flatten
    | _ => [(0, false)]
def hintOf (P : Program) (o : Oper) : List (Nat × Bool) := match o.op with
  | .alloc e => slHint P 8 e
  | .store t _ _ => slHint P 8 t
  | .assign _ => slHint P 8 o.type
  | .move _ => slHint P 8 o.type
  | .call c => c.argTypes.toList.map fun t => (slHint P 8 t).headD (0, false)
  | _ => []

def isNilC : Operand → Bool
  | .const v => isNilV v
  | _ => false

theorem isNilC_eq {x : Operand} (h : isNilC x = true) : x = .const (.slice none 0 0) := by
  cases x with
  | const v => obtain rfl := isNilV_eq h; rfl
  | _ => cases h

/-- In a region whose order is the text's: nil slices and new variables as the function's own, calls that hand over what they made. -/
def finOp (sq : Bool) (ht : List (Nat × Bool)) (own : Nat → Bool) : AOp → AOp
  | .mv x => match x with
    | .const v => if sq && isNilV v then .vnil (ht.headD (0, false)).1 (ht.headD (0, false)).2 else .mv (.const v)
    | x => .mv x
  | .alloc zero => if sq then .allocV ht zero else .alloc zero
  | .store z a x => if sq then .storeV ht z a x else .store z a x
  | .call c args => if own (c / 2) then (if sq && args.any isNilC then .callV (2 * (c / 2) + 1) ht args else .call (2 * (c / 2) + 1) args) else .call c args
  | .append z ag y s x => if sq && isNilC s then .appendV z ag y x else .append z ag y s x
  | op => op

section
variable {P : Program} {base : Nat} {X : Nat → Prop} {o : Oper} {a : Act} {w : World} {H H' : Heap} {G : List Nat} {v : V} {t : Nat → V}

theorem compOp_mv {x : Operand} (h : compOp P o = some (.mv x)) : o.op = .move x ∨ o.op = .assign x := by
  unfold compOp at h
  repeat' split at h
  all_goals first
    | (cases h; left; assumption)
    | (cases h; right; assumption)
    | (cases h; done)
    | (simp [Option.bind_eq_some_iff, Option.map_eq_some_iff] at h; done)
    | skip
  · exfalso
    unfold compCall at h
    repeat' split at h
    all_goals first
      | (cases h; done)
      | (simp [Option.bind_eq_some_iff, Option.map_eq_some_iff] at h; done)

theorem compOp_alloc {zero : List Value} (h : compOp P o = some (.alloc zero)) : ∃ e, o.op = .alloc e ∧ zeroOf P e = some zero := by
  unfold compOp at h
  repeat' split at h
  all_goals first
    | (rename_i e ho; obtain ⟨z, hz, h⟩ := Option.map_eq_some_iff.1 h; cases h; exact ⟨e, ho, hz⟩)
    | (cases h; done)
    | (simp [Option.bind_eq_some_iff, Option.map_eq_some_iff] at h; done)
    | skip
  · exfalso
    unfold compCall at h
    repeat' split at h
    all_goals first
      | (cases h; done)
      | (simp [Option.bind_eq_some_iff, Option.map_eq_some_iff] at h; done)

theorem compOp_call {c : Nat} {args : List Operand} (h : compOp P o = some (.call c args)) : ∃ cl f, o.op = .call cl ∧ cl.callee = .value (.func f) ∧ callable P f = true ∧ c = 2 * f ∧ args = cl.args.toList := by
  unfold compOp at h
  repeat' split at h
  all_goals first
    | (cases h; done)
    | (simp [Option.bind_eq_some_iff, Option.map_eq_some_iff] at h; done)
    | skip
  · rename_i cl ho
    unfold compCall at h
    repeat' split at h
    all_goals first
      | (cases h; done)
      | (simp [Option.bind_eq_some_iff, Option.map_eq_some_iff] at h; done)
      | skip
    · rename_i f hcal hf
      cases h
      exact ⟨cl, f, ho, hcal, hf, rfl, rfl⟩

theorem compOp_store {z : Nat} {p x : Operand} (h : compOp P o = some (.store z p x)) : ∃ ty, o.op = .store ty p x ∧ szOf P ty = some z := by
  unfold compOp at h
  repeat' split at h
  all_goals first
    | (rename_i ty a b ho; obtain ⟨z', hz, h⟩ := Option.map_eq_some_iff.1 h; cases h; exact ⟨ty, ho, hz⟩)
    | (cases h; done)
    | (simp [Option.bind_eq_some_iff, Option.map_eq_some_iff] at h; done)
    | skip
  · exfalso
    unfold compCall at h
    repeat' split at h
    all_goals first
      | (cases h; done)
      | (simp [Option.bind_eq_some_iff, Option.map_eq_some_iff] at h; done)

theorem compOp_append {z y : Nat} {ag : Bool} {s x : Operand} (h : compOp P o = some (.append z ag y s x)) : ∃ c t1 t2 e, o.op = .call c ∧ c.callee = .builtin .append ∧ c.args.toList = [s, x] ∧ c.argTypes.toList = [t1, t2] ∧ AppTy P t1 t2 e z y := by
  unfold compOp at h
  repeat' split at h
  all_goals first
    | (cases h; done)
    | (simp [Option.bind_eq_some_iff, Option.map_eq_some_iff] at h; done)
    | skip
  · rename_i cl ho
    unfold compCall at h
    split at h
    · rename_i b hcal
      split at h
      · rename_i s' x' t1 t2 ha hat
        split at h
        · rename_i e hu
          obtain ⟨z', hz, h⟩ := Option.bind_eq_some_iff.1 h
          obtain ⟨ag', hag, h⟩ := Option.bind_eq_some_iff.1 h
          obtain ⟨y', hy, h⟩ := Option.bind_eq_some_iff.1 h
          split at h
          · rename_i hcond
            cases h
            exact ⟨cl, t1, t2, e, ho, hcal, ha, hat, ⟨hu, hz, hy, hcond.1, hcond.2.1, hcond.2.2.1, hcond.2.2.2.1, hcond.2.2.2.2⟩⟩
          · cases h
        · cases h
      · split at h
        · cases h
        · cases h
        · cases h
        · cases h
      · cases h
      · cases h
      · split at h
        · obtain ⟨q, _, h⟩ := Option.map_eq_some_iff.1 h
          cases h
        · cases h
      · cases h
    · split at h <;> cases h
    · cases h
    · cases h

theorem ok_callV {env : Env} {slot : Option Nat} {c : Call} {f : FuncId} {ht : List (Nat × Bool)} (hS : SimH base X w H G) (hT : TV w base (Mof X H G) H G t a.tmps) (ho : o.op = .call c) (hc : c.callee = .value (.func f)) (hf : callable P f = true)
    (hE : EnvOK P env) {d : Nat} (hd : d / 2 = f) (hv : env d slot (virtV ht H.length (c.args.toList.map (St.ev ⟨t, H⟩))) (H ++ List.replicate (nilsV (c.args.toList.map (St.ev ⟨t, H⟩))) .virt) = some (v, H')) : StepOK P base X o a w H G v H' := by
  obtain ⟨h1, h2⟩ := hE d slot _ _ v H' hv
  rw [hd] at h1 h2
  obtain ⟨G1, hX, hS1⟩ := virts_ok (nilsV (c.args.toList.map (St.ev ⟨t, H⟩))) hS
  have hl : RVL w base (Mof X (H ++ List.replicate (nilsV (c.args.toList.map (St.ev ⟨t, H⟩))) .virt) G1) (H ++ List.replicate (nilsV (c.args.toList.map (St.ev ⟨t, H⟩))) .virt) G1 (virtV ht H.length (c.args.toList.map (St.ev ⟨t, H⟩))) (c.args.map a.eval).toList := by
    refine virtV_ok _ _ ht H.length ?_ (by
      intro j hj
      rw [List.getElem?_append_right (by omega)]
      simp [hj])
    have := evs_ok (h := H) hT c.args.toList
    have := RVL.ext hX (by simpa using this)
    simpa using this
  have hstep : StepOK P base X o a w _ G1 v H' := StepOK.enter (f := f) (xs := c.args.map a.eval) hS1 (by
    simp only [execOp, ho, resolve, hc, Act.eval, Deferred.ofValue, invoke, Sem.run_bind, Sem.run_pure, Result.andThen_ok]
    rw [run_callFunc hf]
    simp [Act.eval]) h2 hl
  intro next Q hn
  refine hstep next Q ?_
  intro x' w' G' hE' hS' hv'
  exact hn x' w' G' (hX.trans hE') hS' hv'

theorem normOp_keep {op : AOp} (h : ∀ p xs, normOp P op ≠ .pu p xs) : normOp P op = op := by
  cases op with
  | pu p xs =>
    exfalso
    cases hn : normPu P p with
    | some q => exact h (.n q) xs (by simp [normOp, hn])
    | none => exact h p xs (by simp [normOp, hn])
  | _ => rfl

theorem fin_ok {env : Env} {slot : Option Nat} {aop : AOp} {sq : Bool} {ht : List (Nat × Bool)} {own : Nat → Bool} (hslot : sq = true → slot = none) (hE : EnvOK P env) (hS : SimH base X w H G) (hT : TV w base (Mof X H G) H G t a.tmps) (hc : compOp P o = some aop)
    (hs : stepOp P env slot (finOp sq ht own (normOp P aop)) ⟨t, H⟩ = some (v, H')) : StepOK P base X o a w H G v H' := by
  have hold : ∀ op, op = normOp P aop → stepOp P env slot op ⟨t, H⟩ = some (v, H') → StepOK P base X o a w H G v H' := fun op e h => step_ok hE hS hT hc (normOp_ok (by rw [← e]; exact h))
  generalize hop : normOp P aop = op at hs
  unfold finOp at hs
  split at hs
  · rename_i x
    have := normOp_keep (P := P) (op := aop) (by rw [hop]; intro p xs e; cases e)
    rw [hop] at this
    rw [← this] at hc
    split at hs
    · rename_i u
      split at hs
      · rename_i hq
        simp only [Bool.and_eq_true] at hq
        obtain rfl := isNilV_eq hq.2
        simp only [stepOp] at hs
        obtain ⟨⟨b, h1⟩, hn, he⟩ := Option.map_eq_some_iff.1 hs
        simp only [Prod.mk.injEq] at he
        obtain ⟨rfl, rfl⟩ := he
        exact ok_vnil hS (compOp_mv hc) hn
      · exact hold _ hop.symm hs
    · exact hold _ hop.symm hs
  · rename_i zero
    have := normOp_keep (P := P) (op := aop) (by rw [hop]; intro p xs e; cases e)
    rw [hop] at this
    rw [← this] at hc
    split at hs
    · simp only [stepOp, Option.some.injEq, Prod.mk.injEq] at hs
      obtain ⟨rfl, rfl⟩ := hs
      obtain ⟨e, ho, hz⟩ := compOp_alloc hc
      exact ok_allocV hS ho hz
    · exact hold _ hop.symm hs
  · rename_i z p x
    have := normOp_keep (P := P) (op := aop) (by rw [hop]; intro p xs e; cases e)
    rw [hop] at this
    rw [← this] at hc
    split at hs
    · simp only [stepOp] at hs
      obtain ⟨h1, h2, he⟩ := Option.map_eq_some_iff.1 hs
      simp only [Prod.mk.injEq] at he
      obtain ⟨rfl, rfl⟩ := he
      obtain ⟨ty, ho, hz⟩ := compOp_store hc
      exact ok_storeV hS hT ho hz h2
    · exact hold _ hop.symm hs
  · rename_i c args
    have := normOp_keep (P := P) (op := aop) (by rw [hop]; intro p xs e; cases e)
    rw [hop] at this
    rw [← this] at hc
    split at hs
    · split at hs
      · simp only [stepOp] at hs
        obtain ⟨cl, f, ho, hcal, hf, rfl, rfl⟩ := compOp_call hc
        exact ok_callV hS hT ho hcal hf hE (by simp only [FuncId] at *; omega) hs
      · simp only [stepOp] at hs
        obtain ⟨cl, f, ho, hcal, hf, rfl, rfl⟩ := compOp_call hc
        exact ok_call hS hT ho hcal hf hE (by simp only [FuncId] at *; omega) hs
    · exact hold _ hop.symm hs
  · rename_i z ag y s x
    have := normOp_keep (P := P) (op := aop) (by rw [hop]; intro p xs e; cases e)
    rw [hop] at this
    rw [← this] at hc
    split at hs
    · rename_i hq
      simp only [Bool.and_eq_true] at hq
      obtain rfl := isNilC_eq hq.2
      simp only [stepOp] at hs
      obtain ⟨c, t1, t2, e, ho, hcal, ha, hat, hA⟩ := compOp_append hc
      obtain ⟨ys, h1, hs⟩ := Option.bind_eq_some_iff.1 hs
      obtain ⟨n, h2, hs⟩ := Option.bind_eq_some_iff.1 hs
      split at hs
      · rename_i hc2
        exact ok_appendV hS hT ho hcal ha hat hA h1 h2 hc2.1 hc2.2 hs
      · cases hs
    · exact hold _ hop.symm hs
  · exact hold _ hop.symm hs

end
end Go.AM
