/- Calls, and all operations together. No condition. -/
import Derived.Test.YtlfbhelaehdemaaLabA14
set_option linter.unusedVariables false
set_option linter.unusedSimpArgs false
namespace Go.AM

/-- What is owed of a function: on whatever heap it is called. -/
def FnOK (P : Program) (f : FuncId) (args : List V) (H : Heap) (v : V) (H' : Heap) : Prop :=
  ∀ (base : Nat) (X : Nat → Prop) (w : World) (G : List Nat) (xs : Array Value), SimH base X w H G → RVL w base (Mof X H G) H G args xs.toList →
    Calls P f xs w fun e w' => ∃ x G', e = .returned x ∧ Ext w H G w' H' G' ∧ SimH base X w' H' G' ∧ RV w' base (Mof X H' G') H' G' v x

def EnvOK (P : Program) (env : Env) : Prop := ∀ f slot args H v H', env f slot args H = some (v, H') → callable P f = true ∧ FnOK P f args H v H'

section
variable {P : Program} {base : Nat} {X : Nat → Prop} {o : Oper} {a : Act} {w : World} {H H' : Heap} {G : List Nat} {v : V} {t : Nat → V}

theorem run_callFunc {f : FuncId} (h : callable P f = true) (args : Array Value) (w : World) : (callFunc f args).run P w = .ok (.enter f args) w := by
  unfold callable at h
  split at h
  · rename_i fn hf
    simp at h
    obtain ⟨h1, h2⟩ := h
    have hb : fn.body.isNone = false := by
      cases hb : fn.body with
      | none => rw [hb] at h1; simp at h1
      | some c => rfl
    have hn : (fn.name == "runtime.NumGoroutine") = false := by simpa using h2
    unfold callFunc
    simp only [Sem.run_bind, run_program, Result.andThen_ok, hf, hn, hb, Bool.false_eq_true, if_false]
    rfl
  · cases h

theorem StepOK.enter {f : FuncId} {args : List V} {xs : Array Value} (hS : SimH base X w H G) (hr : (execOp a.eval o).run P w = .ok (.enter f xs) w) (hf : FnOK P f args H v H') (hl : RVL w base (Mof X H G) H G args xs.toList) :
    StepOK P base X o a w H G v H' := by
  intro next Q hn
  unfold Oper.wp
  rw [hr, Oper.upon_enter]
  refine (hf base X w G xs hS hl).mono ?_
  rintro e w' ⟨x, G', rfl, hE, hS', hv⟩
  exact hn x w' G' hE hS' hv

theorem ok_call {env : Env} {slot : Option Nat} {c : Call} {f : FuncId} (hS : SimH base X w H G) (hT : TV w base (Mof X H G) H G t a.tmps) (ho : o.op = .call c) (hc : c.callee = .value (.func f)) (hf : callable P f = true)
    (hE : EnvOK P env) (hv : env f slot (c.args.toList.map (St.ev ⟨t, H⟩)) H = some (v, H')) : StepOK P base X o a w H G v H' := by
  obtain ⟨h1, h2⟩ := hE f slot _ H v H' hv
  refine StepOK.enter (f := f) (xs := c.args.map a.eval) hS ?_ h2 ?_
  · simp only [execOp, ho, resolve, hc, Act.eval, Deferred.ofValue, invoke, Sem.run_bind, Sem.run_pure, Result.andThen_ok]
    rw [run_callFunc hf]
    simp [Act.eval]
  · have := evs_ok (h := H) hT c.args.toList
    simpa using this

theorem ok_dyn {env : Env} {slot : Option Nat} {c : Call} {g : Operand} {f : FuncId} {caps : List V} (hS : SimH base X w H G) (hT : TV w base (Mof X H G) H G t a.tmps) (ho : o.op = .call c) (hc : c.callee = .value g)
    (hg : St.ev ⟨t, H⟩ g = .clo f caps) (hE : EnvOK P env) (hv : env f slot (c.args.toList.map (St.ev ⟨t, H⟩) ++ caps) H = some (v, H')) : StepOK P base X o a w H G v H' := by
  obtain ⟨h1, h2⟩ := hE f slot _ H v H' hv
  have hgv := ev_ok (h := H) hT g
  rw [hg] at hgv
  generalize hu : a.eval g = u at hgv
  cases hgv with
  | clo hl =>
    rename_i xs
    refine StepOK.enter (f := f) (xs := c.args.map a.eval ++ xs) hS ?_ h2 ?_
    · simp only [execOp, ho, resolve, hc, hu, Deferred.ofValue, invoke, Sem.run_bind, Sem.run_pure, Result.andThen_ok]
      rw [run_callFunc h1]
      simp
    · have := (evs_ok (h := H) hT c.args.toList).append hl
      simpa using this

theorem step_ok {env : Env} {slot : Option Nat} {aop : AOp} (hE : EnvOK P env) (hS : SimH base X w H G) (hT : TV w base (Mof X H G) H G t a.tmps) (hc : compOp P o = some aop) (hs : stepOp P env slot aop ⟨t, H⟩ = some (v, H')) :
    StepOK P base X o a w H G v H' := by
  unfold compOp at hc
  split at hc
  · -- move, assign
    rename_i x ho
    cases hc
    simp only [stepOp, Option.some.injEq, Prod.mk.injEq] at hs
    obtain ⟨rfl, rfl⟩ := hs
    exact ok_mv hS hT (.inl ho)
  · rename_i x ho
    cases hc
    simp only [stepOp, Option.some.injEq, Prod.mk.injEq] at hs
    obtain ⟨rfl, rfl⟩ := hs
    exact ok_mv hS hT (.inr ho)
  · -- pick
    rename_i c x y ho
    cases hc
    simp only [stepOp] at hs
    split at hs
    · rename_i f b hcv
      simp only [Option.some.injEq, Prod.mk.injEq] at hs
      obtain ⟨rfl, rfl⟩ := hs
      exact ok_pick hS hT ho hcv
    · cases hs
  · -- alloc
    rename_i e ho
    obtain ⟨zero, hz, rfl⟩ := Option.map_eq_some_iff.1 hc
    simp only [stepOp] at hs
    obtain ⟨⟨b, h1⟩, hn, he⟩ := Option.map_eq_some_iff.1 hs
    simp only [Prod.mk.injEq] at he
    obtain ⟨rfl, rfl⟩ := he
    exact ok_alloc hS ho hz hn
  · -- box
    rename_i e x ho
    cases hc
    simp only [stepOp] at hs
    split at hs
    · rename_i hx
      obtain ⟨⟨b, h1⟩, hn, he⟩ := Option.map_eq_some_iff.1 hs
      simp only [Prod.mk.injEq] at he
      obtain ⟨rfl, rfl⟩ := he
      exact ok_box hS hT ho hx hn
    · cases hs
  · -- build
    rename_i ty parts ho
    split at hc
    · rename_i fields hu
      obtain ⟨zero, hz, hc⟩ := Option.bind_eq_some_iff.1 hc
      obtain ⟨fs, hfs, hc⟩ := Option.bind_eq_some_iff.1 hc
      split at hc
      · rename_i hpl
        cases hc
        simp only [stepOp] at hs
        obtain ⟨cs, hf, he⟩ := Option.map_eq_some_iff.1 hs
        simp only [Prod.mk.injEq] at he
        obtain ⟨rfl, rfl⟩ := he
        exact ok_buildStruct hS hT ho hu hz hfs hpl hf
      · cases hc
    · rename_i n e hu
      obtain ⟨zero, hz, hc⟩ := Option.bind_eq_some_iff.1 hc
      obtain ⟨z, hzz, rfl⟩ := Option.map_eq_some_iff.1 hc
      simp only [stepOp] at hs
      obtain ⟨cs, hf, he⟩ := Option.map_eq_some_iff.1 hs
      simp only [Prod.mk.injEq] at he
      obtain ⟨rfl, rfl⟩ := he
      exact ok_buildArray hS hT ho hu hz hzz hf
    · cases hc
  · -- buildSlice
    rename_i ty n parts ho
    split at hc
    · rename_i e hu
      obtain ⟨z, hz, hc⟩ := Option.bind_eq_some_iff.1 hc
      obtain ⟨ag, ha, hc⟩ := Option.bind_eq_some_iff.1 hc
      obtain ⟨zero, hzero, hc⟩ := Option.bind_eq_some_iff.1 hc
      split at hc
      · rename_i hcond
        cases hc
        simp only [stepOp] at hs
        obtain ⟨cs, hf, hs⟩ := Option.bind_eq_some_iff.1 hs
        obtain ⟨⟨b, h1⟩, hn, he⟩ := Option.map_eq_some_iff.1 hs
        simp only [Prod.mk.injEq] at he
        obtain ⟨rfl, rfl⟩ := he
        exact ok_buildSl hS hT ho hu hz hzero hcond.2.1 hcond.2.2 hcond.1 hf hn
      · cases hc
    · cases hc
  · -- load
    rename_i ty x ho
    obtain ⟨z, hz, hc⟩ := Option.bind_eq_some_iff.1 hc
    obtain ⟨ag, ha, rfl⟩ := Option.map_eq_some_iff.1 hc
    simp only [stepOp] at hs
    obtain ⟨u, hu, he⟩ := Option.map_eq_some_iff.1 hs
    simp only [Prod.mk.injEq] at he
    obtain ⟨rfl, rfl⟩ := he
    exact ok_load hS hT ho hz ha hu
  · -- store
    rename_i ty p x ho
    obtain ⟨z, hz, rfl⟩ := Option.map_eq_some_iff.1 hc
    simp only [stepOp] at hs
    obtain ⟨u, hu, he⟩ := Option.map_eq_some_iff.1 hs
    simp only [Prod.mk.injEq] at he
    obtain ⟨rfl, rfl⟩ := he
    exact ok_store hS hT ho hz hu
  · -- nilCheck
    rename_i x ho
    cases hc
    simp only [stepOp] at hs
    obtain ⟨u, hu, he⟩ := Option.map_eq_some_iff.1 hs
    simp only [Prod.mk.injEq] at he
    obtain ⟨rfl, rfl⟩ := he
    exact ok_nilChk hS hT ho hu
  · -- binOp
    rename_i op ty x y yt ho
    cases hc
    simp only [stepOp] at hs
    obtain ⟨vs, h1, hs⟩ := Option.bind_eq_some_iff.1 hs
    obtain ⟨u, h2, hs⟩ := Option.bind_eq_some_iff.1 hs
    obtain ⟨x', h3, he⟩ := Option.map_eq_some_iff.1 hs
    simp only [Prod.mk.injEq] at he
    obtain ⟨rfl, rfl⟩ := he
    have := evL_ok hT h1
    subst this
    exact ok_pure hS (by simp only [execOp, ho, Pu.run, List.map_cons, List.map_nil]) h2 h3
  · -- unOp
    rename_i op ty x ho
    cases hc
    simp only [stepOp] at hs
    obtain ⟨vs, h1, hs⟩ := Option.bind_eq_some_iff.1 hs
    obtain ⟨u, h2, hs⟩ := Option.bind_eq_some_iff.1 hs
    obtain ⟨x', h3, he⟩ := Option.map_eq_some_iff.1 hs
    simp only [Prod.mk.injEq] at he
    obtain ⟨rfl, rfl⟩ := he
    have := evL_ok hT h1
    subst this
    exact ok_pure hS (by simp only [execOp, ho, Pu.run, List.map_cons, List.map_nil]) h2 h3
  · -- convert
    rename_i s d x ho
    split at hc
    · rename_i e hus hud
      split at hc
      · rename_i hu8
        cases hc
        simp only [stepOp] at hs
        obtain ⟨ys, h1, hs⟩ := Option.bind_eq_some_iff.1 hs
        obtain ⟨n, h2, hs⟩ := Option.bind_eq_some_iff.1 hs
        obtain ⟨bs, h3, hs⟩ := Option.bind_eq_some_iff.1 hs
        split at hs
        · rename_i hl
          simp only [Option.some.injEq, Prod.mk.injEq] at hs
          obtain ⟨rfl, rfl⟩ := hs
          refine ok_b2s hS hT ho hus ?_ hud h1 h2 h3 hl
          unfold isU8 at hu8
          split at hu8
          · rename_i h; exact h
          · cases hu8
        · cases hs
      · cases hc
    · cases hc
      simp only [stepOp] at hs
      obtain ⟨vs, h1, hs⟩ := Option.bind_eq_some_iff.1 hs
      obtain ⟨u, h2, hs⟩ := Option.bind_eq_some_iff.1 hs
      obtain ⟨x', h3, he⟩ := Option.map_eq_some_iff.1 hs
      simp only [Prod.mk.injEq] at he
      obtain ⟨rfl, rfl⟩ := he
      have := evL_ok hT h1
      subst this
      exact ok_pure hS (by simp only [execOp, ho, Pu.run, List.map_cons, List.map_nil]) h2 h3
  · -- slice
    rename_i ty x lo hi ho
    split at hc
    · rename_i hu
      cases hc
      simp only [stepOp] at hs
      obtain ⟨vs, h1, hs⟩ := Option.bind_eq_some_iff.1 hs
      obtain ⟨u, h2, hs⟩ := Option.bind_eq_some_iff.1 hs
      obtain ⟨x', h3, he⟩ := Option.map_eq_some_iff.1 hs
      simp only [Prod.mk.injEq] at he
      obtain ⟨rfl, rfl⟩ := he
      have := evL_ok hT h1
      subst this
      refine ok_pure hS ?_ h2 h3
      cases lo <;> cases hi <;> simp only [execOp, ho, Pu.run, List.map_cons, List.map_nil, Option.isSome_none, Option.isSome_some, Option.toList_none, Option.toList_some, List.nil_append, List.append_nil, List.cons_append, Option.map_none, Option.map_some]
    · rename_i e hu
      obtain ⟨z, hz, rfl⟩ := Option.map_eq_some_iff.1 hc
      simp only [stepOp] at hs
      obtain ⟨u, hu2, he⟩ := Option.map_eq_some_iff.1 hs
      simp only [Prod.mk.injEq] at he
      obtain ⟨rfl, rfl⟩ := he
      exact ok_slice hS hT ho hu hz hu2
    · rename_i n e hu
      obtain ⟨z, hz, hc⟩ := Option.bind_eq_some_iff.1 hc
      obtain ⟨ag, ha, hc⟩ := Option.bind_eq_some_iff.1 hc
      split at hc
      · cases hc
        simp only [stepOp] at hs
        obtain ⟨u, hu2, he⟩ := Option.map_eq_some_iff.1 hs
        simp only [Prod.mk.injEq] at he
        obtain ⟨rfl, rfl⟩ := he
        exact ok_sliceA hS hT ho hu hz hu2
      · cases hc
    · cases hc
  · -- fieldAddr
    rename_i s x f ho
    split at hc
    · rename_i fields hu
      obtain ⟨fd, hf, hc⟩ := Option.bind_eq_some_iff.1 hc
      obtain ⟨z, hz, hc⟩ := Option.bind_eq_some_iff.1 hc
      split at hc
      · cases hc
      · rename_i hne
        cases hc
        simp only [stepOp] at hs
        obtain ⟨u, hu2, he⟩ := Option.map_eq_some_iff.1 hs
        simp only [Prod.mk.injEq] at he
        obtain ⟨rfl, rfl⟩ := he
        exact ok_fieldA hS hT ho hu hf hz hne hu2
    · cases hc
  · -- field
    rename_i s x f ho
    split at hc
    · rename_i fields hu
      obtain ⟨fd, hf, hc⟩ := Option.bind_eq_some_iff.1 hc
      obtain ⟨z, hz, hc⟩ := Option.bind_eq_some_iff.1 hc
      obtain ⟨ag, ha, rfl⟩ := Option.map_eq_some_iff.1 hc
      simp only [stepOp] at hs
      by_cases hcond : fd.offset + (if ag then z else 1) ≤ (St.ev ⟨t, H⟩ x).cells.length ∧ isAggV (St.ev ⟨t, H⟩ x) = true
      · rw [if_pos hcond] at hs
        obtain ⟨u, hu2, he⟩ := Option.map_eq_some_iff.1 hs
        simp only [Prod.mk.injEq] at he
        obtain ⟨rfl, rfl⟩ := he
        exact ok_field hS hT ho hu hf hz ha hcond.1 hcond.2 hu2
      · rw [if_neg hcond] at hs
        cases hs
    · cases hc
  · -- indexAddr
    rename_i ty x i ho
    split at hc
    · rename_i e hu
      obtain ⟨z, hz, rfl⟩ := Option.map_eq_some_iff.1 hc
      simp only [stepOp] at hs
      obtain ⟨n, hn, hs⟩ := Option.bind_eq_some_iff.1 hs
      obtain ⟨u, hu2, he⟩ := Option.map_eq_some_iff.1 hs
      simp only [Prod.mk.injEq] at he
      obtain ⟨rfl, rfl⟩ := he
      exact ok_idxS hS hT ho hu hz hn hu2
    · rename_i n e hu
      obtain ⟨z, hz, rfl⟩ := Option.map_eq_some_iff.1 hc
      simp only [stepOp] at hs
      obtain ⟨k, hk, hs⟩ := Option.bind_eq_some_iff.1 hs
      split at hs
      · rename_i hcond
        obtain ⟨u, hu2, he⟩ := Option.map_eq_some_iff.1 hs
        simp only [Prod.mk.injEq] at he
        obtain ⟨rfl, rfl⟩ := he
        exact ok_idxA hS hT ho hu hz hk hcond.1 hcond.2 hu2
      · cases hs
    · cases hc
  · -- index
    rename_i ty x i ho
    split at hc
    · rename_i hu
      cases hc
      simp only [stepOp] at hs
      obtain ⟨vs, h1, hs⟩ := Option.bind_eq_some_iff.1 hs
      obtain ⟨u, h2, hs⟩ := Option.bind_eq_some_iff.1 hs
      obtain ⟨x', h3, he⟩ := Option.map_eq_some_iff.1 hs
      simp only [Prod.mk.injEq] at he
      obtain ⟨rfl, rfl⟩ := he
      have := evL_ok hT h1
      subst this
      exact ok_pure hS (by simp only [execOp, ho, Pu.run, List.map_cons, List.map_nil]) h2 h3
    · cases hc
  · -- extract
    rename_i x k ho
    cases hc
    simp only [stepOp] at hs
    obtain ⟨u, hu2, he⟩ := Option.map_eq_some_iff.1 hs
    simp only [Prod.mk.injEq] at he
    obtain ⟨rfl, rfl⟩ := he
    exact ok_extract hS hT ho hu2
  · -- makeSlice
    rename_i ty l c ho
    split at hc
    · rename_i e hu
      obtain ⟨z, hz, hc⟩ := Option.bind_eq_some_iff.1 hc
      obtain ⟨ag, ha, hc⟩ := Option.bind_eq_some_iff.1 hc
      obtain ⟨zero, hzero, hc⟩ := Option.bind_eq_some_iff.1 hc
      obtain ⟨y, hy, hc⟩ := Option.bind_eq_some_iff.1 hc
      split at hc
      · rename_i hcond
        cases hc
        simp only [stepOp] at hs
        obtain ⟨n, hn, hs⟩ := Option.bind_eq_some_iff.1 hs
        obtain ⟨m, hm, hs⟩ := Option.bind_eq_some_iff.1 hs
        split at hs
        · rename_i hc2
          obtain ⟨⟨b, h1⟩, hns, he⟩ := Option.map_eq_some_iff.1 hs
          simp only [Prod.mk.injEq] at he
          obtain ⟨rfl, rfl⟩ := he
          exact ok_makeSl hS hT ho hu hz hzero hy hcond.1 hcond.2.1 hcond.2.2 hn hm hc2.1 hc2.2.1 hc2.2.2.1 hc2.2.2.2 hns
        · cases hs
      · cases hc
    · cases hc
  · -- makeFunc
    rename_i f first caps ho
    split at hc
    · rename_i hf
      cases hc
      simp only [stepOp, Option.some.injEq, Prod.mk.injEq] at hs
      obtain ⟨rfl, rfl⟩ := hs
      exact ok_clo hS hT ho hf
    · cases hc
  · -- makeInterface
    rename_i ty x ho
    split at hc
    · cases hc
    · rename_i hi
      cases hc
      simp only [stepOp, Option.some.injEq, Prod.mk.injEq] at hs
      obtain ⟨rfl, rfl⟩ := hs
      exact ok_ifc hS hT ho (by simpa using hi)
  · -- call
    rename_i c ho
    unfold compCall at hc
    split at hc
    · rename_i b hcal
      split at hc
      · -- append
        rename_i s x t1 t2 ha hat
        split at hc
        · rename_i e hu
          obtain ⟨z, hz, hc⟩ := Option.bind_eq_some_iff.1 hc
          obtain ⟨ag, hag, hc⟩ := Option.bind_eq_some_iff.1 hc
          obtain ⟨y, hy, hc⟩ := Option.bind_eq_some_iff.1 hc
          split at hc
          · rename_i hcond
            cases hc
            simp only [stepOp] at hs
            obtain ⟨ys, h1, hs⟩ := Option.bind_eq_some_iff.1 hs
            obtain ⟨n, h2, hs⟩ := Option.bind_eq_some_iff.1 hs
            split at hs
            · rename_i hc2
              exact ok_append hS hT ho hcal ha hat ⟨hu, hz, hy, hcond.1, hcond.2.1, hcond.2.2.1, hcond.2.2.2.1, hcond.2.2.2.2⟩ h1 h2 hc2.1 hc2.2 hs
            · cases hs
          · cases hc
        · cases hc
      · -- len
        rename_i x ty ha hat
        split at hc
        · rename_i hu
          cases hc
          simp only [stepOp] at hs
          obtain ⟨vs, h1, hs⟩ := Option.bind_eq_some_iff.1 hs
          obtain ⟨u, h2, hs⟩ := Option.bind_eq_some_iff.1 hs
          obtain ⟨x', h3, he⟩ := Option.map_eq_some_iff.1 hs
          simp only [Prod.mk.injEq] at he
          obtain ⟨rfl, rfl⟩ := he
          have := evL_ok hT h1
          subst this
          have ha' : c.args = #[x] := by apply Array.ext'; simpa using ha
          exact ok_pure hS (by simp [execOp, ho, resolve, hcal, ha', invoke, builtin, Pu.run]) h2 h3
        · rename_i e hu
          cases hc
          simp only [stepOp] at hs
          obtain ⟨n, hn, he⟩ := Option.map_eq_some_iff.1 hs
          simp only [Prod.mk.injEq] at he
          obtain ⟨rfl, rfl⟩ := he
          exact ok_len hS hT ho hcal ha hat hu hn
        · cases hc
      · -- max
        cases hc
        simp only [stepOp] at hs
        obtain ⟨vs, h1, hs⟩ := Option.bind_eq_some_iff.1 hs
        obtain ⟨u, h2, hs⟩ := Option.bind_eq_some_iff.1 hs
        obtain ⟨x', h3, he⟩ := Option.map_eq_some_iff.1 hs
        simp only [Prod.mk.injEq] at he
        obtain ⟨rfl, rfl⟩ := he
        have := evL_ok hT h1
        subst this
        have hmap : c.args.map a.eval = (c.args.toList.map a.eval).toArray := by apply Array.ext'; simp
        exact ok_pure hS (by simp [execOp, ho, resolve, hcal, invoke, builtin, Pu.run, hmap]) h2 h3
      · -- min
        cases hc
        simp only [stepOp] at hs
        obtain ⟨vs, h1, hs⟩ := Option.bind_eq_some_iff.1 hs
        obtain ⟨u, h2, hs⟩ := Option.bind_eq_some_iff.1 hs
        obtain ⟨x', h3, he⟩ := Option.map_eq_some_iff.1 hs
        simp only [Prod.mk.injEq] at he
        obtain ⟨rfl, rfl⟩ := he
        have := evL_ok hT h1
        subst this
        have hmap : c.args.map a.eval = (c.args.toList.map a.eval).toArray := by apply Array.ext'; simp
        exact ok_pure hS (by simp [execOp, ho, resolve, hcal, invoke, builtin, Pu.run, hmap]) h2 h3
      · cases hc
    · rename_i f hcal
      split at hc
      · rename_i hf
        cases hc
        exact ok_call hS hT ho hcal hf hE hs
      · cases hc
    · rename_i g hcal
      cases hc
      simp only [stepOp] at hs
      split at hs
      · rename_i f caps hg
        exact ok_dyn hS hT ho hcal hg hE hs
      · cases hs
    · cases hc
  · cases hc

end
end Go.AM
