/- Functions on the abstract machine: results, what is handed over as a picture, contracts of functions that change nothing. No condition. -/
import Derived.Test.YtogokiglmhnjkaaLabB16
set_option linter.unusedVariables false
set_option linter.unusedSimpArgs false
namespace Go.AM

inductive ARes where
  | tmp (t : Nat)
  | cell (a z : Nat) (ag : Bool)

structure AFn where
  N : Nat
  code : ACode
  res : List ARes

def compRes (P : Program) : ResultVar → Option ARes
  | .tmp t => some (.tmp t)
  | .cell a ty => (szOf P ty).bind fun z => (agOf P ty).map fun ag => .cell a (if ag then z else 1) ag

def compFn (P : Program) (pur : Nat → Bool) (md : Modes) (f : FuncId) : Option AFn :=
  (P.funcs[f]?).bind fun fn => fn.body.bind fun body => (compile P pur md fn.ntmps body).bind fun code => (fn.results.toList.mapM (compRes P)).map fun res => ⟨fn.ntmps, code, res⟩

def resV (st : St) : ARes → Option V
  | .tmp t => some (st.t t)
  | .cell a z ag => stepLoad z ag st.h (st.t a)

def retV (st : St) (res : List ARes) : Option V :=
  (res.mapM (resV st)).map fun vs => match vs with
    | [v] => v
    | vs => .tup vs

def initT (args : List V) : Nat → V := fun k => args.getD k undefV

noncomputable def runFn (P : Program) (env : Env) (F : AFn) (args : List V) (H : Heap) : Option (V × Heap) :=
  if args.length ≤ F.N then
    (exec P env F.code ⟨initT args, H⟩).bind fun p => match p.1 with
      | .exit _ => none
      | _ => (retV p.2 F.res).map fun v => (v, p.2.h)
  else none

def resSem (tmps : Array Value) (r : ResultVar) : Sem Value :=
  match r with
  | .tmp t => pure (tmps.getD t undef)
  | .cell a t => do loadVar t (← asAddr (tmps.getD a undef))

theorem results_eq (fn : Func) (tmps : Array Value) : results fn tmps = (do let vs ← fn.results.mapM (resSem tmps); pure (if h : vs.size = 1 then vs[0] else .tuple vs)) := by
  unfold results
  congr 1

section
variable {P : Program} {base : Nat} {X : Nat → Prop} {w : World} {H H' : Heap} {G : List Nat} {t : Nat → V} {N : Nat}

theorem load_run {ty : TypeId} {z : Nat} {ag : Bool} {x v : V} {u : Value} (hS : SimH base X w H G) (h : RV w base (Mof X H G) H G x u) (hz : szOf P ty = some z) (ha : agOf P ty = some ag)
    (hv : stepLoad (if ag then z else 1) ag H x = some v) : ∃ p y, u = .pointer (some p) ∧ (loadVar ty p).run P w = .ok y w ∧ RV w base (Mof X H G) H G v y := by
  unfold stepLoad at hv
  generalize hzz : (if ag then z else 1) = zz at hv
  split at hv
  · rename_i b g off
    obtain ⟨cs, hcs, hv⟩ := Option.bind_eq_some_iff.1 hv
    split at hv
    · rename_i hle
      cases h with
      | ptr hr hn hval =>
        replace hcs := getCells_not hcs hn
        obtain rfl := hval cs hcs
        obtain ⟨arr, ty', g1, e1, e2, e3, e4, e5, e6⟩ := hS.at hcs
        have hreads := Reads.of_block (off := off) (n := zz) e1 (by omega)
        have hsub : (arr.toList.drop off).take zz = ((arr.toList.take cs.length).drop off).take zz := by
          rw [List.drop_take, List.take_take, Nat.min_eq_left (by omega)]
        have hl : RVL w base (Mof X H G) H G ((cs.drop off).take zz) ((arr.toList.drop off).take zz) := by
          rw [hsub]; exact (e4.drop off).take zz
        have hlen : ((arr.toList.drop off).take zz).length = zz := by simp; omega
        exact ⟨_, _, rfl, run_loadVar hz ha w _ _ (by rw [hlen, hzz]) hreads, rowV_ok (z := z) hl (by simp; omega) hv⟩
    · cases hv
  · rename_i f cs
    split at hv
    · rename_i hle
      cases h with
      | i hi =>
        cases hi with
        | ip hm hb hr hl =>
          rename_i p xs
          have hlen : (xs.take zz).length = zz := by simp [hl.length]; omega
          have hreads : Reads w p (xs.take zz) := by
            intro j hj
            have := hr j (by simp at hj; omega)
            rw [this]; simp
          have hl2 : RVL w base (Mof X H G) H G ((cs.take zz).map .i) (xs.take zz) := RL.toV (hl.take zz)
          exact ⟨_, _, rfl, run_loadVar hz ha w _ _ (by rw [hlen, hzz]) hreads, rowV_ok (z := z) hl2 (by simp; omega) hv⟩
    · cases hv
  · cases hv

theorem res_run (hS : SimH base X w H G) {tmps : Array Value} (hT : TV w base (Mof X H G) H G t tmps) : ∀ (rs : List ResultVar) (as : List ARes) (vs : List V), rs.mapM (compRes P) = some as → as.mapM (resV ⟨t, H⟩) = some vs →
    ∃ xs : List Value, (rs.mapM (resSem tmps)).run P w = .ok xs w ∧ RVL w base (Mof X H G) H G vs xs
  | [], as, vs, h1, h2 => by
    simp at h1; subst h1
    simp at h2; subst h2
    exact ⟨[], by simp, .nil⟩
  | r :: rs, as, vs, h1, h2 => by
    simp only [List.mapM_cons, Option.bind_eq_bind] at h1
    obtain ⟨a, ha, h1⟩ := Option.bind_eq_some_iff.1 h1
    obtain ⟨as', h3, h4⟩ := Option.bind_eq_some_iff.1 h1
    simp at h4
    subst h4
    simp only [List.mapM_cons, Option.bind_eq_bind] at h2
    obtain ⟨v, hv, h2⟩ := Option.bind_eq_some_iff.1 h2
    obtain ⟨vs', h5, h6⟩ := Option.bind_eq_some_iff.1 h2
    simp at h6
    subst h6
    obtain ⟨xs, e1, e2⟩ := res_run hS hT rs as' vs' h3 h5
    cases r with
    | tmp k =>
      simp only [compRes, Option.some.injEq] at ha
      subst ha
      simp only [resV, Option.some.injEq] at hv
      subst hv
      refine ⟨tmps.getD k undef :: xs, ?_, .cons (hT k) e2⟩
      have hr : (resSem tmps (.tmp k)).run P w = .ok (tmps.getD k undef) w := rfl
      simp only [List.mapM_cons, Sem.run_bind, hr, Result.andThen_ok, e1, Sem.run_pure]
    | cell k ty =>
      simp only [compRes] at ha
      obtain ⟨z, hz, ha⟩ := Option.bind_eq_some_iff.1 ha
      obtain ⟨ag, hag, rfl⟩ := Option.map_eq_some_iff.1 ha
      simp only [resV] at hv
      obtain ⟨p, y, f1, f2, f3⟩ := load_run hS (hT k) hz hag hv
      refine ⟨y :: xs, ?_, .cons f3 e2⟩
      have hr : (resSem tmps (.cell k ty)).run P w = .ok y w := by
        simp only [resSem, show tmps.getD k undef = .pointer (some p) from f1, asAddr, Sem.run_bind, Sem.run_pure, Result.andThen_ok, f2]
      simp only [List.mapM_cons, Sem.run_bind, hr, Result.andThen_ok, e1, Sem.run_pure]

theorem fn_ok {env : Env} {pur : Nat → Bool} {md : Modes} {f : FuncId} {F : AFn} {args : List V} {v : V} (hE : EnvOK P env) (hpur : ∀ f, pur f = true → PurEnv env f) (hc : compFn P pur md f = some F) (hr : runFn P env F args H = some (v, H')) : FnOK P f args H v H' := by
  unfold compFn at hc
  obtain ⟨fn, hfn, hc⟩ := Option.bind_eq_some_iff.1 hc
  obtain ⟨body, hb, hc⟩ := Option.bind_eq_some_iff.1 hc
  obtain ⟨code, hcode, hc⟩ := Option.bind_eq_some_iff.1 hc
  obtain ⟨res, hres, rfl⟩ := Option.map_eq_some_iff.1 hc
  unfold runFn at hr
  split at hr
  · rename_i hle
    simp only at hle
    obtain ⟨⟨ex, st'⟩, h1, h2⟩ := Option.bind_eq_some_iff.1 hr
    intro base X w G xs hS hl
    have hlen := hl.length
    simp at hlen
    refine calls_of_wp hfn hb (exec_ok hE hpur body code ⟨initT args, H⟩ ex st' hcode h1 _ w G _ ⟨hS, ?_, ?_⟩ ?_)
    · intro k
      simp only [initT, Array.getD_eq_getD_getElem?, Array.getElem?_append]
      rcases Nat.lt_or_ge k args.length with hk | hk
      · obtain ⟨x, e1, e2⟩ := hl.get k args[k] (List.getElem?_eq_getElem hk)
        rw [if_pos (by omega)]
        simp only [List.getD_eq_getElem?_getD, List.getElem?_eq_getElem hk, Option.getD_some]
        have : xs[k]? = some x := by simpa using e1
        rw [this]
        exact e2
      · rw [if_neg (by omega)]
        simp only [List.getD_eq_getElem?_getD, List.getElem?_eq_none hk, Option.getD_none]
        rw [Array.getElem?_replicate]
        split
        · exact RV.undef
        · exact RV.undef
    · simp; omega
    · intro a' w' G' hE' hS' hd
      have key : ∀ {st : St}, st = st' → (retV st res).map (fun v => (v, st.h)) = some (v, H') → a'.defers = [] ∧ ∃ u, (results fn a'.tmps).run P w' = .ok u w' ∧
          ∃ x G'', Ending.returned u = .returned x ∧ Ext w H G w' H' G'' ∧ SimH base X w' H' G'' ∧ RV w' base (Mof X H' G'') H' G'' v x := by
        rintro st rfl h3
        obtain ⟨u, h4, h5⟩ := Option.map_eq_some_iff.1 h3
        simp only [Prod.mk.injEq] at h5
        obtain ⟨rfl, rfl⟩ := h5
        unfold retV at h4
        obtain ⟨vs, h6, h7⟩ := Option.map_eq_some_iff.1 h4
        obtain ⟨us, e1, e2⟩ := res_run (P := P) hS'.heap hS'.tmps fn.results.toList res vs hres h6
        refine ⟨hd, (if h : us.toArray.size = 1 then us.toArray[0] else .tuple us.toArray), ?_, _, G', rfl, hE', hS'.heap, ?_⟩
        · rw [results_eq]
          simp only [Sem.run_bind]
          rw [Array.mapM_eq_mapM_toList]
          simp only [Sem.run_map]
          rw [e1]
          rfl
        · split at h7
          · subst h7
            cases e2 with
            | cons a1 a2 =>
              cases a2
              exact a1
          · rename_i hne
            subst h7
            have hl2 := e2.length
            rw [dif_neg]
            · exact .tup (by simpa using e2)
            · intro hone
              simp only [List.size_toArray] at hone
              rw [hl2] at hone
              obtain ⟨y, hy⟩ := List.length_eq_one_iff.1 hone
              exact hne y hy
      cases ex with
      | normal => exact key rfl h2
      | ret => exact key rfl h2
      | exit id => cases h2
  · cases hr

end
end Go.AM
