/- Maps: what the abstract machine says of them is what the model does. No condition. -/
import Derived.Test.YtogokiglmhnjkaaLabB14
import Derived.Test.YtogokiglmhnjkaaLabM1
set_option linter.unusedVariables false
set_option linter.unusedSimpArgs false
namespace Go.AM

section
variable {P : Program} {base : Nat} {X : Nat → Prop} {o : Oper} {a : Act} {w : World} {H H' : Heap} {G : List Nat} {v : V} {t : Nat → V}

theorem getObjM {r : Nat} {es : Array MapEntry} {clock : Nat} (hb : w.heap[r]? = some (.map es clock)) : (getObj r).run P w = .ok (.map es clock) w := by
  simp [getObj, Sem.run, hb]

theorem setObjM {r : Nat} {es : Array MapEntry} {clock : Nat} (o : Obj) (hb : w.heap[r]? = some (.map es clock)) : (setObj r o).run P w = .ok () { w with heap := w.heap.setIfInBounds r o } := by
  simp [setObj, Sem.run, hb]

theorem heap_setM {r : Nat} {o o' : Obj} (hb : w.heap[r]? = some o) : (w.heap.setIfInBounds r o')[r]? = some o' ∧ ∀ r', r' ≠ r → (w.heap.setIfInBounds r o')[r']? = w.heap[r']? := by
  have hlt : r < w.heap.size := (Array.getElem?_eq_some_iff.1 hb).1
  exact ⟨by simp [hlt], fun r' hne => by simp [Ne.symm hne]⟩

theorem scals_ok {cs : List V} {vs l : List Value} : RVL w base (Mof X H G) H G cs vs → cs.mapM scal = some l → vs = l := by
  intro h hm
  induction h using RVL.rec (motive_1 := fun _ _ _ => True) generalizing l with
  | nil => simp at hm; exact hm.symm
  | @cons x v xs vs a b _ ih =>
    simp only [List.mapM_cons, Option.bind_eq_bind] at hm
    obtain ⟨u, hu, hm⟩ := Option.bind_eq_some_iff.1 hm
    obtain ⟨us, h1, h2⟩ := Option.bind_eq_some_iff.1 hm
    simp at h2
    subst h2
    rw [ih h1]
    congr 1
    unfold scal at hu
    split at hu
    · cases hu
      cases a with
      | i hi => cases hi; rfl
    · cases hu
  | _ => trivial

theorem scalsV_ok {x : V} {v : Value} {l : List Value} (h : RV w base (Mof X H G) H G x v) (hs : scalsV x = some l) : v = .agg l.toArray := by
  unfold scalsV at hs
  split at hs
  · cases h with
    | agg hl =>
      have := scals_ok hl hs
      rw [← this]
  · cases h with
    | i hi =>
      cases hi with
      | agg hl =>
        have := RL.scal hl hs
        rw [← this]
  · cases hs

/-- What is known of a map's keys. -/
theorem keyOf_ok {kt : TypeId} {kg : Bool} {ks : List SK} (h : keyOf P kt = some (kg, ks)) : keyT P kt = true ∧ shapeAt P 8 kt = some ks ∧ agOf P kt = some kg := by
  unfold keyOf at h
  split at h
  · rename_i hk
    obtain ⟨k, h1, h⟩ := Option.bind_eq_some_iff.1 h
    obtain ⟨g, h2, h3⟩ := Option.map_eq_some_iff.1 h
    cases h3
    exact ⟨hk, h1, h2⟩
  · cases h

theorem keyOf_desc {kt : TypeId} {kg : Bool} {ks : List SK} (h : keyOf P kt = some (kg, ks)) : ∃ d, P.underlying kt = some d := by
  have := (keyOf_ok h).2.2
  unfold agOf at this
  cases hu : P.underlying kt with
  | none => rw [hu] at this; cases this
  | some d => exact ⟨d, rfl⟩

theorem keyV_ok {kt : TypeId} {kg : Bool} {x : V} {u : Value} {l : List Value} (hag : agOf P kt = some kg) (h : RV w base (Mof X H G) H G x u) (hk : keyV kg x = some l) : HasCells P kt u l := by
  unfold keyV at hk
  cases kg with
  | true =>
    simp only [if_true] at hk
    have := scalsV_ok h hk
    exact ⟨fun _ => this, (fun e => by rw [hag] at e; cases e), by rw [hag]; rfl⟩
  | false =>
    simp only [Bool.false_eq_true, if_false] at hk
    obtain ⟨y, hy, rfl⟩ := Option.map_eq_some_iff.1 hk
    refine ⟨(fun e => by rw [hag] at e; cases e), fun _ => ?_, by rw [hag]; rfl⟩
    unfold scal at hy
    split at hy
    · cases hy
      cases h with
      | i hi => cases hi; rfl
    · cases hy

theorem keyI_ok {M : Nat → Prop} {kt : TypeId} {kg : Bool} {x : I} {u : Value} {l : List Value} (hag : agOf P kt = some kg) (h : RI w M x u) (hk : keyI kg x = some l) : HasCells P kt u l := by
  unfold keyI at hk
  split at hk
  · split at hk
    · rename_i hb
      subst hb
      cases h with
      | agg hl =>
        have := RL.scal hl hk
        exact ⟨fun _ => by rw [← this], (fun e => by rw [hag] at e; cases e), by rw [hag]; rfl⟩
    · cases hk
  · split at hk
    · cases hk
    · rename_i hb
      simp only [Bool.not_eq_true] at hb
      subst hb
      cases hk
      cases h
      exact ⟨(fun e => by rw [hag] at e; cases e), fun _ => rfl, by rw [hag]; rfl⟩
  · cases hk

theorem keysI_ok {M : Nat → Prop} {kt : TypeId} {kg : Bool} {ks : List SK} (hag : agOf P kt = some kg) : ∀ {kl : List I} {es : List MapEntry} {cs : List (List Value)}, RL w M kl (es.map (·.key)) → keysI kg ks kl = some cs → KeysOf P kt ks es cs := by
  intro kl es cs hl hk
  unfold keysI at hk
  obtain ⟨h1, h2⟩ := Option.filter_eq_some_iff.1 hk
  clear hk
  induction kl generalizing es cs with
  | nil =>
    simp at h1; subst h1
    cases es with
    | nil => trivial
    | cons e es => cases hl
  | cons x kl ih =>
    simp only [List.mapM_cons, Option.bind_eq_bind] at h1
    obtain ⟨c, hc, h1⟩ := Option.bind_eq_some_iff.1 h1
    obtain ⟨cs', h3, h4⟩ := Option.bind_eq_some_iff.1 h1
    simp at h4
    subst h4
    cases es with
    | nil => cases hl
    | cons e es =>
      simp only [List.all_cons, Bool.and_eq_true] at h2
      cases hl with
      | cons a b => exact ⟨keyI_ok hag a hc, h2.1, ih b h3 h2.2⟩

theorem keyP_ok {M : Nat → Prop} {kt : TypeId} {kg : Bool} {ks : List SK} {u : Value} {l : List Value} (hag : agOf P kt = some kg) (hc : HasCells P kt u l) (hf : fitsL ks l = true) : RI w M (keyP kg l) u := by
  unfold keyP
  cases kg with
  | true =>
    simp only [if_true]
    rw [hc.1 hag]
    exact .agg (RL.of_plain _ (fitsL_plain hf))
  | false =>
    simp only [Bool.false_eq_true, if_false]
    have := hc.2.1 hag
    subst this
    have := fitsL_plain hf
    simp at this
    exact .s this

theorem map_at {x : V} {u : Value} {b : Nat} {kl : List I} {vl : List V} (hS : SimH base X w H G) (h : mapAt H x = some (b, kl, vl)) (hv : RV w base (Mof X H G) H G x u) :
    ∃ (k : Nat) (es : Array MapEntry) (clock : Nat), u = .map (some k) ∧ G[b]? = some k ∧ H[b]? = some (.map kl vl) ∧ w.heap[k]? = some (.map es clock) ∧ RL w (fun _ => True) kl (es.toList.map (·.key)) ∧
      RVL w base (Mof X H G) H G vl (es.toList.map (·.val)) ∧ (es.toList.map (·.born)).Pairwise (· < ·) ∧ ∀ e, e ∈ es.toList → e.born < clock := by
  unfold mapAt at h
  split at h
  · split at h
    · rename_i hb
      cases h
      obtain ⟨k, c1, c2, c3, c4, es, clock, c5, c6, c7, c8, c9⟩ := hS.block _ _ hb rfl
      cases hv with
      | mp hu hm =>
        have := hm _ _ hb
        rw [getD_of c1] at this
        subst this
        exact ⟨_, es, clock, rfl, c1, hb, c5, c6, c7, c8, c9⟩
    · cases h
  · cases h

/-- A map has other entries. -/
theorem mapch_ok {b k : Nat} {kl kl' : List I} {vl vl' : List V} {es es' : Array MapEntry} {clock clock' : Nat} (hS : SimH base X w H G) (hb : H[b]? = some (.map kl vl)) (hg : G[b]? = some k) (hw : w.heap[k]? = some (.map es clock))
    (hk : RL w (fun _ => True) kl' (es'.toList.map (·.key))) (hv : RVL w base (Mof X H G) H G vl' (es'.toList.map (·.val))) (hp : (es'.toList.map (·.born)).Pairwise (· < ·)) (hc : ∀ e, e ∈ es'.toList → e.born < clock') :
    Ext w H G { w with heap := w.heap.setIfInBounds k (.map es' clock') } (H.set b (.map kl' vl')) G ∧ SimH base X { w with heap := w.heap.setIfInBounds k (.map es' clock') } (H.set b (.map kl' vl')) G := by
  have hlt : b < H.length := (List.getElem?_eq_some_iff.1 hb).1
  have hset : (H.set b (.map kl' vl'))[b]? = some (.map kl' vl') := by simp [hlt]
  have hne : ∀ b', b' ≠ b → (H.set b (.map kl' vl'))[b']? = H[b']? := fun b' h => List.getElem?_set_ne (Ne.symm h)
  obtain ⟨g1, g2⟩ := heap_setM (o' := .map es' clock') hw
  have hE : Ext w H G { w with heap := w.heap.setIfInBounds k (.map es' clock') } (H.set b (.map kl' vl')) G :=
    Ext.change hS b _ _ k k hb rfl hg hne (fun _ _ => rfl) hset hg (.inl rfl) rfl rfl rfl rfl (by simp) (fun k1 _ h => g2 k1 h)
  refine ⟨hE, hS.upd b _ k (by simp [hS.len]) hne (fun _ _ => rfl) hset hE ?_ ?_⟩
  · intro b1 s1 k1 h1 h2 h3 h4
    refine g2 k1 ?_
    rintro rfl
    exact h1 (hS.inj b1 b s1 _ _ h2 h3 hb rfl h4 hg)
  · intro _
    obtain ⟨k2, c1, _, c3, _⟩ := hS.block b _ hb rfl
    rw [hg] at c1
    cases c1
    refine ⟨hg, by simpa using c3, .inl ⟨_, hb, rfl, hg⟩, es', clock', g1, ?_, hv.ext hE, hp, hc⟩
    exact RL.goes (w := w) (M := fun _ => True) (M' := fun _ => True) ⟨hE.size, fun _ _ hn => absurd trivial hn, fun _ _ hn => hn⟩ hk

theorem zeroV_ok {t : TypeId} {ag : Bool} {zs : List Value} (h : zeroV P t = some (ag, zs)) : ∃ u, (∀ w, (zeroValue t).run P w = .ok u w) ∧ ∀ v, rowV ag (ivs zs) = some v → RV w base (Mof X H G) H G v u := by
  unfold zeroV at h
  obtain ⟨u, h1, h⟩ := Option.bind_eq_some_iff.1 h
  obtain ⟨i, h5, h6⟩ := Option.bind_eq_some_iff.1 h1
  refine ⟨u, fun w => by simp [zeroValue, typeInfo, h5, h6], ?_⟩
  intro v hv
  split at h
  · split at h
    · rename_i hp
      cases h
      simp only [rowV, if_true, Option.some.injEq] at hv
      subst hv
      exact .agg (ivs_ok hp)
    · cases h
  · split at h
    · rename_i hp
      cases h
      simp [rowV, ivs] at hv
      subst hv
      exact .i (.s hp)
    · cases h

theorem ok_makeMap {slot : Option Nat} {ty : TypeId} {b : Nat} (hS : SimH base X w H G) (ho : o.op = .makeMap ty none) (hn : newSlot slot H (.map [] []) = some (b, H')) : StepOK P base X o a w H G (.mp b) H' := by
  obtain ⟨G', h1, h2, h3, h4, h5, h6⟩ := newSlot_at hS.len w.heap.size hn
  have hE : Ext w H G (w.alloc (.map #[] 0)) H' G' :=
    Ext.new hS b _ w.heap.size (.inl h1) h2 h3 h4 (fun _ => h5) (Nat.le_refl _) rfl rfl rfl (by simp) (fun k hk => heap_push_lt _ _ _ hk)
  refine StepOK.value' (x := .map (some w.heap.size)) (w' := w.alloc (.map #[] 0)) (G' := G') ?_ hE ?_ ?_
  · simp [execOp, ho, Instr.makeMap]
  · refine hS.upd b _ w.heap.size h6 h2 h3 h4 hE ?_ ?_
    · intro b1 s1 k1 hne hb1 hl1 hg1
      obtain ⟨k, c1, _, c3, _⟩ := hS.block b1 s1 hb1 hl1
      rw [c1] at hg1
      cases hg1
      exact heap_push_lt _ _ _ c3
    · intro _
      exact ⟨h5, by simp, .inr (Nat.le_refl _), #[], 0, heap_push_new _ _, .nil, .nil, .nil, fun e he => by cases he⟩
  · exact .mp ⟨_, h4, by intro e; cases e⟩ (fun ks vs _ => (getD_of h5).symm)

theorem hit_lt : ∀ {cs : List (List Value)} {l : List Value} {j : Nat}, hit l cs = some j → j < cs.length := by
  intro cs l j h
  obtain ⟨c, h1, _⟩ := hit_some h
  exact (List.getElem?_eq_some_iff.1 h1).1

theorem ok_lookup {mt kt e : TypeId} {kg ag ok : Bool} {ks : List SK} {zero : List Value} {m k : Operand} {q : Nat × List I × List V} {l : List Value} {cs : List (List Value)} (hS : SimH base X w H G) (hT : TV w base (Mof X H G) H G t a.tmps)
    (ho : o.op = .lookup mt m k ok) (hu : P.underlying mt = some (.map kt e)) (hk : keyOf P kt = some (kg, ks)) (hz : zeroV P e = some (ag, zero)) (hm : mapAt H (St.ev ⟨t, H⟩ m) = some q) (hl : keyV kg (St.ev ⟨t, H⟩ k) = some l)
    (hc : keysI kg ks q.2.1 = some cs) (hf : fitsL ks l = true) (hv : lookV ag zero q.2.2 (hit l cs) = some v) :
    StepOK P base X o a w H G (if ok then .tup [v, .i (.s (.bool (hit l cs).isSome))] else v) H := by
  obtain ⟨b, kl, vl⟩ := q
  obtain ⟨r, es, clock, e1, e2, e3, e4, e5, e6, e7, e8⟩ := map_at hS hm (ev_ok (h := H) hT m)
  obtain ⟨k1, k2, k3⟩ := keyOf_ok hk
  obtain ⟨d, hd⟩ := keyOf_desc hk
  have hx := keyV_ok (P := P) k3 (ev_ok (h := H) hT k) hl
  have hks := keysI_ok (P := P) k3 e5 hc
  have hck := checkKey_run w k2 k1 hf hx es.isEmpty
  have hfk := findKey_run w k2 hd hf hx hks
  obtain ⟨z, hz1, hz2⟩ := zeroV_ok (w := w) (base := base) (X := X) (H := H) (G := G) hz
  have key : ∃ (u : Value), RV w base (Mof X H G) H G v u ∧ (Instr.lookup mt (a.eval m) (a.eval k) ok).run P w = .ok (if ok then .tuple #[u, .bool (hit l cs).isSome] else u) w := by
    cases hh : hit l cs with
    | none =>
      rw [hh] at hv hfk
      refine ⟨z, hz2 v hv, ?_⟩
      simp only [Option.bind_none] at hfk
      simp only [Instr.lookup, Sem.run_bind, run_underlying hu, Result.andThen_ok, e1, getObjM e4, hck, hfk, hz1, Sem.run_pure, Option.isSome_none]
    | some j =>
      have hj := hit_lt hh
      rw [hh] at hv hfk
      simp only [lookV] at hv
      obtain ⟨u, hu1, hu2⟩ := e6.get j v hv
      simp only [List.getElem?_map] at hu1
      obtain ⟨en, hen, hu1⟩ := Option.map_eq_some_iff.1 hu1
      refine ⟨u, hu2, ?_⟩
      simp only [Option.bind_some, hen, Option.map_some, hu1] at hfk
      simp only [Instr.lookup, Sem.run_bind, run_underlying hu, Result.andThen_ok, e1, getObjM e4, hck, hfk, Sem.run_pure, Option.isSome_some]
  obtain ⟨u, hu1, hu2⟩ := key
  refine StepOK.value (x := if ok then .tuple #[u, .bool (hit l cs).isSome] else u) hS ?_ ?_
  · simp only [execOp, ho, Sem.run_bind, hu2, Result.andThen_ok, Sem.run_pure]
  · cases ok with
    | true => exact .tup (.cons hu1 (.cons (.i (.s rfl)) .nil))
    | false => exact hu1

theorem map_modify (f : MapEntry → MapEntry) (es : Array MapEntry) (j : Nat) : (es.modify j f).toList = es.toList.modify j f := by
  simp

theorem ok_mapSet {mt kt e : TypeId} {kg : Bool} {ks : List SK} {m k x : Operand} {q : Nat × List I × List V} {l : List Value} {cs : List (List Value)} (hS : SimH base X w H G) (hT : TV w base (Mof X H G) H G t a.tmps)
    (ho : o.op = .mapUpdate mt m k x ∨ o.op = .insert mt m k x) (hu : P.underlying mt = some (.map kt e)) (hk : keyOf P kt = some (kg, ks)) (hm : mapAt H (St.ev ⟨t, H⟩ m) = some q) (hl : keyV kg (St.ev ⟨t, H⟩ k) = some l)
    (hc : keysI kg ks q.2.1 = some cs) (hf : fitsL ks l = true) :
    StepOK P base X o a w H G undefV (H.set q.1 (setM kg l (St.ev ⟨t, H⟩ x) q.2.1 q.2.2 (hit l cs))) := by
  obtain ⟨b, kl, vl⟩ := q
  obtain ⟨r, es, clock, e1, e2, e3, e4, e5, e6, e7, e8⟩ := map_at hS hm (ev_ok (h := H) hT m)
  obtain ⟨k1, k2, k3⟩ := keyOf_ok hk
  obtain ⟨d, hd⟩ := keyOf_desc hk
  have hx := keyV_ok (P := P) k3 (ev_ok (h := H) hT k) hl
  have hks := keysI_ok (P := P) k3 e5 hc
  have hck := checkKey_run w k2 k1 hf hx false
  have hfk := findKey_run w k2 hd hf hx hks
  have hxv := ev_ok (h := H) hT x
  have key : ∃ (es' : Array MapEntry) (clock' : Nat) (kl' : List I) (vl' : List V), setM kg l (St.ev ⟨t, H⟩ x) kl vl (hit l cs) = .map kl' vl' ∧ (Instr.mapUpdate mt (a.eval m) (a.eval k) (a.eval x)).run P w = .ok () { w with heap := w.heap.setIfInBounds r (.map es' clock') } ∧
      RL w (fun _ => True) kl' (es'.toList.map (·.key)) ∧ RVL w base (Mof X H G) H G vl' (es'.toList.map (·.val)) ∧ (es'.toList.map (·.born)).Pairwise (· < ·) ∧ ∀ e, e ∈ es'.toList → e.born < clock' := by
    cases hh : hit l cs with
    | none =>
      rw [hh] at hfk
      simp only [Option.bind_none] at hfk
      refine ⟨es.push { key := a.eval k, val := a.eval x, born := clock }, clock + 1, _, _, rfl, ?_, ?_, ?_, ?_, ?_⟩
      · simp only [Instr.mapUpdate, Sem.run_bind, run_underlying hu, Result.andThen_ok, e1, getObjM e4, hck, hfk, setObjM _ e4]
      · rw [Array.toList_push, List.map_append]
        exact RL.append e5 (.cons (keyP_ok k3 hx hf) .nil)
      · rw [Array.toList_push, List.map_append]
        exact RVL.append e6 (.cons hxv .nil)
      · rw [Array.toList_push, List.map_append, List.pairwise_append]
        refine ⟨e7, by simp, ?_⟩
        intro p hp p' hp'
        simp at hp'
        subst hp'
        obtain ⟨en, hen, rfl⟩ := List.mem_map.1 hp
        exact e8 en hen
      · intro en hen
        rw [Array.toList_push] at hen
        rcases List.mem_append.1 hen with hen | hen
        · have := e8 en hen; omega
        · simp at hen; subst hen; simp
    | some j =>
      obtain ⟨c, hc1, hc2⟩ := hit_some hh
      have hj := hit_lt hh
      rw [hks.length] at hj
      have hj' : j < es.size := by simpa using hj
      have hen : es.toList[j]? = some es[j] := by simp [hj']
      obtain ⟨g1, g2⟩ := hks.get hen hc1
      obtain rfl := eqL_eq hf g2 hc2
      have hke : es[j].key = a.eval k := HasCells.inj g1 hx
      rw [hh] at hfk
      simp only [Option.bind_some, hen, Option.map_some] at hfk
      refine ⟨es.modify j fun en => { en with key := a.eval k, val := a.eval x }, clock, _, _, rfl, ?_, ?_, ?_, ?_, ?_⟩
      · have hold : ((es[j]?).map (·.key)).getD (a.eval k) = a.eval k := by simp [hj', hke]
        simp only [Instr.mapUpdate, Sem.run_bind, run_underlying hu, Result.andThen_ok, e1, getObjM e4, hck, hfk, hold, stays_run w hf hx, setObjM _ e4]
      · have : (es.modify j fun en => { en with key := a.eval k, val := a.eval x }).toList.map (·.key) = es.toList.map (·.key) := by
          rw [map_modify]
          apply List.ext_getElem?
          intro i
          simp only [List.getElem?_map, List.getElem?_modify]
          by_cases hij : j = i
          · subst hij
            rw [hen]
            simp [hke]
          · simp [hij]
        rw [this]
        exact e5
      · have : (es.modify j fun en => { en with key := a.eval k, val := a.eval x }).toList.map (·.val) = (es.toList.map (·.val)).set j (a.eval x) := by
          rw [map_modify]
          apply List.ext_getElem?
          intro i
          simp only [List.getElem?_map, List.getElem?_modify, List.getElem?_set, List.length_map]
          by_cases hij : j = i
          · subst hij
            rw [hen]
            simp [hj']
          · simp [hij]
        rw [this]
        exact RVL.set j e6 hxv
      · have : (es.modify j fun en => { en with key := a.eval k, val := a.eval x }).toList.map (·.born) = es.toList.map (·.born) := by
          rw [map_modify]
          apply List.ext_getElem?
          intro i
          simp only [List.getElem?_map, List.getElem?_modify]
          by_cases hij : j = i
          · subst hij
            rw [hen]
            simp
          · simp [hij]
        rw [this]
        exact e7
      · intro en hen2
        rw [map_modify] at hen2
        obtain ⟨i, hi⟩ := List.getElem?_of_mem hen2
        rw [List.getElem?_modify] at hi
        obtain ⟨e0, h0, h1⟩ := Option.map_eq_some_iff.1 hi
        have hb := e8 e0 (List.mem_of_getElem? h0)
        subst h1
        split <;> exact hb
  obtain ⟨es', clock', kl', vl', f1, f2, f3, f4, f5, f6⟩ := key
  simp only [f1]
  obtain ⟨hE, hS'⟩ := mapch_ok hS e3 e2 e4 f3 f4 f5 f6
  intro next Q hn
  unfold Oper.wp
  have hrun : (execOp a.eval o).run P w = .ok .skip { w with heap := w.heap.setIfInBounds r (.map es' clock') } := by
    rcases ho with ho | ho <;> simp only [execOp, ho, Sem.run_bind, f2, Result.andThen_ok, Sem.run_pure]
  rw [hrun]
  exact hn undef _ G hE hS' RV.undef

theorem RL.eraseIdx {M : Nat → Prop} : ∀ {xs : List I} {vs : List Value} (j : Nat), RL w M xs vs → RL w M (xs.eraseIdx j) (vs.eraseIdx j)
  | _, _, _, .nil => .nil
  | _, _, 0, .cons _ b => b
  | _, _, j + 1, .cons a b => .cons a (RL.eraseIdx j b)

theorem RVL.eraseIdx {M : Nat → Prop} : ∀ {xs : List V} {vs : List Value} (j : Nat), RVL w base M H G xs vs → RVL w base M H G (xs.eraseIdx j) (vs.eraseIdx j)
  | _, _, _, .nil => .nil
  | _, _, 0, .cons _ b => b
  | _, _, j + 1, .cons a b => .cons a (RVL.eraseIdx j b)

theorem map_eraseIdx {α β : Type} (f : α → β) : ∀ (l : List α) (j : Nat), (l.eraseIdx j).map f = (l.map f).eraseIdx j
  | [], _ => rfl
  | _ :: _, 0 => rfl
  | x :: l, j + 1 => by simp [map_eraseIdx f l j]

theorem ok_del {mt kt e : TypeId} {kg : Bool} {ks : List SK} {c : Call} {tl : TypeId} {m k : Operand} {q : Nat × List I × List V} {l : List Value} {cs : List (List Value)} (hS : SimH base X w H G) (hT : TV w base (Mof X H G) H G t a.tmps)
    (ho : o.op = .call c) (hcal : c.callee = .builtin .delete) (ha : c.args.toList = [m, k]) (hat : c.argTypes.toList = [mt, tl]) (hu : P.underlying mt = some (.map kt e)) (hk : keyOf P kt = some (kg, ks)) (hm : mapAt H (St.ev ⟨t, H⟩ m) = some q)
    (hl : keyV kg (St.ev ⟨t, H⟩ k) = some l) (hc : keysI kg ks q.2.1 = some cs) (hf : fitsL ks l = true) :
    StepOK P base X o a w H G undefV (H.set q.1 (delM q.2.1 q.2.2 (hit l cs))) := by
  obtain ⟨b, kl, vl⟩ := q
  obtain ⟨r, es, clock, e1, e2, e3, e4, e5, e6, e7, e8⟩ := map_at hS hm (ev_ok (h := H) hT m)
  obtain ⟨k1, k2, k3⟩ := keyOf_ok hk
  obtain ⟨d, hd⟩ := keyOf_desc hk
  have hx := keyV_ok (P := P) k3 (ev_ok (h := H) hT k) hl
  have hks := keysI_ok (P := P) k3 e5 hc
  have hck := checkKey_run w k2 k1 hf hx es.isEmpty
  have hfk := findKey_run w k2 hd hf hx hks
  have ha' : c.args = #[m, k] := by apply Array.ext'; simpa using ha
  have hat' : c.argTypes = #[mt, tl] := by apply Array.ext'; simpa using hat
  have key : ∃ (es' : Array MapEntry) (kl' : List I) (vl' : List V), delM kl vl (hit l cs) = .map kl' vl' ∧ (Builtin.delete_ #[mt, tl] o.type #[a.eval m, a.eval k]).run P w = .ok (.tuple #[]) { w with heap := w.heap.setIfInBounds r (.map es' clock) } ∧
      RL w (fun _ => True) kl' (es'.toList.map (·.key)) ∧ RVL w base (Mof X H G) H G vl' (es'.toList.map (·.val)) ∧ (es'.toList.map (·.born)).Pairwise (· < ·) ∧ ∀ e, e ∈ es'.toList → e.born < clock := by
    have h0 : (#[mt, tl] : Array TypeId)[0]? = some mt := rfl
    have h1 : (#[.map (some r), a.eval k] : Array Value)[0]? = some (.map (some r)) := rfl
    have h2 : (#[.map (some r), a.eval k] : Array Value)[1]? = some (a.eval k) := rfl
    cases hh : hit l cs with
    | none =>
      rw [hh] at hfk
      simp only [Option.bind_none] at hfk
      refine ⟨es, _, _, rfl, ?_, e5, e6, e7, e8⟩
      simp only [Builtin.delete_, e1, h0, h1, h2, Sem.run_bind, run_underlying hu, Result.andThen_ok, getObjM e4, hck, hfk, setObjM _ e4, Sem.run_pure]
    | some j =>
      have hj := hit_lt hh
      rw [hks.length] at hj
      have hj' : j < es.size := by simpa using hj
      have hen : es.toList[j]? = some es[j] := by simp [hj']
      rw [hh] at hfk
      simp only [Option.bind_some, hen, Option.map_some] at hfk
      have htl : (es.eraseIdxIfInBounds j).toList = es.toList.eraseIdx j := by simp
      refine ⟨es.eraseIdxIfInBounds j, _, _, rfl, ?_, ?_, ?_, ?_, ?_⟩
      · simp only [Builtin.delete_, e1, h0, h1, h2, Sem.run_bind, run_underlying hu, Result.andThen_ok, getObjM e4, hck, hfk, setObjM _ e4, Sem.run_pure]
      · rw [htl, map_eraseIdx]; exact e5.eraseIdx j
      · rw [htl, map_eraseIdx]; exact e6.eraseIdx j
      · rw [htl, map_eraseIdx]; exact e7.sublist (List.eraseIdx_sublist _ _)
      · intro en hen2
        rw [htl] at hen2
        exact e8 en (List.mem_of_mem_eraseIdx hen2)
  obtain ⟨es', kl', vl', f1, f2, f3, f4, f5, f6⟩ := key
  simp only [f1]
  obtain ⟨hE, hS'⟩ := mapch_ok hS e3 e2 e4 f3 f4 f5 f6
  refine StepOK.value' (x := .tuple #[]) ?_ hE hS' RV.undef
  simp [execOp, ho, resolve, hcal, ha', hat', invoke, builtin, f2]

theorem ok_mlen {mt kt e : TypeId} {c : Call} {m : Operand} {q : Nat × List I × List V} (hS : SimH base X w H G) (hT : TV w base (Mof X H G) H G t a.tmps)
    (ho : o.op = .call c) (hcal : c.callee = .builtin .len) (ha : c.args.toList = [m]) (hat : c.argTypes.toList = [mt]) (hu : P.underlying mt = some (.map kt e)) (hm : mapAt H (St.ev ⟨t, H⟩ m) = some q) :
    StepOK P base X o a w H G (.i (.s (.int .i64 (q.2.2.length : Nat)))) H := by
  obtain ⟨b, kl, vl⟩ := q
  obtain ⟨r, es, clock, e1, e2, e3, e4, e5, e6, e7, e8⟩ := map_at hS hm (ev_ok (h := H) hT m)
  have ha' : c.args = #[m] := by apply Array.ext'; simpa using ha
  have hat' : c.argTypes = #[mt] := by apply Array.ext'; simpa using hat
  have hlen : es.size = vl.length := by
    have := e6.length
    simpa using this
  refine StepOK.value (x := .int .i64 (es.size : Nat)) hS ?_ (.i (by rw [hlen]; exact .s rfl))
  have h0 : (#[mt] : Array TypeId)[0]? = some mt := rfl
  have h1 : (#[a.eval m] : Array Value)[0]? = some (a.eval m) := rfl
  simp [execOp, ho, resolve, hcal, ha', hat', invoke, builtin, Builtin.len_, h0, h1, run_underlying hu, e1, getObjM e4]
  rfl

end
end Go.AM
