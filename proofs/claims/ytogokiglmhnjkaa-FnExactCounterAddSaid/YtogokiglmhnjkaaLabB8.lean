/- The operations that make no block: what the abstract machine says of them is what the model does. No condition. -/
import Derived.Test.YtogokiglmhnjkaaLabB7
set_option linter.unusedVariables false
set_option linter.unusedSimpArgs false
namespace Go.AM

/-- What is owed of one operation. -/
def StepOK (P : Program) (base : Nat) (X : Nat → Prop) (o : Oper) (a : Act) (w : World) (H : Heap) (G : List Nat) (v : V) (H' : Heap) : Prop :=
  ∀ (next : Act → World → Prop) (Q : Exit → Act → World → Prop),
    (∀ x w' G', Ext w H G w' H' G' → SimH base X w' H' G' → RV w' base (Mof X H' G') H' G' v x → next (a.put o.dst x) w') → o.wp P a w next Q

section
variable {P : Program} {base : Nat} {X : Nat → Prop} {o : Oper} {a : Act} {w : World} {H H' : Heap} {G : List Nat} {v : V} {t : Nat → V}

theorem StepOK.value {x : Value} (hS : SimH base X w H G) (hr : (execOp a.eval o).run P w = .ok (.value x) w) (hv : RV w base (Mof X H G) H G v x) : StepOK P base X o a w H G v H := by
  intro next Q hn
  unfold Oper.wp
  rw [hr]
  exact hn x w G (Ext.refl w H G) hS hv

theorem ok_mv {x : Operand} (hS : SimH base X w H G) (hT : TV w base (Mof X H G) H G t a.tmps) (ho : o.op = .move x ∨ o.op = .assign x) : StepOK P base X o a w H G (St.ev ⟨t, H⟩ x) H := by
  refine StepOK.value (x := a.eval x) hS ?_ (ev_ok hT x)
  rcases ho with ho | ho <;> simp [execOp, ho]

theorem ok_pick {c x y : Operand} {b : Bool} (hS : SimH base X w H G) (hT : TV w base (Mof X H G) H G t a.tmps) (ho : o.op = .pick c x y) (hc : St.ev ⟨t, H⟩ c = .i (.s (.bool b))) :
    StepOK P base X o a w H G (if b then St.ev ⟨t, H⟩ x else St.ev ⟨t, H⟩ y) H := by
  have h := ev_ok (h := H) hT c
  rw [hc] at h
  have e : a.eval c = .bool b := by
    generalize a.eval c = u at h
    cases h with
    | i hi => cases hi; rfl
  refine StepOK.value (x := if b then a.eval x else a.eval y) hS ?_ ?_
  · simp [execOp, ho, e, asBool]
  · cases b
    · simpa using ev_ok hT y
    · simpa using ev_ok hT x

theorem evL_ok (hT : TV w base (Mof X H G) H G t a.tmps) {xs : List Operand} {vs : List Value} (h : (xs.map (St.ev ⟨t, H⟩)).mapM toValV = some vs) : xs.map a.eval = vs :=
  RVL.toVal (evs_ok hT xs) h

theorem ok_pure {s : Sem Value} {u : Value} {x : I} (hS : SimH base X w H G) (he : execOp a.eval o = (do pure (.value (← s)))) (hp : pureOf P s = some u) (hx : ofVal u = some x) : StepOK P base X o a w H G (.i x) H := by
  refine StepOK.value (x := u) hS ?_ (.i (ofVal_ok hx))
  rw [he]
  simp [pureOf_run P s u hp w]

theorem ok_extract {k : Nat} {x : Operand} (hS : SimH base X w H G) (hT : TV w base (Mof X H G) H G t a.tmps) (ho : o.op = .extract x k)
    (hv : stepExtract k (St.ev ⟨t, H⟩ x) = some v) : StepOK P base X o a w H G v H := by
  have h := ev_ok (h := H) hT x
  unfold stepExtract at hv
  split at hv
  · rename_i vs he
    rw [he] at h
    generalize hu : a.eval x = u at h
    cases h with
    | tup hl =>
      rename_i xs
      obtain ⟨y, h1, h2⟩ := hl.get k v hv
      refine StepOK.value (x := y) hS ?_ h2
      have : xs[k]? = some y := by simpa using h1
      simp [execOp, ho, hu, Instr.extract, this]
  · rename_i f vs he
    rw [he] at h
    generalize hu : a.eval x = u at h
    obtain ⟨z, hz, rfl⟩ := Option.map_eq_some_iff.1 hv
    cases h with
    | i hi =>
      cases hi with
      | tup hl =>
        rename_i xs
        obtain ⟨y, h1, h2⟩ := hl.get k z hz
        refine StepOK.value (x := y) hS ?_ (.i h2)
        have : xs[k]? = some y := by simpa using h1
        simp [execOp, ho, hu, Instr.extract, this]
  · cases hv

theorem ok_nilChk {x : Operand} (hS : SimH base X w H G) (hT : TV w base (Mof X H G) H G t a.tmps) (ho : o.op = .nilCheck x)
    (hv : stepNil (St.ev ⟨t, H⟩ x) = some v) : StepOK P base X o a w H G v H := by
  have h := ev_ok (h := H) hT x
  unfold stepNil at hv
  have e : ∃ p, a.eval x = .pointer (some p) ∧ v = St.ev ⟨t, H⟩ x := by
    split at hv
    · rename_i he
      cases hv
      rw [he] at h ⊢
      generalize hu : a.eval x = u at h ⊢
      cases h; exact ⟨_, rfl, rfl⟩
    · rename_i he
      cases hv
      rw [he] at h ⊢
      generalize hu : a.eval x = u at h ⊢
      cases h with
      | i hi => cases hi; exact ⟨_, rfl, rfl⟩
    · cases hv
  obtain ⟨p, e1, e2⟩ := e
  rw [e2]
  refine StepOK.value (x := a.eval x) hS ?_ h
  simp [execOp, ho, e1]

theorem Reads.sub' {w : World} {a : Addr} {cs : List Value} (h : Reads w a cs) (off n : Nat) (hn : off + n ≤ cs.length) : Reads w (a.add off) ((cs.drop off).take n) := by
  rcases Nat.eq_zero_or_pos n with rfl | hp
  · intro j hj; simp at hj
  · exact h.sub off n hn hp

theorem field_run {s : TypeId} {fields : Array Field} {k : Nat} {fd : Field} {z : Nat} (hu : P.underlying s = some (.struct fields)) (hf : fields[k]? = some fd) (hz : szOf P fd.type = some z) (hne : z ≠ 0) (w : World) (p : Addr) :
    (Instr.fieldAt s (.pointer (some p)) k).run P w = .ok (.pointer (some (p.add fd.offset))) w := by
  simp [Instr.fieldAt, run_underlying hu, hf, Instr.sureAddr, fieldPlace, run_szOf hz, hne]

theorem ok_fieldA {s : TypeId} {fields : Array Field} {k : Nat} {fd : Field} {z : Nat} {x : Operand} (hS : SimH base X w H G) (hT : TV w base (Mof X H G) H G t a.tmps) (ho : o.op = .fieldAddr s x k)
    (hu : P.underlying s = some (.struct fields)) (hf : fields[k]? = some fd) (hz : szOf P fd.type = some z) (hne : z ≠ 0)
    (hv : stepField fd.offset (St.ev ⟨t, H⟩ x) = some v) :
    StepOK P base X o a w H G v H := by
  have h := ev_ok (h := H) hT x
  unfold stepField at hv
  split at hv
  · rename_i b g off he
    cases hv
    rw [he] at h
    generalize hu2 : a.eval x = u at h
    cases h with
    | ptr hr hn hval =>
      rename_i p
      refine StepOK.value (x := .pointer (some (p.add fd.offset))) hS ?_ (.ptr hr hn ?_)
      · simp [execOp, ho, hu2, field_run hu hf hz hne]
      · intro cs hc
        rw [hval cs hc, Addr.add_lit]
  · rename_i f cs he
    split at hv
    · rename_i hlt
      cases hv
      rw [he] at h
      generalize hu2 : a.eval x = u at h
      cases h with
      | i hi =>
        cases hi with
        | ip hm hb hr hl =>
          rename_i p xs
          refine StepOK.value (x := .pointer (some (p.add fd.offset))) hS ?_ (.i (.ip (xs := xs.drop fd.offset) ?_ ?_ ?_ ?_))
          · simp [execOp, ho, hu2, field_run hu hf hz hne]
          · rw [add_block]; exact hm
          · rw [add_block]; exact hb
          · exact hr.drop _ (by rw [hl.length]; exact hlt)
          · exact hl.drop _
    · cases hv
  · cases hv

theorem run_idx_slice {ty e : TypeId} {z : Nat} (hu : P.underlying ty = some (.slice e)) (hz : szOf P e = some z) (w : World) (p : Addr) (len cap : Nat) (k : IntKind) (i : Int) (h0 : 0 ≤ i) (h1 : i < len) :
    (Instr.indexAt ty (.slice (some p) len cap) (.int k i)).run P w = .ok (.pointer (some (p.add (i.toNat * z)))) w := by
  simp [Instr.indexAt, run_underlying hu, asIntOf, h0, h1, run_szOf hz]

theorem run_idx_array {ty e : TypeId} {n z : Nat} (hu : P.underlying ty = some (.array n e)) (hz : szOf P e = some z) (w : World) (p : Addr) (k : IntKind) (i : Int) (h0 : 0 ≤ i) (h1 : i < n) :
    (Instr.indexAt ty (.pointer (some p)) (.int k i)).run P w = .ok (.pointer (some (p.add (i.toNat * z)))) w := by
  simp [Instr.indexAt, run_underlying hu, asIntOf, h0, h1, run_szOf hz, Instr.sureAddr]

theorem ok_idxS {ty e : TypeId} {z : Nat} {x i : Operand} (hS : SimH base X w H G) (hT : TV w base (Mof X H G) H G t a.tmps) (ho : o.op = .indexAddr ty x i)
    (hu : P.underlying ty = some (.slice e)) (hz : szOf P e = some z)
    {n : Int} (hn : intV (St.ev ⟨t, H⟩ i) = some n) (hv2 : stepIdxS z H n (St.ev ⟨t, H⟩ x) = some v) :
    StepOK P base X o a w H G v H := by
  have h := ev_ok (h := H) hT x
  unfold stepIdxS at hv2
  obtain ⟨ki, hi⟩ := intV_ok (ev_ok (h := H) hT i) hn
  split at hv2
  · rename_i b g off z' ag len he
    split at hv2
    · rename_i hc
      obtain ⟨rfl, h0, h1⟩ := hc
      obtain ⟨cs, hcs, rfl⟩ := Option.map_eq_some_iff.1 hv2
      rw [he] at h
      generalize hu2 : a.eval x = u at h
      cases h with
      | hnil => omega
      | hsl hr hn hzz hl hval =>
        rename_i cap p
        refine StepOK.value (x := .pointer (some (p.add (n.toNat * z')))) hS ?_ (.ptr hr hn ?_)
        · simp [execOp, ho, hu2, hi, run_idx_slice hu hz w p len cap ki n h0 h1]
        · intro cs hc
          have := (hval cs hc).1 (.inl (by omega))
          rw [this, Addr.add_lit]
    · cases hv2
  · rename_i f z' xs he
    split at hv2
    · rename_i hc
      obtain ⟨rfl, h0⟩ := hc
      obtain ⟨y, hy, rfl⟩ := Option.map_eq_some_iff.1 hv2
      have hlt := (List.getElem?_eq_some_iff.1 hy).1
      rw [he] at h
      generalize hu2 : a.eval x = u at h
      cases h with
      | i hi2 =>
        cases hi2 with
        | sl0 => simp at hlt
        | sl hne hcap hm hb hr hl =>
          rename_i p cap cs
          have hlen := hl.length
          have hrow := hl.get n.toNat y hy
          have hle : n.toNat * z' + z' ≤ cs.length := by
            have : (n.toNat + 1) * z' ≤ xs.length * z' := Nat.mul_le_mul_right _ hlt
            rw [Nat.add_mul] at this; omega
          refine StepOK.value (x := .pointer (some (p.add (n.toNat * z')))) hS ?_ (.i (.ip (xs := (cs.drop (n.toNat * z')).take z') ?_ ?_ ?_ hrow))
          · simp [execOp, ho, hu2, hi, run_idx_slice hu hz w p xs.length cap ki n h0 (by omega)]
          · rw [add_block]; exact hm
          · rw [add_block]; exact hb
          · exact hr.sub' _ _ hle
    · cases hv2
  · cases hv2

theorem ok_idxA {ty e : TypeId} {n z : Nat} {x i : Operand} (hS : SimH base X w H G) (hT : TV w base (Mof X H G) H G t a.tmps) (ho : o.op = .indexAddr ty x i)
    (hu : P.underlying ty = some (.array n e)) (hz : szOf P e = some z)
    {k : Int} (hk : intV (St.ev ⟨t, H⟩ i) = some k) (h0 : 0 ≤ k) (h1 : k < n) (hv : stepIdxA z k.toNat (St.ev ⟨t, H⟩ x) = some v) :
    StepOK P base X o a w H G v H := by
  have h := ev_ok (h := H) hT x
  obtain ⟨ki, hi⟩ := intV_ok (ev_ok (h := H) hT i) hk
  unfold stepIdxA at hv
  · split at hv
    · rename_i b g off he
      cases hv
      rw [he] at h
      generalize hu2 : a.eval x = u at h
      cases h with
      | ptr hr hn hval =>
        rename_i p
        refine StepOK.value (x := .pointer (some (p.add (k.toNat * z)))) hS ?_ (.ptr hr hn ?_)
        · simp [execOp, ho, hu2, hi, run_idx_array hu hz w p ki k h0 h1]
        · intro cs hc
          rw [hval cs hc, Addr.add_lit]
    · rename_i f cs he
      split at hv
      · rename_i hlt
        cases hv
        rw [he] at h
        generalize hu2 : a.eval x = u at h
        cases h with
        | i hi2 =>
          cases hi2 with
          | ip hm hb hr hl =>
            rename_i p xs
            refine StepOK.value (x := .pointer (some (p.add (k.toNat * z)))) hS ?_ (.i (.ip (xs := xs.drop (k.toNat * z)) ?_ ?_ ?_ ?_))
            · simp [execOp, ho, hu2, hi, run_idx_array hu hz w p ki k h0 h1]
            · rw [add_block]; exact hm
            · rw [add_block]; exact hb
            · exact hr.drop _ (by rw [hl.length]; exact hlt)
            · exact hl.drop _
      · cases hv
    · cases hv

/-- What a good reference of cells says. -/
theorem SimH.at {b g : Nat} {cs : List V} (hS : SimH base X w H G) (hc : cellsAt H b g = some cs) :
    ∃ arr ty, G[b]? = some (G.getD b 0) ∧ w.heap[G.getD b 0]? = some (.cells arr ty (0, 0)) ∧ g = cs.length ∧ cs.length ≤ arr.size ∧ RVL w base (Mof X H G) H G cs (arr.toList.take cs.length) ∧ (∀ y, y ∈ cs → y.one = true) ∧
      H[b]? = some (.cells cs) := by
  obtain ⟨h1, h2⟩ := cellsAt_some hc
  obtain ⟨k, g1, g2, g3, g4, arr, ty, e1, e2, e3, e4⟩ := hS.block b _ h1 rfl
  rw [getD_of g1]
  exact ⟨arr, ty, g1, e1, h2.symm, e2, e3, e4, h1⟩

theorem rowV_ok {ag : Bool} {cs : List V} {xs : List Value} {z : Nat} (hl : RVL w base (Mof X H G) H G cs xs) (hn : cs.length = if ag then z else 1) (hv : rowV ag cs = some v) :
    RV w base (Mof X H G) H G v (if ag then .agg xs.toArray else xs.getD 0 undef) := by
  cases ag with
  | true =>
    simp only [rowV, if_true] at hv ⊢
    cases hv
    exact .agg hl
  | false =>
    simp only [rowV, Bool.false_eq_true, if_false] at hv ⊢
    obtain ⟨y, h1, h2⟩ := hl.get 0 v hv
    rw [List.getD_eq_getElem?_getD, h1]
    exact h2

theorem ok_load {ty : TypeId} {z : Nat} {ag : Bool} {x : Operand} (hS : SimH base X w H G) (hT : TV w base (Mof X H G) H G t a.tmps) (ho : o.op = .load ty x)
    (hz : szOf P ty = some z) (ha : agOf P ty = some ag)
    (hv : stepLoad (if ag then z else 1) ag H (St.ev ⟨t, H⟩ x) = some v) :
    StepOK P base X o a w H G v H := by
  have h := ev_ok (h := H) hT x
  unfold stepLoad at hv
  generalize hzz : (if ag then z else 1) = zz at hv
  split at hv
  · rename_i b g off he
    obtain ⟨cs, hcs, hv⟩ := Option.bind_eq_some_iff.1 hv
    split at hv
    · rename_i hle
      rw [he] at h
      generalize hu2 : a.eval x = u at h
      cases h with
      | ptr hr hn hval =>
        replace hcs := getCells_not hcs hn
        obtain rfl := hval cs hcs
        obtain ⟨arr, ty', g1, e1, e2, e3, e4, e5, e6⟩ := hS.at hcs
        have hreads := Reads.of_block (off := off) (n := zz) e1 (by omega)
        have hsub : (arr.toList.drop off).take zz = ((arr.toList.take cs.length).drop off).take zz := by
          rw [List.drop_take, List.take_take, Nat.min_eq_left (by omega)]
        have hl : RVL w base (Mof X H G) H G ((cs.drop off).take zz) ((arr.toList.drop off).take zz) := by
          rw [hsub]; exact (e4.drop off).take zz
        have hlen : ((arr.toList.drop off).take zz).length = zz := by simp; omega
        refine StepOK.value (x := if ag then .agg ((arr.toList.drop off).take zz).toArray else ((arr.toList.drop off).take zz).getD 0 undef) hS ?_ (rowV_ok (z := z) hl (by simp; omega) hv)
        simp only [execOp, ho, hu2, Instr.loadAt, Instr.sureAddr, Sem.run_bind, Sem.run_pure, Result.andThen_ok]
        rw [run_loadVar hz ha w _ _ (by rw [hlen, hzz]) hreads]
        rfl
    · cases hv
  · rename_i f cs he
    split at hv
    · rename_i hle
      rw [he] at h
      generalize hu2 : a.eval x = u at h
      cases h with
      | i hi =>
        cases hi with
        | ip hm hb hr hl =>
          rename_i p xs
          have hlen : (xs.take zz).length = zz := by simp [hl.length]; omega
          have hreads : Reads w p (xs.take zz) := by
            intro j hj
            have := hr j (by simp at hj; omega)
            rw [this]; simp
          have hl2 : RVL w base (Mof X H G) H G ((cs.take zz).map .i) (xs.take zz) := RL.toV (hl.take zz)
          refine StepOK.value (x := if ag then .agg (xs.take zz).toArray else (xs.take zz).getD 0 undef) hS ?_ (rowV_ok (z := z) hl2 (by simp; omega) hv)
          simp only [execOp, ho, hu2, Instr.loadAt, Instr.sureAddr, Sem.run_bind, Sem.run_pure, Result.andThen_ok]
          rw [run_loadVar hz ha w _ _ (by rw [hlen, hzz]) hreads]
          rfl
    · cases hv
  · cases hv

end
end Go.AM
