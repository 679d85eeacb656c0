/- The operations that make blocks or write into the function's own: new variables, literals, stores. No condition. -/
import Derived.Test.YtogokiglmhnjkaaLabB9
set_option linter.unusedVariables false
set_option linter.unusedSimpArgs false
namespace Go.AM

section
variable {P : Program} {base : Nat} {X : Nat → Prop} {o : Oper} {a : Act} {w : World} {H H' : Heap} {G : List Nat} {v : V} {t : Nat → V}

theorem heap_push_lt (w : World) (o : Obj) (k : Nat) (h : k < w.heap.size) : (w.alloc o).heap[k]? = w.heap[k]? := by
  show (w.heap.push o)[k]? = _
  rw [Array.getElem?_push, if_neg (by omega)]

theorem heap_push_new (w : World) (o : Obj) : (w.alloc o).heap[w.heap.size]? = some o := by
  show (w.heap.push o)[w.heap.size]? = _
  rw [Array.getElem?_push, if_pos rfl]

/-- Where a new block is laid. -/
theorem newSlot_at {slot : Option Nat} {s : Slot} {b : Nat} (hlen : G.length = H.length) (k : Nat) (h : newSlot slot H s = some (b, H')) :
    ∃ G' : List Nat, ¬ inUse H b ∧ (∀ b', b' ≠ b → H'[b']? = H[b']?) ∧ (∀ b', b' ≠ b → G'[b']? = G[b']?) ∧ H'[b]? = some s ∧ G'[b]? = some k ∧ G'.length = H'.length := by
  unfold newSlot at h
  split at h
  · cases h
    refine ⟨G ++ [k], ?_, ?_, ?_, by simp, by simp [← hlen], by simp [hlen]⟩
    · rintro ⟨s', h', _⟩
      simp at h'
    · intro b' hb
      rcases Nat.lt_or_ge b' H.length with h1 | h1
      · rw [List.getElem?_append_left h1]
      · rw [List.getElem?_append_right h1, List.getElem?_eq_none (l := H) h1]
        rw [List.getElem?_eq_none]; simp; omega
    · intro b' hb
      rcases Nat.lt_or_ge b' G.length with h1 | h1
      · rw [List.getElem?_append_left h1]
      · rw [List.getElem?_append_right h1, List.getElem?_eq_none (l := G) h1]
        rw [List.getElem?_eq_none]; simp; omega
  · split at h
    · rename_i hb
      cases h
      have hlt : b < H.length := (List.getElem?_eq_some_iff.1 hb).1
      refine ⟨G.set b k, ?_, ?_, ?_, by simp [hlt], by simp [hlen, hlt], by simp [hlen]⟩
      · rintro ⟨s', h', hne⟩
        rw [hb] at h'
        exact hne (Option.some.inj h').symm
      · intro b' hne
        rw [List.getElem?_set_ne (Ne.symm hne)]
      · intro b' hne
        rw [List.getElem?_set_ne (Ne.symm hne)]
    · cases h

/-- A new block of cells. -/
theorem new_ok {slot : Option Nat} {b : Nat} {cs : List V} {arr : Array Value} (ty : TypeId) (hS : SimH base X w H G) (hn : newSlot slot H (.cells cs) = some (b, H')) (hle : cs.length ≤ arr.size)
    (hl : RVL w base (Mof X H G) H G cs (arr.toList.take cs.length)) (ho : ∀ y, y ∈ cs → y.one = true) :
    ∃ G', Ext w H G (w.alloc (.cells arr ty)) H' G' ∧ SimH base X (w.alloc (.cells arr ty)) H' G' ∧ okRef H' b cs.length ∧ G'.getD b 0 = w.heap.size ∧ H'[b]? = some (.cells cs) := by
  obtain ⟨G', h1, h2, h3, h4, h5, h6⟩ := newSlot_at hS.len w.heap.size hn
  have hE : Ext w H G (w.alloc (.cells arr ty)) H' G' :=
    Ext.new hS b _ w.heap.size (.inl h1) h2 h3 h4 (fun _ => h5) (Nat.le_refl _) rfl rfl rfl (by simp) (fun k hk => heap_push_lt _ _ _ hk)
  refine ⟨G', hE, ?_, ⟨⟨_, h4, by intro e; cases e⟩, (fun cs' hc => by rw [h4] at hc; cases hc; exact Nat.le_refl _), (fun hc => by rw [h4] at hc; cases hc)⟩, getD_of h5, h4⟩
  refine hS.upd b _ w.heap.size h6 h2 h3 h4 hE ?_ ?_
  · intro b1 s1 k1 hne hb1 hl1 hg1
    obtain ⟨k, c1, _, c3, _⟩ := hS.block b1 s1 hb1 hl1
    rw [c1] at hg1
    cases hg1
    exact heap_push_lt _ _ _ c3
  · intro _
    exact ⟨h5, by simp, .inr (Nat.le_refl _), arr, ty, heap_push_new _ _, hle, hl.ext hE, ho⟩

/-- A nil slice has got its first cells. -/
theorem fillV_ok {b : Nat} {cs : List V} {arr : Array Value} (ty : TypeId) (hS : SimH base X w H G) (hb : H[b]? = some .virt) (hne : cs ≠ []) (hle : cs.length ≤ arr.size)
    (hl : RVL w base (Mof X H G) H G cs (arr.toList.take cs.length)) (ho : ∀ y, y ∈ cs → y.one = true) :
    ∃ G', Ext w H G (w.alloc (.cells arr ty)) (H.set b (.cells cs)) G' ∧ SimH base X (w.alloc (.cells arr ty)) (H.set b (.cells cs)) G' ∧ okRef (H.set b (.cells cs)) b cs.length ∧ G'.getD b 0 = w.heap.size ∧ (H.set b (.cells cs))[b]? = some (.cells cs) := by
  have hlt : b < H.length := (List.getElem?_eq_some_iff.1 hb).1
  have hset : (H.set b (.cells cs))[b]? = some (.cells cs) := by simp [hlt]
  have h5 : (G.set b w.heap.size)[b]? = some w.heap.size := by simp [hS.len, hlt]
  have h2 : ∀ b', b' ≠ b → (H.set b (.cells cs))[b']? = H[b']? := fun b' h => List.getElem?_set_ne (Ne.symm h)
  have h3 : ∀ b', b' ≠ b → (G.set b w.heap.size)[b']? = G[b']? := fun b' h => List.getElem?_set_ne (Ne.symm h)
  have hE : Ext w H G (w.alloc (.cells arr ty)) (H.set b (.cells cs)) (G.set b w.heap.size) :=
    Ext.new hS b _ w.heap.size (.inr ⟨hb, cs, hne, rfl⟩) h2 h3 hset (fun _ => h5) (Nat.le_refl _) rfl rfl rfl (by simp) (fun k hk => heap_push_lt _ _ _ hk)
  refine ⟨_, hE, ?_, ⟨⟨_, hset, by intro e; cases e⟩, (fun cs' hc => by rw [hset] at hc; cases hc; exact Nat.le_refl _), (fun hc => by rw [hset] at hc; cases hc)⟩, getD_of h5, hset⟩
  refine hS.upd b _ w.heap.size (by simp [hS.len]) h2 h3 hset hE ?_ ?_
  · intro b1 s1 k1 hne hb1 hl1 hg1
    obtain ⟨k, c1, _, c3, _⟩ := hS.block b1 s1 hb1 hl1
    rw [c1] at hg1
    cases hg1
    exact heap_push_lt _ _ _ c3
  · intro _
    exact ⟨h5, by simp, .inr (Nat.le_refl _), arr, ty, heap_push_new _ _, hle, hl.ext hE, ho⟩

/-- A nil slice of the function's own. -/
theorem new_virt {slot : Option Nat} {b : Nat} (hS : SimH base X w H G) (hn : newSlot slot H .virt = some (b, H')) :
    ∃ G', Ext w H G w H' G' ∧ SimH base X w H' G' ∧ okRef H' b 0 ∧ H'[b]? = some .virt := by
  obtain ⟨G', h1, h2, h3, h4, h5, h6⟩ := newSlot_at hS.len 0 hn
  have hE : Ext w H G w H' G' := Ext.new hS b _ w.heap.size (.inl h1) h2 h3 h4 (fun h => by cases h) (Nat.le_refl _) rfl rfl rfl (Nat.le_refl _) (fun k hk => rfl)
  refine ⟨G', hE, ?_, ⟨⟨_, h4, by intro e; cases e⟩, (fun cs' hc => by rw [h4] at hc; cases hc), (fun _ => rfl)⟩, h4⟩
  refine hS.upd b _ w.heap.size h6 h2 h3 h4 hE ?_ ?_
  · intro b1 s1 k1 hne hb1 hl1 hg1
    rfl
  · intro h; cases h

theorem ref_ptr {b n off : Nat} {cs : List V} {G' : List Nat} {k : Nat} (hr : okRef H' b n) (hb : H'[b]? = some (.cells cs)) (hk : G'.getD b 0 = k) {w' : World} {M : Nat → Prop} : RV w' base M H' G' (.ptr b n off) (.pointer (some ⟨k, off, none⟩)) :=
  .ptr hr (by rw [hb]; intro e; cases e) (fun _ _ => by rw [hk])

theorem plains_one {zs : List Value} (h : zs.all plain = true) : ∀ y, y ∈ ivs zs → y.one = true := by
  intro y hy
  unfold ivs at hy
  obtain ⟨z, _, rfl⟩ := List.mem_map.1 hy
  rfl

theorem ivs_ok {zs : List Value} (h : zs.all plain = true) : RVL w base (Mof X H G) H G (ivs zs) zs := by
  have : RVL w base (Mof X H G) H G ((zs.map I.s).map .i) zs := RL.toV (RL.of_plain zs h)
  simpa [ivs, Function.comp_def] using this

theorem StepOK.value' {x : Value} {w' : World} {G' : List Nat} (hr : (execOp a.eval o).run P w = .ok (.value x) w') (hE : Ext w H G w' H' G') (hS' : SimH base X w' H' G') (hv : RV w' base (Mof X H' G') H' G' v x) : StepOK P base X o a w H G v H' := by
  intro next Q hn
  unfold Oper.wp
  rw [hr]
  exact hn x w' G' hE hS' hv

theorem ok_vnil {slot : Option Nat} {b : Nat} (hS : SimH base X w H G) (ho : o.op = .move (.const (.slice none 0 0)) ∨ o.op = .assign (.const (.slice none 0 0))) (hn : newSlot slot H .virt = some (b, H')) {z : Nat} {ag : Bool} :
    StepOK P base X o a w H G (.hsl b 0 0 z ag 0) H' := by
  obtain ⟨G', hE, hS', hr, hv⟩ := new_virt hS hn
  refine StepOK.value' (x := .slice none 0 0) ?_ hE hS' (.hnil hr ?_)
  · rcases ho with ho | ho <;> simp [execOp, ho] <;> rfl
  · unfold cellsAt
    rw [hv]

theorem ok_alloc {slot : Option Nat} {e : TypeId} {zero : List Value} {b : Nat} (hS : SimH base X w H G) (ho : o.op = .alloc e) (hz : zeroOf P e = some zero) (hn : newSlot slot H (.cells (ivs zero)) = some (b, H')) :
    StepOK P base X o a w H G (.ptr b zero.length 0) H' := by
  obtain ⟨h1, u, h2, h3⟩ := zeroOf_ok hz
  have hlen : (ivs zero).length = zero.length := by simp [ivs]
  obtain ⟨G', hE, hS', hr, hg, hbb⟩ := new_ok (arr := u.cells) e hS hn (by rw [hlen, ← h2]; simp) (by
    have : u.cells.toList.take (ivs zero).length = zero := by rw [h2, hlen, List.take_length]
    rw [this]; exact ivs_ok h1) (plains_one h1)
  rw [hlen] at hr
  refine StepOK.value' (x := .pointer (some ⟨w.heap.size, 0, none⟩)) ?_ hE hS' (.ptr hr (by rw [hbb]; intro e; cases e) (fun _ _ => by rw [hg]))
  simp only [execOp, ho, Instr.alloc, newVar, newRow, Sem.run_bind, h3, Result.andThen_ok, run_newObj, Sem.run_pure]
  rfl

theorem virts_ok : ∀ (n : Nat) {H : Heap} {G : List Nat}, SimH base X w H G → ∃ G', Ext w H G w (H ++ List.replicate n .virt) G' ∧ SimH base X w (H ++ List.replicate n .virt) G'
  | 0, H, G, hS => ⟨G, by simpa using Ext.refl w H G, by simpa using hS⟩
  | n + 1, H, G, hS => by
    obtain ⟨G1, h1, h2, _, _⟩ := new_virt (slot := none) hS rfl
    obtain ⟨G2, h3, h4⟩ := virts_ok n h2
    have e : H ++ [Slot.virt] ++ List.replicate n .virt = H ++ List.replicate (n + 1) .virt := by
      rw [List.replicate_succ, List.append_assoc]; rfl
    rw [e] at h3 h4
    exact ⟨G2, h1.trans h3, h4⟩

theorem virtC_length : ∀ (zs : List Value) (hs : List (Nat × Bool)) (b : Nat), (virtC hs b zs).length = zs.length
  | [], _, _ => rfl
  | z :: zs, hs, b => by
    unfold virtC
    split <;> simp [virtC_length zs]

theorem virtC_one : ∀ (zs : List Value) (hs : List (Nat × Bool)) (b : Nat), ∀ y, y ∈ virtC hs b zs → zs.all plain = true → y.one = true
  | [], hs, b, y, h, _ => by simp [virtC] at h
  | z :: zs, hs, b, y, h, hp => by
    simp only [List.all_cons, Bool.and_eq_true] at hp
    unfold virtC at h
    split at h
    · rcases List.mem_cons.1 h with rfl | h
      · rfl
      · exact virtC_one zs _ _ y h hp.2
    · rcases List.mem_cons.1 h with rfl | h
      · rfl
      · exact virtC_one zs _ _ y h hp.2

theorem virtC_ok {M : Nat → Prop} : ∀ (zs : List Value) (hs : List (Nat × Bool)) (b : Nat), zs.all plain = true → (∀ j, j < nilsOf zs → H[b + j]? = some .virt) → RVL w base M H G (virtC hs b zs) zs
  | [], hs, b, _, _ => .nil
  | z :: zs, hs, b, hp, hv => by
    simp only [List.all_cons, Bool.and_eq_true] at hp
    unfold virtC
    unfold nilsOf at hv
    split
    · rename_i e
      rw [if_pos e] at hv
      obtain rfl := isNilV_eq e
      have h0 : H[b]? = some .virt := hv 0 (by omega)
      refine .cons (.hnil ⟨⟨_, h0, by intro e; cases e⟩, (fun cs hc => by rw [h0] at hc; cases hc), fun _ => rfl⟩ (by unfold cellsAt; rw [h0])) (virtC_ok zs _ (b + 1) hp.2 ?_)
      intro j hj
      have := hv (j + 1) (by omega)
      rwa [show b + 1 + j = b + (j + 1) from by omega]
    · rename_i e
      rw [if_neg e] at hv
      exact .cons (.i (.s hp.1)) (virtC_ok zs _ b hp.2 hv)

theorem ok_allocV {e : TypeId} {hs : List (Nat × Bool)} {zero : List Value} (hS : SimH base X w H G) (ho : o.op = .alloc e) (hz : zeroOf P e = some zero) :
    StepOK P base X o a w H G (.ptr (H.length + nilsOf zero) zero.length 0) (H ++ List.replicate (nilsOf zero) .virt ++ [.cells (virtC hs H.length zero)]) := by
  obtain ⟨h1, u, h2, h3⟩ := zeroOf_ok hz
  obtain ⟨G1, hE1, hS1⟩ := virts_ok (nilsOf zero) hS
  have hlen := virtC_length zero hs H.length
  have hn : newSlot none (H ++ List.replicate (nilsOf zero) .virt) (.cells (virtC hs H.length zero)) = some (H.length + nilsOf zero, H ++ List.replicate (nilsOf zero) .virt ++ [.cells (virtC hs H.length zero)]) := by
    simp [newSlot]
  obtain ⟨G', hE, hS', hr, hg, hb⟩ := new_ok (arr := u.cells) e hS1 hn (by rw [hlen, ← h2]; simp) (by
    have : u.cells.toList.take (virtC hs H.length zero).length = zero := by rw [h2, hlen, List.take_length]
    rw [this]
    refine virtC_ok zero hs H.length h1 ?_
    intro j hj
    rw [List.getElem?_append_right (by omega)]
    simp [hj]) (fun y hy => virtC_one zero _ _ y hy h1)
  rw [hlen] at hr
  refine StepOK.value' (x := .pointer (some ⟨w.heap.size, 0, none⟩)) ?_ (hE1.trans hE) hS' (.ptr hr (by rw [hb]; intro e; cases e) (fun _ _ => by rw [hg]))
  simp only [execOp, ho, Instr.alloc, newVar, newRow, Sem.run_bind, h3, Result.andThen_ok, run_newObj, Sem.run_pure]
  rfl

theorem cells_ok {x : V} {u : Value} (h : RV w base (Mof X H G) H G x u) (hx : x.cells.all V.one = true) : RVL w base (Mof X H G) H G x.cells u.cells.toList :=
  h.cells (by intro e; rw [e] at hx; simp [V.one] at hx)

theorem ok_box {slot : Option Nat} {e : TypeId} {x : Operand} {b : Nat} (hS : SimH base X w H G) (hT : TV w base (Mof X H G) H G t a.tmps) (ho : o.op = .box e x) (hx : (St.ev ⟨t, H⟩ x).cells.all V.one = true)
    (hn : newSlot slot H (.cells (St.ev ⟨t, H⟩ x).cells) = some (b, H')) : StepOK P base X o a w H G (.ptr b (St.ev ⟨t, H⟩ x).cells.length 0) H' := by
  have hl := cells_ok (ev_ok (h := H) hT x) hx
  have hlen := hl.length
  simp at hlen
  obtain ⟨G', hE, hS', hr, hg, hbb⟩ := new_ok (arr := (a.eval x).cells) e hS hn (by omega) (by
    rw [List.take_of_length_le (by simp; omega)]; exact hl) (fun y hy => List.all_eq_true.1 hx y hy)
  refine StepOK.value' (x := .pointer (some ⟨w.heap.size, 0, none⟩)) ?_ hE hS' (.ptr hr (by rw [hbb]; intro e; cases e) (fun _ _ => by rw [hg]))
  simp only [execOp, ho, Instr.box, newVar, newRow, Sem.run_bind, Result.andThen_ok, run_newObj, Sem.run_pure]
  rfl

/-- Cells laid over an array's. -/
theorem foldl_splice (off : Nat) : ∀ (vs : List Value) (i : Nat) (arr : Array Value), off + i + vs.length ≤ arr.size →
    ((vs.zipIdx i).foldl (fun cs (p : Value × Nat) => cs.setIfInBounds (off + p.2) p.1) arr).toList = arr.toList.take (off + i) ++ vs ++ arr.toList.drop (off + i + vs.length)
  | [], i, arr, _ => by simp
  | v :: vs, i, arr, h => by
    simp at h
    rw [List.zipIdx_cons, List.foldl_cons, foldl_splice off vs (i + 1) _ (by simp; omega)]
    simp only [Array.toList_setIfInBounds]
    have hlt : off + i < arr.toList.length := by simp; omega
    have hmin : (arr.toList.take (off + i)).length = off + i := by simp; omega
    rw [List.take_set, show off + (i + 1) = off + i + 1 from by omega, List.drop_set_of_lt (by omega)]
    rw [List.take_succ_eq_append_getElem hlt, List.set_append_right _ _ (by omega), hmin]
    simp [Nat.add_assoc, Nat.add_comm, Nat.add_left_comm]

theorem splice_ok {cs ys : List V} {xs us : List Value} {off : Nat} (h : RVL w base (Mof X H G) H G cs xs) (hy : RVL w base (Mof X H G) H G ys us) : RVL w base (Mof X H G) H G (splice cs off ys) (xs.take off ++ us ++ xs.drop (off + us.length)) := by
  unfold splice
  rw [hy.length]
  exact ((h.take off).append hy).append (h.drop _)

theorem splice_length {cs ys : List V} {off : Nat} (h : off + ys.length ≤ cs.length) : (splice cs off ys).length = cs.length := by
  unfold splice; simp; omega

theorem fill_ok (place : Nat → Option (Nat × Nat)) : ∀ (parts : List (Nat × Operand)) (ps : List (Nat × Nat × Operand)) (cs : List V) (arr : Array Value) (cs' : List V), TV w base (Mof X H G) H G t a.tmps →
    ps = parts.map (fun p => match place p.1 with | some q => (q.1, q.2, p.2) | none => (0, 0, p.2)) → (∀ p, p ∈ parts → (place p.1).isSome = true) → RVL w base (Mof X H G) H G cs arr.toList → fillV ⟨t, H⟩ cs ps = some cs' →
    ∃ arr', Instr.fill place arr (parts.map fun p => (p.1, a.eval p.2)) = some arr' ∧ RVL w base (Mof X H G) H G cs' arr'.toList ∧ ((∀ y, y ∈ cs → y.one = true) → ∀ y, y ∈ cs' → y.one = true) ∧ cs'.length = cs.length
  | [], ps, cs, arr, cs', hT, hps, _, hl, hf => by
    subst hps
    simp [fillV] at hf
    subst hf
    exact ⟨arr, rfl, hl, fun h => h, rfl⟩
  | (i, x) :: parts, ps, cs, arr, cs', hT, hps, hpl, hl, hf => by
    subst hps
    obtain ⟨⟨off, size⟩, hp⟩ := Option.isSome_iff_exists.1 (hpl (i, x) (by simp))
    simp only [List.map_cons, hp] at hf
    unfold fillV at hf
    simp only at hf
    split at hf
    · rename_i hc
      obtain ⟨c1, c2, c3⟩ := hc
      have hx := ev_ok (h := H) hT x
      have hxl := cells_ok hx c1
      have hlen := hxl.length
      have hal := hl.length
      simp at hlen hal
      have hsz : (a.eval x).cells.size = size := by omega
      have hfold := foldl_splice off (a.eval x).cells.toList 0 arr (by simp; omega)
      have hl2 := splice_ok (off := off) hl hxl
      have e1 : arr.toList.take off ++ (a.eval x).cells.toList ++ arr.toList.drop (off + (a.eval x).cells.toList.length) = (((a.eval x).cells.toList.zipIdx 0).foldl (fun cs (p : Value × Nat) => cs.setIfInBounds (off + p.2) p.1) arr).toList := by
        rw [hfold]; simp
      rw [e1] at hl2
      obtain ⟨arr', f1, f2, f3, f4⟩ := fill_ok place parts _ _ _ cs' hT rfl (fun p hp => hpl p (by simp [hp])) hl2 hf
      refine ⟨arr', ?_, f2, ?_, by rw [f4, splice_length (by omega)]⟩
      · simp only [List.map_cons, Instr.fill, hp]
        rw [if_neg (by simp; omega)]
        rw [← Array.foldl_toList, Array.toList_zipIdx]
        exact f1
      · intro hone
        refine f3 ?_
        intro y hy
        unfold splice at hy
        rcases List.mem_append.1 hy with hy | hy
        · rcases List.mem_append.1 hy with hy | hy
          · exact hone y (List.mem_of_mem_take hy)
          · exact List.all_eq_true.1 c1 y hy
        · exact hone y (List.mem_of_mem_drop hy)
    · cases hf

theorem run_mapM_list {α β : Type} {f : α → Sem β} {g : α → β} (w : World) : ∀ (l : List α), (∀ x, x ∈ l → (f x).run P w = .ok (g x) w) → (l.mapM f).run P w = .ok (l.map g) w
  | [], _ => by simp
  | x :: l, h => by
    simp only [List.mapM_cons, Sem.run_bind]
    rw [h x (by simp)]
    simp only [Result.andThen_ok]
    rw [run_mapM_list w l (fun y hy => h y (by simp [hy]))]
    simp

end
end Go.AM
