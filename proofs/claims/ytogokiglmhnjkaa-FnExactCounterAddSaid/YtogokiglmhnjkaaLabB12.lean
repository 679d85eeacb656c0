/- Stores, append, calls. No condition. -/
import Derived.Test.YtogokiglmhnjkaaLabB11
set_option linter.unusedVariables false
set_option linter.unusedSimpArgs false
namespace Go.AM

section
variable {P : Program} {base : Nat} {X : Nat → Prop} {o : Oper} {a : Act} {w : World} {H H' : Heap} {G : List Nat} {v : V} {t : Nat → V}

/-- The cells of a good block are changed where they lie. -/
theorem change_ok {w' : World} {b k : Nat} {cs cs' : List V} {arr arr' : Array Value} {ty : TypeId} (hS : SimH base X w H G) (hb : H[b]? = some (.cells cs)) (hg : G[b]? = some k) (hw : w.heap[k]? = some (.cells arr ty (0, 0)))
    (hw' : w'.heap[k]? = some (.cells arr' ty (0, 0))) (hsz : arr'.size = arr.size) (hlen : cs.length ≤ cs'.length) (hle : cs'.length ≤ arr'.size)
    (hos : w'.os = w.os) (htape : w'.tape = w.tape) (hout : w'.output = w.output) (hsize : w'.heap.size = w.heap.size) (hkeep : ∀ k', k' ≠ k → w'.heap[k']? = w.heap[k']?)
    (hl : RVL w base (Mof X H G) H G cs' (arr'.toList.take cs'.length)) (ho : ∀ y, y ∈ cs' → y.one = true) :
    Ext w H G w' (H.set b (.cells cs')) G ∧ SimH base X w' (H.set b (.cells cs')) G := by
  have hlt : b < H.length := (List.getElem?_eq_some_iff.1 hb).1
  have hset : (H.set b (.cells cs'))[b]? = some (.cells cs') := by simp [hlt]
  have hne : ∀ b', b' ≠ b → (H.set b (.cells cs'))[b']? = H[b']? := fun b' h => List.getElem?_set_ne (Ne.symm h)
  have hE : Ext w H G w' (H.set b (.cells cs')) G :=
    Ext.change hS b _ _ k k hb rfl hg hne (fun _ _ => rfl) hset hg (.inl rfl) ⟨hlen, fun _ => ⟨rfl, by unfold blockSize; rw [hw, hw']; simp [hsz]⟩⟩ hos htape hout (by omega) (fun k1 _ h => hkeep k1 h)
  refine ⟨hE, hS.upd b _ k (by simp [hS.len]) hne (fun _ _ => rfl) hset hE ?_ ?_⟩
  · intro b1 s1 k1 h1 h2 h3 h4
    refine hkeep k1 ?_
    rintro rfl
    exact h1 (hS.inj b1 b s1 _ _ h2 h3 hb rfl h4 hg)
  · intro _
    obtain ⟨k2, c1, _, c3, _⟩ := hS.block b _ hb rfl
    rw [hg] at c1
    cases c1
    exact ⟨hg, by omega, .inl ⟨_, hb, rfl, hg⟩, arr', ty, hw', hle, hl.ext hE, ho⟩

theorem ok_storeC {ty : TypeId} {z : Nat} {p x : Operand} {ys : List V} {pv : V} (hS : SimH base X w H G) (h : RV w base (Mof X H G) H G pv (a.eval p)) (hxl : ys.all V.one = true → RVL w base (Mof X H G) H G ys (a.eval x).cells.toList) (ho : o.op = .store ty p x) (hz : szOf P ty = some z)
    (hv : stepStoreC z H ys pv = some H') : StepOK P base X o a w H G undefV H' := by
  unfold stepStoreC at hv
  split at hv
  · rename_i b g off
    obtain ⟨cs, hcs, hv2⟩ := Option.bind_eq_some_iff.1 hv
    split at hv2
    · rename_i hc
      obtain ⟨c1, c2, c3⟩ := hc
      cases hv2
      generalize hu2 : a.eval p = u at h
      cases h with
      | ptr hr hn hval =>
        replace hcs := getCells_not hcs hn
        obtain rfl := hval cs hcs
        obtain ⟨arr, ty', g1, e1, e2, e3, e4, e5, e6⟩ := hS.at hcs
        replace hxl := hxl c1
        have hxlen := hxl.length
        simp at hxlen
        have hone : ∀ q, q ∈ (a.eval x).cells.toList → q.oneCell' = true := by
          intro q hq
          obtain ⟨j, hj⟩ := List.getElem?_of_mem hq
          have hj2 : j < ys.length := by
            have := (List.getElem?_eq_some_iff.1 hj).1; simp at this; omega
          obtain ⟨q', h1, h2⟩ := hxl.get j ys[j] (List.getElem?_eq_getElem hj2)
          rw [hj] at h1
          cases h1
          exact h2.one (List.all_eq_true.1 c1 _ (List.getElem_mem hj2))
        obtain ⟨w', arr', r1, r2, r3, r4, r5, r6, r7, r8⟩ := run_storeCells P (G.getD b 0) ty' off (a.eval x).cells.toList 0 w arr e1 (by simp; omega) hone
        have hasz : arr'.size = arr.size := by
          have := congrArg List.length r8
          simp at this; omega
        have hspl := splice_ok (off := off) e4 hxl
        have htake : arr'.toList.take (splice cs off ys).length = (arr.toList.take cs.length).take off ++ (a.eval x).cells.toList ++ (arr.toList.take cs.length).drop (off + (a.eval x).cells.toList.length) := by
          rw [splice_length (by omega), r8, Nat.add_zero, List.take_take, Nat.min_eq_left (by omega)]
          rw [List.drop_take]
          have l1 : (arr.toList.take off ++ (a.eval x).cells.toList).length = off + ys.length := by simp; omega
          have l2 : (a.eval x).cells.toList.length = ys.length := by simp; omega
          rw [List.take_append, l1, List.take_of_length_le (by omega), l2]
        obtain ⟨hE, hS'⟩ := change_ok (cs' := splice cs off ys) hS e6 g1 e1 r7 hasz (by rw [splice_length (by omega)]; exact Nat.le_refl _) (by rw [splice_length (by omega)]; omega) r2 r3 r4 r5 r6 (by rw [htake]; exact hspl) (by
          intro q hq
          unfold splice at hq
          rcases List.mem_append.1 hq with hq | hq
          · rcases List.mem_append.1 hq with hq | hq
            · exact e5 q (List.mem_of_mem_take hq)
            · exact List.all_eq_true.1 c1 q hq
          · exact e5 q (List.mem_of_mem_drop hq))
        intro next Q hn
        unfold Oper.wp
        have hrun : (execOp a.eval o).run P w = .ok .skip w' := by
          simp only [execOp, ho, Instr.storeAt, hu2, Instr.sureAddr, storeVar, Sem.run_bind, Sem.run_pure, Result.andThen_ok, run_szOf hz]
          rw [if_neg (by simp; omega)]
          rw [r1]
          rfl
        rw [hrun]
        exact hn undef w' G hE hS' RV.undef
    · cases hv2
  · cases hv

theorem ok_store {ty : TypeId} {z : Nat} {p x : Operand} (hS : SimH base X w H G) (hT : TV w base (Mof X H G) H G t a.tmps) (ho : o.op = .store ty p x) (hz : szOf P ty = some z)
    (hv : stepStore z H (St.ev ⟨t, H⟩ x) (St.ev ⟨t, H⟩ p) = some H') : StepOK P base X o a w H G undefV H' :=
  ok_storeC hS (ev_ok (h := H) hT p) (fun h1 => cells_ok (ev_ok (h := H) hT x) h1) ho hz hv

theorem virtV_ok {M : Nat → Prop} : ∀ (ys : List V) (vs : List Value) (ht : List (Nat × Bool)) (b : Nat), RVL w base M H G ys vs → (∀ j, j < nilsV ys → H[b + j]? = some .virt) → RVL w base M H G (virtV ht b ys) vs
  | [], _, ht, b, .nil, _ => .nil
  | y :: ys, _, ht, b, .cons h hs, hv => by
    unfold virtV
    unfold nilsV at hv
    split
    · rename_i e
      rw [if_pos e] at hv
      obtain rfl := isNil_eq e
      have h0 : H[b]? = some .virt := hv 0 (by omega)
      cases h with
      | i hi =>
        cases hi
        refine .cons (.hnil ⟨⟨_, h0, by intro e; cases e⟩, (fun cs hc => by rw [h0] at hc; cases hc), fun _ => rfl⟩ (by unfold cellsAt; rw [h0])) (virtV_ok ys _ _ (b + 1) hs ?_)
        intro j hj
        have := hv (j + 1) (by omega)
        rwa [show b + 1 + j = b + (j + 1) from by omega]
    · rename_i e
      rw [if_neg e] at hv
      exact .cons h (virtV_ok ys _ _ b hs hv)

theorem virtV_one : ∀ (ys : List V) (ht : List (Nat × Bool)) (b : Nat), (virtV ht b ys).all V.one = true → ys.all V.one = true
  | [], _, _, _ => rfl
  | y :: ys, ht, b, h => by
    unfold virtV at h
    split at h
    · rename_i e
      obtain rfl := isNil_eq e
      simp only [List.all_cons, Bool.and_eq_true] at h ⊢
      exact ⟨rfl, virtV_one ys _ _ h.2⟩
    · simp only [List.all_cons, Bool.and_eq_true] at h ⊢
      exact ⟨h.1, virtV_one ys _ _ h.2⟩

theorem ok_storeV {ty : TypeId} {ht : List (Nat × Bool)} {z : Nat} {p x : Operand} (hS : SimH base X w H G) (hT : TV w base (Mof X H G) H G t a.tmps) (ho : o.op = .store ty p x) (hz : szOf P ty = some z)
    (hv : stepStoreC z (H ++ List.replicate (nilsV (St.ev ⟨t, H⟩ x).cells) .virt) (virtV ht H.length (St.ev ⟨t, H⟩ x).cells) (St.ev ⟨t, H⟩ p) = some H') : StepOK P base X o a w H G undefV H' := by
  obtain ⟨G1, hE, hS1⟩ := virts_ok (nilsV (St.ev ⟨t, H⟩ x).cells) hS
  have hp := (ev_ok (h := H) hT p).ext hE
  have hx := fun h1 => (cells_ok (ev_ok (h := H) hT x) h1).ext hE
  have hstep := ok_storeC (P := P) (o := o) (a := a) hS1 hp (fun h1 => virtV_ok _ _ ht H.length (hx (virtV_one _ _ _ h1)) (by
    intro j hj
    rw [List.getElem?_append_right (by omega)]
    simp [hj])) ho hz hv
  intro next Q hn
  refine hstep next Q ?_
  intro x' w' G' hE' hS' hv'
  exact hn x' w' G' (hE.trans hE') hS' hv'

theorem run_firstCells_slice {z n : Nat} {p : Option Addr} {vs : List Value} {cap : Nat} (hl : vs.length = n * z) (h : 0 < vs.length → ∃ q, p = some q ∧ Reads w q vs) (w' : World) (hw : ∀ q, p = some q → ∀ j, j < vs.length → w'.cell? (q.add j) = w.cell? (q.add j)) :
    (Builtin.firstCells z n (.slice p n cap)).run P w' = .ok vs.toArray w' := by
  cases p with
  | none =>
    have : vs = [] := by
      cases vs with
      | nil => rfl
      | cons _ _ => obtain ⟨q, hq, _⟩ := h (by simp); cases hq
    subst this
    simp [Builtin.firstCells]
  | some q =>
    simp only [Builtin.firstCells]
    refine run_loadCells P w' q vs _ hl ?_
    intro j hj
    rw [hw q rfl j hj]
    obtain ⟨q', hq, hr⟩ := h (by omega)
    cases hq
    exact hr j hj

/-- What is appended, whatever it lies in. -/
theorem src_ok {x : V} {u : Value} {n z : Nat} {ys : List V} (hS : SimH base X w H G) (h : RV w base (Mof X H G) H G x u) (hn : lenV x = some n) (hc : srcCells H x = some ys) (hl : ys.length = n * z) (hone : ys.all V.one = true) :
    ∃ vs, vs.length = ys.length ∧ RVL w base (Mof X H G) H G ys vs ∧ (Builtin.lenOf u).run P w = .ok n w ∧ (∀ w', (∀ k, k < w.heap.size → w'.heap[k]? = w.heap[k]?) → (Builtin.firstCells z n u).run P w' = .ok vs.toArray w') ∧ ∀ q, q ∈ vs → q.oneCell' = true := by
  have hones : ∀ {vs : List Value}, RVL w base (Mof X H G) H G ys vs → ∀ q, q ∈ vs → q.oneCell' = true := by
    intro vs hvs q hq
    obtain ⟨j, hj⟩ := List.getElem?_of_mem hq
    have hj2 : j < ys.length := by
      have := (List.getElem?_eq_some_iff.1 hj).1; rw [hvs.length] at this; exact this
    obtain ⟨q', h1, h2⟩ := hvs.get j ys[j] (List.getElem?_eq_getElem hj2)
    rw [hj] at h1
    cases h1
    exact h2.one (List.all_eq_true.1 hone _ (List.getElem_mem hj2))
  rcases lenV_ok h hn with ⟨p, cap, rfl⟩ | ⟨s, rfl, hs⟩
  · obtain ⟨vs, h1, h2, h3, h4⟩ := srcCells_ok hS h hc hl
    refine ⟨vs, h1, h2, by simp [Builtin.lenOf], ?_, hones h2⟩
    intro w' hw
    refine run_firstCells_slice (w := w) (by omega) (by rw [h1]; exact h3) w' ?_
    intro q hq j hj
    obtain ⟨q', hq', hr⟩ := h3 (by omega)
    rw [hq] at hq'
    cases hq'
    have hcell := hr j hj
    have hlt := World.block_lt_of_cell? w _ hcell
    exact World.cell?_of_block (w := w) (hw _ hlt)
  · have hx : x = .i (.s (.string s)) := by
      unfold lenV at hn
      split at hn
      · cases h
      · cases h with
        | i hi => cases hi
      · cases h with
        | i hi => cases hi; rfl
      · cases h with
        | i hi => cases hi
      · cases hn
    subst hx
    simp only [srcCells] at hc
    cases hc
    have h2 : RVL w base (Mof X H G) H G (s.data.toList.map fun b => V.i (.s (.int .u8 b.toNat))) (s.data.toList.map fun b => Value.int .u8 b.toNat) := by
      have := ivs_ok (w := w) (base := base) (X := X) (H := H) (G := G) (zs := s.data.toList.map fun b => Value.int .u8 b.toNat) (by rw [List.all_map]; exact List.all_eq_true.2 (fun _ _ => rfl))
      simpa [ivs, Function.comp_def] using this
    refine ⟨_, h2.length, h2, by simp [Builtin.lenOf, hs], ?_, hones h2⟩
    intro w' _
    have hn2 : s.data.size = n := hs
    have hext : s.extract 0 n = s := by
      apply ByteArray.ext
      simp [ByteArray.data_extract, ← hn2]
    simp only [Builtin.firstCells, hext]
    simp only [Sem.run_pure]
    congr 1
    apply Array.ext'
    simp

end
end Go.AM
