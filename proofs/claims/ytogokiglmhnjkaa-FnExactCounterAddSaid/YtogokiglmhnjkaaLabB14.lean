/- append, put together. No condition. -/
import Derived.Test.YtogokiglmhnjkaaLabB13
set_option linter.unusedVariables false
set_option linter.unusedSimpArgs false
namespace Go.AM

section
variable {P : Program} {base : Nat} {X : Nat → Prop} {o : Oper} {a : Act} {w : World} {H H' : Heap} {G : List Nat} {v : V} {t : Nat → V}

/-- The cells of a good block, more of them, elsewhere. -/
theorem relocate_ok {w' : World} {b k : Nat} {cs cs' : List V} {arr' : Array Value} {ty : TypeId} (hS : SimH base X w H G) (hb : H[b]? = some (.cells cs))
    (hw' : w'.heap[k]? = some (.cells arr' ty (0, 0))) (hk : w.heap.size ≤ k) (hlen : cs.length < cs'.length) (hle : cs'.length ≤ arr'.size)
    (hos : w'.os = w.os) (htape : w'.tape = w.tape) (hout : w'.output = w.output) (hsize : w.heap.size ≤ w'.heap.size) (hkeep : ∀ k', k' < w.heap.size → w'.heap[k']? = w.heap[k']?)
    (hl : RVL w base (Mof X H G) H G cs' (arr'.toList.take cs'.length)) (ho : ∀ y, y ∈ cs' → y.one = true) :
    Ext w H G w' (H.set b (.cells cs')) (G.set b k) ∧ SimH base X w' (H.set b (.cells cs')) (G.set b k) := by
  have hlt : b < H.length := (List.getElem?_eq_some_iff.1 hb).1
  obtain ⟨k0, g0, _, _, _⟩ := hS.block b _ hb rfl
  have hset : (H.set b (.cells cs'))[b]? = some (.cells cs') := by simp [hlt]
  have hgset : (G.set b k)[b]? = some k := by simp [hS.len, hlt]
  have hne : ∀ b', b' ≠ b → (H.set b (.cells cs'))[b']? = H[b']? := fun b' h => List.getElem?_set_ne (Ne.symm h)
  have hgne : ∀ b', b' ≠ b → (G.set b k)[b']? = G[b']? := fun b' h => List.getElem?_set_ne (Ne.symm h)
  have hE : Ext w H G w' (H.set b (.cells cs')) (G.set b k) :=
    Ext.change hS b _ _ k0 k hb rfl g0 hne hgne hset hgset (.inr hk) ⟨by omega, fun e => by omega⟩ hos htape hout hsize (fun k1 h1 _ => hkeep k1 h1)
  refine ⟨hE, hS.upd b _ k (by simp [hS.len]) hne hgne hset hE ?_ ?_⟩
  · intro b1 s1 k1 h1 h2 h3 h4
    obtain ⟨k2, c1, _, c3, _⟩ := hS.block b1 s1 h2 h3
    rw [h4] at c1
    cases c1
    exact hkeep _ c3
  · intro _
    exact ⟨hgset, (Array.getElem?_eq_some_iff.1 hw').1, .inr hk, arr', ty, hw', hle, hl.ext hE, ho⟩

/-- A block is given up. -/
theorem kill_ok {b : Nat} {s : Slot} (hS : SimH base X w H G) (hb : H[b]? = some s) (hl : s.live = true) : Ext w H G w (H.set b .dead) G ∧ SimH base X w (H.set b .dead) G := by
  have hlt : b < H.length := (List.getElem?_eq_some_iff.1 hb).1
  obtain ⟨k0, g0, _, _, _⟩ := hS.block b _ hb hl
  have hset : (H.set b .dead)[b]? = some .dead := by simp [hlt]
  have hne : ∀ b', b' ≠ b → (H.set b .dead)[b']? = H[b']? := fun b' h => List.getElem?_set_ne (Ne.symm h)
  have hE : Ext w H G w (H.set b .dead) G :=
    Ext.change hS b s .dead k0 k0 hb hl g0 hne (fun _ _ => rfl) hset g0 (.inl rfl) (by cases s <;> first | trivial | cases hl) rfl rfl rfl (Nat.le_refl _) (fun _ _ _ => rfl)
  exact ⟨hE, hS.upd b .dead k0 (by simp [hS.len]) hne (fun _ _ => rfl) hset hE (fun _ _ _ _ _ _ _ => rfl) (fun h => by cases h)⟩

/-- A block is given up, and another takes its place in memory. -/
theorem move_ok {w' : World} {slot : Option Nat} {b b' k : Nat} {cs cs' : List V} {arr arr' : Array Value} {ty : TypeId} (hS : SimH base X w H G) (hb : H[b]? = some (.cells cs)) (hg : G[b]? = some k) (hw : w.heap[k]? = some (.cells arr ty (0, 0)))
    (hn : newSlot slot (H.set b .dead) (.cells cs') = some (b', H')) (hw' : w'.heap[k]? = some (.cells arr' ty (0, 0))) (hsz : arr'.size = arr.size) (hle : cs'.length ≤ arr'.size)
    (hos : w'.os = w.os) (htape : w'.tape = w.tape) (hout : w'.output = w.output) (hsize : w'.heap.size = w.heap.size) (hkeep : ∀ k', k' ≠ k → w'.heap[k']? = w.heap[k']?)
    (hl : RVL w base (Mof X H G) H G cs' (arr'.toList.take cs'.length)) (ho : ∀ y, y ∈ cs' → y.one = true) :
    ∃ G', Ext w H G w' H' G' ∧ SimH base X w' H' G' ∧ okRef H' b' cs'.length ∧ G'.getD b' 0 = k ∧ H'[b']? = some (.cells cs') := by
  have hlt : b < H.length := (List.getElem?_eq_some_iff.1 hb).1
  have hset : (H.set b .dead)[b]? = some .dead := by simp [hlt]
  have hne1 : ∀ c, c ≠ b → (H.set b .dead)[c]? = H[c]? := fun c h => List.getElem?_set_ne (Ne.symm h)
  obtain ⟨G', h1, h2, h3, h4, h5, h6⟩ := newSlot_at (G := G) (by simp [hS.len]) k hn
  have hbb : b' ≠ b := by
    rintro rfl
    exact h1 ⟨.dead, hset, by intro e; cases e⟩
  obtain ⟨k2, c1, c2, c3, c4, _⟩ := hS.block b _ hb rfl
  rw [hg] at c1
  cases c1
  have hdead : H'[b]? = some .dead := by rw [h2 b (Ne.symm hbb)]; exact hset
  have hHo : ∀ c, c ≠ b → c ≠ b' → H'[c]? = H[c]? := fun c d1 d2 => by rw [h2 c d2, hne1 c d1]
  have hfree : ¬ inUse H b' := by
    rintro ⟨s, e1, e2⟩
    exact h1 ⟨s, by rw [hne1 b' hbb]; exact e1, e2⟩
  have hE : Ext w H G w' H' G' := {
    os := hos, tape := htape, output := hout, size := by omega
    keep := fun k1 hk1 hno => hkeep k1 (fun e => hno (e ▸ ⟨b, _, hb, rfl, hg⟩))
    out := by
      rintro k1 hk1 hno ⟨c, s1, d1, d2, d3⟩
      by_cases e1 : c = b'
      · subst e1
        rw [h5] at d3
        cases d3
        exact hno ⟨b, _, hb, rfl, hg⟩
      · by_cases e2 : c = b
        · subst e2; rw [hdead] at d1; cases d1; cases d2
        · rw [hHo c e2 e1] at d1
          rw [h3 c e1] at d3
          exact hno ⟨c, s1, d1, d2, d3⟩
    use := by
      intro c hu
      by_cases e2 : c = b
      · subst e2; exact ⟨.dead, hdead, by intro e; cases e⟩
      · have e1 : c ≠ b' := fun e => hfree (e ▸ hu)
        exact (inUse_congr (hHo c e2 e1)).2 hu
    ref := by
      intro c g hr
      by_cases e2 : c = b
      · subst e2
        exact ⟨⟨.dead, hdead, by intro e; cases e⟩, (fun cs1 hc => by rw [hdead] at hc; cases hc), (fun hc => by rw [hdead] at hc; cases hc)⟩
      · have e1 : c ≠ b' := fun e => hfree (e ▸ hr.1)
        exact (okRef_congr (hHo c e2 e1)).2 hr
    virts := by
      intro c hu hc
      have e1 : c ≠ b' := fun e => hfree (e ▸ hu)
      by_cases e2 : c = b
      · subst e2
        rw [hdead] at hc
        cases hc
      · rwa [hHo c e2 e1] at hc
    cells := by
      intro c g cs1 hr hc
      have e1 : c ≠ b' := fun e => hfree (e ▸ hr.1)
      by_cases e2 : c = b
      · subst e2
        have := (cellsAt_some hc).1
        rw [hdead] at this
        cases this
      · rw [cellsAt_congr (hHo c e2 e1)] at hc
        refine ⟨⟨cs1, hc⟩, by simp [List.getD_eq_getElem?_getD, h3 c e1], ?_⟩
        obtain ⟨f1, f2⟩ := cellsAt_some hc
        obtain ⟨k1, g1, _, g3, _⟩ := hS.block c _ f1 rfl
        rw [getD_of g1]
        unfold blockSize
        rw [hkeep k1 (fun e => e2 (hS.inj c b _ _ k1 f1 rfl hb rfl g1 (e ▸ hg)))]
    maps := by
      intro c ks vs hu hc
      have e1 : c ≠ b' := fun e => hfree (e ▸ hu)
      by_cases e2 : c = b
      · subst e2; rw [hdead] at hc; cases hc
      · rw [hHo c e2 e1] at hc
        exact ⟨⟨ks, vs, hc⟩, by simp [List.getD_eq_getElem?_getD, h3 c e1]⟩
    iters := by
      intro c x hu hc
      have e1 : c ≠ b' := fun e => hfree (e ▸ hu)
      by_cases e2 : c = b
      · subst e2; rw [hdead] at hc; cases hc
      · rw [hHo c e2 e1] at hc
        exact ⟨⟨x, hc⟩, by simp [List.getD_eq_getElem?_getD, h3 c e1]⟩ }
  refine ⟨G', hE, ?_, ⟨⟨_, h4, by intro e; cases e⟩, (fun cs1 hc => by rw [h4] at hc; cases hc; exact Nat.le_refl _), (fun hc => by rw [h4] at hc; cases hc)⟩, getD_of h5, h4⟩
  exact {
    len := h6
    low := by have := hS.low; omega
    xlt := fun k1 hx => by have := hS.xlt k1 hx; omega
    block := by
      intro c s1 d1 d2
      by_cases e1 : c = b'
      · subst e1
        rw [h4] at d1
        cases d1
        exact ⟨k, h5, c2, by omega, c4, arr', ty, hw', hle, hl.ext hE, ho⟩
      · by_cases e2 : c = b
        · subst e2; rw [hdead] at d1; cases d1; cases d2
        · rw [hHo c e2 e1] at d1
          obtain ⟨k1, g1, g2, g3, g4, g5⟩ := hS.block c s1 d1 d2
          refine ⟨k1, by rw [h3 c e1]; exact g1, g2, by omega, g4, g5.ext hE (hkeep k1 ?_)⟩
          rintro rfl
          exact e2 (hS.inj c b s1 _ _ d1 d2 hb rfl g1 hg)
    inj := by
      intro x1 x2 s1 s2 k1 d1 l1 d2 l2 q1 q2
      have cases1 : ∀ {c s}, H'[c]? = some s → s.live = true → G'[c]? = some k1 → (c = b' ∧ k1 = k) ∨ (c ≠ b' ∧ c ≠ b ∧ H[c]? = some s ∧ G[c]? = some k1) := by
        intro c s d1 d2 d3
        by_cases e1 : c = b'
        · subst e1; rw [h5] at d3; cases d3; exact .inl ⟨rfl, rfl⟩
        · by_cases e2 : c = b
          · subst e2; rw [hdead] at d1; cases d1; cases d2
          · rw [hHo c e2 e1] at d1
            rw [h3 c e1] at d3
            exact .inr ⟨e1, e2, d1, d3⟩
      rcases cases1 d1 l1 q1 with ⟨e1, e2⟩ | ⟨e1, e2, e3, e4⟩
      · rcases cases1 d2 l2 q2 with ⟨f1, f2⟩ | ⟨f1, f2, f3, f4⟩
        · rw [e1, f1]
        · exfalso
          subst e2
          exact f2 (hS.inj x2 b s2 _ _ f3 l2 hb rfl f4 hg)
      · rcases cases1 d2 l2 q2 with ⟨f1, f2⟩ | ⟨f1, f2, f3, f4⟩
        · exfalso
          subst f2
          exact e2 (hS.inj x1 b s1 _ _ e3 l1 hb rfl e4 hg)
        · exact hS.inj x1 x2 s1 s2 k1 e3 l1 f3 l2 e4 f4 }

theorem drew_ok (hS : SimH base X w H G) : Ext w H G w.drew H G ∧ SimH base X w.drew H G := by
  have hE : Ext w H G w.drew H G := Ext.quiet hS rfl rfl rfl (Nat.le_refl _) (fun _ _ => rfl)
  exact ⟨hE, hS.quiet hE (fun _ _ => rfl)⟩

theorem ok_append' {slot : Option Nat} {t1 t2 e : TypeId} {z y n : Nat} {ag : Bool} {c : Call} {s x : Operand} {sv : V} {ys : List V} (hS : SimH base X w H G) (hT : TV w base (Mof X H G) H G t a.tmps) (hs : RV w base (Mof X H G) H G sv (a.eval s))
    (ho : o.op = .call c) (hc : c.callee = .builtin .append) (ha : c.args.toList = [s, x]) (hat : c.argTypes.toList = [t1, t2]) (hA : AppTy P t1 t2 e z y)
    (hsrc : srcCells H (St.ev ⟨t, H⟩ x) = some ys) (hn : lenV (St.ev ⟨t, H⟩ x) = some n) (hone : ys.all V.one = true) (hyl : ys.length = n * z) (hv : stepAppend slot z ag y H ys n sv = some (v, H')) :
    StepOK P base X o a w H G v H' := by
  have ha' : c.args = #[s, x] := by apply Array.ext'; simpa using ha
  have hat' : c.argTypes = #[t1, t2] := by apply Array.ext'; simpa using hat
  have hexec : ∀ r, (Builtin.append_ #[t1, t2] o.type #[a.eval s, a.eval x]).run P w = r → (execOp a.eval o).run P w = r.andThen fun v w' => .ok (.value v) w' := by
    intro r hr
    rw [← hr]
    simp only [execOp, ho, resolve, hc, ha', hat', invoke, builtin, Sem.run_bind, Sem.run_pure, Result.andThen_ok, List.map_toArray, List.map_cons, List.map_nil]
  obtain ⟨vs, v1, v2, v3, v4, v5⟩ := src_ok (P := P) hS (ev_ok (h := H) hT x) hn hsrc hyl hone
  have honem : ∀ q, q ∈ ys → q.one = true := List.all_eq_true.1 hone
  have hzp := hA.zp
  unfold stepAppend at hv
  split at hv
  · -- nil
    rename_i f
    have hu : a.eval s = .slice none 0 0 := by
      generalize a.eval s = u at hs
      cases hs with
      | i hi => cases hi; rfl
    rw [hu] at hexec
    split at hv
    · rename_i hn0
      simp only [Option.some.injEq, Prod.mk.injEq] at hv
      obtain ⟨rfl, rfl⟩ := hv
      have hvs : vs = [] := by
        have : vs.length = 0 := by rw [v1, hyl, hn0]; simp
        exact List.eq_nil_of_length_eq_zero this
      have hr := run_append_room (ty := o.type) (p := none) (len := 0) (cap := 0) hA v3 (v4 w (fun _ _ => rfl)) (by omega)
      simp only at hr
      refine StepOK.value (x := .slice none 0 0) hS ?_ (.i (.s rfl))
      rw [hexec _ hr, hn0]
      rfl
    · split at hv
      · rename_i hn0 hmax
        obtain ⟨⟨b, h1⟩, hns, he2⟩ := Option.map_eq_some_iff.1 hv
        simp only [Prod.mk.injEq] at he2
        obtain ⟨rfl, rfl⟩ := he2
        obtain ⟨nc, rest, r1, r2, r3⟩ := run_append_grow (ty := o.type) (p := none) (len := 0) (cap := 0) (os := []) hA v3 (by simp [Builtin.firstCells]) (v4 w.drew (fun _ _ => rfl)) (by omega) (by simpa using hmax)
        obtain ⟨hE1, hS1⟩ := drew_ok hS
        have harr : ((([] : List Value).toArray ++ vs.toArray ++ rest).toList.take ys.length) = vs := by
          simp only [Array.toList_append]
          rw [show ([] : List Value).toArray.toList ++ vs.toArray.toList = vs from by simp, List.take_append_of_le_length (by omega), ← v1, List.take_length]
        obtain ⟨G', hE, hS', hr, hg, hb⟩ := new_ok (arr := ([] : List Value).toArray ++ vs.toArray ++ rest) e hS1 hns (by simp; omega) (by rw [harr]; exact v2.ext hE1) honem
        rw [hyl] at hr
        refine StepOK.value' (x := .slice (some ⟨w.heap.size, 0, none⟩) n nc) ?_ (hE1.trans hE) hS' (.hsl hr (by rw [hb]; intro e; cases e) hzp (by omega) ?_)
        · rw [hexec _ r3]
          simp
        · intro cs' hc'
          have hg' : G'.getD b 0 = w.heap.size := hg
          rw [hg']
          refine ⟨fun _ => rfl, by omega, (([] : List Value).toArray ++ vs.toArray ++ rest).size, ?_, ?_⟩
          · simp only [Array.size_append, List.size_toArray, List.length_nil, r2]
            have : nc * z = n * z + (nc - (0 + n)) * z := by rw [← Nat.add_mul]; congr 1; omega
            omega
          · unfold blockSize
            have := heap_push_new w.drew (.cells (([] : List Value).toArray ++ vs.toArray ++ rest) e)
            simp only [World.size_drew] at this
            rw [this]
      · cases hv
  · -- a slice of the function's own
    rename_i b g off z' ag' len
    split at hv
    · rename_i hzz
      obtain ⟨hzz, rfl⟩ := hzz
      obtain ⟨cs, hcs, hv2⟩ := Option.bind_eq_some_iff.1 hv
      generalize hu : a.eval s = u at hs hexec
      cases hs with
      | hnil hr0 hcn =>
        rcases getCells_or hcs with hcs | ⟨hvirt, _, rfl⟩
        · rw [hcn] at hcs; cases hcs
        split at hv2
        · rename_i hn0
          simp only [Option.some.injEq, Prod.mk.injEq] at hv2
          obtain ⟨rfl, rfl⟩ := hv2
          have hvs : vs = [] := by
            have : vs.length = 0 := by rw [v1, hyl, hn0]; simp
            exact List.eq_nil_of_length_eq_zero this
          have hr := run_append_room (ty := o.type) (p := none) (len := 0) (cap := 0) hA v3 (v4 w (fun _ _ => rfl)) (by omega)
          simp only at hr
          refine StepOK.value (x := .slice none 0 0) hS ?_ (.hnil hr0 hcn)
          rw [hexec _ hr, hn0]
          rfl
        · split at hv2
          · rename_i hn0 hmax
            rw [if_pos (by omega)] at hv2
            simp only [Option.some.injEq, Prod.mk.injEq] at hv2
            obtain ⟨rfl, rfl⟩ := hv2
            obtain ⟨nc, rest, r1, r2, r3⟩ := run_append_grow (ty := o.type) (p := none) (len := 0) (cap := 0) (os := []) hA v3 (by simp [Builtin.firstCells]) (v4 w.drew (fun _ _ => rfl)) (by omega) (by simpa using hmax)
            obtain ⟨hE1, hS1⟩ := drew_ok hS
            have harr : ((([] : List Value).toArray ++ vs.toArray ++ rest).toList.take ys.length) = vs := by
              simp only [Array.toList_append]
              rw [show ([] : List Value).toArray.toList ++ vs.toArray.toList = vs from by simp, List.take_append_of_le_length (by omega), ← v1, List.take_length]
            have hyne : ys ≠ [] := by
              intro e
              have : 0 < n * z := Nat.mul_pos (by omega) hzp
              rw [e] at hyl; simp at hyl; omega
            obtain ⟨G', hE, hS', hr, hg, hb⟩ := fillV_ok (arr := ([] : List Value).toArray ++ vs.toArray ++ rest) e hS1 hvirt hyne (by simp; omega) (by rw [harr]; exact v2.ext hE1) honem
            rw [hyl] at hr
            have hz0 : 0 + n * z = n * z := by omega
            have hz1 : 0 + n = n := by omega
            rw [List.nil_append, hz0, hz1]
            refine StepOK.value' (x := .slice (some ⟨w.heap.size, 0, none⟩) n nc) ?_ (hE1.trans hE) hS' (.hsl hr (by rw [hb]; intro e; cases e) hzp (by omega) ?_)
            · rw [hexec _ r3]
              simp
            · intro cs' hc'
              have hg' : G'.getD b 0 = w.heap.size := hg
              rw [hg']
              refine ⟨fun _ => rfl, by omega, (([] : List Value).toArray ++ vs.toArray ++ rest).size, ?_, ?_⟩
              · simp only [Array.size_append, List.size_toArray, List.length_nil, r2]
                have : nc * z = n * z + (nc - (0 + n)) * z := by rw [← Nat.add_mul]; congr 1; omega
                omega
              · unfold blockSize
                have := heap_push_new w.drew (.cells (([] : List Value).toArray ++ vs.toArray ++ rest) e)
                simp only [World.size_drew] at this
                rw [this]
          · cases hv2
      | hsl hr hnv hzp' hle hval =>
        rename_i cap p
        obtain rfl : z' = z := by rcases hzz with h | h <;> omega
        replace hcs := getCells_not hcs hnv
        obtain ⟨arr, ty', g1, e1, e2, e3, e4, e5, e6⟩ := hS.at hcs
        obtain ⟨d1, d2, N, d3, d4⟩ := hval cs hcs
        have hp := d1 (.inr rfl)
        subst hp
        have hN : N = arr.size := by
          unfold blockSize at d4; rw [e1] at d4; simpa using d4.symm
        subst hN
        generalize hk : G.getD b 0 = k at *
        have hlz : len * z' ≤ cap * z' := Nat.mul_le_mul_right _ hle
        split at hv2
        · rename_i hn0
          simp only [Option.some.injEq, Prod.mk.injEq] at hv2
          obtain ⟨rfl, rfl⟩ := hv2
          have hvs : vs = [] := by
            have : vs.length = 0 := by rw [v1, hyl, hn0]; simp
            exact List.eq_nil_of_length_eq_zero this
          have hr2 := run_append_room (ty := o.type) (p := some ⟨k, 0, none⟩) (len := len) (cap := cap) hA v3 (v4 w (fun _ _ => rfl)) (by omega)
          simp only [hvs, storeCells, Sem.run_pure, Result.andThen_ok] at hr2
          refine StepOK.value (x := .slice (some ⟨k, 0, none⟩) len cap) hS ?_ (.hsl hr hnv hzp hle ?_)
          · rw [hexec _ hr2, hn0]
            rfl
          · intro cs' hc'
            rw [hk]
            exact hval cs' hc'
        · rename_i hn0
          split at hv2
          · rename_i hmax
            -- what stood there
            have hold : ∀ w', (∀ k, k < w.heap.size → w'.heap[k]? = w.heap[k]?) → (Builtin.firstCells z' len (.slice (some ⟨k, 0, none⟩) len cap)).run P w' = .ok (arr.toList.take (len * z')).toArray w' := by
              intro w' hw
              simp only [Builtin.firstCells]
              refine run_loadCells P w' _ _ _ (by simp; omega) ?_
              intro j hj
              have hkk : w'.heap[k]? = some (.cells arr ty' (0, 0)) := by
                rw [hw k (Array.getElem?_eq_some_iff.1 e1).1]; exact e1
              have := Reads.of_block (off := 0) (n := len * z') hkk (by omega)
              simp only [List.drop_zero] at this
              exact this j hj
            have hgl : g = cs.length := e2
            split at hv2
            · -- whole
              rename_i hfull
              simp only [Option.some.injEq, Prod.mk.injEq] at hv2
              obtain ⟨rfl, rfl⟩ := hv2
              by_cases hroom : len + n ≤ cap
              · have hfit : (len + n) * z' ≤ cap * z' := Nat.mul_le_mul_right _ hroom
                rw [Nat.add_mul] at hfit
                obtain ⟨w', arr', s1, s2, s3, s4, s5, s6, s7, s8⟩ := run_storeCells P k ty' (len * z') vs 0 w arr e1 (by omega) v5
                have hr2 := run_append_room (ty := o.type) (p := some ⟨k, 0, none⟩) (len := len) (cap := cap) hA v3 (v4 w (fun _ _ => rfl)) hroom
                simp only [Addr.add_lit, Nat.zero_add, s1, Result.andThen_ok] at hr2
                have hasz : arr'.size = arr.size := by
                  have := congrArg List.length s8
                  simp at this; omega
                have hcl : (cs ++ ys).length = g + n * z' := by simp [hyl]; omega
                have htake : arr'.toList.take (cs ++ ys).length = arr.toList.take cs.length ++ vs := by
                  rw [s8, Nat.add_zero, hcl, show len * z' = cs.length from by omega]
                  rw [List.take_append_of_le_length (by simp; omega), List.take_of_length_le (by simp; omega)]
                obtain ⟨hE, hS'⟩ := change_ok (cs' := cs ++ ys) hS e6 (by rw [← hk] at g1; rw [← hk]; exact g1) e1 s7 hasz (by simp) (by rw [hcl]; omega) s2 s3 s4 s5 s6 (by rw [htake]; exact e4.append v2) (by
                  intro q hq
                  rcases List.mem_append.1 hq with hq | hq
                  · exact e5 q hq
                  · exact honem q hq)
                have hlt : b < H.length := (List.getElem?_eq_some_iff.1 e6).1
                have hset : (H.set b (.cells (cs ++ ys)))[b]? = some (.cells (cs ++ ys)) := by simp [hlt]
                refine StepOK.value' (x := .slice (some ⟨k, 0, none⟩) (len + n) cap) ?_ hE hS' (.hsl ⟨⟨_, hset, by intro e; cases e⟩, (fun cs1 hc1 => by rw [hset] at hc1; cases hc1; omega), (fun hc1 => by rw [hset] at hc1; cases hc1)⟩ (by rw [hset]; intro e; cases e) hzp hroom ?_)
                · rw [hexec _ hr2]; rfl
                · intro cs1 hc1
                  rw [hk]
                  refine ⟨fun _ => rfl, by rw [Nat.add_mul]; omega, arr'.size, by omega, by unfold blockSize; rw [s7]⟩
              · obtain ⟨nc, rest, r1, r2, r3⟩ := run_append_grow (ty := o.type) (p := some ⟨k, 0, none⟩) (len := len) (cap := cap) (os := arr.toList.take (len * z')) hA v3 (hold w.drew (fun _ _ => rfl)) (v4 w.drew (fun _ _ => rfl)) (by omega) hmax
                have hcl : (cs ++ ys).length = g + n * z' := by simp [hyl]; omega
                generalize hA2 : (arr.toList.take (len * z')).toArray ++ vs.toArray ++ rest = arr2 at r3
                have ha2 : arr2.toList = arr.toList.take (len * z') ++ vs ++ rest.toList := by rw [← hA2]; simp
                have ha2s : arr2.size = len * z' + n * z' + (nc - (len + n)) * z' := by
                  have := congrArg List.length ha2
                  simp [r2, v1, hyl] at this; omega
                have htake : arr2.toList.take (cs ++ ys).length = arr.toList.take cs.length ++ vs := by
                  rw [ha2, hcl, show len * z' = cs.length from by omega]
                  rw [List.take_append_of_le_length (by simp; omega), List.take_of_length_le (by simp; omega)]
                obtain ⟨hE, hS'⟩ := relocate_ok (w' := w.drew.alloc (.cells arr2 e)) (k := w.heap.size) (cs' := cs ++ ys) hS e6 (heap_push_new w.drew _) (Nat.le_refl _) (by
                    have : 0 < n * z' := Nat.mul_pos (by omega) hzp
                    rw [hcl]; omega) (by rw [hcl]; omega) rfl rfl rfl (by simp) (fun k' hk' => heap_push_lt w.drew _ _ hk') (by rw [htake]; exact e4.append v2) (by
                  intro q hq
                  rcases List.mem_append.1 hq with hq | hq
                  · exact e5 q hq
                  · exact honem q hq)
                have hlt : b < H.length := (List.getElem?_eq_some_iff.1 e6).1
                have hset : (H.set b (.cells (cs ++ ys)))[b]? = some (.cells (cs ++ ys)) := by simp [hlt]
                have hgset : (G.set b w.heap.size).getD b 0 = w.heap.size := getD_of (by simp [hS.len, hlt])
                refine StepOK.value' (x := .slice (some ⟨w.heap.size, 0, none⟩) (len + n) nc) ?_ hE hS' (.hsl ⟨⟨_, hset, by intro e; cases e⟩, (fun cs1 hc1 => by rw [hset] at hc1; cases hc1; omega), (fun hc1 => by rw [hset] at hc1; cases hc1)⟩ (by rw [hset]; intro e; cases e) hzp r1 ?_)
                · rw [hexec _ r3]; rfl
                · intro cs1 hc1
                  rw [hgset]
                  refine ⟨fun _ => rfl, by rw [Nat.add_mul]; omega, arr2.size, ?_, ?_⟩
                  · have : nc * z' = (len + n) * z' + (nc - (len + n)) * z' := by rw [← Nat.add_mul]; congr 1; omega
                    rw [Nat.add_mul] at this
                    omega
                  · unfold blockSize
                    have := heap_push_new w.drew (.cells arr2 e)
                    simp only [World.size_drew] at this
                    rw [this]
            · -- its beginning
              rename_i hpart
              obtain ⟨⟨b', h1⟩, hns, he2⟩ := Option.map_eq_some_iff.1 hv2
              simp only [Prod.mk.injEq] at he2
              obtain ⟨rfl, rfl⟩ := he2
              have hcl : (cs.take (len * z') ++ ys).length = (len + n) * z' := by simp [hyl, Nat.add_mul]; omega
              have honep : ∀ q, q ∈ cs.take (len * z') ++ ys → q.one = true := by
                intro q hq
                rcases List.mem_append.1 hq with hq | hq
                · exact e5 q (List.mem_of_mem_take hq)
                · exact honem q hq
              have hRV : RVL w base (Mof X H G) H G (cs.take (len * z') ++ ys) (arr.toList.take (len * z') ++ vs) := by
                have := (e4.take (len * z')).append v2
                rwa [List.take_take, Nat.min_eq_left (by omega)] at this
              by_cases hroom : len + n ≤ cap
              · have hfit : (len + n) * z' ≤ cap * z' := Nat.mul_le_mul_right _ hroom
                have hfit2 := hfit
                rw [Nat.add_mul] at hfit2
                obtain ⟨w', arr', s1, s2, s3, s4, s5, s6, s7, s8⟩ := run_storeCells P k ty' (len * z') vs 0 w arr e1 (by omega) v5
                have hr2 := run_append_room (ty := o.type) (p := some ⟨k, 0, none⟩) (len := len) (cap := cap) hA v3 (v4 w (fun _ _ => rfl)) hroom
                simp only [Addr.add_lit, Nat.zero_add, s1, Result.andThen_ok] at hr2
                have hasz : arr'.size = arr.size := by
                  have := congrArg List.length s8
                  simp at this; omega
                have htake : arr'.toList.take (cs.take (len * z') ++ ys).length = arr.toList.take (len * z') ++ vs := by
                  rw [s8, Nat.add_zero, hcl, Nat.add_mul]
                  rw [List.take_append_of_le_length (by simp; omega), List.take_of_length_le (by simp; omega)]
                obtain ⟨G', hE, hS', hr', hg', hb'⟩ := move_ok (w' := w') hS e6 (by rw [← hk] at g1; rw [← hk]; exact g1) e1 hns s7 hasz (by rw [hcl]; omega) s2 s3 s4 s5 s6 (by rw [htake]; exact hRV) honep
                rw [hcl] at hr'
                refine StepOK.value' (x := .slice (some ⟨k, 0, none⟩) (len + n) cap) ?_ hE hS' (.hsl hr' (by rw [hb']; intro e; cases e) hzp hroom ?_)
                · rw [hexec _ hr2]; rfl
                · intro cs1 hc1
                  rw [hg']
                  exact ⟨fun _ => rfl, by omega, arr'.size, by omega, by unfold blockSize; rw [s7]⟩
              · obtain ⟨nc, rest, r1, r2, r3⟩ := run_append_grow (ty := o.type) (p := some ⟨k, 0, none⟩) (len := len) (cap := cap) (os := arr.toList.take (len * z')) hA v3 (hold w.drew (fun _ _ => rfl)) (v4 w.drew (fun _ _ => rfl)) (by omega) hmax
                generalize hA2 : (arr.toList.take (len * z')).toArray ++ vs.toArray ++ rest = arr2 at r3
                have ha2 : arr2.toList = arr.toList.take (len * z') ++ vs ++ rest.toList := by rw [← hA2]; simp
                have ha2s : arr2.size = len * z' + n * z' + (nc - (len + n)) * z' := by
                  have := congrArg List.length ha2
                  simp [r2, v1, hyl] at this; omega
                have htake : arr2.toList.take (cs.take (len * z') ++ ys).length = arr.toList.take (len * z') ++ vs := by
                  rw [ha2, hcl, Nat.add_mul]
                  rw [List.take_append_of_le_length (by simp; omega), List.take_of_length_le (by simp; omega)]
                obtain ⟨hE1, hS1⟩ := drew_ok hS
                obtain ⟨hE2, hS2⟩ := kill_ok hS1 e6 rfl
                have hE3 := hE1.trans hE2
                obtain ⟨G', hE, hS', hr', hg', hb'⟩ := new_ok (arr := arr2) e hS2 hns (by rw [hcl, Nat.add_mul]; omega) (by rw [htake]; exact hRV.ext hE3) honep
                rw [hcl] at hr'
                have hg2 : G'.getD b' 0 = w.heap.size := hg'
                refine StepOK.value' (x := .slice (some ⟨w.heap.size, 0, none⟩) (len + n) nc) ?_ (hE3.trans hE) hS' (.hsl hr' (by rw [hb']; intro e; cases e) hzp r1 ?_)
                · rw [hexec _ r3]; rfl
                · intro cs1 hc1
                  rw [hg2]
                  refine ⟨fun _ => rfl, by omega, arr2.size, ?_, ?_⟩
                  · have : nc * z' = (len + n) * z' + (nc - (len + n)) * z' := by rw [← Nat.add_mul]; congr 1; omega
                    rw [Nat.add_mul] at this
                    omega
                  · unfold blockSize
                    have := heap_push_new w.drew (.cells arr2 e)
                    simp only [World.size_drew] at this
                    rw [this]
          · cases hv2
    · cases hv
  · cases hv

theorem ok_append {slot : Option Nat} {t1 t2 e : TypeId} {z y n : Nat} {ag : Bool} {c : Call} {s x : Operand} {ys : List V} (hS : SimH base X w H G) (hT : TV w base (Mof X H G) H G t a.tmps)
    (ho : o.op = .call c) (hc : c.callee = .builtin .append) (ha : c.args.toList = [s, x]) (hat : c.argTypes.toList = [t1, t2]) (hA : AppTy P t1 t2 e z y)
    (hsrc : srcCells H (St.ev ⟨t, H⟩ x) = some ys) (hn : lenV (St.ev ⟨t, H⟩ x) = some n) (hone : ys.all V.one = true) (hyl : ys.length = n * z) (hv : stepAppend slot z ag y H ys n (St.ev ⟨t, H⟩ s) = some (v, H')) :
    StepOK P base X o a w H G v H' := ok_append' hS hT (ev_ok (h := H) hT s) ho hc ha hat hA hsrc hn hone hyl hv

theorem srcCells_push0 {h : Heap} {x : V} {ys : List V} (s : Slot) (e : srcCells h x = some ys) : srcCells (h ++ [s]) x = some ys := by
  unfold srcCells at e ⊢
  split at e
  · rename_i b g off z ag len
    obtain ⟨cs, h2, e⟩ := Option.map_eq_some_iff.1 e
    have hl : b < h.length := by
      unfold getCells at h2
      cases hb : h[b]? with
      | none => rw [hb] at h2; cases h2
      | some u => exact (List.getElem?_eq_some_iff.1 hb).1
    have : getCells (h ++ [s]) b g = some cs := by
      unfold getCells at h2 ⊢
      rw [List.getElem?_append_left hl]
      exact h2
    simp only [this, Option.map_some, e]
  · exact e
  · exact e
  · exact e
  · cases e

/-- append onto nil, as a slice of the function's own. -/
theorem ok_appendV {slot : Option Nat} {t1 t2 e : TypeId} {z y n : Nat} {ag : Bool} {c : Call} {x : Operand} {ys : List V} (hS : SimH base X w H G) (hT : TV w base (Mof X H G) H G t a.tmps)
    (ho : o.op = .call c) (hc : c.callee = .builtin .append) (ha : c.args.toList = [.const (.slice none 0 0), x]) (hat : c.argTypes.toList = [t1, t2]) (hA : AppTy P t1 t2 e z y)
    (hsrc : srcCells H (St.ev ⟨t, H⟩ x) = some ys) (hn : lenV (St.ev ⟨t, H⟩ x) = some n) (hone : ys.all V.one = true) (hyl : ys.length = n * z) (hv : stepAppend slot z ag y (H ++ [.virt]) ys n (.hsl H.length 0 0 z ag 0) = some (v, H')) :
    StepOK P base X o a w H G v H' := by
  obtain ⟨G1, hE, hS1, hr, hvb⟩ := new_virt (slot := none) hS rfl
  have hev : ∀ h2 x, St.ev ⟨t, h2⟩ x = St.ev ⟨t, H⟩ x := fun h2 x => by cases x <;> rfl
  have hT1 : TV w base (Mof X (H ++ [.virt]) G1) (H ++ [.virt]) G1 t a.tmps := fun k => (hT k).ext hE
  have hstep := ok_append' (P := P) (o := o) (a := a) (slot := slot) (sv := .hsl H.length 0 0 z ag 0) (x := x) (ys := ys) (n := n) (ag := ag) hS1 hT1 (.hnil hr (by unfold cellsAt; rw [hvb])) ho hc ha hat hA
    (by rw [hev]; exact srcCells_push0 _ hsrc) (by rw [hev]; exact hn) hone hyl hv
  intro next Q hn'
  refine hstep next Q ?_
  intro x' w' G' hE' hS' hv'
  exact hn' x' w' G' (hE.trans hE') hS' hv'

end
end Go.AM
