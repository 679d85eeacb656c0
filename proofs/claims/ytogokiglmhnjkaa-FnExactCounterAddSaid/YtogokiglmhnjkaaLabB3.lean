/- The abstract machine's heap against the model's memory, and what each kind of step does to it. No condition. -/
import Derived.Test.YtogokiglmhnjkaaLabB2
set_option linter.unusedVariables false
set_option linter.unusedSimpArgs false
namespace Go.AM

/-- What a block of the function's own holds. -/
def SlotAt (w : World) (base : Nat) (M : Nat → Prop) (H : Heap) (G : List Nat) (k : Nat) : Slot → Prop
  | .cells cs => ∃ (arr : Array Value) (t : TypeId), w.heap[k]? = some (.cells arr t (0, 0)) ∧ cs.length ≤ arr.size ∧ RVL w base M H G cs (arr.toList.take cs.length) ∧ ∀ y, y ∈ cs → y.one = true
  | .map ks vs => ∃ (es : Array MapEntry) (clock : Nat), w.heap[k]? = some (.map es clock) ∧ RL w (fun _ => True) ks (es.toList.map (·.key)) ∧ RVL w base M H G vs (es.toList.map (·.val)) ∧
      (es.toList.map (·.born)).Pairwise (· < ·) ∧ ∀ e, e ∈ es.toList → e.born < clock
  | .iter x => ∃ (s : ByteArray) (pos : Nat), x = .agg [.s (.string s), .s (.int .i64 pos)] ∧ w.heap[k]? = some (.stringIter s pos)
  | .free => True
  | .dead => True
  | .virt => True

structure SimH (base : Nat) (X : Nat → Prop) (w : World) (H : Heap) (G : List Nat) : Prop where
  len : G.length = H.length
  low : base ≤ w.heap.size
  xlt : ∀ k, X k → k < w.heap.size
  block : ∀ (b : Nat) (s : Slot), H[b]? = some s → s.live = true → ∃ k, G[b]? = some k ∧ base ≤ k ∧ k < w.heap.size ∧ ¬ X k ∧ SlotAt w base (Mof X H G) H G k s
  inj : ∀ (b b' : Nat) (s s' : Slot) (k : Nat), H[b]? = some s → s.live = true → H[b']? = some s' → s'.live = true → G[b]? = some k → G[b']? = some k → b = b'

theorem getD_of {G : List Nat} {b k : Nat} (h : G[b]? = some k) : G.getD b 0 = k := by simp [List.getD_eq_getElem?_getD, h]

theorem cellsAt_some {H : Heap} {b g : Nat} {cs : List V} (h : cellsAt H b g = some cs) : H[b]? = some (.cells cs) ∧ cs.length = g := by
  unfold cellsAt at h
  split at h
  · rename_i cs' he
    split at h
    · rename_i hl
      cases h
      exact ⟨he, hl⟩
    · cases h
  · cases h

theorem cellsAt_of {H : Heap} {b : Nat} {cs : List V} (h : H[b]? = some (.cells cs)) : cellsAt H b cs.length = some cs := by
  unfold cellsAt; rw [h]; simp

theorem cellsAt_get {H : Heap} {b g : Nat} {cs : List V} (h : cellsAt H b g = some cs) : getCells H b g = some cs := by
  obtain ⟨h1, h2⟩ := cellsAt_some h
  unfold getCells
  rw [h1]
  simp [h2]

theorem getCells_len {H : Heap} {b g : Nat} {cs : List V} (h : getCells H b g = some cs) : cs.length = g := by
  unfold getCells at h
  split at h
  · split at h
    · cases h; assumption
    · cases h
  · split at h
    · cases h; simp_all
    · cases h
  · cases h

theorem getCells_real {H : Heap} {b g : Nat} {cs : List V} (h : getCells H b g = some cs) (hg : 0 < g) : cellsAt H b g = some cs := by
  unfold getCells at h
  unfold cellsAt
  split at h
  · rename_i he; rw [he]; exact h
  · rw [if_neg (by omega)] at h; cases h
  · cases h

theorem getCells_or {H : Heap} {b g : Nat} {cs : List V} (h : getCells H b g = some cs) : cellsAt H b g = some cs ∨ (H[b]? = some .virt ∧ g = 0 ∧ cs = []) := by
  unfold getCells at h
  unfold cellsAt
  split at h
  · rename_i he; rw [he]; exact .inl h
  · rename_i he
    split at h
    · cases h; exact .inr ⟨he, by assumption, rfl⟩
    · cases h
  · cases h

theorem getCells_not {H : Heap} {b g : Nat} {cs : List V} (h : getCells H b g = some cs) (hn : H[b]? ≠ some .virt) : cellsAt H b g = some cs := by
  rcases getCells_or h with h | ⟨h, _⟩
  · exact h
  · exact absurd h hn

theorem cellsAt_congr {H H' : Heap} {b g : Nat} (h : H'[b]? = H[b]?) : cellsAt H' b g = cellsAt H b g := by
  unfold cellsAt; rw [h]

theorem getCells_congr {H H' : Heap} {b g : Nat} (h : H'[b]? = H[b]?) : getCells H' b g = getCells H b g := by
  unfold getCells; rw [h]

theorem inUse_congr {H H' : Heap} {b : Nat} (h : H'[b]? = H[b]?) : inUse H' b ↔ inUse H b := by
  unfold inUse; rw [h]

theorem okRef_congr {H H' : Heap} {b g : Nat} (h : H'[b]? = H[b]?) : okRef H' b g ↔ okRef H b g := by
  unfold okRef; rw [inUse_congr h, h]

theorem SlotAt.ext {w w' : World} {H H' : Heap} {G G' : List Nat} (h : Ext w H G w' H' G') {X : Nat → Prop} {base k : Nat} {s : Slot} (hk : w'.heap[k]? = w.heap[k]?)
    (hs : SlotAt w base (Mof X H G) H G k s) : SlotAt w' base (Mof X H' G') H' G' k s := by
  cases s with
  | free => trivial
  | dead => trivial
  | virt => trivial
  | cells cs =>
    obtain ⟨arr, t, h1, h2, h3, h4⟩ := hs
    exact ⟨arr, t, hk.trans h1, h2, h3.ext h, h4⟩
  | map ks vs =>
    obtain ⟨es, clock, h1, h2, h3, h4, h5⟩ := hs
    refine ⟨es, clock, hk.trans h1, ?_, h3.ext h, h4, h5⟩
    exact RL.goes (w := w) (w' := w') (M := fun _ => True) (M' := fun _ => True) ⟨h.size, fun _ _ hn => absurd trivial hn, fun _ _ hn => hn⟩ h2
  | iter x =>
    obtain ⟨s, pos, h1, h2⟩ := hs
    exact ⟨s, pos, h1, hk.trans h2⟩

/-- One block of the heap has turned; the rest stands. -/
theorem SimH.upd {base : Nat} {X : Nat → Prop} {w w' : World} {H H' : Heap} {G G' : List Nat} (h : SimH base X w H G) (b : Nat) (s' : Slot) (k' : Nat)
    (hlen : G'.length = H'.length) (hH : ∀ b', b' ≠ b → H'[b']? = H[b']?) (hG : ∀ b', b' ≠ b → G'[b']? = G[b']?) (hs : H'[b]? = some s')
    (hE : Ext w H G w' H' G')
    (hkeep : ∀ b1 s1 k1, b1 ≠ b → H[b1]? = some s1 → s1.live = true → G[b1]? = some k1 → w'.heap[k1]? = w.heap[k1]?)
    (hk : s'.live = true → G'[b]? = some k' ∧ k' < w'.heap.size ∧ ((∃ s, H[b]? = some s ∧ s.live = true ∧ G[b]? = some k') ∨ w.heap.size ≤ k') ∧ SlotAt w' base (Mof X H' G') H' G' k' s') :
    SimH base X w' H' G' where
  len := hlen
  low := Nat.le_trans h.low hE.size
  xlt k hx := Nat.lt_of_lt_of_le (h.xlt k hx) hE.size
  block b1 s1 h1 hl := by
    by_cases e : b1 = b
    · subst e
      obtain rfl : s' = s1 := by rw [hs] at h1; exact Option.some.inj h1
      obtain ⟨g1, g2, g3, g4⟩ := hk hl
      rcases g3 with ⟨s, a1, a2, a3⟩ | g3
      · obtain ⟨k, c1, c2, c3, c4, _⟩ := h.block _ s a1 a2
        obtain rfl : k = k' := by rw [a3] at c1; exact (Option.some.inj c1).symm
        exact ⟨k, g1, c2, g2, c4, g4⟩
      · exact ⟨k', g1, Nat.le_trans h.low g3, g2, fun hx => by have := h.xlt _ hx; omega, g4⟩
    · rw [hH b1 e] at h1
      obtain ⟨k, c1, c2, c3, c4, c5⟩ := h.block b1 s1 h1 hl
      exact ⟨k, by rw [hG b1 e]; exact c1, c2, Nat.lt_of_lt_of_le c3 hE.size, c4, c5.ext hE (hkeep b1 s1 k e h1 hl c1)⟩
  inj b1 b2 s1 s2 k h1 l1 h2 l2 g1 g2 := by
    by_cases e1 : b1 = b
    · by_cases e2 : b2 = b
      · rw [e1, e2]
      · exfalso
        subst e1
        obtain rfl : s' = s1 := by rw [hs] at h1; exact Option.some.inj h1
        obtain ⟨c1, c2, c3, _⟩ := hk l1
        obtain rfl : k' = k := by rw [c1] at g1; exact Option.some.inj g1
        rw [hH b2 e2] at h2
        rw [hG b2 e2] at g2
        rcases c3 with ⟨s, a1, a2, a3⟩ | c3
        · exact e2 (h.inj b2 _ s2 s _ h2 l2 a1 a2 g2 a3)
        · obtain ⟨k, d1, _, d3, _⟩ := h.block b2 s2 h2 l2
          rw [g2] at d1
          have := Option.some.inj d1
          omega
    · by_cases e2 : b2 = b
      · exfalso
        subst e2
        obtain rfl : s' = s2 := by rw [hs] at h2; exact Option.some.inj h2
        obtain ⟨c1, c2, c3, _⟩ := hk l2
        obtain rfl : k' = k := by rw [c1] at g2; exact Option.some.inj g2
        rw [hH b1 e1] at h1
        rw [hG b1 e1] at g1
        rcases c3 with ⟨s, a1, a2, a3⟩ | c3
        · exact e1 (h.inj b1 _ s1 s _ h1 l1 a1 a2 g1 a3)
        · obtain ⟨k, d1, _, d3, _⟩ := h.block b1 s1 h1 l1
          rw [g1] at d1
          have := Option.some.inj d1
          omega
      · rw [hH b1 e1] at h1
        rw [hH b2 e2] at h2
        rw [hG b1 e1] at g1
        rw [hG b2 e2] at g2
        exact h.inj b1 b2 s1 s2 k h1 l1 h2 l2 g1 g2

/-- The world has gone on without touching what is the function's own. -/
theorem Ext.quiet {base : Nat} {X : Nat → Prop} {w w' : World} {H : Heap} {G : List Nat} (h : SimH base X w H G) (hos : w'.os = w.os) (htape : w'.tape = w.tape) (hout : w'.output = w.output) (hsize : w.heap.size ≤ w'.heap.size)
    (hk : ∀ k, k < w.heap.size → w'.heap[k]? = w.heap[k]?) : Ext w H G w' H G where
  os := hos
  tape := htape
  output := hout
  size := hsize
  keep k hlt _ := hk k hlt
  out k _ hn := hn
  use _ hu := hu
  ref _ _ hr := hr
  virts _ _ hc := hc
  cells b g cs' _ hc := by
    refine ⟨⟨cs', hc⟩, rfl, ?_⟩
    obtain ⟨h1, h2⟩ := cellsAt_some hc
    obtain ⟨k, g1, _, g3, _⟩ := h.block b _ h1 rfl
    rw [getD_of g1]
    unfold blockSize
    rw [hk k g3]
  maps b ks' vs' _ hc := ⟨⟨ks', vs', hc⟩, rfl⟩
  iters b x' _ hc := ⟨⟨x', hc⟩, rfl⟩

theorem SimH.quiet {base : Nat} {X : Nat → Prop} {w w' : World} {H : Heap} {G : List Nat} (h : SimH base X w H G) (hE : Ext w H G w' H G) (hk : ∀ k, k < w.heap.size → w'.heap[k]? = w.heap[k]?) : SimH base X w' H G where
  len := h.len
  low := Nat.le_trans h.low hE.size
  xlt k hx := Nat.lt_of_lt_of_le (h.xlt k hx) hE.size
  block b s hs hl := by
    obtain ⟨k, c1, c2, c3, c4, c5⟩ := h.block b s hs hl
    exact ⟨k, c1, c2, Nat.lt_of_lt_of_le c3 hE.size, c4, c5.ext hE (hk k c3)⟩
  inj := h.inj

/-- A new block; or a nil slice has got its first cells. -/
theorem Ext.new {base : Nat} {X : Nat → Prop} {w w' : World} {H H' : Heap} {G G' : List Nat} (h : SimH base X w H G) (b : Nat) (s' : Slot) (k' : Nat)
    (hfree : ¬ inUse H b ∨ (H[b]? = some .virt ∧ ∃ cs, cs ≠ [] ∧ s' = .cells cs)) (hH : ∀ b', b' ≠ b → H'[b']? = H[b']?) (hG : ∀ b', b' ≠ b → G'[b']? = G[b']?) (hs : H'[b]? = some s') (hk : s'.live = true → G'[b]? = some k') (hk' : w.heap.size ≤ k')
    (hos : w'.os = w.os) (htape : w'.tape = w.tape) (hout : w'.output = w.output) (hsize : w.heap.size ≤ w'.heap.size) (hkeep : ∀ k, k < w.heap.size → w'.heap[k]? = w.heap[k]?) : Ext w H G w' H' G' where
  os := hos
  tape := htape
  output := hout
  size := hsize
  keep k hlt _ := hkeep k hlt
  out k hlt hn := by
    rintro ⟨b1, s1, h1, l1, g1⟩
    by_cases e : b1 = b
    · subst e
      rw [hs] at h1
      cases h1
      rw [hk l1] at g1
      have := Option.some.inj g1
      omega
    · rw [hH b1 e] at h1
      rw [hG b1 e] at g1
      exact hn ⟨b1, s1, h1, l1, g1⟩
  use b1 hu := by
    by_cases e : b1 = b
    · subst e
      rcases hfree with hf | ⟨_, cs, _, rfl⟩
      · exact absurd hu hf
      · exact ⟨_, hs, by intro e; cases e⟩
    · exact (inUse_congr (hH b1 e)).2 hu
  ref b1 g hr := by
    by_cases e : b1 = b
    · subst e
      rcases hfree with hf | ⟨hv, cs, _, rfl⟩
      · exact absurd hr.1 hf
      · have := hr.2.2 hv
        subst this
        exact ⟨⟨_, hs, by intro e; cases e⟩, fun _ _ => Nat.zero_le _, fun _ => rfl⟩
    · exact (okRef_congr (hH b1 e)).2 hr
  virts b1 hu hc := by
    by_cases e : b1 = b
    · subst e
      rcases hfree with hf | ⟨hv, _⟩
      · exact absurd hu hf
      · exact hv
    · rwa [hH b1 e] at hc
  cells b1 g cs' hr hc := by
    by_cases e : b1 = b
    · subst e
      rcases hfree with hf | ⟨hv, cs, hne, rfl⟩
      · exact absurd hr.1 hf
      · exfalso
        have := hr.2.2 hv
        subst this
        obtain ⟨h1, h2⟩ := cellsAt_some hc
        rw [hs] at h1
        cases h1
        exact hne (List.eq_nil_of_length_eq_zero h2)
    rw [cellsAt_congr (hH b1 e)] at hc
    refine ⟨⟨cs', hc⟩, by simp [List.getD_eq_getElem?_getD, hG b1 e], ?_⟩
    obtain ⟨h1, h2⟩ := cellsAt_some hc
    obtain ⟨k, g1, _, g3, _⟩ := h.block b1 _ h1 rfl
    rw [getD_of g1]
    unfold blockSize
    rw [hkeep k g3]
  maps b1 ks' vs' hr hc := by
    by_cases e : b1 = b
    · subst e
      rcases hfree with hf | ⟨hv, cs, hne, rfl⟩
      · exact absurd hr hf
      · rw [hs] at hc; cases hc
    rw [hH b1 e] at hc
    exact ⟨⟨ks', vs', hc⟩, by simp [List.getD_eq_getElem?_getD, hG b1 e]⟩
  iters b1 x' hr hc := by
    by_cases e : b1 = b
    · subst e
      rcases hfree with hf | ⟨hv, cs, hne, rfl⟩
      · exact absurd hr hf
      · rw [hs] at hc; cases hc
    rw [hH b1 e] at hc
    exact ⟨⟨x', hc⟩, by simp [List.getD_eq_getElem?_getD, hG b1 e]⟩

/-- A block of the function's own has another content: in place (k' = k, no size has turned) or, if it has grown, elsewhere. -/
theorem Ext.change {base : Nat} {X : Nat → Prop} {w w' : World} {H H' : Heap} {G G' : List Nat} (h : SimH base X w H G) (b : Nat) (s s' : Slot) (k k' : Nat)
    (hb : H[b]? = some s) (hl : s.live = true) (hgk : G[b]? = some k) (hH : ∀ b', b' ≠ b → H'[b']? = H[b']?) (hG : ∀ b', b' ≠ b → G'[b']? = G[b']?) (hs : H'[b]? = some s') (hgk' : G'[b]? = some k')
    (hkk : k' = k ∨ w.heap.size ≤ k')
    (hshape : match s, s' with
      | .cells cs, .cells cs' => cs.length ≤ cs'.length ∧ (cs'.length = cs.length → k' = k ∧ blockSize w' k = blockSize w k)
      | .map _ _, .map _ _ => k' = k
      | .iter _, .iter _ => k' = k
      | _, .dead => True
      | _, _ => False)
    (hos : w'.os = w.os) (htape : w'.tape = w.tape) (hout : w'.output = w.output) (hsize : w.heap.size ≤ w'.heap.size) (hkeep : ∀ k1, k1 < w.heap.size → k1 ≠ k → w'.heap[k1]? = w.heap[k1]?) : Ext w H G w' H' G' where
  os := hos
  tape := htape
  output := hout
  size := hsize
  keep k1 hlt hn := hkeep k1 hlt (fun e => hn (e ▸ ⟨b, s, hb, hl, hgk⟩))
  out k1 hlt hn := by
    rintro ⟨b1, s1, h1, l1, g1⟩
    by_cases e : b1 = b
    · subst e
      rw [hgk'] at g1
      obtain rfl := Option.some.inj g1
      rcases hkk with rfl | hkk
      · exact hn ⟨b1, s, hb, hl, hgk⟩
      · omega
    · rw [hH b1 e] at h1
      rw [hG b1 e] at g1
      exact hn ⟨b1, s1, h1, l1, g1⟩
  use b1 hu := by
    by_cases e : b1 = b
    · subst e
      refine ⟨s', hs, ?_⟩
      rintro rfl
      cases s <;> exact hshape.elim
    · exact (inUse_congr (hH b1 e)).2 hu
  ref b1 g hr := by
    by_cases e : b1 = b
    · subst e
      refine ⟨⟨s', hs, ?_⟩, ?_, ?_⟩
      · rintro rfl
        cases s <;> exact hshape.elim
      · intro cs' hc
        rw [hs] at hc
        obtain rfl := Option.some.inj hc
        cases s with
        | cells cs => exact Nat.le_trans (hr.2.1 cs hb) hshape.1
        | _ => exact hshape.elim
      · intro hc
        rw [hs] at hc
        obtain rfl := Option.some.inj hc
        cases s <;> exact hshape.elim
    · exact (okRef_congr (hH b1 e)).2 hr
  virts b1 hu hc := by
    by_cases e : b1 = b
    · subst e
      rw [hs] at hc
      obtain rfl := Option.some.inj hc
      cases s <;> exact hshape.elim
    · rwa [hH b1 e] at hc
  cells b1 g cs' hr hc := by
    by_cases e : b1 = b
    · subst e
      obtain ⟨c1, c2⟩ := cellsAt_some hc
      rw [hs] at c1
      obtain rfl := Option.some.inj c1
      cases s with
      | cells cs =>
        have hle := hr.2.1 cs hb
        have e1 : cs'.length = cs.length := by have := hshape.1; omega
        obtain ⟨rfl, e2⟩ := hshape.2 e1
        have := cellsAt_of hb
        rw [← e1, c2] at this
        exact ⟨⟨cs, this⟩, by rw [getD_of hgk', getD_of hgk], by rw [getD_of hgk]; exact e2⟩
      | _ => exact hshape.elim
    · rw [cellsAt_congr (hH b1 e)] at hc
      refine ⟨⟨cs', hc⟩, by simp [List.getD_eq_getElem?_getD, hG b1 e], ?_⟩
      obtain ⟨h1, h2⟩ := cellsAt_some hc
      obtain ⟨k1, g1, _, g3, _⟩ := h.block b1 _ h1 rfl
      rw [getD_of g1]
      unfold blockSize
      rw [hkeep k1 g3 (fun e2 => e (h.inj b1 b _ s k1 h1 rfl hb hl g1 (e2 ▸ hgk)))]
  maps b1 ks' vs' hr hc := by
    by_cases e : b1 = b
    · subst e
      rw [hs] at hc
      obtain rfl := Option.some.inj hc
      cases s with
      | map ks vs =>
        have : k' = k := hshape
        exact ⟨⟨ks, vs, hb⟩, by rw [getD_of hgk', getD_of hgk, this]⟩
      | _ => exact hshape.elim
    · rw [hH b1 e] at hc
      exact ⟨⟨ks', vs', hc⟩, by simp [List.getD_eq_getElem?_getD, hG b1 e]⟩
  iters b1 x' hr hc := by
    by_cases e : b1 = b
    · subst e
      rw [hs] at hc
      obtain rfl := Option.some.inj hc
      cases s with
      | iter x =>
        have : k' = k := hshape
        exact ⟨⟨x, hb⟩, by rw [getD_of hgk', getD_of hgk, this]⟩
      | _ => exact hshape.elim
    · rw [hH b1 e] at hc
      exact ⟨⟨x', hc⟩, by simp [List.getD_eq_getElem?_getD, hG b1 e]⟩

end Go.AM
