/- Functions that hand over what they made: their results as blocks of the caller's own. No condition. -/
import Derived.Test.YtogokiglmhnjkaaLabB18
set_option linter.unusedVariables false
set_option linter.unusedSimpArgs false
namespace Go.AM

mutual
/-- The same value, its blocks counted from n on. -/
def V.shift (n : Nat) : V → V
  | .i x => .i x
  | .agg cs => .agg (V.shiftL n cs)
  | .tup cs => .tup (V.shiftL n cs)
  | .ptr b g off => .ptr (b + n) g off
  | .hsl b g off z ag len => .hsl (b + n) g off z ag len
  | .mp b => .mp (b + n)
  | .it b => .it (b + n)
  | .clo f caps => .clo f (V.shiftL n caps)
  | .ifc t v => .ifc t (V.shift n v)
  | .bad => .bad
def V.shiftL (n : Nat) : List V → List V
  | [] => []
  | v :: vs => V.shift n v :: V.shiftL n vs
end

theorem shiftL_map (n : Nat) : ∀ (l : List V), V.shiftL n l = l.map (V.shift n)
  | [] => rfl
  | v :: vs => by simp [V.shiftL, shiftL_map n vs]

/-- What may be handed over: no picture with memory in it. -/
def V.good : V → Bool
  | .i x => flat x
  | .hsl .. => true
  | .ptr .. => true
  | _ => false

def Slot.move (n : Nat) : Slot → Slot
  | .cells cs => if cs.all V.good then .cells (cs.map (V.shift n)) else .dead
  | .virt => .virt
  | .free => .dead
  | _ => .dead

def V.handed : V → Bool
  | .agg cs => cs.all V.good
  | .tup cs => cs.all fun v => match v with | .agg ds => ds.all V.good | v => V.good v
  | v => V.good v

section
variable {P : Program} {base : Nat} {X : Nat → Prop} {w w' : World} {H H2 : Heap} {G G2 : List Nat}

theorem move_at (n : Nat) (b : Nat) : (H2.map (Slot.move n))[b]? = (H2[b]?).map (Slot.move n) := List.getElem?_map

theorem moved_at {n : Nat} (hn : n = H.length) {b : Nat} : (H ++ H2.map (Slot.move n))[b + n]? = (H2[b]?).map (Slot.move n) := by
  rw [hn, List.getElem?_append_right (by omega), List.getElem?_map]
  congr 2
  omega

theorem move_cells {n : Nat} {s : Slot} {cs : List V} (h : s.move n = .cells cs) : ∃ ds, s = .cells ds ∧ ds.all V.good = true ∧ cs = ds.map (V.shift n) := by
  cases s <;> simp only [Slot.move] at h <;> try cases h
  rename_i ds
  split at h
  · rename_i hg; cases h; exact ⟨ds, rfl, hg, rfl⟩
  · cases h

theorem ref_moved {n b g : Nat} (hn : n = H.length) (hr : okRef H2 b g) : okRef (H ++ H2.map (Slot.move n)) (b + n) g := by
  obtain ⟨⟨s, h1, h2⟩, h3, h4⟩ := hr
  refine ⟨⟨s.move n, ?_, ?_⟩, ?_, ?_⟩
  · rw [moved_at hn, h1]; rfl
  · cases s <;> simp only [Slot.move] <;> try (intro e; cases e)
    · split <;> (intro e; cases e)
  · intro cs hc
    rw [moved_at hn, h1] at hc
    simp only [Option.map_some, Option.some.injEq] at hc
    obtain ⟨ds, rfl, _, rfl⟩ := move_cells hc
    simpa using h3 ds h1
  · intro hc
    rw [moved_at hn, h1] at hc
    simp only [Option.map_some, Option.some.injEq] at hc
    cases s <;> simp only [Slot.move] at hc <;> try cases hc
    · exact h4 h1
    · split at hc <;> cases hc

theorem getD_moved {n b : Nat} (hn : n = H.length) (hg : G.length = H.length) : (G ++ G2).getD (b + n) 0 = G2.getD b 0 := by
  simp only [List.getD_eq_getElem?_getD]
  rw [List.getElem?_append_right (by omega)]
  congr 3
  omega

theorem cellsAt_moved {n b g : Nat} {cs : List V} (hn : n = H.length) (h : cellsAt (H ++ H2.map (Slot.move n)) (b + n) g = some cs) : ∃ ds, cellsAt H2 b g = some ds ∧ ds.all V.good = true ∧ cs = ds.map (V.shift n) := by
  obtain ⟨h1, h2⟩ := cellsAt_some h
  rw [moved_at hn] at h1
  obtain ⟨s, h3, h4⟩ := Option.map_eq_some_iff.1 h1
  obtain ⟨ds, rfl, h5, rfl⟩ := move_cells h4
  refine ⟨ds, ?_, h5, rfl⟩
  have := cellsAt_of h3
  rw [List.length_map] at h2
  rwa [h2] at this

theorem RV.moved {M M' : Nat → Prop} {base' n : Nat} (hn : n = H.length) (hg : G.length = H.length) {x : V} {v : Value} (hx : x.good = true) (h : RV w base' M H2 G2 x v) :
    RV w base M' (H ++ H2.map (Slot.move n)) (G ++ G2) (x.shift n) v := by
  cases h with
  | i hi => exact .i (hi.flat hx)
  | ptr hr hv hval =>
    refine .ptr (ref_moved hn hr) ?_ ?_
    · intro hc
      rw [moved_at hn] at hc
      obtain ⟨s, h1, h2⟩ := Option.map_eq_some_iff.1 hc
      cases s <;> simp only [Slot.move] at h2 <;> try cases h2
      · exact hv h1
      · split at h2 <;> cases h2
    · intro cs hc
      obtain ⟨ds, h1, _, _⟩ := cellsAt_moved hn hc
      rw [getD_moved hn hg]
      exact hval ds h1
  | hsl hr hv hz hl hval =>
    refine .hsl (ref_moved hn hr) ?_ hz hl ?_
    · intro hc
      rw [moved_at hn] at hc
      obtain ⟨s, h1, h2⟩ := Option.map_eq_some_iff.1 hc
      cases s <;> simp only [Slot.move] at h2 <;> try cases h2
      · exact hv h1
      · split at h2 <;> cases h2
    · intro cs hc
      obtain ⟨ds, h1, _, _⟩ := cellsAt_moved hn hc
      rw [getD_moved hn hg]
      exact hval ds h1
  | hnil hr hv =>
    refine .hnil (ref_moved hn hr) ?_
    cases hc : cellsAt (H ++ H2.map (Slot.move n)) (_ + n) 0 with
    | none => rfl
    | some cs =>
      obtain ⟨ds, h1, _, _⟩ := cellsAt_moved hn hc
      rw [hv] at h1
      cases h1
  | _ => simp [V.good] at hx

theorem RVL.moved {M M' : Nat → Prop} {base' n : Nat} (hn : n = H.length) (hg : G.length = H.length) : ∀ {xs : List V} {vs : List Value}, xs.all V.good = true → RVL w base' M H2 G2 xs vs →
    RVL w base M' (H ++ H2.map (Slot.move n)) (G ++ G2) (xs.map (V.shift n)) vs
  | _, _, _, .nil => .nil
  | _, _, hx, .cons a b => by
    simp only [List.all_cons, Bool.and_eq_true] at hx
    exact .cons (RV.moved hn hg hx.1 a) (RVL.moved hn hg hx.2 b)

theorem one_shift {n : Nat} {v : V} (h : v.one = true) : (v.shift n).one = true := by
  cases v <;> first | exact h | rfl | (simp [V.one] at h; done)

/-- The two heaps beside each other. -/
theorem beside_ok {n : Nat} (hn : n = H.length) (hS : SimH base X w H G) (hE : Ext w [] [] w' H2 G2) (hS2 : SimH w.heap.size (fun _ => False) w' H2 G2) :
    Ext w H G w' (H ++ H2.map (Slot.move n)) (G ++ G2) ∧ SimH base X w' (H ++ H2.map (Slot.move n)) (G ++ G2) := by
  have hkeep : ∀ k, k < w.heap.size → w'.heap[k]? = w.heap[k]? := fun k hk => hE.keep k hk (by rintro ⟨b, s, hb, _⟩; simp at hb)
  have hnew : ∀ (b : Nat) (s : Slot), (H ++ H2.map (Slot.move n))[b]? = some s → s.live = true → H.length ≤ b → ∃ k, (G ++ G2)[b]? = some k ∧ w.heap.size ≤ k ∧ k < w'.heap.size ∧ ∃ cs, s = .cells (cs.map (V.shift n)) ∧ H2[b - n]? = some (.cells cs) ∧ cs.all V.good = true ∧ G2[b - n]? = some k ∧ SlotAt w' w.heap.size (Mof (fun _ => False) H2 G2) H2 G2 k (.cells cs) := by
    intro b s hb hl hlt
    rw [show b = (b - n) + n from by omega, moved_at hn] at hb
    obtain ⟨s2, h1, h2⟩ := Option.map_eq_some_iff.1 hb
    have : ∃ cs, s2 = .cells cs ∧ cs.all V.good = true ∧ s = .cells (cs.map (V.shift n)) := by
      cases s2 <;> simp only [Slot.move] at h2
      · subst h2; cases hl
      · subst h2; cases hl
      · subst h2; cases hl
      · split at h2
        · rename_i hg; exact ⟨_, rfl, hg, h2.symm⟩
        · subst h2; cases hl
      · subst h2; cases hl
      · subst h2; cases hl
    obtain ⟨cs, rfl, h3, rfl⟩ := this
    obtain ⟨k, g1, g2, g3, _, g5⟩ := hS2.block _ _ h1 rfl
    refine ⟨k, ?_, g2, g3, cs, rfl, h1, h3, g1, g5⟩
    rw [List.getElem?_append_right (by rw [hS.len]; omega), hS.len, ← hn]
    exact g1
  have hold : ∀ b, b < H.length → (H ++ H2.map (Slot.move n))[b]? = H[b]? ∧ (G ++ G2)[b]? = G[b]? := fun b hb => ⟨List.getElem?_append_left hb, List.getElem?_append_left (by rw [hS.len]; exact hb)⟩
  have hlt : ∀ b, inUse H b → b < H.length := by
    rintro b ⟨s, hs, _⟩
    exact (List.getElem?_eq_some_iff.1 hs).1
  have hX : Ext w H G w' (H ++ H2.map (Slot.move n)) (G ++ G2) := by
    refine ⟨hE.os, hE.tape, hE.output, hE.size, fun k hk _ => hkeep k hk, ?_, ?_, ?_, ?_, ?_, ?_, ?_⟩
    · intro k hk hno
      rintro ⟨b, s, h1, h2, h3⟩
      rcases Nat.lt_or_ge b H.length with hb | hb
      · rw [(hold b hb).1] at h1
        rw [(hold b hb).2] at h3
        exact hno ⟨b, s, h1, h2, h3⟩
      · obtain ⟨k', g1, g2, _⟩ := hnew b s h1 h2 hb
        rw [h3] at g1
        cases g1
        omega
    · intro b hu
      exact (inUse_congr (hold b (hlt b hu)).1).2 hu
    · intro b g hr
      exact (okRef_congr (hold b (hlt b hr.1)).1).2 hr
    · intro b g cs' hr hc
      have hb := hlt b hr.1
      rw [cellsAt_congr (hold b hb).1] at hc
      refine ⟨⟨cs', hc⟩, by simp [List.getD_eq_getElem?_getD, (hold b hb).2], ?_⟩
      obtain ⟨h1, _⟩ := cellsAt_some hc
      obtain ⟨k, g1, _, g3, _⟩ := hS.block b _ h1 rfl
      rw [getD_of g1]
      unfold blockSize
      rw [hkeep k g3]
    · intro b hu hc
      rwa [(hold b (hlt b hu)).1] at hc
    · intro b ks vs hu hc
      have hb := hlt b hu
      rw [(hold b hb).1] at hc
      exact ⟨⟨ks, vs, hc⟩, by simp [List.getD_eq_getElem?_getD, (hold b hb).2]⟩
    · intro b x hu hc
      have hb := hlt b hu
      rw [(hold b hb).1] at hc
      exact ⟨⟨x, hc⟩, by simp [List.getD_eq_getElem?_getD, (hold b hb).2]⟩
  refine ⟨hX, ⟨by simp [hS.len, hS2.len], Nat.le_trans hS.low hE.size, fun k hk => Nat.lt_of_lt_of_le (hS.xlt k hk) hE.size, ?_, ?_⟩⟩
  · intro b s hb hl
    rcases Nat.lt_or_ge b H.length with hlt | hge
    · rw [(hold b hlt).1] at hb
      obtain ⟨k, g1, g2, g3, g4, g5⟩ := hS.block b s hb hl
      exact ⟨k, by rw [(hold b hlt).2]; exact g1, g2, Nat.lt_of_lt_of_le g3 hE.size, g4, g5.ext hX (hkeep k g3)⟩
    · obtain ⟨k, g1, g2, g3, cs, rfl, h1, h2, h3, arr, ty, a1, a2, a3, a4⟩ := hnew b s hb hl hge
      refine ⟨k, g1, Nat.le_trans hS.low g2, g3, fun hx => by have := hS.xlt k hx; omega, arr, ty, a1, by simpa using a2, ?_, ?_⟩
      · rw [List.length_map]
        exact RVL.moved hn hS.len h2 a3
      · intro y hy
        obtain ⟨u, hu, rfl⟩ := List.mem_map.1 hy
        exact one_shift (a4 u hu)
  · intro b1 b2 s1 s2 k h1 l1 h2 l2 g1 g2
    rcases Nat.lt_or_ge b1 H.length with e1 | e1 <;> rcases Nat.lt_or_ge b2 H.length with e2 | e2
    · rw [(hold b1 e1).1] at h1
      rw [(hold b2 e2).1] at h2
      rw [(hold b1 e1).2] at g1
      rw [(hold b2 e2).2] at g2
      exact hS.inj b1 b2 s1 s2 k h1 l1 h2 l2 g1 g2
    · exfalso
      rw [(hold b1 e1).1] at h1
      rw [(hold b1 e1).2] at g1
      obtain ⟨k1, c1, c2, c3, _⟩ := hS.block b1 s1 h1 l1
      rw [g1] at c1; cases c1
      obtain ⟨k2, d1, d2, _⟩ := hnew b2 s2 h2 l2 e2
      rw [g2] at d1; cases d1
      omega
    · exfalso
      rw [(hold b2 e2).1] at h2
      rw [(hold b2 e2).2] at g2
      obtain ⟨k1, c1, c2, c3, _⟩ := hS.block b2 s2 h2 l2
      rw [g2] at c1; cases c1
      obtain ⟨k2, d1, d2, _⟩ := hnew b1 s1 h1 l1 e1
      rw [g1] at d1; cases d1
      omega
    · obtain ⟨k1, c1, _, _, cs1, rfl, p1, _, p3, _⟩ := hnew b1 s1 h1 l1 e1
      obtain ⟨k2, d1, _, _, cs2, rfl, q1, _, q3, _⟩ := hnew b2 s2 h2 l2 e2
      rw [g1] at c1; cases c1
      rw [g2] at d1; cases d1
      have := hS2.inj _ _ _ _ k p1 rfl q1 rfl p3 q3
      omega

/-- A function that hands over what it made. -/
noncomputable def ownFn (P : Program) (env : Env) (A : AFn) : Fun := fun slot args H =>
  (args.mapM (snap 9 false H)).bind fun as => (runFn P env A (as.map ofI) []).bind fun p =>
    if p.1.handed = true then some (p.1.shift H.length, H ++ p.2.map (Slot.move H.length)) else none

theorem RV.movedH {M M' : Nat → Prop} {base' n : Nat} (hn : n = H.length) (hg : G.length = H.length) {x : V} {v : Value} (hx : x.handed = true) (h : RV w base' M H2 G2 x v) :
    RV w base M' (H ++ H2.map (Slot.move n)) (G ++ G2) (x.shift n) v := by
  cases h with
  | agg hl =>
    simp only [V.shift, shiftL_map]
    exact .agg (RVL.moved hn hg hx hl)
  | tup hl =>
    simp only [V.shift, shiftL_map]
    rename_i cs xs
    have : ∀ (cs : List V) (vs : List Value), (cs.all fun v => match v with | .agg ds => ds.all V.good | v => V.good v) = true → RVL w base' M H2 G2 cs vs → RVL w base M' (H ++ H2.map (Slot.move n)) (G ++ G2) (cs.map (V.shift n)) vs := by
      intro cs
      induction cs with
      | nil => intro vs _ h; cases h; exact .nil
      | cons c cs ih =>
        intro vs hx h
        cases h with
        | cons a b =>
          simp only [List.all_cons, Bool.and_eq_true] at hx
          refine .cons ?_ (ih _ hx.2 b)
          cases c with
          | agg ds =>
            cases a with
            | agg hl =>
              simp only [V.shift, shiftL_map]
              exact .agg (RVL.moved hn hg hx.1 hl)
          | _ => exact RV.moved hn hg hx.1 a
    exact .tup (this cs xs.toList hx hl)
  | i hi => exact RV.moved (base' := base') hn hg hx (.i hi)
  | ptr a b c => exact RV.moved (base' := base') (M := M) hn hg hx (.ptr a b c)
  | hsl a b c d e => exact RV.moved (base' := base') (M := M) hn hg hx (.hsl a b c d e)
  | hnil a b => exact RV.moved (base' := base') (M := M) hn hg hx (.hnil a b)
  | _ => simp [V.handed, V.good] at hx

theorem ownFn_ok {env : Env} {pur : Nat → Bool} {md : Modes} {f : FuncId} {A : AFn} (hE : EnvOK P env) (hpur : ∀ f, pur f = true → PurEnv env f) (hcall : callable P f = true) (hc : compFn P pur md f = some A) : FunOK P f (ownFn P env A) := by
  intro slot args H v H' hg
  refine ⟨hcall, ?_⟩
  unfold ownFn at hg
  obtain ⟨as, h1, hg⟩ := Option.bind_eq_some_iff.1 hg
  obtain ⟨⟨u, H2⟩, h2, hg⟩ := Option.bind_eq_some_iff.1 hg
  simp only at hg
  split at hg
  · rename_i hh
    simp only [Option.some.injEq, Prod.mk.injEq] at hg
    obtain ⟨rfl, rfl⟩ := hg
    intro base X w G xs hS hl
    have hS0 : SimH w.heap.size (fun _ => False) w [] [] := ⟨rfl, Nat.le_refl _, fun k hk => hk.elim, fun b s hb => by simp at hb, fun b b' s s' k hb => by simp at hb⟩
    have hno : ∀ k, ¬ Mof (fun _ => False) [] [] k := by
      rintro k (hk | ⟨b, s, hb, _⟩)
      · exact hk
      · simp at hb
    have hl0 : RL w (Mof (fun _ => False) [] []) as xs.toList :=
      snap_list (fun v x r hv hr => (snap_ok hS false 9 v x r hv hr).weaken (fun k hk => (hno k hk).elim)) hl h1
    refine (fn_ok hE hpur hc h2 w.heap.size _ w [] xs hS0 hl0.ofI).mono ?_
    rintro e w' ⟨x, G2, rfl, hE2, hS2, hv⟩
    obtain ⟨r1, r2⟩ := beside_ok (H2 := H2) rfl hS hE2 hS2
    exact ⟨x, G ++ G2, rfl, r1, r2, RV.movedH rfl hS.len hh hv⟩
  · cases hg

end
end Go.AM
