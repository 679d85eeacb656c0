/- The abstract machine's state against the model's world: the relation, how it goes on. No condition. -/
import Derived.Test.YtogokiglmhnjkaaLabB1
set_option linter.unusedVariables false
set_option linter.unusedSimpArgs false
namespace Go.AM

def inUse (h : Heap) (b : Nat) : Prop := ∃ s, h[b]? = some s ∧ s ≠ .free

/-- A reference that was good once: no younger than what the block is now. -/
def okRef (h : Heap) (b g : Nat) : Prop := inUse h b ∧ (∀ cs, h[b]? = some (.cells cs) → g ≤ cs.length) ∧ (h[b]? = some .virt → g = 0)

def blockSize (w : World) (k : Nat) : Option Nat :=
  match w.heap[k]? with
  | some (.cells c _ _) => some c.size
  | _ => none

/-- A slice value that lies at off in block k. -/
def HslAt (w : World) (k g off z len cap : Nat) (a : Addr) : Prop :=
  (0 < len ∨ off = 0 → a = ⟨k, off, none⟩) ∧ off + len * z ≤ g ∧ ∃ n, off + cap * z ≤ n ∧ blockSize w k = some n

mutual
inductive RV (w : World) (base : Nat) (M : Nat → Prop) (H : Heap) (G : List Nat) : V → Value → Prop
  | i {x : I} {v : Value} : RI w M x v → RV w base M H G (.i x) v
  | agg {cs : List V} {xs : Array Value} : RVL w base M H G cs xs.toList → RV w base M H G (.agg cs) (.agg xs)
  | tup {cs : List V} {xs : Array Value} : RVL w base M H G cs xs.toList → RV w base M H G (.tup cs) (.tuple xs)
  | ptr {b g off : Nat} {a : Addr} : okRef H b g → H[b]? ≠ some .virt → (∀ cs, cellsAt H b g = some cs → a = ⟨G.getD b 0, off, none⟩) → RV w base M H G (.ptr b g off) (.pointer (some a))
  | hsl {b g off z : Nat} {ag : Bool} {len cap : Nat} {a : Addr} : okRef H b g → H[b]? ≠ some .virt → 0 < z → len ≤ cap → (∀ cs, cellsAt H b g = some cs → HslAt w (G.getD b 0) g off z len cap a) → RV w base M H G (.hsl b g off z ag len) (.slice (some a) len cap)
  | hnil {b z : Nat} {ag : Bool} : okRef H b 0 → cellsAt H b 0 = none → RV w base M H G (.hsl b 0 0 z ag 0) (.slice none 0 0)
  | mp {b r : Nat} : inUse H b → (∀ ks vs, H[b]? = some (.map ks vs) → r = G.getD b 0) → RV w base M H G (.mp b) (.map (some r))
  | it {b : Nat} {a : Addr} : inUse H b → (∀ x, H[b]? = some (.iter x) → a = ⟨G.getD b 0, 0, none⟩) → RV w base M H G (.it b) (.pointer (some a))
  | clo {f : Nat} {caps : List V} {xs : Array Value} : RVL w base M H G caps xs.toList → RV w base M H G (.clo f caps) (.func (.func f) #[] xs)
  | ifc {t : Nat} {x : V} {v : Value} : RV w base M H G x v → RV w base M H G (.ifc t x) (.iface t v)
  | bad {v : Value} : RV w base M H G .bad v
inductive RVL (w : World) (base : Nat) (M : Nat → Prop) (H : Heap) (G : List Nat) : List V → List Value → Prop
  | nil : RVL w base M H G [] []
  | cons {x : V} {v : Value} {xs : List V} {vs : List Value} : RV w base M H G x v → RVL w base M H G xs vs → RVL w base M H G (x :: xs) (v :: vs)
end

/-- The concrete blocks that are the running function's own. -/
def Own (H : Heap) (G : List Nat) (k : Nat) : Prop := ∃ (b : Nat) (s : Slot), H[b]? = some s ∧ s.live = true ∧ G[b]? = some k

def Mof (X : Nat → Prop) (H : Heap) (G : List Nat) (k : Nat) : Prop := X k ∨ Own H G k

structure Ext (w : World) (H : Heap) (G : List Nat) (w' : World) (H' : Heap) (G' : List Nat) : Prop where
  os : w'.os = w.os
  tape : w'.tape = w.tape
  output : w'.output = w.output
  size : w.heap.size ≤ w'.heap.size
  keep : ∀ k, k < w.heap.size → ¬ Own H G k → w'.heap[k]? = w.heap[k]?
  out : ∀ k, k < w.heap.size → ¬ Own H G k → ¬ Own H' G' k
  use : ∀ b, inUse H b → inUse H' b
  ref : ∀ b g, okRef H b g → okRef H' b g
  cells : ∀ b g cs', okRef H b g → cellsAt H' b g = some cs' → (∃ cs, cellsAt H b g = some cs) ∧ G'.getD b 0 = G.getD b 0 ∧ blockSize w' (G.getD b 0) = blockSize w (G.getD b 0)
  virts : ∀ b, inUse H b → H'[b]? = some .virt → H[b]? = some .virt
  maps : ∀ b ks' vs', inUse H b → H'[b]? = some (.map ks' vs') → (∃ ks vs, H[b]? = some (.map ks vs)) ∧ G'.getD b 0 = G.getD b 0
  iters : ∀ b x', inUse H b → H'[b]? = some (.iter x') → (∃ x, H[b]? = some (.iter x)) ∧ G'.getD b 0 = G.getD b 0

theorem Ext.refl (w : World) (H : Heap) (G : List Nat) : Ext w H G w H G :=
  ⟨rfl, rfl, rfl, Nat.le_refl _, fun _ _ _ => rfl, fun _ _ h => h, fun _ h => h, fun _ _ h => h, fun _ _ cs _ h => ⟨⟨cs, h⟩, rfl, rfl⟩, fun _ _ h => h, fun _ ks vs _ h => ⟨⟨ks, vs, h⟩, rfl⟩, fun _ x _ h => ⟨⟨x, h⟩, rfl⟩⟩

theorem Ext.trans {w w1 w2 : World} {H H1 H2 : Heap} {G G1 G2 : List Nat} (a : Ext w H G w1 H1 G1) (b : Ext w1 H1 G1 w2 H2 G2) : Ext w H G w2 H2 G2 where
  os := b.os.trans a.os
  tape := b.tape.trans a.tape
  output := b.output.trans a.output
  size := Nat.le_trans a.size b.size
  keep k hk ho := (b.keep k (Nat.lt_of_lt_of_le hk a.size) (a.out k hk ho)).trans (a.keep k hk ho)
  out k hk ho := b.out k (Nat.lt_of_lt_of_le hk a.size) (a.out k hk ho)
  use x h := b.use x (a.use x h)
  ref x g h := b.ref x g (a.ref x g h)
  virts x h hc := a.virts x h (b.virts x (a.use x h) hc)
  cells x g cs' h hc := by
    obtain ⟨⟨c1, h1⟩, e1, s1⟩ := b.cells x g cs' (a.ref x g h) hc
    obtain ⟨⟨c0, h0⟩, e0, s0⟩ := a.cells x g c1 h h1
    exact ⟨⟨c0, h0⟩, e1.trans e0, by rw [e0] at s1; exact s1.trans s0⟩
  maps x ks' vs' h hc := by
    obtain ⟨⟨k1, v1, h1⟩, e1⟩ := b.maps x ks' vs' (a.use x h) hc
    obtain ⟨h0, e0⟩ := a.maps x k1 v1 h h1
    exact ⟨h0, e1.trans e0⟩
  iters x x' h hc := by
    obtain ⟨⟨k1, h1⟩, e1⟩ := b.iters x x' (a.use x h) hc
    obtain ⟨h0, e0⟩ := a.iters x k1 h h1
    exact ⟨h0, e1.trans e0⟩

theorem Ext.goes {w w' : World} {H H' : Heap} {G G' : List Nat} (h : Ext w H G w' H' G') (X : Nat → Prop) :
    Goes w w' (Mof X H G) (Mof X H' G') where
  size := h.size
  keep k hk hn := h.keep k hk (fun ho => hn (.inr ho))
  out k hk hn hm := by
    rcases hm with hx | ho
    · exact hn (.inl hx)
    · exact h.out k hk (fun ho => hn (.inr ho)) ho

theorem HslAt.size {w w' : World} {k g off z len cap : Nat} {a : Addr} (h : HslAt w k g off z len cap a) (e : blockSize w' k = blockSize w k) : HslAt w' k g off z len cap a := by
  obtain ⟨h3, h4, n, h5, h6⟩ := h
  exact ⟨h3, h4, n, h5, e.trans h6⟩

mutual
theorem RV.ext {w w' : World} {H H' : Heap} {G G' : List Nat} (h : Ext w H G w' H' G') {X : Nat → Prop} {base : Nat} : ∀ {x : V} {v : Value}, RV w base (Mof X H G) H G x v → RV w' base (Mof X H' G') H' G' x v
  | _, _, .i hi => .i (RI.goes (h.goes X) hi)
  | _, _, .agg hl => .agg (RVL.ext h hl)
  | _, _, .tup hl => .tup (RVL.ext h hl)
  | _, _, .ptr hr hn hv => .ptr (h.ref _ _ hr) (fun e => hn (h.virts _ hr.1 e)) (fun cs' hc => by
      obtain ⟨⟨cs, h0⟩, e, _⟩ := h.cells _ _ cs' hr hc
      rw [e]; exact hv cs h0)
  | _, _, .hsl hr hn hz hl hv => .hsl (h.ref _ _ hr) (fun e => hn (h.virts _ hr.1 e)) hz hl (fun cs' hc => by
      obtain ⟨⟨cs, h0⟩, e, s⟩ := h.cells _ _ cs' hr hc
      rw [e]; exact (hv cs h0).size s)
  | _, _, .hnil (b := b) hr hv => .hnil (h.ref _ _ hr) (by
      cases hc : cellsAt H' b 0 with
      | none => rfl
      | some cs' =>
        obtain ⟨⟨cs, h0⟩, _, _⟩ := h.cells _ _ cs' hr hc
        rw [hv] at h0
        cases h0)
  | _, _, .mp hu hv => .mp (h.use _ hu) (fun ks' vs' hc => by
      obtain ⟨⟨ks, vs, h0⟩, e⟩ := h.maps _ ks' vs' hu hc
      rw [e]; exact hv ks vs h0)
  | _, _, .it hu hv => .it (h.use _ hu) (fun x' hc => by
      obtain ⟨⟨x, h0⟩, e⟩ := h.iters _ x' hu hc
      rw [e]; exact hv x h0)
  | _, _, .clo hl => .clo (RVL.ext h hl)
  | _, _, .ifc hx => .ifc (RV.ext h hx)
  | _, _, .bad => .bad
theorem RVL.ext {w w' : World} {H H' : Heap} {G G' : List Nat} (h : Ext w H G w' H' G') {X : Nat → Prop} {base : Nat} : ∀ {xs : List V} {vs : List Value}, RVL w base (Mof X H G) H G xs vs → RVL w' base (Mof X H' G') H' G' xs vs
  | _, _, .nil => .nil
  | _, _, .cons a b => .cons (RV.ext h a) (RVL.ext h b)
end

section
variable {w : World} {base : Nat} {M : Nat → Prop} {H : Heap} {G : List Nat}

theorem RVL.length : ∀ {xs : List V} {vs : List Value}, RVL w base M H G xs vs → vs.length = xs.length
  | _, _, .nil => rfl
  | _, _, .cons _ b => by simp [RVL.length b]

theorem RVL.get : ∀ {xs : List V} {vs : List Value}, RVL w base M H G xs vs → ∀ (j : Nat) (x : V), xs[j]? = some x → ∃ v, vs[j]? = some v ∧ RV w base M H G x v
  | _, _, .nil, j, x, h => by simp at h
  | _, _, .cons (v := v) a b, 0, x, h => by simp at h; subst h; exact ⟨v, by simp, a⟩
  | _, _, .cons a b, j + 1, x, h => by
    simp at h
    obtain ⟨v, hv, hr⟩ := RVL.get b j x h
    exact ⟨v, by simpa using hv, hr⟩

theorem RVL.append : ∀ {xs : List V} {vs : List Value} {ys : List V} {us : List Value}, RVL w base M H G xs vs → RVL w base M H G ys us → RVL w base M H G (xs ++ ys) (vs ++ us)
  | _, _, _, _, .nil, h => h
  | _, _, _, _, .cons a b, h => .cons a (RVL.append b h)

theorem RVL.take : ∀ {xs : List V} {vs : List Value} (n : Nat), RVL w base M H G xs vs → RVL w base M H G (xs.take n) (vs.take n)
  | _, _, 0, _ => by simpa using RVL.nil
  | _, _, _ + 1, .nil => by simpa using RVL.nil
  | _, _, n + 1, .cons a b => by simpa using RVL.cons a (RVL.take n b)

theorem RVL.drop : ∀ {xs : List V} {vs : List Value} (n : Nat), RVL w base M H G xs vs → RVL w base M H G (xs.drop n) (vs.drop n)
  | _, _, 0, h => by simpa using h
  | _, _, _ + 1, .nil => by simpa using RVL.nil
  | _, _, n + 1, .cons a b => by simpa using RVL.drop n b

theorem RVL.set : ∀ {xs : List V} {vs : List Value} (j : Nat) {x : V} {v : Value}, RVL w base M H G xs vs → RV w base M H G x v → RVL w base M H G (xs.set j x) (vs.set j v)
  | _, _, _, _, _, .nil, _ => .nil
  | _, _, 0, _, _, .cons _ b, h => .cons h b
  | _, _, j + 1, _, _, .cons a b, h => .cons a (RVL.set j b h)

theorem RL.toV : ∀ {xs : List I} {vs : List Value}, RL w M xs vs → RVL w base M H G (xs.map .i) vs
  | _, _, .nil => .nil
  | _, _, .cons a b => .cons (.i a) (RL.toV b)

/-- The cells of a value. -/
theorem RV.cells {x : V} {v : Value} (h : RV w base M H G x v) (hb : x.cells ≠ [.bad]) : RVL w base M H G x.cells v.cells.toList := by
  cases h with
  | i hi =>
    cases hi with
    | agg hl => exact RL.toV hl
    | s hp =>
      have : v.cells = #[v] := by cases v <;> simp_all [plain, Value.cells]
      rw [this]; exact .cons (.i (.s hp)) .nil
    | tup hl => exact .cons (.i (.tup hl)) .nil
    | sl0 => exact .cons (.i .sl0) .nil
    | sl a b c d e f => exact .cons (.i (.sl a b c d e f)) .nil
    | ip a b c d => exact .cons (.i (.ip a b c d)) .nil
    | im a b c d => exact .cons (.i (.im a b c d)) .nil
  | agg hl => exact hl
  | tup hl => exact .cons (.tup hl) .nil
  | clo hl => exact .cons (.clo hl) .nil
  | ifc hx => exact .cons (.ifc hx) .nil
  | bad => exact absurd rfl hb
  | ptr a b c => exact .cons (.ptr a b c) .nil
  | hsl a b c d e => exact .cons (.hsl a b c d e) .nil
  | hnil a b => exact .cons (.hnil a b) .nil
  | mp a b => exact .cons (.mp a b) .nil
  | it a b => exact .cons (.it a b) .nil

/-- What one cell of memory can hold. -/
def V.one : V → Bool
  | .agg _ | .tup _ | .bad => false
  | .i (.agg _) | .i (.tup _) => false
  | _ => true

theorem RV.one {x : V} {v : Value} (h : RV w base M H G x v) (hb : x.one = true) : v.oneCell' = true := by
  cases h with
  | i hi => cases hi <;> first | rfl | (simp [V.one] at hb; done) | (rename_i hp; cases v <;> simp_all [plain, Value.oneCell'])
  | agg hl => simp [V.one] at hb
  | tup hl => simp [V.one] at hb
  | bad => simp [V.one] at hb
  | _ => rfl

end

end Go.AM
