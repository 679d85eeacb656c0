/- Several texts of the abstract machine in one. No condition. -/
import Derived.Laws.Entries
import Derived.Below
import Derived.Tactics
import Derived.Laws.BytesArg
import GoSem.Dispatch
import Derived.ChangeKeysEq
import Derived.Laws.StructEq
import Derived.Laws.Strings
import Derived.Laws.BitsLemmas
set_option linter.unusedVariables false
set_option linter.unusedSimpArgs false
namespace Go.AM

/-- Scalars that bear no address. -/
def plain : Value → Bool
  | .bool _ | .int _ _ | .string _ | .pointer none | .map none | .nilFunc | .nilIface => true
  | .slice none 0 0 => true
  | _ => false

/-- Values that nobody writes any more. -/
inductive I where
  | s (x : Value)
  | agg (cs : List I)
  | tup (cs : List I)
  | sl (z : Nat) (xs : List I)
  | ip (cs : List I)
  | im (ks vs : List I)

def I.cells : I → List I
  | .agg cs => cs
  | v => [v]

/-- Values of a running function: beside the above what refers to blocks of its own. -/
inductive V where
  | i (x : I)
  | agg (cs : List V)
  | tup (cs : List V)
  | ptr (b g off : Nat)
  | hsl (b g off z : Nat) (ag : Bool) (len : Nat)
  | mp (b : Nat)
  | it (b : Nat)
  | clo (f : Nat) (caps : List V)
  | ifc (t : Nat) (v : V)
  | bad
  | kv (x : Value)

def V.cells : V → List V
  | .agg cs => cs
  | .i (.agg cs) => cs.map .i
  | v => [v]

inductive Slot where
  | free
  | dead
  | virt
  | cells (cs : List V)
  | map (ks : List I) (vs : List V)
  | iter (x : I)

abbrev Heap := List Slot

/-- The cells of a block that has a place in memory. -/
def cellsAt (h : Heap) (b g : Nat) : Option (List V) :=
  match h[b]? with
  | some (.cells cs) => if cs.length = g then some cs else none
  | _ => none

/-- The same; a slice that is nil has none. -/
def getCells (h : Heap) (b g : Nat) : Option (List V) :=
  match h[b]? with
  | some (.cells cs) => if cs.length = g then some cs else none
  | some .virt => if g = 0 then some [] else none
  | _ => none

def Slot.live : Slot → Bool
  | .cells _ | .map _ _ | .iter _ => true
  | _ => false

/-- Cells from a on read as these. -/
def Reads (w : World) (a : Addr) (cs : List Value) : Prop := ∀ j, (h : j < cs.length) → w.cell? (a.add j) = some cs[j]

mutual
inductive RI (w : World) (M : Nat → Prop) : I → Value → Prop
  | s {x : Value} : plain x = true → RI w M (.s x) x
  | agg {cs : List I} {xs : Array Value} : RL w M cs xs.toList → RI w M (.agg cs) (.agg xs)
  | tup {cs : List I} {xs : Array Value} : RL w M cs xs.toList → RI w M (.tup cs) (.tuple xs)
  | sl0 {z : Nat} {a : Option Addr} {cap : Nat} : RI w M (.sl z []) (.slice a 0 cap)
  | sl {z : Nat} {xs : List I} {a : Addr} {cap : Nat} {cs : List Value} : xs ≠ [] → xs.length ≤ cap → ¬ M a.block → a.block < w.heap.size → Reads w a cs → RR w M z xs cs →
      RI w M (.sl z xs) (.slice (some a) xs.length cap)
  | ip {cs : List I} {a : Addr} {xs : List Value} : ¬ M a.block → a.block < w.heap.size → Reads w a xs → RL w M cs xs → RI w M (.ip cs) (.pointer (some a))
  | im {ks vs : List I} {r : Nat} {es : Array MapEntry} {clock : Nat} : ¬ M r → w.heap[r]? = some (.map es clock) →
      RL w M ks (es.toList.map (·.key)) → RL w M vs (es.toList.map (·.val)) → RI w M (.im ks vs) (.map (some r))
inductive RL (w : World) (M : Nat → Prop) : List I → List Value → Prop
  | nil : RL w M [] []
  | cons {x : I} {v : Value} {xs : List I} {vs : List Value} : RI w M x v → RL w M xs vs → RL w M (x :: xs) (v :: vs)
inductive RR (w : World) (M : Nat → Prop) : Nat → List I → List Value → Prop
  | nil {z : Nat} : RR w M z [] []
  | cons {z : Nat} {x : I} {xs : List I} {cs ds : List Value} : RL w M x.cells cs → cs.length = z → RR w M z xs ds → RR w M z (x :: xs) (cs ++ ds)
end

/-- How the world may go on for what is read to stay: blocks outside M are as they were, and stay outside. -/
structure Goes (w w' : World) (M M' : Nat → Prop) : Prop where
  size : w.heap.size ≤ w'.heap.size
  keep : ∀ k, k < w.heap.size → ¬ M k → w'.heap[k]? = w.heap[k]?
  out : ∀ k, k < w.heap.size → ¬ M k → ¬ M' k

theorem Goes.refl (w : World) (M : Nat → Prop) : Goes w w M M := ⟨Nat.le_refl _, fun _ _ _ => rfl, fun _ _ h => h⟩

theorem Goes.weaken {w : World} {M M' : Nat → Prop} (h : ∀ k, M' k → M k) : Goes w w M M' := ⟨Nat.le_refl _, fun _ _ _ => rfl, fun k _ hn hm => hn (h k hm)⟩

theorem Goes.cell {w w' : World} {M M' : Nat → Prop} (h : Goes w w' M M') {a : Addr} (ha : a.block < w.heap.size) (hm : ¬ M a.block) : w'.cell? a = w.cell? a :=
  World.cell?_of_block (w := w) (h.keep a.block ha hm)

theorem add_block (a : Addr) (n : Nat) : (a.add n).block = a.block := by unfold Addr.add; split <;> rfl

theorem Reads.goes {w w' : World} {M M' : Nat → Prop} (h : Goes w w' M M') {a : Addr} (ha : a.block < w.heap.size) (hm : ¬ M a.block) {cs : List Value} (hr : Reads w a cs) : Reads w' a cs := by
  intro j hj
  rw [h.cell (by rw [add_block]; exact ha) (by rw [add_block]; exact hm)]
  exact hr j hj

mutual
theorem RI.goes {w w' : World} {M M' : Nat → Prop} (h : Goes w w' M M') : ∀ {x : I} {v : Value}, RI w M x v → RI w' M' x v
  | _, _, .s hp => .s hp
  | _, _, .agg hl => .agg (RL.goes h hl)
  | _, _, .tup hl => .tup (RL.goes h hl)
  | _, _, .sl0 => .sl0
  | _, _, .sl hx hc hm hb hr hl => .sl hx hc (h.out _ hb hm) (Nat.lt_of_lt_of_le hb h.size) (hr.goes h hb hm) (RR.goes h hl)
  | _, _, .ip hm hb hr hl => .ip (h.out _ hb hm) (Nat.lt_of_lt_of_le hb h.size) (hr.goes h hb hm) (RL.goes h hl)
  | _, _, .im (r := r) hm hb hk hv =>
    have hlt : r < w.heap.size := (Array.getElem?_eq_some_iff.1 hb).1
    .im (h.out _ hlt hm) ((h.keep _ hlt hm).trans hb) (RL.goes h hk) (RL.goes h hv)
theorem RL.goes {w w' : World} {M M' : Nat → Prop} (h : Goes w w' M M') : ∀ {xs : List I} {vs : List Value}, RL w M xs vs → RL w' M' xs vs
  | _, _, .nil => .nil
  | _, _, .cons a b => .cons (RI.goes h a) (RL.goes h b)
theorem RR.goes {w w' : World} {M M' : Nat → Prop} (h : Goes w w' M M') : ∀ {z : Nat} {xs : List I} {vs : List Value}, RR w M z xs vs → RR w' M' z xs vs
  | _, _, _, .nil => .nil
  | _, _, _, .cons a e b => .cons (RL.goes h a) e (RR.goes h b)
end

theorem RL.length {w : World} {M : Nat → Prop} : ∀ {xs : List I} {vs : List Value}, RL w M xs vs → vs.length = xs.length
  | _, _, .nil => rfl
  | _, _, .cons _ b => by simp [RL.length b]

theorem RL.get {w : World} {M : Nat → Prop} : ∀ {xs : List I} {vs : List Value}, RL w M xs vs → ∀ (j : Nat) (x : I), xs[j]? = some x → ∃ v, vs[j]? = some v ∧ RI w M x v
  | _, _, .nil, j, x, h => by simp at h
  | _, _, .cons (v := v) a b, 0, x, h => by simp at h; subst h; exact ⟨v, by simp, a⟩
  | _, _, .cons a b, j + 1, x, h => by
    simp at h
    obtain ⟨v, hv, hr⟩ := RL.get b j x h
    exact ⟨v, by simpa using hv, hr⟩

theorem RL.append {w : World} {M : Nat → Prop} : ∀ {xs : List I} {vs : List Value} {ys : List I} {us : List Value}, RL w M xs vs → RL w M ys us → RL w M (xs ++ ys) (vs ++ us)
  | _, _, _, _, .nil, h => h
  | _, _, _, _, .cons a b, h => .cons a (RL.append b h)

theorem RL.take {w : World} {M : Nat → Prop} : ∀ {xs : List I} {vs : List Value} (n : Nat), RL w M xs vs → RL w M (xs.take n) (vs.take n)
  | _, _, 0, _ => by simpa using RL.nil
  | _, _, _ + 1, .nil => by simpa using RL.nil
  | _, _, n + 1, .cons a b => by simpa using RL.cons a (RL.take n b)

theorem RL.drop {w : World} {M : Nat → Prop} : ∀ {xs : List I} {vs : List Value} (n : Nat), RL w M xs vs → RL w M (xs.drop n) (vs.drop n)
  | _, _, 0, h => by simpa using h
  | _, _, _ + 1, .nil => by simpa using RL.nil
  | _, _, n + 1, .cons a b => by simpa using RL.drop n b

theorem RR.length {w : World} {M : Nat → Prop} : ∀ {z : Nat} {xs : List I} {vs : List Value}, RR w M z xs vs → vs.length = xs.length * z
  | _, _, _, .nil => by simp
  | _, _, _, .cons a e b => by simp [RR.length b, e, Nat.add_mul]; omega

theorem RR.get {w : World} {M : Nat → Prop} : ∀ {z : Nat} {xs : List I} {vs : List Value}, RR w M z xs vs → ∀ (j : Nat) (x : I), xs[j]? = some x → RL w M x.cells ((vs.drop (j * z)).take z)
  | _, _, _, .nil, j, x, h => by simp at h
  | z, _, _, .cons (cs := cs) a e b, 0, x, h => by
    simp at h; subst h
    simp only [Nat.zero_mul, List.drop_zero]
    rw [← e, List.take_left']
    · exact a
    · rfl
  | z, _, _, .cons (cs := cs) (ds := ds) a e b, j + 1, x, h => by
    simp at h
    have := RR.get b j x h
    rw [Nat.add_mul, Nat.one_mul, Nat.add_comm, ← List.drop_drop, ← e, List.drop_left']
    · rw [e]; exact this
    · rfl

theorem RR.append {w : World} {M : Nat → Prop} : ∀ {z : Nat} {xs : List I} {vs : List Value} {ys : List I} {us : List Value}, RR w M z xs vs → RR w M z ys us → RR w M z (xs ++ ys) (vs ++ us)
  | _, _, _, _, _, .nil, h => h
  | _, _, _, _, _, .cons a e b, h => by rw [List.append_assoc]; exact .cons a e (RR.append b h)

theorem RR.take {w : World} {M : Nat → Prop} : ∀ {z : Nat} {xs : List I} {vs : List Value} (n : Nat), RR w M z xs vs → RR w M z (xs.take n) (vs.take (n * z))
  | _, _, _, 0, _ => by simpa using RR.nil
  | _, _, _, _ + 1, .nil => by simpa using RR.nil
  | z, _, _, n + 1, .cons (cs := cs) (ds := ds) a e b => by
    have hl : (cs ++ ds).take ((n + 1) * z) = cs ++ ds.take (n * z) := by
      rw [List.take_append, List.take_of_length_le (by rw [e, Nat.add_mul]; omega), e]
      congr 2
      rw [Nat.add_mul]; omega
    rw [hl]
    simpa using RR.cons a e (RR.take n b)

theorem RR.drop {w : World} {M : Nat → Prop} : ∀ {z : Nat} {xs : List I} {vs : List Value} (n : Nat), RR w M z xs vs → RR w M z (xs.drop n) (vs.drop (n * z))
  | _, _, _, 0, h => by simpa using h
  | _, _, _, _ + 1, .nil => by simpa using RR.nil
  | z, _, _, n + 1, .cons (cs := cs) (ds := ds) a e b => by
    have hl : (cs ++ ds).drop ((n + 1) * z) = ds.drop (n * z) := by
      rw [List.drop_append, List.drop_of_length_le (by rw [e, Nat.add_mul]; omega), e]
      have : (n + 1) * z - z = n * z := by rw [Nat.add_mul]; omega
      rw [this]; rfl
    rw [hl]
    simpa using RR.drop n b

end Go.AM

set_option linter.unusedVariables false
set_option linter.unusedSimpArgs false
namespace Go.AM

def inUse (h : Heap) (b : Nat) : Prop := ∃ s, h[b]? = some s ∧ s ≠ .free

/-- A reference that was good once: no younger than what the block is now. -/
def okRef (h : Heap) (b g : Nat) : Prop := inUse h b ∧ (∀ cs, h[b]? = some (.cells cs) → g ≤ cs.length) ∧ (h[b]? = some .virt → g = 0)

def blockSize (w : World) (k : Nat) : Option Nat :=
  match w.heap[k]? with
  | some (.cells c _ _) => some c.size
  | _ => none

/-- A slice value that lies at off in block k. -/
def HslAt (w : World) (k g off z len cap : Nat) (a : Addr) : Prop :=
  (0 < len ∨ off = 0 → a = ⟨k, off, none⟩) ∧ off + len * z ≤ g ∧ ∃ n, off + cap * z ≤ n ∧ blockSize w k = some n

mutual
inductive RV (w : World) (base : Nat) (M : Nat → Prop) (H : Heap) (G : List Nat) : V → Value → Prop
  | i {x : I} {v : Value} : RI w M x v → RV w base M H G (.i x) v
  | agg {cs : List V} {xs : Array Value} : RVL w base M H G cs xs.toList → RV w base M H G (.agg cs) (.agg xs)
  | tup {cs : List V} {xs : Array Value} : RVL w base M H G cs xs.toList → RV w base M H G (.tup cs) (.tuple xs)
  | ptr {b g off : Nat} {a : Addr} : okRef H b g → H[b]? ≠ some .virt → (∀ cs, cellsAt H b g = some cs → a = ⟨G.getD b 0, off, none⟩) → RV w base M H G (.ptr b g off) (.pointer (some a))
  | hsl {b g off z : Nat} {ag : Bool} {len cap : Nat} {a : Addr} : okRef H b g → H[b]? ≠ some .virt → 0 < z → len ≤ cap → (∀ cs, cellsAt H b g = some cs → HslAt w (G.getD b 0) g off z len cap a) → RV w base M H G (.hsl b g off z ag len) (.slice (some a) len cap)
  | hnil {b z : Nat} {ag : Bool} : okRef H b 0 → cellsAt H b 0 = none → RV w base M H G (.hsl b 0 0 z ag 0) (.slice none 0 0)
  | mp {b r : Nat} : inUse H b → (∀ ks vs, H[b]? = some (.map ks vs) → r = G.getD b 0) → RV w base M H G (.mp b) (.map (some r))
  | it {b : Nat} {a : Addr} : inUse H b → (∀ x, H[b]? = some (.iter x) → a = ⟨G.getD b 0, 0, none⟩) → RV w base M H G (.it b) (.pointer (some a))
  | clo {f : Nat} {caps : List V} {xs : Array Value} : RVL w base M H G caps xs.toList → RV w base M H G (.clo f caps) (.func (.func f) #[] xs)
  | ifc {t : Nat} {x : V} {v : Value} : RV w base M H G x v → RV w base M H G (.ifc t x) (.iface t v)
  | bad {v : Value} : RV w base M H G .bad v
  | kv {v : Value} : v.oneCell' = true → RV w base M H G (.kv v) v
inductive RVL (w : World) (base : Nat) (M : Nat → Prop) (H : Heap) (G : List Nat) : List V → List Value → Prop
  | nil : RVL w base M H G [] []
  | cons {x : V} {v : Value} {xs : List V} {vs : List Value} : RV w base M H G x v → RVL w base M H G xs vs → RVL w base M H G (x :: xs) (v :: vs)
end

/-- The concrete blocks that are the running function's own. -/
def Own (H : Heap) (G : List Nat) (k : Nat) : Prop := ∃ (b : Nat) (s : Slot), H[b]? = some s ∧ s.live = true ∧ G[b]? = some k

def Mof (X : Nat → Prop) (H : Heap) (G : List Nat) (k : Nat) : Prop := X k ∨ Own H G k

structure Ext (w : World) (H : Heap) (G : List Nat) (w' : World) (H' : Heap) (G' : List Nat) : Prop where
  os : w'.os = w.os
  tape : w'.tape = w.tape
  output : w'.output = w.output
  size : w.heap.size ≤ w'.heap.size
  keep : ∀ k, k < w.heap.size → ¬ Own H G k → w'.heap[k]? = w.heap[k]?
  out : ∀ k, k < w.heap.size → ¬ Own H G k → ¬ Own H' G' k
  use : ∀ b, inUse H b → inUse H' b
  ref : ∀ b g, okRef H b g → okRef H' b g
  cells : ∀ b g cs', okRef H b g → cellsAt H' b g = some cs' → (∃ cs, cellsAt H b g = some cs) ∧ G'.getD b 0 = G.getD b 0 ∧ blockSize w' (G.getD b 0) = blockSize w (G.getD b 0)
  virts : ∀ b, inUse H b → H'[b]? = some .virt → H[b]? = some .virt
  maps : ∀ b ks' vs', inUse H b → H'[b]? = some (.map ks' vs') → (∃ ks vs, H[b]? = some (.map ks vs)) ∧ G'.getD b 0 = G.getD b 0
  iters : ∀ b x', inUse H b → H'[b]? = some (.iter x') → (∃ x, H[b]? = some (.iter x)) ∧ G'.getD b 0 = G.getD b 0

theorem Ext.refl (w : World) (H : Heap) (G : List Nat) : Ext w H G w H G :=
  ⟨rfl, rfl, rfl, Nat.le_refl _, fun _ _ _ => rfl, fun _ _ h => h, fun _ h => h, fun _ _ h => h, fun _ _ cs _ h => ⟨⟨cs, h⟩, rfl, rfl⟩, fun _ _ h => h, fun _ ks vs _ h => ⟨⟨ks, vs, h⟩, rfl⟩, fun _ x _ h => ⟨⟨x, h⟩, rfl⟩⟩

theorem Ext.trans {w w1 w2 : World} {H H1 H2 : Heap} {G G1 G2 : List Nat} (a : Ext w H G w1 H1 G1) (b : Ext w1 H1 G1 w2 H2 G2) : Ext w H G w2 H2 G2 where
  os := b.os.trans a.os
  tape := b.tape.trans a.tape
  output := b.output.trans a.output
  size := Nat.le_trans a.size b.size
  keep k hk ho := (b.keep k (Nat.lt_of_lt_of_le hk a.size) (a.out k hk ho)).trans (a.keep k hk ho)
  out k hk ho := b.out k (Nat.lt_of_lt_of_le hk a.size) (a.out k hk ho)
  use x h := b.use x (a.use x h)
  ref x g h := b.ref x g (a.ref x g h)
  virts x h hc := a.virts x h (b.virts x (a.use x h) hc)
  cells x g cs' h hc := by
    obtain ⟨⟨c1, h1⟩, e1, s1⟩ := b.cells x g cs' (a.ref x g h) hc
    obtain ⟨⟨c0, h0⟩, e0, s0⟩ := a.cells x g c1 h h1
    exact ⟨⟨c0, h0⟩, e1.trans e0, by rw [e0] at s1; exact s1.trans s0⟩
  maps x ks' vs' h hc := by
    obtain ⟨⟨k1, v1, h1⟩, e1⟩ := b.maps x ks' vs' (a.use x h) hc
    obtain ⟨h0, e0⟩ := a.maps x k1 v1 h h1
    exact ⟨h0, e1.trans e0⟩
  iters x x' h hc := by
    obtain ⟨⟨k1, h1⟩, e1⟩ := b.iters x x' (a.use x h) hc
    obtain ⟨h0, e0⟩ := a.iters x k1 h h1
    exact ⟨h0, e1.trans e0⟩

theorem Ext.goes {w w' : World} {H H' : Heap} {G G' : List Nat} (h : Ext w H G w' H' G') (X : Nat → Prop) :
    Goes w w' (Mof X H G) (Mof X H' G') where
  size := h.size
  keep k hk hn := h.keep k hk (fun ho => hn (.inr ho))
  out k hk hn hm := by
    rcases hm with hx | ho
    · exact hn (.inl hx)
    · exact h.out k hk (fun ho => hn (.inr ho)) ho

theorem HslAt.size {w w' : World} {k g off z len cap : Nat} {a : Addr} (h : HslAt w k g off z len cap a) (e : blockSize w' k = blockSize w k) : HslAt w' k g off z len cap a := by
  obtain ⟨h3, h4, n, h5, h6⟩ := h
  exact ⟨h3, h4, n, h5, e.trans h6⟩

mutual
theorem RV.ext {w w' : World} {H H' : Heap} {G G' : List Nat} (h : Ext w H G w' H' G') {X : Nat → Prop} {base : Nat} : ∀ {x : V} {v : Value}, RV w base (Mof X H G) H G x v → RV w' base (Mof X H' G') H' G' x v
  | _, _, .i hi => .i (RI.goes (h.goes X) hi)
  | _, _, .agg hl => .agg (RVL.ext h hl)
  | _, _, .tup hl => .tup (RVL.ext h hl)
  | _, _, .ptr hr hn hv => .ptr (h.ref _ _ hr) (fun e => hn (h.virts _ hr.1 e)) (fun cs' hc => by
      obtain ⟨⟨cs, h0⟩, e, _⟩ := h.cells _ _ cs' hr hc
      rw [e]; exact hv cs h0)
  | _, _, .hsl hr hn hz hl hv => .hsl (h.ref _ _ hr) (fun e => hn (h.virts _ hr.1 e)) hz hl (fun cs' hc => by
      obtain ⟨⟨cs, h0⟩, e, s⟩ := h.cells _ _ cs' hr hc
      rw [e]; exact (hv cs h0).size s)
  | _, _, .hnil (b := b) hr hv => .hnil (h.ref _ _ hr) (by
      cases hc : cellsAt H' b 0 with
      | none => rfl
      | some cs' =>
        obtain ⟨⟨cs, h0⟩, _, _⟩ := h.cells _ _ cs' hr hc
        rw [hv] at h0
        cases h0)
  | _, _, .mp hu hv => .mp (h.use _ hu) (fun ks' vs' hc => by
      obtain ⟨⟨ks, vs, h0⟩, e⟩ := h.maps _ ks' vs' hu hc
      rw [e]; exact hv ks vs h0)
  | _, _, .it hu hv => .it (h.use _ hu) (fun x' hc => by
      obtain ⟨⟨x, h0⟩, e⟩ := h.iters _ x' hu hc
      rw [e]; exact hv x h0)
  | _, _, .clo hl => .clo (RVL.ext h hl)
  | _, _, .ifc hx => .ifc (RV.ext h hx)
  | _, _, .bad => .bad
  | _, _, .kv h => .kv h
theorem RVL.ext {w w' : World} {H H' : Heap} {G G' : List Nat} (h : Ext w H G w' H' G') {X : Nat → Prop} {base : Nat} : ∀ {xs : List V} {vs : List Value}, RVL w base (Mof X H G) H G xs vs → RVL w' base (Mof X H' G') H' G' xs vs
  | _, _, .nil => .nil
  | _, _, .cons a b => .cons (RV.ext h a) (RVL.ext h b)
end

section
variable {w : World} {base : Nat} {M : Nat → Prop} {H : Heap} {G : List Nat}

theorem RVL.length : ∀ {xs : List V} {vs : List Value}, RVL w base M H G xs vs → vs.length = xs.length
  | _, _, .nil => rfl
  | _, _, .cons _ b => by simp [RVL.length b]

theorem RVL.get : ∀ {xs : List V} {vs : List Value}, RVL w base M H G xs vs → ∀ (j : Nat) (x : V), xs[j]? = some x → ∃ v, vs[j]? = some v ∧ RV w base M H G x v
  | _, _, .nil, j, x, h => by simp at h
  | _, _, .cons (v := v) a b, 0, x, h => by simp at h; subst h; exact ⟨v, by simp, a⟩
  | _, _, .cons a b, j + 1, x, h => by
    simp at h
    obtain ⟨v, hv, hr⟩ := RVL.get b j x h
    exact ⟨v, by simpa using hv, hr⟩

theorem RVL.append : ∀ {xs : List V} {vs : List Value} {ys : List V} {us : List Value}, RVL w base M H G xs vs → RVL w base M H G ys us → RVL w base M H G (xs ++ ys) (vs ++ us)
  | _, _, _, _, .nil, h => h
  | _, _, _, _, .cons a b, h => .cons a (RVL.append b h)

theorem RVL.take : ∀ {xs : List V} {vs : List Value} (n : Nat), RVL w base M H G xs vs → RVL w base M H G (xs.take n) (vs.take n)
  | _, _, 0, _ => by simpa using RVL.nil
  | _, _, _ + 1, .nil => by simpa using RVL.nil
  | _, _, n + 1, .cons a b => by simpa using RVL.cons a (RVL.take n b)

theorem RVL.drop : ∀ {xs : List V} {vs : List Value} (n : Nat), RVL w base M H G xs vs → RVL w base M H G (xs.drop n) (vs.drop n)
  | _, _, 0, h => by simpa using h
  | _, _, _ + 1, .nil => by simpa using RVL.nil
  | _, _, n + 1, .cons a b => by simpa using RVL.drop n b

theorem RVL.set : ∀ {xs : List V} {vs : List Value} (j : Nat) {x : V} {v : Value}, RVL w base M H G xs vs → RV w base M H G x v → RVL w base M H G (xs.set j x) (vs.set j v)
  | _, _, _, _, _, .nil, _ => .nil
  | _, _, 0, _, _, .cons _ b, h => .cons h b
  | _, _, j + 1, _, _, .cons a b, h => .cons a (RVL.set j b h)

theorem RL.toV : ∀ {xs : List I} {vs : List Value}, RL w M xs vs → RVL w base M H G (xs.map .i) vs
  | _, _, .nil => .nil
  | _, _, .cons a b => .cons (.i a) (RL.toV b)

/-- The cells of a value. -/
theorem RV.cells {x : V} {v : Value} (h : RV w base M H G x v) (hb : x.cells ≠ [.bad]) : RVL w base M H G x.cells v.cells.toList := by
  cases h with
  | i hi =>
    cases hi with
    | agg hl => exact RL.toV hl
    | s hp =>
      have : v.cells = #[v] := by cases v <;> simp_all [plain, Value.cells]
      rw [this]; exact .cons (.i (.s hp)) .nil
    | tup hl => exact .cons (.i (.tup hl)) .nil
    | sl0 => exact .cons (.i .sl0) .nil
    | sl a b c d e f => exact .cons (.i (.sl a b c d e f)) .nil
    | ip a b c d => exact .cons (.i (.ip a b c d)) .nil
    | im a b c d => exact .cons (.i (.im a b c d)) .nil
  | agg hl => exact hl
  | tup hl => exact .cons (.tup hl) .nil
  | clo hl => exact .cons (.clo hl) .nil
  | ifc hx => exact .cons (.ifc hx) .nil
  | bad => exact absurd rfl hb
  | kv h =>
    have : v.cells = #[v] := by cases v <;> first | rfl | simp [Value.oneCell'] at h
    rw [this]; exact .cons (.kv h) .nil
  | ptr a b c => exact .cons (.ptr a b c) .nil
  | hsl a b c d e => exact .cons (.hsl a b c d e) .nil
  | hnil a b => exact .cons (.hnil a b) .nil
  | mp a b => exact .cons (.mp a b) .nil
  | it a b => exact .cons (.it a b) .nil

/-- What one cell of memory can hold. -/
def V.one : V → Bool
  | .agg _ | .tup _ | .bad | .kv _ => false
  | .i (.agg _) | .i (.tup _) => false
  | _ => true

theorem RV.one {x : V} {v : Value} (h : RV w base M H G x v) (hb : x.one = true) : v.oneCell' = true := by
  cases h with
  | i hi => cases hi <;> first | rfl | (simp [V.one] at hb; done) | (rename_i hp; cases v <;> simp_all [plain, Value.oneCell'])
  | agg hl => simp [V.one] at hb
  | tup hl => simp [V.one] at hb
  | bad => simp [V.one] at hb
  | kv h => exact h
  | _ => rfl

end

end Go.AM

set_option linter.unusedVariables false
set_option linter.unusedSimpArgs false
namespace Go.AM

/-- What a block of the function's own holds. -/
def SlotAt (w : World) (base : Nat) (M : Nat → Prop) (H : Heap) (G : List Nat) (k : Nat) : Slot → Prop
  | .cells cs => ∃ (arr : Array Value) (t : TypeId), w.heap[k]? = some (.cells arr t (0, 0)) ∧ cs.length ≤ arr.size ∧ RVL w base M H G cs (arr.toList.take cs.length) ∧ ∀ y, y ∈ cs → y.one = true
  | .map ks vs => ∃ (es : Array MapEntry) (clock : Nat), w.heap[k]? = some (.map es clock) ∧ RL w (fun _ => True) ks (es.toList.map (·.key)) ∧ RVL w base M H G vs (es.toList.map (·.val)) ∧
      es.toList.map (·.born) = List.range es.size ∧ clock = es.size
  | .iter x => ∃ (s : ByteArray) (pos : Nat), x = .agg [.s (.string s), .s (.int .i64 pos)] ∧ w.heap[k]? = some (.stringIter s pos)
  | .free => True
  | .dead => True
  | .virt => True

structure SimH (base : Nat) (X : Nat → Prop) (w : World) (H : Heap) (G : List Nat) : Prop where
  len : G.length = H.length
  low : base ≤ w.heap.size
  xlt : ∀ k, X k → k < w.heap.size
  block : ∀ (b : Nat) (s : Slot), H[b]? = some s → s.live = true → ∃ k, G[b]? = some k ∧ base ≤ k ∧ k < w.heap.size ∧ ¬ X k ∧ SlotAt w base (Mof X H G) H G k s
  inj : ∀ (b b' : Nat) (s s' : Slot) (k : Nat), H[b]? = some s → s.live = true → H[b']? = some s' → s'.live = true → G[b]? = some k → G[b']? = some k → b = b'

theorem getD_of {G : List Nat} {b k : Nat} (h : G[b]? = some k) : G.getD b 0 = k := by simp [List.getD_eq_getElem?_getD, h]

theorem cellsAt_some {H : Heap} {b g : Nat} {cs : List V} (h : cellsAt H b g = some cs) : H[b]? = some (.cells cs) ∧ cs.length = g := by
  unfold cellsAt at h
  split at h
  · rename_i cs' he
    split at h
    · rename_i hl
      cases h
      exact ⟨he, hl⟩
    · cases h
  · cases h

theorem cellsAt_of {H : Heap} {b : Nat} {cs : List V} (h : H[b]? = some (.cells cs)) : cellsAt H b cs.length = some cs := by
  unfold cellsAt; rw [h]; simp

theorem getCells_len {H : Heap} {b g : Nat} {cs : List V} (h : getCells H b g = some cs) : cs.length = g := by
  unfold getCells at h
  split at h
  · split at h
    · cases h; assumption
    · cases h
  · split at h
    · cases h; simp_all
    · cases h
  · cases h

theorem getCells_or {H : Heap} {b g : Nat} {cs : List V} (h : getCells H b g = some cs) : cellsAt H b g = some cs ∨ (H[b]? = some .virt ∧ g = 0 ∧ cs = []) := by
  unfold getCells at h
  unfold cellsAt
  split at h
  · rename_i he; rw [he]; exact .inl h
  · rename_i he
    split at h
    · cases h; exact .inr ⟨he, by assumption, rfl⟩
    · cases h
  · cases h

theorem getCells_not {H : Heap} {b g : Nat} {cs : List V} (h : getCells H b g = some cs) (hn : H[b]? ≠ some .virt) : cellsAt H b g = some cs := by
  rcases getCells_or h with h | ⟨h, _⟩
  · exact h
  · exact absurd h hn

theorem cellsAt_congr {H H' : Heap} {b g : Nat} (h : H'[b]? = H[b]?) : cellsAt H' b g = cellsAt H b g := by
  unfold cellsAt; rw [h]

theorem getCells_congr {H H' : Heap} {b g : Nat} (h : H'[b]? = H[b]?) : getCells H' b g = getCells H b g := by
  unfold getCells; rw [h]

theorem inUse_congr {H H' : Heap} {b : Nat} (h : H'[b]? = H[b]?) : inUse H' b ↔ inUse H b := by
  unfold inUse; rw [h]

theorem okRef_congr {H H' : Heap} {b g : Nat} (h : H'[b]? = H[b]?) : okRef H' b g ↔ okRef H b g := by
  unfold okRef; rw [inUse_congr h, h]

theorem SlotAt.ext {w w' : World} {H H' : Heap} {G G' : List Nat} (h : Ext w H G w' H' G') {X : Nat → Prop} {base k : Nat} {s : Slot} (hk : w'.heap[k]? = w.heap[k]?)
    (hs : SlotAt w base (Mof X H G) H G k s) : SlotAt w' base (Mof X H' G') H' G' k s := by
  cases s with
  | free => trivial
  | dead => trivial
  | virt => trivial
  | cells cs =>
    obtain ⟨arr, t, h1, h2, h3, h4⟩ := hs
    exact ⟨arr, t, hk.trans h1, h2, h3.ext h, h4⟩
  | map ks vs =>
    obtain ⟨es, clock, h1, h2, h3, h4, h5⟩ := hs
    refine ⟨es, clock, hk.trans h1, ?_, h3.ext h, h4, h5⟩
    exact RL.goes (w := w) (w' := w') (M := fun _ => True) (M' := fun _ => True) ⟨h.size, fun _ _ hn => absurd trivial hn, fun _ _ hn => hn⟩ h2
  | iter x =>
    obtain ⟨s, pos, h1, h2⟩ := hs
    exact ⟨s, pos, h1, hk.trans h2⟩

/-- One block of the heap has turned; the rest stands. -/
theorem SimH.upd {base : Nat} {X : Nat → Prop} {w w' : World} {H H' : Heap} {G G' : List Nat} (h : SimH base X w H G) (b : Nat) (s' : Slot) (k' : Nat)
    (hlen : G'.length = H'.length) (hH : ∀ b', b' ≠ b → H'[b']? = H[b']?) (hG : ∀ b', b' ≠ b → G'[b']? = G[b']?) (hs : H'[b]? = some s')
    (hE : Ext w H G w' H' G')
    (hkeep : ∀ b1 s1 k1, b1 ≠ b → H[b1]? = some s1 → s1.live = true → G[b1]? = some k1 → w'.heap[k1]? = w.heap[k1]?)
    (hk : s'.live = true → G'[b]? = some k' ∧ k' < w'.heap.size ∧ ((∃ s, H[b]? = some s ∧ s.live = true ∧ G[b]? = some k') ∨ w.heap.size ≤ k') ∧ SlotAt w' base (Mof X H' G') H' G' k' s') :
    SimH base X w' H' G' where
  len := hlen
  low := Nat.le_trans h.low hE.size
  xlt k hx := Nat.lt_of_lt_of_le (h.xlt k hx) hE.size
  block b1 s1 h1 hl := by
    by_cases e : b1 = b
    · subst e
      obtain rfl : s' = s1 := by rw [hs] at h1; exact Option.some.inj h1
      obtain ⟨g1, g2, g3, g4⟩ := hk hl
      rcases g3 with ⟨s, a1, a2, a3⟩ | g3
      · obtain ⟨k, c1, c2, c3, c4, _⟩ := h.block _ s a1 a2
        obtain rfl : k = k' := by rw [a3] at c1; exact (Option.some.inj c1).symm
        exact ⟨k, g1, c2, g2, c4, g4⟩
      · exact ⟨k', g1, Nat.le_trans h.low g3, g2, fun hx => by have := h.xlt _ hx; omega, g4⟩
    · rw [hH b1 e] at h1
      obtain ⟨k, c1, c2, c3, c4, c5⟩ := h.block b1 s1 h1 hl
      exact ⟨k, by rw [hG b1 e]; exact c1, c2, Nat.lt_of_lt_of_le c3 hE.size, c4, c5.ext hE (hkeep b1 s1 k e h1 hl c1)⟩
  inj b1 b2 s1 s2 k h1 l1 h2 l2 g1 g2 := by
    by_cases e1 : b1 = b
    · by_cases e2 : b2 = b
      · rw [e1, e2]
      · exfalso
        subst e1
        obtain rfl : s' = s1 := by rw [hs] at h1; exact Option.some.inj h1
        obtain ⟨c1, c2, c3, _⟩ := hk l1
        obtain rfl : k' = k := by rw [c1] at g1; exact Option.some.inj g1
        rw [hH b2 e2] at h2
        rw [hG b2 e2] at g2
        rcases c3 with ⟨s, a1, a2, a3⟩ | c3
        · exact e2 (h.inj b2 _ s2 s _ h2 l2 a1 a2 g2 a3)
        · obtain ⟨k, d1, _, d3, _⟩ := h.block b2 s2 h2 l2
          rw [g2] at d1
          have := Option.some.inj d1
          omega
    · by_cases e2 : b2 = b
      · exfalso
        subst e2
        obtain rfl : s' = s2 := by rw [hs] at h2; exact Option.some.inj h2
        obtain ⟨c1, c2, c3, _⟩ := hk l2
        obtain rfl : k' = k := by rw [c1] at g2; exact Option.some.inj g2
        rw [hH b1 e1] at h1
        rw [hG b1 e1] at g1
        rcases c3 with ⟨s, a1, a2, a3⟩ | c3
        · exact e1 (h.inj b1 _ s1 s _ h1 l1 a1 a2 g1 a3)
        · obtain ⟨k, d1, _, d3, _⟩ := h.block b1 s1 h1 l1
          rw [g1] at d1
          have := Option.some.inj d1
          omega
      · rw [hH b1 e1] at h1
        rw [hH b2 e2] at h2
        rw [hG b1 e1] at g1
        rw [hG b2 e2] at g2
        exact h.inj b1 b2 s1 s2 k h1 l1 h2 l2 g1 g2

/-- The world has gone on without touching what is the function's own. -/
theorem Ext.quiet {base : Nat} {X : Nat → Prop} {w w' : World} {H : Heap} {G : List Nat} (h : SimH base X w H G) (hos : w'.os = w.os) (htape : w'.tape = w.tape) (hout : w'.output = w.output) (hsize : w.heap.size ≤ w'.heap.size)
    (hk : ∀ k, k < w.heap.size → w'.heap[k]? = w.heap[k]?) : Ext w H G w' H G where
  os := hos
  tape := htape
  output := hout
  size := hsize
  keep k hlt _ := hk k hlt
  out k _ hn := hn
  use _ hu := hu
  ref _ _ hr := hr
  virts _ _ hc := hc
  cells b g cs' _ hc := by
    refine ⟨⟨cs', hc⟩, rfl, ?_⟩
    obtain ⟨h1, h2⟩ := cellsAt_some hc
    obtain ⟨k, g1, _, g3, _⟩ := h.block b _ h1 rfl
    rw [getD_of g1]
    unfold blockSize
    rw [hk k g3]
  maps b ks' vs' _ hc := ⟨⟨ks', vs', hc⟩, rfl⟩
  iters b x' _ hc := ⟨⟨x', hc⟩, rfl⟩

theorem SimH.quiet {base : Nat} {X : Nat → Prop} {w w' : World} {H : Heap} {G : List Nat} (h : SimH base X w H G) (hE : Ext w H G w' H G) (hk : ∀ k, k < w.heap.size → w'.heap[k]? = w.heap[k]?) : SimH base X w' H G where
  len := h.len
  low := Nat.le_trans h.low hE.size
  xlt k hx := Nat.lt_of_lt_of_le (h.xlt k hx) hE.size
  block b s hs hl := by
    obtain ⟨k, c1, c2, c3, c4, c5⟩ := h.block b s hs hl
    exact ⟨k, c1, c2, Nat.lt_of_lt_of_le c3 hE.size, c4, c5.ext hE (hk k c3)⟩
  inj := h.inj

/-- A new block; or a nil slice has got its first cells. -/
theorem Ext.new {base : Nat} {X : Nat → Prop} {w w' : World} {H H' : Heap} {G G' : List Nat} (h : SimH base X w H G) (b : Nat) (s' : Slot) (k' : Nat)
    (hfree : ¬ inUse H b ∨ (H[b]? = some .virt ∧ ∃ cs, cs ≠ [] ∧ s' = .cells cs)) (hH : ∀ b', b' ≠ b → H'[b']? = H[b']?) (hG : ∀ b', b' ≠ b → G'[b']? = G[b']?) (hs : H'[b]? = some s') (hk : s'.live = true → G'[b]? = some k') (hk' : w.heap.size ≤ k')
    (hos : w'.os = w.os) (htape : w'.tape = w.tape) (hout : w'.output = w.output) (hsize : w.heap.size ≤ w'.heap.size) (hkeep : ∀ k, k < w.heap.size → w'.heap[k]? = w.heap[k]?) : Ext w H G w' H' G' where
  os := hos
  tape := htape
  output := hout
  size := hsize
  keep k hlt _ := hkeep k hlt
  out k hlt hn := by
    rintro ⟨b1, s1, h1, l1, g1⟩
    by_cases e : b1 = b
    · subst e
      rw [hs] at h1
      cases h1
      rw [hk l1] at g1
      have := Option.some.inj g1
      omega
    · rw [hH b1 e] at h1
      rw [hG b1 e] at g1
      exact hn ⟨b1, s1, h1, l1, g1⟩
  use b1 hu := by
    by_cases e : b1 = b
    · subst e
      rcases hfree with hf | ⟨_, cs, _, rfl⟩
      · exact absurd hu hf
      · exact ⟨_, hs, by intro e; cases e⟩
    · exact (inUse_congr (hH b1 e)).2 hu
  ref b1 g hr := by
    by_cases e : b1 = b
    · subst e
      rcases hfree with hf | ⟨hv, cs, _, rfl⟩
      · exact absurd hr.1 hf
      · have := hr.2.2 hv
        subst this
        exact ⟨⟨_, hs, by intro e; cases e⟩, fun _ _ => Nat.zero_le _, fun _ => rfl⟩
    · exact (okRef_congr (hH b1 e)).2 hr
  virts b1 hu hc := by
    by_cases e : b1 = b
    · subst e
      rcases hfree with hf | ⟨hv, _⟩
      · exact absurd hu hf
      · exact hv
    · rwa [hH b1 e] at hc
  cells b1 g cs' hr hc := by
    by_cases e : b1 = b
    · subst e
      rcases hfree with hf | ⟨hv, cs, hne, rfl⟩
      · exact absurd hr.1 hf
      · exfalso
        have := hr.2.2 hv
        subst this
        obtain ⟨h1, h2⟩ := cellsAt_some hc
        rw [hs] at h1
        cases h1
        exact hne (List.eq_nil_of_length_eq_zero h2)
    rw [cellsAt_congr (hH b1 e)] at hc
    refine ⟨⟨cs', hc⟩, by simp [List.getD_eq_getElem?_getD, hG b1 e], ?_⟩
    obtain ⟨h1, h2⟩ := cellsAt_some hc
    obtain ⟨k, g1, _, g3, _⟩ := h.block b1 _ h1 rfl
    rw [getD_of g1]
    unfold blockSize
    rw [hkeep k g3]
  maps b1 ks' vs' hr hc := by
    by_cases e : b1 = b
    · subst e
      rcases hfree with hf | ⟨hv, cs, hne, rfl⟩
      · exact absurd hr hf
      · rw [hs] at hc; cases hc
    rw [hH b1 e] at hc
    exact ⟨⟨ks', vs', hc⟩, by simp [List.getD_eq_getElem?_getD, hG b1 e]⟩
  iters b1 x' hr hc := by
    by_cases e : b1 = b
    · subst e
      rcases hfree with hf | ⟨hv, cs, hne, rfl⟩
      · exact absurd hr hf
      · rw [hs] at hc; cases hc
    rw [hH b1 e] at hc
    exact ⟨⟨x', hc⟩, by simp [List.getD_eq_getElem?_getD, hG b1 e]⟩

/-- A block of the function's own has another content: in place (k' = k, no size has turned) or, if it has grown, elsewhere. -/
theorem Ext.change {base : Nat} {X : Nat → Prop} {w w' : World} {H H' : Heap} {G G' : List Nat} (h : SimH base X w H G) (b : Nat) (s s' : Slot) (k k' : Nat)
    (hb : H[b]? = some s) (hl : s.live = true) (hgk : G[b]? = some k) (hH : ∀ b', b' ≠ b → H'[b']? = H[b']?) (hG : ∀ b', b' ≠ b → G'[b']? = G[b']?) (hs : H'[b]? = some s') (hgk' : G'[b]? = some k')
    (hkk : k' = k ∨ w.heap.size ≤ k')
    (hshape : match s, s' with
      | .cells cs, .cells cs' => cs.length ≤ cs'.length ∧ (cs'.length = cs.length → k' = k ∧ blockSize w' k = blockSize w k)
      | .map _ _, .map _ _ => k' = k
      | .iter _, .iter _ => k' = k
      | _, .dead => True
      | _, _ => False)
    (hos : w'.os = w.os) (htape : w'.tape = w.tape) (hout : w'.output = w.output) (hsize : w.heap.size ≤ w'.heap.size) (hkeep : ∀ k1, k1 < w.heap.size → k1 ≠ k → w'.heap[k1]? = w.heap[k1]?) : Ext w H G w' H' G' where
  os := hos
  tape := htape
  output := hout
  size := hsize
  keep k1 hlt hn := hkeep k1 hlt (fun e => hn (e ▸ ⟨b, s, hb, hl, hgk⟩))
  out k1 hlt hn := by
    rintro ⟨b1, s1, h1, l1, g1⟩
    by_cases e : b1 = b
    · subst e
      rw [hgk'] at g1
      obtain rfl := Option.some.inj g1
      rcases hkk with rfl | hkk
      · exact hn ⟨b1, s, hb, hl, hgk⟩
      · omega
    · rw [hH b1 e] at h1
      rw [hG b1 e] at g1
      exact hn ⟨b1, s1, h1, l1, g1⟩
  use b1 hu := by
    by_cases e : b1 = b
    · subst e
      refine ⟨s', hs, ?_⟩
      rintro rfl
      cases s <;> exact hshape.elim
    · exact (inUse_congr (hH b1 e)).2 hu
  ref b1 g hr := by
    by_cases e : b1 = b
    · subst e
      refine ⟨⟨s', hs, ?_⟩, ?_, ?_⟩
      · rintro rfl
        cases s <;> exact hshape.elim
      · intro cs' hc
        rw [hs] at hc
        obtain rfl := Option.some.inj hc
        cases s with
        | cells cs => exact Nat.le_trans (hr.2.1 cs hb) hshape.1
        | _ => exact hshape.elim
      · intro hc
        rw [hs] at hc
        obtain rfl := Option.some.inj hc
        cases s <;> exact hshape.elim
    · exact (okRef_congr (hH b1 e)).2 hr
  virts b1 hu hc := by
    by_cases e : b1 = b
    · subst e
      rw [hs] at hc
      obtain rfl := Option.some.inj hc
      cases s <;> exact hshape.elim
    · rwa [hH b1 e] at hc
  cells b1 g cs' hr hc := by
    by_cases e : b1 = b
    · subst e
      obtain ⟨c1, c2⟩ := cellsAt_some hc
      rw [hs] at c1
      obtain rfl := Option.some.inj c1
      cases s with
      | cells cs =>
        have hle := hr.2.1 cs hb
        have e1 : cs'.length = cs.length := by have := hshape.1; omega
        obtain ⟨rfl, e2⟩ := hshape.2 e1
        have := cellsAt_of hb
        rw [← e1, c2] at this
        exact ⟨⟨cs, this⟩, by rw [getD_of hgk', getD_of hgk], by rw [getD_of hgk]; exact e2⟩
      | _ => exact hshape.elim
    · rw [cellsAt_congr (hH b1 e)] at hc
      refine ⟨⟨cs', hc⟩, by simp [List.getD_eq_getElem?_getD, hG b1 e], ?_⟩
      obtain ⟨h1, h2⟩ := cellsAt_some hc
      obtain ⟨k1, g1, _, g3, _⟩ := h.block b1 _ h1 rfl
      rw [getD_of g1]
      unfold blockSize
      rw [hkeep k1 g3 (fun e2 => e (h.inj b1 b _ s k1 h1 rfl hb hl g1 (e2 ▸ hgk)))]
  maps b1 ks' vs' hr hc := by
    by_cases e : b1 = b
    · subst e
      rw [hs] at hc
      obtain rfl := Option.some.inj hc
      cases s with
      | map ks vs =>
        have : k' = k := hshape
        exact ⟨⟨ks, vs, hb⟩, by rw [getD_of hgk', getD_of hgk, this]⟩
      | _ => exact hshape.elim
    · rw [hH b1 e] at hc
      exact ⟨⟨ks', vs', hc⟩, by simp [List.getD_eq_getElem?_getD, hG b1 e]⟩
  iters b1 x' hr hc := by
    by_cases e : b1 = b
    · subst e
      rw [hs] at hc
      obtain rfl := Option.some.inj hc
      cases s with
      | iter x =>
        have : k' = k := hshape
        exact ⟨⟨x, hb⟩, by rw [getD_of hgk', getD_of hgk, this]⟩
      | _ => exact hshape.elim
    · rw [hH b1 e] at hc
      exact ⟨⟨x', hc⟩, by simp [List.getD_eq_getElem?_getD, hG b1 e]⟩

end Go.AM

set_option linter.unusedVariables false
set_option linter.unusedSimpArgs false
namespace Go.AM

/-- What an operation of the model comes to if it looks at nothing but its operands and the program. -/
def pureOf {α : Type} (P : Program) : Sem α → Option α
  | .pure a => some a
  | .program k => pureOf P (k P)
  | .mark _ k => pureOf P k
  | _ => none

def scal : V → Option Value
  | .i (.s x) => some x
  | _ => none

def scalI : I → Option Value
  | .s x => some x
  | _ => none

def toVal : I → Option Value
  | .s x => some x
  | .agg cs => (cs.mapM scalI).map fun l => .agg l.toArray
  | .tup cs => (cs.mapM scalI).map fun l => .tuple l.toArray
  | _ => none

def toValV : V → Option Value
  | .i x => toVal x
  | .agg cs => (cs.mapM scal).map fun l => .agg l.toArray
  | _ => none

def ofVal : Value → Option I
  | .agg cs => if cs.toList.all plain then some (.agg (cs.toList.map .s)) else none
  | .tuple cs => if cs.toList.all plain then some (.tup (cs.toList.map .s)) else none
  | v => if plain v then some (.s v) else none

/-- What an operation of integers comes to, by its values alone. -/
def intBin (op : BinOp) (k : IntKind) (a : Int) (k' : IntKind) (b : Int) : Option Value :=
  match op with
  | .shl => if b < 0 then none else some (.int k (k.wrap (a * 2 ^ min b.toNat k.bits)))
  | .shr => if b < 0 then none else some (.int k (a.fdiv (2 ^ min b.toNat k.bits)))
  | .add => if k = k' then some (.int k (k.wrap (a + b))) else none
  | .sub => if k = k' then some (.int k (k.wrap (a - b))) else none
  | .mul => if k = k' then some (.int k (k.wrap (a * b))) else none
  | .quo => if k = k' ∧ b ≠ 0 then some (.int k (k.wrap (a.tdiv b))) else none
  | .rem => if k = k' ∧ b ≠ 0 then some (.int k (a.tmod b)) else none
  | .and => if k = k' then some (.int k (k.wrap (BitVec.ofInt k.bits a &&& BitVec.ofInt k.bits b).toNat)) else none
  | .or => if k = k' then some (.int k (k.wrap (BitVec.ofInt k.bits a ||| BitVec.ofInt k.bits b).toNat)) else none
  | .xor => if k = k' then some (.int k (k.wrap (BitVec.ofInt k.bits a ^^^ BitVec.ofInt k.bits b).toNat)) else none
  | .andNot => if k = k' then some (.int k (k.wrap (BitVec.ofInt k.bits a &&& ~~~ (BitVec.ofInt k.bits b)).toNat)) else none
  | .eql => if k = k' then some (.bool (decide (a = b))) else none
  | .neq => if k = k' then some (.bool (!decide (a = b))) else none
  | .lss => if k = k' then some (.bool (decide (a < b))) else none
  | .leq => if k = k' then some (.bool (decide (a ≤ b))) else none
  | .gtr => if k = k' then some (.bool (decide (b < a))) else none
  | .geq => if k = k' then some (.bool (decide (b ≤ a))) else none

def strBin (op : BinOp) (x y : ByteArray) : Option Value :=
  match op with
  | .add => if ((x.size + y.size : Nat) : Int) ≤ 9223372036854775807 then some (.string (x ++ y)) else none
  | .eql => some (.bool (decide (x = y)))
  | .neq => some (.bool (!decide (x = y)))
  | .lss => some (.bool (Op.bytesLess x.toList y.toList))
  | .leq => some (.bool (Op.bytesLess x.toList y.toList || decide (x = y)))
  | .gtr => some (.bool (!(Op.bytesLess x.toList y.toList || decide (x = y))))
  | .geq => some (.bool (!Op.bytesLess x.toList y.toList))
  | _ => none

/-- Operations that know no types. -/
inductive NPu where
  | ar (op : BinOp)
  | beq (neg : Bool)
  | un (op : UnOp)
  | conv (k : IntKind)
  | convS
  | idx
  | len
  | max
  | min
  | slS (lo hi : Bool)

def strSl (s : ByteArray) (l h : Int) : Option Value := if 0 ≤ l ∧ l ≤ h ∧ h ≤ s.size then some (.string (s.extract l.toNat h.toNat)) else none

def npu : NPu → List Value → Option Value
  | .ar op, [.int k a, .int k' b] => intBin op k a k' b
  | .ar op, [.string a, .string b] => strBin op a b
  | .beq neg, [.bool a, .bool b] => some (.bool (xor neg (a == b)))
  | .un .not, [.bool a] => some (.bool (!a))
  | .un .neg, [.int k n] => some (.int k (k.wrap (0 - n)))
  | .conv k, [.int _ n] => some (.int k (k.wrap n))
  | .convS, [.string s] => some (.string s)
  | .idx, [.string s, .int _ i] => if 0 ≤ i then (s.data[i.toNat]?).map fun b => .int .u8 b.toNat else none
  | .len, [.string s] => some (.int .i64 (s.size : Nat))
  | .max, [.int k x, .int _ y] => some (.int k (if y > x then y else x))
  | .min, [.int k x, .int _ y] => some (.int k (if y < x then y else x))
  | .slS false false, [.string s] => strSl s 0 s.size
  | .slS true false, [.string s, .int _ l] => strSl s l s.size
  | .slS false true, [.string s, .int _ h] => strSl s 0 h
  | .slS true true, [.string s, .int _ l, .int _ h] => strSl s l h
  | _, _ => none

inductive Pu where
  | n (q : NPu)
  | bin (op : BinOp) (t : TypeId) (x y : Operand)
  | un (op : UnOp)
  | conv (s d : TypeId)
  | idx (t : TypeId)
  | len (ats : Array TypeId) (t : TypeId)
  | max (ats : Array TypeId) (t : TypeId)
  | min (ats : Array TypeId) (t : TypeId)
  | slS (t : TypeId) (lo hi : Bool)
  | field (t : TypeId) (f : Nat)

def Pu.run : Pu → List Value → Sem Value
  | .n q, vs => match npu q vs with | some v => pure v | none => stuck ""
  | .bin op t x y, [a, b] => do eqGuard op t x y a b; binOp op t a b
  | .un op, [a] => Op.unary op a
  | .conv s d, [a] => convert s d a
  | .idx t, [a, i] => Instr.index t a i
  | .len ats t, [a] => Builtin.len_ ats t #[a]
  | .max ats t, as => Builtin.max_ ats t as.toArray
  | .min ats t, as => Builtin.min_ ats t as.toArray
  | .slS t false false, [a] => Instr.sliceAt t a none none none
  | .slS t true false, [a, l] => Instr.sliceAt t a (some l) none none
  | .slS t false true, [a, h] => Instr.sliceAt t a none (some h) none
  | .slS t true true, [a, l, h] => Instr.sliceAt t a (some l) (some h) none
  | .field t f, [a] => Instr.field t a f
  | _, _ => stuck ""

inductive SK where
  | int (k : IntKind)
  | bool
  | str

def SK.fits : SK → Value → Bool
  | .int k, .int k' _ => decide (k = k')
  | .bool, .bool _ => true
  | .str, .string _ => true
  | _, _ => false

def fitsL : List SK → List Value → Bool
  | [], [] => true
  | k :: ks, v :: vs => k.fits v && fitsL ks vs
  | _, _ => false

def eqV : Value → Value → Bool
  | .int _ a, .int _ b => decide (a = b)
  | .bool a, .bool b => a == b
  | .string a, .string b => decide (a = b)
  | _, _ => false

def eqL : List Value → List Value → Bool
  | [], [] => true
  | x :: xs, y :: ys => eqV x y && eqL xs ys
  | _, _ => false

/-- The first of these that is like a. -/
def hit (a : List Value) : List (List Value) → Option Nat
  | [] => none
  | c :: cs => if eqL a c then some 0 else (hit a cs).map (· + 1)

inductive AOp where
  | mv (x : Operand)
  | pick (c a b : Operand)
  | pu (p : Pu) (xs : List Operand)
  | alloc (zero : List Value)
  | vnil (z : Nat) (ag : Bool)
  | storeV (hs : List (Nat × Bool)) (z : Nat) (a x : Operand)
  | aeq (neg : Bool) (ks : List SK) (x y : Operand)
  | allocV (hs : List (Nat × Bool)) (zero : List Value)
  | box (x : Operand)
  | build (zero : List Value) (parts : List (Nat × Nat × Operand))
  | buildSl (z : Nat) (ag : Bool) (n : Nat) (zero : List Value) (parts : List (Nat × Operand))
  | load (z : Nat) (ag : Bool) (a : Operand)
  | store (z : Nat) (a x : Operand)
  | nilChk (x : Operand)
  | fieldA (off : Nat) (x : Operand)
  | field (off z : Nat) (ag : Bool) (x : Operand)
  | idxS (z : Nat) (x i : Operand)
  | idxA (n z : Nat) (x i : Operand)
  | idxV (n z : Nat) (ag : Bool) (x i : Operand)
  | slice (z : Nat) (x : Operand) (lo hi : Option Operand)
  | sliceA (n z : Nat) (ag : Bool) (x : Operand) (lo hi : Option Operand)
  | len (x : Operand)
  | append (z : Nat) (ag : Bool) (bytes : Nat) (s x : Operand)
  | extract (k : Nat) (x : Operand)
  | b2s (x : Operand)
  | makeSl (z : Nat) (ag : Bool) (bytes : Nat) (zero : List Value) (l c : Operand)
  | clo (f : Nat) (caps : List Operand)
  | ifc (t : Nat) (x : Operand)
  | makeMap
  | lookup (kg : Bool) (ks : List SK) (ag : Bool) (zero : List Value) (ok : Bool) (m k : Operand)
  | mapSet (kg : Bool) (ks : List SK) (m k x : Operand)
  | mapEntry (kg : Bool) (ks : List SK) (ag : Bool) (zero : List Value) (m k : Operand)
  | entryStore (m s x : Operand)
  | del (kg : Bool) (ks : List SK) (m k : Operand)
  | mlen (m : Operand)
  | call (f : Nat) (args : List Operand)
  | callV (f : Nat) (hs : List (Nat × Bool)) (args : List Operand)
  | appendV (z : Nat) (ag : Bool) (bytes : Nat) (x : Operand)
  | dyn (f : Operand) (args : List Operand)

structure AOper where
  dst : Option Nat
  op : AOp
  guard : Option (Nat × Bool)
  apart : List Operand
  slot : Option Nat

structure St where
  t : Nat → V
  h : Heap

def undefV : V := .i (.tup [])

def St.ev (st : St) : Operand → V
  | .tmp k => st.t k
  | .const v => match ofVal v with | some x => .i x | none => .bad
  | .func f => .clo f []
  | .global _ => .bad

def newSlot (slot : Option Nat) (h : Heap) (s : Slot) : Option (Nat × Heap) :=
  match slot with
  | none => some (h.length, h ++ [s])
  | some b => match h[b]? with
    | some .free => some (b, h.set b s)
    | _ => none

/-- The cells of a struct's or an array's value, if they are scalars. -/
def scalsV (v : V) : Option (List Value) := match v with
  | .agg cs => cs.mapM scal
  | .i (.agg cs) => cs.mapM scalI
  | _ => none

def splice (cs : List V) (off : Nat) (ys : List V) : List V := cs.take off ++ ys ++ cs.drop (off + ys.length)

def fillV (st : St) : List V → List (Nat × Nat × Operand) → Option (List V)
  | cs, [] => some cs
  | cs, (off, size, x) :: rest =>
    let ys := (st.ev x).cells
    if ys.all V.one = true ∧ ys.length = size ∧ off + size ≤ cs.length then fillV st (splice cs off ys) rest else none

def intV : V → Option Int
  | .i (.s (.int _ n)) => some n
  | _ => none

/-- A row of a slice, out of its cells. -/
def rowV (ag : Bool) (cs : List V) : Option V := if ag then some (.agg cs) else cs[0]?

/-- The cells that a slice value holds (what is appended). -/
def srcCells (h : Heap) : V → Option (List V)
  | .hsl b g off z _ len => (getCells h b g).map fun cs => (cs.drop off).take (len * z)
  | .i (.sl _ xs) => some ((xs.flatMap I.cells).map .i)
  | .i (.s (.string s)) => some (s.data.toList.map fun b => .i (.s (.int .u8 b.toNat)))
  | .i (.s (.slice none 0 0)) => some []
  | _ => none

def lenV : V → Option Nat
  | .hsl _ _ _ _ _ len => some len
  | .i (.sl _ xs) => some xs.length
  | .i (.s (.string s)) => some s.size
  | .i (.s (.slice none 0 0)) => some 0
  | _ => none

def lenS : V → Option Nat
  | .hsl _ _ _ _ _ len => some len
  | .i (.sl _ xs) => some xs.length
  | .i (.s (.slice none 0 0)) => some 0
  | _ => none

def bytesOf : List V → Option (List Int)
  | [] => some []
  | .i (.s (.int .u8 n)) :: rest => (bytesOf rest).map (n :: ·)
  | _ => none

def boundHi (st : St) (hi : Option Operand) (len : Nat) : Option Nat :=
  match hi with
  | none => some len
  | some o => (intV (st.ev o)).bind fun n => if 0 ≤ n ∧ n ≤ len then some n.toNat else none

def boundLo (st : St) (lo : Option Operand) (h : Nat) : Option Nat :=
  match lo with
  | none => some 0
  | some o => (intV (st.ev o)).bind fun n => if 0 ≤ n ∧ n ≤ h then some n.toNat else none

def bounds (st : St) (lo hi : Option Operand) (len : Nat) : Option (Nat × Nat) :=
  (boundHi st hi len).bind fun h => (boundLo st lo h).map fun l => (l, h)

end Go.AM

set_option linter.unusedVariables false
set_option linter.unusedSimpArgs false
namespace Go.AM

theorem pureOf_run {α : Type} (P : Program) : ∀ (s : Sem α) (a : α), pureOf P s = some a → ∀ w, s.run P w = .ok a w
  | .pure x, a, h, w => by simp [pureOf] at h; subst h; rfl
  | .program k, a, h, w => by
    simp only [pureOf] at h
    simp only [Sem.run]
    exact pureOf_run P (k P) a h w
  | .mark m k, a, h, w => by
    simp only [pureOf] at h
    simp only [Sem.run]
    exact pureOf_run P k a h w
  | .load .., a, h, w => by simp [pureOf] at h
  | .store .., a, h, w => by simp [pureOf] at h
  | .new .., a, h, w => by simp [pureOf] at h
  | .shape .., a, h, w => by simp [pureOf] at h
  | .freeze .., a, h, w => by simp [pureOf] at h
  | .frozen .., a, h, w => by simp [pureOf] at h
  | .getObj .., a, h, w => by simp [pureOf] at h
  | .setObj .., a, h, w => by simp [pureOf] at h
  | .choose .., a, h, w => by simp [pureOf] at h
  | .sys .., a, h, w => by simp [pureOf] at h
  | .halt .., a, h, w => by simp [pureOf] at h

theorem pureOf_bind {α β : Type} (P : Program) (f : α → Sem β) : ∀ (s : Sem α), pureOf P (s >>= f) = (pureOf P s).bind fun a => pureOf P (f a)
  | .pure x => rfl
  | .program k => pureOf_bind P f (k P)
  | .mark m k => pureOf_bind P f k
  | .load .. => rfl
  | .store .. => rfl
  | .new .. => rfl
  | .shape .. => rfl
  | .freeze .. => rfl
  | .frozen .. => rfl
  | .getObj .. => rfl
  | .setObj .. => rfl
  | .choose .. => rfl
  | .sys .. => rfl
  | .halt .. => rfl

theorem add_add (a : Addr) (m n : Nat) (h : a.spot = none) : (a.add m).add n = a.add (m + n) := by
  obtain ⟨b, o, s⟩ := a
  simp at h; subst h
  simp [Addr.add_lit, Nat.add_assoc]

theorem Reads.spot {w : World} {a : Addr} {cs : List Value} (h : Reads w a cs) (hne : cs ≠ []) : a.spot = none := by
  have h0 := h 0 (List.length_pos_iff.2 hne)
  rw [Addr.add_zero'] at h0
  unfold World.cell? at h0
  split at h0
  · split at h0
    · cases h0
    · rename_i hs; simpa using hs
  · cases h0

theorem Reads.sub {w : World} {a : Addr} {cs : List Value} (h : Reads w a cs) (off n : Nat) (hn : off + n ≤ cs.length) (hp : 0 < n) : Reads w (a.add off) ((cs.drop off).take n) := by
  intro j hj
  have hs : a.spot = none := h.spot (by intro e; subst e; simp at hn; omega)
  simp at hj
  rw [add_add a off j hs, h (off + j) (by omega)]
  simp

theorem Reads.drop {w : World} {a : Addr} {cs : List Value} (h : Reads w a cs) (off : Nat) (hn : off < cs.length) : Reads w (a.add off) (cs.drop off) := by
  intro j hj
  have hs : a.spot = none := h.spot (by intro e; subst e; simp at hn)
  simp at hj
  rw [add_add a off j hs, h (off + j) (by omega)]
  simp

theorem run_loadCellsFrom (P : Program) (w : World) (a : Addr) : ∀ (n i : Nat) (acc : Array Value) (cs : List Value), cs.length = n → (∀ j, (h : j < cs.length) → w.cell? (a.add (i + j)) = some cs[j]) →
    (loadCellsFrom a i n acc).run P w = .ok (acc ++ cs.toArray) w
  | 0, i, acc, cs, hl, _ => by
    obtain rfl : cs = [] := List.eq_nil_of_length_eq_zero hl
    simp [loadCellsFrom]
  | n + 1, i, acc, [], hl, _ => by simp at hl
  | n + 1, i, acc, c :: cs, hl, hr => by
    have h0 := hr 0 (by simp)
    simp only [loadCellsFrom, Sem.run_bind, run_load]
    simp at h0
    rw [h0]
    simp only [Result.andThen_ok]
    rw [run_loadCellsFrom P w a n (i + 1) (acc.push c) cs (by simpa using hl)]
    · simp
    · intro j hj
      have := hr (j + 1) (by simpa using hj)
      simp at this
      rw [show i + 1 + j = i + (j + 1) from by omega]
      exact this

theorem run_loadCells (P : Program) (w : World) (a : Addr) (cs : List Value) (n : Nat) (hl : cs.length = n) (h : Reads w a cs) : (loadCells a n).run P w = .ok cs.toArray w := by
  unfold loadCells
  rw [run_loadCellsFrom P w a n 0 #[] cs hl (by intro j hj; rw [Nat.zero_add]; exact h j hj)]
  simp

theorem Reads.of_block {w : World} {k off n : Nat} {arr : Array Value} {t : TypeId} {fr : Nat × Nat} (h : w.heap[k]? = some (.cells arr t fr)) (hn : off + n ≤ arr.size) : Reads w ⟨k, off, none⟩ ((arr.toList.drop off).take n) := by
  intro j hj
  simp at hj
  rw [Addr.add_lit]
  unfold World.cell?
  simp [h]

theorem setCell_heap (w : World) (k off : Nat) (v : Value) (arr : Array Value) (t : TypeId) (fr : Nat × Nat) (h : w.heap[k]? = some (.cells arr t fr)) :
    (w.setCell ⟨k, off, none⟩ v).heap[k]? = some (.cells (arr.setIfInBounds off v) t fr) := by
  simp [World.setCell, Array.getElem?_modify, h]

theorem run_storeCells (P : Program) (k : Nat) (t : TypeId) (off : Nat) : ∀ (vs : List Value) (i : Nat) (w : World) (arr : Array Value), w.heap[k]? = some (.cells arr t (0, 0)) → off + i + vs.length ≤ arr.size → (∀ v ∈ vs, v.oneCell' = true) →
    ∃ w' arr', (storeCells ⟨k, off, none⟩ vs i).run P w = .ok () w' ∧ w'.os = w.os ∧ w'.tape = w.tape ∧ w'.output = w.output ∧ w'.heap.size = w.heap.size ∧ (∀ k', k' ≠ k → w'.heap[k']? = w.heap[k']?) ∧
      w'.heap[k]? = some (.cells arr' t (0, 0)) ∧ arr'.toList = arr.toList.take (off + i) ++ vs ++ arr.toList.drop (off + i + vs.length)
  | [], i, w, arr, h, hl, _ => ⟨w, arr, by simp [storeCells], rfl, rfl, rfl, rfl, fun _ _ => rfl, h, by simp⟩
  | v :: vs, i, w, arr, h, hl, hv => by
    have h1 : v.oneCell' = true := hv v (by simp)
    simp at hl
    have hlt : off + i < arr.size := by omega
    have hc : w.cell? ⟨k, off + i, none⟩ = some arr[off + i] := by
      unfold World.cell?; simp [h, hlt]
    have hf : w.frozen? ⟨k, off + i, none⟩ = false := by
      unfold World.frozen?; simp [h]
    have hset := setCell_heap w k (off + i) v arr t (0, 0) h
    obtain ⟨w', arr', e1, e2, e3, e4, e5, e6, e7, e8⟩ := run_storeCells P k t off vs (i + 1) (w.setCell ⟨k, off + i, none⟩ v) (arr.setIfInBounds (off + i) v) hset (by simp; omega) (fun u hu => hv u (by simp [hu]))
    refine ⟨w', arr', ?_, e2, e3, e4, by simpa using e5, ?_, e7, ?_⟩
    · simp only [storeCells, Sem.run_bind, Addr.add_lit]
      rw [run_store P w _ v .plain h1, hc]
      simp only [hf, Bool.false_eq_true, if_false, Result.andThen_ok]
      exact e1
    · intro k' hk'
      rw [e6 k' hk']
      exact Go.RowKit.Below.heap_setCell _ _ _ _ hk'
    · rw [e8]
      simp only [Array.toList_setIfInBounds]
      have hlt' : off + i < arr.toList.length := by simpa using hlt
      have hmin : (arr.toList.take (off + i)).length = off + i := by simp; omega
      rw [List.take_set, show off + (i + 1) = off + i + 1 from by omega, List.drop_set_of_lt (by omega)]
      rw [List.take_succ_eq_append_getElem hlt', List.set_append_right _ _ (by omega), hmin]
      simp [Nat.add_assoc, Nat.add_comm, Nat.add_left_comm]

end Go.AM

set_option linter.unusedVariables false
set_option linter.unusedSimpArgs false
namespace Go.AM

/-- What calls come to: function, where a result's block may be laid, arguments, heap. -/
abbrev Env := Nat → Option Nat → List V → Heap → Option (V × Heap)

/-- A struct's or an array's value. -/
def isAggV : V → Bool
  | .agg _ | .i (.agg _) => true
  | _ => false

def stepLoad (z : Nat) (ag : Bool) (h : Heap) : V → Option V
  | .ptr b g off => (getCells h b g).bind fun cs => if off + z ≤ cs.length then rowV ag ((cs.drop off).take z) else none
  | .i (.ip cs) => if z ≤ cs.length then rowV ag ((cs.take z).map .i) else none
  | _ => none

def stepStoreC (z : Nat) (h : Heap) (ys : List V) : V → Option Heap
  | .ptr b g off => (getCells h b g).bind fun cs => if ys.all V.one = true ∧ ys.length = z ∧ off + z ≤ cs.length then some (h.set b (.cells (splice cs off ys))) else none
  | _ => none

def stepStore (z : Nat) (h : Heap) (x : V) : V → Option Heap := stepStoreC z h x.cells

def isNil : V → Bool
  | .i (.s (.slice none 0 0)) => true
  | _ => false

theorem isNil_eq {v : V} (h : isNil v = true) : v = .i (.s (.slice none 0 0)) := by
  unfold isNil at h
  split at h
  · rfl
  · cases h

/-- Cells, the nil slices among them as slices of the function's own. -/
def virtV : List (Nat × Bool) → Nat → List V → List V
  | _, _, [] => []
  | hs, b, v :: vs => if isNil v then .hsl b 0 0 (hs.headD (0, false)).1 (hs.headD (0, false)).2 0 :: virtV hs.tail (b + 1) vs else v :: virtV hs.tail b vs

def nilsV : List V → Nat
  | [] => 0
  | v :: vs => if isNil v then nilsV vs + 1 else nilsV vs

def stepIdxS (z : Nat) (h : Heap) (n : Int) : V → Option V
  | .hsl b g off z' _ len => if z' = z ∧ 0 ≤ n ∧ n < len then (getCells h b g).map fun _ => .ptr b g (off + n.toNat * z) else none
  | .i (.sl z' xs) => if z' = z ∧ 0 ≤ n then (xs[n.toNat]?).map fun x => .i (.ip x.cells) else none
  | _ => none

def stepIdxA (z : Nat) (k : Nat) : V → Option V
  | .ptr b g o => some (.ptr b g (o + k * z))
  | .i (.ip cs) => if k * z < cs.length then some (.i (.ip (cs.drop (k * z)))) else none
  | _ => none

def stepField (off : Nat) : V → Option V
  | .ptr b g o => some (.ptr b g (o + off))
  | .i (.ip cs) => if off < cs.length then some (.i (.ip (cs.drop off))) else none
  | _ => none

def stepSlice (z : Nat) (bd : Nat → Option (Nat × Nat)) : V → Option V
  | .hsl b g off z' ag len => (bd len).bind fun p => if z' = z then some (.hsl b g (off + p.1 * z) z ag (p.2 - p.1)) else if z' = 0 ∧ len = 0 ∧ g = 0 ∧ off = 0 then some (.hsl b 0 0 z ag 0) else none
  | .i (.sl z' xs) => (bd xs.length).bind fun p => if z' = z then some (.i (.sl z ((xs.drop p.1).take (p.2 - p.1)))) else none
  | _ => none

def stepSliceA (n z : Nat) (ag : Bool) (bd : Nat → Option (Nat × Nat)) (h : Heap) : V → Option V
  | .ptr b g off => (bd n).bind fun p => (getCells h b g).bind fun cs => if off + n * z ≤ cs.length then some (.hsl b g (off + p.1 * z) z ag (p.2 - p.1)) else none
  | _ => none

/-- append: what is appended is ys, n elements. -/
def stepAppend (slot : Option Nat) (z : Nat) (ag : Bool) (bytes : Nat) (h : Heap) (ys : List V) (n : Nat) : V → Option (V × Heap)
  | .i (.s (.slice none 0 0)) =>
    if n = 0 then some (.i (.s (.slice none 0 0)), h)
    else if n * bytes ≤ 140737488355328 then (newSlot slot h (.cells ys)).map fun p => (.hsl p.1 (n * z) 0 z ag n, p.2)
    else none
  | .hsl b g off z' _ len =>
    if (z' = z ∨ z' = 0) ∧ off = 0 then (getCells h b g).bind fun cs =>
      if n = 0 then some (.hsl b g 0 z ag len, h)
      else if (len + n) * bytes ≤ 140737488355328 then
        if len * z = g then some (.hsl b (g + n * z) 0 z ag (len + n), h.set b (.cells (cs ++ ys)))
        else (newSlot slot (h.set b .dead) (.cells (cs.take (len * z) ++ ys))).map fun p => (.hsl p.1 ((len + n) * z) 0 z ag (len + n), p.2)
      else none
    else none
  | _ => none

def stepExtract (k : Nat) : V → Option V
  | .tup vs => vs[k]?
  | .i (.tup vs) => (vs[k]?).map .i
  | _ => none

def stepNil : V → Option V
  | .ptr b g off => some (.ptr b g off)
  | .i (.ip cs) => some (.i (.ip cs))
  | _ => none

def ivs (vs : List Value) : List V := vs.map fun v => .i (.s v)

def isNilV : Value → Bool
  | .slice none 0 0 => true
  | _ => false

theorem isNilV_eq {z : Value} (h : isNilV z = true) : z = .slice none 0 0 := by
  unfold isNilV at h
  split at h
  · rfl
  · cases h

/-- New cells, the nil slices among them as slices of the function's own. -/
def virtC : List (Nat × Bool) → Nat → List Value → List V
  | _, _, [] => []
  | hs, b, z :: zs => if isNilV z then .hsl b 0 0 (hs.headD (0, false)).1 (hs.headD (0, false)).2 0 :: virtC hs.tail (b + 1) zs else .i (.s z) :: virtC hs.tail b zs

def nilsOf : List Value → Nat
  | [] => 0
  | z :: zs => if isNilV z then nilsOf zs + 1 else nilsOf zs

/-- A key's cells. -/
def keyV (kg : Bool) (x : V) : Option (List Value) := if kg then scalsV x else (scal x).map fun v => [v]

def keyI (kg : Bool) : I → Option (List Value)
  | .agg cs => if kg then cs.mapM scalI else none
  | .s v => if kg then none else some [v]
  | _ => none

/-- A key as it lies in a map. -/
def keyP (kg : Bool) (a : List Value) : I := if kg then .agg (a.map .s) else .s (a.headD undef)

def keysI (kg : Bool) (ks : List SK) (kl : List I) : Option (List (List Value)) := (kl.mapM (keyI kg)).filter fun cs => cs.all (fitsL ks)

def mapAt (h : Heap) : V → Option (Nat × List I × List V)
  | .mp b => match h[b]? with
    | some (.map kl vl) => some (b, kl, vl)
    | _ => none
  | _ => none

/-- The same, of a map that nobody writes any more too. -/
def mapR (h : Heap) : V → Option (Nat × List I × List V)
  | .i (.im kl vl) => some (0, kl, vl.map .i)
  | x => mapAt h x

def lookV (ag : Bool) (zero : List Value) (vl : List V) : Option Nat → Option V
  | some j => vl[j]?
  | none => rowV ag (ivs zero)

def setM (kg : Bool) (a : List Value) (x : V) (kl : List I) (vl : List V) : Option Nat → Slot
  | some j => .map kl (vl.set j x)
  | none => .map (kl ++ [keyP kg a]) (vl ++ [x])

def delM (kl : List I) (vl : List V) : Option Nat → Slot
  | some j => .map (kl.eraseIdx j) (vl.eraseIdx j)
  | none => .map kl vl

/-- Where the entry of a key stands, and the map with it. -/
def entJ (n : Nat) : Option Nat → Nat
  | some j => j
  | none => n
def entM (kg : Bool) (a : List Value) (x : V) (kl : List I) (vl : List V) : Option Nat → Slot
  | some _ => .map kl vl
  | none => .map (kl ++ [keyP kg a]) (vl ++ [x])

def stepOp (P : Program) (env : Env) (slot : Option Nat) (op : AOp) (st : St) : Option (V × Heap) :=
  match op with
  | .mv x => some (st.ev x, st.h)
  | .pick c a b => match st.ev c with
    | .i (.s (.bool t)) => some (if t then st.ev a else st.ev b, st.h)
    | _ => none
  | .pu p xs => ((xs.map st.ev).mapM toValV).bind fun vs => (pureOf P (p.run vs)).bind fun v => (ofVal v).map fun x => (.i x, st.h)
  | .vnil z ag => (newSlot slot st.h .virt).map fun p => (.hsl p.1 0 0 z ag 0, p.2)
  | .aeq neg ks x y => (scalsV (st.ev x)).bind fun a => (scalsV (st.ev y)).bind fun b => if fitsL ks a = true ∧ fitsL ks b = true then some (.i (.s (.bool (xor neg (eqL a b)))), st.h) else none
  | .allocV hs zero => some (.ptr (st.h.length + nilsOf zero) zero.length 0, st.h ++ List.replicate (nilsOf zero) .virt ++ [.cells (virtC hs st.h.length zero)])
  | .alloc zero => (newSlot slot st.h (.cells (ivs zero))).map fun p => (.ptr p.1 zero.length 0, p.2)
  | .box x => if (st.ev x).cells.all V.one = true then (newSlot slot st.h (.cells (st.ev x).cells)).map fun p => (.ptr p.1 (st.ev x).cells.length 0, p.2) else none
  | .build zero parts => (fillV st (ivs zero) parts).map fun cs => (.agg cs, st.h)
  | .buildSl z ag n zero parts => (fillV st ((List.replicate n (ivs zero)).flatten) (parts.map fun p => (p.1 * z, z, p.2))).bind fun cs =>
      (newSlot slot st.h (.cells cs)).map fun p => (.hsl p.1 cs.length 0 z ag n, p.2)
  | .load z ag a => (stepLoad z ag st.h (st.ev a)).map fun v => (v, st.h)
  | .store z a x => (stepStore z st.h (st.ev x) (st.ev a)).map fun h => (undefV, h)
  | .storeV hs z a x => (stepStoreC z (st.h ++ List.replicate (nilsV (st.ev x).cells) .virt) (virtV hs st.h.length (st.ev x).cells) (st.ev a)).map fun h => (undefV, h)
  | .nilChk x => (stepNil (st.ev x)).map fun v => (v, st.h)
  | .fieldA off x => (stepField off (st.ev x)).map fun v => (v, st.h)
  | .field off z ag x => if off + z ≤ (st.ev x).cells.length ∧ isAggV (st.ev x) = true then (rowV ag (((st.ev x).cells.drop off).take z)).map fun v => (v, st.h) else none
  | .idxS z x i => (intV (st.ev i)).bind fun n => (stepIdxS z st.h n (st.ev x)).map fun v => (v, st.h)
  | .idxA n z x i => (intV (st.ev i)).bind fun k => if 0 ≤ k ∧ k < n then (stepIdxA z k.toNat (st.ev x)).map fun v => (v, st.h) else none
  | .idxV n z ag x i => (intV (st.ev i)).bind fun k =>
      if 0 ≤ k ∧ k < n ∧ (st.ev x).cells.length = n * z ∧ isAggV (st.ev x) = true then (rowV ag (((st.ev x).cells.drop (k.toNat * z)).take z)).map fun v => (v, st.h) else none
  | .slice z x lo hi => (stepSlice z (bounds st lo hi) (st.ev x)).map fun v => (v, st.h)
  | .sliceA n z ag x lo hi => (stepSliceA n z ag (bounds st lo hi) st.h (st.ev x)).map fun v => (v, st.h)
  | .len x => (lenS (st.ev x)).map fun (n : Nat) => (V.i (.s (.int .i64 (n : Int))), st.h)
  | .append z ag bytes s x => (srcCells st.h (st.ev x)).bind fun ys => (lenV (st.ev x)).bind fun n =>
      if ys.all V.one = true ∧ ys.length = n * z then stepAppend slot z ag bytes st.h ys n (st.ev s) else none
  | .extract k x => (stepExtract k (st.ev x)).map fun v => (v, st.h)
  | .b2s x => (srcCells st.h (st.ev x)).bind fun ys => (lenS (st.ev x)).bind fun n => (bytesOf ys).bind fun bs =>
      if bs.length = n then some (.i (.s (.string (strOfNums bs))), st.h) else none
  | .makeSl z ag bytes zero l c => (intV (st.ev l)).bind fun l => (intV (st.ev c)).bind fun c =>
      if 0 ≤ l ∧ l ≤ c ∧ c * bytes ≤ 281474976710656 ∧ c ≤ 9223372036854775807 then
        (newSlot slot st.h (.cells ((List.replicate l.toNat (ivs zero)).flatten))).map fun p => (.hsl p.1 (l.toNat * z) 0 z ag l.toNat, p.2)
      else none
  | .clo f caps => some (.clo f (caps.map st.ev), st.h)
  | .ifc t x => some (.ifc t (st.ev x), st.h)
  | .call f args => env f slot (args.map st.ev) st.h
  | .callV f hs args => env f slot (virtV hs st.h.length (args.map st.ev)) (st.h ++ List.replicate (nilsV (args.map st.ev)) .virt)
  | .appendV z ag bytes x => (srcCells st.h (st.ev x)).bind fun ys => (lenV (st.ev x)).bind fun n =>
      if ys.all V.one = true ∧ ys.length = n * z then stepAppend none z ag bytes (st.h ++ [.virt]) ys n (.hsl st.h.length 0 0 z ag 0) else none
  | .dyn f args => match st.ev f with
    | .clo g caps => env (2 * g) slot (args.map st.ev ++ caps) st.h
    | _ => none
  | .makeMap => (newSlot slot st.h (.map [] [])).map fun p => (.mp p.1, p.2)
  | .lookup kg ks ag zero ok m k => (mapR st.h (st.ev m)).bind fun q => (keyV kg (st.ev k)).bind fun a => (keysI kg ks q.2.1).bind fun cs => if fitsL ks a = true then
      (lookV ag zero q.2.2 (hit a cs)).map fun v => (if ok then .tup [v, .i (.s (.bool (hit a cs).isSome))] else v, st.h) else none
  | .mapSet kg ks m k x => (mapAt st.h (st.ev m)).bind fun q => (keyV kg (st.ev k)).bind fun a => (keysI kg ks q.2.1).bind fun cs => if fitsL ks a = true then
      some (undefV, st.h.set q.1 (setM kg a (st.ev x) q.2.1 q.2.2 (hit a cs))) else none
  | .mapEntry kg ks ag zero m k => (mapAt st.h (st.ev m)).bind fun q => (keyV kg (st.ev k)).bind fun a => (keysI kg ks q.2.1).bind fun cs => if fitsL ks a = true then
      (lookV ag zero q.2.2 (hit a cs)).map fun v => (.tup [v, .i (.s (.int .i64 (entJ q.2.2.length (hit a cs) : Nat)))], st.h.set q.1 (entM kg a v q.2.1 q.2.2 (hit a cs))) else none
  | .entryStore m s x => (mapAt st.h (st.ev m)).bind fun q => (intV (st.ev s)).bind fun n => if 0 ≤ n ∧ n < (q.2.2.length : Int) then
      some (undefV, st.h.set q.1 (.map q.2.1 (q.2.2.set n.toNat (st.ev x)))) else none
  | .del kg ks m k => (mapAt st.h (st.ev m)).bind fun q => (keyV kg (st.ev k)).bind fun a => (keysI kg ks q.2.1).bind fun cs => if fitsL ks a = true ∧ hit a cs = none then
      some (undefV, st.h.set q.1 (delM q.2.1 q.2.2 (hit a cs))) else none
  | .mlen m => (mapR st.h (st.ev m)).map fun q => (.i (.s (.int .i64 (q.2.2.length : Nat))), st.h)

/-- The temporaries of the abstract machine against the model's. -/
def TV (w : World) (base : Nat) (M : Nat → Prop) (H : Heap) (G : List Nat) (t : Nat → V) (tmps : Array Value) : Prop := ∀ k, RV w base M H G (t k) (tmps.getD k undef)

section
variable {w : World} {base : Nat} {M : Nat → Prop} {H : Heap} {G : List Nat}

theorem RL.of_plain : ∀ (vs : List Value), vs.all plain = true → RL w M (vs.map .s) vs
  | [], _ => .nil
  | v :: vs, h => by
    simp at h
    exact .cons (.s h.1) (RL.of_plain vs (by simpa using h.2))

theorem ofVal_ok {v : Value} {x : I} (h : ofVal v = some x) : RI w M x v := by
  unfold ofVal at h
  split at h
  · split at h
    · rename_i hp; cases h; exact .agg (RL.of_plain _ hp)
    · cases h
  · split at h
    · rename_i hp; cases h; exact .tup (RL.of_plain _ hp)
    · cases h
  · split at h
    · rename_i hp; cases h; exact .s hp
    · cases h

theorem RL.scal : ∀ {cs : List I} {vs l : List Value}, RL w M cs vs → cs.mapM scalI = some l → vs = l
  | _, _, _, .nil, h => by simp at h; exact h.symm
  | _, _, _, .cons (x := x) a b, h => by
    simp only [List.mapM_cons, Option.bind_eq_bind] at h
    cases hx : scalI x with
    | none => rw [hx] at h; simp at h
    | some u =>
      rw [hx] at h
      simp only [Option.bind_some] at h
      obtain ⟨l', h1, h2⟩ := Option.bind_eq_some_iff.1 h
      simp at h2
      subst h2
      have e := RL.scal b h1
      cases x with
      | s y =>
        simp [scalI] at hx; subst hx
        cases a
        rw [e]
      | _ => simp [scalI] at hx

theorem toVal_ok {x : I} {v v' : Value} (h : RI w M x v) (e : toVal x = some v') : v = v' := by
  cases h with
  | s hp => simp [toVal] at e; exact e
  | agg hl =>
    simp only [toVal, Option.map_eq_some_iff] at e
    obtain ⟨l, h1, h2⟩ := e
    rw [← h2, ← hl.scal h1]
  | tup hl =>
    simp only [toVal, Option.map_eq_some_iff] at e
    obtain ⟨l, h1, h2⟩ := e
    rw [← h2, ← hl.scal h1]
  | _ => simp [toVal] at e

theorem RVL.scal : ∀ {cs : List V} {vs l : List Value}, RVL w base M H G cs vs → cs.mapM AM.scal = some l → vs = l
  | _, _, _, .nil, h => by simp at h; exact h.symm
  | _, _, _, .cons (x := x) a b, h => by
    simp only [List.mapM_cons, Option.bind_eq_bind] at h
    cases hx : AM.scal x with
    | none => rw [hx] at h; simp at h
    | some u =>
      rw [hx] at h
      simp only [Option.bind_some] at h
      obtain ⟨l', h1, h2⟩ := Option.bind_eq_some_iff.1 h
      simp at h2
      subst h2
      have e := RVL.scal b h1
      unfold AM.scal at hx
      split at hx
      · cases hx
        cases a with
        | i hi =>
          cases hi
          rw [e]
      · cases hx

theorem toValV_ok {x : V} {v v' : Value} (h : RV w base M H G x v) (e : toValV x = some v') : v = v' := by
  cases h with
  | i hi => exact toVal_ok hi e
  | agg hl =>
    simp only [toValV, Option.map_eq_some_iff] at e
    obtain ⟨l, h1, h2⟩ := e
    rw [← h2, ← hl.scal h1]
  | _ => simp [toValV] at e

theorem RVL.toVal : ∀ {xs : List V} {vs l : List Value}, RVL w base M H G xs vs → xs.mapM toValV = some l → vs = l
  | _, _, _, .nil, h => by simp at h; exact h.symm
  | _, _, _, .cons (x := x) a b, h => by
    simp only [List.mapM_cons, Option.bind_eq_bind] at h
    obtain ⟨u, hu, h⟩ := Option.bind_eq_some_iff.1 h
    obtain ⟨l', h1, h2⟩ := Option.bind_eq_some_iff.1 h
    simp at h2
    subst h2
    rw [RVL.toVal b h1, toValV_ok a hu]

theorem ev_ok {t : Nat → V} {h : Heap} {a : Act} (hT : TV w base M H G t a.tmps) (o : Operand) : RV w base M H G (St.ev ⟨t, h⟩ o) (a.eval o) := by
  cases o with
  | tmp k => exact hT k
  | const v =>
    simp only [St.ev, Act.eval]
    split
    · rename_i x hx; exact .i (ofVal_ok hx)
    · exact .bad
  | global g => exact .bad
  | func f => exact .clo .nil

theorem evs_ok {t : Nat → V} {h : Heap} {a : Act} (hT : TV w base M H G t a.tmps) : ∀ (os : List Operand), RVL w base M H G (os.map (St.ev ⟨t, h⟩)) (os.map a.eval)
  | [] => .nil
  | o :: os => .cons (ev_ok hT o) (evs_ok hT os)

theorem RV.undef : RV w base M H G undefV undef := .i (.tup .nil)

theorem intV_ok {x : V} {v : Value} {n : Int} (h : RV w base M H G x v) (e : intV x = some n) : ∃ k, v = .int k n := by
  unfold intV at e
  split at e
  · cases e
    cases h with
    | i hi => cases hi; exact ⟨_, rfl⟩
  · cases e

end

end Go.AM

set_option linter.unusedVariables false
set_option linter.unusedSimpArgs false
namespace Go.AM

def szOf (P : Program) (t : TypeId) : Option Nat := (P.info? t).map (·.size)
def byOf (P : Program) (t : TypeId) : Option Nat := (P.info? t).map (·.bytes)
def agOf (P : Program) (t : TypeId) : Option Bool :=
  match P.underlying t with
  | some (.struct _) | some (.array _ _) => some true
  | some _ => some false
  | none => none
def zeroOf (P : Program) (t : TypeId) : Option (List Value) :=
  (((P.info? t).bind (·.zero)).map (·.cells.toList)).filter fun l => l.all plain

def shapeFs (P : Program) (g : TypeId → Option (List SK)) : List Field → Nat → Option (List SK)
  | [], _ => some []
  | f :: fs, off => if f.name ≠ "_" ∧ f.offset = off then (g f.type).bind fun ks => if szOf P f.type = some ks.length then (shapeFs P g fs (off + ks.length)).map (ks ++ ·) else none else none

/-- The kinds of the cells of a value of this type. -/
def shapeAt (P : Program) : Nat → TypeId → Option (List SK)
  | 0, _ => none
  | d + 1, t => match P.underlying t with
    | some (.int k) => some [.int k]
    | some .bool => some [.bool]
    | some .string => some [.str]
    | some (.array n e) => (shapeAt P d e).bind fun ks => if szOf P e = some ks.length then some ((List.replicate n ks).flatten) else none
    | some (.struct fs) => if P.stoodInHeld t then none else shapeFs P (shapeAt P d) fs.toList 0
    | _ => none

/-- Whether values of the type can be told apart by their cells. -/
def eqShape (P : Program) (t : TypeId) : Option (List SK) :=
  match agOf P t with
  | some true => if P.eqGuardType P.depth t then none else shapeAt P 8 t
  | _ => none

def isU8 (P : Program) (e : TypeId) : Bool := match P.underlying e with | some (.int .u8) => true | _ => false
def isInt (P : Program) (e : TypeId) : Bool := match P.underlying e with | some (.int _) => true | _ => false
def isIface (P : Program) (e : TypeId) : Bool := match P.underlying e with | some (.interface _) => true | none => true | _ => false

/-- Types whose values are one whole number, bool or string. -/
def basicT (P : Program) (t : TypeId) : Bool := match P.underlying t with
  | some (.int _) | some .bool | some .string => true
  | _ => false

/-- Types of keys that the machine can tell apart. -/
def keyT (P : Program) (t : TypeId) : Bool := match P.underlying t with
  | some (.int _) | some .bool | some .string => true
  | some (.struct fs) => fs.toList.all fun f => basicT P f.type
  | _ => false

/-- A type's zero value: whether it is one of many cells, and these. -/
def zeroV (P : Program) (t : TypeId) : Option (Bool × List Value) := ((P.info? t).bind (·.zero)).bind fun v => match v with
  | .agg cs => if cs.toList.all plain then some (true, cs.toList) else none
  | v => if plain v then some (false, [v]) else none

/-- What is to be known of a map's keys. -/
def keyOf (P : Program) (t : TypeId) : Option (Bool × List SK) := if keyT P t = true then (shapeAt P 8 t).bind fun ks => (agOf P t).map fun kg => (kg, ks) else none

def callable (P : Program) (f : FuncId) : Bool :=
  match P.funcs[f]? with
  | some fn => fn.body.isSome && !(fn.name == "runtime.NumGoroutine")
  | none => false

def compCall (P : Program) (o : Oper) (c : Call) : Option AOp :=
  match c.callee with
  | .builtin b =>
    match b, c.args.toList, c.argTypes.toList with
    | .append, [s, x], [t1, t2] =>
      match P.underlying t1 with
      | some (.slice e) => (szOf P e).bind fun z => (agOf P e).bind fun ag => (byOf P e).bind fun y =>
        if isInt P t2 = false ∧ (P.underlying t2).isSome ∧ 0 < y ∧ 0 < z ∧ (zeroOf P e).map List.length = some z then some (.append z ag y s x) else none
      | _ => none
    | .len, [x], [t] =>
      match P.underlying t with
      | some .string => some (.pu (.len c.argTypes o.type) [x])
      | some (.slice _) => some (.len x)
      | some (.map _ _) => some (.mlen x)
      | _ => none
    | .max, xs, _ => some (.pu (.max c.argTypes o.type) xs)
    | .min, xs, _ => some (.pu (.min c.argTypes o.type) xs)
    | .delete, [m, k], [mt, _] =>
      match P.underlying mt with
      | some (.map kt _) => (keyOf P kt).map fun q => .del q.1 q.2 m k
      | _ => none
    | _, _, _ => none
  | .value (.func f) => if callable P f then some (.call (2 * f) c.args.toList) else none
  | .value g => some (.dyn g c.args.toList)
  | .invoke _ _ => none

def compOp (P : Program) (o : Oper) : Option AOp :=
  match o.op with
  | .move x | .assign x => some (.mv x)
  | .pick c a b => some (.pick c a b)
  | .alloc e => (zeroOf P e).map .alloc
  | .box _ x => some (.box x)
  | .build t parts =>
    match P.underlying t with
    | some (.struct fields) => (zeroOf P t).bind fun z => (fields.toList.mapM fun f => (szOf P f.type).map fun s => (f.offset, s)).bind fun fs =>
      if parts.toList.all (fun p => (fs[p.1]?).isSome) then some (.build z (parts.toList.map fun p => match fs[p.1]? with | some q => (q.1, q.2, p.2) | none => (0, 0, p.2))) else none
    | some (.array _ e) => (zeroOf P t).bind fun z => (szOf P e).map fun s => .build z (parts.toList.map fun p => (p.1 * s, s, p.2))
    | _ => none
  | .buildSlice t n parts =>
    match P.underlying t with
    | some (.slice e) => (szOf P e).bind fun z => (agOf P e).bind fun ag => (zeroOf P e).bind fun zero =>
      if n * z ≤ 16777216 ∧ zero.length = z ∧ 0 < z then some (.buildSl z ag n zero parts.toList) else none
    | _ => none
  | .load t a => (szOf P t).bind fun z => (agOf P t).map fun ag => .load (if ag then z else 1) ag a
  | .store t a x => (szOf P t).map fun z => .store z a x
  | .nilCheck x => some (.nilChk x)
  | .binOp op t x y _ => match eqShape P t, op with
    | some ks, .eql => some (.aeq false ks x y)
    | some ks, .neq => some (.aeq true ks x y)
    | none, _ => some (.pu (.bin op t x y) [x, y])
    | _, _ => none
  | .unOp op _ x => some (.pu (.un op) [x])
  | .convert s d x =>
    match P.underlying s, P.underlying d with
    | some (.slice e), some .string => if isU8 P e then some (.b2s x) else none
    | _, _ => some (.pu (.conv s d) [x])
  | .slice t x lo hi none =>
    match P.underlying t with
    | some .string => some (.pu (.slS t lo.isSome hi.isSome) (x :: (lo.toList ++ hi.toList)))
    | some (.slice e) => (szOf P e).map fun z => .slice z x lo hi
    | some (.array n e) => (szOf P e).bind fun z => (agOf P e).bind fun ag => if 0 < z then some (.sliceA n z ag x lo hi) else none
    | _ => none
  | .fieldAddr s x f =>
    match P.underlying s with
    | some (.struct fields) => (fields[f]?).bind fun fd => (szOf P fd.type).bind fun z => if z = 0 then none else some (.fieldA fd.offset x)
    | _ => none
  | .field t x f =>
    match P.underlying t with
    | some (.struct fields) => (fields[f]?).bind fun fd => (szOf P fd.type).bind fun z => (agOf P fd.type).map fun ag => .field fd.offset (if ag then z else 1) ag x
    | _ => none
  | .indexAddr t x i =>
    match P.underlying t with
    | some (.slice e) => (szOf P e).map fun z => .idxS z x i
    | some (.array n e) => (szOf P e).map fun z => .idxA n z x i
    | _ => none
  | .index t x i =>
    match P.underlying t with
    | some (.array n e) => (szOf P e).bind fun z => (agOf P e).bind fun ag => if ag = true ∨ z = 1 then some (.idxV n z ag x i) else none
    | some .string => some (.pu (.idx t) [x, i])
    | _ => none
  | .extract x k => some (.extract k x)
  | .makeSlice t l c =>
    match P.underlying t with
    | some (.slice e) => (szOf P e).bind fun z => (agOf P e).bind fun ag => (zeroOf P e).bind fun zero => (byOf P e).bind fun y =>
      if zero.length = z ∧ 0 < z ∧ 0 < y then some (.makeSl z ag y zero l c) else none
    | _ => none
  | .makeFunc (.func f) first captured => if first.isEmpty then some (.clo f captured.toList) else none
  | .makeInterface t x => if isIface P t then none else some (.ifc t x)
  | .call c => compCall P o c
  | .makeMap _ none => some .makeMap
  | .lookup mt m k ok =>
    match P.underlying mt with
    | some (.map kt e) => (keyOf P kt).bind fun q => (zeroV P e).map fun z => .lookup q.1 q.2 z.1 z.2 ok m k
    | _ => none
  | .mapUpdate mt m k x | .insert mt m k x =>
    match P.underlying mt with
    | some (.map kt _) => (keyOf P kt).map fun q => .mapSet q.1 q.2 m k x
    | _ => none
  | .mapEntry mt m k =>
    match P.underlying mt with
    | some (.map kt e) => (keyOf P kt).bind fun q => (zeroV P e).map fun z => .mapEntry q.1 q.2 z.1 z.2 m k
    | _ => none
  | .entryStore _ m s x => some (.entryStore m s x)
  | _ => none

section
variable {P : Program}

theorem run_szOf {t : TypeId} {z : Nat} (h : szOf P t = some z) (w : World) : (sizeOf t).run P w = .ok z w := by
  unfold szOf at h
  obtain ⟨i, h1, h2⟩ := Option.map_eq_some_iff.1 h
  simp [sizeOf, typeInfo, h1, h2]

theorem run_agOf {t : TypeId} {b : Bool} (h : agOf P t = some b) (w : World) : (isAgg t).run P w = .ok b w := by
  unfold agOf at h
  unfold isAgg
  simp only [Sem.run_bind]
  split at h
  all_goals (try cases h)
  · rename_i hu; rw [run_underlying hu]; rfl
  · rename_i hu; rw [run_underlying hu]; rfl
  · rename_i d h1 h2 hu
    rw [run_underlying hu]
    simp only [Result.andThen_ok]
    rfl

theorem zeroOf_ok {t : TypeId} {zs : List Value} (h : zeroOf P t = some zs) : zs.all plain = true ∧ ∃ v, v.cells.toList = zs ∧ ∀ w, (zeroValue t).run P w = .ok v w := by
  unfold zeroOf at h
  obtain ⟨h1, h2⟩ := Option.filter_eq_some_iff.1 h
  obtain ⟨v, h3, h4⟩ := Option.map_eq_some_iff.1 h1
  obtain ⟨i, h5, h6⟩ := Option.bind_eq_some_iff.1 h3
  refine ⟨h2, v, h4, fun w => ?_⟩
  simp [zeroValue, typeInfo, h5, h6]

theorem run_loadVar {t : TypeId} {z : Nat} {ag : Bool} (hz : szOf P t = some z) (ha : agOf P t = some ag) (w : World) (a : Addr) (cs : List Value) (hl : cs.length = if ag then z else 1) (hr : Reads w a cs) :
    (loadVar t a).run P w = .ok (if ag then .agg cs.toArray else cs.getD 0 undef) w := by
  unfold loadVar
  simp only [Sem.run_bind, run_agOf ha, Result.andThen_ok]
  cases ag with
  | true =>
    simp only [if_true, Sem.run_bind, run_szOf hz, Result.andThen_ok]
    rw [run_loadCells P w a cs z (by simpa using hl) hr]
    rfl
  | false =>
    simp only [Bool.false_eq_true, if_false]
    simp at hl
    have h0 := hr 0 (by omega)
    rw [Addr.add_zero'] at h0
    rw [run_load, h0]
    simp [List.getD_eq_getElem?_getD, List.getElem?_eq_getElem (show 0 < cs.length by omega)]

end
end Go.AM

set_option linter.unusedVariables false
set_option linter.unusedSimpArgs false
namespace Go.AM

theorem fitsL_length : ∀ {ks : List SK} {vs : List Value}, fitsL ks vs = true → vs.length = ks.length
  | [], [], _ => rfl
  | [], _ :: _, h => by simp [fitsL] at h
  | _ :: _, [], h => by simp [fitsL] at h
  | k :: ks, v :: vs, h => by
    simp only [fitsL, Bool.and_eq_true] at h
    simp [fitsL_length h.2]

theorem fitsL_append : ∀ {ks ls : List SK} {vs : List Value}, fitsL (ks ++ ls) vs = true → fitsL ks (vs.take ks.length) = true ∧ fitsL ls (vs.drop ks.length) = true
  | [], ls, vs, h => by simpa using ⟨rfl, h⟩
  | k :: ks, ls, [], h => by simp [fitsL] at h
  | k :: ks, ls, v :: vs, h => by
    simp only [List.cons_append, fitsL, Bool.and_eq_true] at h
    have := fitsL_append h.2
    simp only [List.length_cons, List.take_succ_cons, List.drop_succ_cons, fitsL, h.1, this.1, this.2, Bool.and_self, and_self]

theorem eqL_append : ∀ {a b c d : List Value}, a.length = b.length → eqL (a ++ c) (b ++ d) = (eqL a b && eqL c d)
  | [], [], c, d, _ => by simp [eqL]
  | x :: a, y :: b, c, d, h => by
    simp at h
    simp [eqL, eqL_append h, Bool.and_assoc]
  | [], _ :: _, _, _, h => by simp at h
  | _ :: _, [], _, _, h => by simp at h

section
variable {P : Program} (w : World)

/-- x has these cells. -/
def HasCells (P : Program) (t : TypeId) (x : Value) (a : List Value) : Prop := (agOf P t = some true → x = .agg a.toArray) ∧ (agOf P t = some false → a = [x]) ∧ (agOf P t).isSome = true

theorem part_cells {t : TypeId} {xs : Array Value} {off n : Nat} (hz : szOf P t = some n) (hag : (agOf P t).isSome = true) (h1 : agOf P t = some false → n = 1) (hle : off + n ≤ xs.size) :
    ∃ x, (part t xs off).run P w = .ok x w ∧ HasCells P t x ((xs.toList.drop off).take n) := by
  unfold part
  cases hb : agOf P t with
  | none => rw [hb] at hag; cases hag
  | some b =>
    simp only [Sem.run_bind, run_agOf hb, Result.andThen_ok]
    cases b with
    | true =>
      refine ⟨.agg (xs.extract off (off + n)), by simp [Sem.run_bind, run_szOf hz], ?_, ?_, ?_⟩
      · intro _
        congr 1
        apply Array.ext'
        rw [Array.toList_extract]
        simp [List.extract]
      · intro h; rw [hb] at h; cases h
      · rw [hb]; rfl
    | false =>
      have hn := h1 hb
      subst hn
      have hlt : off < xs.size := by omega
      refine ⟨xs[off], by simp [hlt], ?_, ?_, by rw [hb]; rfl⟩
      · intro h; rw [hb] at h; cases h
      · intro _
        rw [List.drop_eq_getElem_cons (by simpa using hlt)]
        simp

theorem shape_one {d : Nat} {t : TypeId} {ks : List SK} (h : shapeAt P d t = some ks) : (agOf P t).isSome = true ∧ (agOf P t = some false → ks.length = 1) := by
  cases d with
  | zero => simp [shapeAt] at h
  | succ d =>
    unfold shapeAt at h
    unfold agOf
    split at h
    · rename_i hu; rw [hu]; cases h; exact ⟨rfl, fun _ => rfl⟩
    · rename_i hu; rw [hu]; cases h; exact ⟨rfl, fun _ => rfl⟩
    · rename_i hu; rw [hu]; cases h; exact ⟨rfl, fun _ => rfl⟩
    · rename_i hu; rw [hu]; exact ⟨rfl, fun h => by simp at h⟩
    · rename_i hu; rw [hu]; exact ⟨rfl, fun h => by simp at h⟩
    · cases h

theorem eqFields_run {d : Nat} {g : TypeId → Option (List SK)}
    (hg : ∀ t ks, g t = some ks → ((agOf P t).isSome = true ∧ (agOf P t = some false → ks.length = 1)) ∧ ∀ (a b : List Value) (x y : Value), fitsL ks a = true → fitsL ks b = true → HasCells P t x a → HasCells P t y b → (Op.equalIn d t x y).run P w = .ok (eqL a b) w) :
    ∀ (fs : List Field) (off : Nat) (ks : List SK) (xs ys : Array Value), shapeFs P g fs off = some ks → fitsL ks (xs.toList.drop off) = true → fitsL ks (ys.toList.drop off) = true →
      (Op.eqFields d xs ys fs).run P w = .ok (eqL (xs.toList.drop off) (ys.toList.drop off)) w
  | [], off, ks, xs, ys, h, h1, h2 => by
    simp [shapeFs] at h
    subst h
    cases hx : xs.toList.drop off with
    | cons _ _ => rw [hx] at h1; simp [fitsL] at h1
    | nil =>
      cases hy : ys.toList.drop off with
      | cons _ _ => rw [hy] at h2; simp [fitsL] at h2
      | nil => simp [Op.eqFields, eqL]
  | f :: fs, off, ks, xs, ys, h, h1, h2 => by
    unfold shapeFs at h
    split at h
    · rename_i hf
      obtain ⟨hn, rfl⟩ := hf
      obtain ⟨k1, hk, h⟩ := Option.bind_eq_some_iff.1 h
      split at h
      · rename_i hz
        obtain ⟨k2, hk2, rfl⟩ := Option.map_eq_some_iff.1 h
        obtain ⟨⟨g1, g2⟩, g3⟩ := hg _ _ hk
        obtain ⟨a1, a2⟩ := fitsL_append h1
        obtain ⟨b1, b2⟩ := fitsL_append h2
        have l1 := fitsL_length a1
        have l2 := fitsL_length b1
        simp only [List.length_take, List.length_drop, Array.length_toList] at l1 l2
        have hsz1 : f.offset + k1.length ≤ xs.size ∨ k1.length = 0 := by omega
        have hsz2 : f.offset + k1.length ≤ ys.size ∨ k1.length = 0 := by omega
        have hp : ∀ (zs : Array Value), (f.offset + k1.length ≤ zs.size ∨ k1.length = 0) → ∃ x, (part f.type zs f.offset).run P w = .ok x w ∧ HasCells P f.type x ((zs.toList.drop f.offset).take k1.length) := by
          intro zs hzs
          rcases hzs with hzs | hzs
          · exact part_cells w hz g1 g2 hzs
          · rw [hzs] at hz ⊢
            have hag : agOf P f.type = some true := by
              cases hb : agOf P f.type with
              | none => rw [hb] at g1; cases g1
              | some b =>
                cases b with
                | true => rfl
                | false => have := g2 hb; omega
            refine ⟨.agg #[], ?_, ?_, ?_, g1⟩
            · unfold part
              simp [Sem.run_bind, run_agOf hag, run_szOf hz, Nat.min_le_left]
            · intro _; simp
            · intro h; rw [hag] at h; cases h
        obtain ⟨x, px, cx⟩ := hp xs hsz1
        obtain ⟨y, py, cy⟩ := hp ys hsz2
        have he := g3 _ _ x y a1 b1 cx cy
        have hrec := eqFields_run hg fs (f.offset + k1.length) k2 xs ys hk2 (by rw [← List.drop_drop]; exact a2) (by rw [← List.drop_drop]; exact b2)
        have hsplit : eqL (xs.toList.drop f.offset) (ys.toList.drop f.offset) = (eqL ((xs.toList.drop f.offset).take k1.length) ((ys.toList.drop f.offset).take k1.length) && eqL (xs.toList.drop (f.offset + k1.length)) (ys.toList.drop (f.offset + k1.length))) := by
          rw [← List.drop_drop, ← List.drop_drop, ← eqL_append (by simp only [List.length_take, List.length_drop, Array.length_toList]; omega), List.take_append_drop, List.take_append_drop]
        rw [hsplit]
        simp only [Op.eqFields, hn, ne_eq, not_false_eq_true, if_true, Sem.run_bind, px, py, he, Result.andThen_ok]
        cases eqL ((xs.toList.drop f.offset).take k1.length) ((ys.toList.drop f.offset).take k1.length) with
        | false => simp
        | true => simpa using hrec
      · cases h
    · cases h

theorem eqItems_run {d : Nat} {e : TypeId} {ks : List SK} (hz : szOf P e = some ks.length) (hc : P.cellsOf e = ks.length) (hg1 : (agOf P e).isSome = true) (hg2 : agOf P e = some false → ks.length = 1)
    (hg : ∀ (a b : List Value) (x y : Value), fitsL ks a = true → fitsL ks b = true → HasCells P e x a → HasCells P e y b → (Op.equalIn d e x y).run P w = .ok (eqL a b) w) :
    ∀ (n i : Nat) (xs ys : Array Value), fitsL ((List.replicate n ks).flatten) (xs.toList.drop (i * ks.length)) = true → fitsL ((List.replicate n ks).flatten) (ys.toList.drop (i * ks.length)) = true →
      (Op.eqItems d e (P.cellsOf e) xs ys (List.range' i n)).run P w = .ok (eqL (xs.toList.drop (i * ks.length)) (ys.toList.drop (i * ks.length))) w
  | 0, i, xs, ys, h1, h2 => by
    cases hx : xs.toList.drop (i * ks.length) with
    | cons _ _ => rw [hx] at h1; simp [fitsL] at h1
    | nil =>
      cases hy : ys.toList.drop (i * ks.length) with
      | cons _ _ => rw [hy] at h2; simp [fitsL] at h2
      | nil => simp [Op.eqItems, eqL]
  | n + 1, i, xs, ys, h1, h2 => by
    rw [List.replicate_succ, List.flatten_cons] at h1 h2
    obtain ⟨a1, a2⟩ := fitsL_append h1
    obtain ⟨b1, b2⟩ := fitsL_append h2
    have l1 := fitsL_length a1
    have l2 := fitsL_length b1
    simp only [List.length_take, List.length_drop, Array.length_toList] at l1 l2
    have hp : ∀ (zs : Array Value), (i * ks.length + ks.length ≤ zs.size ∨ ks.length = 0) → ∃ x, (part e zs (i * ks.length)).run P w = .ok x w ∧ HasCells P e x ((zs.toList.drop (i * ks.length)).take ks.length) := by
      intro zs hzs
      rcases hzs with hzs | hzs
      · exact part_cells w hz hg1 hg2 hzs
      · have hag : agOf P e = some true := by
          cases hb : agOf P e with
          | none => rw [hb] at hg1; cases hg1
          | some b =>
            cases b with
            | true => rfl
            | false => have := hg2 hb; omega
        rw [hzs] at hz ⊢
        refine ⟨.agg #[], ?_, ?_, ?_, hg1⟩
        · unfold part
          simp [Sem.run_bind, run_agOf hag, run_szOf hz, Nat.min_le_left]
        · intro _; simp
        · intro h; rw [hag] at h; cases h
    obtain ⟨x, px, cx⟩ := hp xs (by omega)
    obtain ⟨y, py, cy⟩ := hp ys (by omega)
    have he := hg _ _ x y a1 b1 cx cy
    have hmul : (i + 1) * ks.length = i * ks.length + ks.length := by rw [Nat.add_mul, Nat.one_mul]
    have hrec := eqItems_run hz hc hg1 hg2 hg n (i + 1) xs ys (by rw [hmul, ← List.drop_drop]; exact a2) (by rw [hmul, ← List.drop_drop]; exact b2)
    have hsplit : eqL (xs.toList.drop (i * ks.length)) (ys.toList.drop (i * ks.length)) = (eqL ((xs.toList.drop (i * ks.length)).take ks.length) ((ys.toList.drop (i * ks.length)).take ks.length) && eqL (xs.toList.drop ((i + 1) * ks.length)) (ys.toList.drop ((i + 1) * ks.length))) := by
      rw [hmul, ← List.drop_drop, ← List.drop_drop, ← eqL_append (by simp only [List.length_take, List.length_drop, Array.length_toList]; omega), List.take_append_drop, List.take_append_drop]
    rw [hsplit, List.range'_succ]
    rw [hc] at hrec ⊢
    simp only [Op.eqItems, Sem.run_bind, px, py, he, Result.andThen_ok]
    cases eqL ((xs.toList.drop (i * ks.length)).take ks.length) ((ys.toList.drop (i * ks.length)).take ks.length) with
    | false => simp
    | true => simpa using hrec

theorem beq_bytes (a b : ByteArray) : (a.toList == b.toList) = decide (a = b) := by
  rw [← beq_toListBytes]
  by_cases e : a = b
  · subst e; simp [beq_toListBytes]
  · rw [decide_eq_false e, beq_toListBytes]
    apply beq_eq_false_iff_ne.2
    intro h
    apply e
    rw [ByteArray.toList_eq, ByteArray.toList_eq] at h
    apply ByteArray.ext
    exact Array.ext' h

theorem equalIn_run : ∀ (d e : Nat) (t : TypeId) (ks : List SK), shapeAt P d t = some ks → ∀ (a b : List Value) (x y : Value), fitsL ks a = true → fitsL ks b = true → HasCells P t x a → HasCells P t y b →
    (Op.equalIn (e + d) t x y).run P w = .ok (eqL a b) w
  | 0, e, t, ks, h => by simp [shapeAt] at h
  | d + 1, e, t, ks, h => by
    intro a b x y ha hb hx hy
    have ih := fun t ks h => equalIn_run d e t ks h
    have hone : ∀ {k : SK}, agOf P t = some false → ks = [k] → a = [x] ∧ b = [y] ∧ k.fits x = true ∧ k.fits y = true := by
      intro k hag hks
      have e1 := hx.2.1 hag
      have e2 := hy.2.1 hag
      subst hks
      rw [e1] at ha
      rw [e2] at hb
      simp only [fitsL, Bool.and_true] at ha hb
      exact ⟨e1, e2, ha, hb⟩
    rw [show e + (d + 1) = (e + d) + 1 from rfl]
    unfold shapeAt at h
    split at h
    · rename_i k hu
      cases h
      obtain ⟨rfl, rfl, f1, f2⟩ := hone (k := .int k) (by unfold agOf; rw [hu]) rfl
      cases x <;> simp only [SK.fits] at f1 <;> try cases f1
      cases y <;> simp only [SK.fits] at f2 <;> try cases f2
      obtain rfl := of_decide_eq_true f1
      obtain rfl := of_decide_eq_true f2
      rw [run_equalIn_int w (e + d) t _ _ _ _ hu]
      simp [eqL, eqV]
      first | done | rfl
    · rename_i hu
      cases h
      obtain ⟨rfl, rfl, f1, f2⟩ := hone (k := .bool) (by unfold agOf; rw [hu]) rfl
      cases x <;> simp only [SK.fits] at f1 <;> try cases f1
      cases y <;> simp only [SK.fits] at f2 <;> try cases f2
      rw [run_equalIn_bool w (e + d) t _ _ hu]
      simp [eqL, eqV]
    · rename_i hu
      cases h
      obtain ⟨rfl, rfl, f1, f2⟩ := hone (k := .str) (by unfold agOf; rw [hu]) rfl
      cases x <;> simp only [SK.fits] at f1 <;> try cases f1
      cases y <;> simp only [SK.fits] at f2 <;> try cases f2
      rw [run_equalIn_string w (e + d) t _ _ hu, beq_bytes]
      simp [eqL, eqV]
    · rename_i n el hu
      obtain ⟨k1, hk, h⟩ := Option.bind_eq_some_iff.1 h
      split at h
      · rename_i hz
        cases h
        have hag : agOf P t = some true := by unfold agOf; rw [hu]
        obtain rfl := hx.1 hag
        obtain rfl := hy.1 hag
        have hz' := hz
        unfold szOf at hz'
        obtain ⟨i, hi, hi2⟩ := Option.map_eq_some_iff.1 hz'
        have hcell : P.cellsOf el = k1.length := by simp [Program.cellsOf, hi, hi2]
        obtain ⟨s1, s2⟩ := shape_one hk
        rw [run_equalIn_array w (e + d) _ _ hu hi, List.range_eq_range']
        have := eqItems_run w hz hcell s1 s2 (ih el k1 hk) n 0 a.toArray b.toArray (by simpa using ha) (by simpa using hb)
        simpa using this
      · cases h
    · rename_i fs hu
      split at h
      · cases h
      · rename_i hst
        have hag : agOf P t = some true := by unfold agOf; rw [hu]
        obtain rfl := hx.1 hag
        obtain rfl := hy.1 hag
        have hfs : P.fieldsOf t = fs := by simp [Program.fieldsOf, hu]
        rw [run_equalIn_struct w (e + d) t _ _ (by rw [hfs]; exact hu) (by simpa using hst), hfs]
        have := eqFields_run w (d := e + d) (g := shapeAt P d) (fun t ks hk => ⟨shape_one hk, ih t ks hk⟩) fs.toList 0 ks a.toArray b.toArray h (by simpa using ha) (by simpa using hb)
        simpa using this
    · cases h

end
end Go.AM

set_option linter.unusedVariables false
set_option linter.unusedSimpArgs false
namespace Go.AM

def isStr (P : Program) (t : TypeId) : Bool := match P.underlying t with | some .string => true | _ => false
def isBool (P : Program) (t : TypeId) : Bool := match P.underlying t with | some .bool => true | _ => false

def normPu (P : Program) : Pu → Option NPu
  | .bin op t x y =>
    if isInt P t || isStr P t then some (.ar op)
    else if isBool P t then match op with
      | .eql => some (.beq false)
      | .neq => some (.beq true)
      | _ => none
    else none
  | .un op => some (.un op)
  | .conv s d => match P.underlying d with
    | some (.int k) => if isInt P s then some (.conv k) else none
    | some .string => if isStr P s then some .convS else none
    | _ => none
  | .idx t => if isStr P t then some .idx else none
  | .len ats t => match ats[0]? with
    | some s => if isStr P s then some .len else none
    | none => none
  | .max _ _ => some .max
  | .min _ _ => some .min
  | .slS t lo hi => if isStr P t then some (.slS lo hi) else none
  | _ => none

def normOp (P : Program) : AOp → AOp
  | .pu p xs => match normPu P p with
    | some q => .pu (.n q) xs
    | none => .pu p xs
  | op => op

section
variable {P : Program}

theorem pureOf_underlying {t : TypeId} {d : TypeDesc} (h : P.underlying t = some d) : pureOf P (underlying t) = some d := by
  unfold underlying
  rw [pureOf_bind]
  simp only [program, pureOf, Option.bind_some, h]
  rfl

theorem isStr_ok {t : TypeId} (h : isStr P t = true) : P.underlying t = some .string := by
  unfold isStr at h; split at h <;> first | assumption | cases h
theorem isBool_ok {t : TypeId} (h : isBool P t = true) : P.underlying t = some .bool := by
  unfold isBool at h; split at h <;> first | assumption | cases h

theorem pureOf_pure {α : Type} (a : α) : pureOf P (pure a) = some a := rfl

theorem guard_int {op : BinOp} {t : TypeId} {x y : Operand} {k k' : IntKind} {a b : Int} : pureOf P (eqGuard op t x y (.int k a) (.int k' b)) = some () := by cases op <;> rfl
theorem guard_str {op : BinOp} {t : TypeId} {x y : Operand} {a b : ByteArray} : pureOf P (eqGuard op t x y (.string a) (.string b)) = some () := by cases op <;> rfl
theorem guard_bool {op : BinOp} {t : TypeId} {x y : Operand} {a b : Bool} : pureOf P (eqGuard op t x y (.bool a) (.bool b)) = some () := by cases op <;> rfl

theorem toList_beq (x y : ByteArray) : (x.toList == y.toList) = decide (x = y) := by
  by_cases e : x = y
  · subst e; simp
  · rw [decide_eq_false e, ByteArray.toList_eq, ByteArray.toList_eq]
    apply Bool.eq_false_iff.2
    intro h
    refine e ?_
    have : x.data.toList = y.data.toList := by simpa using h
    have h2 := Array.toList_inj.1 this
    cases x; cases y
    cases h2
    rfl

theorem int_ok {op : BinOp} {t : TypeId} {k k' : IntKind} {a b : Int} {v : Value} (h : intBin op k a k' b = some v) : pureOf P (binOp op t (.int k a) (.int k' b)) = some v := by
  cases op <;> simp only [intBin] at h <;> split at h <;> (try cases h) <;> rename_i hc
  all_goals first
    | (obtain ⟨rfl, hb⟩ := hc; simp [binOp, Op.intArith, Op.intDiv, Op.intBits, Op.intCmp, pureOf_pure, hb]; done)
    | (subst hc; simp [binOp, Op.intArith, Op.intDiv, Op.intBits, Op.intCmp, pureOf_pure]; done)
    | (simp [binOp, Op.shift, hc, pureOf_pure]; done)
    | (subst hc; simp [binOp, Op.intArith, Op.intDiv, Op.intBits, Op.intCmp, pureOf_pure]; rfl)

theorem str_ok {op : BinOp} {t : TypeId} {a b : ByteArray} {v : Value} (h : strBin op a b = some v) : pureOf P (binOp op t (.string a) (.string b)) = some v := by
  cases op <;> simp only [strBin] at h <;> (try cases h)
  case add =>
    split at h
    · rename_i hc
      cases h
      have : ¬ (((a.size + b.size : Nat) : Int) > IntKind.i64.max) := by
        have : IntKind.i64.max = 9223372036854775807 := rfl
        omega
      simp only [binOp, Op.stringOp, if_neg this, pureOf_pure]
    · cases h
  all_goals simp [binOp, Op.stringOp, toList_beq, pureOf_pure]

theorem bound_ok {k : IntKind} {i : Int} {y : Nat} {code : BoundsCode} (h : 0 ≤ i ∧ i ≤ y) : pureOf P (Instr.sliceBound (.int k i) y code) = some i.toNat := by
  unfold Instr.sliceBound
  rw [pureOf_bind]
  simp only [asIntOf, pureOf_pure, Option.bind_some, if_pos h]

theorem slS_ok {t : TypeId} {s : ByteArray} {lo hi : Option Value} {l h : Int} {v : Value} (ht : P.underlying t = some .string) (hv : strSl s l h = some v)
    (hlo : lo = none ∧ l = 0 ∨ ∃ k, lo = some (.int k l)) (hhi : hi = none ∧ h = s.size ∨ ∃ k, hi = some (.int k h)) : pureOf P (Instr.sliceAt t (.string s) lo hi none) = some v := by
  unfold strSl at hv
  split at hv
  · rename_i hc
    cases hv
    unfold Instr.sliceAt
    rw [pureOf_bind, pureOf_underlying ht]
    simp only [Option.bind_some]
    unfold Instr.slice
    rw [pureOf_bind, pureOf_underlying ht]
    simp only [Option.bind_some, Option.isSome_none, Bool.false_eq_true, if_false]
    unfold Instr.sliceBounds
    rcases hlo with ⟨rfl, rfl⟩ | ⟨k, rfl⟩
    · rcases hhi with ⟨rfl, rfl⟩ | ⟨k', rfl⟩
      · simp only [pureOf_bind, pureOf_pure, Option.bind_some, Int.toNat_natCast, Int.toNat_zero]
      · simp only [pureOf_bind, pureOf_pure, Option.bind_some, Option.isSome_none, Bool.false_eq_true, if_false, Int.toNat_natCast, Int.toNat_zero, bound_ok (P := P) (k := k') (i := h) (y := s.size) (code := .sliceAlen) ⟨by omega, by omega⟩]
    · rcases hhi with ⟨rfl, rfl⟩ | ⟨k', rfl⟩
      · simp only [pureOf_bind, pureOf_pure, Option.bind_some, Option.isSome_none, Bool.false_eq_true, if_false, Int.toNat_natCast, Int.toNat_zero, bound_ok (P := P) (k := k) (i := l) (y := s.size) (code := .sliceB) ⟨by omega, by omega⟩]
      · simp only [pureOf_bind, pureOf_pure, Option.bind_some, Option.isSome_none, Bool.false_eq_true, if_false, Int.toNat_natCast, Int.toNat_zero, bound_ok (P := P) (k := k') (i := h) (y := s.size) (code := .sliceAlen) ⟨by omega, by omega⟩, bound_ok (P := P) (k := k) (i := l) (y := h.toNat) (code := .sliceB) ⟨by omega, by omega⟩]
  · cases hv

theorem npu_ok {p : Pu} {q : NPu} {vs : List Value} {v : Value} (hn : normPu P p = some q) (hv : npu q vs = some v) : pureOf P (p.run vs) = some v := by
  cases p with
  | n q => simp [normPu] at hn
  | field t f => simp [normPu] at hn
  | bin op t x y =>
    simp only [normPu] at hn
    split at hn
    · cases hn
      unfold npu at hv
      split at hv <;> (try cases hv) <;> rename_i hq <;> (try cases hq)
      · simp only [Pu.run, pureOf_bind, guard_int, Option.bind_some]
        exact int_ok hv
      · simp only [Pu.run, pureOf_bind, guard_str, Option.bind_some]
        exact str_ok hv
    · split at hn
      · rename_i hb
        have hb := isBool_ok hb
        have heq : ∀ a b : Bool, pureOf P (Op.equal t (.bool a) (.bool b)) = some (a == b) := by
          intro a b
          unfold Op.equal
          rw [show Op.maxDepth = 9999 + 1 from rfl, Op.equalIn, pureOf_bind, pureOf_underlying hb]
          rfl
        cases op <;> simp only at hn <;> cases hn <;> unfold npu at hv <;> split at hv <;> (try cases hv) <;> rename_i hq <;> (try cases hq)
        · simp only [Pu.run, pureOf_bind, guard_bool, Option.bind_some, binOp, heq, pureOf_pure]
          simp
        · simp only [Pu.run, pureOf_bind, guard_bool, Option.bind_some, binOp, heq, pureOf_pure]
          simp
      · cases hn
  | un op =>
    simp only [normPu] at hn
    cases hn
    unfold npu at hv
    split at hv <;> (try cases hv) <;> rename_i hq <;> (try cases hq)
    · rfl
    · rfl
  | conv s d =>
    simp only [normPu] at hn
    split at hn
    · rename_i k hd
      split at hn
      · rename_i hs
        cases hn
        unfold npu at hv
        split at hv <;> (try cases hv) <;> rename_i hq <;> (try cases hq)
        unfold isInt at hs
        split at hs
        · rename_i k2 hk2
          simp only [Pu.run, convert, pureOf_bind, pureOf_underlying hk2, pureOf_underlying hd, Option.bind_some]
          rfl
        · cases hs
      · cases hn
    · rename_i hd
      split at hn
      · rename_i hs
        have hs := isStr_ok hs
        cases hn
        unfold npu at hv
        split at hv <;> (try cases hv) <;> rename_i hq <;> (try cases hq)
        simp only [Pu.run, convert, pureOf_bind, pureOf_underlying hs, pureOf_underlying hd, Option.bind_some]
        rfl
      · cases hn
    · cases hn
  | idx t =>
    simp only [normPu] at hn
    split at hn
    · rename_i hs
      have hs := isStr_ok hs
      cases hn
      unfold npu at hv
      split at hv <;> (try cases hv) <;> rename_i hq <;> (try cases hq)
      split at hv
      · rename_i s k i h0
        obtain ⟨b, h1, rfl⟩ := Option.map_eq_some_iff.1 hv
        have : s[i.toNat]? = some b := by
          obtain ⟨h2, h3⟩ := Array.getElem?_eq_some_iff.1 h1
          have h2' : i.toNat < s.size := h2
          rw [getElem?_pos s i.toNat h2']
          exact congrArg some h3
        simp only [Pu.run, Instr.index, pureOf_bind, asIntOf, pureOf_pure, Option.bind_some, pureOf_underlying hs, if_pos h0, this]
      · cases hv
    · cases hn
  | len ats t =>
    simp only [normPu] at hn
    split at hn
    · rename_i s0 h0
      split at hn
      · rename_i hs
        have hs := isStr_ok hs
        cases hn
        unfold npu at hv
        split at hv <;> (try cases hv) <;> rename_i hq <;> (try cases hq)
        rename_i s1
        have h1 : (#[Value.string s1] : Array Value)[0]? = some (.string s1) := rfl
        simp only [Pu.run, Builtin.len_, h0, h1, pureOf_bind, pureOf_underlying hs, Option.bind_some]
        rfl
      · cases hn
    · cases hn
  | max ats t =>
    simp only [normPu] at hn
    cases hn
    unfold npu at hv
    split at hv <;> (try cases hv) <;> rename_i hq <;> (try cases hq)
    rfl
  | min ats t =>
    simp only [normPu] at hn
    cases hn
    unfold npu at hv
    split at hv <;> (try cases hv) <;> rename_i hq <;> (try cases hq)
    rfl
  | slS t lo hi =>
    simp only [normPu] at hn
    split at hn
    · rename_i hs
      have hs := isStr_ok hs
      cases hn
      unfold npu at hv
      split at hv <;> (try cases hv) <;> rename_i hq <;> (try cases hq)
      · exact slS_ok hs hv (.inl ⟨rfl, rfl⟩) (.inl ⟨rfl, rfl⟩)
      · exact slS_ok hs hv (.inr ⟨_, rfl⟩) (.inl ⟨rfl, rfl⟩)
      · exact slS_ok hs hv (.inl ⟨rfl, rfl⟩) (.inr ⟨_, rfl⟩)
      · exact slS_ok hs hv (.inr ⟨_, rfl⟩) (.inr ⟨_, rfl⟩)
    · cases hn

theorem normOp_ok {env : Env} {slot : Option Nat} {op : AOp} {st : St} {r : V × Heap} (h : stepOp P env slot (normOp P op) st = some r) : stepOp P env slot op st = some r := by
  unfold normOp at h
  split at h
  · split at h
    · rename_i p xs q hq
      simp only [stepOp] at h ⊢
      obtain ⟨vs, h1, h⟩ := Option.bind_eq_some_iff.1 h
      obtain ⟨v, h2, h⟩ := Option.bind_eq_some_iff.1 h
      rw [h1, Option.bind_some]
      have : npu q vs = some v := by
        simp only [Pu.run] at h2
        split at h2
        · rename_i hu; rw [hu]; exact h2
        · cases h2
      rw [npu_ok hq this, Option.bind_some]
      exact h
    · exact h
  · exact h

end
end Go.AM

set_option linter.unusedVariables false
set_option linter.unusedSimpArgs false
namespace Go.AM

/-- What is owed of one operation. -/
def StepOK (P : Program) (base : Nat) (X : Nat → Prop) (o : Oper) (a : Act) (w : World) (H : Heap) (G : List Nat) (v : V) (H' : Heap) : Prop :=
  ∀ (next : Act → World → Prop) (Q : Exit → Act → World → Prop),
    (∀ x w' G', Ext w H G w' H' G' → SimH base X w' H' G' → RV w' base (Mof X H' G') H' G' v x → next (a.put o.dst x) w') → o.wp P a w next Q

section
variable {P : Program} {base : Nat} {X : Nat → Prop} {o : Oper} {a : Act} {w : World} {H H' : Heap} {G : List Nat} {v : V} {t : Nat → V}

theorem StepOK.value {x : Value} (hS : SimH base X w H G) (hr : (execOp a.eval o).run P w = .ok (.value x) w) (hv : RV w base (Mof X H G) H G v x) : StepOK P base X o a w H G v H := by
  intro next Q hn
  unfold Oper.wp
  rw [hr]
  exact hn x w G (Ext.refl w H G) hS hv

theorem ok_mv {x : Operand} (hS : SimH base X w H G) (hT : TV w base (Mof X H G) H G t a.tmps) (ho : o.op = .move x ∨ o.op = .assign x) : StepOK P base X o a w H G (St.ev ⟨t, H⟩ x) H := by
  refine StepOK.value (x := a.eval x) hS ?_ (ev_ok hT x)
  rcases ho with ho | ho <;> simp [execOp, ho]

theorem ok_pick {c x y : Operand} {b : Bool} (hS : SimH base X w H G) (hT : TV w base (Mof X H G) H G t a.tmps) (ho : o.op = .pick c x y) (hc : St.ev ⟨t, H⟩ c = .i (.s (.bool b))) :
    StepOK P base X o a w H G (if b then St.ev ⟨t, H⟩ x else St.ev ⟨t, H⟩ y) H := by
  have h := ev_ok (h := H) hT c
  rw [hc] at h
  have e : a.eval c = .bool b := by
    generalize a.eval c = u at h
    cases h with
    | i hi => cases hi; rfl
  refine StepOK.value (x := if b then a.eval x else a.eval y) hS ?_ ?_
  · simp [execOp, ho, e, asBool]
  · cases b
    · simpa using ev_ok hT y
    · simpa using ev_ok hT x

theorem evL_ok (hT : TV w base (Mof X H G) H G t a.tmps) {xs : List Operand} {vs : List Value} (h : (xs.map (St.ev ⟨t, H⟩)).mapM toValV = some vs) : xs.map a.eval = vs :=
  RVL.toVal (evs_ok hT xs) h

theorem ok_pure {s : Sem Value} {u : Value} {x : I} (hS : SimH base X w H G) (he : execOp a.eval o = (do pure (.value (← s)))) (hp : pureOf P s = some u) (hx : ofVal u = some x) : StepOK P base X o a w H G (.i x) H := by
  refine StepOK.value (x := u) hS ?_ (.i (ofVal_ok hx))
  rw [he]
  simp [pureOf_run P s u hp w]

theorem ok_extract {k : Nat} {x : Operand} (hS : SimH base X w H G) (hT : TV w base (Mof X H G) H G t a.tmps) (ho : o.op = .extract x k)
    (hv : stepExtract k (St.ev ⟨t, H⟩ x) = some v) : StepOK P base X o a w H G v H := by
  have h := ev_ok (h := H) hT x
  unfold stepExtract at hv
  split at hv
  · rename_i vs he
    rw [he] at h
    generalize hu : a.eval x = u at h
    cases h with
    | tup hl =>
      rename_i xs
      obtain ⟨y, h1, h2⟩ := hl.get k v hv
      refine StepOK.value (x := y) hS ?_ h2
      have : xs[k]? = some y := by simpa using h1
      simp [execOp, ho, hu, Instr.extract, this]
  · rename_i f vs he
    rw [he] at h
    generalize hu : a.eval x = u at h
    obtain ⟨z, hz, rfl⟩ := Option.map_eq_some_iff.1 hv
    cases h with
    | i hi =>
      cases hi with
      | tup hl =>
        rename_i xs
        obtain ⟨y, h1, h2⟩ := hl.get k z hz
        refine StepOK.value (x := y) hS ?_ (.i h2)
        have : xs[k]? = some y := by simpa using h1
        simp [execOp, ho, hu, Instr.extract, this]
  · cases hv

theorem ok_nilChk {x : Operand} (hS : SimH base X w H G) (hT : TV w base (Mof X H G) H G t a.tmps) (ho : o.op = .nilCheck x)
    (hv : stepNil (St.ev ⟨t, H⟩ x) = some v) : StepOK P base X o a w H G v H := by
  have h := ev_ok (h := H) hT x
  unfold stepNil at hv
  have e : ∃ p, a.eval x = .pointer (some p) ∧ v = St.ev ⟨t, H⟩ x := by
    split at hv
    · rename_i he
      cases hv
      rw [he] at h ⊢
      generalize hu : a.eval x = u at h ⊢
      cases h; exact ⟨_, rfl, rfl⟩
    · rename_i he
      cases hv
      rw [he] at h ⊢
      generalize hu : a.eval x = u at h ⊢
      cases h with
      | i hi => cases hi; exact ⟨_, rfl, rfl⟩
    · cases hv
  obtain ⟨p, e1, e2⟩ := e
  rw [e2]
  refine StepOK.value (x := a.eval x) hS ?_ h
  simp [execOp, ho, e1]

theorem Reads.sub' {w : World} {a : Addr} {cs : List Value} (h : Reads w a cs) (off n : Nat) (hn : off + n ≤ cs.length) : Reads w (a.add off) ((cs.drop off).take n) := by
  rcases Nat.eq_zero_or_pos n with rfl | hp
  · intro j hj; simp at hj
  · exact h.sub off n hn hp

theorem field_run {s : TypeId} {fields : Array Field} {k : Nat} {fd : Field} {z : Nat} (hu : P.underlying s = some (.struct fields)) (hf : fields[k]? = some fd) (hz : szOf P fd.type = some z) (hne : z ≠ 0) (w : World) (p : Addr) :
    (Instr.fieldAt s (.pointer (some p)) k).run P w = .ok (.pointer (some (p.add fd.offset))) w := by
  simp [Instr.fieldAt, run_underlying hu, hf, Instr.sureAddr, fieldPlace, run_szOf hz, hne]

theorem ok_fieldA {s : TypeId} {fields : Array Field} {k : Nat} {fd : Field} {z : Nat} {x : Operand} (hS : SimH base X w H G) (hT : TV w base (Mof X H G) H G t a.tmps) (ho : o.op = .fieldAddr s x k)
    (hu : P.underlying s = some (.struct fields)) (hf : fields[k]? = some fd) (hz : szOf P fd.type = some z) (hne : z ≠ 0)
    (hv : stepField fd.offset (St.ev ⟨t, H⟩ x) = some v) :
    StepOK P base X o a w H G v H := by
  have h := ev_ok (h := H) hT x
  unfold stepField at hv
  split at hv
  · rename_i b g off he
    cases hv
    rw [he] at h
    generalize hu2 : a.eval x = u at h
    cases h with
    | ptr hr hn hval =>
      rename_i p
      refine StepOK.value (x := .pointer (some (p.add fd.offset))) hS ?_ (.ptr hr hn ?_)
      · simp [execOp, ho, hu2, field_run hu hf hz hne]
      · intro cs hc
        rw [hval cs hc, Addr.add_lit]
  · rename_i f cs he
    split at hv
    · rename_i hlt
      cases hv
      rw [he] at h
      generalize hu2 : a.eval x = u at h
      cases h with
      | i hi =>
        cases hi with
        | ip hm hb hr hl =>
          rename_i p xs
          refine StepOK.value (x := .pointer (some (p.add fd.offset))) hS ?_ (.i (.ip (xs := xs.drop fd.offset) ?_ ?_ ?_ ?_))
          · simp [execOp, ho, hu2, field_run hu hf hz hne]
          · rw [add_block]; exact hm
          · rw [add_block]; exact hb
          · exact hr.drop _ (by rw [hl.length]; exact hlt)
          · exact hl.drop _
    · cases hv
  · cases hv

theorem run_idx_slice {ty e : TypeId} {z : Nat} (hu : P.underlying ty = some (.slice e)) (hz : szOf P e = some z) (w : World) (p : Addr) (len cap : Nat) (k : IntKind) (i : Int) (h0 : 0 ≤ i) (h1 : i < len) :
    (Instr.indexAt ty (.slice (some p) len cap) (.int k i)).run P w = .ok (.pointer (some (p.add (i.toNat * z)))) w := by
  simp [Instr.indexAt, run_underlying hu, asIntOf, h0, h1, run_szOf hz]

theorem run_idx_array {ty e : TypeId} {n z : Nat} (hu : P.underlying ty = some (.array n e)) (hz : szOf P e = some z) (w : World) (p : Addr) (k : IntKind) (i : Int) (h0 : 0 ≤ i) (h1 : i < n) :
    (Instr.indexAt ty (.pointer (some p)) (.int k i)).run P w = .ok (.pointer (some (p.add (i.toNat * z)))) w := by
  simp [Instr.indexAt, run_underlying hu, asIntOf, h0, h1, run_szOf hz, Instr.sureAddr]

theorem ok_idxS {ty e : TypeId} {z : Nat} {x i : Operand} (hS : SimH base X w H G) (hT : TV w base (Mof X H G) H G t a.tmps) (ho : o.op = .indexAddr ty x i)
    (hu : P.underlying ty = some (.slice e)) (hz : szOf P e = some z)
    {n : Int} (hn : intV (St.ev ⟨t, H⟩ i) = some n) (hv2 : stepIdxS z H n (St.ev ⟨t, H⟩ x) = some v) :
    StepOK P base X o a w H G v H := by
  have h := ev_ok (h := H) hT x
  unfold stepIdxS at hv2
  obtain ⟨ki, hi⟩ := intV_ok (ev_ok (h := H) hT i) hn
  split at hv2
  · rename_i b g off z' ag len he
    split at hv2
    · rename_i hc
      obtain ⟨rfl, h0, h1⟩ := hc
      obtain ⟨cs, hcs, rfl⟩ := Option.map_eq_some_iff.1 hv2
      rw [he] at h
      generalize hu2 : a.eval x = u at h
      cases h with
      | hnil => omega
      | hsl hr hn hzz hl hval =>
        rename_i cap p
        refine StepOK.value (x := .pointer (some (p.add (n.toNat * z')))) hS ?_ (.ptr hr hn ?_)
        · simp [execOp, ho, hu2, hi, run_idx_slice hu hz w p len cap ki n h0 h1]
        · intro cs hc
          have := (hval cs hc).1 (.inl (by omega))
          rw [this, Addr.add_lit]
    · cases hv2
  · rename_i f z' xs he
    split at hv2
    · rename_i hc
      obtain ⟨rfl, h0⟩ := hc
      obtain ⟨y, hy, rfl⟩ := Option.map_eq_some_iff.1 hv2
      have hlt := (List.getElem?_eq_some_iff.1 hy).1
      rw [he] at h
      generalize hu2 : a.eval x = u at h
      cases h with
      | i hi2 =>
        cases hi2 with
        | sl0 => simp at hlt
        | sl hne hcap hm hb hr hl =>
          rename_i p cap cs
          have hlen := hl.length
          have hrow := hl.get n.toNat y hy
          have hle : n.toNat * z' + z' ≤ cs.length := by
            have : (n.toNat + 1) * z' ≤ xs.length * z' := Nat.mul_le_mul_right _ hlt
            rw [Nat.add_mul] at this; omega
          refine StepOK.value (x := .pointer (some (p.add (n.toNat * z')))) hS ?_ (.i (.ip (xs := (cs.drop (n.toNat * z')).take z') ?_ ?_ ?_ hrow))
          · simp [execOp, ho, hu2, hi, run_idx_slice hu hz w p xs.length cap ki n h0 (by omega)]
          · rw [add_block]; exact hm
          · rw [add_block]; exact hb
          · exact hr.sub' _ _ hle
    · cases hv2
  · cases hv2

theorem ok_idxA {ty e : TypeId} {n z : Nat} {x i : Operand} (hS : SimH base X w H G) (hT : TV w base (Mof X H G) H G t a.tmps) (ho : o.op = .indexAddr ty x i)
    (hu : P.underlying ty = some (.array n e)) (hz : szOf P e = some z)
    {k : Int} (hk : intV (St.ev ⟨t, H⟩ i) = some k) (h0 : 0 ≤ k) (h1 : k < n) (hv : stepIdxA z k.toNat (St.ev ⟨t, H⟩ x) = some v) :
    StepOK P base X o a w H G v H := by
  have h := ev_ok (h := H) hT x
  obtain ⟨ki, hi⟩ := intV_ok (ev_ok (h := H) hT i) hk
  unfold stepIdxA at hv
  · split at hv
    · rename_i b g off he
      cases hv
      rw [he] at h
      generalize hu2 : a.eval x = u at h
      cases h with
      | ptr hr hn hval =>
        rename_i p
        refine StepOK.value (x := .pointer (some (p.add (k.toNat * z)))) hS ?_ (.ptr hr hn ?_)
        · simp [execOp, ho, hu2, hi, run_idx_array hu hz w p ki k h0 h1]
        · intro cs hc
          rw [hval cs hc, Addr.add_lit]
    · rename_i f cs he
      split at hv
      · rename_i hlt
        cases hv
        rw [he] at h
        generalize hu2 : a.eval x = u at h
        cases h with
        | i hi2 =>
          cases hi2 with
          | ip hm hb hr hl =>
            rename_i p xs
            refine StepOK.value (x := .pointer (some (p.add (k.toNat * z)))) hS ?_ (.i (.ip (xs := xs.drop (k.toNat * z)) ?_ ?_ ?_ ?_))
            · simp [execOp, ho, hu2, hi, run_idx_array hu hz w p ki k h0 h1]
            · rw [add_block]; exact hm
            · rw [add_block]; exact hb
            · exact hr.drop _ (by rw [hl.length]; exact hlt)
            · exact hl.drop _
      · cases hv
    · cases hv

/-- What a good reference of cells says. -/
theorem SimH.at {b g : Nat} {cs : List V} (hS : SimH base X w H G) (hc : cellsAt H b g = some cs) :
    ∃ arr ty, G[b]? = some (G.getD b 0) ∧ w.heap[G.getD b 0]? = some (.cells arr ty (0, 0)) ∧ g = cs.length ∧ cs.length ≤ arr.size ∧ RVL w base (Mof X H G) H G cs (arr.toList.take cs.length) ∧ (∀ y, y ∈ cs → y.one = true) ∧
      H[b]? = some (.cells cs) := by
  obtain ⟨h1, h2⟩ := cellsAt_some hc
  obtain ⟨k, g1, g2, g3, g4, arr, ty, e1, e2, e3, e4⟩ := hS.block b _ h1 rfl
  rw [getD_of g1]
  exact ⟨arr, ty, g1, e1, h2.symm, e2, e3, e4, h1⟩

theorem rowV_ok {ag : Bool} {cs : List V} {xs : List Value} {z : Nat} (hl : RVL w base (Mof X H G) H G cs xs) (hn : cs.length = if ag then z else 1) (hv : rowV ag cs = some v) :
    RV w base (Mof X H G) H G v (if ag then .agg xs.toArray else xs.getD 0 undef) := by
  cases ag with
  | true =>
    simp only [rowV, if_true] at hv ⊢
    cases hv
    exact .agg hl
  | false =>
    simp only [rowV, Bool.false_eq_true, if_false] at hv ⊢
    obtain ⟨y, h1, h2⟩ := hl.get 0 v hv
    rw [List.getD_eq_getElem?_getD, h1]
    exact h2

theorem ok_load {ty : TypeId} {z : Nat} {ag : Bool} {x : Operand} (hS : SimH base X w H G) (hT : TV w base (Mof X H G) H G t a.tmps) (ho : o.op = .load ty x)
    (hz : szOf P ty = some z) (ha : agOf P ty = some ag)
    (hv : stepLoad (if ag then z else 1) ag H (St.ev ⟨t, H⟩ x) = some v) :
    StepOK P base X o a w H G v H := by
  have h := ev_ok (h := H) hT x
  unfold stepLoad at hv
  generalize hzz : (if ag then z else 1) = zz at hv
  split at hv
  · rename_i b g off he
    obtain ⟨cs, hcs, hv⟩ := Option.bind_eq_some_iff.1 hv
    split at hv
    · rename_i hle
      rw [he] at h
      generalize hu2 : a.eval x = u at h
      cases h with
      | ptr hr hn hval =>
        replace hcs := getCells_not hcs hn
        obtain rfl := hval cs hcs
        obtain ⟨arr, ty', g1, e1, e2, e3, e4, e5, e6⟩ := hS.at hcs
        have hreads := Reads.of_block (off := off) (n := zz) e1 (by omega)
        have hsub : (arr.toList.drop off).take zz = ((arr.toList.take cs.length).drop off).take zz := by
          rw [List.drop_take, List.take_take, Nat.min_eq_left (by omega)]
        have hl : RVL w base (Mof X H G) H G ((cs.drop off).take zz) ((arr.toList.drop off).take zz) := by
          rw [hsub]; exact (e4.drop off).take zz
        have hlen : ((arr.toList.drop off).take zz).length = zz := by simp; omega
        refine StepOK.value (x := if ag then .agg ((arr.toList.drop off).take zz).toArray else ((arr.toList.drop off).take zz).getD 0 undef) hS ?_ (rowV_ok (z := z) hl (by simp; omega) hv)
        simp only [execOp, ho, hu2, Instr.loadAt, Instr.sureAddr, Sem.run_bind, Sem.run_pure, Result.andThen_ok]
        rw [run_loadVar hz ha w _ _ (by rw [hlen, hzz]) hreads]
        rfl
    · cases hv
  · rename_i f cs he
    split at hv
    · rename_i hle
      rw [he] at h
      generalize hu2 : a.eval x = u at h
      cases h with
      | i hi =>
        cases hi with
        | ip hm hb hr hl =>
          rename_i p xs
          have hlen : (xs.take zz).length = zz := by simp [hl.length]; omega
          have hreads : Reads w p (xs.take zz) := by
            intro j hj
            have := hr j (by simp at hj; omega)
            rw [this]; simp
          have hl2 : RVL w base (Mof X H G) H G ((cs.take zz).map .i) (xs.take zz) := RL.toV (hl.take zz)
          refine StepOK.value (x := if ag then .agg (xs.take zz).toArray else (xs.take zz).getD 0 undef) hS ?_ (rowV_ok (z := z) hl2 (by simp; omega) hv)
          simp only [execOp, ho, hu2, Instr.loadAt, Instr.sureAddr, Sem.run_bind, Sem.run_pure, Result.andThen_ok]
          rw [run_loadVar hz ha w _ _ (by rw [hlen, hzz]) hreads]
          rfl
    · cases hv
  · cases hv

end
end Go.AM

set_option linter.unusedVariables false
set_option linter.unusedSimpArgs false
namespace Go.AM

section
variable {P : Program} {base : Nat} {X : Nat → Prop} {o : Oper} {a : Act} {w : World} {H H' : Heap} {G : List Nat} {v : V} {t : Nat → V}

theorem aggV_ok {x : V} {u : Value} (h : RV w base (Mof X H G) H G x u) (hx : isAggV x = true) : ∃ cs : Array Value, u = .agg cs ∧ RVL w base (Mof X H G) H G x.cells cs.toList := by
  cases h with
  | i hi =>
    cases hi with
    | agg hl => exact ⟨_, rfl, RL.toV hl⟩
    | _ => simp [isAggV] at hx
  | agg hl => exact ⟨_, rfl, hl⟩
  | _ => simp [isAggV] at hx

theorem run_part {ty : TypeId} {z : Nat} {ag : Bool} (hz : szOf P ty = some z) (ha : agOf P ty = some ag) (w : World) (cs : Array Value) (off : Nat) (hle : off + (if ag then z else 1) ≤ cs.size) :
    (part ty cs off).run P w = .ok (if ag then .agg ((cs.toList.drop off).take z).toArray else ((cs.toList.drop off).take 1).getD 0 undef) w := by
  unfold part
  simp only [Sem.run_bind, run_agOf ha, Result.andThen_ok]
  cases ag with
  | true =>
    simp only [if_true] at hle ⊢
    simp only [Sem.run_bind, run_szOf hz, Result.andThen_ok, Sem.run_pure]
    congr 2
    apply Array.ext'
    simp [Array.toList_extract, List.extract_eq_take_drop]
  | false =>
    simp only [Bool.false_eq_true, if_false] at hle ⊢
    have hlt : off < cs.size := by omega
    simp [hlt, List.getD_eq_getElem?_getD]

theorem ok_field {s : TypeId} {fields : Array Field} {k : Nat} {fd : Field} {z : Nat} {ag : Bool} {x : Operand} (hS : SimH base X w H G) (hT : TV w base (Mof X H G) H G t a.tmps) (ho : o.op = .field s x k)
    (hu : P.underlying s = some (.struct fields)) (hf : fields[k]? = some fd) (hz : szOf P fd.type = some z) (ha : agOf P fd.type = some ag)
    (hc : fd.offset + (if ag then z else 1) ≤ (St.ev ⟨t, H⟩ x).cells.length) (hx : isAggV (St.ev ⟨t, H⟩ x) = true)
    (hv : rowV ag (((St.ev ⟨t, H⟩ x).cells.drop fd.offset).take (if ag then z else 1)) = some v) : StepOK P base X o a w H G v H := by
  obtain ⟨cs, hu2, hl⟩ := aggV_ok (ev_ok (h := H) hT x) hx
  have hlen : cs.size = (St.ev ⟨t, H⟩ x).cells.length := by have := hl.length; simpa using this
  have hl2 := (hl.drop fd.offset).take (if ag then z else 1)
  have h3 := rowV_ok (z := z) hl2 (by simp; omega) hv
  refine StepOK.value hS ?_ h3
  simp only [execOp, ho, hu2, Instr.field, Sem.run_bind, run_underlying hu, Result.andThen_ok, hf, asAgg, Sem.run_pure]
  rw [run_part hz ha w cs fd.offset (by omega)]
  cases ag <;> rfl

theorem ok_idxV {ty e : TypeId} {n z : Nat} {ag : Bool} {x i : Operand} {k : Int} (hS : SimH base X w H G) (hT : TV w base (Mof X H G) H G t a.tmps) (ho : o.op = .index ty x i)
    (hu : P.underlying ty = some (.array n e)) (hz : szOf P e = some z) (ha : agOf P e = some ag) (hz1 : ag = true ∨ z = 1) (hk : intV (St.ev ⟨t, H⟩ i) = some k) (h0 : 0 ≤ k) (h1 : k < n)
    (hc : (St.ev ⟨t, H⟩ x).cells.length = n * z) (hx : isAggV (St.ev ⟨t, H⟩ x) = true)
    (hv : rowV ag (((St.ev ⟨t, H⟩ x).cells.drop (k.toNat * z)).take z) = some v) : StepOK P base X o a w H G v H := by
  obtain ⟨cs, hu2, hl⟩ := aggV_ok (ev_ok (h := H) hT x) hx
  obtain ⟨ki, hi⟩ := intV_ok (ev_ok (h := H) hT i) hk
  have hlen : cs.size = (St.ev ⟨t, H⟩ x).cells.length := by have := hl.length; simpa using this
  have hmul : (k.toNat + 1) * z ≤ n * z := Nat.mul_le_mul_right _ (by omega)
  rw [Nat.add_mul, Nat.one_mul] at hmul
  have hzz : (if ag then z else 1) = z := by
    cases ag with
    | true => rfl
    | false => rcases hz1 with h | h <;> simp_all
  have hl2 := (hl.drop (k.toNat * z)).take z
  have h3 := rowV_ok (z := z) (by rw [hzz] at *; exact hl2) (by simp; omega) hv
  refine StepOK.value hS ?_ h3
  simp only [execOp, ho, hu2, hi, Instr.index, asIntOf, Sem.run_bind, Sem.run_pure, Result.andThen_ok, run_underlying hu]
  rw [if_pos ⟨h0, h1⟩]
  simp only [Sem.run_bind, run_szOf hz, Result.andThen_ok]
  rw [run_part hz ha w cs (k.toNat * z) (by rw [hzz]; omega)]
  cases ag with
  | true => rfl
  | false =>
    have : z = 1 := by rcases hz1 with h | h <;> simp_all
    subst this
    rfl

theorem bounds_ok {lo hi : Option Operand} {len l h : Nat} (hT : TV w base (Mof X H G) H G t a.tmps) (hb : bounds ⟨t, H⟩ lo hi len = some (l, h)) (cap : Nat) (hcap : len ≤ cap) (isS : Bool) :
    l ≤ h ∧ h ≤ len ∧ (Instr.sliceBounds isS len cap (lo.map a.eval) (hi.map a.eval) none).run P w = .ok (l, h, cap) w := by
  unfold bounds at hb
  obtain ⟨h1, hh, hb⟩ := Option.bind_eq_some_iff.1 hb
  obtain ⟨l1, hl, hb⟩ := Option.map_eq_some_iff.1 hb
  cases hb
  unfold boundHi at hh
  unfold boundLo at hl
  have eh : h ≤ len ∧ ∀ w, (match hi.map a.eval with | some v => Instr.sliceBound v cap (if isS then .sliceAcap else .sliceAlen) | none => pure len : Sem Nat).run P w = .ok h w := by
    cases hi with
    | none => simp at hh; subst hh; exact ⟨Nat.le_refl _, fun w => by simp⟩
    | some oh =>
      obtain ⟨n, hn, hh⟩ := Option.bind_eq_some_iff.1 hh
      obtain ⟨k, hk⟩ := intV_ok (ev_ok (h := H) hT oh) hn
      split at hh
      · rename_i hc
        cases hh
        refine ⟨by omega, fun w => ?_⟩
        have : n ≤ cap := by omega
        simp [hk, Instr.sliceBound, asIntOf, hc.1, this]
      · cases hh
  have el : l ≤ h ∧ ∀ w, (match lo.map a.eval with | some v => Instr.sliceBound v h .sliceB | none => pure 0 : Sem Nat).run P w = .ok l w := by
    cases lo with
    | none => simp at hl; subst hl; exact ⟨Nat.zero_le _, fun w => by simp⟩
    | some ol =>
      obtain ⟨n, hn, hl⟩ := Option.bind_eq_some_iff.1 hl
      obtain ⟨k, hk⟩ := intV_ok (ev_ok (h := H) hT ol) hn
      split at hl
      · rename_i hc
        cases hl
        refine ⟨by omega, fun w => ?_⟩
        simp [hk, Instr.sliceBound, asIntOf, hc.1, hc.2]
      · cases hl
  refine ⟨el.1, eh.1, ?_⟩
  unfold Instr.sliceBounds
  have eh2 := eh.2 w
  have el2 := el.2 w
  cases hhi : hi.map a.eval <;> cases hlo : lo.map a.eval <;> rw [hhi] at eh2 <;> rw [hlo] at el2 <;> simp at eh2 el2 ⊢ <;> simp [eh2, el2]

theorem run_sliceAt {ty e : TypeId} {z : Nat} (hu : P.underlying ty = some (.slice e)) (hz : szOf P e = some z) {lo hi : Option Operand} {len cap l h : Nat} {p : Option Addr}
    (hb : (Instr.sliceBounds true len cap (lo.map a.eval) (hi.map a.eval) none).run P w = .ok (l, h, cap) w) :
    (Instr.sliceAt ty (.slice p len cap) (lo.map a.eval) (hi.map a.eval) none).run P w = .ok (.slice (if cap = l then p else p.map (·.add (l * z))) (h - l) (cap - l)) w := by
  unfold Instr.sliceAt
  simp only [Sem.run_bind, run_underlying hu, Result.andThen_ok]
  unfold Instr.slice
  simp only [Sem.run_bind, run_underlying hu, Result.andThen_ok, hb, run_szOf hz, Sem.run_pure]

theorem ok_slice {ty e : TypeId} {z : Nat} {x : Operand} {lo hi : Option Operand} (hS : SimH base X w H G) (hT : TV w base (Mof X H G) H G t a.tmps) (ho : o.op = .slice ty x lo hi none)
    (hu : P.underlying ty = some (.slice e)) (hz : szOf P e = some z)
    (hv : stepSlice z (bounds ⟨t, H⟩ lo hi) (St.ev ⟨t, H⟩ x) = some v) : StepOK P base X o a w H G v H := by
  have h := ev_ok (h := H) hT x
  unfold stepSlice at hv
  split at hv
  · rename_i b g off z' ag len he
    obtain ⟨⟨l, hh⟩, hb, hv2⟩ := Option.bind_eq_some_iff.1 hv
    simp only at hv2
    split at hv2
    · rename_i hzz
      subst hzz
      cases hv2
      rw [he] at h
      generalize hu2 : a.eval x = u at h
      cases h with
      | hnil hr hcn =>
        obtain ⟨c1, c2, c3⟩ := bounds_ok (P := P) hT hb 0 (Nat.le_refl _) true
        have e1 : hh = 0 := by omega
        have e2 : l = 0 := by omega
        subst e1
        subst e2
        refine StepOK.value (x := .slice none 0 0) hS ?_ ?_
        · simp only [execOp, ho, hu2, Sem.run_bind]
          have := run_sliceAt (P := P) (p := none) hu hz c3
          simp only [Option.map_none] at this ⊢
          rw [this]; rfl
        · have := RV.hnil (w := w) (base := base) (M := Mof X H G) (G := G) (z := z') (ag := ag) hr hcn
          simpa using this
      | hsl hr hn hzp hle hval =>
        rename_i cap p
        obtain ⟨c1, c2, c3⟩ := bounds_ok (P := P) hT hb cap hle true
        refine StepOK.value (x := .slice (if cap = l then some p else (some p).map (·.add (l * z'))) (hh - l) (cap - l)) hS ?_ ?_
        · simp only [execOp, ho, hu2, Sem.run_bind]
          have := run_sliceAt (P := P) (p := some p) hu hz c3
          simp only [Option.map_none] at this ⊢
          rw [this]; rfl
        · have hp : (if cap = l then some p else (some p).map (·.add (l * z'))) = some (if cap = l then p else p.add (l * z')) := by split <;> rfl
          rw [hp]
          refine .hsl hr hn hzp (by omega) ?_
          intro cs hc
          obtain ⟨d1, d2, n, d3, d4⟩ := hval cs hc
          have m1 : (hh - l) * z' + l * z' = hh * z' := by rw [← Nat.add_mul]; congr 1; omega
          have m2 : hh * z' ≤ len * z' := Nat.mul_le_mul_right _ c2
          have m3 : (cap - l) * z' + l * z' = cap * z' := by rw [← Nat.add_mul]; congr 1; omega
          refine ⟨?_, by omega, n, by omega, d4⟩
          intro hcase
          by_cases hcl : cap = l
          · rw [if_pos hcl]
            rcases hcase with hcase | hcase
            · omega
            · have : off = 0 := by omega
              rw [d1 (.inr this)]
              congr 1; omega
          · rw [if_neg hcl]
            have : 0 < len ∨ off = 0 := by
              rcases hcase with hcase | hcase
              · left; omega
              · right; omega
            rw [d1 this, Addr.add_lit]
    · split at hv2
      · rename_i hc0
        obtain ⟨rfl, rfl, rfl, rfl⟩ := hc0
        cases hv2
        rw [he] at h
        generalize hu2 : a.eval x = u at h
        cases h with
        | hsl hr hn hzp => exact absurd hzp (by omega)
        | hnil hr hcn =>
          obtain ⟨c1, c2, c3⟩ := bounds_ok (P := P) hT hb 0 (Nat.le_refl _) true
          have e1 : hh = 0 := by omega
          have e2 : l = 0 := by omega
          subst e1
          subst e2
          refine StepOK.value (x := .slice none 0 0) hS ?_ (.hnil hr hcn)
          simp only [execOp, ho, hu2, Sem.run_bind]
          have := run_sliceAt (P := P) (p := none) hu hz c3
          simp only [Option.map_none] at this ⊢
          rw [this]; rfl
      · cases hv2
  · rename_i f z' xs he
    obtain ⟨⟨l, hh⟩, hb, hv2⟩ := Option.bind_eq_some_iff.1 hv
    simp only at hv2
    split at hv2
    · rename_i hzz
      subst hzz
      cases hv2
      rw [he] at h
      generalize hu2 : a.eval x = u at h
      cases h with
      | i hi2 =>
        have hform : ∃ p cap, u = .slice p xs.length cap ∧ xs.length ≤ cap := by
          cases hi2 with
          | sl0 => exact ⟨_, _, rfl, Nat.zero_le _⟩
          | sl _ hcap => exact ⟨_, _, rfl, hcap⟩
        obtain ⟨p, cap, rfl, hle⟩ := hform
        obtain ⟨c1, c2, c3⟩ := bounds_ok (P := P) hT hb cap hle true
        refine StepOK.value (x := .slice (if cap = l then p else p.map (·.add (l * z'))) (hh - l) (cap - l)) hS ?_ (.i ?_)
        · simp only [execOp, ho, hu2, Sem.run_bind]
          have := run_sliceAt (P := P) (p := p) hu hz c3
          simp only [Option.map_none] at this ⊢
          rw [this]; rfl
        · have hlen : ((xs.drop l).take (hh - l)).length = hh - l := by simp; omega
          by_cases h0 : hh - l = 0
          · rw [h0, List.take_zero]
            exact .sl0
          · cases hi2 with
            | sl0 => simp at c2; omega
            | sl hne hcap hm hblk hr hl =>
              rename_i q cs
              have hlc := hl.length
              have hcl : cap ≠ l := by omega
              rw [if_neg hcl]
              have := RI.sl (w := w) (M := Mof X H G) (z := z') (xs := (xs.drop l).take (hh - l)) (a := q.add (l * z')) (cap := cap - l) (cs := (cs.drop (l * z')).take ((hh - l) * z'))
                (by intro e; rw [e] at hlen; simp at hlen; omega) (by omega) (by rw [add_block]; exact hm) (by rw [add_block]; exact hblk)
                (hr.sub' _ _ (by rw [hlc, ← Nat.add_mul]; exact Nat.mul_le_mul_right _ (by omega))) ((hl.drop l).take (hh - l))
              rw [hlen] at this
              exact this
    · cases hv2
  · cases hv

theorem run_sliceAtA {ty e : TypeId} {n z : Nat} (hu : P.underlying ty = some (.array n e)) (hz : szOf P e = some z) {lo hi : Option Operand} {l h : Nat} {p : Addr}
    (hb : (Instr.sliceBounds false n n (lo.map a.eval) (hi.map a.eval) none).run P w = .ok (l, h, n) w) :
    (Instr.sliceAt ty (.pointer (some p)) (lo.map a.eval) (hi.map a.eval) none).run P w = .ok (.slice (some (if n = l then p else p.add (l * z))) (h - l) (n - l)) w := by
  unfold Instr.sliceAt
  simp only [Sem.run_bind, run_underlying hu, Result.andThen_ok, Instr.sureAddr, Sem.run_pure, hb, run_szOf hz]

theorem ok_sliceA {ty e : TypeId} {n z : Nat} {ag : Bool} {x : Operand} {lo hi : Option Operand} (hS : SimH base X w H G) (hT : TV w base (Mof X H G) H G t a.tmps) (ho : o.op = .slice ty x lo hi none)
    (hu : P.underlying ty = some (.array n e)) (hz : szOf P e = some z) (hzp : 0 < z)
    (hv : stepSliceA n z ag (bounds ⟨t, H⟩ lo hi) H (St.ev ⟨t, H⟩ x) = some v) : StepOK P base X o a w H G v H := by
  have h := ev_ok (h := H) hT x
  unfold stepSliceA at hv
  split at hv
  · rename_i b g off he
    obtain ⟨⟨l, hh⟩, hb, hv2⟩ := Option.bind_eq_some_iff.1 hv
    obtain ⟨cs, hcs, hv3⟩ := Option.bind_eq_some_iff.1 hv2
    simp only at hv3
    split at hv3
    · rename_i hle
      cases hv3
      rw [he] at h
      generalize hu2 : a.eval x = u at h
      cases h with
      | ptr hr hn hval =>
        rename_i p
        replace hcs := getCells_not hcs hn
        obtain rfl := hval cs hcs
        obtain ⟨c1, c2, c3⟩ := bounds_ok (P := P) hT hb n (Nat.le_refl _) false
        obtain ⟨arr, ty', g1, e1, e2, e3, e4, e5, e6⟩ := hS.at hcs
        refine StepOK.value (x := .slice (some (if n = l then ⟨G.getD b 0, off, none⟩ else Addr.add ⟨G.getD b 0, off, none⟩ (l * z))) (hh - l) (n - l)) hS ?_ (.hsl hr hn hzp (by omega) ?_)
        · simp only [execOp, ho, hu2, Sem.run_bind]
          have := run_sliceAtA (P := P) (p := ⟨G.getD b 0, off, none⟩) hu hz c3
          simp only [Option.map_none] at this ⊢
          rw [this]; rfl
        · intro cs' hc
          have m1 : (hh - l) * z + l * z = hh * z := by rw [← Nat.add_mul]; congr 1; omega
          have m2 : hh * z ≤ n * z := Nat.mul_le_mul_right _ c2
          have m3 : (n - l) * z + l * z = n * z := by rw [← Nat.add_mul]; congr 1; omega
          refine ⟨?_, by omega, arr.size, by omega, by unfold blockSize; rw [e1]⟩
          intro hcase
          by_cases hcl : n = l
          · rw [if_pos hcl]
            rcases hcase with hcase | hcase
            · omega
            · congr 1; omega
          · rw [if_neg hcl, Addr.add_lit]
    · cases hv3
  · cases hv

/-- The length that a value shows. -/
theorem lenV_ok {x : V} {u : Value} {n : Nat} (h : RV w base (Mof X H G) H G x u) (hn : lenV x = some n) : (∃ p cap, u = .slice p n cap) ∨ ∃ s, u = .string s ∧ s.size = n := by
  unfold lenV at hn
  split at hn
  · cases hn; cases h <;> exact .inl ⟨_, _, rfl⟩
  · cases hn
    cases h with
    | i hi => cases hi <;> exact .inl ⟨_, _, rfl⟩
  · cases hn
    cases h with
    | i hi => cases hi; exact .inr ⟨_, rfl, rfl⟩
  · cases hn
    cases h with
    | i hi => cases hi; exact .inl ⟨_, _, rfl⟩
  · cases hn

theorem lenS_ok {x : V} {u : Value} {n : Nat} (h : RV w base (Mof X H G) H G x u) (hn : lenS x = some n) : ∃ p cap, u = .slice p n cap ∧ n ≤ cap := by
  unfold lenS at hn
  split at hn
  · cases hn
    cases h with
    | hsl _ _ _ hl _ => exact ⟨_, _, rfl, hl⟩
    | hnil => exact ⟨_, _, rfl, Nat.le_refl _⟩
  · cases hn
    cases h with
    | i hi =>
      cases hi with
      | sl0 => exact ⟨_, _, rfl, Nat.zero_le _⟩
      | sl _ hc => exact ⟨_, _, rfl, hc⟩
  · cases hn
    cases h with
    | i hi => cases hi; exact ⟨_, _, rfl, Nat.le_refl _⟩
  · cases hn

theorem ok_len {ty e : TypeId} {c : Call} {x : Operand} {n : Nat} (hS : SimH base X w H G) (hT : TV w base (Mof X H G) H G t a.tmps) (ho : o.op = .call c) (hc : c.callee = .builtin .len) (ha : c.args.toList = [x]) (hat : c.argTypes.toList = [ty])
    (hu : P.underlying ty = some (.slice e)) (hn : lenS (St.ev ⟨t, H⟩ x) = some n) : StepOK P base X o a w H G (.i (.s (.int .i64 n))) H := by
  have ha' : c.args = #[x] := by apply Array.ext'; simpa using ha
  have hat' : c.argTypes = #[ty] := by apply Array.ext'; simpa using hat
  obtain ⟨p, cap, hp, _⟩ := lenS_ok (ev_ok (h := H) hT x) hn
  refine StepOK.value (x := .int .i64 n) hS ?_ (.i (.s rfl))
  simp [execOp, ho, resolve, hc, ha', hat', invoke, builtin, hp, Builtin.len_, run_underlying hu, goInt]

theorem bytesOf_ok : ∀ {ys : List V} {vs : List Value} {ns : List Int}, RVL w base (Mof X H G) H G ys vs → bytesOf ys = some ns → vs = ns.map (Value.int .u8)
  | _, _, _, .nil, h => by simp [bytesOf] at h; subst h; rfl
  | _, _, ns, .cons (x := y) (xs := ys) a b, h => by
    unfold bytesOf at h
    split at h
    · rename_i he; simp at he
    · rename_i f n rest he
      obtain ⟨h1, h2⟩ := List.cons.inj he
      subst h1 h2
      obtain ⟨ms, hm, rfl⟩ := Option.map_eq_some_iff.1 h
      cases a with
      | i hi =>
        cases hi
        rw [bytesOf_ok b hm]
        rfl
    · cases h

/-- What a slice value's cells read as. -/
theorem srcCells_ok {x : V} {p : Option Addr} {n cap : Nat} {ys : List V} {z : Nat} (hS : SimH base X w H G) (h : RV w base (Mof X H G) H G x (.slice p n cap)) (hc : srcCells H x = some ys) (hl : ys.length = n * z) :
    ∃ vs, vs.length = ys.length ∧ RVL w base (Mof X H G) H G ys vs ∧ (0 < ys.length → ∃ q, p = some q ∧ Reads w q vs) ∧ (p = none → ys = []) := by
  unfold srcCells at hc
  split at hc
  · rename_i b g off z' ag len
    obtain ⟨cs, hcs, rfl⟩ := Option.map_eq_some_iff.1 hc
    cases h with
    | hnil hr hcn =>
      rcases getCells_or hcs with hcs | ⟨_, _, rfl⟩
      · rw [hcn] at hcs; cases hcs
      · exact ⟨[], by simp, by simpa using RVL.nil, fun hp => by simp at hp, fun _ => by simp⟩
    | hsl hr hn hzp hle hval =>
      rename_i q
      replace hcs := getCells_not hcs hn
      obtain ⟨d1, d2, n', d3, d4⟩ := hval cs hcs
      obtain ⟨arr, ty', g1, e1, e2, e3, e4, e5, e6⟩ := hS.at hcs
      have hlen : ((cs.drop off).take (n * z')).length = n * z' := by simp; omega
      refine ⟨((arr.toList.take cs.length).drop off).take (n * z'), by simp; omega, (e4.drop off).take _, ?_, fun e => by cases e⟩
      intro hp
      rw [hlen] at hp
      have hn0 : 0 < n := Nat.pos_of_ne_zero (fun e => by rw [e] at hp; simp at hp)
      rw [d1 (.inl hn0)]
      refine ⟨_, rfl, ?_⟩
      have := Reads.of_block (off := off) (n := n * z') e1 (by omega)
      rw [List.drop_take, List.take_take, Nat.min_eq_left (by omega)]
      exact this
  · rename_i f z' xs
    cases hc
    cases h with
    | i hi =>
      cases hi with
      | sl0 => exact ⟨[], rfl, .nil, fun hp => by simp at hp, fun _ => rfl⟩
      | sl hne hcap hm hb hr hll =>
        rename_i q cs
        have hflat : ∀ {zs : List I} {ds : List Value}, RR w (Mof X H G) z' zs ds → RVL w base (Mof X H G) H G ((zs.flatMap I.cells).map .i) ds := by
          intro zs ds hrr
          induction zs generalizing ds with
          | nil => cases hrr; exact .nil
          | cons y ys ih =>
            cases hrr with
            | cons a1 a2 a3 =>
              rw [List.flatMap_cons, List.map_append]
              exact (RL.toV a1).append (ih a3)
        have h2 := hflat hll
        exact ⟨cs, h2.length, h2, fun _ => ⟨q, rfl, hr⟩, fun e => by cases e⟩
  · rename_i f s
    cases h with
    | i hi => cases hi
  · cases hc
    cases h with
    | i hi => cases hi; exact ⟨[], rfl, .nil, fun hp => by simp at hp, fun _ => rfl⟩
  · cases hc

theorem ok_b2s {s d e : TypeId} {x : Operand} {ys : List V} {n : Nat} {ns : List Int} (hS : SimH base X w H G) (hT : TV w base (Mof X H G) H G t a.tmps) (ho : o.op = .convert s d x)
    (hs : P.underlying s = some (.slice e)) (he : P.underlying e = some (.int .u8)) (hd : P.underlying d = some .string)
    (hc : srcCells H (St.ev ⟨t, H⟩ x) = some ys) (hn : lenS (St.ev ⟨t, H⟩ x) = some n) (hb : bytesOf ys = some ns) (hl : ns.length = n) : StepOK P base X o a w H G (.i (.s (.string (strOfNums ns)))) H := by
  have hx := ev_ok (h := H) hT x
  obtain ⟨p, cap, hp, hcap⟩ := lenS_ok hx hn
  rw [hp] at hx
  have hyl : ys.length = ns.length := by
    have : ∀ {ys : List V} {ns : List Int}, bytesOf ys = some ns → ys.length = ns.length := by
      intro ys
      induction ys with
      | nil => intro ns h; simp [bytesOf] at h; subst h; rfl
      | cons y ys ih =>
        intro ns h
        unfold bytesOf at h
        split at h
        · rename_i he; simp at he
        · rename_i f n rest he
          obtain ⟨h1, h2⟩ := List.cons.inj he
          subst h1 h2
          obtain ⟨ms, hm, rfl⟩ := Option.map_eq_some_iff.1 h
          simp [ih hm]
        · cases h
    exact this hb
  obtain ⟨vs, h1, h2, h3, h4⟩ := srcCells_ok (z := 1) hS hx hc (by omega)
  have hvs := bytesOf_ok h2 hb
  refine StepOK.value (x := .string (strOfNums ns)) hS ?_ (.i (.s rfl))
  simp only [execOp, ho, hp, Sem.run_bind]
  cases p with
  | none =>
    have := h4 rfl
    subst this
    have : ns = [] := by cases ns with | nil => rfl | cons _ _ => simp at hyl
    subst this
    rw [run_convert_bytes_nil w s e hs he n cap d hd]
    rfl
  | some q =>
    have hload : (loadCells q n).run P w = .ok (ns.map (Value.int .u8)).toArray w := by
      by_cases h0 : 0 < ys.length
      · obtain ⟨q', hq, hr⟩ := h3 h0
        cases hq
        exact run_loadCells P w q _ n (by simp; omega) (hvs ▸ hr)
      · have : ns = [] := by cases ns with | nil => rfl | cons _ _ => simp at hyl; omega
        subst this
        have : n = 0 := by simpa using hl.symm
        subst this
        simp [loadCells, loadCellsFrom]
    rw [run_convert_bytes_string w s d e _ n cap hs he hd, run_bytesToString w q n cap ns hload, foldl_push_bytes]
    simp [strOfNums, ByteArray.empty, ByteArray.emptyWithCapacity]
    rfl

theorem ok_clo {f : Nat} {first caps : Array Operand} (hS : SimH base X w H G) (hT : TV w base (Mof X H G) H G t a.tmps) (ho : o.op = .makeFunc (.func f) first caps) (hf : first.isEmpty = true) : StepOK P base X o a w H G (.clo f (caps.toList.map (St.ev ⟨t, H⟩))) H := by
  have : first = #[] := by simpa using hf
  subst this
  refine StepOK.value (x := .func (.func f) #[] (caps.map a.eval)) hS ?_ (.clo ?_)
  · simp [execOp, ho, Instr.makeFunc]
  · have := evs_ok (h := H) hT caps.toList
    simpa using this

theorem ok_ifc {ty : TypeId} {x : Operand} (hS : SimH base X w H G) (hT : TV w base (Mof X H G) H G t a.tmps) (ho : o.op = .makeInterface ty x) (hi : isIface P ty = false) : StepOK P base X o a w H G (.ifc ty (St.ev ⟨t, H⟩ x)) H := by
  refine StepOK.value (x := .iface ty (a.eval x)) hS ?_ (.ifc (ev_ok hT x))
  unfold isIface at hi
  simp only [execOp, ho, Instr.makeInterface, Sem.run_bind]
  cases hu : P.underlying ty with
  | none => rw [hu] at hi; simp at hi
  | some d =>
    rw [run_underlying hu]
    rw [hu] at hi
    cases d <;> simp at hi ⊢

end
end Go.AM

set_option linter.unusedVariables false
set_option linter.unusedSimpArgs false
namespace Go.AM

section
variable {P : Program} {base : Nat} {X : Nat → Prop} {o : Oper} {a : Act} {w : World} {H H' : Heap} {G : List Nat} {v : V} {t : Nat → V}

theorem heap_push_lt (w : World) (o : Obj) (k : Nat) (h : k < w.heap.size) : (w.alloc o).heap[k]? = w.heap[k]? := by
  show (w.heap.push o)[k]? = _
  rw [Array.getElem?_push, if_neg (by omega)]

theorem heap_push_new (w : World) (o : Obj) : (w.alloc o).heap[w.heap.size]? = some o := by
  show (w.heap.push o)[w.heap.size]? = _
  rw [Array.getElem?_push, if_pos rfl]

/-- Where a new block is laid. -/
theorem newSlot_at {slot : Option Nat} {s : Slot} {b : Nat} (hlen : G.length = H.length) (k : Nat) (h : newSlot slot H s = some (b, H')) :
    ∃ G' : List Nat, ¬ inUse H b ∧ (∀ b', b' ≠ b → H'[b']? = H[b']?) ∧ (∀ b', b' ≠ b → G'[b']? = G[b']?) ∧ H'[b]? = some s ∧ G'[b]? = some k ∧ G'.length = H'.length := by
  unfold newSlot at h
  split at h
  · cases h
    refine ⟨G ++ [k], ?_, ?_, ?_, by simp, by simp [← hlen], by simp [hlen]⟩
    · rintro ⟨s', h', _⟩
      simp at h'
    · intro b' hb
      rcases Nat.lt_or_ge b' H.length with h1 | h1
      · rw [List.getElem?_append_left h1]
      · rw [List.getElem?_append_right h1, List.getElem?_eq_none (l := H) h1]
        rw [List.getElem?_eq_none]; simp; omega
    · intro b' hb
      rcases Nat.lt_or_ge b' G.length with h1 | h1
      · rw [List.getElem?_append_left h1]
      · rw [List.getElem?_append_right h1, List.getElem?_eq_none (l := G) h1]
        rw [List.getElem?_eq_none]; simp; omega
  · split at h
    · rename_i hb
      cases h
      have hlt : b < H.length := (List.getElem?_eq_some_iff.1 hb).1
      refine ⟨G.set b k, ?_, ?_, ?_, by simp [hlt], by simp [hlen, hlt], by simp [hlen]⟩
      · rintro ⟨s', h', hne⟩
        rw [hb] at h'
        exact hne (Option.some.inj h').symm
      · intro b' hne
        rw [List.getElem?_set_ne (Ne.symm hne)]
      · intro b' hne
        rw [List.getElem?_set_ne (Ne.symm hne)]
    · cases h

/-- A new block of cells. -/
theorem new_ok {slot : Option Nat} {b : Nat} {cs : List V} {arr : Array Value} (ty : TypeId) (hS : SimH base X w H G) (hn : newSlot slot H (.cells cs) = some (b, H')) (hle : cs.length ≤ arr.size)
    (hl : RVL w base (Mof X H G) H G cs (arr.toList.take cs.length)) (ho : ∀ y, y ∈ cs → y.one = true) :
    ∃ G', Ext w H G (w.alloc (.cells arr ty)) H' G' ∧ SimH base X (w.alloc (.cells arr ty)) H' G' ∧ okRef H' b cs.length ∧ G'.getD b 0 = w.heap.size ∧ H'[b]? = some (.cells cs) := by
  obtain ⟨G', h1, h2, h3, h4, h5, h6⟩ := newSlot_at hS.len w.heap.size hn
  have hE : Ext w H G (w.alloc (.cells arr ty)) H' G' :=
    Ext.new hS b _ w.heap.size (.inl h1) h2 h3 h4 (fun _ => h5) (Nat.le_refl _) rfl rfl rfl (by simp) (fun k hk => heap_push_lt _ _ _ hk)
  refine ⟨G', hE, ?_, ⟨⟨_, h4, by intro e; cases e⟩, (fun cs' hc => by rw [h4] at hc; cases hc; exact Nat.le_refl _), (fun hc => by rw [h4] at hc; cases hc)⟩, getD_of h5, h4⟩
  refine hS.upd b _ w.heap.size h6 h2 h3 h4 hE ?_ ?_
  · intro b1 s1 k1 hne hb1 hl1 hg1
    obtain ⟨k, c1, _, c3, _⟩ := hS.block b1 s1 hb1 hl1
    rw [c1] at hg1
    cases hg1
    exact heap_push_lt _ _ _ c3
  · intro _
    exact ⟨h5, by simp, .inr (Nat.le_refl _), arr, ty, heap_push_new _ _, hle, hl.ext hE, ho⟩

/-- A nil slice has got its first cells. -/
theorem fillV_ok {b : Nat} {cs : List V} {arr : Array Value} (ty : TypeId) (hS : SimH base X w H G) (hb : H[b]? = some .virt) (hne : cs ≠ []) (hle : cs.length ≤ arr.size)
    (hl : RVL w base (Mof X H G) H G cs (arr.toList.take cs.length)) (ho : ∀ y, y ∈ cs → y.one = true) :
    ∃ G', Ext w H G (w.alloc (.cells arr ty)) (H.set b (.cells cs)) G' ∧ SimH base X (w.alloc (.cells arr ty)) (H.set b (.cells cs)) G' ∧ okRef (H.set b (.cells cs)) b cs.length ∧ G'.getD b 0 = w.heap.size ∧ (H.set b (.cells cs))[b]? = some (.cells cs) := by
  have hlt : b < H.length := (List.getElem?_eq_some_iff.1 hb).1
  have hset : (H.set b (.cells cs))[b]? = some (.cells cs) := by simp [hlt]
  have h5 : (G.set b w.heap.size)[b]? = some w.heap.size := by simp [hS.len, hlt]
  have h2 : ∀ b', b' ≠ b → (H.set b (.cells cs))[b']? = H[b']? := fun b' h => List.getElem?_set_ne (Ne.symm h)
  have h3 : ∀ b', b' ≠ b → (G.set b w.heap.size)[b']? = G[b']? := fun b' h => List.getElem?_set_ne (Ne.symm h)
  have hE : Ext w H G (w.alloc (.cells arr ty)) (H.set b (.cells cs)) (G.set b w.heap.size) :=
    Ext.new hS b _ w.heap.size (.inr ⟨hb, cs, hne, rfl⟩) h2 h3 hset (fun _ => h5) (Nat.le_refl _) rfl rfl rfl (by simp) (fun k hk => heap_push_lt _ _ _ hk)
  refine ⟨_, hE, ?_, ⟨⟨_, hset, by intro e; cases e⟩, (fun cs' hc => by rw [hset] at hc; cases hc; exact Nat.le_refl _), (fun hc => by rw [hset] at hc; cases hc)⟩, getD_of h5, hset⟩
  refine hS.upd b _ w.heap.size (by simp [hS.len]) h2 h3 hset hE ?_ ?_
  · intro b1 s1 k1 hne hb1 hl1 hg1
    obtain ⟨k, c1, _, c3, _⟩ := hS.block b1 s1 hb1 hl1
    rw [c1] at hg1
    cases hg1
    exact heap_push_lt _ _ _ c3
  · intro _
    exact ⟨h5, by simp, .inr (Nat.le_refl _), arr, ty, heap_push_new _ _, hle, hl.ext hE, ho⟩

/-- A nil slice of the function's own. -/
theorem new_virt {slot : Option Nat} {b : Nat} (hS : SimH base X w H G) (hn : newSlot slot H .virt = some (b, H')) :
    ∃ G', Ext w H G w H' G' ∧ SimH base X w H' G' ∧ okRef H' b 0 ∧ H'[b]? = some .virt := by
  obtain ⟨G', h1, h2, h3, h4, h5, h6⟩ := newSlot_at hS.len 0 hn
  have hE : Ext w H G w H' G' := Ext.new hS b _ w.heap.size (.inl h1) h2 h3 h4 (fun h => by cases h) (Nat.le_refl _) rfl rfl rfl (Nat.le_refl _) (fun k hk => rfl)
  refine ⟨G', hE, ?_, ⟨⟨_, h4, by intro e; cases e⟩, (fun cs' hc => by rw [h4] at hc; cases hc), (fun _ => rfl)⟩, h4⟩
  refine hS.upd b _ w.heap.size h6 h2 h3 h4 hE ?_ ?_
  · intro b1 s1 k1 hne hb1 hl1 hg1
    rfl
  · intro h; cases h

theorem plains_one {zs : List Value} (h : zs.all plain = true) : ∀ y, y ∈ ivs zs → y.one = true := by
  intro y hy
  unfold ivs at hy
  obtain ⟨z, _, rfl⟩ := List.mem_map.1 hy
  rfl

theorem ivs_ok {zs : List Value} (h : zs.all plain = true) : RVL w base (Mof X H G) H G (ivs zs) zs := by
  have : RVL w base (Mof X H G) H G ((zs.map I.s).map .i) zs := RL.toV (RL.of_plain zs h)
  simpa [ivs, Function.comp_def] using this

theorem StepOK.value' {x : Value} {w' : World} {G' : List Nat} (hr : (execOp a.eval o).run P w = .ok (.value x) w') (hE : Ext w H G w' H' G') (hS' : SimH base X w' H' G') (hv : RV w' base (Mof X H' G') H' G' v x) : StepOK P base X o a w H G v H' := by
  intro next Q hn
  unfold Oper.wp
  rw [hr]
  exact hn x w' G' hE hS' hv

theorem ok_vnil {slot : Option Nat} {b : Nat} (hS : SimH base X w H G) (ho : o.op = .move (.const (.slice none 0 0)) ∨ o.op = .assign (.const (.slice none 0 0))) (hn : newSlot slot H .virt = some (b, H')) {z : Nat} {ag : Bool} :
    StepOK P base X o a w H G (.hsl b 0 0 z ag 0) H' := by
  obtain ⟨G', hE, hS', hr, hv⟩ := new_virt hS hn
  refine StepOK.value' (x := .slice none 0 0) ?_ hE hS' (.hnil hr ?_)
  · rcases ho with ho | ho <;> simp [execOp, ho] <;> rfl
  · unfold cellsAt
    rw [hv]

theorem ok_alloc {slot : Option Nat} {e : TypeId} {zero : List Value} {b : Nat} (hS : SimH base X w H G) (ho : o.op = .alloc e) (hz : zeroOf P e = some zero) (hn : newSlot slot H (.cells (ivs zero)) = some (b, H')) :
    StepOK P base X o a w H G (.ptr b zero.length 0) H' := by
  obtain ⟨h1, u, h2, h3⟩ := zeroOf_ok hz
  have hlen : (ivs zero).length = zero.length := by simp [ivs]
  obtain ⟨G', hE, hS', hr, hg, hbb⟩ := new_ok (arr := u.cells) e hS hn (by rw [hlen, ← h2]; simp) (by
    have : u.cells.toList.take (ivs zero).length = zero := by rw [h2, hlen, List.take_length]
    rw [this]; exact ivs_ok h1) (plains_one h1)
  rw [hlen] at hr
  refine StepOK.value' (x := .pointer (some ⟨w.heap.size, 0, none⟩)) ?_ hE hS' (.ptr hr (by rw [hbb]; intro e; cases e) (fun _ _ => by rw [hg]))
  simp only [execOp, ho, Instr.alloc, newVar, newRow, Sem.run_bind, h3, Result.andThen_ok, run_newObj, Sem.run_pure]
  rfl

theorem virts_ok : ∀ (n : Nat) {H : Heap} {G : List Nat}, SimH base X w H G → ∃ G', Ext w H G w (H ++ List.replicate n .virt) G' ∧ SimH base X w (H ++ List.replicate n .virt) G'
  | 0, H, G, hS => ⟨G, by simpa using Ext.refl w H G, by simpa using hS⟩
  | n + 1, H, G, hS => by
    obtain ⟨G1, h1, h2, _, _⟩ := new_virt (slot := none) hS rfl
    obtain ⟨G2, h3, h4⟩ := virts_ok n h2
    have e : H ++ [Slot.virt] ++ List.replicate n .virt = H ++ List.replicate (n + 1) .virt := by
      rw [List.replicate_succ, List.append_assoc]; rfl
    rw [e] at h3 h4
    exact ⟨G2, h1.trans h3, h4⟩

theorem virtC_length : ∀ (zs : List Value) (hs : List (Nat × Bool)) (b : Nat), (virtC hs b zs).length = zs.length
  | [], _, _ => rfl
  | z :: zs, hs, b => by
    unfold virtC
    split <;> simp [virtC_length zs]

theorem virtC_one : ∀ (zs : List Value) (hs : List (Nat × Bool)) (b : Nat), ∀ y, y ∈ virtC hs b zs → zs.all plain = true → y.one = true
  | [], hs, b, y, h, _ => by simp [virtC] at h
  | z :: zs, hs, b, y, h, hp => by
    simp only [List.all_cons, Bool.and_eq_true] at hp
    unfold virtC at h
    split at h
    · rcases List.mem_cons.1 h with rfl | h
      · rfl
      · exact virtC_one zs _ _ y h hp.2
    · rcases List.mem_cons.1 h with rfl | h
      · rfl
      · exact virtC_one zs _ _ y h hp.2

theorem virtC_ok {M : Nat → Prop} : ∀ (zs : List Value) (hs : List (Nat × Bool)) (b : Nat), zs.all plain = true → (∀ j, j < nilsOf zs → H[b + j]? = some .virt) → RVL w base M H G (virtC hs b zs) zs
  | [], hs, b, _, _ => .nil
  | z :: zs, hs, b, hp, hv => by
    simp only [List.all_cons, Bool.and_eq_true] at hp
    unfold virtC
    unfold nilsOf at hv
    split
    · rename_i e
      rw [if_pos e] at hv
      obtain rfl := isNilV_eq e
      have h0 : H[b]? = some .virt := hv 0 (by omega)
      refine .cons (.hnil ⟨⟨_, h0, by intro e; cases e⟩, (fun cs hc => by rw [h0] at hc; cases hc), fun _ => rfl⟩ (by unfold cellsAt; rw [h0])) (virtC_ok zs _ (b + 1) hp.2 ?_)
      intro j hj
      have := hv (j + 1) (by omega)
      rwa [show b + 1 + j = b + (j + 1) from by omega]
    · rename_i e
      rw [if_neg e] at hv
      exact .cons (.i (.s hp.1)) (virtC_ok zs _ b hp.2 hv)

theorem ok_allocV {e : TypeId} {hs : List (Nat × Bool)} {zero : List Value} (hS : SimH base X w H G) (ho : o.op = .alloc e) (hz : zeroOf P e = some zero) :
    StepOK P base X o a w H G (.ptr (H.length + nilsOf zero) zero.length 0) (H ++ List.replicate (nilsOf zero) .virt ++ [.cells (virtC hs H.length zero)]) := by
  obtain ⟨h1, u, h2, h3⟩ := zeroOf_ok hz
  obtain ⟨G1, hE1, hS1⟩ := virts_ok (nilsOf zero) hS
  have hlen := virtC_length zero hs H.length
  have hn : newSlot none (H ++ List.replicate (nilsOf zero) .virt) (.cells (virtC hs H.length zero)) = some (H.length + nilsOf zero, H ++ List.replicate (nilsOf zero) .virt ++ [.cells (virtC hs H.length zero)]) := by
    simp [newSlot]
  obtain ⟨G', hE, hS', hr, hg, hb⟩ := new_ok (arr := u.cells) e hS1 hn (by rw [hlen, ← h2]; simp) (by
    have : u.cells.toList.take (virtC hs H.length zero).length = zero := by rw [h2, hlen, List.take_length]
    rw [this]
    refine virtC_ok zero hs H.length h1 ?_
    intro j hj
    rw [List.getElem?_append_right (by omega)]
    simp [hj]) (fun y hy => virtC_one zero _ _ y hy h1)
  rw [hlen] at hr
  refine StepOK.value' (x := .pointer (some ⟨w.heap.size, 0, none⟩)) ?_ (hE1.trans hE) hS' (.ptr hr (by rw [hb]; intro e; cases e) (fun _ _ => by rw [hg]))
  simp only [execOp, ho, Instr.alloc, newVar, newRow, Sem.run_bind, h3, Result.andThen_ok, run_newObj, Sem.run_pure]
  rfl

theorem cells_ok {x : V} {u : Value} (h : RV w base (Mof X H G) H G x u) (hx : x.cells.all V.one = true) : RVL w base (Mof X H G) H G x.cells u.cells.toList :=
  h.cells (by intro e; rw [e] at hx; simp [V.one] at hx)

theorem ok_box {slot : Option Nat} {e : TypeId} {x : Operand} {b : Nat} (hS : SimH base X w H G) (hT : TV w base (Mof X H G) H G t a.tmps) (ho : o.op = .box e x) (hx : (St.ev ⟨t, H⟩ x).cells.all V.one = true)
    (hn : newSlot slot H (.cells (St.ev ⟨t, H⟩ x).cells) = some (b, H')) : StepOK P base X o a w H G (.ptr b (St.ev ⟨t, H⟩ x).cells.length 0) H' := by
  have hl := cells_ok (ev_ok (h := H) hT x) hx
  have hlen := hl.length
  simp at hlen
  obtain ⟨G', hE, hS', hr, hg, hbb⟩ := new_ok (arr := (a.eval x).cells) e hS hn (by omega) (by
    rw [List.take_of_length_le (by simp; omega)]; exact hl) (fun y hy => List.all_eq_true.1 hx y hy)
  refine StepOK.value' (x := .pointer (some ⟨w.heap.size, 0, none⟩)) ?_ hE hS' (.ptr hr (by rw [hbb]; intro e; cases e) (fun _ _ => by rw [hg]))
  simp only [execOp, ho, Instr.box, newVar, newRow, Sem.run_bind, Result.andThen_ok, run_newObj, Sem.run_pure]
  rfl

/-- Cells laid over an array's. -/
theorem foldl_splice (off : Nat) : ∀ (vs : List Value) (i : Nat) (arr : Array Value), off + i + vs.length ≤ arr.size →
    ((vs.zipIdx i).foldl (fun cs (p : Value × Nat) => cs.setIfInBounds (off + p.2) p.1) arr).toList = arr.toList.take (off + i) ++ vs ++ arr.toList.drop (off + i + vs.length)
  | [], i, arr, _ => by simp
  | v :: vs, i, arr, h => by
    simp at h
    rw [List.zipIdx_cons, List.foldl_cons, foldl_splice off vs (i + 1) _ (by simp; omega)]
    simp only [Array.toList_setIfInBounds]
    have hlt : off + i < arr.toList.length := by simp; omega
    have hmin : (arr.toList.take (off + i)).length = off + i := by simp; omega
    rw [List.take_set, show off + (i + 1) = off + i + 1 from by omega, List.drop_set_of_lt (by omega)]
    rw [List.take_succ_eq_append_getElem hlt, List.set_append_right _ _ (by omega), hmin]
    simp [Nat.add_assoc, Nat.add_comm, Nat.add_left_comm]

theorem splice_ok {cs ys : List V} {xs us : List Value} {off : Nat} (h : RVL w base (Mof X H G) H G cs xs) (hy : RVL w base (Mof X H G) H G ys us) : RVL w base (Mof X H G) H G (splice cs off ys) (xs.take off ++ us ++ xs.drop (off + us.length)) := by
  unfold splice
  rw [hy.length]
  exact ((h.take off).append hy).append (h.drop _)

theorem splice_length {cs ys : List V} {off : Nat} (h : off + ys.length ≤ cs.length) : (splice cs off ys).length = cs.length := by
  unfold splice; simp; omega

theorem fill_ok (place : Nat → Option (Nat × Nat)) : ∀ (parts : List (Nat × Operand)) (ps : List (Nat × Nat × Operand)) (cs : List V) (arr : Array Value) (cs' : List V), TV w base (Mof X H G) H G t a.tmps →
    ps = parts.map (fun p => match place p.1 with | some q => (q.1, q.2, p.2) | none => (0, 0, p.2)) → (∀ p, p ∈ parts → (place p.1).isSome = true) → RVL w base (Mof X H G) H G cs arr.toList → fillV ⟨t, H⟩ cs ps = some cs' →
    ∃ arr', Instr.fill place arr (parts.map fun p => (p.1, a.eval p.2)) = some arr' ∧ RVL w base (Mof X H G) H G cs' arr'.toList ∧ ((∀ y, y ∈ cs → y.one = true) → ∀ y, y ∈ cs' → y.one = true) ∧ cs'.length = cs.length
  | [], ps, cs, arr, cs', hT, hps, _, hl, hf => by
    subst hps
    simp [fillV] at hf
    subst hf
    exact ⟨arr, rfl, hl, fun h => h, rfl⟩
  | (i, x) :: parts, ps, cs, arr, cs', hT, hps, hpl, hl, hf => by
    subst hps
    obtain ⟨⟨off, size⟩, hp⟩ := Option.isSome_iff_exists.1 (hpl (i, x) (by simp))
    simp only [List.map_cons, hp] at hf
    unfold fillV at hf
    simp only at hf
    split at hf
    · rename_i hc
      obtain ⟨c1, c2, c3⟩ := hc
      have hx := ev_ok (h := H) hT x
      have hxl := cells_ok hx c1
      have hlen := hxl.length
      have hal := hl.length
      simp at hlen hal
      have hsz : (a.eval x).cells.size = size := by omega
      have hfold := foldl_splice off (a.eval x).cells.toList 0 arr (by simp; omega)
      have hl2 := splice_ok (off := off) hl hxl
      have e1 : arr.toList.take off ++ (a.eval x).cells.toList ++ arr.toList.drop (off + (a.eval x).cells.toList.length) = (((a.eval x).cells.toList.zipIdx 0).foldl (fun cs (p : Value × Nat) => cs.setIfInBounds (off + p.2) p.1) arr).toList := by
        rw [hfold]; simp
      rw [e1] at hl2
      obtain ⟨arr', f1, f2, f3, f4⟩ := fill_ok place parts _ _ _ cs' hT rfl (fun p hp => hpl p (by simp [hp])) hl2 hf
      refine ⟨arr', ?_, f2, ?_, by rw [f4, splice_length (by omega)]⟩
      · simp only [List.map_cons, Instr.fill, hp]
        rw [if_neg (by simp; omega)]
        rw [← Array.foldl_toList, Array.toList_zipIdx]
        exact f1
      · intro hone
        refine f3 ?_
        intro y hy
        unfold splice at hy
        rcases List.mem_append.1 hy with hy | hy
        · rcases List.mem_append.1 hy with hy | hy
          · exact hone y (List.mem_of_mem_take hy)
          · exact List.all_eq_true.1 c1 y hy
        · exact hone y (List.mem_of_mem_drop hy)
    · cases hf

end
end Go.AM

set_option linter.unusedVariables false
set_option linter.unusedSimpArgs false
namespace Go.AM

section
variable {P : Program} {base : Nat} {X : Nat → Prop} {o : Oper} {a : Act} {w : World} {H H' : Heap} {G : List Nat} {v : V} {t : Nat → V}

theorem mapM_opt_length {α β : Type} {f : α → Option β} : ∀ {l : List α} {r : List β}, l.mapM f = some r → r.length = l.length
  | [], r, h => by simp at h; subst h; rfl
  | x :: l, r, h => by
    simp only [List.mapM_cons, Option.bind_eq_bind] at h
    obtain ⟨y, _, h⟩ := Option.bind_eq_some_iff.1 h
    obtain ⟨ys, h1, h2⟩ := Option.bind_eq_some_iff.1 h
    simp at h2
    subst h2
    simp [mapM_opt_length h1]

theorem run_places (w : World) : ∀ (l : List Field) (fs : List (Nat × Nat)), (l.mapM fun f => (szOf P f.type).map fun s => (f.offset, s)) = some fs →
    (l.mapM fun (f : Field) => (do pure (f.offset, ← sizeOf f.type) : Sem (Nat × Nat))).run P w = .ok fs w
  | [], fs, h => by simp at h; subst h; simp
  | f :: l, fs, h => by
    simp only [List.mapM_cons, Option.bind_eq_bind] at h
    obtain ⟨y, h1, h⟩ := Option.bind_eq_some_iff.1 h
    obtain ⟨ys, h2, h3⟩ := Option.bind_eq_some_iff.1 h
    simp at h3
    subst h3
    obtain ⟨s, hs, rfl⟩ := Option.map_eq_some_iff.1 h1
    simp only [List.mapM_cons, Sem.run_bind, run_szOf hs, Result.andThen_ok, Sem.run_pure]
    rw [run_places w l ys h2]
    rfl

theorem ok_buildStruct {ty : TypeId} {fields : Array Field} {parts : Array (Nat × Operand)} {zero : List Value} {fs : List (Nat × Nat)} {cs : List V} (hS : SimH base X w H G) (hT : TV w base (Mof X H G) H G t a.tmps)
    (ho : o.op = .build ty parts) (hu : P.underlying ty = some (.struct fields)) (hz : zeroOf P ty = some zero) (hfs : (fields.toList.mapM fun f => (szOf P f.type).map fun s => (f.offset, s)) = some fs)
    (hpl : parts.toList.all (fun p => (fs[p.1]?).isSome) = true) (hf : fillV ⟨t, H⟩ (ivs zero) (parts.toList.map fun p => match fs[p.1]? with | some q => (q.1, q.2, p.2) | none => (0, 0, p.2)) = some cs) :
    StepOK P base X o a w H G (.agg cs) H := by
  obtain ⟨h1, u, h2, h3⟩ := zeroOf_ok hz
  have hl := ivs_ok (w := w) (base := base) (X := X) (H := H) (G := G) h1
  rw [← h2] at hl
  obtain ⟨arr', e1, e2, e3, e4⟩ := fill_ok (fun i => fs[i]?) parts.toList _ _ u.cells cs hT rfl (fun p hp => List.all_eq_true.1 hpl p hp) (by rw [h2] at hl ⊢; exact hl) hf
  refine StepOK.value (x := .agg arr') hS ?_ (.agg e2)
  simp only [execOp, ho, Instr.build, Sem.run_bind, h3, Result.andThen_ok, run_underlying hu]
  rw [Array.mapM_eq_mapM_toList]
  simp only [Sem.run_map, run_places w _ _ hfs, Result.andThen_ok]
  have e5 : Instr.fill (fun x => fs.toArray[x]?) u.cells (parts.map fun p => (p.1, a.eval p.2)).toList = some arr' := by
    rw [← e1, Array.toList_map]
    congr 1
    funext i
    simp
  have e6 : (parts.map fun (x : Nat × Operand) => match x with | (i, x) => (i, a.eval x)) = parts.map fun p => (p.1, a.eval p.2) := rfl
  rw [e6, e5]
  rfl

theorem ok_buildArray {ty e : TypeId} {n z : Nat} {parts : Array (Nat × Operand)} {zero : List Value} {cs : List V} (hS : SimH base X w H G) (hT : TV w base (Mof X H G) H G t a.tmps)
    (ho : o.op = .build ty parts) (hu : P.underlying ty = some (.array n e)) (hz : zeroOf P ty = some zero) (hs : szOf P e = some z)
    (hf : fillV ⟨t, H⟩ (ivs zero) (parts.toList.map fun p => (p.1 * z, z, p.2)) = some cs) : StepOK P base X o a w H G (.agg cs) H := by
  obtain ⟨h1, u, h2, h3⟩ := zeroOf_ok hz
  have hl := ivs_ok (w := w) (base := base) (X := X) (H := H) (G := G) h1
  rw [← h2] at hl
  obtain ⟨arr', e1, e2, e3, e4⟩ := fill_ok (fun i => some (i * z, z)) parts.toList _ _ u.cells cs hT rfl (fun _ _ => rfl) (by rw [h2] at hl ⊢; exact hl) hf
  refine StepOK.value (x := .agg arr') hS ?_ (.agg e2)
  simp only [execOp, ho, Instr.build, Sem.run_bind, h3, Result.andThen_ok, run_underlying hu, run_szOf hs]
  have e6 : (parts.map fun (x : Nat × Operand) => match x with | (i, x) => (i, a.eval x)).toList = parts.toList.map fun p => (p.1, a.eval p.2) := by rw [Array.toList_map]
  rw [e6, e1]
  rfl

theorem rep_range (zero : Array Value) (hp : 0 < zero.size) : ∀ n, (List.range (n * zero.size)).map (fun i => zero[i % zero.size]!) = (List.replicate n zero.toList).flatten
  | 0 => by simp
  | n + 1 => by
    rw [Nat.add_mul, Nat.one_mul, List.range_add, List.map_append, rep_range zero hp n, List.replicate_succ', List.flatten_append, List.map_map]
    congr 1
    simp only [List.flatten_cons, List.flatten_nil, List.append_nil]
    apply List.ext_getElem
    · simp
    · intro i h1 h2
      simp at h1 h2 ⊢
      rw [Nat.mod_eq_of_lt h2]
      simp [h2]

theorem rep_range' (zero : Array Value) (hp : 0 < zero.size) (n : Nat) : ((Array.range (n * zero.size)).map (fun i => zero[i % zero.size]!)).toList = (List.replicate n zero.toList).flatten := by
  rw [Array.toList_map, Array.toList_range, rep_range zero hp n]

theorem ivs_rep (n : Nat) (zs : List Value) : (List.replicate n (ivs zs)).flatten = ivs ((List.replicate n zs).flatten) := by
  unfold ivs
  rw [List.map_flatten, List.map_replicate]

theorem rep_plain {zs : List Value} (h : zs.all plain = true) (n : Nat) : ((List.replicate n zs).flatten).all plain = true := by
  rw [List.all_flatten]
  simp only [List.all_eq_true]
  intro l hl
  rw [(List.mem_replicate.1 hl).2]
  exact List.all_eq_true.1 h

theorem rep_length (zs : List Value) (n : Nat) : ((List.replicate n zs).flatten).length = n * zs.length := by
  simp [List.length_flatten, List.map_replicate, List.sum_replicate_nat]

theorem ok_buildSl {slot : Option Nat} {ty e : TypeId} {n z : Nat} {ag : Bool} {parts : Array (Nat × Operand)} {zero : List Value} {cs : List V} {b : Nat} (hS : SimH base X w H G) (hT : TV w base (Mof X H G) H G t a.tmps)
    (ho : o.op = .buildSlice ty n parts) (hu : P.underlying ty = some (.slice e)) (hs : szOf P e = some z) (hz : zeroOf P e = some zero) (hzl : zero.length = z) (hzp : 0 < z) (hmax : n * z ≤ 16777216)
    (hf : fillV ⟨t, H⟩ ((List.replicate n (ivs zero)).flatten) (parts.toList.map fun p => (p.1 * z, z, p.2)) = some cs) (hn : newSlot slot H (.cells cs) = some (b, H')) :
    StepOK P base X o a w H G (.hsl b cs.length 0 z ag n) H' := by
  obtain ⟨h1, u, h2, h3⟩ := zeroOf_ok hz
  have husz : u.cells.size = z := by rw [← hzl, ← h2]; simp
  rw [ivs_rep] at hf
  have hrp := rep_plain h1 n
  have hl := ivs_ok (w := w) (base := base) (X := X) (H := H) (G := G) hrp
  have hone := plains_one hrp
  obtain ⟨zc, hzc, hzcl⟩ : ∃ zc : Array Value, ((n * z = 0 ∧ zc = #[]) ∨ (n * z ≠ 0 ∧ zc = u.cells)) ∧ ((Array.range (n * z)).map (fun i => zc[i % zc.size]!)).toList = (List.replicate n zero).flatten := by
    by_cases h0 : n * z = 0
    · refine ⟨#[], .inl ⟨h0, rfl⟩, ?_⟩
      have : n = 0 := by rcases Nat.mul_eq_zero.1 h0 with h | h <;> omega
      subst this
      simp
    · refine ⟨u.cells, .inr ⟨h0, rfl⟩, ?_⟩
      have := rep_range' u.cells (by omega) n
      rw [husz] at this
      rw [← h2, ← this, husz]
  obtain ⟨arr', e1, e2, e3, e4⟩ := fill_ok (fun i => some (i * z, z)) parts.toList _ _ ((Array.range (n * z)).map (fun i => zc[i % zc.size]!)) cs hT rfl (fun _ _ => rfl) (by rw [hzcl]; exact hl) hf
  have hal := e2.length
  have hcl : cs.length = n * z := by rw [e4]; simp only [ivs, List.length_map, rep_length, hzl]
  obtain ⟨G', hE, hS', hr, hg, hb⟩ := new_ok (arr := arr') e hS hn (by simp at hal; omega) (by rw [List.take_of_length_le (by omega)]; exact e2) (e3 hone)
  refine StepOK.value' (x := .slice (some ⟨w.heap.size, 0, none⟩) n n) ?_ hE hS' (.hsl hr (by rw [hb]; intro e; cases e) hzp (Nat.le_refl _) ?_)
  · simp only [execOp, ho, Instr.buildSlice, Sem.run_bind, run_underlying hu, Result.andThen_ok, run_szOf hs]
    rw [if_neg (by omega)]
    have e6 : (parts.map fun (x : Nat × Operand) => match x with | (i, x) => (i, a.eval x)).toList = parts.toList.map fun p => (p.1, a.eval p.2) := by rw [Array.toList_map]
    rcases hzc with ⟨z0, rfl⟩ | ⟨z0, rfl⟩
    · rw [if_pos z0]
      simp only [Sem.run_bind, Sem.run_pure, Result.andThen_ok]
      rw [e6, e1]
      simp only [newRow, Sem.run_bind, run_newObj, Result.andThen_ok, Sem.run_pure]
      rfl
    · rw [if_neg z0]
      simp only [Sem.run_bind, Sem.run_pure, Result.andThen_ok, h3]
      rw [e6, e1]
      simp only [newRow, Sem.run_bind, run_newObj, Result.andThen_ok, Sem.run_pure]
      rfl
  · intro cs' hc
    rw [hg]
    simp at hal
    exact ⟨fun _ => rfl, by omega, arr'.size, by omega, by unfold blockSize; rw [heap_push_new]⟩

theorem ok_makeSl {slot : Option Nat} {ty e : TypeId} {z y : Nat} {ag : Bool} {zero : List Value} {lo co : Operand} {l c : Int} {b : Nat} (hS : SimH base X w H G) (hT : TV w base (Mof X H G) H G t a.tmps)
    (ho : o.op = .makeSlice ty lo co) (hu : P.underlying ty = some (.slice e)) (hs : szOf P e = some z) (hz : zeroOf P e = some zero) (hy : byOf P e = some y) (hzl : zero.length = z) (hzp : 0 < z) (hyp : 0 < y)
    (hl : intV (St.ev ⟨t, H⟩ lo) = some l) (hc : intV (St.ev ⟨t, H⟩ co) = some c) (h0 : 0 ≤ l) (h1 : l ≤ c) (h2 : c * y ≤ 281474976710656) (h3 : c ≤ 9223372036854775807)
    (hn : newSlot slot H (.cells ((List.replicate l.toNat (ivs zero)).flatten)) = some (b, H')) :
    StepOK P base X o a w H G (.hsl b (l.toNat * z) 0 z ag l.toNat) H' := by
  obtain ⟨g1, u, g2, g3⟩ := zeroOf_ok hz
  have husz : u.cells.size = z := by rw [← hzl, ← g2]; simp
  obtain ⟨kl, el⟩ := intV_ok (ev_ok (h := H) hT lo) hl
  obtain ⟨kc, ec⟩ := intV_ok (ev_ok (h := H) hT co) hc
  have wl : IntKind.i64.wrap l = l := by rw [Go.IntKind.wrap_i64]; omega
  have wc : IntKind.i64.wrap c = c := by rw [Go.IntKind.wrap_i64]; omega
  obtain ⟨inf, hi, hib⟩ := Option.map_eq_some_iff.1 hy
  rw [ivs_rep] at hn
  have hrp := rep_plain g1 l.toNat
  have hlen : (ivs ((List.replicate l.toNat zero).flatten)).length = l.toNat * z := by simp only [ivs, List.length_map, rep_length, hzl]
  obtain ⟨zc, hzc, hzcl⟩ : ∃ zc : Array Value, ((c.toNat * z = 0 ∧ zc = #[]) ∨ (c.toNat * z ≠ 0 ∧ zc = u.cells)) ∧ ((Array.range (c.toNat * z)).map (fun i => zc[i % zc.size]!)).toList = (List.replicate c.toNat zero).flatten := by
    by_cases hz0 : c.toNat * z = 0
    · refine ⟨#[], .inl ⟨hz0, rfl⟩, ?_⟩
      have : c.toNat = 0 := by rcases Nat.mul_eq_zero.1 hz0 with h | h <;> omega
      rw [this]
      simp
    · refine ⟨u.cells, .inr ⟨hz0, rfl⟩, ?_⟩
      have := rep_range' u.cells (by omega) c.toNat
      rw [husz] at this
      rw [← g2, ← this, husz]
  have hrep : (List.replicate c.toNat zero).flatten = (List.replicate l.toNat zero).flatten ++ (List.replicate (c.toNat - l.toNat) zero).flatten := by
    rw [← List.flatten_append, List.replicate_append_replicate]
    congr 2; omega
  have hasz : ((Array.range (c.toNat * z)).map (fun i => zc[i % zc.size]!)).size = c.toNat * z := by simp
  have hmul : l.toNat * z ≤ c.toNat * z := Nat.mul_le_mul_right _ (by omega)
  obtain ⟨G', hE, hS', hr, hg, hb⟩ := new_ok (arr := (Array.range (c.toNat * z)).map (fun i => zc[i % zc.size]!)) e hS hn (by omega) (by
    rw [hzcl, hrep, hlen, List.take_append_of_le_length (by rw [rep_length, hzl]; omega), List.take_of_length_le (by rw [rep_length, hzl]; omega)]
    exact ivs_ok hrp) (plains_one hrp)
  rw [hlen] at hr
  refine StepOK.value' (x := .slice (some ⟨w.heap.size, 0, none⟩) l.toNat c.toNat) ?_ hE hS' (.hsl hr (by rw [hb]; intro e; cases e) hzp (by omega) ?_)
  · simp only [execOp, ho, Instr.makeSlice, Sem.run_bind, run_underlying hu, Result.andThen_ok, el, ec, asInt, asIntOf, Sem.run_pure, typeInfo, run_program, hi, wl, wc, hib]
    have hn1 : decide (c < 0) = false := by simp; omega
    have hn2 : decide ((y : Int) * c > 2 ^ 48) = false := by
      rw [Int.mul_comm] at h2
      simp; omega
    have hn3 : decide (l < 0) = false := by simp; omega
    have hn4 : decide (l > c) = false := by simp; omega
    simp only [hn1, hn2, hn3, hn4, Bool.or_self, Bool.false_eq_true, if_false, Sem.run_bind, run_askRoom, Result.andThen_ok, run_szOf hs]
    rcases hzc with ⟨z0, rfl⟩ | ⟨z0, rfl⟩
    · rw [if_pos z0]
      simp only [Sem.run_bind, Sem.run_pure, Result.andThen_ok, newRow, run_newObj]
      rfl
    · rw [if_neg z0]
      simp only [Sem.run_bind, Sem.run_pure, Result.andThen_ok, g3, newRow, run_newObj]
      rfl
  · intro cs' hc'
    rw [hg]
    exact ⟨fun _ => rfl, by omega, c.toNat * z, by omega, by unfold blockSize; rw [heap_push_new]; simp only [hasz]⟩

end
end Go.AM

set_option linter.unusedVariables false
set_option linter.unusedSimpArgs false
namespace Go.AM

section
variable {P : Program} {base : Nat} {X : Nat → Prop} {o : Oper} {a : Act} {w : World} {H H' : Heap} {G : List Nat} {v : V} {t : Nat → V}

/-- The cells of a good block are changed where they lie. -/
theorem change_ok {w' : World} {b k : Nat} {cs cs' : List V} {arr arr' : Array Value} {ty : TypeId} (hS : SimH base X w H G) (hb : H[b]? = some (.cells cs)) (hg : G[b]? = some k) (hw : w.heap[k]? = some (.cells arr ty (0, 0)))
    (hw' : w'.heap[k]? = some (.cells arr' ty (0, 0))) (hsz : arr'.size = arr.size) (hlen : cs.length ≤ cs'.length) (hle : cs'.length ≤ arr'.size)
    (hos : w'.os = w.os) (htape : w'.tape = w.tape) (hout : w'.output = w.output) (hsize : w'.heap.size = w.heap.size) (hkeep : ∀ k', k' ≠ k → w'.heap[k']? = w.heap[k']?)
    (hl : RVL w base (Mof X H G) H G cs' (arr'.toList.take cs'.length)) (ho : ∀ y, y ∈ cs' → y.one = true) :
    Ext w H G w' (H.set b (.cells cs')) G ∧ SimH base X w' (H.set b (.cells cs')) G := by
  have hlt : b < H.length := (List.getElem?_eq_some_iff.1 hb).1
  have hset : (H.set b (.cells cs'))[b]? = some (.cells cs') := by simp [hlt]
  have hne : ∀ b', b' ≠ b → (H.set b (.cells cs'))[b']? = H[b']? := fun b' h => List.getElem?_set_ne (Ne.symm h)
  have hE : Ext w H G w' (H.set b (.cells cs')) G :=
    Ext.change hS b _ _ k k hb rfl hg hne (fun _ _ => rfl) hset hg (.inl rfl) ⟨hlen, fun _ => ⟨rfl, by unfold blockSize; rw [hw, hw']; simp [hsz]⟩⟩ hos htape hout (by omega) (fun k1 _ h => hkeep k1 h)
  refine ⟨hE, hS.upd b _ k (by simp [hS.len]) hne (fun _ _ => rfl) hset hE ?_ ?_⟩
  · intro b1 s1 k1 h1 h2 h3 h4
    refine hkeep k1 ?_
    rintro rfl
    exact h1 (hS.inj b1 b s1 _ _ h2 h3 hb rfl h4 hg)
  · intro _
    obtain ⟨k2, c1, _, c3, _⟩ := hS.block b _ hb rfl
    rw [hg] at c1
    cases c1
    exact ⟨hg, by omega, .inl ⟨_, hb, rfl, hg⟩, arr', ty, hw', hle, hl.ext hE, ho⟩

theorem ok_storeC {ty : TypeId} {z : Nat} {p x : Operand} {ys : List V} {pv : V} (hS : SimH base X w H G) (h : RV w base (Mof X H G) H G pv (a.eval p)) (hxl : ys.all V.one = true → RVL w base (Mof X H G) H G ys (a.eval x).cells.toList) (ho : o.op = .store ty p x) (hz : szOf P ty = some z)
    (hv : stepStoreC z H ys pv = some H') : StepOK P base X o a w H G undefV H' := by
  unfold stepStoreC at hv
  split at hv
  · rename_i b g off
    obtain ⟨cs, hcs, hv2⟩ := Option.bind_eq_some_iff.1 hv
    split at hv2
    · rename_i hc
      obtain ⟨c1, c2, c3⟩ := hc
      cases hv2
      generalize hu2 : a.eval p = u at h
      cases h with
      | ptr hr hn hval =>
        replace hcs := getCells_not hcs hn
        obtain rfl := hval cs hcs
        obtain ⟨arr, ty', g1, e1, e2, e3, e4, e5, e6⟩ := hS.at hcs
        replace hxl := hxl c1
        have hxlen := hxl.length
        simp at hxlen
        have hone : ∀ q, q ∈ (a.eval x).cells.toList → q.oneCell' = true := by
          intro q hq
          obtain ⟨j, hj⟩ := List.getElem?_of_mem hq
          have hj2 : j < ys.length := by
            have := (List.getElem?_eq_some_iff.1 hj).1; simp at this; omega
          obtain ⟨q', h1, h2⟩ := hxl.get j ys[j] (List.getElem?_eq_getElem hj2)
          rw [hj] at h1
          cases h1
          exact h2.one (List.all_eq_true.1 c1 _ (List.getElem_mem hj2))
        obtain ⟨w', arr', r1, r2, r3, r4, r5, r6, r7, r8⟩ := run_storeCells P (G.getD b 0) ty' off (a.eval x).cells.toList 0 w arr e1 (by simp; omega) hone
        have hasz : arr'.size = arr.size := by
          have := congrArg List.length r8
          simp at this; omega
        have hspl := splice_ok (off := off) e4 hxl
        have htake : arr'.toList.take (splice cs off ys).length = (arr.toList.take cs.length).take off ++ (a.eval x).cells.toList ++ (arr.toList.take cs.length).drop (off + (a.eval x).cells.toList.length) := by
          rw [splice_length (by omega), r8, Nat.add_zero, List.take_take, Nat.min_eq_left (by omega)]
          rw [List.drop_take]
          have l1 : (arr.toList.take off ++ (a.eval x).cells.toList).length = off + ys.length := by simp; omega
          have l2 : (a.eval x).cells.toList.length = ys.length := by simp; omega
          rw [List.take_append, l1, List.take_of_length_le (by omega), l2]
        obtain ⟨hE, hS'⟩ := change_ok (cs' := splice cs off ys) hS e6 g1 e1 r7 hasz (by rw [splice_length (by omega)]; exact Nat.le_refl _) (by rw [splice_length (by omega)]; omega) r2 r3 r4 r5 r6 (by rw [htake]; exact hspl) (by
          intro q hq
          unfold splice at hq
          rcases List.mem_append.1 hq with hq | hq
          · rcases List.mem_append.1 hq with hq | hq
            · exact e5 q (List.mem_of_mem_take hq)
            · exact List.all_eq_true.1 c1 q hq
          · exact e5 q (List.mem_of_mem_drop hq))
        intro next Q hn
        unfold Oper.wp
        have hrun : (execOp a.eval o).run P w = .ok .skip w' := by
          simp only [execOp, ho, Instr.storeAt, hu2, Instr.sureAddr, storeVar, Sem.run_bind, Sem.run_pure, Result.andThen_ok, run_szOf hz]
          rw [if_neg (by simp; omega)]
          rw [r1]
          rfl
        rw [hrun]
        exact hn undef w' G hE hS' RV.undef
    · cases hv2
  · cases hv

theorem ok_store {ty : TypeId} {z : Nat} {p x : Operand} (hS : SimH base X w H G) (hT : TV w base (Mof X H G) H G t a.tmps) (ho : o.op = .store ty p x) (hz : szOf P ty = some z)
    (hv : stepStore z H (St.ev ⟨t, H⟩ x) (St.ev ⟨t, H⟩ p) = some H') : StepOK P base X o a w H G undefV H' :=
  ok_storeC hS (ev_ok (h := H) hT p) (fun h1 => cells_ok (ev_ok (h := H) hT x) h1) ho hz hv

theorem virtV_ok {M : Nat → Prop} : ∀ (ys : List V) (vs : List Value) (ht : List (Nat × Bool)) (b : Nat), RVL w base M H G ys vs → (∀ j, j < nilsV ys → H[b + j]? = some .virt) → RVL w base M H G (virtV ht b ys) vs
  | [], _, ht, b, .nil, _ => .nil
  | y :: ys, _, ht, b, .cons h hs, hv => by
    unfold virtV
    unfold nilsV at hv
    split
    · rename_i e
      rw [if_pos e] at hv
      obtain rfl := isNil_eq e
      have h0 : H[b]? = some .virt := hv 0 (by omega)
      cases h with
      | i hi =>
        cases hi
        refine .cons (.hnil ⟨⟨_, h0, by intro e; cases e⟩, (fun cs hc => by rw [h0] at hc; cases hc), fun _ => rfl⟩ (by unfold cellsAt; rw [h0])) (virtV_ok ys _ _ (b + 1) hs ?_)
        intro j hj
        have := hv (j + 1) (by omega)
        rwa [show b + 1 + j = b + (j + 1) from by omega]
    · rename_i e
      rw [if_neg e] at hv
      exact .cons h (virtV_ok ys _ _ b hs hv)

theorem virtV_one : ∀ (ys : List V) (ht : List (Nat × Bool)) (b : Nat), (virtV ht b ys).all V.one = true → ys.all V.one = true
  | [], _, _, _ => rfl
  | y :: ys, ht, b, h => by
    unfold virtV at h
    split at h
    · rename_i e
      obtain rfl := isNil_eq e
      simp only [List.all_cons, Bool.and_eq_true] at h ⊢
      exact ⟨rfl, virtV_one ys _ _ h.2⟩
    · simp only [List.all_cons, Bool.and_eq_true] at h ⊢
      exact ⟨h.1, virtV_one ys _ _ h.2⟩

theorem ok_storeV {ty : TypeId} {ht : List (Nat × Bool)} {z : Nat} {p x : Operand} (hS : SimH base X w H G) (hT : TV w base (Mof X H G) H G t a.tmps) (ho : o.op = .store ty p x) (hz : szOf P ty = some z)
    (hv : stepStoreC z (H ++ List.replicate (nilsV (St.ev ⟨t, H⟩ x).cells) .virt) (virtV ht H.length (St.ev ⟨t, H⟩ x).cells) (St.ev ⟨t, H⟩ p) = some H') : StepOK P base X o a w H G undefV H' := by
  obtain ⟨G1, hE, hS1⟩ := virts_ok (nilsV (St.ev ⟨t, H⟩ x).cells) hS
  have hp := (ev_ok (h := H) hT p).ext hE
  have hx := fun h1 => (cells_ok (ev_ok (h := H) hT x) h1).ext hE
  have hstep := ok_storeC (P := P) (o := o) (a := a) hS1 hp (fun h1 => virtV_ok _ _ ht H.length (hx (virtV_one _ _ _ h1)) (by
    intro j hj
    rw [List.getElem?_append_right (by omega)]
    simp [hj])) ho hz hv
  intro next Q hn
  refine hstep next Q ?_
  intro x' w' G' hE' hS' hv'
  exact hn x' w' G' (hE.trans hE') hS' hv'

theorem run_firstCells_slice {z n : Nat} {p : Option Addr} {vs : List Value} {cap : Nat} (hl : vs.length = n * z) (h : 0 < vs.length → ∃ q, p = some q ∧ Reads w q vs) (w' : World) (hw : ∀ q, p = some q → ∀ j, j < vs.length → w'.cell? (q.add j) = w.cell? (q.add j)) :
    (Builtin.firstCells z n (.slice p n cap)).run P w' = .ok vs.toArray w' := by
  cases p with
  | none =>
    have : vs = [] := by
      cases vs with
      | nil => rfl
      | cons _ _ => obtain ⟨q, hq, _⟩ := h (by simp); cases hq
    subst this
    simp [Builtin.firstCells]
  | some q =>
    simp only [Builtin.firstCells]
    refine run_loadCells P w' q vs _ hl ?_
    intro j hj
    rw [hw q rfl j hj]
    obtain ⟨q', hq, hr⟩ := h (by omega)
    cases hq
    exact hr j hj

/-- What is appended, whatever it lies in. -/
theorem src_ok {x : V} {u : Value} {n z : Nat} {ys : List V} (hS : SimH base X w H G) (h : RV w base (Mof X H G) H G x u) (hn : lenV x = some n) (hc : srcCells H x = some ys) (hl : ys.length = n * z) (hone : ys.all V.one = true) :
    ∃ vs, vs.length = ys.length ∧ RVL w base (Mof X H G) H G ys vs ∧ (Builtin.lenOf u).run P w = .ok n w ∧ (∀ w', (∀ k, k < w.heap.size → w'.heap[k]? = w.heap[k]?) → (Builtin.firstCells z n u).run P w' = .ok vs.toArray w') ∧ ∀ q, q ∈ vs → q.oneCell' = true := by
  have hones : ∀ {vs : List Value}, RVL w base (Mof X H G) H G ys vs → ∀ q, q ∈ vs → q.oneCell' = true := by
    intro vs hvs q hq
    obtain ⟨j, hj⟩ := List.getElem?_of_mem hq
    have hj2 : j < ys.length := by
      have := (List.getElem?_eq_some_iff.1 hj).1; rw [hvs.length] at this; exact this
    obtain ⟨q', h1, h2⟩ := hvs.get j ys[j] (List.getElem?_eq_getElem hj2)
    rw [hj] at h1
    cases h1
    exact h2.one (List.all_eq_true.1 hone _ (List.getElem_mem hj2))
  rcases lenV_ok h hn with ⟨p, cap, rfl⟩ | ⟨s, rfl, hs⟩
  · obtain ⟨vs, h1, h2, h3, h4⟩ := srcCells_ok hS h hc hl
    refine ⟨vs, h1, h2, by simp [Builtin.lenOf], ?_, hones h2⟩
    intro w' hw
    refine run_firstCells_slice (w := w) (by omega) (by rw [h1]; exact h3) w' ?_
    intro q hq j hj
    obtain ⟨q', hq', hr⟩ := h3 (by omega)
    rw [hq] at hq'
    cases hq'
    have hcell := hr j hj
    have hlt := World.block_lt_of_cell? w _ hcell
    exact World.cell?_of_block (w := w) (hw _ hlt)
  · have hx : x = .i (.s (.string s)) := by
      unfold lenV at hn
      split at hn
      · cases h
      · cases h with
        | i hi => cases hi
      · cases h with
        | i hi => cases hi; rfl
      · cases h with
        | i hi => cases hi
      · cases hn
    subst hx
    simp only [srcCells] at hc
    cases hc
    have h2 : RVL w base (Mof X H G) H G (s.data.toList.map fun b => V.i (.s (.int .u8 b.toNat))) (s.data.toList.map fun b => Value.int .u8 b.toNat) := by
      have := ivs_ok (w := w) (base := base) (X := X) (H := H) (G := G) (zs := s.data.toList.map fun b => Value.int .u8 b.toNat) (by rw [List.all_map]; exact List.all_eq_true.2 (fun _ _ => rfl))
      simpa [ivs, Function.comp_def] using this
    refine ⟨_, h2.length, h2, by simp [Builtin.lenOf, hs], ?_, hones h2⟩
    intro w' _
    have hn2 : s.data.size = n := hs
    have hext : s.extract 0 n = s := by
      apply ByteArray.ext
      simp [ByteArray.data_extract, ← hn2]
    simp only [Builtin.firstCells, hext]
    simp only [Sem.run_pure]
    congr 1
    apply Array.ext'
    simp

end
end Go.AM

set_option linter.unusedVariables false
set_option linter.unusedSimpArgs false
namespace Go.AM

theorem growBy_le (n : Nat) : ∀ (r c : Nat), 256 ≤ c → c ≤ 2 * n → Builtin.growBy n r c ≤ 2 * n
  | 0, c, _, h => by simpa [Builtin.growBy] using h
  | r + 1, c, h0, h => by
    unfold Builtin.growBy
    split
    · exact h
    · exact growBy_le n r _ (by omega) (by omega)

theorem nextslicecap_le (n c : Nat) (h : c < n) : Builtin.nextslicecap n c ≤ 2 * n := by
  unfold Builtin.nextslicecap
  split
  · omega
  · split
    · omega
    · exact growBy_le n 4 c (by omega) (by omega)

section
variable {P : Program} {base : Nat} {X : Nat → Prop} {o : Oper} {a : Act} {w : World} {H H' : Heap} {G : List Nat} {v : V} {t : Nat → V}

/-- What the compiler looked at ahead of an append. -/
structure AppTy (P : Program) (t1 t2 e : TypeId) (z y : Nat) : Prop where
  hu : P.underlying t1 = some (.slice e)
  hz : szOf P e = some z
  hy : byOf P e = some y
  hi : isInt P t2 = false
  h2 : (P.underlying t2).isSome = true
  yp : 0 < y
  zp : 0 < z
  hzero : (zeroOf P e).map List.length = some z

theorem isInt_no {t2 : TypeId} {d : TypeDesc} (h : isInt P t2 = false) (hd : P.underlying t2 = some d) (k : IntKind) : d ≠ .int k := by
  rintro rfl
  unfold isInt at h
  rw [hd] at h
  simp at h

theorem run_append_room {t1 t2 e : TypeId} {z y n len cap : Nat} {ty : TypeId} {p : Option Addr} {u : Value} {vs : List Value} (hA : AppTy P t1 t2 e z y) (hlen : (Builtin.lenOf u).run P w = .ok n w)
    (hfirst : (Builtin.firstCells z n u).run P w = .ok vs.toArray w) (hroom : len + n ≤ cap) :
    (Builtin.append_ #[t1, t2] ty #[.slice p len cap, u]).run P w =
      match p with
      | some q => ((storeCells (q.add (len * z)) vs).run P w).andThen fun _ w' => .ok (.slice (some q) (len + n) cap) w'
      | none => .ok (.slice none (len + n) cap) w := by
  obtain ⟨d2, hd2⟩ := Option.isSome_iff_exists.1 hA.h2
  have hni := isInt_no hA.hi hd2
  unfold Builtin.append_
  cases d2
  case int k => exact absurd rfl (hni k)
  all_goals
    simp only [List.getElem?_toArray, List.getElem?_cons_zero, List.getElem?_cons_succ, Sem.run_bind, run_underlying hA.hu, Result.andThen_ok, run_szOf hA.hz, run_underlying hd2, Sem.run_pure, Bool.false_eq_true, if_false, hlen]
    rw [if_pos hroom]
    simp only [Bool.not_false, if_true, Sem.run_bind, hfirst, Result.andThen_ok]
    cases p with
    | none => simp
    | some q => simp

theorem run_append_grow {t1 t2 e : TypeId} {z y n len cap : Nat} {ty : TypeId} {p : Option Addr} {u : Value} {os vs : List Value} (hA : AppTy P t1 t2 e z y) (hlen : (Builtin.lenOf u).run P w = .ok n w)
    (hold : (Builtin.firstCells z len (.slice p len cap)).run P w.drew = .ok os.toArray w.drew) (hfirst : (Builtin.firstCells z n u).run P w.drew = .ok vs.toArray w.drew) (hroom : cap < len + n) (hmax : (len + n) * y ≤ 140737488355328) :
    ∃ (nc : Nat) (rest : Array Value), len + n ≤ nc ∧ rest.size = (nc - (len + n)) * z ∧
      (Builtin.append_ #[t1, t2] ty #[.slice p len cap, u]).run P w = .ok (.slice (some ⟨w.heap.size, 0, none⟩) (len + n) nc) (w.drew.alloc (.cells (os.toArray ++ vs.toArray ++ rest) e)) := by
  obtain ⟨d2, hd2⟩ := Option.isSome_iff_exists.1 hA.h2
  have hni := isInt_no hA.hi hd2
  obtain ⟨inf, hinf, hib⟩ := Option.map_eq_some_iff.1 hA.hy
  obtain ⟨zs, hzs, hzl⟩ := Option.map_eq_some_iff.1 hA.hzero
  obtain ⟨_, uz, hz2, hz3⟩ := zeroOf_ok hzs
  have huz : uz.cells.size = z := by rw [← hzl, ← hz2]; simp
  have hcapn := nextslicecap_le (len + n) cap hroom
  have hnoforce : Question.forced (.appendCap (len + n) cap e) = false := rfl
  have hcut : len + n ≤ Question.cut (.appendCap (len + n) cap e) (w.tape w.drawn (.appendCap (len + n) cap e)) := by
    simp only [Question.cut]; omega
  generalize hnc : Question.cut (.appendCap (len + n) cap e) (w.tape w.drawn (.appendCap (len + n) cap e)) = nc at hcut
  refine ⟨nc, Builtin.zeroCells uz.cells (nc - (len + n)), hcut, by simp [Builtin.zeroCells, huz], ?_⟩
  have hyp := hA.yp
  have hb : ¬ (Builtin.nextslicecap (len + n) cap * y > 2 ^ 48) := by
    have : Builtin.nextslicecap (len + n) cap * y ≤ 2 * (len + n) * y := Nat.mul_le_mul_right _ hcapn
    rw [Nat.mul_assoc] at this
    omega
  have hold' := hold
  have hfirst' := hfirst
  unfold World.drew at hold' hfirst'
  unfold Builtin.append_
  cases d2
  case int k => exact absurd rfl (hni k)
  all_goals
    simp only [List.getElem?_toArray, List.getElem?_cons_zero, List.getElem?_cons_succ, Sem.run_bind, run_underlying hA.hu, Result.andThen_ok, run_szOf hA.hz, run_underlying hd2, Sem.run_pure, Bool.false_eq_true, if_false, hlen]
    rw [if_neg (by omega)]
    simp only [typeInfo, Sem.run_bind, run_program, hinf, Result.andThen_ok, Sem.run_pure, hib]
    rw [if_neg (by intro h; rcases h.2 with h | h <;> omega)]
    simp only [Sem.run_bind, Sem.run_pure, Result.andThen_ok, run_program, hinf, hib]
    rw [if_neg hb]
    simp only [Sem.run_bind, run_choose, hnoforce, Bool.false_eq_true, if_false, Result.andThen_ok, hnc, run_askRoom]
    simp only [run_program, hinf, Result.andThen_ok, Sem.run_pure, hold', Bool.not_false, if_true, hfirst', hz3, newRow, Sem.run_bind, run_newObj, run_askRoom]
    rfl

end
end Go.AM

set_option linter.unusedVariables false
set_option linter.unusedSimpArgs false
namespace Go.AM

section
variable {P : Program} {base : Nat} {X : Nat → Prop} {o : Oper} {a : Act} {w : World} {H H' : Heap} {G : List Nat} {v : V} {t : Nat → V}

/-- The cells of a good block, more of them, elsewhere. -/
theorem relocate_ok {w' : World} {b k : Nat} {cs cs' : List V} {arr' : Array Value} {ty : TypeId} (hS : SimH base X w H G) (hb : H[b]? = some (.cells cs))
    (hw' : w'.heap[k]? = some (.cells arr' ty (0, 0))) (hk : w.heap.size ≤ k) (hlen : cs.length < cs'.length) (hle : cs'.length ≤ arr'.size)
    (hos : w'.os = w.os) (htape : w'.tape = w.tape) (hout : w'.output = w.output) (hsize : w.heap.size ≤ w'.heap.size) (hkeep : ∀ k', k' < w.heap.size → w'.heap[k']? = w.heap[k']?)
    (hl : RVL w base (Mof X H G) H G cs' (arr'.toList.take cs'.length)) (ho : ∀ y, y ∈ cs' → y.one = true) :
    Ext w H G w' (H.set b (.cells cs')) (G.set b k) ∧ SimH base X w' (H.set b (.cells cs')) (G.set b k) := by
  have hlt : b < H.length := (List.getElem?_eq_some_iff.1 hb).1
  obtain ⟨k0, g0, _, _, _⟩ := hS.block b _ hb rfl
  have hset : (H.set b (.cells cs'))[b]? = some (.cells cs') := by simp [hlt]
  have hgset : (G.set b k)[b]? = some k := by simp [hS.len, hlt]
  have hne : ∀ b', b' ≠ b → (H.set b (.cells cs'))[b']? = H[b']? := fun b' h => List.getElem?_set_ne (Ne.symm h)
  have hgne : ∀ b', b' ≠ b → (G.set b k)[b']? = G[b']? := fun b' h => List.getElem?_set_ne (Ne.symm h)
  have hE : Ext w H G w' (H.set b (.cells cs')) (G.set b k) :=
    Ext.change hS b _ _ k0 k hb rfl g0 hne hgne hset hgset (.inr hk) ⟨by omega, fun e => by omega⟩ hos htape hout hsize (fun k1 h1 _ => hkeep k1 h1)
  refine ⟨hE, hS.upd b _ k (by simp [hS.len]) hne hgne hset hE ?_ ?_⟩
  · intro b1 s1 k1 h1 h2 h3 h4
    obtain ⟨k2, c1, _, c3, _⟩ := hS.block b1 s1 h2 h3
    rw [h4] at c1
    cases c1
    exact hkeep _ c3
  · intro _
    exact ⟨hgset, (Array.getElem?_eq_some_iff.1 hw').1, .inr hk, arr', ty, hw', hle, hl.ext hE, ho⟩

/-- A block is given up. -/
theorem kill_ok {b : Nat} {s : Slot} (hS : SimH base X w H G) (hb : H[b]? = some s) (hl : s.live = true) : Ext w H G w (H.set b .dead) G ∧ SimH base X w (H.set b .dead) G := by
  have hlt : b < H.length := (List.getElem?_eq_some_iff.1 hb).1
  obtain ⟨k0, g0, _, _, _⟩ := hS.block b _ hb hl
  have hset : (H.set b .dead)[b]? = some .dead := by simp [hlt]
  have hne : ∀ b', b' ≠ b → (H.set b .dead)[b']? = H[b']? := fun b' h => List.getElem?_set_ne (Ne.symm h)
  have hE : Ext w H G w (H.set b .dead) G :=
    Ext.change hS b s .dead k0 k0 hb hl g0 hne (fun _ _ => rfl) hset g0 (.inl rfl) (by cases s <;> first | trivial | cases hl) rfl rfl rfl (Nat.le_refl _) (fun _ _ _ => rfl)
  exact ⟨hE, hS.upd b .dead k0 (by simp [hS.len]) hne (fun _ _ => rfl) hset hE (fun _ _ _ _ _ _ _ => rfl) (fun h => by cases h)⟩

/-- A block is given up, and another takes its place in memory. -/
theorem move_ok {w' : World} {slot : Option Nat} {b b' k : Nat} {cs cs' : List V} {arr arr' : Array Value} {ty : TypeId} (hS : SimH base X w H G) (hb : H[b]? = some (.cells cs)) (hg : G[b]? = some k) (hw : w.heap[k]? = some (.cells arr ty (0, 0)))
    (hn : newSlot slot (H.set b .dead) (.cells cs') = some (b', H')) (hw' : w'.heap[k]? = some (.cells arr' ty (0, 0))) (hsz : arr'.size = arr.size) (hle : cs'.length ≤ arr'.size)
    (hos : w'.os = w.os) (htape : w'.tape = w.tape) (hout : w'.output = w.output) (hsize : w'.heap.size = w.heap.size) (hkeep : ∀ k', k' ≠ k → w'.heap[k']? = w.heap[k']?)
    (hl : RVL w base (Mof X H G) H G cs' (arr'.toList.take cs'.length)) (ho : ∀ y, y ∈ cs' → y.one = true) :
    ∃ G', Ext w H G w' H' G' ∧ SimH base X w' H' G' ∧ okRef H' b' cs'.length ∧ G'.getD b' 0 = k ∧ H'[b']? = some (.cells cs') := by
  have hlt : b < H.length := (List.getElem?_eq_some_iff.1 hb).1
  have hset : (H.set b .dead)[b]? = some .dead := by simp [hlt]
  have hne1 : ∀ c, c ≠ b → (H.set b .dead)[c]? = H[c]? := fun c h => List.getElem?_set_ne (Ne.symm h)
  obtain ⟨G', h1, h2, h3, h4, h5, h6⟩ := newSlot_at (G := G) (by simp [hS.len]) k hn
  have hbb : b' ≠ b := by
    rintro rfl
    exact h1 ⟨.dead, hset, by intro e; cases e⟩
  obtain ⟨k2, c1, c2, c3, c4, _⟩ := hS.block b _ hb rfl
  rw [hg] at c1
  cases c1
  have hdead : H'[b]? = some .dead := by rw [h2 b (Ne.symm hbb)]; exact hset
  have hHo : ∀ c, c ≠ b → c ≠ b' → H'[c]? = H[c]? := fun c d1 d2 => by rw [h2 c d2, hne1 c d1]
  have hfree : ¬ inUse H b' := by
    rintro ⟨s, e1, e2⟩
    exact h1 ⟨s, by rw [hne1 b' hbb]; exact e1, e2⟩
  have hE : Ext w H G w' H' G' := {
    os := hos, tape := htape, output := hout, size := by omega
    keep := fun k1 hk1 hno => hkeep k1 (fun e => hno (e ▸ ⟨b, _, hb, rfl, hg⟩))
    out := by
      rintro k1 hk1 hno ⟨c, s1, d1, d2, d3⟩
      by_cases e1 : c = b'
      · subst e1
        rw [h5] at d3
        cases d3
        exact hno ⟨b, _, hb, rfl, hg⟩
      · by_cases e2 : c = b
        · subst e2; rw [hdead] at d1; cases d1; cases d2
        · rw [hHo c e2 e1] at d1
          rw [h3 c e1] at d3
          exact hno ⟨c, s1, d1, d2, d3⟩
    use := by
      intro c hu
      by_cases e2 : c = b
      · subst e2; exact ⟨.dead, hdead, by intro e; cases e⟩
      · have e1 : c ≠ b' := fun e => hfree (e ▸ hu)
        exact (inUse_congr (hHo c e2 e1)).2 hu
    ref := by
      intro c g hr
      by_cases e2 : c = b
      · subst e2
        exact ⟨⟨.dead, hdead, by intro e; cases e⟩, (fun cs1 hc => by rw [hdead] at hc; cases hc), (fun hc => by rw [hdead] at hc; cases hc)⟩
      · have e1 : c ≠ b' := fun e => hfree (e ▸ hr.1)
        exact (okRef_congr (hHo c e2 e1)).2 hr
    virts := by
      intro c hu hc
      have e1 : c ≠ b' := fun e => hfree (e ▸ hu)
      by_cases e2 : c = b
      · subst e2
        rw [hdead] at hc
        cases hc
      · rwa [hHo c e2 e1] at hc
    cells := by
      intro c g cs1 hr hc
      have e1 : c ≠ b' := fun e => hfree (e ▸ hr.1)
      by_cases e2 : c = b
      · subst e2
        have := (cellsAt_some hc).1
        rw [hdead] at this
        cases this
      · rw [cellsAt_congr (hHo c e2 e1)] at hc
        refine ⟨⟨cs1, hc⟩, by simp [List.getD_eq_getElem?_getD, h3 c e1], ?_⟩
        obtain ⟨f1, f2⟩ := cellsAt_some hc
        obtain ⟨k1, g1, _, g3, _⟩ := hS.block c _ f1 rfl
        rw [getD_of g1]
        unfold blockSize
        rw [hkeep k1 (fun e => e2 (hS.inj c b _ _ k1 f1 rfl hb rfl g1 (e ▸ hg)))]
    maps := by
      intro c ks vs hu hc
      have e1 : c ≠ b' := fun e => hfree (e ▸ hu)
      by_cases e2 : c = b
      · subst e2; rw [hdead] at hc; cases hc
      · rw [hHo c e2 e1] at hc
        exact ⟨⟨ks, vs, hc⟩, by simp [List.getD_eq_getElem?_getD, h3 c e1]⟩
    iters := by
      intro c x hu hc
      have e1 : c ≠ b' := fun e => hfree (e ▸ hu)
      by_cases e2 : c = b
      · subst e2; rw [hdead] at hc; cases hc
      · rw [hHo c e2 e1] at hc
        exact ⟨⟨x, hc⟩, by simp [List.getD_eq_getElem?_getD, h3 c e1]⟩ }
  refine ⟨G', hE, ?_, ⟨⟨_, h4, by intro e; cases e⟩, (fun cs1 hc => by rw [h4] at hc; cases hc; exact Nat.le_refl _), (fun hc => by rw [h4] at hc; cases hc)⟩, getD_of h5, h4⟩
  exact {
    len := h6
    low := by have := hS.low; omega
    xlt := fun k1 hx => by have := hS.xlt k1 hx; omega
    block := by
      intro c s1 d1 d2
      by_cases e1 : c = b'
      · subst e1
        rw [h4] at d1
        cases d1
        exact ⟨k, h5, c2, by omega, c4, arr', ty, hw', hle, hl.ext hE, ho⟩
      · by_cases e2 : c = b
        · subst e2; rw [hdead] at d1; cases d1; cases d2
        · rw [hHo c e2 e1] at d1
          obtain ⟨k1, g1, g2, g3, g4, g5⟩ := hS.block c s1 d1 d2
          refine ⟨k1, by rw [h3 c e1]; exact g1, g2, by omega, g4, g5.ext hE (hkeep k1 ?_)⟩
          rintro rfl
          exact e2 (hS.inj c b s1 _ _ d1 d2 hb rfl g1 hg)
    inj := by
      intro x1 x2 s1 s2 k1 d1 l1 d2 l2 q1 q2
      have cases1 : ∀ {c s}, H'[c]? = some s → s.live = true → G'[c]? = some k1 → (c = b' ∧ k1 = k) ∨ (c ≠ b' ∧ c ≠ b ∧ H[c]? = some s ∧ G[c]? = some k1) := by
        intro c s d1 d2 d3
        by_cases e1 : c = b'
        · subst e1; rw [h5] at d3; cases d3; exact .inl ⟨rfl, rfl⟩
        · by_cases e2 : c = b
          · subst e2; rw [hdead] at d1; cases d1; cases d2
          · rw [hHo c e2 e1] at d1
            rw [h3 c e1] at d3
            exact .inr ⟨e1, e2, d1, d3⟩
      rcases cases1 d1 l1 q1 with ⟨e1, e2⟩ | ⟨e1, e2, e3, e4⟩
      · rcases cases1 d2 l2 q2 with ⟨f1, f2⟩ | ⟨f1, f2, f3, f4⟩
        · rw [e1, f1]
        · exfalso
          subst e2
          exact f2 (hS.inj x2 b s2 _ _ f3 l2 hb rfl f4 hg)
      · rcases cases1 d2 l2 q2 with ⟨f1, f2⟩ | ⟨f1, f2, f3, f4⟩
        · exfalso
          subst f2
          exact e2 (hS.inj x1 b s1 _ _ e3 l1 hb rfl e4 hg)
        · exact hS.inj x1 x2 s1 s2 k1 e3 l1 f3 l2 e4 f4 }

theorem drew_ok (hS : SimH base X w H G) : Ext w H G w.drew H G ∧ SimH base X w.drew H G := by
  have hE : Ext w H G w.drew H G := Ext.quiet hS rfl rfl rfl (Nat.le_refl _) (fun _ _ => rfl)
  exact ⟨hE, hS.quiet hE (fun _ _ => rfl)⟩

theorem ok_append' {slot : Option Nat} {t1 t2 e : TypeId} {z y n : Nat} {ag : Bool} {c : Call} {s x : Operand} {sv : V} {ys : List V} (hS : SimH base X w H G) (hT : TV w base (Mof X H G) H G t a.tmps) (hs : RV w base (Mof X H G) H G sv (a.eval s))
    (ho : o.op = .call c) (hc : c.callee = .builtin .append) (ha : c.args.toList = [s, x]) (hat : c.argTypes.toList = [t1, t2]) (hA : AppTy P t1 t2 e z y)
    (hsrc : srcCells H (St.ev ⟨t, H⟩ x) = some ys) (hn : lenV (St.ev ⟨t, H⟩ x) = some n) (hone : ys.all V.one = true) (hyl : ys.length = n * z) (hv : stepAppend slot z ag y H ys n sv = some (v, H')) :
    StepOK P base X o a w H G v H' := by
  have ha' : c.args = #[s, x] := by apply Array.ext'; simpa using ha
  have hat' : c.argTypes = #[t1, t2] := by apply Array.ext'; simpa using hat
  have hexec : ∀ r, (Builtin.append_ #[t1, t2] o.type #[a.eval s, a.eval x]).run P w = r → (execOp a.eval o).run P w = r.andThen fun v w' => .ok (.value v) w' := by
    intro r hr
    rw [← hr]
    simp only [execOp, ho, resolve, hc, ha', hat', invoke, builtin, Sem.run_bind, Sem.run_pure, Result.andThen_ok, List.map_toArray, List.map_cons, List.map_nil]
  obtain ⟨vs, v1, v2, v3, v4, v5⟩ := src_ok (P := P) hS (ev_ok (h := H) hT x) hn hsrc hyl hone
  have honem : ∀ q, q ∈ ys → q.one = true := List.all_eq_true.1 hone
  have hzp := hA.zp
  unfold stepAppend at hv
  split at hv
  · -- nil
    rename_i f
    have hu : a.eval s = .slice none 0 0 := by
      generalize a.eval s = u at hs
      cases hs with
      | i hi => cases hi; rfl
    rw [hu] at hexec
    split at hv
    · rename_i hn0
      simp only [Option.some.injEq, Prod.mk.injEq] at hv
      obtain ⟨rfl, rfl⟩ := hv
      have hvs : vs = [] := by
        have : vs.length = 0 := by rw [v1, hyl, hn0]; simp
        exact List.eq_nil_of_length_eq_zero this
      have hr := run_append_room (ty := o.type) (p := none) (len := 0) (cap := 0) hA v3 (v4 w (fun _ _ => rfl)) (by omega)
      simp only at hr
      refine StepOK.value (x := .slice none 0 0) hS ?_ (.i (.s rfl))
      rw [hexec _ hr, hn0]
      rfl
    · split at hv
      · rename_i hn0 hmax
        obtain ⟨⟨b, h1⟩, hns, he2⟩ := Option.map_eq_some_iff.1 hv
        simp only [Prod.mk.injEq] at he2
        obtain ⟨rfl, rfl⟩ := he2
        obtain ⟨nc, rest, r1, r2, r3⟩ := run_append_grow (ty := o.type) (p := none) (len := 0) (cap := 0) (os := []) hA v3 (by simp [Builtin.firstCells]) (v4 w.drew (fun _ _ => rfl)) (by omega) (by simpa using hmax)
        obtain ⟨hE1, hS1⟩ := drew_ok hS
        have harr : ((([] : List Value).toArray ++ vs.toArray ++ rest).toList.take ys.length) = vs := by
          simp only [Array.toList_append]
          rw [show ([] : List Value).toArray.toList ++ vs.toArray.toList = vs from by simp, List.take_append_of_le_length (by omega), ← v1, List.take_length]
        obtain ⟨G', hE, hS', hr, hg, hb⟩ := new_ok (arr := ([] : List Value).toArray ++ vs.toArray ++ rest) e hS1 hns (by simp; omega) (by rw [harr]; exact v2.ext hE1) honem
        rw [hyl] at hr
        refine StepOK.value' (x := .slice (some ⟨w.heap.size, 0, none⟩) n nc) ?_ (hE1.trans hE) hS' (.hsl hr (by rw [hb]; intro e; cases e) hzp (by omega) ?_)
        · rw [hexec _ r3]
          simp
        · intro cs' hc'
          have hg' : G'.getD b 0 = w.heap.size := hg
          rw [hg']
          refine ⟨fun _ => rfl, by omega, (([] : List Value).toArray ++ vs.toArray ++ rest).size, ?_, ?_⟩
          · simp only [Array.size_append, List.size_toArray, List.length_nil, r2]
            have : nc * z = n * z + (nc - (0 + n)) * z := by rw [← Nat.add_mul]; congr 1; omega
            omega
          · unfold blockSize
            have := heap_push_new w.drew (.cells (([] : List Value).toArray ++ vs.toArray ++ rest) e)
            simp only [World.size_drew] at this
            rw [this]
      · cases hv
  · -- a slice of the function's own
    rename_i b g off z' ag' len
    split at hv
    · rename_i hzz
      obtain ⟨hzz, rfl⟩ := hzz
      obtain ⟨cs, hcs, hv2⟩ := Option.bind_eq_some_iff.1 hv
      generalize hu : a.eval s = u at hs hexec
      cases hs with
      | hnil hr0 hcn =>
        rcases getCells_or hcs with hcs | ⟨hvirt, _, rfl⟩
        · rw [hcn] at hcs; cases hcs
        split at hv2
        · rename_i hn0
          simp only [Option.some.injEq, Prod.mk.injEq] at hv2
          obtain ⟨rfl, rfl⟩ := hv2
          have hvs : vs = [] := by
            have : vs.length = 0 := by rw [v1, hyl, hn0]; simp
            exact List.eq_nil_of_length_eq_zero this
          have hr := run_append_room (ty := o.type) (p := none) (len := 0) (cap := 0) hA v3 (v4 w (fun _ _ => rfl)) (by omega)
          simp only at hr
          refine StepOK.value (x := .slice none 0 0) hS ?_ (.hnil hr0 hcn)
          rw [hexec _ hr, hn0]
          rfl
        · split at hv2
          · rename_i hn0 hmax
            rw [if_pos (by omega)] at hv2
            simp only [Option.some.injEq, Prod.mk.injEq] at hv2
            obtain ⟨rfl, rfl⟩ := hv2
            obtain ⟨nc, rest, r1, r2, r3⟩ := run_append_grow (ty := o.type) (p := none) (len := 0) (cap := 0) (os := []) hA v3 (by simp [Builtin.firstCells]) (v4 w.drew (fun _ _ => rfl)) (by omega) (by simpa using hmax)
            obtain ⟨hE1, hS1⟩ := drew_ok hS
            have harr : ((([] : List Value).toArray ++ vs.toArray ++ rest).toList.take ys.length) = vs := by
              simp only [Array.toList_append]
              rw [show ([] : List Value).toArray.toList ++ vs.toArray.toList = vs from by simp, List.take_append_of_le_length (by omega), ← v1, List.take_length]
            have hyne : ys ≠ [] := by
              intro e
              have : 0 < n * z := Nat.mul_pos (by omega) hzp
              rw [e] at hyl; simp at hyl; omega
            obtain ⟨G', hE, hS', hr, hg, hb⟩ := fillV_ok (arr := ([] : List Value).toArray ++ vs.toArray ++ rest) e hS1 hvirt hyne (by simp; omega) (by rw [harr]; exact v2.ext hE1) honem
            rw [hyl] at hr
            have hz0 : 0 + n * z = n * z := by omega
            have hz1 : 0 + n = n := by omega
            rw [List.nil_append, hz0, hz1]
            refine StepOK.value' (x := .slice (some ⟨w.heap.size, 0, none⟩) n nc) ?_ (hE1.trans hE) hS' (.hsl hr (by rw [hb]; intro e; cases e) hzp (by omega) ?_)
            · rw [hexec _ r3]
              simp
            · intro cs' hc'
              have hg' : G'.getD b 0 = w.heap.size := hg
              rw [hg']
              refine ⟨fun _ => rfl, by omega, (([] : List Value).toArray ++ vs.toArray ++ rest).size, ?_, ?_⟩
              · simp only [Array.size_append, List.size_toArray, List.length_nil, r2]
                have : nc * z = n * z + (nc - (0 + n)) * z := by rw [← Nat.add_mul]; congr 1; omega
                omega
              · unfold blockSize
                have := heap_push_new w.drew (.cells (([] : List Value).toArray ++ vs.toArray ++ rest) e)
                simp only [World.size_drew] at this
                rw [this]
          · cases hv2
      | hsl hr hnv hzp' hle hval =>
        rename_i cap p
        obtain rfl : z' = z := by rcases hzz with h | h <;> omega
        replace hcs := getCells_not hcs hnv
        obtain ⟨arr, ty', g1, e1, e2, e3, e4, e5, e6⟩ := hS.at hcs
        obtain ⟨d1, d2, N, d3, d4⟩ := hval cs hcs
        have hp := d1 (.inr rfl)
        subst hp
        have hN : N = arr.size := by
          unfold blockSize at d4; rw [e1] at d4; simpa using d4.symm
        subst hN
        generalize hk : G.getD b 0 = k at *
        have hlz : len * z' ≤ cap * z' := Nat.mul_le_mul_right _ hle
        split at hv2
        · rename_i hn0
          simp only [Option.some.injEq, Prod.mk.injEq] at hv2
          obtain ⟨rfl, rfl⟩ := hv2
          have hvs : vs = [] := by
            have : vs.length = 0 := by rw [v1, hyl, hn0]; simp
            exact List.eq_nil_of_length_eq_zero this
          have hr2 := run_append_room (ty := o.type) (p := some ⟨k, 0, none⟩) (len := len) (cap := cap) hA v3 (v4 w (fun _ _ => rfl)) (by omega)
          simp only [hvs, storeCells, Sem.run_pure, Result.andThen_ok] at hr2
          refine StepOK.value (x := .slice (some ⟨k, 0, none⟩) len cap) hS ?_ (.hsl hr hnv hzp hle ?_)
          · rw [hexec _ hr2, hn0]
            rfl
          · intro cs' hc'
            rw [hk]
            exact hval cs' hc'
        · rename_i hn0
          split at hv2
          · rename_i hmax
            -- what stood there
            have hold : ∀ w', (∀ k, k < w.heap.size → w'.heap[k]? = w.heap[k]?) → (Builtin.firstCells z' len (.slice (some ⟨k, 0, none⟩) len cap)).run P w' = .ok (arr.toList.take (len * z')).toArray w' := by
              intro w' hw
              simp only [Builtin.firstCells]
              refine run_loadCells P w' _ _ _ (by simp; omega) ?_
              intro j hj
              have hkk : w'.heap[k]? = some (.cells arr ty' (0, 0)) := by
                rw [hw k (Array.getElem?_eq_some_iff.1 e1).1]; exact e1
              have := Reads.of_block (off := 0) (n := len * z') hkk (by omega)
              simp only [List.drop_zero] at this
              exact this j hj
            have hgl : g = cs.length := e2
            split at hv2
            · -- whole
              rename_i hfull
              simp only [Option.some.injEq, Prod.mk.injEq] at hv2
              obtain ⟨rfl, rfl⟩ := hv2
              by_cases hroom : len + n ≤ cap
              · have hfit : (len + n) * z' ≤ cap * z' := Nat.mul_le_mul_right _ hroom
                rw [Nat.add_mul] at hfit
                obtain ⟨w', arr', s1, s2, s3, s4, s5, s6, s7, s8⟩ := run_storeCells P k ty' (len * z') vs 0 w arr e1 (by omega) v5
                have hr2 := run_append_room (ty := o.type) (p := some ⟨k, 0, none⟩) (len := len) (cap := cap) hA v3 (v4 w (fun _ _ => rfl)) hroom
                simp only [Addr.add_lit, Nat.zero_add, s1, Result.andThen_ok] at hr2
                have hasz : arr'.size = arr.size := by
                  have := congrArg List.length s8
                  simp at this; omega
                have hcl : (cs ++ ys).length = g + n * z' := by simp [hyl]; omega
                have htake : arr'.toList.take (cs ++ ys).length = arr.toList.take cs.length ++ vs := by
                  rw [s8, Nat.add_zero, hcl, show len * z' = cs.length from by omega]
                  rw [List.take_append_of_le_length (by simp; omega), List.take_of_length_le (by simp; omega)]
                obtain ⟨hE, hS'⟩ := change_ok (cs' := cs ++ ys) hS e6 (by rw [← hk] at g1; rw [← hk]; exact g1) e1 s7 hasz (by simp) (by rw [hcl]; omega) s2 s3 s4 s5 s6 (by rw [htake]; exact e4.append v2) (by
                  intro q hq
                  rcases List.mem_append.1 hq with hq | hq
                  · exact e5 q hq
                  · exact honem q hq)
                have hlt : b < H.length := (List.getElem?_eq_some_iff.1 e6).1
                have hset : (H.set b (.cells (cs ++ ys)))[b]? = some (.cells (cs ++ ys)) := by simp [hlt]
                refine StepOK.value' (x := .slice (some ⟨k, 0, none⟩) (len + n) cap) ?_ hE hS' (.hsl ⟨⟨_, hset, by intro e; cases e⟩, (fun cs1 hc1 => by rw [hset] at hc1; cases hc1; omega), (fun hc1 => by rw [hset] at hc1; cases hc1)⟩ (by rw [hset]; intro e; cases e) hzp hroom ?_)
                · rw [hexec _ hr2]; rfl
                · intro cs1 hc1
                  rw [hk]
                  refine ⟨fun _ => rfl, by rw [Nat.add_mul]; omega, arr'.size, by omega, by unfold blockSize; rw [s7]⟩
              · obtain ⟨nc, rest, r1, r2, r3⟩ := run_append_grow (ty := o.type) (p := some ⟨k, 0, none⟩) (len := len) (cap := cap) (os := arr.toList.take (len * z')) hA v3 (hold w.drew (fun _ _ => rfl)) (v4 w.drew (fun _ _ => rfl)) (by omega) hmax
                have hcl : (cs ++ ys).length = g + n * z' := by simp [hyl]; omega
                generalize hA2 : (arr.toList.take (len * z')).toArray ++ vs.toArray ++ rest = arr2 at r3
                have ha2 : arr2.toList = arr.toList.take (len * z') ++ vs ++ rest.toList := by rw [← hA2]; simp
                have ha2s : arr2.size = len * z' + n * z' + (nc - (len + n)) * z' := by
                  have := congrArg List.length ha2
                  simp [r2, v1, hyl] at this; omega
                have htake : arr2.toList.take (cs ++ ys).length = arr.toList.take cs.length ++ vs := by
                  rw [ha2, hcl, show len * z' = cs.length from by omega]
                  rw [List.take_append_of_le_length (by simp; omega), List.take_of_length_le (by simp; omega)]
                obtain ⟨hE, hS'⟩ := relocate_ok (w' := w.drew.alloc (.cells arr2 e)) (k := w.heap.size) (cs' := cs ++ ys) hS e6 (heap_push_new w.drew _) (Nat.le_refl _) (by
                    have : 0 < n * z' := Nat.mul_pos (by omega) hzp
                    rw [hcl]; omega) (by rw [hcl]; omega) rfl rfl rfl (by simp) (fun k' hk' => heap_push_lt w.drew _ _ hk') (by rw [htake]; exact e4.append v2) (by
                  intro q hq
                  rcases List.mem_append.1 hq with hq | hq
                  · exact e5 q hq
                  · exact honem q hq)
                have hlt : b < H.length := (List.getElem?_eq_some_iff.1 e6).1
                have hset : (H.set b (.cells (cs ++ ys)))[b]? = some (.cells (cs ++ ys)) := by simp [hlt]
                have hgset : (G.set b w.heap.size).getD b 0 = w.heap.size := getD_of (by simp [hS.len, hlt])
                refine StepOK.value' (x := .slice (some ⟨w.heap.size, 0, none⟩) (len + n) nc) ?_ hE hS' (.hsl ⟨⟨_, hset, by intro e; cases e⟩, (fun cs1 hc1 => by rw [hset] at hc1; cases hc1; omega), (fun hc1 => by rw [hset] at hc1; cases hc1)⟩ (by rw [hset]; intro e; cases e) hzp r1 ?_)
                · rw [hexec _ r3]; rfl
                · intro cs1 hc1
                  rw [hgset]
                  refine ⟨fun _ => rfl, by rw [Nat.add_mul]; omega, arr2.size, ?_, ?_⟩
                  · have : nc * z' = (len + n) * z' + (nc - (len + n)) * z' := by rw [← Nat.add_mul]; congr 1; omega
                    rw [Nat.add_mul] at this
                    omega
                  · unfold blockSize
                    have := heap_push_new w.drew (.cells arr2 e)
                    simp only [World.size_drew] at this
                    rw [this]
            · -- its beginning
              rename_i hpart
              obtain ⟨⟨b', h1⟩, hns, he2⟩ := Option.map_eq_some_iff.1 hv2
              simp only [Prod.mk.injEq] at he2
              obtain ⟨rfl, rfl⟩ := he2
              have hcl : (cs.take (len * z') ++ ys).length = (len + n) * z' := by simp [hyl, Nat.add_mul]; omega
              have honep : ∀ q, q ∈ cs.take (len * z') ++ ys → q.one = true := by
                intro q hq
                rcases List.mem_append.1 hq with hq | hq
                · exact e5 q (List.mem_of_mem_take hq)
                · exact honem q hq
              have hRV : RVL w base (Mof X H G) H G (cs.take (len * z') ++ ys) (arr.toList.take (len * z') ++ vs) := by
                have := (e4.take (len * z')).append v2
                rwa [List.take_take, Nat.min_eq_left (by omega)] at this
              by_cases hroom : len + n ≤ cap
              · have hfit : (len + n) * z' ≤ cap * z' := Nat.mul_le_mul_right _ hroom
                have hfit2 := hfit
                rw [Nat.add_mul] at hfit2
                obtain ⟨w', arr', s1, s2, s3, s4, s5, s6, s7, s8⟩ := run_storeCells P k ty' (len * z') vs 0 w arr e1 (by omega) v5
                have hr2 := run_append_room (ty := o.type) (p := some ⟨k, 0, none⟩) (len := len) (cap := cap) hA v3 (v4 w (fun _ _ => rfl)) hroom
                simp only [Addr.add_lit, Nat.zero_add, s1, Result.andThen_ok] at hr2
                have hasz : arr'.size = arr.size := by
                  have := congrArg List.length s8
                  simp at this; omega
                have htake : arr'.toList.take (cs.take (len * z') ++ ys).length = arr.toList.take (len * z') ++ vs := by
                  rw [s8, Nat.add_zero, hcl, Nat.add_mul]
                  rw [List.take_append_of_le_length (by simp; omega), List.take_of_length_le (by simp; omega)]
                obtain ⟨G', hE, hS', hr', hg', hb'⟩ := move_ok (w' := w') hS e6 (by rw [← hk] at g1; rw [← hk]; exact g1) e1 hns s7 hasz (by rw [hcl]; omega) s2 s3 s4 s5 s6 (by rw [htake]; exact hRV) honep
                rw [hcl] at hr'
                refine StepOK.value' (x := .slice (some ⟨k, 0, none⟩) (len + n) cap) ?_ hE hS' (.hsl hr' (by rw [hb']; intro e; cases e) hzp hroom ?_)
                · rw [hexec _ hr2]; rfl
                · intro cs1 hc1
                  rw [hg']
                  exact ⟨fun _ => rfl, by omega, arr'.size, by omega, by unfold blockSize; rw [s7]⟩
              · obtain ⟨nc, rest, r1, r2, r3⟩ := run_append_grow (ty := o.type) (p := some ⟨k, 0, none⟩) (len := len) (cap := cap) (os := arr.toList.take (len * z')) hA v3 (hold w.drew (fun _ _ => rfl)) (v4 w.drew (fun _ _ => rfl)) (by omega) hmax
                generalize hA2 : (arr.toList.take (len * z')).toArray ++ vs.toArray ++ rest = arr2 at r3
                have ha2 : arr2.toList = arr.toList.take (len * z') ++ vs ++ rest.toList := by rw [← hA2]; simp
                have ha2s : arr2.size = len * z' + n * z' + (nc - (len + n)) * z' := by
                  have := congrArg List.length ha2
                  simp [r2, v1, hyl] at this; omega
                have htake : arr2.toList.take (cs.take (len * z') ++ ys).length = arr.toList.take (len * z') ++ vs := by
                  rw [ha2, hcl, Nat.add_mul]
                  rw [List.take_append_of_le_length (by simp; omega), List.take_of_length_le (by simp; omega)]
                obtain ⟨hE1, hS1⟩ := drew_ok hS
                obtain ⟨hE2, hS2⟩ := kill_ok hS1 e6 rfl
                have hE3 := hE1.trans hE2
                obtain ⟨G', hE, hS', hr', hg', hb'⟩ := new_ok (arr := arr2) e hS2 hns (by rw [hcl, Nat.add_mul]; omega) (by rw [htake]; exact hRV.ext hE3) honep
                rw [hcl] at hr'
                have hg2 : G'.getD b' 0 = w.heap.size := hg'
                refine StepOK.value' (x := .slice (some ⟨w.heap.size, 0, none⟩) (len + n) nc) ?_ (hE3.trans hE) hS' (.hsl hr' (by rw [hb']; intro e; cases e) hzp r1 ?_)
                · rw [hexec _ r3]; rfl
                · intro cs1 hc1
                  rw [hg2]
                  refine ⟨fun _ => rfl, by omega, arr2.size, ?_, ?_⟩
                  · have : nc * z' = (len + n) * z' + (nc - (len + n)) * z' := by rw [← Nat.add_mul]; congr 1; omega
                    rw [Nat.add_mul] at this
                    omega
                  · unfold blockSize
                    have := heap_push_new w.drew (.cells arr2 e)
                    simp only [World.size_drew] at this
                    rw [this]
          · cases hv2
    · cases hv
  · cases hv

theorem ok_append {slot : Option Nat} {t1 t2 e : TypeId} {z y n : Nat} {ag : Bool} {c : Call} {s x : Operand} {ys : List V} (hS : SimH base X w H G) (hT : TV w base (Mof X H G) H G t a.tmps)
    (ho : o.op = .call c) (hc : c.callee = .builtin .append) (ha : c.args.toList = [s, x]) (hat : c.argTypes.toList = [t1, t2]) (hA : AppTy P t1 t2 e z y)
    (hsrc : srcCells H (St.ev ⟨t, H⟩ x) = some ys) (hn : lenV (St.ev ⟨t, H⟩ x) = some n) (hone : ys.all V.one = true) (hyl : ys.length = n * z) (hv : stepAppend slot z ag y H ys n (St.ev ⟨t, H⟩ s) = some (v, H')) :
    StepOK P base X o a w H G v H' := ok_append' hS hT (ev_ok (h := H) hT s) ho hc ha hat hA hsrc hn hone hyl hv

theorem srcCells_push0 {h : Heap} {x : V} {ys : List V} (s : Slot) (e : srcCells h x = some ys) : srcCells (h ++ [s]) x = some ys := by
  unfold srcCells at e ⊢
  split at e
  · rename_i b g off z ag len
    obtain ⟨cs, h2, e⟩ := Option.map_eq_some_iff.1 e
    have hl : b < h.length := by
      unfold getCells at h2
      cases hb : h[b]? with
      | none => rw [hb] at h2; cases h2
      | some u => exact (List.getElem?_eq_some_iff.1 hb).1
    have : getCells (h ++ [s]) b g = some cs := by
      unfold getCells at h2 ⊢
      rw [List.getElem?_append_left hl]
      exact h2
    simp only [this, Option.map_some, e]
  · exact e
  · exact e
  · exact e
  · cases e

/-- append onto nil, as a slice of the function's own. -/
theorem ok_appendV {slot : Option Nat} {t1 t2 e : TypeId} {z y n : Nat} {ag : Bool} {c : Call} {x : Operand} {ys : List V} (hS : SimH base X w H G) (hT : TV w base (Mof X H G) H G t a.tmps)
    (ho : o.op = .call c) (hc : c.callee = .builtin .append) (ha : c.args.toList = [.const (.slice none 0 0), x]) (hat : c.argTypes.toList = [t1, t2]) (hA : AppTy P t1 t2 e z y)
    (hsrc : srcCells H (St.ev ⟨t, H⟩ x) = some ys) (hn : lenV (St.ev ⟨t, H⟩ x) = some n) (hone : ys.all V.one = true) (hyl : ys.length = n * z) (hv : stepAppend slot z ag y (H ++ [.virt]) ys n (.hsl H.length 0 0 z ag 0) = some (v, H')) :
    StepOK P base X o a w H G v H' := by
  obtain ⟨G1, hE, hS1, hr, hvb⟩ := new_virt (slot := none) hS rfl
  have hev : ∀ h2 x, St.ev ⟨t, h2⟩ x = St.ev ⟨t, H⟩ x := fun h2 x => by cases x <;> rfl
  have hT1 : TV w base (Mof X (H ++ [.virt]) G1) (H ++ [.virt]) G1 t a.tmps := fun k => (hT k).ext hE
  have hstep := ok_append' (P := P) (o := o) (a := a) (slot := slot) (sv := .hsl H.length 0 0 z ag 0) (x := x) (ys := ys) (n := n) (ag := ag) hS1 hT1 (.hnil hr (by unfold cellsAt; rw [hvb])) ho hc ha hat hA
    (by rw [hev]; exact srcCells_push0 _ hsrc) (by rw [hev]; exact hn) hone hyl hv
  intro next Q hn'
  refine hstep next Q ?_
  intro x' w' G' hE' hS' hv'
  exact hn' x' w' G' (hE.trans hE') hS' hv'

end
end Go.AM
