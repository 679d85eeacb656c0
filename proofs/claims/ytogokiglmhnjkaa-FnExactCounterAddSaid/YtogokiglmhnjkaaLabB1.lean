/- The abstract machine's values and what they stand for in the model's memory: definitions and their laws of persistence. No condition. -/
import Derived.Laws.Entries
import Derived.Below
import Derived.Tactics
set_option linter.unusedVariables false
set_option linter.unusedSimpArgs false
namespace Go.AM

/-- Scalars that bear no address. -/
def plain : Value → Bool
  | .bool _ | .int _ _ | .string _ | .pointer none | .map none | .nilFunc | .nilIface => true
  | .slice none 0 0 => true
  | _ => false

/-- Values that nobody writes any more. -/
inductive I where
  | s (x : Value)
  | agg (cs : List I)
  | tup (cs : List I)
  | sl (z : Nat) (xs : List I)
  | ip (cs : List I)
  | im (ks vs : List I)

def I.cells : I → List I
  | .agg cs => cs
  | v => [v]

/-- Values of a running function: beside the above what refers to blocks of its own. -/
inductive V where
  | i (x : I)
  | agg (cs : List V)
  | tup (cs : List V)
  | ptr (b g off : Nat)
  | hsl (b g off z : Nat) (ag : Bool) (len : Nat)
  | mp (b : Nat)
  | it (b : Nat)
  | clo (f : Nat) (caps : List V)
  | ifc (t : Nat) (v : V)
  | bad

def V.cells : V → List V
  | .agg cs => cs
  | .i (.agg cs) => cs.map .i
  | v => [v]

inductive Slot where
  | free
  | dead
  | virt
  | cells (cs : List V)
  | map (ks : List I) (vs : List V)
  | iter (x : I)

abbrev Heap := List Slot

/-- The cells of a block that has a place in memory. -/
def cellsAt (h : Heap) (b g : Nat) : Option (List V) :=
  match h[b]? with
  | some (.cells cs) => if cs.length = g then some cs else none
  | _ => none

/-- The same; a slice that is nil has none. -/
def getCells (h : Heap) (b g : Nat) : Option (List V) :=
  match h[b]? with
  | some (.cells cs) => if cs.length = g then some cs else none
  | some .virt => if g = 0 then some [] else none
  | _ => none

def Slot.live : Slot → Bool
  | .cells _ | .map _ _ | .iter _ => true
  | _ => false

/-- Cells from a on read as these. -/
def Reads (w : World) (a : Addr) (cs : List Value) : Prop := ∀ j, (h : j < cs.length) → w.cell? (a.add j) = some cs[j]

mutual
inductive RI (w : World) (M : Nat → Prop) : I → Value → Prop
  | s {x : Value} : plain x = true → RI w M (.s x) x
  | agg {cs : List I} {xs : Array Value} : RL w M cs xs.toList → RI w M (.agg cs) (.agg xs)
  | tup {cs : List I} {xs : Array Value} : RL w M cs xs.toList → RI w M (.tup cs) (.tuple xs)
  | sl0 {z : Nat} {a : Option Addr} {cap : Nat} : RI w M (.sl z []) (.slice a 0 cap)
  | sl {z : Nat} {xs : List I} {a : Addr} {cap : Nat} {cs : List Value} : xs ≠ [] → xs.length ≤ cap → ¬ M a.block → a.block < w.heap.size → Reads w a cs → RR w M z xs cs →
      RI w M (.sl z xs) (.slice (some a) xs.length cap)
  | ip {cs : List I} {a : Addr} {xs : List Value} : ¬ M a.block → a.block < w.heap.size → Reads w a xs → RL w M cs xs → RI w M (.ip cs) (.pointer (some a))
  | im {ks vs : List I} {r : Nat} {es : Array MapEntry} {clock : Nat} : ¬ M r → w.heap[r]? = some (.map es clock) →
      RL w M ks (es.toList.map (·.key)) → RL w M vs (es.toList.map (·.val)) → RI w M (.im ks vs) (.map (some r))
inductive RL (w : World) (M : Nat → Prop) : List I → List Value → Prop
  | nil : RL w M [] []
  | cons {x : I} {v : Value} {xs : List I} {vs : List Value} : RI w M x v → RL w M xs vs → RL w M (x :: xs) (v :: vs)
inductive RR (w : World) (M : Nat → Prop) : Nat → List I → List Value → Prop
  | nil {z : Nat} : RR w M z [] []
  | cons {z : Nat} {x : I} {xs : List I} {cs ds : List Value} : RL w M x.cells cs → cs.length = z → RR w M z xs ds → RR w M z (x :: xs) (cs ++ ds)
end

/-- How the world may go on for what is read to stay: blocks outside M are as they were, and stay outside. -/
structure Goes (w w' : World) (M M' : Nat → Prop) : Prop where
  size : w.heap.size ≤ w'.heap.size
  keep : ∀ k, k < w.heap.size → ¬ M k → w'.heap[k]? = w.heap[k]?
  out : ∀ k, k < w.heap.size → ¬ M k → ¬ M' k

theorem Goes.refl (w : World) (M : Nat → Prop) : Goes w w M M := ⟨Nat.le_refl _, fun _ _ _ => rfl, fun _ _ h => h⟩

theorem Goes.weaken {w : World} {M M' : Nat → Prop} (h : ∀ k, M' k → M k) : Goes w w M M' := ⟨Nat.le_refl _, fun _ _ _ => rfl, fun k _ hn hm => hn (h k hm)⟩

theorem Goes.cell {w w' : World} {M M' : Nat → Prop} (h : Goes w w' M M') {a : Addr} (ha : a.block < w.heap.size) (hm : ¬ M a.block) : w'.cell? a = w.cell? a :=
  World.cell?_of_block (w := w) (h.keep a.block ha hm)

theorem add_block (a : Addr) (n : Nat) : (a.add n).block = a.block := by unfold Addr.add; split <;> rfl

theorem Reads.goes {w w' : World} {M M' : Nat → Prop} (h : Goes w w' M M') {a : Addr} (ha : a.block < w.heap.size) (hm : ¬ M a.block) {cs : List Value} (hr : Reads w a cs) : Reads w' a cs := by
  intro j hj
  rw [h.cell (by rw [add_block]; exact ha) (by rw [add_block]; exact hm)]
  exact hr j hj

mutual
theorem RI.goes {w w' : World} {M M' : Nat → Prop} (h : Goes w w' M M') : ∀ {x : I} {v : Value}, RI w M x v → RI w' M' x v
  | _, _, .s hp => .s hp
  | _, _, .agg hl => .agg (RL.goes h hl)
  | _, _, .tup hl => .tup (RL.goes h hl)
  | _, _, .sl0 => .sl0
  | _, _, .sl hx hc hm hb hr hl => .sl hx hc (h.out _ hb hm) (Nat.lt_of_lt_of_le hb h.size) (hr.goes h hb hm) (RR.goes h hl)
  | _, _, .ip hm hb hr hl => .ip (h.out _ hb hm) (Nat.lt_of_lt_of_le hb h.size) (hr.goes h hb hm) (RL.goes h hl)
  | _, _, .im (r := r) hm hb hk hv =>
    have hlt : r < w.heap.size := (Array.getElem?_eq_some_iff.1 hb).1
    .im (h.out _ hlt hm) ((h.keep _ hlt hm).trans hb) (RL.goes h hk) (RL.goes h hv)
theorem RL.goes {w w' : World} {M M' : Nat → Prop} (h : Goes w w' M M') : ∀ {xs : List I} {vs : List Value}, RL w M xs vs → RL w' M' xs vs
  | _, _, .nil => .nil
  | _, _, .cons a b => .cons (RI.goes h a) (RL.goes h b)
theorem RR.goes {w w' : World} {M M' : Nat → Prop} (h : Goes w w' M M') : ∀ {z : Nat} {xs : List I} {vs : List Value}, RR w M z xs vs → RR w' M' z xs vs
  | _, _, _, .nil => .nil
  | _, _, _, .cons a e b => .cons (RL.goes h a) e (RR.goes h b)
end

theorem RL.length {w : World} {M : Nat → Prop} : ∀ {xs : List I} {vs : List Value}, RL w M xs vs → vs.length = xs.length
  | _, _, .nil => rfl
  | _, _, .cons _ b => by simp [RL.length b]

theorem RL.get {w : World} {M : Nat → Prop} : ∀ {xs : List I} {vs : List Value}, RL w M xs vs → ∀ (j : Nat) (x : I), xs[j]? = some x → ∃ v, vs[j]? = some v ∧ RI w M x v
  | _, _, .nil, j, x, h => by simp at h
  | _, _, .cons (v := v) a b, 0, x, h => by simp at h; subst h; exact ⟨v, by simp, a⟩
  | _, _, .cons a b, j + 1, x, h => by
    simp at h
    obtain ⟨v, hv, hr⟩ := RL.get b j x h
    exact ⟨v, by simpa using hv, hr⟩

theorem RL.append {w : World} {M : Nat → Prop} : ∀ {xs : List I} {vs : List Value} {ys : List I} {us : List Value}, RL w M xs vs → RL w M ys us → RL w M (xs ++ ys) (vs ++ us)
  | _, _, _, _, .nil, h => h
  | _, _, _, _, .cons a b, h => .cons a (RL.append b h)

theorem RL.take {w : World} {M : Nat → Prop} : ∀ {xs : List I} {vs : List Value} (n : Nat), RL w M xs vs → RL w M (xs.take n) (vs.take n)
  | _, _, 0, _ => by simpa using RL.nil
  | _, _, _ + 1, .nil => by simpa using RL.nil
  | _, _, n + 1, .cons a b => by simpa using RL.cons a (RL.take n b)

theorem RL.drop {w : World} {M : Nat → Prop} : ∀ {xs : List I} {vs : List Value} (n : Nat), RL w M xs vs → RL w M (xs.drop n) (vs.drop n)
  | _, _, 0, h => by simpa using h
  | _, _, _ + 1, .nil => by simpa using RL.nil
  | _, _, n + 1, .cons a b => by simpa using RL.drop n b

theorem RR.length {w : World} {M : Nat → Prop} : ∀ {z : Nat} {xs : List I} {vs : List Value}, RR w M z xs vs → vs.length = xs.length * z
  | _, _, _, .nil => by simp
  | _, _, _, .cons a e b => by simp [RR.length b, e, Nat.add_mul]; omega

theorem RR.get {w : World} {M : Nat → Prop} : ∀ {z : Nat} {xs : List I} {vs : List Value}, RR w M z xs vs → ∀ (j : Nat) (x : I), xs[j]? = some x → RL w M x.cells ((vs.drop (j * z)).take z)
  | _, _, _, .nil, j, x, h => by simp at h
  | z, _, _, .cons (cs := cs) a e b, 0, x, h => by
    simp at h; subst h
    simp only [Nat.zero_mul, List.drop_zero]
    rw [← e, List.take_left']
    · exact a
    · rfl
  | z, _, _, .cons (cs := cs) (ds := ds) a e b, j + 1, x, h => by
    simp at h
    have := RR.get b j x h
    rw [Nat.add_mul, Nat.one_mul, Nat.add_comm, ← List.drop_drop, ← e, List.drop_left']
    · rw [e]; exact this
    · rfl

theorem RR.append {w : World} {M : Nat → Prop} : ∀ {z : Nat} {xs : List I} {vs : List Value} {ys : List I} {us : List Value}, RR w M z xs vs → RR w M z ys us → RR w M z (xs ++ ys) (vs ++ us)
  | _, _, _, _, _, .nil, h => h
  | _, _, _, _, _, .cons a e b, h => by rw [List.append_assoc]; exact .cons a e (RR.append b h)

theorem RR.take {w : World} {M : Nat → Prop} : ∀ {z : Nat} {xs : List I} {vs : List Value} (n : Nat), RR w M z xs vs → RR w M z (xs.take n) (vs.take (n * z))
  | _, _, _, 0, _ => by simpa using RR.nil
  | _, _, _, _ + 1, .nil => by simpa using RR.nil
  | z, _, _, n + 1, .cons (cs := cs) (ds := ds) a e b => by
    have hl : (cs ++ ds).take ((n + 1) * z) = cs ++ ds.take (n * z) := by
      rw [List.take_append, List.take_of_length_le (by rw [e, Nat.add_mul]; omega), e]
      congr 2
      rw [Nat.add_mul]; omega
    rw [hl]
    simpa using RR.cons a e (RR.take n b)

theorem RR.drop {w : World} {M : Nat → Prop} : ∀ {z : Nat} {xs : List I} {vs : List Value} (n : Nat), RR w M z xs vs → RR w M z (xs.drop n) (vs.drop (n * z))
  | _, _, _, 0, h => by simpa using h
  | _, _, _, _ + 1, .nil => by simpa using RR.nil
  | z, _, _, n + 1, .cons (cs := cs) (ds := ds) a e b => by
    have hl : (cs ++ ds).drop ((n + 1) * z) = ds.drop (n * z) := by
      rw [List.drop_append, List.drop_of_length_le (by rw [e, Nat.add_mul]; omega), e]
      have : (n + 1) * z - z = n * z := by rw [Nat.add_mul]; omega
      rw [this]; rfl
    rw [hl]
    simpa using RR.drop n b

end Go.AM
