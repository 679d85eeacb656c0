/- A log of operations in plain lists: when it is valid, and how it lies. No condition. -/
import Derived.Test.YtiabacjkejkbgaaLabB37
import Derived.Test.YtiabacjkejkbgaaLabL3
set_option linter.unusedVariables false
set_option linter.unusedSimpArgs false
namespace Go.AM

def ofs (L : List TOp) (a : Int) : List TOp := L.filter fun o => decide (o.actor = a)
def thing (o : TOp) : Int := if o.kind = 3 then 2 else o.kind
def lastThing (L : List TOp) (ob : Int) : Int := L.foldl (fun t o => if o.obj = ob then thing o else t) 0

theorem ofs_snoc {P : List TOp} {o : TOp} {a : Int} : ofs (P ++ [o]) a = if o.actor = a then ofs P a ++ [o] else ofs P a := by
  unfold ofs
  rw [List.filter_append]
  by_cases h : o.actor = a <;> simp [h]
theorem lastThing_snoc {P : List TOp} {o : TOp} {ob : Int} : lastThing (P ++ [o]) ob = if o.obj = ob then thing o else lastThing P ob := by
  unfold lastThing
  rw [List.foldl_append]
  rfl
theorem ofs_len {L : List TOp} {a : Int} : (ofs L a).length ≤ L.length := List.length_filter_le _ _
theorem ofs_actor {L : List TOp} {a : Int} {o : TOp} (h : o ∈ ofs L a) : o.actor = a := by
  unfold ofs at h
  simpa using (List.mem_filter.1 h).2

section
variable {ok : TOp → Prop} {L P Q : List TOp} {o p : TOp}

def Step (ok : TOp → Prop) (P : List TOp) (o : TOp) : Prop := ok o ∧ (∀ p, p ∈ P → p.actor ≤ o.actor) ∧ o.seq = (ofs P o.actor).length + 1

inductive G (ok : TOp → Prop) : List TOp → Prop
  | nil : G ok []
  | snoc {P : List TOp} {o : TOp} : G ok P → Step ok P o → G ok (P ++ [o])

theorem G_snoc : G ok (P ++ [o]) ↔ G ok P ∧ Step ok P o := by
  constructor
  · intro h
    generalize e : P ++ [o] = L at h
    cases h with
    | nil => simp at e
    | snoc h1 h2 =>
      obtain ⟨rfl, e2⟩ := List.append_inj' e rfl
      cases e2
      exact ⟨h1, h2⟩
  · rintro ⟨h1, h2⟩
    exact .snoc h1 h2

theorem G_last (h : G ok (Q ++ [p])) : (∀ q, q ∈ Q ++ [p] → q.actor ≤ p.actor) ∧ p.seq = (ofs (Q ++ [p]) p.actor).length := by
  obtain ⟨h1, h2, h3, h4⟩ := G_snoc.1 h
  refine ⟨?_, ?_⟩
  · intro q hq
    rcases List.mem_append.1 hq with h | h
    · exact h3 q h
    · simp at h
      subst h
      exact Int.le_refl _
  · rw [ofs_snoc, if_pos rfl, h4]
    simp

theorem G_take (h : G ok L) (i : Nat) : G ok (L.take i) := by
  induction h with
  | nil => simpa using G.nil
  | snoc h1 h2 ih =>
    rename_i P o
    by_cases hi : i ≤ P.length
    · rw [List.take_append_of_le_length hi]
      exact ih
    · rw [List.take_of_length_le (by simp; omega)]
      exact .snoc h1 h2

theorem G_iff : G ok L ↔ ∀ i o, L[i]? = some o → Step ok (L.take i) o := by
  constructor
  · intro h i o hi
    have := G_take h (i + 1)
    rw [take_next hi] at this
    exact (G_snoc.1 this).2
  · intro h
    have key : ∀ n, n ≤ L.length → G ok (L.take n) := by
      intro n
      induction n with
      | zero => intro _; simpa using G.nil
      | succ n ih =>
        intro hn
        have hl : n < L.length := hn
        have e : L[n]? = some L[n] := List.getElem?_eq_getElem hl
        rw [take_next e]
        exact .snoc (ih (by omega)) (h n _ e)
    have := key L.length (Nat.le_refl _)
    rwa [List.take_length] at this

theorem G_ok (h : G ok L) (ho : o ∈ L) : ok o := by
  obtain ⟨i, hi⟩ := List.mem_iff_getElem?.1 ho
  exact (G_iff.1 h i o hi).1

/-- A valid log lies actor by actor. -/
theorem G_split (h : G ok L) (a : Int) : ∃ A B, L = A ++ (ofs L a ++ B) ∧ (∀ x, x ∈ A → x.actor < a) ∧ ∀ x, x ∈ B → a < x.actor := by
  induction h with
  | nil => exact ⟨[], [], rfl, by simp, by simp⟩
  | snoc h1 h2 ih =>
    rename_i P o
    obtain ⟨A, B, e, hA, hB⟩ := ih
    obtain ⟨_, hle, _⟩ := h2
    have hBm : ∀ x, x ∈ B → x.actor ≤ o.actor := fun x hx => hle x (by rw [e]; simp [hx])
    rcases Int.lt_trichotomy o.actor a with hlt | heq | hgt
    · have e1 : ofs P a = [] := by
        rw [List.eq_nil_iff_forall_not_mem]
        intro x hx
        have h3 := ofs_actor hx
        have h4 := hle x (List.mem_filter.1 hx).1
        omega
      have e2 : B = [] := by
        rw [List.eq_nil_iff_forall_not_mem]
        intro x hx
        have h3 := hB x hx
        have h4 := hBm x hx
        omega
      refine ⟨A ++ [o], [], ?_, ?_, by simp⟩
      · rw [ofs_snoc, if_neg (by omega), e1]
        rw [e1, e2] at e
        simp at e
        simp [e]
      · intro x hx
        rcases List.mem_append.1 hx with h | h
        · exact hA x h
        · simp at h; subst h; exact hlt
    · have e2 : B = [] := by
        rw [List.eq_nil_iff_forall_not_mem]
        intro x hx
        have h3 := hB x hx
        have h4 := hBm x hx
        omega
      refine ⟨A, [], ?_, hA, by simp⟩
      rw [ofs_snoc, if_pos heq]
      conv => lhs; rw [e, e2]
      simp
    · refine ⟨A, B ++ [o], ?_, hA, ?_⟩
      · rw [ofs_snoc, if_neg (by omega)]
        conv => lhs; rw [e]
        simp
      · intro x hx
        rcases List.mem_append.1 hx with h | h
        · exact hB x h
        · simp at h; subst h; exact hgt

def KS (P : List TOp) (o : TOp) : Prop := lastThing P o.obj = 0 ∨ lastThing P o.obj = thing o
def KK (L : List TOp) : Prop := ∀ (i : Nat) (o : TOp), L[i]? = some o → KS (L.take i) o
def less (p o : TOp) : Prop := p.time < o.time ∨ (p.time = o.time ∧ p.actor < o.actor)
def CA (L : List TOp) (o : TOp) (a : Nat) : Prop := ∀ n, o.deps.counts[a]? = some n → n ≤ ((ofs L (a : Int)).length : Int) ∧ (0 < n → ∀ p, (ofs L (a : Int))[(n - 1).toNat]? = some p → less p o)
def CC (L : List TOp) : Prop := ∀ (i : Nat) (o : TOp), L[i]? = some o → ∀ a : Nat, a < 16 → CA L o a
def Valid (ok : TOp → Prop) (L : List TOp) : Prop := L.length ≤ 1024 ∧ G ok L ∧ KK L ∧ CC L

/-- What the program's book tells of a log. -/
structure Rep (k : TBook) (L : List TOp) : Prop where
  of_ : ∀ a : Nat, a < 16 → k.of_[a]? = some (ofs L (a : Int))
  kind : ∀ b : Nat, b < 101 → k.kind[b]? = some (lastThing L (b : Int))
end

section
variable {ok : TOp → Prop} {L P Q : List TOp} {o p : TOp}

theorem step_first : Step ok [] o ↔ ok o ∧ o.seq = 1 := by
  unfold Step
  simp [ofs]

theorem step_le (h : G ok (Q ++ [p])) : Step ok (Q ++ [p]) o ↔ ok o ∧ p.actor ≤ o.actor ∧ o.seq = (ofs (Q ++ [p]) o.actor).length + 1 := by
  unfold Step
  constructor
  · rintro ⟨h1, h2, h3⟩
    exact ⟨h1, h2 p (by simp), h3⟩
  · rintro ⟨h1, h2, h3⟩
    exact ⟨h1, fun q hq => Int.le_trans ((G_last h).1 q hq) h2, h3⟩

theorem step_next (h : G ok (Q ++ [p])) : Step ok (Q ++ [p]) o ↔ ok o ∧ ((o.actor = p.actor ∧ o.seq = p.seq + 1) ∨ (p.actor < o.actor ∧ o.seq = 1)) := by
  rw [step_le h]
  obtain ⟨h1, h2⟩ := G_last h
  rcases Int.lt_trichotomy o.actor p.actor with hlt | heq | hgt
  · constructor
    · rintro ⟨_, h3, _⟩; omega
    · rintro ⟨_, h3⟩; omega
  · rw [heq, ← h2]
    constructor
    · rintro ⟨h3, _, h4⟩; exact ⟨h3, .inl ⟨rfl, h4⟩⟩
    · rintro ⟨h3, h4⟩; exact ⟨h3, by omega, by omega⟩
  · have e : ofs (Q ++ [p]) o.actor = [] := by
      rw [List.eq_nil_iff_forall_not_mem]
      intro x hx
      have h3 := ofs_actor hx
      have h4 := h1 x (List.mem_filter.1 hx).1
      omega
    rw [e]
    constructor
    · rintro ⟨h3, _, h4⟩; exact ⟨h3, .inr ⟨hgt, by simpa using h4⟩⟩
    · rintro ⟨h3, h4⟩; exact ⟨h3, by omega, by simp; omega⟩

/-- The list ahead of a place, by its last element. -/
theorem take_last {i : Nat} (h : 0 < i) (hp : L[i - 1]? = some p) : L.take i = L.take (i - 1) ++ [p] := by
  have := take_next hp
  rwa [show i - 1 + 1 = i by omega] at this
end
end Go.AM
