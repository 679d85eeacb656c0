/- Loops over lists, plainly. No condition. -/
import Derived.Test.YtogokiglmhnjkaaLabB31
set_option linter.unusedVariables false
set_option linter.unusedSimpArgs false
namespace Go.AM

section
variable {σ ρ α : Type}

/-- A loop that counts. -/
theorem loop_count {step : σ → Option (Lp σ ρ)} (n : Nat) (I : Nat → σ → Prop) (Q : Ex σ ρ → Prop)
    (hs : ∀ i s, i < n → I i s → (∃ s', step s = some (.go s') ∧ I (i + 1) s') ∨ (∃ s', step s = some (.out s') ∧ Q (.out s')) ∨ (∃ r, step s = some (.ret r) ∧ Q (.ret r)))
    (he : ∀ s, I n s → (∃ s', step s = some (.out s') ∧ Q (.out s')) ∨ (∃ r, step s = some (.ret r) ∧ Q (.ret r))) {s : σ} (h0 : I 0 s) : ∃ e, loopP step s = some e ∧ Q e := by
  have key : ∀ (k i : Nat) (s : σ), i + k = n → I i s → ∃ e, loopP step s = some e ∧ Q e := by
    intro k
    induction k with
    | zero =>
      intro i s hk hi
      obtain rfl : i = n := by omega
      rcases he s hi with ⟨s', h1, h2⟩ | ⟨r, h1, h2⟩
      · exact ⟨_, loopP_out h1, h2⟩
      · exact ⟨_, loopP_ret h1, h2⟩
    | succ k ih =>
      intro i s hk hi
      rcases hs i s (by omega) hi with ⟨s', h1, h2⟩ | ⟨s', h1, h2⟩ | ⟨r, h1, h2⟩
      · obtain ⟨e, h3, h4⟩ := ih (i + 1) s' (by omega) h2
        exact ⟨e, by rw [loopP_go h1]; exact h3, h4⟩
      · exact ⟨_, loopP_out h1, h2⟩
      · exact ⟨_, loopP_ret h1, h2⟩
  exact key n 0 s (by omega) h0

theorem w64_succ {i : Nat} (h : i < 9223372036854775807) : w64 ((i : Int) + 1) = ((i + 1 : Nat) : Int) := by
  rw [w64_id (by omega) (by omega)]; omega
theorem get_lt {xs : List α} {i : Nat} (h : i < xs.length) : ∃ x, get? xs (i : Int) = some x ∧ xs[i]? = some x := ⟨xs[i], get_at h, List.getElem?_eq_getElem h⟩

/-- A copy of a list, element by element. -/
def copyStep (x : List α) (f : α → Option α) : List α × Int → Option (Lp (List α × Int) ρ)
  | (s1, s2) =>
    if (decide (s2 < (x.length : Int))) = true then
      (get? x s2).bind fun v4 =>
      (f v4).bind fun v5 =>
      (get? s1 s2).bind fun v6 =>
      some (.go ((s1.set s2.toNat v5), w64 (s2 + 1)))
    else
      some (.out (s1, s2))

theorem copy_loop {x v : List α} {f : α → Option α} (hf : ∀ a, a ∈ x → f a = some a) (hl : v.length = x.length) (hn : x.length < 9223372036854775807) : ∃ i, loopP (copyStep (ρ := ρ) x f) (v, 0) = some (.out (x, i)) := by
  obtain ⟨e, h1, i, rfl⟩ := loop_count (step := copyStep (ρ := ρ) x f) x.length (fun i s => s.2 = (i : Int) ∧ s.1.length = x.length ∧ ∀ j, j < i → s.1[j]? = x[j]?) (fun e => ∃ i, e = .out (x, i)) (by
      rintro i ⟨s1, s2⟩ hi ⟨h1, h2, h3⟩
      simp only at h1 h2 h3
      subst h1
      left
      obtain ⟨a, ha, ha'⟩ := get_lt (xs := x) hi
      obtain ⟨b, hb, hb'⟩ := get_lt (xs := s1) (i := i) (by omega)
      have hd : decide ((i : Int) < (x.length : Int)) = true := by simpa using hi
      refine ⟨(s1.set i a, ((i + 1 : Nat) : Int)), ?_, rfl, by simpa using h2, ?_⟩
      · simp only [copyStep]
        rw [if_t hd, ha, Option.bind_some, hf a (List.mem_of_getElem? ha'), Option.bind_some, hb, Option.bind_some, w64_succ (by omega), Int.toNat_natCast]
      · intro j hj
        simp only [List.getElem?_set]
        by_cases e : i = j
        · subst e
          rw [if_pos rfl, if_pos (by omega)]; exact ha'.symm
        · rw [if_neg e]; exact h3 j (by omega))
    (by
      rintro ⟨s1, s2⟩ ⟨h1, h2, h3⟩
      simp only at h1 h2 h3
      subst h1
      left
      have hd : decide ((x.length : Int) < (x.length : Int)) = false := by simp
      refine ⟨(s1, (x.length : Int)), ?_, x.length, ?_⟩
      · simp only [copyStep]
        rw [if_f hd]
      · have : s1 = x := by
          apply List.ext_getElem?
          intro j
          by_cases hj : j < x.length
          · exact h3 j hj
          · rw [List.getElem?_eq_none (by omega), List.getElem?_eq_none (by omega)]
        rw [this]) (s := (v, 0)) ⟨rfl, hl, fun j hj => by omega⟩
  exact ⟨i, h1⟩

/-- Two equal lists, element by element. -/
def eqStep (x y : List α) (g : α → α → Option Bool) : Int → Option (Lp Int Bool)
  | s1 =>
    if (decide (s1 < (x.length : Int))) = true then
      (get? x s1).bind fun v3 =>
      (get? y s1).bind fun v4 =>
      (g v3 v4).bind fun v5 =>
      if (v5) = true then
        some (.go (w64 (s1 + 1)))
      else
        some (.ret false)
    else
      some (.out s1)

theorem eq_loop {x : List α} {g : α → α → Option Bool} (hg : ∀ a, a ∈ x → g a a = some true) (hn : x.length < 9223372036854775807) : ∃ i, loopP (eqStep x x g) 0 = some (.out i) := by
  obtain ⟨e, h1, i, rfl⟩ := loop_count (step := eqStep x x g) x.length (fun i s => s = (i : Int)) (fun e => ∃ i, e = .out i) (by
      rintro i _ hi rfl
      left
      obtain ⟨a, ha, ha'⟩ := get_lt (xs := x) hi
      have hd : decide ((i : Int) < (x.length : Int)) = true := by simpa using hi
      refine ⟨((i + 1 : Nat) : Int), ?_, rfl⟩
      simp only [eqStep]
      rw [if_t hd, ha, Option.bind_some, Option.bind_some, hg a (List.mem_of_getElem? ha'), Option.bind_some, if_pos rfl, w64_succ (by omega)])
    (by
      rintro _ rfl
      left
      have hd : decide ((x.length : Int) < (x.length : Int)) = false := by simp
      refine ⟨(x.length : Int), ?_, x.length, rfl⟩
      simp only [eqStep]
      rw [if_f hd]) (s := 0) rfl
  exact ⟨i, h1⟩

theorem mkL_ok {l y : Nat} {z : α} (h : l * y ≤ 281474976710656) (h' : l ≤ 9223372036854775807) : mkL (l : Int) (y : Int) (l : Int) z = some (List.replicate l z) := by
  unfold mkL
  have h1 : ((l * y : Nat) : Int) ≤ 281474976710656 := by omega
  rw [Int.natCast_mul] at h1
  rw [if_pos ⟨by omega, by omega, h1, by omega⟩, Int.toNat_natCast]
end
end Go.AM
namespace Go.AM
theorem w64_def {n : Int} : w64 n = (n + 9223372036854775808) % 18446744073709551616 - 9223372036854775808 := by
  unfold w64; rw [IntKind.wrap_i64]
theorem w64_sub_l {a c : Int} : w64 (w64 a - c) = w64 (a - c) := by simp only [w64_def]; omega
theorem w64_add_l {a c : Int} : w64 (w64 a + c) = w64 (a + c) := by simp only [w64_def]; omega
theorem w64_add_r {a c : Int} : w64 (a + w64 c) = w64 (a + c) := by simp only [w64_def]; omega
theorem w64_sub_r {a c : Int} : w64 (a - w64 c) = w64 (a - c) := by simp only [w64_def]; omega
end Go.AM
