/- More loops over lists, plainly. No condition. -/
import Derived.Test.YtcfjnhpheaiofaaLabL2
set_option linter.unusedVariables false
set_option linter.unusedSimpArgs false
namespace Go.AM

section
variable {σ ρ α : Type}

/-- A loop that asks the same of each number below n. -/
theorem all_loop {step : Int → Option (Lp Int Bool)} (n : Nat) (good : Nat → Prop)
    (h : ∀ i, i < n → (good i ∧ step (i : Int) = some (.go ((i + 1 : Nat) : Int))) ∨ (¬ good i ∧ step (i : Int) = some (.ret false))) (he : step (n : Int) = some (.out (n : Int))) :
    (loopP step 0 = some (.out (n : Int)) ∧ ∀ i, i < n → good i) ∨ (loopP step 0 = some (.ret false) ∧ ∃ i, i < n ∧ ¬ good i) := by
  obtain ⟨e, h1, h2⟩ := loop_count (step := step) n (fun i s => s = (i : Int) ∧ ∀ j, j < i → good j) (fun e => (e = .out (n : Int) ∧ ∀ i, i < n → good i) ∨ (e = .ret false ∧ ∃ i, i < n ∧ ¬ good i)) (by
    rintro i _ hi ⟨rfl, hg⟩
    rcases h i hi with ⟨g, hs⟩ | ⟨g, hs⟩
    · refine .inl ⟨_, hs, rfl, fun j hj => ?_⟩
      by_cases e : j = i
      · subst e; exact g
      · exact hg j (by omega)
    · exact .inr (.inr ⟨_, hs, .inr ⟨rfl, i, hi, g⟩⟩))
    (by
    rintro _ ⟨rfl, hg⟩
    exact .inl ⟨_, he, .inl ⟨rfl, hg⟩⟩) (s := 0) ⟨rfl, fun j hj => by omega⟩
  rcases h2 with ⟨rfl, h2⟩ | ⟨rfl, h2⟩
  · exact .inl ⟨h1, h2⟩
  · exact .inr ⟨h1, h2⟩

theorem take_next {x : List α} {i : Nat} {a : α} (h : x[i]? = some a) : x.take (i + 1) = x.take i ++ [a] := by
  rw [List.take_add_one, h]; rfl

theorem app_one {y : Nat} {xs : List α} {a : α} (h : (xs.length + 1) * y ≤ 140737488355328) : app? y xs [a] = some (xs ++ [a]) := by
  unfold app?
  rw [if_pos (by right; simpa using h)]
theorem app_list {y : Nat} {xs ys : List α} (h : (xs.length + ys.length) * y ≤ 140737488355328) : app? y xs ys = some (xs ++ ys) := by
  unfold app?
  rw [if_pos (by right; exact h)]
theorem w64_pred {i : Nat} (h : 0 < i) (h' : i < 9223372036854775807) : w64 ((i : Int) - 1) = ((i - 1 : Nat) : Int) := by
  rw [w64_id (by omega) (by omega)]; omega
end
end Go.AM
