/- The plain law of CounterValue. No condition. -/
import Derived.Test.YtjnkmdphjopboaaLabGCounterValue
import Derived.Test.YtjnkmdphjopboaaLabL1
set_option linter.unusedVariables false
set_option linter.unusedSimpArgs false
namespace Go.AM

theorem q_szIntS (x : List Int) (n : Int) : ∃ m, p_laws_szIntS x n = some m := by
  unfold p_laws_szIntS
  repeat' split
  all_goals exact ⟨_, rfl⟩
theorem q_szVector (x : TVec) (n : Int) : ∃ m, p_laws_szVector x n = some m := by
  unfold p_laws_szVector
  obtain ⟨m, h⟩ := q_szIntS x.counts n
  rw [h, Option.bind_some]
  repeat' split
  all_goals exact ⟨_, rfl⟩
theorem q_toIntS (x : List Int) (hx : x.length * 8 ≤ reachBytes) : p_laws_toIntS x = some x := by
  rw [reach_eq] at hx
  unfold p_laws_toIntS
  rw [show (8 : Int) = ((8 : Nat) : Int) from rfl, mkL_ok (by omega) (by omega), Option.bind_some]
  have e : p_laws_toIntS_l0 x = copyStep x some := rfl
  rw [e]
  obtain ⟨i, h⟩ := copy_loop (ρ := List Int) (x := x) (v := List.replicate x.length 0) (f := some) (fun _ _ => rfl) (by simp) (by omega)
  rw [h]; rfl
theorem q_toVector (x : TVec) (hx : okTVec x) : p_laws_toVector x = some x := by
  unfold p_laws_toVector
  rw [q_toIntS x.counts hx.1]; rfl
theorem q_eqIntS (x : List Int) (hx : x.length * 8 ≤ reachBytes) : p_laws_eqIntS x x = some true := by
  rw [reach_eq] at hx
  unfold p_laws_eqIntS
  rw [if_pos (by simp)]
  have e : p_laws_eqIntS_l0 x x = eqStep x x fun a b => some (decide (a = b)) := by
    funext s
    unfold p_laws_eqIntS_l0 eqStep
    simp only [Option.bind_some]
  rw [e]
  obtain ⟨i, h⟩ := eq_loop (x := x) (g := fun a b => some (decide (a = b))) (fun a _ => by simp) (by omega)
  rw [h]; rfl
theorem q_eqVector (x : TVec) (hx : okTVec x) : p_laws_eqVector x x = some true := by
  unfold p_laws_eqVector
  rw [q_eqIntS x.counts hx.1]; rfl

theorem q_specVecOK (x : TVec) : ∃ b, p_spec_VecOK x = some b ∧ (b = true → x.counts.length = 16) := by
  unfold p_spec_VecOK
  by_cases hl : decide ((x.counts.length : Int) = 16) = true
  · rw [if_t hl]
    have hl' : x.counts.length = 16 := by have := of_decide_eq_true hl; omega
    obtain ⟨e, h1, h2⟩ := loop_count (step := p_spec_VecOK_l0 x) 16 (fun i s => s = (i : Int)) (fun _ => True) (by
      rintro i _ hi rfl
      obtain ⟨a, ha, ha'⟩ := get_lt (xs := x.counts) (i := i) (by omega)
      have hd : decide ((i : Int) < 16) = true := by simp; omega
      simp only [p_spec_VecOK_l0]
      rw [if_t hd, ha, Option.bind_some, w64_succ (by omega)]
      repeat' split
      · exact .inr (.inr ⟨_, rfl, trivial⟩)
      · exact .inr (.inr ⟨_, rfl, trivial⟩)
      · exact .inl ⟨_, rfl, rfl⟩)
      (by
      rintro _ rfl
      left
      exact ⟨16, rfl, trivial⟩) (s := 0) rfl
    rw [h1, Option.bind_some]
    cases e with
    | out s => exact ⟨_, rfl, fun _ => hl'⟩
    | ret r => exact ⟨_, rfl, fun _ => hl'⟩
  · rw [if_neg hl]
    exact ⟨_, rfl, fun h => by cases h⟩
theorem q_implVecOK (x : TVec) : p_impl_VecOK x = p_spec_VecOK x := by
  unfold p_impl_VecOK p_spec_VecOK
  by_cases hl : decide ((x.counts.length : Int) = 16) = true
  · rw [if_t hl, if_t hl]
    have hl' : (x.counts.length : Int) = 16 := of_decide_eq_true hl
    have : p_impl_VecOK_l0 x = p_spec_VecOK_l0 x := by
      funext s
      unfold p_impl_VecOK_l0 p_spec_VecOK_l0
      rw [hl']
    rw [this]
  · rw [if_neg hl, if_neg hl]

theorem q_szCounter (x : TCounter) (n : Int) : ∃ m, p_laws_szCounter x n = some m := by
  unfold p_laws_szCounter
  obtain ⟨m, h⟩ := q_szVector x.plus n
  obtain ⟨k, h'⟩ := q_szVector x.minus m
  rw [h, Option.bind_some]
  split
  · exact ⟨_, rfl⟩
  · rw [h', Option.bind_some]
    split
    · exact ⟨_, rfl⟩
    · exact ⟨_, rfl⟩
theorem q_toCounter (x : TCounter) (hx : okTCounter x) : p_laws_toCounter x = some x := by
  unfold p_laws_toCounter
  rw [q_toVector x.plus hx.1, q_toVector x.minus hx.2]; rfl
theorem q_eqCounter (x : TCounter) (hx : okTCounter x) : p_laws_eqCounter x x = some true := by
  unfold p_laws_eqCounter
  rw [q_eqVector x.plus hx.1, q_eqVector x.minus hx.2]; rfl
theorem q_counterOK (x : TCounter) : p_impl_counterOK x = p_spec_l03CounterOK x := by
  unfold p_impl_counterOK p_spec_l03CounterOK
  rw [q_implVecOK, q_implVecOK]
theorem q_specOK (x : TCounter) : ∃ b, p_spec_l03CounterOK x = some b ∧ (b = true → x.plus.counts.length = 16 ∧ x.minus.counts.length = 16) := by
  unfold p_spec_l03CounterOK
  obtain ⟨b, h1, h2⟩ := q_specVecOK x.plus
  obtain ⟨c, h3, h4⟩ := q_specVecOK x.minus
  rw [h1, h3]
  simp only [Option.bind_some]
  cases b with
  | false => exact ⟨_, rfl, fun h => by cases h⟩
  | true => exact ⟨_, rfl, fun h => ⟨h2 rfl, h4 h⟩⟩
theorem q_CounterValue (x : TCounter) : ∃ r, p_spec_CounterValue x = some r ∧ p_impl_CounterValue x = some r := by
  unfold p_spec_CounterValue p_impl_CounterValue
  obtain ⟨b, h1, h2⟩ := q_specOK x
  rw [q_counterOK, h1]
  simp only [Option.bind_some]
  cases b with
  | false => exact ⟨_, rfl, rfl⟩
  | true =>
    obtain ⟨hp, hm⟩ := h2 rfl
    have hstep : p_impl_CounterValue_l0 x = p_spec_CounterValue_l0 x := by
      funext s
      unfold p_impl_CounterValue_l0 p_spec_CounterValue_l0
      obtain ⟨s2, s3⟩ := s
      simp only [hp, w64_add_r, w64_sub_l]
      have : ∀ a b : Int, s2 + (a - b) = s2 + a - b := by intro a b; omega
      simp only [this]
      rfl
    rw [hstep]
    obtain ⟨e, h3, s, rfl⟩ := loop_count (step := p_spec_CounterValue_l0 x) 16 (fun i s => s.2 = (i : Int)) (fun e => ∃ s, e = .out s) (by
      rintro i ⟨s2, s3⟩ hi h
      simp only at h
      subst h
      obtain ⟨a, ha, ha'⟩ := get_lt (xs := x.plus.counts) (i := i) (by omega)
      obtain ⟨b, hb, hb'⟩ := get_lt (xs := x.minus.counts) (i := i) (by omega)
      have hd : decide ((i : Int) < 16) = true := by simp; omega
      simp only [p_spec_CounterValue_l0]
      rw [if_t hd, ha, Option.bind_some, hb, Option.bind_some, w64_succ (by omega)]
      exact .inl ⟨_, rfl, rfl⟩)
      (by
      rintro ⟨s2, s3⟩ h
      simp only at h
      subst h
      exact .inl ⟨_, rfl, _, rfl⟩) (s := (0, 0)) rfl
    rw [h3]
    obtain ⟨o7, o8⟩ := s
    exact ⟨_, rfl, rfl⟩
theorem plain_CounterValue (x : TCounter) (hx : okTCounter x) : p_laws_FnExactCounterValue x = some true := by
  unfold p_laws_FnExactCounterValue
  obtain ⟨m, h1⟩ := q_szCounter x 1048576
  obtain ⟨r, h3, h4⟩ := q_CounterValue x
  simp only [h1, h3, h4, q_toCounter x hx, q_eqCounter x hx, Option.bind_some, decide_true, if_true]
  repeat' split
  all_goals rfl
end Go.AM
