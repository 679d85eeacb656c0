/- The plain law of VecOrder. No condition. -/
import Derived.Test.YtlfbhelaehdemaaLabGVecOrder
import Derived.Test.YtlfbhelaehdemaaLabL1
set_option linter.unusedVariables false
set_option linter.unusedSimpArgs false
namespace Go.AM

theorem q_szIntS (x : List Int) (n : Int) : ∃ m, p_laws_szIntS x n = some m := by
  unfold p_laws_szIntS
  repeat' split
  all_goals exact ⟨_, rfl⟩
theorem q_szVector (x : TVec) (n : Int) : ∃ m, p_laws_szVector x n = some m := by
  unfold p_laws_szVector
  obtain ⟨m, h⟩ := q_szIntS x.counts n
  rw [h, Option.bind_some]
  repeat' split
  all_goals exact ⟨_, rfl⟩
theorem q_toIntS (x : List Int) (hx : x.length * 8 ≤ reachBytes) : p_laws_toIntS x = some x := by
  rw [reach_eq] at hx
  unfold p_laws_toIntS
  rw [show (8 : Int) = ((8 : Nat) : Int) from rfl, mkL_ok (by omega) (by omega), Option.bind_some]
  have e : p_laws_toIntS_l0 x = copyStep x some := rfl
  rw [e]
  obtain ⟨i, h⟩ := copy_loop (ρ := List Int) (x := x) (v := List.replicate x.length 0) (f := some) (fun _ _ => rfl) (by simp) (by omega)
  rw [h]; rfl
theorem q_toVector (x : TVec) (hx : okTVec x) : p_laws_toVector x = some x := by
  unfold p_laws_toVector
  rw [q_toIntS x.counts hx.1]; rfl
theorem q_eqIntS (x : List Int) (hx : x.length * 8 ≤ reachBytes) : p_laws_eqIntS x x = some true := by
  rw [reach_eq] at hx
  unfold p_laws_eqIntS
  rw [if_pos (by simp)]
  have e : p_laws_eqIntS_l0 x x = eqStep x x fun a b => some (decide (a = b)) := by
    funext s
    unfold p_laws_eqIntS_l0 eqStep
    simp only [Option.bind_some]
  rw [e]
  obtain ⟨i, h⟩ := eq_loop (x := x) (g := fun a b => some (decide (a = b))) (fun a _ => by simp) (by omega)
  rw [h]; rfl
theorem q_eqVector (x : TVec) (hx : okTVec x) : p_laws_eqVector x x = some true := by
  unfold p_laws_eqVector
  rw [q_eqIntS x.counts hx.1]; rfl

theorem q_specVecOK (x : TVec) : ∃ b, p_spec_VecOK x = some b ∧ (b = true → x.counts.length = 16) := by
  unfold p_spec_VecOK
  by_cases hl : decide ((x.counts.length : Int) = 16) = true
  · rw [if_t hl]
    have hl' : x.counts.length = 16 := by have := of_decide_eq_true hl; omega
    obtain ⟨e, h1, h2⟩ := loop_count (step := p_spec_VecOK_l0 x) 16 (fun i s => s = (i : Int)) (fun _ => True) (by
      rintro i _ hi rfl
      obtain ⟨a, ha, ha'⟩ := get_lt (xs := x.counts) (i := i) (by omega)
      have hd : decide ((i : Int) < 16) = true := by simp; omega
      simp only [p_spec_VecOK_l0]
      rw [if_t hd, ha, Option.bind_some, w64_succ (by omega)]
      repeat' split
      · exact .inr (.inr ⟨_, rfl, trivial⟩)
      · exact .inr (.inr ⟨_, rfl, trivial⟩)
      · exact .inl ⟨_, rfl, rfl⟩)
      (by
      rintro _ rfl
      left
      exact ⟨16, rfl, trivial⟩) (s := 0) rfl
    rw [h1, Option.bind_some]
    cases e with
    | out s => exact ⟨_, rfl, fun _ => hl'⟩
    | ret r => exact ⟨_, rfl, fun _ => hl'⟩
  · rw [if_neg hl]
    exact ⟨_, rfl, fun h => by cases h⟩
theorem q_implVecOK (x : TVec) : p_impl_VecOK x = p_spec_VecOK x := by
  unfold p_impl_VecOK p_spec_VecOK
  by_cases hl : decide ((x.counts.length : Int) = 16) = true
  · rw [if_t hl, if_t hl]
    have hl' : (x.counts.length : Int) = 16 := of_decide_eq_true hl
    have : p_impl_VecOK_l0 x = p_spec_VecOK_l0 x := by
      funext s
      unfold p_impl_VecOK_l0 p_spec_VecOK_l0
      rw [hl']
    rw [this]
  · rw [if_neg hl, if_neg hl]
theorem q_covers (x y : TVec) (hx : x.counts.length = 16) (hy : y.counts.length = 16) : ∃ b, p_spec_l02Covers x y = some b := by
  unfold p_spec_l02Covers
  obtain ⟨e, h1, h2⟩ := loop_count (step := p_spec_l02Covers_l0 x y) 16 (fun i s => s = (i : Int)) (fun _ => True) (by
    rintro i _ hi rfl
    obtain ⟨a, ha, ha'⟩ := get_lt (xs := x.counts) (i := i) (by omega)
    obtain ⟨b, hb, hb'⟩ := get_lt (xs := y.counts) (i := i) (by omega)
    have hd : decide ((i : Int) < 16) = true := by simp; omega
    simp only [p_spec_l02Covers_l0]
    rw [if_t hd, hb, Option.bind_some, ha, Option.bind_some, w64_succ (by omega)]
    split
    · exact .inr (.inr ⟨_, rfl, trivial⟩)
    · exact .inl ⟨_, rfl, rfl⟩)
    (by
    rintro _ rfl
    left
    exact ⟨16, rfl, trivial⟩) (s := 0) rfl
  rw [h1, Option.bind_some]
  cases e with
  | out s => exact ⟨_, rfl⟩
  | ret r => exact ⟨_, rfl⟩
theorem q_vecLE (x y : TVec) (hx : x.counts.length = 16) : p_impl_vecLE x y = p_spec_l02Covers y x := by
  unfold p_impl_vecLE p_spec_l02Covers
  have : p_impl_vecLE_l0 x y = p_spec_l02Covers_l0 y x := by
    funext s
    unfold p_impl_vecLE_l0 p_spec_l02Covers_l0
    rw [hx]
    rfl
  rw [this]
theorem q_VecOrder (x y : TVec) : ∃ r, p_spec_VecOrder x y = some r ∧ p_impl_VecOrder x y = some r := by
  unfold p_spec_VecOrder p_impl_VecOrder
  obtain ⟨b, h1, h2⟩ := q_specVecOK x
  obtain ⟨c, h3, h4⟩ := q_specVecOK y
  rw [q_implVecOK, q_implVecOK, h1, h3]
  simp only [Option.bind_some]
  cases b with
  | false => exact ⟨_, rfl, rfl⟩
  | true =>
    cases c with
    | false => exact ⟨_, rfl, rfl⟩
    | true =>
      rw [q_vecLE x y (h2 rfl), q_vecLE y x (h4 rfl)]
      obtain ⟨p, h5⟩ := q_covers x y (h2 rfl) (h4 rfl)
      obtain ⟨q, h6⟩ := q_covers y x (h4 rfl) (h2 rfl)
      rw [h5, h6]
      cases p <;> cases q <;> exact ⟨_, rfl, rfl⟩
theorem plain_VecOrder (x y : TVec) (hx : okTVec x) (hy : okTVec y) : p_laws_FnExactVecOrder x y = some true := by
  unfold p_laws_FnExactVecOrder
  obtain ⟨m, h1⟩ := q_szVector x 1048576
  obtain ⟨k, h2⟩ := q_szVector y m
  obtain ⟨r, h3, h4⟩ := q_VecOrder x y
  simp only [h1, h2, h3, h4, q_toVector x hx, q_toVector y hy, q_eqVector x hx, q_eqVector y hy, Option.bind_some, decide_true, if_true]
  repeat' split
  all_goals rfl
end Go.AM
