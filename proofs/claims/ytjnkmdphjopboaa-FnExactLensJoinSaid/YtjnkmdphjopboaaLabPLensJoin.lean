/- The plain law of LensJoin. No condition. -/
import Derived.Test.YtjnkmdphjopboaaLabGLensJoin
import Derived.Test.YtjnkmdphjopboaaLabL1
set_option linter.unusedVariables false
set_option linter.unusedSimpArgs false
namespace Go.AM

theorem q_markText (n : Int) (hn : n < 4611686018427387904) : ∃ s, p_laws_markText n = some s := by
  unfold p_laws_markText
  by_cases h0 : n ≤ 0
  · rw [if_pos (decide_eq_true h0)]; exact ⟨_, rfl⟩
  · rw [if_neg (by simpa using h0)]
    obtain ⟨e, h1, m, s, rfl, hs⟩ := loopP_inv (step := p_laws_markText_l0) (fun s => 0 ≤ s.1 ∧ s.1 + s.2.size ≤ n) (fun s => s.1.toNat) (fun e => ∃ m s, e = .out (m, s) ∧ (s.size : Int) ≤ n) (by
      rintro ⟨s1, s2⟩ ⟨h2, h3⟩
      simp only at h2 h3
      simp only [p_laws_markText_l0]
      by_cases hd : 0 < s1
      · rw [if_pos (decide_eq_true hd)]
        have hz : ∀ k : Int, (strOfNums [k]).size = 1 := fun k => rfl
        have hc : ∀ k : Int, cat? (strOfNums [k]) s2 = some (strOfNums [k] ++ s2) := by
          intro k
          unfold cat?
          rw [if_pos (by rw [hz]; omega)]
        rw [hc, Option.bind_some]
        refine ⟨_, rfl, ?_⟩
        have hq : s1.tdiv 10 = s1 / 10 := Int.tdiv_eq_ediv_of_nonneg h2
        have hw : w64 (s1.tdiv 10) = s1 / 10 := by rw [hq]; exact w64_id (by omega) (by omega)
        simp only [hw, ByteArray.size_append, hz]
        refine ⟨⟨by omega, by omega⟩, by omega⟩
      · rw [if_neg (by simpa using hd)]
        exact ⟨_, rfl, _, _, rfl, by omega⟩) (s := (n, ByteArray.mk #[])) ⟨by simp only; omega, by simp only; show n + ((0 : Nat) : Int) ≤ n; omega⟩
    rw [h1, Option.bind_some]
    have : cat? (ByteArray.mk #[109]) s = some (ByteArray.mk #[109] ++ s) := by
      unfold cat?
      rw [if_pos (by show ((1 + s.size : Nat) : Int) ≤ _; omega)]
    simp only [this, Option.bind_some]
    exact ⟨_, rfl⟩

theorem q_szStep (x : TStep) (n : Int) : ∃ m, p_laws_szStep x n = some m := by
  unfold p_laws_szStep
  repeat' split
  all_goals exact ⟨_, rfl⟩
theorem q_szStepS (x : List TStep) (n : Int) (hx : x.length < 9223372036854775807) : ∃ m, p_laws_szStepS x n = some m := by
  unfold p_laws_szStepS
  split
  · exact ⟨_, rfl⟩
  · obtain ⟨e, h1, _⟩ := loop_count (step := p_laws_szStepS_l0 x) x.length (fun i s => s.2 = (i : Int)) (fun _ => True) (by
      rintro i ⟨s1, s2⟩ hi h
      simp only at h
      subst h
      obtain ⟨a, ha, ha'⟩ := get_lt (xs := x) hi
      obtain ⟨m, hm⟩ := q_szStep a s1
      have hd : decide ((i : Int) < (x.length : Int)) = true := by simpa using hi
      simp only [p_laws_szStepS_l0]
      rw [if_t hd, ha, Option.bind_some, hm, Option.bind_some, w64_succ (by omega)]
      split
      · exact .inr (.inr ⟨_, rfl, trivial⟩)
      · exact .inl ⟨_, rfl, rfl⟩)
      (by
      rintro ⟨s1, s2⟩ h
      simp only at h
      subst h
      have hd : decide ((x.length : Int) < (x.length : Int)) = false := by simp
      simp only [p_laws_szStepS_l0]
      rw [if_f hd]
      exact .inl ⟨_, rfl, trivial⟩) (s := (w64 (n - (x.length : Int)), 0)) rfl
    rw [h1, Option.bind_some]
    cases e with
    | out s => exact ⟨_, rfl⟩
    | ret r => exact ⟨_, rfl⟩
theorem q_toStepS (x : List TStep) (hx : x.length * 56 ≤ reachBytes) : p_laws_toStepS x = some x := by
  rw [reach_eq] at hx
  unfold p_laws_toStepS
  rw [show (56 : Int) = ((56 : Nat) : Int) from rfl, mkL_ok (by omega) (by omega), Option.bind_some]
  have e : p_laws_toStepS_l0 x = copyStep x some := by
    funext s
    unfold p_laws_toStepS_l0 copyStep p_laws_toStep
    rfl
  rw [e]
  obtain ⟨i, h⟩ := copy_loop (ρ := List TStep) (x := x) (v := List.replicate x.length (TStep.mk 0 (ByteArray.mk #[]) (ByteArray.mk #[]) (ByteArray.mk #[]))) (f := some) (fun _ _ => rfl) (by simp) (by omega)
  rw [h]; rfl
theorem q_eqStep (x : TStep) : p_laws_eqStep x x = some true := by
  unfold p_laws_eqStep
  simp
theorem q_eqStepS (x : List TStep) (hx : x.length < 9223372036854775807) : p_laws_eqStepS x x = some true := by
  unfold p_laws_eqStepS
  rw [if_pos (by simp)]
  have e : p_laws_eqStepS_l0 x x = eqStep x x p_laws_eqStep := rfl
  rw [e]
  obtain ⟨i, h⟩ := eq_loop (x := x) (g := p_laws_eqStep) (fun a _ => q_eqStep a) hx
  rw [h]; rfl

noncomputable def mt (n : Int) : ByteArray := (p_laws_markText n).getD (ByteArray.mk #[])
theorem mt_eq {n : Int} (hn : n < 4611686018427387904) : p_laws_markText n = some (mt n) := by
  obtain ⟨s, hs⟩ := q_markText n hn
  unfold mt
  rw [hs]; rfl
noncomputable def mStep (k : Int) : TStep := ⟨k, mt (k + 1), mt (k + 2), mt (k + 3)⟩

theorem q_markStepS (x : List TStep) (n : Int) (h0 : 0 ≤ n) (hn : n + 4 * x.length < 4611686018427380000) : ∃ y, p_laws_markStepS x n = some ⟨n + 4 * x.length, y⟩ ∧ y.length = x.length ∧ ∀ j : Nat, j < x.length → y[j]? = some (mStep (n + 4 * j)) := by
  unfold p_laws_markStepS
  obtain ⟨e, h1, y, i, rfl, h2, h3⟩ := loop_count (step := p_laws_markStepS_l0) x.length (fun i s => s.2.1 = n + 4 * (i : Int) ∧ s.2.2 = (i : Int) ∧ s.1.length = x.length ∧ ∀ j : Nat, j < i → s.1[j]? = some (mStep (n + 4 * j)))
    (fun e => ∃ y i, e = .out (y, n + 4 * x.length, i) ∧ y.length = x.length ∧ ∀ j : Nat, j < x.length → y[j]? = some (mStep (n + 4 * j))) (by
      rintro i ⟨s0, s1, s2⟩ hi ⟨h1, h2, h3, h4⟩
      simp only at h1 h2 h3 h4
      subst h1 h2
      obtain ⟨a, ha, ha'⟩ := get_lt (xs := s0) (i := i) (by omega)
      have hd : decide ((i : Int) < (s0.length : Int)) = true := by simp; omega
      have hset : ∀ (l : List TStep) (b : TStep), l.length = x.length → get? (l.set i b) (i : Int) = some b := by
        intro l b hl
        rw [get_nat, List.getElem?_set_self (by omega)]
      left
      refine ⟨(s0.set i (mStep (n + 4 * i)), n + 4 * ((i + 1 : Nat) : Int), ((i + 1 : Nat) : Int)), ?_, rfl, rfl, by simpa using h3, ?_⟩
      · have e1 : w64 (n + 4 * (i : Int) + 1) = n + 4 * i + 1 := w64_id (by omega) (by omega)
        have e2 : w64 (n + 4 * (i : Int) + 1 + 1) = n + 4 * i + 2 := by rw [w64_id (by omega) (by omega)]; omega
        have e3 : w64 (n + 4 * (i : Int) + 2 + 1) = n + 4 * i + 3 := by rw [w64_id (by omega) (by omega)]; omega
        have e4 : w64 (n + 4 * (i : Int) + 3 + 1) = n + 4 * ((i + 1 : Nat) : Int) := by rw [w64_id (by omega) (by omega)]; omega
        simp only [p_laws_markStepS_l0, Int.toNat_natCast, e1, e2, e3, e4, w64_succ (show i < 9223372036854775807 by omega)]
        rw [if_t hd, ha, Option.bind_some, mt_eq (by omega), Option.bind_some, hset _ _ h3, Option.bind_some, mt_eq (by omega), Option.bind_some, hset _ _ (by simpa using h3), Option.bind_some, mt_eq (by omega), Option.bind_some, hset _ _ (by simpa using h3), Option.bind_some]
        simp only [List.set_set]
        rfl
      · intro j hj
        simp only [List.getElem?_set]
        by_cases e : i = j
        · subst e
          rw [if_pos rfl, if_pos (by omega)]
        · rw [if_neg e]; exact h4 j (by omega))
    (by
      rintro ⟨s0, s1, s2⟩ ⟨h1, h2, h3, h4⟩
      simp only at h1 h2 h3 h4
      subst h1 h2
      have hd : decide ((x.length : Int) < (s0.length : Int)) = false := by simp; omega
      left
      refine ⟨(s0, n + 4 * (x.length : Int), (x.length : Int)), ?_, s0, x.length, rfl, h3, h4⟩
      simp only [p_laws_markStepS_l0]
      rw [if_f hd]) (s := (x, n, 0)) ⟨by simp, rfl, rfl, fun j hj => by omega⟩
  rw [h1]
  exact ⟨y, rfl, h2, h3⟩
theorem q_heldStepS (y : List TStep) (n : Int) (h0 : 0 ≤ n) (hn : n + 4 * y.length < 4611686018427380000) (hy : ∀ j : Nat, j < y.length → y[j]? = some (mStep (n + 4 * j))) : p_laws_heldStepS y n = some (n + 4 * y.length) := by
  unfold p_laws_heldStepS
  obtain ⟨e, h1, i, rfl⟩ := loop_count (step := p_laws_heldStepS_l0 y) y.length (fun i s => s.1 = n + 4 * (i : Int) ∧ s.2 = (i : Int)) (fun e => ∃ i, e = .out (n + 4 * y.length, i)) (by
      rintro i ⟨s0, s1⟩ hi ⟨h1, h2⟩
      simp only at h1 h2
      subst h1 h2
      obtain ⟨a, ha, ha'⟩ := get_lt (xs := y) (i := i) hi
      rw [hy i hi] at ha'
      cases ha'
      have hd : decide ((i : Int) < (y.length : Int)) = true := by simp; omega
      left
      refine ⟨(n + 4 * ((i + 1 : Nat) : Int), ((i + 1 : Nat) : Int)), ?_, rfl, rfl⟩
      have e1 : w64 (n + 4 * (i : Int) + 1) = n + 4 * i + 1 := w64_id (by omega) (by omega)
      have e2 : w64 (n + 4 * (i : Int) + 1 + 1) = n + 4 * i + 2 := by rw [w64_id (by omega) (by omega)]; omega
      have e3 : w64 (n + 4 * (i : Int) + 2 + 1) = n + 4 * i + 3 := by rw [w64_id (by omega) (by omega)]; omega
      have e4 : w64 (n + 4 * (i : Int) + 3 + 1) = n + 4 * ((i + 1 : Nat) : Int) := by rw [w64_id (by omega) (by omega)]; omega
      simp only [p_laws_heldStepS_l0, e1, e2, e3, e4, w64_succ (show i < 9223372036854775807 by omega)]
      rw [if_t hd, ha, Option.bind_some, if_pos (by simp [mStep]), mt_eq (by omega), Option.bind_some, if_pos (by simp [mStep]), mt_eq (by omega), Option.bind_some, if_pos (by simp [mStep]), mt_eq (by omega), Option.bind_some, if_pos (by simp [mStep])])
    (by
      rintro ⟨s0, s1⟩ ⟨h1, h2⟩
      simp only at h1 h2
      subst h1 h2
      have hd : decide ((y.length : Int) < (y.length : Int)) = false := by simp
      left
      refine ⟨(n + 4 * (y.length : Int), (y.length : Int)), ?_, y.length, rfl⟩
      simp only [p_laws_heldStepS_l0]
      rw [if_f hd]) (s := (n, 0)) ⟨by simp, rfl⟩
  rw [h1]; rfl

theorem ba_empty {s : ByteArray} : s = ByteArray.mk #[] ↔ s.size = 0 := by
  constructor
  · rintro rfl; rfl
  · intro h
    obtain ⟨d⟩ := s
    congr 1
    exact Array.eq_empty_of_size_eq_zero h
theorem q_Name (s : ByteArray) : p_spec_l14Name s = some (decide (1 ≤ s.size ∧ s.size ≤ 200)) := by
  unfold p_spec_l14Name
  simp only [decide_eq_true_eq]
  split
  · simp only [Option.some.injEq]; apply decide_eq_decide.2; omega
  · simp only [Option.some.injEq]; symm; rw [decide_eq_false_iff_not]; omega
theorem q_nameOK (s : ByteArray) : p_impl_nameOK s = p_spec_l14Name s := by
  rw [q_Name]
  unfold p_impl_nameOK
  simp only [decide_eq_true_eq, ba_empty]
  split
  · simp only [Option.some.injEq]; symm; rw [decide_eq_false_iff_not]; omega
  · simp only [Option.some.injEq]; apply decide_eq_decide.2; omega
theorem q_lensLoop (x : List TStep) : p_impl_lensOK_l0 x = p_spec_l14LensOK_l0 x := by
  funext s
  unfold p_impl_lensOK_l0 p_spec_l14LensOK_l0
  simp only [p_impl_stepOK, q_nameOK, q_Name, Option.bind_some, decide_eq_true_eq]
  split
  · congr 1
    funext v
    have hc : (v.to = v.name) ↔ (v.name = v.to) := ⟨Eq.symm, Eq.symm⟩
    simp only [hc]
    repeat' split
    all_goals first | rfl | (simp_all; done) | omega
  · rfl

def vStep (y : TStep) : Prop := (y.kind = 1 ∧ y.text = ByteArray.mk #[]) ∨ y.kind = 2 ∨ y.kind = 3
theorem q_LensOK (x : List TStep) : ∃ b, p_spec_l14LensOK x = some b ∧ (b = true → x.length ≤ 32 ∧ ∀ y, y ∈ x → vStep y) := by
  unfold p_spec_l14LensOK
  by_cases hl : 32 < (x.length : Int)
  · rw [if_pos (decide_eq_true hl)]; exact ⟨_, rfl, fun h => by cases h⟩
  · rw [if_neg (by simpa using hl)]
    obtain ⟨e, h1, h2⟩ := loop_count (step := p_spec_l14LensOK_l0 x) x.length (fun i s => s = (i : Int) ∧ ∀ y, y ∈ x.take i → vStep y) (fun e => e = .ret false ∨ (∃ i, e = .out i) ∧ ∀ y, y ∈ x → vStep y) (by
      rintro i _ hi ⟨rfl, hv⟩
      obtain ⟨a, ha, ha'⟩ := get_lt (xs := x) hi
      have hd : decide ((i : Int) < (x.length : Int)) = true := by simpa using hi
      have hnext : vStep a → ∀ y, y ∈ x.take (i + 1) → vStep y := by
        intro hs y hy
        rw [List.take_add_one, ha', List.mem_append] at hy
        rcases hy with hy | hy
        · exact hv y hy
        · simp at hy; subst hy; exact hs
      simp only [p_spec_l14LensOK_l0]
      rw [if_t hd, ha, Option.bind_some, w64_succ (by omega)]
      simp only [q_Name, Option.bind_some, decide_eq_true_eq]
      repeat' split
      all_goals first
        | exact .inr (.inr ⟨_, rfl, .inl rfl⟩)
        | exact .inl ⟨_, rfl, rfl, hnext (.inl ⟨by assumption, by assumption⟩)⟩
        | exact .inl ⟨_, rfl, rfl, hnext (.inr (.inl (by assumption)))⟩
        | exact .inl ⟨_, rfl, rfl, hnext (.inr (.inr (by assumption)))⟩)
      (by
      rintro _ ⟨rfl, hv⟩
      have hd : decide ((x.length : Int) < (x.length : Int)) = false := by simp
      simp only [p_spec_l14LensOK_l0]
      rw [if_f hd]
      rw [List.take_length] at hv
      exact .inl ⟨_, rfl, .inr ⟨⟨_, rfl⟩, hv⟩⟩) (s := 0) ⟨rfl, by simp⟩
    rw [h1, Option.bind_some]
    rcases h2 with rfl | ⟨⟨i, rfl⟩, hv⟩
    · exact ⟨_, rfl, fun h => by cases h⟩
    · exact ⟨_, rfl, fun _ => ⟨by omega, hv⟩⟩

theorem q_LensJoin (x y : List TStep) : ∃ r, p_spec_LensJoin x y = some r ∧ p_impl_LensJoin x y = some r ∧ r.a.length ≤ 32 := by
  unfold p_spec_LensJoin p_impl_LensJoin
  have e : ∀ x, p_impl_lensOK x = p_spec_l14LensOK x := by
    intro x
    unfold p_impl_lensOK p_spec_l14LensOK
    rw [q_lensLoop]
  obtain ⟨b, h1, h2⟩ := q_LensOK x
  obtain ⟨c, h3, h4⟩ := q_LensOK y
  rw [e, e, h1, h3]
  simp only [Option.bind_some]
  cases b with
  | false => exact ⟨_, rfl, rfl, by simp⟩
  | true =>
    cases c with
    | false => exact ⟨_, rfl, rfl, by simp⟩
    | true =>
      have hx := (h2 rfl).1
      have hy := (h4 rfl).1
      have hw : w64 ((x.length : Int) + (y.length : Int)) = x.length + y.length := w64_id (by omega) (by omega)
      simp only [if_true, hw, decide_eq_true_eq]
      by_cases hl : 32 < (x.length : Int) + (y.length : Int)
      · simp only [hl, if_true]; exact ⟨_, rfl, rfl, by simp⟩
      · simp only [hl, if_false]
        have e1 : app? 56 ([] : List TStep) x = some x := by
          unfold app?
          rw [if_pos (by right; simp only [List.length_nil]; omega), List.nil_append]
        have e2 : app? 56 x y = some (x ++ y) := by
          unfold app?
          rw [if_pos (by right; omega)]
        simp only [e1, e2, Option.bind_some]
        exact ⟨_, rfl, rfl, by simp only [List.length_append]; omega⟩
theorem plain_LensJoin (x y : List TStep) (hx : x.length * 56 ≤ reachBytes ∧ ∀ y, y ∈ x → okTStep y) (hy : y.length * 56 ≤ reachBytes ∧ ∀ z, z ∈ y → okTStep z) : p_laws_FnExactLensJoin x y = some true := by
  unfold p_laws_FnExactLensJoin
  have hx1 := hx.1
  have hy1 := hy.1
  rw [reach_eq] at hx1 hy1
  obtain ⟨m, h1⟩ := q_szStepS x 1048576 (by omega)
  obtain ⟨m2, h2⟩ := q_szStepS y m (by omega)
  obtain ⟨r, h3, h4, hr⟩ := q_LensJoin x y
  obtain ⟨x', h5, _⟩ := q_markStepS x 1 (by omega) (by omega)
  obtain ⟨y', h6, _⟩ := q_markStepS y (1 + 4 * x.length) (by omega) (by omega)
  obtain ⟨g, h7, h8, h9⟩ := q_markStepS r.a 1 (by omega) (by omega)
  have h10 := q_heldStepS g 1 (by omega) (by omega) (by rw [h8]; exact h9)
  rw [h8] at h10
  have hn : ¬ (1 + 4 * (x.length : Int) + 4 * (y.length : Int) < 0) := by omega
  have hn' : ¬ (1 + 4 * (r.a.length : Int) < 0) := by omega
  simp only [h1, h2, h3, h4, h5, h6, h7, h10, q_toStepS x hx.1, q_toStepS y hy.1, q_eqStepS x (by omega), q_eqStepS y (by omega), q_eqStepS r.a (by omega), Option.bind_some, decide_true, if_true, decide_eq_true_eq, hn, hn', if_false]
  repeat' split
  all_goals rfl
end Go.AM
