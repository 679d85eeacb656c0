/- The plain law of StampNext. No condition. -/
import Derived.Test.YtlfbhelaehdemaaLabGStampNext
import Derived.Test.YtlfbhelaehdemaaLabL1
set_option linter.unusedVariables false
set_option linter.unusedSimpArgs false
namespace Go.AM

theorem q_szStampS (x : List TStamp) (n : Int) : ∃ m, p_laws_szStampS x n = some m := by
  unfold p_laws_szStampS
  repeat' split
  all_goals exact ⟨_, rfl⟩
theorem q_toStampS (x : List TStamp) (hx : x.length * 16 ≤ reachBytes) : p_laws_toStampS x = some x := by
  rw [reach_eq] at hx
  unfold p_laws_toStampS
  rw [show (16 : Int) = ((16 : Nat) : Int) from rfl, mkL_ok (by omega) (by omega), Option.bind_some]
  have e : p_laws_toStampS_l0 x = copyStep x some := by
    funext s
    unfold p_laws_toStampS_l0 copyStep p_laws_toStamp
    rfl
  rw [e]
  obtain ⟨i, h⟩ := copy_loop (ρ := List TStamp) (x := x) (v := List.replicate x.length (TStamp.mk 0 0)) (f := some) (fun _ _ => rfl) (by simp) (by omega)
  rw [h]; rfl
theorem q_eqStamp (x : TStamp) : p_laws_eqStamp x x = some true := by
  unfold p_laws_eqStamp
  simp
theorem q_eqStampS (x : List TStamp) (hx : x.length * 16 ≤ reachBytes) : p_laws_eqStampS x x = some true := by
  rw [reach_eq] at hx
  unfold p_laws_eqStampS
  rw [if_pos (by simp)]
  have e : p_laws_eqStampS_l0 x x = eqStep x x p_laws_eqStamp := rfl
  rw [e]
  obtain ⟨i, h⟩ := eq_loop (x := x) (g := p_laws_eqStamp) (fun a _ => q_eqStamp a) (by omega)
  rw [h]; rfl

theorem q_StampOK (x : TStamp) : p_spec_StampOK x = some (decide (1 ≤ x.time ∧ x.time ≤ 1000000000000 ∧ 0 ≤ x.actor ∧ x.actor < 16)) := by
  unfold p_spec_StampOK
  simp only [decide_eq_true_eq]
  repeat' split
  all_goals (simp only [Option.some.injEq]; symm; first | (rw [decide_eq_false_iff_not]; omega) | (apply decide_eq_decide.2; omega))
theorem q_implStampOK (x : TStamp) : p_impl_StampOK x = p_spec_StampOK x := by
  rw [q_StampOK]
  unfold p_impl_StampOK p_impl_isActor
  simp only [decide_eq_true_eq]
  repeat' split
  all_goals simp only [Option.bind_some, Option.some.injEq]
  all_goals (symm; first | (rw [decide_eq_false_iff_not]; omega) | (apply decide_eq_decide.2; omega))
theorem q_StampLess (x y : TStamp) : p_spec_StampLess x y = some (decide (x.time < y.time ∨ (x.time = y.time ∧ x.actor < y.actor))) := by
  unfold p_spec_StampLess
  simp only [decide_eq_true_eq]
  repeat' split
  all_goals (simp only [Option.some.injEq]; symm; first | (rw [decide_eq_false_iff_not]; omega) | (rw [decide_eq_true_eq]; omega) | (apply decide_eq_decide.2; omega))
theorem q_implStampLess (x y : TStamp) : p_impl_StampLess x y = p_spec_StampLess x y := by
  rw [q_StampLess]
  unfold p_impl_StampLess
  simp only [decide_eq_true_eq]
  repeat' split
  all_goals (simp only [Option.some.injEq]; symm; first | (rw [decide_eq_false_iff_not]; omega) | (rw [decide_eq_true_eq]; omega) | (apply decide_eq_decide.2; omega))
theorem q_None (x : TStamp) : p_spec_l02None x = some (decide (x.time = 0 ∧ x.actor = 0)) := by
  unfold p_spec_l02None
  simp only [decide_eq_true_eq]
  repeat' split
  all_goals (simp only [Option.some.injEq]; symm; first | (rw [decide_eq_false_iff_not]; omega) | (rw [decide_eq_true_eq]; omega) | (apply decide_eq_decide.2; omega))

def sOK (x : TStamp) : Prop := (1 ≤ x.time ∧ x.time ≤ 1000000000000 ∧ 0 ≤ x.actor ∧ x.actor < 16) ∨ (x.time = 0 ∧ x.actor = 0)
def sMax (t x : TStamp) : TStamp := if t.time < x.time ∨ (t.time = x.time ∧ t.actor < x.actor) then x else t
def sNext (a n : Int) (x : TStamp) : Int := if x.time < n ∨ (x.time = n ∧ x.actor < a) then n else if a ≤ x.actor then x.time + 1 else x.time
def sAbove (a : Int) (t : TStamp) : Int := if t.time < 1 then 1 else if a ≤ t.actor then t.time + 1 else t.time

theorem fold_next (a : Int) (ha : 0 ≤ a ∧ a < 16) : ∀ (l : List TStamp) (t : TStamp), sOK t → (∀ x, x ∈ l → sOK x) → sOK (l.foldl sMax t) ∧ l.foldl (sNext a) (sAbove a t) = sAbove a (l.foldl sMax t)
  | [], t, ht, _ => ⟨ht, rfl⟩
  | x :: l, t, ht, hl => by
    have hx := hl x (by simp)
    have hm : sOK (sMax t x) := by
      unfold sMax; split
      · exact hx
      · exact ht
    have he : sNext a (sAbove a t) x = sAbove a (sMax t x) := by
      unfold sOK at ht hx
      unfold sNext sAbove sMax
      repeat' split
      all_goals omega
    rw [List.foldl_cons, List.foldl_cons, he]
    exact fold_next a ha l _ hm fun y hy => hl y (by simp [hy])

theorem take_one {x : List TStamp} {i : Nat} {a : TStamp} (h : x[i]? = some a) : x.take (i + 1) = x.take i ++ [a] := by
  rw [List.take_add_one, h]; rfl

theorem q_loop0 (x : List TStamp) (hn : x.length ≤ 4096) : ∃ e, loopP (p_spec_StampNext_l0 x) 0 = some e ∧ (((∃ i, e = .out i) ∧ ∀ y, y ∈ x → sOK y) ∨ (e = .ret ⟨TStamp.mk 0 0, 4⟩ ∧ ∃ y, y ∈ x ∧ ¬ sOK y)) := by
  refine loop_count x.length (fun i s => s = (i : Int) ∧ ∀ y, y ∈ x.take i → sOK y) _ ?_ ?_ ⟨rfl, by simp⟩
  · rintro i _ hi ⟨rfl, hv⟩
    obtain ⟨a, ha, ha'⟩ := get_lt (xs := x) hi
    have hd : decide ((i : Int) < (x.length : Int)) = true := by simpa using hi
    simp only [p_spec_StampNext_l0]
    rw [if_t hd, ha, Option.bind_some, q_StampOK, Option.bind_some, q_None, Option.bind_some, w64_succ (by omega)]
    have hnext : sOK a → ∀ y, y ∈ x.take (i + 1) → sOK y := by
      intro hs y hy
      rw [take_one ha', List.mem_append, List.mem_singleton] at hy
      rcases hy with hy | rfl
      · exact hv y hy
      · exact hs
    by_cases h1 : 1 ≤ a.time ∧ a.time ≤ 1000000000000 ∧ 0 ≤ a.actor ∧ a.actor < 16
    · rw [if_pos (decide_eq_true h1)]
      exact .inl ⟨_, rfl, rfl, hnext (.inl h1)⟩
    · rw [if_neg (by simpa using h1)]
      by_cases h2 : a.time = 0 ∧ a.actor = 0
      · rw [if_pos (decide_eq_true h2)]
        exact .inl ⟨_, rfl, rfl, hnext (.inr h2)⟩
      · rw [if_neg (by simpa using h2)]
        exact .inr (.inr ⟨_, rfl, .inr ⟨rfl, a, List.mem_of_getElem? ha', fun h => h.elim h1 h2⟩⟩)
  · rintro _ ⟨rfl, hv⟩
    have hd : decide ((x.length : Int) < (x.length : Int)) = false := by simp
    simp only [p_spec_StampNext_l0]
    rw [if_f hd]
    rw [List.take_length] at hv
    exact .inl ⟨_, rfl, .inl ⟨⟨_, rfl⟩, hv⟩⟩

theorem q_loop1 (x : List TStamp) (a : Int) (hn : x.length ≤ 4096) (hv : ∀ y, y ∈ x → sOK y) : ∃ e, loopP (p_spec_StampNext_l1 x a) (1, 0) = some e ∧ ∃ i, e = .out (x.foldl (sNext a) 1, i) := by
  refine loop_count x.length (fun i s => s.2 = (i : Int) ∧ s.1 = (x.take i).foldl (sNext a) 1) _ ?_ ?_ ⟨rfl, by simp⟩
  · rintro i ⟨s1, s2⟩ hi ⟨h1, h2⟩
    simp only at h1 h2
    subst h1
    obtain ⟨b, hb, hb'⟩ := get_lt (xs := x) hi
    have hd : decide ((i : Int) < (x.length : Int)) = true := by simpa using hi
    have hok := hv b (List.mem_of_getElem? hb')
    left
    simp only [p_spec_StampNext_l1]
    rw [if_t hd, hb, Option.bind_some, q_StampLess, Option.bind_some, w64_succ (by omega), take_one hb', List.foldl_append, ← h2]
    have hw : w64 (b.time + 1) = b.time + 1 := by
      unfold sOK at hok
      exact w64_id (by omega) (by omega)
    rw [hw]
    simp only [List.foldl_cons, List.foldl_nil, sNext, decide_eq_true_eq]
    repeat' split
    all_goals exact ⟨_, rfl, rfl, rfl⟩
  · rintro ⟨s1, s2⟩ ⟨h1, h2⟩
    simp only at h1 h2
    subst h1
    have hd : decide ((x.length : Int) < (x.length : Int)) = false := by simp
    simp only [p_spec_StampNext_l1]
    rw [if_f hd]
    rw [List.take_length] at h2
    exact .inl ⟨_, rfl, _, by rw [h2]⟩

theorem q_implLoop (x : List TStamp) (hn : x.length ≤ 4096) : ∃ e, loopP (p_impl_StampNext_l0 x) (0, 0, 0) = some e ∧ (((∃ i, e = .out ((x.foldl sMax ⟨0, 0⟩).time, (x.foldl sMax ⟨0, 0⟩).actor, i)) ∧ ∀ y, y ∈ x → sOK y) ∨ (e = .ret ⟨TStamp.mk 0 0, 4⟩ ∧ ∃ y, y ∈ x ∧ ¬ sOK y)) := by
  refine loop_count x.length (fun i s => s.2.2 = (i : Int) ∧ TStamp.mk s.1 s.2.1 = (x.take i).foldl sMax ⟨0, 0⟩ ∧ ∀ y, y ∈ x.take i → sOK y) _ ?_ ?_ ⟨rfl, by simp, by simp⟩
  · rintro i ⟨s1, s2, s3⟩ hi ⟨h1, h2, hv⟩
    simp only at h1 h2
    subst h1
    obtain ⟨a, ha, ha'⟩ := get_lt (xs := x) hi
    have hd : decide ((i : Int) < (x.length : Int)) = true := by simpa using hi
    simp only [p_impl_StampNext_l0]
    rw [if_t hd, ha, Option.bind_some, q_implStampLess, q_StampLess, Option.bind_some, q_implStampOK, q_StampOK, Option.bind_some, w64_succ (by omega)]
    have hnext : sOK a → ∀ y, y ∈ x.take (i + 1) → sOK y := by
      intro hs y hy
      rw [take_one ha', List.mem_append, List.mem_singleton] at hy
      rcases hy with hy | rfl
      · exact hv y hy
      · exact hs
    have hgo : sOK a → ∃ s', (if (decide ((TStamp.mk s1 s2).time < a.time ∨ ((TStamp.mk s1 s2).time = a.time ∧ (TStamp.mk s1 s2).actor < a.actor))) = true then some (Lp.go (ρ := T2 TStamp Int) (a.time, a.actor, ((i + 1 : Nat) : Int))) else some (.go (s1, s2, ((i + 1 : Nat) : Int)))) = some (.go s') ∧ s'.2.2 = ((i + 1 : Nat) : Int) ∧ TStamp.mk s'.1 s'.2.1 = (x.take (i + 1)).foldl sMax ⟨0, 0⟩ ∧ ∀ y, y ∈ x.take (i + 1) → sOK y := by
      intro hs
      rw [take_one ha', List.foldl_append, ← h2]
      simp only [List.foldl_cons, List.foldl_nil, sMax, decide_eq_true_eq]
      split
      · exact ⟨_, rfl, rfl, rfl, take_one ha' ▸ hnext hs⟩
      · exact ⟨_, rfl, rfl, rfl, take_one ha' ▸ hnext hs⟩
    by_cases h0 : a.time = 0 ∧ a.actor = 0
    · rw [if_pos (by simp [h0])]
      exact .inl (hgo (.inr h0))
    · rw [if_neg (by simpa using h0)]
      by_cases h1 : 1 ≤ a.time ∧ a.time ≤ 1000000000000 ∧ 0 ≤ a.actor ∧ a.actor < 16
      · rw [if_pos (decide_eq_true h1)]
        exact .inl (hgo (.inl h1))
      · rw [if_neg (by simpa using h1)]
        exact .inr (.inr ⟨_, rfl, .inr ⟨rfl, a, List.mem_of_getElem? ha', fun h => h.elim h1 h0⟩⟩)
  · rintro ⟨s1, s2, s3⟩ ⟨h1, h2, hv⟩
    simp only at h1 h2
    subst h1
    have hd : decide ((x.length : Int) < (x.length : Int)) = false := by simp
    simp only [p_impl_StampNext_l0]
    rw [if_f hd]
    rw [List.take_length] at hv h2
    exact .inl ⟨_, rfl, .inl ⟨⟨_, by rw [← h2]⟩, hv⟩⟩

theorem q_nextAbove (t : TStamp) (a : Int) (ha : 0 ≤ a ∧ a < 16) (ht : sOK t) : p_impl_nextAbove t a = some (if 1000000000000 < sAbove a t then ⟨TStamp.mk 0 0, 11⟩ else ⟨TStamp.mk (sAbove a t) a, 0⟩) := by
  unfold sOK at ht
  have hw : w64 (t.time + 1) = t.time + 1 := w64_id (by omega) (by omega)
  unfold p_impl_nextAbove
  rw [hw]
  simp only [q_implStampOK, q_StampOK, Option.bind_some, decide_eq_true_eq]
  unfold sAbove
  by_cases h1 : t.time < 1
  · rw [if_pos h1, if_pos h1]
    have : t.time = 0 := by omega
    rw [this, if_pos (by omega), if_neg (by omega)]
    rfl
  · rw [if_neg h1, if_neg h1]
    by_cases h2 : a ≤ t.actor
    · rw [if_pos h2, if_pos h2]
      by_cases h3 : 1000000000000 < t.time + 1
      · rw [if_pos h3, if_neg (by omega)]
      · rw [if_neg h3, if_pos (by omega)]
    · rw [if_neg h2, if_neg h2, if_pos (by show 1 ≤ t.time ∧ t.time ≤ 1000000000000 ∧ 0 ≤ a ∧ a < 16; omega), if_neg (by omega)]

theorem q_StampNext (x : List TStamp) (a : Int) : ∃ r, p_spec_StampNext x a = some r ∧ p_impl_StampNext x a = some r := by
  unfold p_spec_StampNext p_impl_StampNext
  simp only [decide_eq_true_eq]
  by_cases hl : 4096 < (x.length : Int)
  · rw [if_pos hl, if_pos hl]
    exact ⟨_, rfl, rfl⟩
  · rw [if_neg hl, if_neg hl]
    have hact : p_impl_isActor a = some (decide (0 ≤ a ∧ a < 16)) := by
      unfold p_impl_isActor
      by_cases h : 0 ≤ a
      · rw [if_pos (decide_eq_true h)]; simp [h]
      · rw [if_neg (by simpa using h)]; simp [h]
    rw [hact, Option.bind_some]
    by_cases ha : 0 ≤ a ∧ a < 16
    · rw [if_neg (by omega), if_neg (by omega), if_pos (decide_eq_true ha)]
      obtain ⟨e0, h1, h2⟩ := q_loop0 x (by omega)
      obtain ⟨e1, h3, h4⟩ := q_implLoop x (by omega)
      rw [h1, h3]
      rcases h2 with ⟨⟨i, rfl⟩, hv⟩ | ⟨rfl, y, hy, hny⟩
      · rcases h4 with ⟨⟨j, rfl⟩, _⟩ | ⟨_, y, hy, hny⟩
        · obtain ⟨e2, h5, k, rfl⟩ := q_loop1 x a (by omega) hv
          obtain ⟨ho, hf⟩ := fold_next a ha x ⟨0, 0⟩ (.inr ⟨rfl, rfl⟩) hv
          have h01 : sAbove a ⟨0, 0⟩ = 1 := by simp [sAbove]
          rw [h01] at hf
          simp only [Option.bind_some]
          rw [h5]
          simp only [Option.bind_some]
          rw [eta_TStamp, q_nextAbove _ a ha ho, hf]
          split
          · exact ⟨_, rfl, rfl⟩
          · exact ⟨_, rfl, rfl⟩
        · exact absurd (hv y hy) hny
      · rcases h4 with ⟨_, hv⟩ | ⟨rfl, _⟩
        · exact absurd (hv y hy) hny
        · exact ⟨_, rfl, rfl⟩
    · have : ¬ (decide (0 ≤ a ∧ a < 16)) = true := by simpa using ha
      rw [if_neg this]
      by_cases h0 : a < 0
      · rw [if_pos h0]; exact ⟨_, rfl, rfl⟩
      · rw [if_neg h0, if_pos (by omega)]; exact ⟨_, rfl, rfl⟩

theorem plain_StampNext (x : List TStamp) (a : Int) (hx : x.length * 16 ≤ reachBytes ∧ ∀ y, y ∈ x → okTStamp y) (ha : InI64 a) : p_laws_FnExactStampNext x a = some true := by
  unfold p_laws_FnExactStampNext
  obtain ⟨m, h1⟩ := q_szStampS x 1048576
  obtain ⟨r, h3, h4⟩ := q_StampNext x a
  simp only [h1, h3, h4, q_toStampS x hx.1, q_eqStampS x hx.1, q_eqStamp, Option.bind_some, decide_true, if_true]
  repeat' split
  all_goals rfl
end Go.AM
