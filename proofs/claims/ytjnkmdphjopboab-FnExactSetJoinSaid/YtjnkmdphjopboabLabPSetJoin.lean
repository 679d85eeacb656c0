/- The plain law of SetJoin. No condition. -/
import Derived.Test.YtjnkmdphjopboabLabGSetJoinb
import Derived.Test.YtjnkmdphjopboabLabL3
set_option linter.unusedVariables false
set_option linter.unusedSimpArgs false
namespace Go.AM

theorem q_szIntS (x : List Int) (n : Int) : ∃ m, p_laws_szIntS x n = some m := by
  unfold p_laws_szIntS
  repeat' split
  all_goals exact ⟨_, rfl⟩
theorem q_szVector (x : TVec) (n : Int) : ∃ m, p_laws_szVector x n = some m := by
  unfold p_laws_szVector
  obtain ⟨m, h⟩ := q_szIntS x.counts n
  rw [h, Option.bind_some]
  repeat' split
  all_goals exact ⟨_, rfl⟩
theorem q_toIntS (x : List Int) (hx : x.length * 8 ≤ reachBytes) : p_laws_toIntS x = some x := by
  rw [reach_eq] at hx
  unfold p_laws_toIntS
  rw [show (8 : Int) = ((8 : Nat) : Int) from rfl, mkL_ok (by omega) (by omega), Option.bind_some]
  have e : p_laws_toIntS_l0 x = copyStep x some := rfl
  rw [e]
  obtain ⟨i, h⟩ := copy_loop (ρ := List Int) (x := x) (v := List.replicate x.length 0) (f := some) (fun _ _ => rfl) (by simp) (by omega)
  rw [h]; rfl
theorem q_toVector (x : TVec) (hx : okTVec x) : p_laws_toVector x = some x := by
  unfold p_laws_toVector
  rw [q_toIntS x.counts hx.1]; rfl
theorem q_eqIntS (x : List Int) (hx : x.length * 8 ≤ reachBytes) : p_laws_eqIntS x x = some true := by
  rw [reach_eq] at hx
  unfold p_laws_eqIntS
  rw [if_pos (by simp)]
  have e : p_laws_eqIntS_l0 x x = eqStep x x fun a b => some (decide (a = b)) := by
    funext s
    unfold p_laws_eqIntS_l0 eqStep
    simp only [Option.bind_some]
  rw [e]
  obtain ⟨i, h⟩ := eq_loop (x := x) (g := fun a b => some (decide (a = b))) (fun a _ => by simp) (by omega)
  rw [h]; rfl
theorem q_eqVector (x : TVec) (hx : okTVec x) : p_laws_eqVector x x = some true := by
  unfold p_laws_eqVector
  rw [q_eqIntS x.counts hx.1]; rfl

theorem q_specVecOK (x : TVec) : ∃ b, p_spec_VecOK x = some b ∧ (b = true → x.counts.length = 16) := by
  unfold p_spec_VecOK
  by_cases hl : decide ((x.counts.length : Int) = 16) = true
  · rw [if_t hl]
    have hl' : x.counts.length = 16 := by have := of_decide_eq_true hl; omega
    obtain ⟨e, h1, h2⟩ := loop_count (step := p_spec_VecOK_l0 x) 16 (fun i s => s = (i : Int)) (fun _ => True) (by
      rintro i _ hi rfl
      obtain ⟨a, ha, ha'⟩ := get_lt (xs := x.counts) (i := i) (by omega)
      have hd : decide ((i : Int) < 16) = true := by simp; omega
      simp only [p_spec_VecOK_l0]
      rw [if_t hd, ha, Option.bind_some, w64_succ (by omega)]
      repeat' split
      · exact .inr (.inr ⟨_, rfl, trivial⟩)
      · exact .inr (.inr ⟨_, rfl, trivial⟩)
      · exact .inl ⟨_, rfl, rfl⟩)
      (by
      rintro _ rfl
      left
      exact ⟨16, rfl, trivial⟩) (s := 0) rfl
    rw [h1, Option.bind_some]
    cases e with
    | out s => exact ⟨_, rfl, fun _ => hl'⟩
    | ret r => exact ⟨_, rfl, fun _ => hl'⟩
  · rw [if_neg hl]
    exact ⟨_, rfl, fun h => by cases h⟩
theorem q_implVecOK (x : TVec) : p_impl_VecOK x = p_spec_VecOK x := by
  unfold p_impl_VecOK p_spec_VecOK
  by_cases hl : decide ((x.counts.length : Int) = 16) = true
  · rw [if_t hl, if_t hl]
    have hl' : (x.counts.length : Int) = 16 := of_decide_eq_true hl
    have : p_impl_VecOK_l0 x = p_spec_VecOK_l0 x := by
      funext s
      unfold p_impl_VecOK_l0 p_spec_VecOK_l0
      rw [hl']
    rw [this]
  · rw [if_neg hl, if_neg hl]

theorem q_eqVec (x : TVec) (hx : x.counts.length * 8 ≤ reachBytes) : p_laws_eqVector x x = some true := by
  unfold p_laws_eqVector
  rw [q_eqIntS x.counts hx]; rfl
theorem q_markIntS (x : List Int) (n : Int) (h0 : 0 ≤ n) (hn : n + x.length < 9223372036854775807) : ∃ y, p_laws_markIntS x n = some ⟨n + x.length, y⟩ ∧ y.length = x.length ∧ ∀ j : Nat, j < x.length → y[j]? = some (n + j) := by
  unfold p_laws_markIntS
  obtain ⟨e, h1, y, i, rfl, h2, h3⟩ := loop_count (step := p_laws_markIntS_l0) x.length (fun i s => s.2.1 = n + (i : Int) ∧ s.2.2 = (i : Int) ∧ s.1.length = x.length ∧ ∀ j : Nat, j < i → s.1[j]? = some (n + j))
    (fun e => ∃ y i, e = .out (y, n + x.length, i) ∧ y.length = x.length ∧ ∀ j : Nat, j < x.length → y[j]? = some (n + j)) (by
      rintro i ⟨s0, s1, s2⟩ hi ⟨h1, h2, h3, h4⟩
      simp only at h1 h2 h3 h4
      subst h1 h2
      obtain ⟨a, ha, ha'⟩ := get_lt (xs := s0) (i := i) (by omega)
      have hd : decide ((i : Int) < (s0.length : Int)) = true := by simp; omega
      left
      refine ⟨(s0.set i (n + i), n + ((i + 1 : Nat) : Int), ((i + 1 : Nat) : Int)), ?_, rfl, rfl, by simpa using h3, ?_⟩
      · simp only [p_laws_markIntS_l0]
        rw [if_t hd, ha, Option.bind_some, w64_succ (by omega), w64_id (by omega) (by omega), Int.toNat_natCast, show n + (i : Int) + 1 = n + ((i + 1 : Nat) : Int) from by omega]
      · intro j hj
        simp only [List.getElem?_set]
        by_cases e : i = j
        · subst e
          rw [if_pos rfl, if_pos (by omega)]
        · rw [if_neg e]; exact h4 j (by omega))
    (by
      rintro ⟨s0, s1, s2⟩ ⟨h1, h2, h3, h4⟩
      simp only at h1 h2 h3 h4
      subst h1 h2
      have hd : decide ((x.length : Int) < (s0.length : Int)) = false := by simp; omega
      left
      refine ⟨(s0, n + (x.length : Int), (x.length : Int)), ?_, s0, x.length, rfl, h3, h4⟩
      simp only [p_laws_markIntS_l0]
      rw [if_f hd]) (s := (x, n, 0)) ⟨by simp, rfl, rfl, fun j hj => by omega⟩
  rw [h1]
  exact ⟨y, rfl, h2, h3⟩
theorem q_heldIntS (y : List Int) (n : Int) (h0 : 0 ≤ n) (hn : n + y.length < 9223372036854775807) (hy : ∀ j : Nat, j < y.length → y[j]? = some (n + j)) : p_laws_heldIntS y n = some (n + y.length) := by
  unfold p_laws_heldIntS
  obtain ⟨e, h1, i, rfl⟩ := loop_count (step := p_laws_heldIntS_l0 y) y.length (fun i s => s.1 = n + (i : Int) ∧ s.2 = (i : Int)) (fun e => ∃ i, e = .out (n + y.length, i)) (by
      rintro i ⟨s0, s1⟩ hi ⟨h1, h2⟩
      simp only at h1 h2
      subst h1 h2
      obtain ⟨a, ha, ha'⟩ := get_lt (xs := y) (i := i) hi
      rw [hy i hi] at ha'
      cases ha'
      have hd : decide ((i : Int) < (y.length : Int)) = true := by simp; omega
      left
      refine ⟨(n + ((i + 1 : Nat) : Int), ((i + 1 : Nat) : Int)), ?_, rfl, rfl⟩
      simp only [p_laws_heldIntS_l0]
      rw [if_t hd, ha, Option.bind_some, if_pos (by simp), w64_succ (by omega), w64_id (by omega) (by omega), show n + (i : Int) + 1 = n + ((i + 1 : Nat) : Int) from by omega])
    (by
      rintro ⟨s0, s1⟩ ⟨h1, h2⟩
      simp only at h1 h2
      subst h1 h2
      have hd : decide ((y.length : Int) < (y.length : Int)) = false := by simp
      left
      refine ⟨(n + (y.length : Int), (y.length : Int)), ?_, y.length, rfl⟩
      simp only [p_laws_heldIntS_l0]
      rw [if_f hd]) (s := (n, 0)) ⟨by simp, rfl⟩
  rw [h1]; rfl
theorem q_mark (x : TVec) (n : Int) (h0 : 0 ≤ n) (hn : n + x.counts.length < 9223372036854775807) : ∃ y, p_laws_markVector x n = some ⟨n + x.counts.length, y⟩ ∧ p_laws_heldVector y n = some (n + x.counts.length) := by
  obtain ⟨y, h1, h2, h3⟩ := q_markIntS x.counts n h0 hn
  refine ⟨⟨y⟩, ?_, ?_⟩
  · unfold p_laws_markVector
    rw [h1]; rfl
  · unfold p_laws_heldVector
    rw [q_heldIntS y n h0 (by rw [h2]; exact hn) (by rw [h2]; exact h3), Option.bind_some, h2, if_neg (by simp; omega)]

theorem q_markText (n : Int) (hn : n < 4611686018427387904) : ∃ s, p_laws_markText n = some s := by
  unfold p_laws_markText
  by_cases h0 : n ≤ 0
  · rw [if_pos (decide_eq_true h0)]; exact ⟨_, rfl⟩
  · rw [if_neg (by simpa using h0)]
    obtain ⟨e, h1, m, s, rfl, hs⟩ := loopP_inv (step := p_laws_markText_l0) (fun s => 0 ≤ s.1 ∧ s.1 + s.2.size ≤ n) (fun s => s.1.toNat) (fun e => ∃ m s, e = .out (m, s) ∧ (s.size : Int) ≤ n) (by
      rintro ⟨s1, s2⟩ ⟨h2, h3⟩
      simp only at h2 h3
      simp only [p_laws_markText_l0]
      by_cases hd : 0 < s1
      · rw [if_pos (decide_eq_true hd)]
        have hz : ∀ k : Int, (strOfNums [k]).size = 1 := fun k => rfl
        have hc : ∀ k : Int, cat? (strOfNums [k]) s2 = some (strOfNums [k] ++ s2) := by
          intro k
          unfold cat?
          rw [if_pos (by rw [hz]; omega)]
        rw [hc, Option.bind_some]
        refine ⟨_, rfl, ?_⟩
        have hq : s1.tdiv 10 = s1 / 10 := Int.tdiv_eq_ediv_of_nonneg h2
        have hw : w64 (s1.tdiv 10) = s1 / 10 := by rw [hq]; exact w64_id (by omega) (by omega)
        simp only [hw, ByteArray.size_append, hz]
        refine ⟨⟨by omega, by omega⟩, by omega⟩
      · rw [if_neg (by simpa using hd)]
        exact ⟨_, rfl, _, _, rfl, by omega⟩) (s := (n, ByteArray.mk #[])) ⟨by simp only; omega, by simp only; show n + ((0 : Nat) : Int) ≤ n; omega⟩
    rw [h1, Option.bind_some]
    have : cat? (ByteArray.mk #[109]) s = some (ByteArray.mk #[109] ++ s) := by
      unfold cat?
      rw [if_pos (by show ((1 + s.size : Nat) : Int) ≤ _; omega)]
    simp only [this, Option.bind_some]
    exact ⟨_, rfl⟩
noncomputable def mt (n : Int) : ByteArray := (p_laws_markText n).getD (ByteArray.mk #[])
theorem mt_eq {n : Int} (hn : n < 4611686018427387904) : p_laws_markText n = some (mt n) := by
  obtain ⟨s, hs⟩ := q_markText n hn
  unfold mt
  rw [hs]; rfl

theorem q_StampOK (x : TStamp) : p_spec_StampOK x = some (decide (1 ≤ x.time ∧ x.time ≤ 1000000000000 ∧ 0 ≤ x.actor ∧ x.actor < 16)) := by
  unfold p_spec_StampOK
  simp only [decide_eq_true_eq]
  repeat' split
  all_goals (simp only [Option.some.injEq]; symm; first | (rw [decide_eq_false_iff_not]; omega) | (apply decide_eq_decide.2; omega))
theorem q_implStampOK (x : TStamp) : p_impl_StampOK x = p_spec_StampOK x := by
  rw [q_StampOK]
  unfold p_impl_StampOK p_impl_isActor
  simp only [decide_eq_true_eq]
  repeat' split
  all_goals simp only [Option.bind_some, Option.some.injEq]
  all_goals (symm; first | (rw [decide_eq_false_iff_not]; omega) | (apply decide_eq_decide.2; omega))
theorem q_StampLess (x y : TStamp) : p_spec_StampLess x y = some (decide (x.time < y.time ∨ (x.time = y.time ∧ x.actor < y.actor))) := by
  unfold p_spec_StampLess
  simp only [decide_eq_true_eq]
  repeat' split
  all_goals (simp only [Option.some.injEq]; symm; first | (rw [decide_eq_false_iff_not]; omega) | (rw [decide_eq_true_eq]; omega) | (apply decide_eq_decide.2; omega))
theorem q_implStampLess (x y : TStamp) : p_impl_StampLess x y = p_spec_StampLess x y := by
  rw [q_StampLess]
  unfold p_impl_StampLess
  simp only [decide_eq_true_eq]
  repeat' split
  all_goals (simp only [Option.some.injEq]; symm; first | (rw [decide_eq_false_iff_not]; omega) | (rw [decide_eq_true_eq]; omega) | (apply decide_eq_decide.2; omega))

def lessS (x y : TStamp) : Prop := x.time < y.time ∨ (x.time = y.time ∧ x.actor < y.actor)
/-- Entries by rising stamps that were seen. -/
structure EntOK (s : TVec) (l : List TEntry) : Prop where
  counts : s.counts.length = 16
  len : l.length ≤ 256
  ent : ∀ (i : Nat) (e : TEntry), l[i]? = some e → 1 ≤ e.stamp.time ∧ e.stamp.time ≤ 1000000000000 ∧ 0 ≤ e.stamp.actor ∧ e.stamp.actor < 16 ∧ e.text.size ≤ 200 ∧ ∀ c, s.counts[e.stamp.actor.toNat]? = some c → e.stamp.time ≤ c
  rise : ∀ (i : Nat) (e f : TEntry), l[i]? = some e → l[i + 1]? = some f → lessS e.stamp f.stamp
theorem q_stateLoop (s : TVec) (l : List TEntry) : p_impl_stateOK_l0 s l = p_spec_l03EntriesOK_l0 s l := by
  funext i
  unfold p_impl_stateOK_l0 p_spec_l03EntriesOK_l0
  simp only [q_implStampOK, q_implStampLess]
theorem q_stateOK (s : TVec) (l : List TEntry) : p_impl_stateOK s l = p_spec_l03EntriesOK s l := by
  unfold p_impl_stateOK p_spec_l03EntriesOK
  simp only [q_implVecOK, q_stateLoop]
theorem q_EntOK (s : TVec) (l : List TEntry) : ∃ b, p_spec_l03EntriesOK s l = some b ∧ (b = true → EntOK s l) := by
  unfold p_spec_l03EntriesOK
  obtain ⟨v, hv, hv2⟩ := q_specVecOK s
  rw [hv, Option.bind_some]
  cases v with
  | false => exact ⟨false, rfl, fun h => by cases h⟩
  | true =>
    have h16 := hv2 rfl
    rw [if_pos rfl]
    by_cases hl : (256 : Int) < (l.length : Int)
    · rw [if_pos (decide_eq_true hl)]; exact ⟨_, rfl, fun h => by cases h⟩
    · rw [if_neg (by simpa using hl)]
      have hgood := all_loop (step := p_spec_l03EntriesOK_l0 s l) l.length (fun i => ∀ e, l[i]? = some e → (1 ≤ e.stamp.time ∧ e.stamp.time ≤ 1000000000000 ∧ 0 ≤ e.stamp.actor ∧ e.stamp.actor < 16 ∧ e.text.size ≤ 200 ∧ ∀ c, s.counts[e.stamp.actor.toNat]? = some c → e.stamp.time ≤ c) ∧ ∀ k f, i = k + 1 → l[k]? = some f → lessS f.stamp e.stamp) (by
        intro i hi
        obtain ⟨a, ha, ha'⟩ := get_lt (xs := l) hi
        have hd : decide ((i : Int) < (l.length : Int)) = true := by simpa using hi
        simp only [p_spec_l03EntriesOK_l0]
        rw [if_t hd, ha, Option.bind_some, q_StampOK, Option.bind_some, w64_succ (by omega)]
        by_cases h1 : 1 ≤ a.stamp.time ∧ a.stamp.time ≤ 1000000000000 ∧ 0 ≤ a.stamp.actor ∧ a.stamp.actor < 16
        case neg =>
          rw [if_neg (by simpa using h1)]
          refine .inr ⟨fun hg => h1 ?_, rfl⟩
          have := (hg a ha').1
          exact ⟨this.1, this.2.1, this.2.2.1, this.2.2.2.1⟩
        rw [if_pos (by simpa using h1)]
        by_cases h2 : 200 < (a.text.size : Int)
        · rw [if_pos (decide_eq_true h2)]
          refine .inr ⟨fun hg => ?_, rfl⟩
          have := (hg a ha').1.2.2.2.2.1
          omega
        rw [if_neg (by simpa using h2)]
        obtain ⟨k, hk⟩ : ∃ k : Nat, a.stamp.actor = (k : Int) := ⟨a.stamp.actor.toNat, by omega⟩
        obtain ⟨c, hc, hc'⟩ := get_lt (xs := s.counts) (i := k) (by omega)
        rw [hk, hc, Option.bind_some]
        by_cases h3 : c < a.stamp.time
        · rw [if_pos (decide_eq_true h3)]
          refine .inr ⟨fun hg => ?_, rfl⟩
          have := (hg a ha').1.2.2.2.2.2 c (by rw [hk]; simpa using hc')
          omega
        rw [if_neg (by simpa using h3)]
        have hfirst : 1 ≤ a.stamp.time ∧ a.stamp.time ≤ 1000000000000 ∧ 0 ≤ a.stamp.actor ∧ a.stamp.actor < 16 ∧ a.text.size ≤ 200 ∧ ∀ c, s.counts[a.stamp.actor.toNat]? = some c → a.stamp.time ≤ c := by
          refine ⟨h1.1, h1.2.1, h1.2.2.1, h1.2.2.2, by omega, ?_⟩
          intro c' hc2
          rw [hk, Int.toNat_natCast, hc'] at hc2
          cases hc2
          omega
        by_cases h4 : 0 < (i : Int)
        · rw [if_pos (decide_eq_true h4), w64_pred (by omega) (by omega)]
          obtain ⟨f, hf, hf'⟩ := get_lt (xs := l) (i := i - 1) (by omega)
          rw [hf, Option.bind_some, q_StampLess, Option.bind_some]
          by_cases h5 : f.stamp.time < a.stamp.time ∨ (f.stamp.time = a.stamp.time ∧ f.stamp.actor < a.stamp.actor)
          · rw [if_pos (decide_eq_true h5)]
            refine .inl ⟨fun e he => ?_, rfl⟩
            rw [ha'] at he
            cases he
            refine ⟨hfirst, fun k f' hk' hf2 => ?_⟩
            rw [show k = i - 1 from by omega, hf'] at hf2
            cases hf2
            exact h5
          · rw [if_neg (by simpa using h5)]
            refine .inr ⟨fun hg => h5 ?_, rfl⟩
            exact (hg a ha').2 (i - 1) f (by omega) hf'
        · rw [if_neg (by simpa using h4)]
          refine .inl ⟨fun e he => ?_, rfl⟩
          rw [ha'] at he
          cases he
          exact ⟨hfirst, fun k f' hk' hf2 => by omega⟩) (by
        have hd : decide ((l.length : Int) < (l.length : Int)) = false := by simp
        simp only [p_spec_l03EntriesOK_l0]
        rw [if_f hd])
      rcases hgood with ⟨h1, h2⟩ | ⟨h1, h2⟩
      · rw [h1]
        refine ⟨true, rfl, fun _ => ⟨h16, by omega, fun i e he => ?_, fun i e f he hf => ?_⟩⟩
        · exact (h2 i (List.getElem?_eq_some_iff.1 he).1 e he).1
        · exact (h2 (i + 1) (List.getElem?_eq_some_iff.1 hf).1 f hf).2 i e rfl he
      · rw [h1]
        exact ⟨false, rfl, fun h => by cases h⟩

theorem q_szEntry (x : TEntry) (n : Int) : ∃ m, p_laws_szEntry x n = some m := by
  unfold p_laws_szEntry
  repeat' split
  all_goals exact ⟨_, rfl⟩
theorem q_szEntryS (x : List TEntry) (n : Int) (hx : x.length < 9223372036854775807) : ∃ m, p_laws_szEntryS x n = some m := by
  unfold p_laws_szEntryS
  split
  · exact ⟨_, rfl⟩
  · obtain ⟨e, h1, _⟩ := loop_count (step := p_laws_szEntryS_l0 x) x.length (fun i s => s.2 = (i : Int)) (fun _ => True) (by
      rintro i ⟨s1, s2⟩ hi h
      simp only at h
      subst h
      obtain ⟨a, ha, ha'⟩ := get_lt (xs := x) hi
      obtain ⟨m, hm⟩ := q_szEntry a s1
      have hd : decide ((i : Int) < (x.length : Int)) = true := by simpa using hi
      simp only [p_laws_szEntryS_l0]
      rw [if_t hd, ha, Option.bind_some, hm, Option.bind_some, w64_succ (by omega)]
      split
      · exact .inr (.inr ⟨_, rfl, trivial⟩)
      · exact .inl ⟨_, rfl, rfl⟩)
      (by
      rintro ⟨s1, s2⟩ h
      simp only at h
      subst h
      have hd : decide ((x.length : Int) < (x.length : Int)) = false := by simp
      simp only [p_laws_szEntryS_l0]
      rw [if_f hd]
      exact .inl ⟨_, rfl, trivial⟩) (s := (w64 (n - (x.length : Int)), 0)) rfl
    rw [h1, Option.bind_some]
    cases e with
    | out s => exact ⟨_, rfl⟩
    | ret r => exact ⟨_, rfl⟩
theorem q_toEntryS (x : List TEntry) (hx : x.length * 32 ≤ reachBytes) : p_laws_toEntryS x = some x := by
  rw [reach_eq] at hx
  unfold p_laws_toEntryS
  rw [show (32 : Int) = ((32 : Nat) : Int) from rfl, mkL_ok (by omega) (by omega), Option.bind_some]
  have e : p_laws_toEntryS_l0 x = copyStep x some := by
    funext s
    unfold p_laws_toEntryS_l0 copyStep p_laws_toEntry p_laws_toStamp
    rfl
  rw [e]
  obtain ⟨i, h⟩ := copy_loop (ρ := List TEntry) (x := x) (v := List.replicate x.length (TEntry.mk (TStamp.mk 0 0) (ByteArray.mk #[]))) (f := some) (fun _ _ => rfl) (by simp) (by omega)
  rw [h]; rfl
theorem q_eqEntry (x : TEntry) : p_laws_eqEntry x x = some true := by
  unfold p_laws_eqEntry p_laws_eqStamp
  simp
theorem q_eqEntryS (x : List TEntry) (hx : x.length < 9223372036854775807) : p_laws_eqEntryS x x = some true := by
  unfold p_laws_eqEntryS
  rw [if_pos (by simp)]
  have e : p_laws_eqEntryS_l0 x x = eqStep x x p_laws_eqEntry := rfl
  rw [e]
  obtain ⟨i, h⟩ := eq_loop (x := x) (g := p_laws_eqEntry) (fun a _ => q_eqEntry a) hx
  rw [h]; rfl
noncomputable def mEntry (k : Int) : TEntry := ⟨⟨k, k + 1⟩, mt (k + 2)⟩
theorem q_markEntryS (x : List TEntry) (n : Int) (h0 : 0 ≤ n) (hn : n + 3 * x.length < 4611686018427380000) : ∃ y, p_laws_markEntryS x n = some ⟨n + 3 * x.length, y⟩ ∧ y.length = x.length ∧ ∀ j : Nat, j < x.length → y[j]? = some (mEntry (n + 3 * j)) := by
  unfold p_laws_markEntryS
  obtain ⟨e, h1, y, i, rfl, h2, h3⟩ := loop_count (step := p_laws_markEntryS_l0) x.length (fun i s => s.2.1 = n + 3 * (i : Int) ∧ s.2.2 = (i : Int) ∧ s.1.length = x.length ∧ ∀ j : Nat, j < i → s.1[j]? = some (mEntry (n + 3 * j)))
    (fun e => ∃ y i, e = .out (y, n + 3 * x.length, i) ∧ y.length = x.length ∧ ∀ j : Nat, j < x.length → y[j]? = some (mEntry (n + 3 * j))) (by
      rintro i ⟨s0, s1, s2⟩ hi ⟨h1, h2, h3, h4⟩
      simp only at h1 h2 h3 h4
      subst h1 h2
      obtain ⟨a, ha, ha'⟩ := get_lt (xs := s0) (i := i) (by omega)
      have hd : decide ((i : Int) < (s0.length : Int)) = true := by simp; omega
      have hset : ∀ (l : List TEntry) (b : TEntry), l.length = x.length → get? (l.set i b) (i : Int) = some b := by
        intro l b hl
        rw [get_nat, List.getElem?_set_self (by omega)]
      left
      refine ⟨(s0.set i (mEntry (n + 3 * i)), n + 3 * ((i + 1 : Nat) : Int), ((i + 1 : Nat) : Int)), ?_, rfl, rfl, by simpa using h3, ?_⟩
      · 
        have e1 : w64 (n + 3 * (i : Int) + 1) = n + 3 * (i : Int) + 1 := by rw [w64_id (by omega) (by omega)]
        have e2 : w64 (n + 3 * (i : Int) + 1 + 1) = n + 3 * (i : Int) + 2 := by rw [w64_id (by omega) (by omega)]; omega
        have e3 : w64 (n + 3 * (i : Int) + 2 + 1) = n + 3 * ((i + 1 : Nat) : Int) := by rw [w64_id (by omega) (by omega)]; omega
        have t2 : p_laws_markText (n + 3 * (i : Int) + 2) = some (mt (n + 3 * (i : Int) + 2)) := mt_eq (by omega)
        have e0 := w64_succ (show i < 9223372036854775807 by omega)
        have es := fun b => hset s0 b h3
        simp only [p_laws_markEntryS_l0, Int.toNat_natCast, e1, e2, e3, e0, hd, if_true, ha, Option.bind_some, t2, es, List.set_set]
        rfl
      · intro j hj
        simp only [List.getElem?_set]
        by_cases e : i = j
        · subst e
          rw [if_pos rfl, if_pos (by omega)]
        · rw [if_neg e]; exact h4 j (by omega))
    (by
      rintro ⟨s0, s1, s2⟩ ⟨h1, h2, h3, h4⟩
      simp only at h1 h2 h3 h4
      subst h1 h2
      have hd : decide ((x.length : Int) < (s0.length : Int)) = false := by simp; omega
      left
      refine ⟨(s0, n + 3 * (x.length : Int), (x.length : Int)), ?_, s0, x.length, rfl, h3, h4⟩
      simp only [p_laws_markEntryS_l0]
      rw [if_f hd]) (s := (x, n, 0)) ⟨by simp, rfl, rfl, fun j hj => by omega⟩
  rw [h1]
  exact ⟨y, rfl, h2, h3⟩
theorem q_heldEntryS (y : List TEntry) (n : Int) (h0 : 0 ≤ n) (hn : n + 3 * y.length < 4611686018427380000) (hy : ∀ j : Nat, j < y.length → y[j]? = some (mEntry (n + 3 * j))) : p_laws_heldEntryS y n = some (n + 3 * y.length) := by
  unfold p_laws_heldEntryS
  obtain ⟨e, h1, i, rfl⟩ := loop_count (step := p_laws_heldEntryS_l0 y) y.length (fun i s => s.1 = n + 3 * (i : Int) ∧ s.2 = (i : Int)) (fun e => ∃ i, e = .out (n + 3 * y.length, i)) (by
      rintro i ⟨s0, s1⟩ hi ⟨h1, h2⟩
      simp only at h1 h2
      subst h1 h2
      obtain ⟨a, ha, ha'⟩ := get_lt (xs := y) (i := i) hi
      rw [hy i hi] at ha'
      cases ha'
      have hd : decide ((i : Int) < (y.length : Int)) = true := by simp; omega
      left
      refine ⟨(n + 3 * ((i + 1 : Nat) : Int), ((i + 1 : Nat) : Int)), ?_, rfl, rfl⟩
      have e1 : w64 (n + 3 * (i : Int) + 1) = n + 3 * (i : Int) + 1 := by rw [w64_id (by omega) (by omega)]
      have e2 : w64 (n + 3 * (i : Int) + 1 + 1) = n + 3 * (i : Int) + 2 := by rw [w64_id (by omega) (by omega)]; omega
      have e3 : w64 (n + 3 * (i : Int) + 2 + 1) = n + 3 * ((i + 1 : Nat) : Int) := by rw [w64_id (by omega) (by omega)]; omega
      have t2 : p_laws_markText (n + 3 * (i : Int) + 2) = some (mt (n + 3 * (i : Int) + 2)) := mt_eq (by omega)
      have e0 := w64_succ (show i < 9223372036854775807 by omega)
      simp only [p_laws_heldEntryS_l0, e1, e2, e3, e0, hd, if_true, ha, Option.bind_some, mEntry, decide_true, t2, beq_self_eq_true, Bool.not_true, Bool.not_false, Bool.xor_false, Bool.true_xor])
    (by
      rintro ⟨s0, s1⟩ ⟨h1, h2⟩
      simp only at h1 h2
      subst h1 h2
      have hd : decide ((y.length : Int) < (y.length : Int)) = false := by simp
      left
      refine ⟨(n + 3 * (y.length : Int), (y.length : Int)), ?_, y.length, rfl⟩
      simp only [p_laws_heldEntryS_l0]
      rw [if_f hd]) (s := (n, 0)) ⟨by simp, rfl⟩
  rw [h1]; rfl

theorem lessS_trans {x y z : TStamp} (h : lessS x y) (h' : lessS y z) : lessS x z := by
  unfold lessS at *; omega
theorem lessS_irr {x : TStamp} (h : lessS x x) : False := by
  unfold lessS at h; omega
theorem lessS_ne {x y : TStamp} (h : lessS x y) : x ≠ y := by
  rintro rfl; exact lessS_irr h
theorem lessS_tri (x y : TStamp) : lessS x y ∨ x = y ∨ lessS y x := by
  obtain ⟨a, b⟩ := x
  obtain ⟨c, d⟩ := y
  unfold lessS
  simp only [TStamp.mk.injEq]
  omega
def lessE (x y : TEntry) : Prop := lessS x.stamp y.stamp
theorem rise_pairwise : ∀ {l : List TEntry}, (∀ (i : Nat) (e f : TEntry), l[i]? = some e → l[i + 1]? = some f → lessS e.stamp f.stamp) → l.Pairwise lessE
  | [], _ => .nil
  | [a], _ => by simp
  | a :: b :: l, h => by
    have ih := rise_pairwise (l := b :: l) (fun i e f he hf => h (i + 1) e f (by simpa using he) (by simpa using hf))
    refine List.pairwise_cons.2 ⟨fun y hy => ?_, ih⟩
    have h0 : lessE a b := h 0 a b (by simp) (by simp)
    rcases List.mem_cons.1 hy with rfl | hy
    · exact h0
    · exact lessS_trans h0 ((List.pairwise_cons.1 ih).1 y hy)
theorem sorted_ext : ∀ {l m : List TEntry}, l.Pairwise lessE → m.Pairwise lessE → (∀ e, e ∈ l ↔ e ∈ m) → l = m
  | [], [], _, _, _ => rfl
  | [], b :: m, _, _, h => by have := (h b).2 (by simp); simp at this
  | a :: l, [], _, _, h => by have := (h a).1 (by simp); simp at this
  | a :: l, b :: m, hl, hm, h => by
    have hl' := List.pairwise_cons.1 hl
    have hm' := List.pairwise_cons.1 hm
    have e : a = b := by
      rcases List.mem_cons.1 ((h a).1 (by simp)) with h1 | h1
      · exact h1
      · rcases List.mem_cons.1 ((h b).2 (by simp)) with h2 | h2
        · exact h2.symm
        · exact (lessS_irr (lessS_trans (hm'.1 a h1) (hl'.1 b h2))).elim
    subst e
    have : l = m := sorted_ext hl'.2 hm'.2 (by
      intro e
      constructor
      · intro he
        rcases List.mem_cons.1 ((h e).1 (by simp [he])) with h1 | h1
        · subst h1; exact (lessS_irr (hl'.1 e he)).elim
        · exact h1
      · intro he
        rcases List.mem_cons.1 ((h e).2 (by simp [he])) with h1 | h1
        · subst h1; exact (lessS_irr (hm'.1 e he)).elim
        · exact h1)
    rw [this]
theorem sorted_inj {l : List TEntry} (hl : l.Pairwise lessE) {x y : TEntry} (hx : x ∈ l) (hy : y ∈ l) (h : x.stamp = y.stamp) : x = y := by
  induction l with
  | nil => simp at hx
  | cons a l ih =>
    have hl' := List.pairwise_cons.1 hl
    rcases List.mem_cons.1 hx with e1 | h1
    · rcases List.mem_cons.1 hy with e2 | h2
      · rw [e1, e2]
      · exact ((lessS_ne (hl'.1 y h2)) (e1 ▸ h)).elim
    · rcases List.mem_cons.1 hy with e2 | h2
      · exact ((lessS_ne (hl'.1 x h1)) (e2 ▸ h.symm)).elim
      · exact ih hl'.2 h1 h2
theorem mem_take_next {α : Type} {l : List α} {i : Nat} {a x : α} (h : l[i]? = some a) : x ∈ l.take (i + 1) ↔ x ∈ l.take i ∨ x = a := by
  rw [take_next h, List.mem_append, List.mem_singleton]
theorem drop_next {α : Type} {l : List α} {i : Nat} {a : α} (h : l[i]? = some a) : l.drop i = a :: l.drop (i + 1) := by
  obtain ⟨h1, h2⟩ := List.getElem?_eq_some_iff.1 h
  rw [← h2]
  exact List.drop_eq_getElem_cons h1
theorem split_rise {l : List TEntry} (hl : l.Pairwise lessE) (i : Nat) {x y : TEntry} (hx : x ∈ l.take i) (hy : y ∈ l.drop i) : lessE x y := by
  rw [← List.take_append_drop i l] at hl
  exact (List.pairwise_append.1 hl).2.2 x hx y hy

theorem q_find (l : List TEntry) (s : TStamp) (hl : l.length ≤ 512) : ∃ k, p_spec_l03Find l s = some k ∧ ((k = -1 ∧ ∀ f, f ∈ l → f.stamp ≠ s) ∨ ∃ (i : Nat) (f : TEntry), k = (i : Int) ∧ l[i]? = some f ∧ f.stamp = s) := by
  unfold p_spec_l03Find
  have heq : ∀ f : TEntry, (decide (f.stamp.time = s.time) && decide (f.stamp.actor = s.actor)) = decide (f.stamp = s) := by
    intro f
    obtain ⟨⟨a, b⟩, t⟩ := f
    obtain ⟨c, d⟩ := s
    simp [TStamp.mk.injEq]
  obtain ⟨e, h1, h2⟩ := loop_count (step := p_spec_l03Find_l0 l s) l.length (fun i k => k = (i : Int) ∧ ∀ f, f ∈ l.take i → f.stamp ≠ s) (fun e => ((∃ i, e = .out i) ∧ ∀ f, f ∈ l → f.stamp ≠ s) ∨ ∃ (i : Nat) (f : TEntry), e = .ret (i : Int) ∧ l[i]? = some f ∧ f.stamp = s) (by
    rintro i _ hi ⟨rfl, hn⟩
    obtain ⟨a, ha, ha'⟩ := get_lt (xs := l) hi
    have hd : decide ((i : Int) < (l.length : Int)) = true := by simpa using hi
    simp only [p_spec_l03Find_l0]
    rw [if_t hd, ha, Option.bind_some, heq, w64_succ (by omega)]
    by_cases hs : a.stamp = s
    · rw [if_pos (decide_eq_true hs)]
      exact .inr (.inr ⟨_, rfl, .inr ⟨i, a, rfl, ha', hs⟩⟩)
    · rw [if_neg (by simpa using hs)]
      refine .inl ⟨_, rfl, rfl, fun f hf => ?_⟩
      rcases (mem_take_next ha').1 hf with hf | rfl
      · exact hn f hf
      · exact hs)
    (by
    rintro _ ⟨rfl, hn⟩
    have hd : decide ((l.length : Int) < (l.length : Int)) = false := by simp
    simp only [p_spec_l03Find_l0]
    rw [if_f hd]
    rw [List.take_length] at hn
    exact .inl ⟨_, rfl, .inl ⟨⟨_, rfl⟩, hn⟩⟩) (s := 0) ⟨rfl, by simp⟩
  rw [h1, Option.bind_some]
  rcases h2 with ⟨⟨i, rfl⟩, h2⟩ | ⟨i, f, rfl, h2, h3⟩
  · exact ⟨_, rfl, .inl ⟨rfl, h2⟩⟩
  · exact ⟨_, rfl, .inr ⟨i, f, rfl, h2, h3⟩⟩

theorem q_insert {l : List TEntry} {e : TEntry} (hl : l.length ≤ 600) (hs : l.Pairwise lessE) (hne : ∀ x, x ∈ l → x.stamp ≠ e.stamp) : ∃ r, p_spec_l03Insert l e = some r ∧ r.Pairwise lessE ∧ (∀ x, x ∈ r ↔ x = e ∨ x ∈ l) ∧ r.length = l.length + 1 := by
  unfold p_spec_l03Insert
  obtain ⟨ex, h1, k, rfl, hk, hlow, hup⟩ := loop_count (step := p_spec_l03Insert_l0 l e) l.length (fun i k => k = (i : Int) ∧ ∀ x, x ∈ l.take i → lessE x e)
    (fun ex => ∃ k : Nat, ex = .out (k : Int) ∧ k ≤ l.length ∧ (∀ x, x ∈ l.take k → lessE x e) ∧ ∀ x, l[k]? = some x → ¬ lessE x e) (by
    rintro i _ hi ⟨rfl, hn⟩
    obtain ⟨a, ha, ha'⟩ := get_lt (xs := l) hi
    have hd : decide ((i : Int) < (l.length : Int)) = true := by simpa using hi
    simp only [p_spec_l03Insert_l0]
    rw [if_t hd, ha, Option.bind_some, q_StampLess, Option.bind_some, w64_succ (by omega)]
    by_cases h5 : a.stamp.time < e.stamp.time ∨ (a.stamp.time = e.stamp.time ∧ a.stamp.actor < e.stamp.actor)
    · rw [if_pos (decide_eq_true h5)]
      refine .inl ⟨_, rfl, rfl, fun x hx => ?_⟩
      rcases (mem_take_next ha').1 hx with hx | rfl
      · exact hn x hx
      · exact h5
    · rw [if_neg (by simpa using h5)]
      refine .inr (.inl ⟨_, rfl, i, rfl, by omega, hn, fun x hx => ?_⟩)
      rw [ha'] at hx
      cases hx
      exact h5)
    (by
    rintro _ ⟨rfl, hn⟩
    have hd : decide ((l.length : Int) < (l.length : Int)) = false := by simp
    simp only [p_spec_l03Insert_l0]
    rw [if_f hd]
    exact .inl ⟨_, rfl, l.length, rfl, Nat.le_refl _, hn, fun x hx => by rw [List.getElem?_eq_none (Nat.le_refl _)] at hx; cases hx⟩) (s := 0) ⟨rfl, by simp⟩
  rw [h1, Option.bind_some]
  have c1 : cut? l 0 (k : Int) = some (l.take k) := by
    unfold cut?
    rw [if_pos ⟨by omega, by omega, by omega⟩]
    simp
  have c2 : cut? l (k : Int) (l.length : Int) = some (l.drop k) := by
    unfold cut?
    rw [if_pos ⟨by omega, by omega, by omega⟩]
    simp only [Int.toNat_natCast]
    rw [List.take_of_length_le (by simp)]
  have lk : (l.take k).length ≤ 600 := by rw [List.length_take]; omega
  have ld : (l.drop k).length ≤ 600 := by rw [List.length_drop]; omega
  simp only [c1, c2, Option.bind_some]
  rw [app_list (by simp only [List.length_nil]; omega)]
  simp only [Option.bind_some, List.nil_append]
  rw [app_one (by omega)]
  simp only [Option.bind_some]
  rw [app_list (by simp only [List.length_append, List.length_cons, List.length_nil]; omega)]
  have hgt : ∀ y, y ∈ l.drop k → lessE e y := by
    intro y hy
    cases hx : l[k]? with
    | none =>
      rw [List.drop_of_length_le (List.getElem?_eq_none_iff.1 hx)] at hy
      simp at hy
    | some x =>
      have hxm := List.mem_of_getElem? hx
      have h0 : lessE e x := by
        rcases lessS_tri x.stamp e.stamp with h | h | h
        · exact (hup x hx h).elim
        · exact (hne x hxm h).elim
        · exact h
      rw [drop_next hx] at hy
      rcases List.mem_cons.1 hy with rfl | hy
      · exact h0
      · refine lessS_trans h0 (split_rise hs (k + 1) ?_ hy)
        rw [take_next hx]
        simp
  refine ⟨_, rfl, ?_, ?_, ?_⟩
  · rw [List.append_assoc, List.pairwise_append]
    refine ⟨hs.sublist (List.take_sublist k l), ?_, ?_⟩
    · rw [List.singleton_append, List.pairwise_cons]
      exact ⟨hgt, hs.sublist (List.drop_sublist k l)⟩
    · intro x hx y hy
      rcases List.mem_append.1 hy with hy | hy
      · rw [List.mem_singleton] at hy
        subst hy
        exact hlow x hx
      · exact split_rise hs k hx hy
  · intro x
    have : x ∈ l ↔ x ∈ l.take k ∨ x ∈ l.drop k := by rw [← List.mem_append, List.take_append_drop]
    rw [this]
    simp only [List.mem_append, List.mem_singleton]
    constructor
    · rintro ((h | h) | h)
      · exact .inr (.inl h)
      · exact .inl h
      · exact .inr (.inr h)
    · rintro (h | h | h)
      · exact .inl (.inr h)
      · exact .inl (.inl h)
      · exact .inr h
  · simp only [List.length_append, List.length_cons, List.length_nil, List.length_take, List.length_drop]
    omega

section
variable (sa sb : TVec) (A B : List TEntry)
def cnt (s : TVec) (e : TStamp) : Int := s.counts.getD e.actor.toNat 0
def leT (f a : TEntry) : Bool := Op.bytesLess f.text.toList a.text.toList || decide (f.text = a.text)
def pickT (a f : TEntry) : TEntry := if leT f a = true then a else f
def PA (a e : TEntry) : Prop := (∃ f, f ∈ B ∧ f.stamp = a.stamp ∧ e = pickT a f) ∨ ((∀ f, f ∈ B → f.stamp ≠ a.stamp) ∧ cnt sb a.stamp < a.stamp.time ∧ e = a)
def PB (f e : TEntry) : Prop := (∀ a, a ∈ A → a.stamp ≠ f.stamp) ∧ cnt sa f.stamp < f.stamp.time ∧ e = f
theorem PA_stamp {a e : TEntry} (h : PA sb B a e) : e.stamp = a.stamp := by
  rcases h with ⟨f, _, h1, rfl⟩ | ⟨_, _, rfl⟩
  · unfold pickT
    split
    · rfl
    · exact h1
  · rfl
theorem PA_none {a e : TEntry} (h : ∀ f, f ∈ B → f.stamp ≠ a.stamp) : PA sb B a e ↔ cnt sb a.stamp < a.stamp.time ∧ e = a := by
  unfold PA
  constructor
  · rintro (⟨f, h1, h2, _⟩ | ⟨_, h2⟩)
    · exact (h f h1 h2).elim
    · exact h2
  · intro h2; exact .inr ⟨h, h2⟩
theorem PA_some {a f e : TEntry} (hB : B.Pairwise lessE) (hf : f ∈ B) (h : f.stamp = a.stamp) : PA sb B a e ↔ e = pickT a f := by
  unfold PA
  constructor
  · rintro (⟨g, h1, h2, rfl⟩ | ⟨h1, _⟩)
    · rw [sorted_inj hB h1 hf (h2.trans h.symm)]
    · exact (h1 f hf h).elim
  · intro h2; exact .inl ⟨f, hf, h, h2⟩

theorem seen_get {s : TVec} {e : TEntry} (hs : s.counts.length = 16) (h0 : 0 ≤ e.stamp.actor) (h1 : e.stamp.actor < 16) : get? s.counts e.stamp.actor = some (cnt s e.stamp) := by
  obtain ⟨k, hk⟩ : ∃ k : Nat, e.stamp.actor = (k : Int) := ⟨e.stamp.actor.toNat, by omega⟩
  obtain ⟨c, hc, hc'⟩ := get_lt (xs := s.counts) (i := k) (by omega)
  unfold cnt
  rw [hk, hc, Int.toNat_natCast, List.getD_eq_getElem?_getD, hc']; rfl

variable {sa sb A B}
theorem q_joinSpec (oa : EntOK sa A) (ob : EntOK sb B) : ∃ r, p_spec_l03Join sa A sb B = some r ∧ r.Pairwise lessE ∧ (∀ e, e ∈ r ↔ (∃ a, a ∈ A ∧ PA sb B a e) ∨ ∃ f, f ∈ B ∧ PB sa A f e) ∧ r.length ≤ A.length + B.length := by
  have sA := rise_pairwise oa.rise
  have sB := rise_pairwise ob.rise
  have lA := oa.len
  have lB := ob.len
  have sac : ∀ s : TVec, s.counts.length = 16 → ∀ (l : List TEntry) (t : TVec), EntOK t l → ∀ (i : Nat) (e : TEntry), l[i]? = some e → get? s.counts e.stamp.actor = some (cnt s e.stamp) := by
    intro s hs l t o i e he
    have := o.ent i e he
    exact seen_get hs this.2.2.1 this.2.2.2.1
  unfold p_spec_l03Join
  obtain ⟨e0, h1, r0, i0, rfl, s0, m0, l0⟩ := loop_count (step := p_spec_l03Join_l0 A sb B) A.length (fun i s => s.2 = (i : Int) ∧ s.1.Pairwise lessE ∧ (∀ e, e ∈ s.1 ↔ ∃ a, a ∈ A.take i ∧ PA sb B a e) ∧ s.1.length ≤ i)
    (fun e => ∃ r i, e = .out (r, i) ∧ r.Pairwise lessE ∧ (∀ e, e ∈ r ↔ ∃ a, a ∈ A ∧ PA sb B a e) ∧ r.length ≤ A.length) (by
    rintro i ⟨s, k⟩ hi ⟨h1, h2, h3, h4⟩
    simp only at h1 h2 h3 h4
    subst h1
    obtain ⟨a, ha, ha'⟩ := get_lt (xs := A) hi
    have hd : decide ((i : Int) < (A.length : Int)) = true := by simpa using hi
    simp only [p_spec_l03Join_l0]
    rw [if_t hd, ha, Option.bind_some, w64_succ (by omega)]
    obtain ⟨k, hk, hkk⟩ := q_find B a.stamp (by omega)
    rw [hk, Option.bind_some]
    have hnew : ∀ x, x ∈ s → x.stamp ≠ a.stamp := by
      intro x hx
      obtain ⟨b, hb, hp⟩ := (h3 x).1 hx
      rw [PA_stamp sb B hp]
      exact lessS_ne (split_rise sA i hb (by rw [drop_next ha']; simp))
    have hmem : ∀ e, (∃ b, b ∈ A.take (i + 1) ∧ PA sb B b e) ↔ (∃ b, b ∈ A.take i ∧ PA sb B b e) ∨ PA sb B a e := by
      intro e
      constructor
      · rintro ⟨b, hb, hp⟩
        rcases (mem_take_next ha').1 hb with hb | rfl
        · exact .inl ⟨b, hb, hp⟩
        · exact .inr hp
      · rintro (⟨b, hb, hp⟩ | hp)
        · exact ⟨b, (mem_take_next ha').2 (.inl hb), hp⟩
        · exact ⟨a, (mem_take_next ha').2 (.inr rfl), hp⟩
    have put : ∀ c : TEntry, c.stamp = a.stamp → (∀ e, PA sb B a e ↔ e = c) → ∃ s', (p_spec_l03Insert s c).bind (fun v => some (Lp.go (ρ := List TEntry) (v, ((i + 1 : Nat) : Int)))) = some (.go s') ∧ s'.2 = ((i + 1 : Nat) : Int) ∧ s'.1.Pairwise lessE ∧ (∀ e, e ∈ s'.1 ↔ ∃ a, a ∈ A.take (i + 1) ∧ PA sb B a e) ∧ s'.1.length ≤ i + 1 := by
      intro c hc hp
      obtain ⟨r, e1, e2, e3, e4⟩ := q_insert (l := s) (e := c) (by omega) h2 (by rw [hc]; exact hnew)
      rw [e1]
      refine ⟨_, rfl, rfl, e2, fun e => ?_, by simp only; omega⟩
      simp only
      rw [e3, hmem, hp, h3]
      exact Or.comm
    rcases hkk with ⟨rfl, hno⟩ | ⟨j, f, rfl, hf, hfs⟩
    · rw [if_neg (by decide), sac sb ob.counts A sa oa i a ha', Option.bind_some]
      by_cases hlt : cnt sb a.stamp < a.stamp.time
      · rw [if_pos (decide_eq_true hlt)]
        obtain ⟨s', e1, e2⟩ := put a rfl (fun e => by rw [PA_none sb B hno]; simp [hlt])
        exact .inl ⟨s', e1, e2⟩
      · rw [if_neg (by simpa using hlt)]
        refine .inl ⟨_, rfl, rfl, h2, fun e => ?_, by simp only; omega⟩
        simp only
        rw [hmem, PA_none sb B hno, h3]
        simp [hlt]
    · rw [if_pos (by simp)]
      have hfm := List.mem_of_getElem? hf
      have hg : get? B (j : Int) = some f := by rw [get_nat]; exact hf
      rw [hg, Option.bind_some]
      by_cases hle : (Op.bytesLess f.text.toList a.text.toList || decide (f.text = a.text)) = true
      · rw [if_pos hle]
        obtain ⟨s', e1, e2⟩ := put a rfl (fun e => by rw [PA_some sb B sB hfm hfs]; unfold pickT leT; simp only [hle, if_true, if_false, Bool.false_eq_true])
        exact .inl ⟨s', e1, e2⟩
      · rw [if_neg hle]
        obtain ⟨s', e1, e2⟩ := put f hfs (fun e => by rw [PA_some sb B sB hfm hfs]; unfold pickT leT; simp only [hle, if_true, if_false, Bool.false_eq_true])
        exact .inl ⟨s', e1, e2⟩)
    (by
    rintro ⟨s, k⟩ ⟨h1, h2, h3, h4⟩
    simp only at h1 h2 h3 h4
    subst h1
    have hd : decide ((A.length : Int) < (A.length : Int)) = false := by simp
    simp only [p_spec_l03Join_l0]
    rw [if_f hd]
    rw [List.take_length] at h3
    exact .inl ⟨_, rfl, _, _, rfl, h2, h3, h4⟩) (s := ([], 0)) ⟨rfl, .nil, by simp, by simp⟩
  rw [h1, Option.bind_some]
  simp only
  obtain ⟨e1, h2, r1, i1, rfl, s1, m1, l1⟩ := loop_count (step := p_spec_l03Join_l1 sa A B) B.length (fun i s => s.2 = (i : Int) ∧ s.1.Pairwise lessE ∧ (∀ e, e ∈ s.1 ↔ (∃ a, a ∈ A ∧ PA sb B a e) ∨ ∃ f, f ∈ B.take i ∧ PB sa A f e) ∧ s.1.length ≤ A.length + i)
    (fun e => ∃ r i, e = .out (r, i) ∧ r.Pairwise lessE ∧ (∀ e, e ∈ r ↔ (∃ a, a ∈ A ∧ PA sb B a e) ∨ ∃ f, f ∈ B ∧ PB sa A f e) ∧ r.length ≤ A.length + B.length) (by
    rintro i ⟨s, k⟩ hi ⟨h1, h2, h3, h4⟩
    simp only at h1 h2 h3 h4
    subst h1
    obtain ⟨f, hf, hf'⟩ := get_lt (xs := B) hi
    have hd : decide ((i : Int) < (B.length : Int)) = true := by simpa using hi
    simp only [p_spec_l03Join_l1]
    rw [if_t hd, hf, Option.bind_some, w64_succ (by omega)]
    obtain ⟨k, hk, hkk⟩ := q_find A f.stamp (by omega)
    rw [hk, Option.bind_some]
    have hmem : ∀ e, (∃ b, b ∈ B.take (i + 1) ∧ PB sa A b e) ↔ (∃ b, b ∈ B.take i ∧ PB sa A b e) ∨ PB sa A f e := by
      intro e
      constructor
      · rintro ⟨b, hb, hp⟩
        rcases (mem_take_next hf').1 hb with hb | rfl
        · exact .inl ⟨b, hb, hp⟩
        · exact .inr hp
      · rintro (⟨b, hb, hp⟩ | hp)
        · exact ⟨b, (mem_take_next hf').2 (.inl hb), hp⟩
        · exact ⟨f, (mem_take_next hf').2 (.inr rfl), hp⟩
    have stay : (∀ e, ¬ PB sa A f e) → ∃ s', some (Lp.go (ρ := List TEntry) (s, ((i + 1 : Nat) : Int))) = some (.go s') ∧ s'.2 = ((i + 1 : Nat) : Int) ∧ s'.1.Pairwise lessE ∧ (∀ e, e ∈ s'.1 ↔ (∃ a, a ∈ A ∧ PA sb B a e) ∨ ∃ f, f ∈ B.take (i + 1) ∧ PB sa A f e) ∧ s'.1.length ≤ A.length + (i + 1) := by
      intro hno
      refine ⟨_, rfl, rfl, h2, fun e => ?_, by simp only; omega⟩
      simp only
      rw [hmem, h3]
      simp [hno e]
    rcases hkk with ⟨rfl, hno⟩ | ⟨j, g, rfl, hg, hgs⟩
    · rw [if_pos (by decide), sac sa oa.counts B sb ob i f hf', Option.bind_some]
      by_cases hlt : cnt sa f.stamp < f.stamp.time
      · rw [if_pos (decide_eq_true hlt)]
        obtain ⟨r, e1, e2, e3, e4⟩ := q_insert (l := s) (e := f) (by omega) h2 (by
          intro x hx
          rcases (h3 x).1 hx with ⟨a, ha, hp⟩ | ⟨b, hb, hp⟩
          · rw [PA_stamp sb B hp]; exact hno a ha
          · rw [hp.2.2]
            exact lessS_ne (split_rise sB i hb (by rw [drop_next hf']; simp)))
        rw [e1]
        refine .inl ⟨_, rfl, rfl, e2, fun e => ?_, by simp only; omega⟩
        simp only
        rw [e3, hmem, h3]
        have : PB sa A f e ↔ e = f := by unfold PB; simp [hlt]; intro _; exact hno
        rw [this]
        constructor
        · rintro (h | h | h)
          · exact .inr (.inr h)
          · exact .inl h
          · exact .inr (.inl h)
        · rintro (h | h | h)
          · exact .inr (.inl h)
          · exact .inr (.inr h)
          · exact .inl h
      · rw [if_neg (by simpa using hlt)]
        exact .inl (stay fun e hp => hlt hp.2.1)
    · rw [if_neg (by simp)]
      exact .inl (stay fun e hp => hp.1 g (List.mem_of_getElem? hg) hgs))
    (by
    rintro ⟨s, k⟩ ⟨h1, h2, h3, h4⟩
    simp only at h1 h2 h3 h4
    subst h1
    have hd : decide ((B.length : Int) < (B.length : Int)) = false := by simp
    simp only [p_spec_l03Join_l1]
    rw [if_f hd]
    rw [List.take_length] at h3
    exact .inl ⟨_, rfl, _, _, rfl, h2, h3, h4⟩) (s := (r0, 0)) ⟨rfl, s0, by simpa using m0, by simpa using l0⟩
  rw [h2]
  exact ⟨r1, rfl, s1, m1, l1⟩
end

theorem lt_t {x y : TStamp} (h : lessS x y) : decide (x.time < y.time ∨ (x.time = y.time ∧ x.actor < y.actor)) = true := decide_eq_true h
theorem lt_f {x y : TStamp} (h : ¬ lessS x y) : decide (x.time < y.time ∨ (x.time = y.time ∧ x.actor < y.actor)) = false := decide_eq_false h
section
variable (sa sb : TVec) (A B : List TEntry)
/-- Where the walk by rising stamp is. -/
structure MInv (s : List TEntry) (i j : Nat) : Prop where
  hi : i ≤ A.length
  hj : j ≤ B.length
  sorted : s.Pairwise lessE
  mem : ∀ e, e ∈ s ↔ (∃ a, a ∈ A.take i ∧ PA sb B a e) ∨ ∃ f, f ∈ B.take j ∧ PB sa A f e
  ab : ∀ x y, x ∈ A.take i → y ∈ B.drop j → lessE x y
  ba : ∀ x y, x ∈ B.take j → y ∈ A.drop i → lessE x y
  len : s.length ≤ i + j
variable {sa sb A B}
theorem pw_snoc {s : List TEntry} {c : TEntry} (hs : s.Pairwise lessE) (h : ∀ x, x ∈ s → lessE x c) : (s ++ [c]).Pairwise lessE := by
  rw [List.pairwise_append]
  refine ⟨hs, by simp, fun x hx y hy => ?_⟩
  rw [List.mem_singleton] at hy
  subst hy
  exact h x hx
theorem ex_next {P : TEntry → TEntry → Prop} {l : List TEntry} {i : Nat} {a : TEntry} (h : l[i]? = some a) (e : TEntry) : (∃ b, b ∈ l.take (i + 1) ∧ P b e) ↔ (∃ b, b ∈ l.take i ∧ P b e) ∨ P a e := by
  constructor
  · rintro ⟨b, hb, hp⟩
    rcases (mem_take_next h).1 hb with hb | rfl
    · exact .inl ⟨b, hb, hp⟩
    · exact .inr hp
  · rintro (⟨b, hb, hp⟩ | hp)
    · exact ⟨b, (mem_take_next h).2 (.inl hb), hp⟩
    · exact ⟨a, (mem_take_next h).2 (.inr rfl), hp⟩
theorem lt_of_get {l : List TEntry} {i : Nat} {a : TEntry} (h : l[i]? = some a) : i < l.length := (List.getElem?_eq_some_iff.1 h).1
theorem MInv.below {s : List TEntry} {i j : Nat} (m : MInv sa sb A B s i j) (sA : A.Pairwise lessE) (sB : B.Pairwise lessE) {x : TEntry} (hx : x ∈ s) : (∀ y, y ∈ A.drop i → lessE x y) ∧ ∀ y, y ∈ B.drop j → lessE x y := by
  rcases (m.mem x).1 hx with ⟨a, ha, hp⟩ | ⟨f, hf, hp⟩
  · have hs := PA_stamp sb B hp
    have e : ∀ y, lessE a y → lessE x y := fun y h => by unfold lessE at *; rw [hs]; exact h
    exact ⟨fun y hy => e y (split_rise sA i ha hy), fun y hy => e y (m.ab a y ha hy)⟩
  · have hs : x.stamp = f.stamp := by rw [hp.2.2]
    have e : ∀ y, lessE f y → lessE x y := fun y h => by unfold lessE at *; rw [hs]; exact h
    exact ⟨fun y hy => e y (m.ba f y hf hy), fun y hy => e y (split_rise sB j hf hy)⟩
theorem MInv.noB {s : List TEntry} {i j : Nat} (m : MInv sa sb A B s i j) {a : TEntry} (ha : A[i]? = some a) (h : ∀ y, y ∈ B.drop j → lessE a y) : ∀ f, f ∈ B → f.stamp ≠ a.stamp := by
  intro f hf
  rw [← List.take_append_drop j B] at hf
  rcases List.mem_append.1 hf with hf | hf
  · exact lessS_ne (m.ba f a hf (by rw [drop_next ha]; simp))
  · exact fun e => lessS_ne (h f hf) e.symm
theorem MInv.noA {s : List TEntry} {i j : Nat} (m : MInv sa sb A B s i j) {f : TEntry} (hf : B[j]? = some f) (h : ∀ y, y ∈ A.drop i → lessE f y) : ∀ a, a ∈ A → a.stamp ≠ f.stamp := by
  intro a ha
  rw [← List.take_append_drop i A] at ha
  rcases List.mem_append.1 ha with ha | ha
  · exact lessS_ne (m.ab a f ha (by rw [drop_next hf]; simp))
  · exact fun e => lessS_ne (h a ha) e.symm
theorem drop_sub {α : Type} {l : List α} {i : Nat} {x : α} (h : x ∈ l.drop (i + 1)) : x ∈ l.drop i := by
  rw [← List.drop_drop] at h
  exact List.mem_of_mem_drop h
theorem MInv.stepA {s : List TEntry} {i j : Nat} (m : MInv sa sb A B s i j) (sA : A.Pairwise lessE) (sB : B.Pairwise lessE) {a : TEntry} (ha : A[i]? = some a) (h : ∀ y, y ∈ B.drop j → lessE a y) :
    (cnt sb a.stamp < a.stamp.time → MInv sa sb A B (s ++ [a]) (i + 1) j) ∧ (¬ cnt sb a.stamp < a.stamp.time → MInv sa sb A B s (i + 1) j) := by
  have hn := m.noB ha h
  have hab : ∀ x y, x ∈ A.take (i + 1) → y ∈ B.drop j → lessE x y := by
    intro x y hx hy
    rcases (mem_take_next ha).1 hx with hx | rfl
    · exact m.ab x y hx hy
    · exact h y hy
  have hba : ∀ x y, x ∈ B.take j → y ∈ A.drop (i + 1) → lessE x y := fun x y hx hy => m.ba x y hx (drop_sub hy)
  constructor
  · intro hc
    refine ⟨lt_of_get ha, m.hj, pw_snoc m.sorted fun x hx => (m.below sA sB hx).1 a (by rw [drop_next ha]; simp), fun e => ?_, hab, hba, by have := m.len; simp only [List.length_append, List.length_cons, List.length_nil]; omega⟩
    rw [List.mem_append, List.mem_singleton, m.mem, ex_next ha, PA_none sb B hn]
    constructor
    · rintro ((h | h) | h)
      · exact .inl (.inl h)
      · exact .inr h
      · exact .inl (.inr ⟨hc, h⟩)
    · rintro ((h | h) | h)
      · exact .inl (.inl h)
      · exact .inr h.2
      · exact .inl (.inr h)
  · intro hc
    refine ⟨lt_of_get ha, m.hj, m.sorted, fun e => ?_, hab, hba, by have := m.len; omega⟩
    rw [m.mem, ex_next ha, PA_none sb B hn]
    constructor
    · rintro (h | h)
      · exact .inl (.inl h)
      · exact .inr h
    · rintro ((h | h) | h)
      · exact .inl h
      · exact (hc h.1).elim
      · exact .inr h
theorem MInv.stepB {s : List TEntry} {i j : Nat} (m : MInv sa sb A B s i j) (sA : A.Pairwise lessE) (sB : B.Pairwise lessE) {f : TEntry} (hf : B[j]? = some f) (h : ∀ y, y ∈ A.drop i → lessE f y) :
    (cnt sa f.stamp < f.stamp.time → MInv sa sb A B (s ++ [f]) i (j + 1)) ∧ (¬ cnt sa f.stamp < f.stamp.time → MInv sa sb A B s i (j + 1)) := by
  have hn := m.noA hf h
  have hba : ∀ x y, x ∈ B.take (j + 1) → y ∈ A.drop i → lessE x y := by
    intro x y hx hy
    rcases (mem_take_next hf).1 hx with hx | rfl
    · exact m.ba x y hx hy
    · exact h y hy
  have hab : ∀ x y, x ∈ A.take i → y ∈ B.drop (j + 1) → lessE x y := fun x y hx hy => m.ab x y hx (drop_sub hy)
  constructor
  · intro hc
    refine ⟨m.hi, lt_of_get hf, pw_snoc m.sorted fun x hx => (m.below sA sB hx).2 f (by rw [drop_next hf]; simp), fun e => ?_, hab, hba, by have := m.len; simp only [List.length_append, List.length_cons, List.length_nil]; omega⟩
    rw [List.mem_append, List.mem_singleton, m.mem, ex_next hf]
    constructor
    · rintro ((h | h) | h)
      · exact .inl h
      · exact .inr (.inl h)
      · exact .inr (.inr ⟨hn, hc, h⟩)
    · rintro (h | h | h)
      · exact .inl (.inl h)
      · exact .inl (.inr h)
      · exact .inr h.2.2
  · intro hc
    refine ⟨m.hi, lt_of_get hf, m.sorted, fun e => ?_, hab, hba, by have := m.len; omega⟩
    rw [m.mem, ex_next hf]
    constructor
    · rintro (h | h)
      · exact .inl h
      · exact .inr (.inl h)
    · rintro (h | h | h)
      · exact .inl h
      · exact .inr h
      · exact (hc h.2.1).elim
theorem MInv.stepAB {s : List TEntry} {i j : Nat} (m : MInv sa sb A B s i j) (sA : A.Pairwise lessE) (sB : B.Pairwise lessE) {a f : TEntry} (ha : A[i]? = some a) (hf : B[j]? = some f) (h : f.stamp = a.stamp) : MInv sa sb A B (s ++ [pickT a f]) (i + 1) (j + 1) := by
  have hdA : ∀ y, y ∈ A.drop (i + 1) → lessE a y := fun y hy => split_rise sA (i + 1) (by rw [take_next ha]; simp) hy
  have hdB : ∀ y, y ∈ B.drop (j + 1) → lessE f y := fun y hy => split_rise sB (j + 1) (by rw [take_next hf]; simp) hy
  have hp : (pickT a f).stamp = a.stamp := by unfold pickT; split <;> first | rfl | exact h
  refine ⟨lt_of_get ha, lt_of_get hf, pw_snoc m.sorted fun x hx => ?_, fun e => ?_, ?_, ?_, by have := m.len; simp only [List.length_append, List.length_cons, List.length_nil]; omega⟩
  · have := (m.below sA sB hx).1 a (by rw [drop_next ha]; simp)
    unfold lessE at *; rw [hp]; exact this
  · rw [List.mem_append, List.mem_singleton, m.mem, ex_next ha, ex_next hf, PA_some sb B sB (List.mem_of_getElem? hf) h]
    constructor
    · rintro ((h | h) | h)
      · exact .inl (.inl h)
      · exact .inr (.inl h)
      · exact .inl (.inr h)
    · rintro ((h1 | h1) | h1 | h1)
      · exact .inl (.inl h1)
      · exact .inr h1
      · exact .inl (.inr h1)
      · exact (h1.1 a (List.mem_of_getElem? ha) h.symm).elim
  · intro x y hx hy
    rcases (mem_take_next ha).1 hx with hx | rfl
    · exact m.ab x y hx (drop_sub hy)
    · have := hdB y hy; unfold lessE at *; rw [← h]; exact this
  · intro x y hx hy
    rcases (mem_take_next hf).1 hx with hx | rfl
    · exact m.ba x y hx (drop_sub hy)
    · have := hdA y hy; unfold lessE at *; rw [h]; exact this

theorem q_joinImpl (oa : EntOK sa A) (ob : EntOK sb B) : ∃ r i j, loopP (p_impl_joinStates_l0 sa A sb B) ([], 0, 0) = some (.out (r, i, j)) ∧ r.Pairwise lessE ∧ (∀ e, e ∈ r ↔ (∃ a, a ∈ A ∧ PA sb B a e) ∨ ∃ f, f ∈ B ∧ PB sa A f e) := by
  have sA := rise_pairwise oa.rise
  have sB := rise_pairwise ob.rise
  have lA := oa.len
  have lB := ob.len
  have sac : ∀ s : TVec, s.counts.length = 16 → ∀ {l : List TEntry} {t : TVec}, EntOK t l → ∀ {i : Nat} {e : TEntry}, l[i]? = some e → get? s.counts e.stamp.actor = some (cnt s e.stamp) := by
    intro s hs l t o i e he
    have := o.ent i e he
    exact seen_get hs this.2.2.1 this.2.2.2.1
  obtain ⟨e, h1, r, i, j, rfl, h2, h3⟩ := loopP_inv (step := p_impl_joinStates_l0 sa A sb B) (fun s => ∃ i j : Nat, s.2.1 = (i : Int) ∧ s.2.2 = (j : Int) ∧ MInv sa sb A B s.1 i j) (fun s => (A.length - s.2.1.toNat) + (B.length - s.2.2.toNat))
    (fun e => ∃ r i j, e = .out (r, i, j) ∧ r.Pairwise lessE ∧ (∀ e, e ∈ r ↔ (∃ a, a ∈ A ∧ PA sb B a e) ∨ ∃ f, f ∈ B ∧ PB sa A f e)) (by
    rintro ⟨s, i, j⟩ ⟨i, j, h1, h2, m⟩
    simp only at h1 h2 m
    subst h1 h2
    have mi := m.hi
    have mj := m.hj
    have ml := m.len
    have nxi := w64_succ (show i < 9223372036854775807 by omega)
    have nxj := w64_succ (show j < 9223372036854775807 by omega)
    have dA : ∀ {a : TEntry}, A[i]? = some a → ∀ {f : TEntry}, lessS f.stamp a.stamp → ∀ y, y ∈ A.drop i → lessE f y := by
      intro a ha f hfa y hy
      rw [drop_next ha] at hy
      rcases List.mem_cons.1 hy with rfl | hy
      · exact hfa
      · exact lessS_trans hfa (split_rise sA (i + 1) (by rw [take_next ha]; simp) hy)
    have dB : ∀ {a : TEntry}, B[j]? = some a → ∀ {f : TEntry}, lessS f.stamp a.stamp → ∀ y, y ∈ B.drop j → lessE f y := by
      intro a ha f hfa y hy
      rw [drop_next ha] at hy
      rcases List.mem_cons.1 hy with rfl | hy
      · exact hfa
      · exact lessS_trans hfa (split_rise sB (j + 1) (by rw [take_next ha]; simp) hy)
    have apo : ∀ c : TEntry, app? 32 s [c] = some (s ++ [c]) := fun c => app_one (by omega)
    simp only [p_impl_joinStates_l0, q_implStampLess, q_StampLess, Option.bind_some, apo, nxi, nxj]
    by_cases hi : i < A.length
    · obtain ⟨a, ha, ha'⟩ := get_lt (xs := A) hi
      rw [if_t (by simp; omega), ha]
      simp only [Option.bind_some, sac sb ob.counts oa ha']
      by_cases hj : j = B.length
      · rw [if_t (by simp; omega)]
        have hno : ∀ y, y ∈ B.drop j → lessE a y := by intro y hy; rw [List.drop_of_length_le (by omega)] at hy; simp at hy
        obtain ⟨p1, p2⟩ := m.stepA sA sB ha' hno
        by_cases hc : cnt sb a.stamp < a.stamp.time
        · rw [if_pos (decide_eq_true hc)]
          exact ⟨_, rfl, ⟨i + 1, j, rfl, rfl, p1 hc⟩, by simp only [Int.toNat_natCast]; omega⟩
        · rw [if_neg (by simpa using hc)]
          exact ⟨_, rfl, ⟨i + 1, j, rfl, rfl, p2 hc⟩, by simp only [Int.toNat_natCast]; omega⟩
      · rw [if_f (by simp; omega)]
        obtain ⟨f, hf, hf'⟩ := get_lt (xs := B) (i := j) (by omega)
        rw [hf]
        simp only [Option.bind_some, sac sa oa.counts ob hf']
        by_cases hlt : lessS a.stamp f.stamp
        · rw [if_t (lt_t hlt)]
          obtain ⟨p1, p2⟩ := m.stepA sA sB ha' (dB hf' hlt)
          by_cases hc : cnt sb a.stamp < a.stamp.time
          · rw [if_pos (decide_eq_true hc)]
            exact ⟨_, rfl, ⟨i + 1, j, rfl, rfl, p1 hc⟩, by simp only [Int.toNat_natCast]; omega⟩
          · rw [if_neg (by simpa using hc)]
            exact ⟨_, rfl, ⟨i + 1, j, rfl, rfl, p2 hc⟩, by simp only [Int.toNat_natCast]; omega⟩
        · rw [if_f (lt_f hlt), if_f (by simp; omega)]
          by_cases hgt : lessS f.stamp a.stamp
          · rw [if_t (lt_t hgt)]
            obtain ⟨p1, p2⟩ := m.stepB sA sB hf' (dA ha' hgt)
            by_cases hc : cnt sa f.stamp < f.stamp.time
            · rw [if_pos (decide_eq_true hc)]
              exact ⟨_, rfl, ⟨i, j + 1, rfl, rfl, p1 hc⟩, by simp only [Int.toNat_natCast]; omega⟩
            · rw [if_neg (by simpa using hc)]
              exact ⟨_, rfl, ⟨i, j + 1, rfl, rfl, p2 hc⟩, by simp only [Int.toNat_natCast]; omega⟩
          · rw [if_f (lt_f hgt)]
            have heq : f.stamp = a.stamp := by
              rcases lessS_tri a.stamp f.stamp with h | h | h
              · exact (hlt h).elim
              · exact h.symm
              · exact (hgt h).elim
            have p := m.stepAB sA sB ha' hf' heq
            by_cases hle : (Op.bytesLess f.text.toList a.text.toList || decide (f.text = a.text)) = true
            · rw [if_pos hle]
              have hpk : pickT a f = a := by unfold pickT leT; rw [if_pos hle]
              rw [hpk] at p
              exact ⟨_, rfl, ⟨i + 1, j + 1, rfl, rfl, p⟩, by simp only [Int.toNat_natCast]; omega⟩
            · rw [if_neg hle]
              have hpk : pickT a f = f := by unfold pickT leT; rw [if_neg hle]
              rw [hpk] at p
              exact ⟨_, rfl, ⟨i + 1, j + 1, rfl, rfl, p⟩, by simp only [Int.toNat_natCast]; omega⟩
    · rw [if_f (by simp; omega)]
      by_cases hj : j < B.length
      · rw [if_t (by simp; omega), if_f (by simp; omega), if_t (by simp; omega)]
        obtain ⟨f, hf, hf'⟩ := get_lt (xs := B) hj
        rw [hf]
        simp only [Option.bind_some, sac sa oa.counts ob hf']
        have hno : ∀ y, y ∈ A.drop i → lessE f y := by intro y hy; rw [List.drop_of_length_le (by omega)] at hy; simp at hy
        obtain ⟨p1, p2⟩ := m.stepB sA sB hf' hno
        by_cases hc : cnt sa f.stamp < f.stamp.time
        · rw [if_pos (decide_eq_true hc)]
          exact ⟨_, rfl, ⟨i, j + 1, rfl, rfl, p1 hc⟩, by simp only [Int.toNat_natCast]; omega⟩
        · rw [if_neg (by simpa using hc)]
          exact ⟨_, rfl, ⟨i, j + 1, rfl, rfl, p2 hc⟩, by simp only [Int.toNat_natCast]; omega⟩
      · rw [if_f (by simp; omega)]
        obtain rfl : i = A.length := by omega
        obtain rfl : j = B.length := by omega
        have hm := m.mem
        rw [List.take_length, List.take_length] at hm
        exact ⟨_, rfl, _, _, _, rfl, m.sorted, hm⟩) (s := ([], 0, 0)) ⟨0, 0, rfl, rfl, ⟨by omega, by omega, .nil, by simp, by simp, by simp, by simp⟩⟩
  exact ⟨r, i, j, h1, h2, h3⟩
theorem q_join (oa : EntOK sa A) (ob : EntOK sb B) : ∃ r i j, p_spec_l03Join sa A sb B = some r ∧ loopP (p_impl_joinStates_l0 sa A sb B) ([], 0, 0) = some (.out (r, i, j)) ∧ r.length ≤ 512 := by
  obtain ⟨r, h1, h2, h3, h4⟩ := q_joinSpec oa ob
  obtain ⟨r', i, j, g1, g2, g3⟩ := q_joinImpl oa ob
  have : r' = r := sorted_ext g2 h2 fun e => by rw [g3, h3]
  subst this
  have := oa.len
  have := ob.len
  exact ⟨r', i, j, h1, g1, by omega⟩
end

def mx (x y : List Int) (j : Nat) : Int := if y.getD j 0 > x.getD j 0 then y.getD j 0 else x.getD j 0
theorem q_specLoop (x y : TVec) (hx : x.counts.length = 16) (hy : y.counts.length = 16) : ∃ m i, loopP (p_spec_l02Join_l0 x y) ([], 0) = some (.out (m, i)) ∧ m.length = 16 ∧ ∀ j, j < 16 → m[j]? = some (mx x.counts y.counts j) := by
  obtain ⟨e, h1, m, i, rfl, h2, h3⟩ := loop_count (step := p_spec_l02Join_l0 x y) 16 (fun i s => s.2 = (i : Int) ∧ s.1.length = i ∧ ∀ j, j < i → s.1[j]? = some (mx x.counts y.counts j))
    (fun e => ∃ m i, e = .out (m, i) ∧ m.length = 16 ∧ ∀ j, j < 16 → m[j]? = some (mx x.counts y.counts j)) (by
      rintro i ⟨s1, s2⟩ hi ⟨h1, h2, h3⟩
      simp only at h1 h2 h3
      subst h1
      obtain ⟨a, ha, ha'⟩ := get_lt (xs := x.counts) (i := i) (by omega)
      obtain ⟨b, hb, hb'⟩ := get_lt (xs := y.counts) (i := i) (by omega)
      have hd : decide ((i : Int) < 16) = true := by simp; omega
      have hm : mx x.counts y.counts i = if b > a then b else a := by
        unfold mx
        simp [List.getD_eq_getElem?_getD, ha', hb']
      left
      refine ⟨(s1 ++ [mx x.counts y.counts i], ((i + 1 : Nat) : Int)), ?_, rfl, by simp [h2], ?_⟩
      · simp only [p_spec_l02Join_l0]
        rw [if_t hd, ha, Option.bind_some, hb, Option.bind_some, w64_succ (by omega), hm]
        unfold app?
        rw [if_pos (by right; simp only [List.length_cons, List.length_nil]; omega)]
        rfl
      · intro j hj
        by_cases e : j < i
        · rw [List.getElem?_append_left (by omega)]; exact h3 j e
        · obtain rfl : j = i := by omega
          rw [List.getElem?_append_right (by omega)]
          simp [h2])
    (by
      rintro ⟨s1, s2⟩ ⟨h1, h2, h3⟩
      simp only at h1 h2 h3
      subst h1
      exact .inl ⟨_, rfl, _, _, rfl, h2, h3⟩) (s := ([], 0)) ⟨rfl, rfl, fun j hj => by omega⟩
  exact ⟨m, i, h1, h2, h3⟩
theorem q_implLoop (x y : TVec) (v : List Int) (hv : v.length = 16) (hx : x.counts.length = 16) (hy : y.counts.length = 16) : ∃ m i, loopP (p_impl_vecJoin_l0 x y) (v, 0) = some (.out (m, i)) ∧ m.length = 16 ∧ ∀ j, j < 16 → m[j]? = some (mx x.counts y.counts j) := by
  obtain ⟨e, h1, m, i, rfl, h2, h3⟩ := loop_count (step := p_impl_vecJoin_l0 x y) 16 (fun i s => s.2 = (i : Int) ∧ s.1.length = 16 ∧ ∀ j, j < i → s.1[j]? = some (mx x.counts y.counts j))
    (fun e => ∃ m i, e = .out (m, i) ∧ m.length = 16 ∧ ∀ j, j < 16 → m[j]? = some (mx x.counts y.counts j)) (by
      rintro i ⟨s1, s2⟩ hi ⟨h1, h2, h3⟩
      simp only at h1 h2 h3
      subst h1
      obtain ⟨a, ha, ha'⟩ := get_lt (xs := x.counts) (i := i) (by omega)
      obtain ⟨b, hb, hb'⟩ := get_lt (xs := y.counts) (i := i) (by omega)
      obtain ⟨c, hc, hc'⟩ := get_lt (xs := s1) (i := i) (by omega)
      have hd : decide ((i : Int) < 16) = true := by simp; omega
      have hm : mx x.counts y.counts i = if b > a then b else a := by
        unfold mx
        simp [List.getD_eq_getElem?_getD, ha', hb']
      left
      refine ⟨(s1.set i (mx x.counts y.counts i), ((i + 1 : Nat) : Int)), ?_, rfl, by simpa using h2, ?_⟩
      · simp only [p_impl_vecJoin_l0]
        rw [if_t hd, ha, Option.bind_some, hb, Option.bind_some, hc, Option.bind_some, w64_succ (by omega), hm, Int.toNat_natCast]
      · intro j hj
        simp only [List.getElem?_set]
        by_cases e : i = j
        · subst e
          rw [if_pos rfl, if_pos (by omega)]
        · rw [if_neg e]; exact h3 j (by omega))
    (by
      rintro ⟨s1, s2⟩ ⟨h1, h2, h3⟩
      simp only at h1 h2 h3
      subst h1
      exact .inl ⟨_, rfl, _, _, rfl, h2, h3⟩) (s := (v, 0)) ⟨rfl, hv, fun j hj => by omega⟩
  exact ⟨m, i, h1, h2, h3⟩
theorem q_vecJoin (x y : TVec) (hx : x.counts.length = 16) (hy : y.counts.length = 16) : ∃ r, p_spec_l02Join x y = some r ∧ p_impl_vecJoin x y = some r ∧ r.counts.length = 16 := by
  obtain ⟨m, i, h5, h6, h7⟩ := q_specLoop x y hx hy
  obtain ⟨m', i', h8, h9, h10⟩ := q_implLoop x y (List.replicate 16 0) (by simp) hx hy
  have hm : m' = m := by
    apply List.ext_getElem?
    intro j
    by_cases hj : j < 16
    · rw [h7 j hj, h10 j hj]
    · rw [List.getElem?_eq_none (by omega), List.getElem?_eq_none (by omega)]
  subst hm
  have hk : mkL 16 8 16 (0 : Int) = some (List.replicate 16 0) := mkL_ok (l := 16) (y := 8) (by omega) (by omega)
  unfold p_spec_l02Join p_impl_vecJoin
  rw [h5, hk]
  simp only [Option.bind_some]
  rw [h8]
  exact ⟨_, rfl, rfl, h6⟩

theorem q_SetJoin (x y : TMulti) : ∃ r, p_spec_SetJoin x y = some r ∧ p_impl_SetJoin x y = some r ∧ r.a.seen.counts.length ≤ 16 ∧ r.a.entries.length ≤ 512 := by
  unfold p_spec_SetJoin p_impl_SetJoin p_spec_MultiJoin
  rw [q_stateOK, q_stateOK]
  obtain ⟨b, h1, h2⟩ := q_EntOK x.seen x.entries
  obtain ⟨c, h3, h4⟩ := q_EntOK y.seen y.entries
  simp only [h1, h3, Option.bind_some]
  cases b with
  | false => exact ⟨_, rfl, rfl, by simp, by simp⟩
  | true =>
    cases c with
    | false => exact ⟨_, rfl, rfl, by simp, by simp⟩
    | true =>
      obtain ⟨r, i, j, e1, e2, e3⟩ := q_join (h2 rfl) (h4 rfl)
      obtain ⟨v, e4, e5, e6⟩ := q_vecJoin x.seen y.seen (h2 rfl).counts (h4 rfl).counts
      unfold p_impl_joinStates
      simp only [e1, e2, Option.bind_some, if_true]
      by_cases hl : 256 < (r.length : Int)
      · simp only [hl, decide_true, if_true, Option.bind_some]; exact ⟨_, rfl, rfl, by simp, by simp⟩
      · simp only [hl, decide_false, Bool.false_eq_true, if_false, e4, e5, Option.bind_some]
        exact ⟨_, rfl, rfl, by simp only; omega, e3⟩

theorem q_szSet (x : TMulti) (n : Int) (hx : okTMulti x) : ∃ m, p_laws_szSet x n = some m := by
  have h2 := hx.2.1
  rw [reach_eq] at h2
  unfold p_laws_szSet
  obtain ⟨m, h⟩ := q_szVector x.seen n
  obtain ⟨k, h2⟩ := q_szEntryS x.entries m (by omega)
  rw [h, Option.bind_some, h2]
  simp only [Option.bind_some]
  repeat' split
  all_goals exact ⟨_, rfl⟩
theorem q_toSet (x : TMulti) (hx : okTMulti x) : p_laws_toSet x = some x := by
  unfold p_laws_toSet
  rw [q_toVector _ hx.1, q_toEntryS _ hx.2.1]; rfl
theorem q_eqSet (x : TMulti) (h1 : x.seen.counts.length * 8 ≤ reachBytes) (h2 : x.entries.length * 32 ≤ reachBytes) : p_laws_eqSet x x = some true := by
  unfold p_laws_eqSet
  rw [reach_eq] at h2
  rw [q_eqVec _ h1, q_eqEntryS _ (by omega)]; rfl
theorem q_markSet (x : TMulti) (n : Int) (h0 : 0 ≤ n) (hn : n + x.seen.counts.length + 3 * x.entries.length < 4611686018427380000) : ∃ y, p_laws_markSet x n = some ⟨n + x.seen.counts.length + 3 * x.entries.length, y⟩ ∧ p_laws_heldSet y n = some (n + x.seen.counts.length + 3 * x.entries.length) := by
  obtain ⟨y, h1, h2⟩ := q_mark x.seen n h0 (by omega)
  obtain ⟨z, h3, h4, h5⟩ := q_markEntryS x.entries (n + x.seen.counts.length) (by omega) (by omega)
  refine ⟨⟨y, z⟩, ?_, ?_⟩
  · unfold p_laws_markSet
    rw [h1, Option.bind_some, h3]; rfl
  · unfold p_laws_heldSet
    rw [h2, Option.bind_some, if_neg (by simp; omega), q_heldEntryS z _ (by omega) (by rw [h4]; omega) (by rw [h4]; exact h5), Option.bind_some, h4, if_neg (by simp; omega)]

theorem plain_SetJoin (x y : TMulti) (hx : okTMulti x) (hy : okTMulti y) : p_laws_FnExactSetJoin x y = some true := by
  unfold p_laws_FnExactSetJoin
  obtain ⟨m, h1⟩ := q_szSet x 1048576 hx
  obtain ⟨k, h2⟩ := q_szSet y m hy
  obtain ⟨r, h3, h4, hr1, hr2⟩ := q_SetJoin x y
  have hx1 := hx.1.1
  have hx2 := hx.2.1
  have hy1 := hy.1.1
  have hy2 := hy.2.1
  have q1 := q_eqSet x hx1 hx2
  have q2 := q_eqSet y hy1 hy2
  have q3 := q_eqSet r.a (by rw [reach_eq]; omega) (by rw [reach_eq]; omega)
  rw [reach_eq] at hx1 hy1 hx2 hy2
  obtain ⟨x', h5, _⟩ := q_markSet x 1 (by omega) (by omega)
  obtain ⟨y', h6, _⟩ := q_markSet y (1 + x.seen.counts.length + 3 * x.entries.length) (by omega) (by omega)
  obtain ⟨g, h7, h8⟩ := q_markSet r.a 1 (by omega) (by omega)
  have hn : ¬ (1 + (x.seen.counts.length : Int) + 3 * x.entries.length + y.seen.counts.length + 3 * y.entries.length < 0) := by omega
  have hn' : ¬ (1 + (r.a.seen.counts.length : Int) + 3 * r.a.entries.length < 0) := by omega
  simp only [h1, h2, h3, h4, h5, h6, h7, h8, q_toSet x hx, q_toSet y hy, q1, q2, q3, Option.bind_some, decide_true, if_true, decide_eq_true_eq, hn, hn', if_false]
  repeat' split
  all_goals rfl
end Go.AM
