/- The plain law of SetRemove. No condition. -/
import Derived.Test.YtjnkmdphjopboaaLabGSetRemoveb
import Derived.Test.YtjnkmdphjopboaaLabL3
set_option linter.unusedVariables false
set_option linter.unusedSimpArgs false
namespace Go.AM

theorem q_szIntS (x : List Int) (n : Int) : ∃ m, p_laws_szIntS x n = some m := by
  unfold p_laws_szIntS
  repeat' split
  all_goals exact ⟨_, rfl⟩
theorem q_szVector (x : TVec) (n : Int) : ∃ m, p_laws_szVector x n = some m := by
  unfold p_laws_szVector
  obtain ⟨m, h⟩ := q_szIntS x.counts n
  rw [h, Option.bind_some]
  repeat' split
  all_goals exact ⟨_, rfl⟩
theorem q_toIntS (x : List Int) (hx : x.length * 8 ≤ reachBytes) : p_laws_toIntS x = some x := by
  rw [reach_eq] at hx
  unfold p_laws_toIntS
  rw [show (8 : Int) = ((8 : Nat) : Int) from rfl, mkL_ok (by omega) (by omega), Option.bind_some]
  have e : p_laws_toIntS_l0 x = copyStep x some := rfl
  rw [e]
  obtain ⟨i, h⟩ := copy_loop (ρ := List Int) (x := x) (v := List.replicate x.length 0) (f := some) (fun _ _ => rfl) (by simp) (by omega)
  rw [h]; rfl
theorem q_toVector (x : TVec) (hx : okTVec x) : p_laws_toVector x = some x := by
  unfold p_laws_toVector
  rw [q_toIntS x.counts hx.1]; rfl
theorem q_eqIntS (x : List Int) (hx : x.length * 8 ≤ reachBytes) : p_laws_eqIntS x x = some true := by
  rw [reach_eq] at hx
  unfold p_laws_eqIntS
  rw [if_pos (by simp)]
  have e : p_laws_eqIntS_l0 x x = eqStep x x fun a b => some (decide (a = b)) := by
    funext s
    unfold p_laws_eqIntS_l0 eqStep
    simp only [Option.bind_some]
  rw [e]
  obtain ⟨i, h⟩ := eq_loop (x := x) (g := fun a b => some (decide (a = b))) (fun a _ => by simp) (by omega)
  rw [h]; rfl
theorem q_eqVector (x : TVec) (hx : okTVec x) : p_laws_eqVector x x = some true := by
  unfold p_laws_eqVector
  rw [q_eqIntS x.counts hx.1]; rfl

theorem q_specVecOK (x : TVec) : ∃ b, p_spec_VecOK x = some b ∧ (b = true → x.counts.length = 16) := by
  unfold p_spec_VecOK
  by_cases hl : decide ((x.counts.length : Int) = 16) = true
  · rw [if_t hl]
    have hl' : x.counts.length = 16 := by have := of_decide_eq_true hl; omega
    obtain ⟨e, h1, h2⟩ := loop_count (step := p_spec_VecOK_l0 x) 16 (fun i s => s = (i : Int)) (fun _ => True) (by
      rintro i _ hi rfl
      obtain ⟨a, ha, ha'⟩ := get_lt (xs := x.counts) (i := i) (by omega)
      have hd : decide ((i : Int) < 16) = true := by simp; omega
      simp only [p_spec_VecOK_l0]
      rw [if_t hd, ha, Option.bind_some, w64_succ (by omega)]
      repeat' split
      · exact .inr (.inr ⟨_, rfl, trivial⟩)
      · exact .inr (.inr ⟨_, rfl, trivial⟩)
      · exact .inl ⟨_, rfl, rfl⟩)
      (by
      rintro _ rfl
      left
      exact ⟨16, rfl, trivial⟩) (s := 0) rfl
    rw [h1, Option.bind_some]
    cases e with
    | out s => exact ⟨_, rfl, fun _ => hl'⟩
    | ret r => exact ⟨_, rfl, fun _ => hl'⟩
  · rw [if_neg hl]
    exact ⟨_, rfl, fun h => by cases h⟩
theorem q_implVecOK (x : TVec) : p_impl_VecOK x = p_spec_VecOK x := by
  unfold p_impl_VecOK p_spec_VecOK
  by_cases hl : decide ((x.counts.length : Int) = 16) = true
  · rw [if_t hl, if_t hl]
    have hl' : (x.counts.length : Int) = 16 := of_decide_eq_true hl
    have : p_impl_VecOK_l0 x = p_spec_VecOK_l0 x := by
      funext s
      unfold p_impl_VecOK_l0 p_spec_VecOK_l0
      rw [hl']
    rw [this]
  · rw [if_neg hl, if_neg hl]

theorem q_eqVec (x : TVec) (hx : x.counts.length * 8 ≤ reachBytes) : p_laws_eqVector x x = some true := by
  unfold p_laws_eqVector
  rw [q_eqIntS x.counts hx]; rfl
theorem q_markIntS (x : List Int) (n : Int) (h0 : 0 ≤ n) (hn : n + x.length < 9223372036854775807) : ∃ y, p_laws_markIntS x n = some ⟨n + x.length, y⟩ ∧ y.length = x.length ∧ ∀ j : Nat, j < x.length → y[j]? = some (n + j) := by
  unfold p_laws_markIntS
  obtain ⟨e, h1, y, i, rfl, h2, h3⟩ := loop_count (step := p_laws_markIntS_l0) x.length (fun i s => s.2.1 = n + (i : Int) ∧ s.2.2 = (i : Int) ∧ s.1.length = x.length ∧ ∀ j : Nat, j < i → s.1[j]? = some (n + j))
    (fun e => ∃ y i, e = .out (y, n + x.length, i) ∧ y.length = x.length ∧ ∀ j : Nat, j < x.length → y[j]? = some (n + j)) (by
      rintro i ⟨s0, s1, s2⟩ hi ⟨h1, h2, h3, h4⟩
      simp only at h1 h2 h3 h4
      subst h1 h2
      obtain ⟨a, ha, ha'⟩ := get_lt (xs := s0) (i := i) (by omega)
      have hd : decide ((i : Int) < (s0.length : Int)) = true := by simp; omega
      left
      refine ⟨(s0.set i (n + i), n + ((i + 1 : Nat) : Int), ((i + 1 : Nat) : Int)), ?_, rfl, rfl, by simpa using h3, ?_⟩
      · simp only [p_laws_markIntS_l0]
        rw [if_t hd, ha, Option.bind_some, w64_succ (by omega), w64_id (by omega) (by omega), Int.toNat_natCast, show n + (i : Int) + 1 = n + ((i + 1 : Nat) : Int) from by omega]
      · intro j hj
        simp only [List.getElem?_set]
        by_cases e : i = j
        · subst e
          rw [if_pos rfl, if_pos (by omega)]
        · rw [if_neg e]; exact h4 j (by omega))
    (by
      rintro ⟨s0, s1, s2⟩ ⟨h1, h2, h3, h4⟩
      simp only at h1 h2 h3 h4
      subst h1 h2
      have hd : decide ((x.length : Int) < (s0.length : Int)) = false := by simp; omega
      left
      refine ⟨(s0, n + (x.length : Int), (x.length : Int)), ?_, s0, x.length, rfl, h3, h4⟩
      simp only [p_laws_markIntS_l0]
      rw [if_f hd]) (s := (x, n, 0)) ⟨by simp, rfl, rfl, fun j hj => by omega⟩
  rw [h1]
  exact ⟨y, rfl, h2, h3⟩
theorem q_heldIntS (y : List Int) (n : Int) (h0 : 0 ≤ n) (hn : n + y.length < 9223372036854775807) (hy : ∀ j : Nat, j < y.length → y[j]? = some (n + j)) : p_laws_heldIntS y n = some (n + y.length) := by
  unfold p_laws_heldIntS
  obtain ⟨e, h1, i, rfl⟩ := loop_count (step := p_laws_heldIntS_l0 y) y.length (fun i s => s.1 = n + (i : Int) ∧ s.2 = (i : Int)) (fun e => ∃ i, e = .out (n + y.length, i)) (by
      rintro i ⟨s0, s1⟩ hi ⟨h1, h2⟩
      simp only at h1 h2
      subst h1 h2
      obtain ⟨a, ha, ha'⟩ := get_lt (xs := y) (i := i) hi
      rw [hy i hi] at ha'
      cases ha'
      have hd : decide ((i : Int) < (y.length : Int)) = true := by simp; omega
      left
      refine ⟨(n + ((i + 1 : Nat) : Int), ((i + 1 : Nat) : Int)), ?_, rfl, rfl⟩
      simp only [p_laws_heldIntS_l0]
      rw [if_t hd, ha, Option.bind_some, if_pos (by simp), w64_succ (by omega), w64_id (by omega) (by omega), show n + (i : Int) + 1 = n + ((i + 1 : Nat) : Int) from by omega])
    (by
      rintro ⟨s0, s1⟩ ⟨h1, h2⟩
      simp only at h1 h2
      subst h1 h2
      have hd : decide ((y.length : Int) < (y.length : Int)) = false := by simp
      left
      refine ⟨(n + (y.length : Int), (y.length : Int)), ?_, y.length, rfl⟩
      simp only [p_laws_heldIntS_l0]
      rw [if_f hd]) (s := (n, 0)) ⟨by simp, rfl⟩
  rw [h1]; rfl
theorem q_mark (x : TVec) (n : Int) (h0 : 0 ≤ n) (hn : n + x.counts.length < 9223372036854775807) : ∃ y, p_laws_markVector x n = some ⟨n + x.counts.length, y⟩ ∧ p_laws_heldVector y n = some (n + x.counts.length) := by
  obtain ⟨y, h1, h2, h3⟩ := q_markIntS x.counts n h0 hn
  refine ⟨⟨y⟩, ?_, ?_⟩
  · unfold p_laws_markVector
    rw [h1]; rfl
  · unfold p_laws_heldVector
    rw [q_heldIntS y n h0 (by rw [h2]; exact hn) (by rw [h2]; exact h3), Option.bind_some, h2, if_neg (by simp; omega)]

theorem q_markText (n : Int) (hn : n < 4611686018427387904) : ∃ s, p_laws_markText n = some s := by
  unfold p_laws_markText
  by_cases h0 : n ≤ 0
  · rw [if_pos (decide_eq_true h0)]; exact ⟨_, rfl⟩
  · rw [if_neg (by simpa using h0)]
    obtain ⟨e, h1, m, s, rfl, hs⟩ := loopP_inv (step := p_laws_markText_l0) (fun s => 0 ≤ s.1 ∧ s.1 + s.2.size ≤ n) (fun s => s.1.toNat) (fun e => ∃ m s, e = .out (m, s) ∧ (s.size : Int) ≤ n) (by
      rintro ⟨s1, s2⟩ ⟨h2, h3⟩
      simp only at h2 h3
      simp only [p_laws_markText_l0]
      by_cases hd : 0 < s1
      · rw [if_pos (decide_eq_true hd)]
        have hz : ∀ k : Int, (strOfNums [k]).size = 1 := fun k => rfl
        have hc : ∀ k : Int, cat? (strOfNums [k]) s2 = some (strOfNums [k] ++ s2) := by
          intro k
          unfold cat?
          rw [if_pos (by rw [hz]; omega)]
        rw [hc, Option.bind_some]
        refine ⟨_, rfl, ?_⟩
        have hq : s1.tdiv 10 = s1 / 10 := Int.tdiv_eq_ediv_of_nonneg h2
        have hw : w64 (s1.tdiv 10) = s1 / 10 := by rw [hq]; exact w64_id (by omega) (by omega)
        simp only [hw, ByteArray.size_append, hz]
        refine ⟨⟨by omega, by omega⟩, by omega⟩
      · rw [if_neg (by simpa using hd)]
        exact ⟨_, rfl, _, _, rfl, by omega⟩) (s := (n, ByteArray.mk #[])) ⟨by simp only; omega, by simp only; show n + ((0 : Nat) : Int) ≤ n; omega⟩
    rw [h1, Option.bind_some]
    have : cat? (ByteArray.mk #[109]) s = some (ByteArray.mk #[109] ++ s) := by
      unfold cat?
      rw [if_pos (by show ((1 + s.size : Nat) : Int) ≤ _; omega)]
    simp only [this, Option.bind_some]
    exact ⟨_, rfl⟩
noncomputable def mt (n : Int) : ByteArray := (p_laws_markText n).getD (ByteArray.mk #[])
theorem mt_eq {n : Int} (hn : n < 4611686018427387904) : p_laws_markText n = some (mt n) := by
  obtain ⟨s, hs⟩ := q_markText n hn
  unfold mt
  rw [hs]; rfl

theorem q_StampOK (x : TStamp) : p_spec_StampOK x = some (decide (1 ≤ x.time ∧ x.time ≤ 1000000000000 ∧ 0 ≤ x.actor ∧ x.actor < 16)) := by
  unfold p_spec_StampOK
  simp only [decide_eq_true_eq]
  repeat' split
  all_goals (simp only [Option.some.injEq]; symm; first | (rw [decide_eq_false_iff_not]; omega) | (apply decide_eq_decide.2; omega))
theorem q_implStampOK (x : TStamp) : p_impl_StampOK x = p_spec_StampOK x := by
  rw [q_StampOK]
  unfold p_impl_StampOK p_impl_isActor
  simp only [decide_eq_true_eq]
  repeat' split
  all_goals simp only [Option.bind_some, Option.some.injEq]
  all_goals (symm; first | (rw [decide_eq_false_iff_not]; omega) | (apply decide_eq_decide.2; omega))
theorem q_StampLess (x y : TStamp) : p_spec_StampLess x y = some (decide (x.time < y.time ∨ (x.time = y.time ∧ x.actor < y.actor))) := by
  unfold p_spec_StampLess
  simp only [decide_eq_true_eq]
  repeat' split
  all_goals (simp only [Option.some.injEq]; symm; first | (rw [decide_eq_false_iff_not]; omega) | (rw [decide_eq_true_eq]; omega) | (apply decide_eq_decide.2; omega))
theorem q_implStampLess (x y : TStamp) : p_impl_StampLess x y = p_spec_StampLess x y := by
  rw [q_StampLess]
  unfold p_impl_StampLess
  simp only [decide_eq_true_eq]
  repeat' split
  all_goals (simp only [Option.some.injEq]; symm; first | (rw [decide_eq_false_iff_not]; omega) | (rw [decide_eq_true_eq]; omega) | (apply decide_eq_decide.2; omega))

def lessS (x y : TStamp) : Prop := x.time < y.time ∨ (x.time = y.time ∧ x.actor < y.actor)
/-- Entries by rising stamps that were seen. -/
structure EntOK (s : TVec) (l : List TEntry) : Prop where
  counts : s.counts.length = 16
  len : l.length ≤ 256
  ent : ∀ (i : Nat) (e : TEntry), l[i]? = some e → 1 ≤ e.stamp.time ∧ e.stamp.time ≤ 1000000000000 ∧ 0 ≤ e.stamp.actor ∧ e.stamp.actor < 16 ∧ e.text.size ≤ 200 ∧ ∀ c, s.counts[e.stamp.actor.toNat]? = some c → e.stamp.time ≤ c
  rise : ∀ (i : Nat) (e f : TEntry), l[i]? = some e → l[i + 1]? = some f → lessS e.stamp f.stamp
theorem q_stateLoop (s : TVec) (l : List TEntry) : p_impl_stateOK_l0 s l = p_spec_l03EntriesOK_l0 s l := by
  funext i
  unfold p_impl_stateOK_l0 p_spec_l03EntriesOK_l0
  simp only [q_implStampOK, q_implStampLess]
theorem q_stateOK (s : TVec) (l : List TEntry) : p_impl_stateOK s l = p_spec_l03EntriesOK s l := by
  unfold p_impl_stateOK p_spec_l03EntriesOK
  simp only [q_implVecOK, q_stateLoop]
theorem q_EntOK (s : TVec) (l : List TEntry) : ∃ b, p_spec_l03EntriesOK s l = some b ∧ (b = true → EntOK s l) := by
  unfold p_spec_l03EntriesOK
  obtain ⟨v, hv, hv2⟩ := q_specVecOK s
  rw [hv, Option.bind_some]
  cases v with
  | false => exact ⟨false, rfl, fun h => by cases h⟩
  | true =>
    have h16 := hv2 rfl
    rw [if_pos rfl]
    by_cases hl : (256 : Int) < (l.length : Int)
    · rw [if_pos (decide_eq_true hl)]; exact ⟨_, rfl, fun h => by cases h⟩
    · rw [if_neg (by simpa using hl)]
      have hgood := all_loop (step := p_spec_l03EntriesOK_l0 s l) l.length (fun i => ∀ e, l[i]? = some e → (1 ≤ e.stamp.time ∧ e.stamp.time ≤ 1000000000000 ∧ 0 ≤ e.stamp.actor ∧ e.stamp.actor < 16 ∧ e.text.size ≤ 200 ∧ ∀ c, s.counts[e.stamp.actor.toNat]? = some c → e.stamp.time ≤ c) ∧ ∀ k f, i = k + 1 → l[k]? = some f → lessS f.stamp e.stamp) (by
        intro i hi
        obtain ⟨a, ha, ha'⟩ := get_lt (xs := l) hi
        have hd : decide ((i : Int) < (l.length : Int)) = true := by simpa using hi
        simp only [p_spec_l03EntriesOK_l0]
        rw [if_t hd, ha, Option.bind_some, q_StampOK, Option.bind_some, w64_succ (by omega)]
        by_cases h1 : 1 ≤ a.stamp.time ∧ a.stamp.time ≤ 1000000000000 ∧ 0 ≤ a.stamp.actor ∧ a.stamp.actor < 16
        case neg =>
          rw [if_neg (by simpa using h1)]
          refine .inr ⟨fun hg => h1 ?_, rfl⟩
          have := (hg a ha').1
          exact ⟨this.1, this.2.1, this.2.2.1, this.2.2.2.1⟩
        rw [if_pos (by simpa using h1)]
        by_cases h2 : 200 < (a.text.size : Int)
        · rw [if_pos (decide_eq_true h2)]
          refine .inr ⟨fun hg => ?_, rfl⟩
          have := (hg a ha').1.2.2.2.2.1
          omega
        rw [if_neg (by simpa using h2)]
        obtain ⟨k, hk⟩ : ∃ k : Nat, a.stamp.actor = (k : Int) := ⟨a.stamp.actor.toNat, by omega⟩
        obtain ⟨c, hc, hc'⟩ := get_lt (xs := s.counts) (i := k) (by omega)
        rw [hk, hc, Option.bind_some]
        by_cases h3 : c < a.stamp.time
        · rw [if_pos (decide_eq_true h3)]
          refine .inr ⟨fun hg => ?_, rfl⟩
          have := (hg a ha').1.2.2.2.2.2 c (by rw [hk]; simpa using hc')
          omega
        rw [if_neg (by simpa using h3)]
        have hfirst : 1 ≤ a.stamp.time ∧ a.stamp.time ≤ 1000000000000 ∧ 0 ≤ a.stamp.actor ∧ a.stamp.actor < 16 ∧ a.text.size ≤ 200 ∧ ∀ c, s.counts[a.stamp.actor.toNat]? = some c → a.stamp.time ≤ c := by
          refine ⟨h1.1, h1.2.1, h1.2.2.1, h1.2.2.2, by omega, ?_⟩
          intro c' hc2
          rw [hk, Int.toNat_natCast, hc'] at hc2
          cases hc2
          omega
        by_cases h4 : 0 < (i : Int)
        · rw [if_pos (decide_eq_true h4), w64_pred (by omega) (by omega)]
          obtain ⟨f, hf, hf'⟩ := get_lt (xs := l) (i := i - 1) (by omega)
          rw [hf, Option.bind_some, q_StampLess, Option.bind_some]
          by_cases h5 : f.stamp.time < a.stamp.time ∨ (f.stamp.time = a.stamp.time ∧ f.stamp.actor < a.stamp.actor)
          · rw [if_pos (decide_eq_true h5)]
            refine .inl ⟨fun e he => ?_, rfl⟩
            rw [ha'] at he
            cases he
            refine ⟨hfirst, fun k f' hk' hf2 => ?_⟩
            rw [show k = i - 1 from by omega, hf'] at hf2
            cases hf2
            exact h5
          · rw [if_neg (by simpa using h5)]
            refine .inr ⟨fun hg => h5 ?_, rfl⟩
            exact (hg a ha').2 (i - 1) f (by omega) hf'
        · rw [if_neg (by simpa using h4)]
          refine .inl ⟨fun e he => ?_, rfl⟩
          rw [ha'] at he
          cases he
          exact ⟨hfirst, fun k f' hk' hf2 => by omega⟩) (by
        have hd : decide ((l.length : Int) < (l.length : Int)) = false := by simp
        simp only [p_spec_l03EntriesOK_l0]
        rw [if_f hd])
      rcases hgood with ⟨h1, h2⟩ | ⟨h1, h2⟩
      · rw [h1]
        refine ⟨true, rfl, fun _ => ⟨h16, by omega, fun i e he => ?_, fun i e f he hf => ?_⟩⟩
        · exact (h2 i (List.getElem?_eq_some_iff.1 he).1 e he).1
        · exact (h2 (i + 1) (List.getElem?_eq_some_iff.1 hf).1 f hf).2 i e rfl he
      · rw [h1]
        exact ⟨false, rfl, fun h => by cases h⟩

theorem q_szEntry (x : TEntry) (n : Int) : ∃ m, p_laws_szEntry x n = some m := by
  unfold p_laws_szEntry
  repeat' split
  all_goals exact ⟨_, rfl⟩
theorem q_szEntryS (x : List TEntry) (n : Int) (hx : x.length < 9223372036854775807) : ∃ m, p_laws_szEntryS x n = some m := by
  unfold p_laws_szEntryS
  split
  · exact ⟨_, rfl⟩
  · obtain ⟨e, h1, _⟩ := loop_count (step := p_laws_szEntryS_l0 x) x.length (fun i s => s.2 = (i : Int)) (fun _ => True) (by
      rintro i ⟨s1, s2⟩ hi h
      simp only at h
      subst h
      obtain ⟨a, ha, ha'⟩ := get_lt (xs := x) hi
      obtain ⟨m, hm⟩ := q_szEntry a s1
      have hd : decide ((i : Int) < (x.length : Int)) = true := by simpa using hi
      simp only [p_laws_szEntryS_l0]
      rw [if_t hd, ha, Option.bind_some, hm, Option.bind_some, w64_succ (by omega)]
      split
      · exact .inr (.inr ⟨_, rfl, trivial⟩)
      · exact .inl ⟨_, rfl, rfl⟩)
      (by
      rintro ⟨s1, s2⟩ h
      simp only at h
      subst h
      have hd : decide ((x.length : Int) < (x.length : Int)) = false := by simp
      simp only [p_laws_szEntryS_l0]
      rw [if_f hd]
      exact .inl ⟨_, rfl, trivial⟩) (s := (w64 (n - (x.length : Int)), 0)) rfl
    rw [h1, Option.bind_some]
    cases e with
    | out s => exact ⟨_, rfl⟩
    | ret r => exact ⟨_, rfl⟩
theorem q_toEntryS (x : List TEntry) (hx : x.length * 32 ≤ reachBytes) : p_laws_toEntryS x = some x := by
  rw [reach_eq] at hx
  unfold p_laws_toEntryS
  rw [show (32 : Int) = ((32 : Nat) : Int) from rfl, mkL_ok (by omega) (by omega), Option.bind_some]
  have e : p_laws_toEntryS_l0 x = copyStep x some := by
    funext s
    unfold p_laws_toEntryS_l0 copyStep p_laws_toEntry p_laws_toStamp
    rfl
  rw [e]
  obtain ⟨i, h⟩ := copy_loop (ρ := List TEntry) (x := x) (v := List.replicate x.length (TEntry.mk (TStamp.mk 0 0) (ByteArray.mk #[]))) (f := some) (fun _ _ => rfl) (by simp) (by omega)
  rw [h]; rfl
theorem q_eqEntry (x : TEntry) : p_laws_eqEntry x x = some true := by
  unfold p_laws_eqEntry p_laws_eqStamp
  simp
theorem q_eqEntryS (x : List TEntry) (hx : x.length < 9223372036854775807) : p_laws_eqEntryS x x = some true := by
  unfold p_laws_eqEntryS
  rw [if_pos (by simp)]
  have e : p_laws_eqEntryS_l0 x x = eqStep x x p_laws_eqEntry := rfl
  rw [e]
  obtain ⟨i, h⟩ := eq_loop (x := x) (g := p_laws_eqEntry) (fun a _ => q_eqEntry a) hx
  rw [h]; rfl
noncomputable def mEntry (k : Int) : TEntry := ⟨⟨k, k + 1⟩, mt (k + 2)⟩
theorem q_markEntryS (x : List TEntry) (n : Int) (h0 : 0 ≤ n) (hn : n + 3 * x.length < 4611686018427380000) : ∃ y, p_laws_markEntryS x n = some ⟨n + 3 * x.length, y⟩ ∧ y.length = x.length ∧ ∀ j : Nat, j < x.length → y[j]? = some (mEntry (n + 3 * j)) := by
  unfold p_laws_markEntryS
  obtain ⟨e, h1, y, i, rfl, h2, h3⟩ := loop_count (step := p_laws_markEntryS_l0) x.length (fun i s => s.2.1 = n + 3 * (i : Int) ∧ s.2.2 = (i : Int) ∧ s.1.length = x.length ∧ ∀ j : Nat, j < i → s.1[j]? = some (mEntry (n + 3 * j)))
    (fun e => ∃ y i, e = .out (y, n + 3 * x.length, i) ∧ y.length = x.length ∧ ∀ j : Nat, j < x.length → y[j]? = some (mEntry (n + 3 * j))) (by
      rintro i ⟨s0, s1, s2⟩ hi ⟨h1, h2, h3, h4⟩
      simp only at h1 h2 h3 h4
      subst h1 h2
      obtain ⟨a, ha, ha'⟩ := get_lt (xs := s0) (i := i) (by omega)
      have hd : decide ((i : Int) < (s0.length : Int)) = true := by simp; omega
      have hset : ∀ (l : List TEntry) (b : TEntry), l.length = x.length → get? (l.set i b) (i : Int) = some b := by
        intro l b hl
        rw [get_nat, List.getElem?_set_self (by omega)]
      left
      refine ⟨(s0.set i (mEntry (n + 3 * i)), n + 3 * ((i + 1 : Nat) : Int), ((i + 1 : Nat) : Int)), ?_, rfl, rfl, by simpa using h3, ?_⟩
      · 
        have e1 : w64 (n + 3 * (i : Int) + 1) = n + 3 * (i : Int) + 1 := by rw [w64_id (by omega) (by omega)]
        have e2 : w64 (n + 3 * (i : Int) + 1 + 1) = n + 3 * (i : Int) + 2 := by rw [w64_id (by omega) (by omega)]; omega
        have e3 : w64 (n + 3 * (i : Int) + 2 + 1) = n + 3 * ((i + 1 : Nat) : Int) := by rw [w64_id (by omega) (by omega)]; omega
        have t2 : p_laws_markText (n + 3 * (i : Int) + 2) = some (mt (n + 3 * (i : Int) + 2)) := mt_eq (by omega)
        have e0 := w64_succ (show i < 9223372036854775807 by omega)
        have es := fun b => hset s0 b h3
        simp only [p_laws_markEntryS_l0, Int.toNat_natCast, e1, e2, e3, e0, hd, if_true, ha, Option.bind_some, t2, es, List.set_set]
        rfl
      · intro j hj
        simp only [List.getElem?_set]
        by_cases e : i = j
        · subst e
          rw [if_pos rfl, if_pos (by omega)]
        · rw [if_neg e]; exact h4 j (by omega))
    (by
      rintro ⟨s0, s1, s2⟩ ⟨h1, h2, h3, h4⟩
      simp only at h1 h2 h3 h4
      subst h1 h2
      have hd : decide ((x.length : Int) < (s0.length : Int)) = false := by simp; omega
      left
      refine ⟨(s0, n + 3 * (x.length : Int), (x.length : Int)), ?_, s0, x.length, rfl, h3, h4⟩
      simp only [p_laws_markEntryS_l0]
      rw [if_f hd]) (s := (x, n, 0)) ⟨by simp, rfl, rfl, fun j hj => by omega⟩
  rw [h1]
  exact ⟨y, rfl, h2, h3⟩
theorem q_heldEntryS (y : List TEntry) (n : Int) (h0 : 0 ≤ n) (hn : n + 3 * y.length < 4611686018427380000) (hy : ∀ j : Nat, j < y.length → y[j]? = some (mEntry (n + 3 * j))) : p_laws_heldEntryS y n = some (n + 3 * y.length) := by
  unfold p_laws_heldEntryS
  obtain ⟨e, h1, i, rfl⟩ := loop_count (step := p_laws_heldEntryS_l0 y) y.length (fun i s => s.1 = n + 3 * (i : Int) ∧ s.2 = (i : Int)) (fun e => ∃ i, e = .out (n + 3 * y.length, i)) (by
      rintro i ⟨s0, s1⟩ hi ⟨h1, h2⟩
      simp only at h1 h2
      subst h1 h2
      obtain ⟨a, ha, ha'⟩ := get_lt (xs := y) (i := i) hi
      rw [hy i hi] at ha'
      cases ha'
      have hd : decide ((i : Int) < (y.length : Int)) = true := by simp; omega
      left
      refine ⟨(n + 3 * ((i + 1 : Nat) : Int), ((i + 1 : Nat) : Int)), ?_, rfl, rfl⟩
      have e1 : w64 (n + 3 * (i : Int) + 1) = n + 3 * (i : Int) + 1 := by rw [w64_id (by omega) (by omega)]
      have e2 : w64 (n + 3 * (i : Int) + 1 + 1) = n + 3 * (i : Int) + 2 := by rw [w64_id (by omega) (by omega)]; omega
      have e3 : w64 (n + 3 * (i : Int) + 2 + 1) = n + 3 * ((i + 1 : Nat) : Int) := by rw [w64_id (by omega) (by omega)]; omega
      have t2 : p_laws_markText (n + 3 * (i : Int) + 2) = some (mt (n + 3 * (i : Int) + 2)) := mt_eq (by omega)
      have e0 := w64_succ (show i < 9223372036854775807 by omega)
      simp only [p_laws_heldEntryS_l0, e1, e2, e3, e0, hd, if_true, ha, Option.bind_some, mEntry, decide_true, t2, beq_self_eq_true, Bool.not_true, Bool.not_false, Bool.xor_false, Bool.true_xor])
    (by
      rintro ⟨s0, s1⟩ ⟨h1, h2⟩
      simp only at h1 h2
      subst h1 h2
      have hd : decide ((y.length : Int) < (y.length : Int)) = false := by simp
      left
      refine ⟨(n + 3 * (y.length : Int), (y.length : Int)), ?_, y.length, rfl⟩
      simp only [p_laws_heldEntryS_l0]
      rw [if_f hd]) (s := (n, 0)) ⟨by simp, rfl⟩
  rw [h1]; rfl

theorem q_szSet (x : TMulti) (n : Int) (hx : okTMulti x) : ∃ m, p_laws_szSet x n = some m := by
  have h2 := hx.2.1
  rw [reach_eq] at h2
  unfold p_laws_szSet
  obtain ⟨m, h⟩ := q_szVector x.seen n
  obtain ⟨k, h2⟩ := q_szEntryS x.entries m (by omega)
  rw [h, Option.bind_some, h2]
  simp only [Option.bind_some]
  repeat' split
  all_goals exact ⟨_, rfl⟩
theorem q_toSet (x : TMulti) (hx : okTMulti x) : p_laws_toSet x = some x := by
  unfold p_laws_toSet
  rw [q_toVector _ hx.1, q_toEntryS _ hx.2.1]; rfl
theorem q_eqSet (x : TMulti) (h1 : x.seen.counts.length * 8 ≤ reachBytes) (h2 : x.entries.length * 32 ≤ reachBytes) : p_laws_eqSet x x = some true := by
  unfold p_laws_eqSet
  rw [reach_eq] at h2
  rw [q_eqVec _ h1, q_eqEntryS _ (by omega)]; rfl
theorem q_markSet (x : TMulti) (n : Int) (h0 : 0 ≤ n) (hn : n + x.seen.counts.length + 3 * x.entries.length < 4611686018427380000) : ∃ y, p_laws_markSet x n = some ⟨n + x.seen.counts.length + 3 * x.entries.length, y⟩ ∧ p_laws_heldSet y n = some (n + x.seen.counts.length + 3 * x.entries.length) := by
  obtain ⟨y, h1, h2⟩ := q_mark x.seen n h0 (by omega)
  obtain ⟨z, h3, h4, h5⟩ := q_markEntryS x.entries (n + x.seen.counts.length) (by omega) (by omega)
  refine ⟨⟨y, z⟩, ?_, ?_⟩
  · unfold p_laws_markSet
    rw [h1, Option.bind_some, h3]; rfl
  · unfold p_laws_heldSet
    rw [h2, Option.bind_some, if_neg (by simp; omega), q_heldEntryS z _ (by omega) (by rw [h4]; omega) (by rw [h4]; exact h5), Option.bind_some, h4, if_neg (by simp; omega)]

theorem q_without (l : List TEntry) (t : ByteArray) (hl : l.length ≤ 256) : ∃ r, p_spec_l03Without l t = some r ∧ r.length ≤ 256 := by
  unfold p_spec_l03Without
  obtain ⟨e, h1, r, i, rfl, h2⟩ := loop_count (step := p_spec_l03Without_l0 l t) l.length (fun i s => s.2 = (i : Int) ∧ s.1.length ≤ i) (fun e => ∃ r i, e = .out (r, i) ∧ r.length ≤ 256) (by
    rintro i ⟨s0, s1⟩ hi ⟨h1, h2⟩
    simp only at h1 h2
    subst h1
    obtain ⟨a, ha, ha'⟩ := get_lt (xs := l) hi
    have hd : decide ((i : Int) < (l.length : Int)) = true := by simpa using hi
    simp only [p_spec_l03Without_l0]
    rw [if_t hd, ha, Option.bind_some, w64_succ (by omega)]
    left
    split
    · exact ⟨_, rfl, rfl, by simp only; omega⟩
    · rw [app_one (by omega), Option.bind_some]
      exact ⟨_, rfl, rfl, by simp only [List.length_append, List.length_cons, List.length_nil]; omega⟩)
    (by
    rintro ⟨s0, s1⟩ ⟨h1, h2⟩
    simp only at h1 h2
    subst h1
    have hd : decide ((l.length : Int) < (l.length : Int)) = false := by simp
    simp only [p_spec_l03Without_l0]
    rw [if_f hd]
    exact .inl ⟨_, rfl, _, _, rfl, by omega⟩) (s := ([], 0)) ⟨rfl, by simp⟩
  rw [h1]
  exact ⟨r, rfl, h2⟩
theorem q_SetRemove (x : TMulti) (t : ByteArray) (ht : ¬ 1048576 < (t.size : Int)) : ∃ r, p_spec_SetRemove x t = some r ∧ p_impl_SetRemove x t = some r ∧ r.a.seen.counts.length ≤ 16 ∧ r.a.entries.length ≤ 256 := by
  unfold p_spec_SetRemove p_impl_SetRemove
  simp only [ht, decide_false, Bool.false_eq_true, if_false, q_stateOK]
  obtain ⟨b, h1, h2⟩ := q_EntOK x.seen x.entries
  rw [h1]
  simp only [Option.bind_some]
  cases b with
  | false => exact ⟨_, rfl, rfl, by simp, by simp⟩
  | true =>
    have ho := h2 rfl
    simp only [if_true]
    by_cases h3 : 200 < (t.size : Int)
    · simp only [h3, decide_true, if_true]; exact ⟨_, rfl, rfl, by simp, by simp⟩
    · simp only [h3, decide_false, Bool.false_eq_true, if_false]
      obtain ⟨r, h4, h5⟩ := q_without x.entries t ho.len
      have h6 : p_impl_without x.entries t = p_spec_l03Without x.entries t := rfl
      have h7 : p_impl_vecCopy x.seen = some x.seen := by
        unfold p_impl_vecCopy
        rw [app_list (by simp [ho.counts])]
        rfl
      have h8 : p_spec_l02Copy x.seen = some x.seen := h7
      rw [h6, h7, h8]
      simp only [h4, Option.bind_some]
      exact ⟨_, rfl, rfl, by simp only; rw [ho.counts]; omega, h5⟩
theorem plain_SetRemove (x : TMulti) (t : ByteArray) (hx : okTMulti x) (ht : t.size ≤ reachBytes) : p_laws_FnExactSetRemove x t = some true := by
  unfold p_laws_FnExactSetRemove
  by_cases h0 : 1048576 < (t.size : Int)
  · simp only [h0, decide_true, if_true]
  simp only [h0, decide_false, Bool.false_eq_true, if_false]
  obtain ⟨m, h1⟩ := q_szSet x 1048576 hx
  obtain ⟨r, h3, h4, hr1, hr2⟩ := q_SetRemove x t h0
  have hx1 := hx.1.1
  have hx2 := hx.2.1
  have q1 := q_eqSet x hx1 hx2
  have q3 := q_eqSet r.a (by rw [reach_eq]; omega) (by rw [reach_eq]; omega)
  rw [reach_eq] at hx1 hx2
  obtain ⟨x', h5, _⟩ := q_markSet x 1 (by omega) (by omega)
  obtain ⟨g, h7, h8⟩ := q_markSet r.a 1 (by omega) (by omega)
  have hn : ¬ (1 + (x.seen.counts.length : Int) + 3 * x.entries.length < 0) := by omega
  have hn' : ¬ (1 + (r.a.seen.counts.length : Int) + 3 * r.a.entries.length < 0) := by omega
  simp only [h1, h3, h4, h5, h7, h8, q_toSet x hx, q1, q3, Option.bind_some, decide_true, if_true, decide_eq_true_eq, hn, hn', if_false]
  repeat' split
  all_goals rfl
end Go.AM
