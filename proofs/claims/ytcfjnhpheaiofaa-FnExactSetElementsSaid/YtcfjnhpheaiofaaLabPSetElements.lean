/- The plain law of SetElements. No condition. -/
import Derived.Test.YtcfjnhpheaiofaaLabGSetElementsb
import Derived.Test.YtcfjnhpheaiofaaLabL3
set_option linter.unusedVariables false
set_option linter.unusedSimpArgs false
namespace Go.AM

theorem q_szIntS (x : List Int) (n : Int) : ∃ m, p_laws_szIntS x n = some m := by
  unfold p_laws_szIntS
  repeat' split
  all_goals exact ⟨_, rfl⟩
theorem q_szVector (x : TVec) (n : Int) : ∃ m, p_laws_szVector x n = some m := by
  unfold p_laws_szVector
  obtain ⟨m, h⟩ := q_szIntS x.counts n
  rw [h, Option.bind_some]
  repeat' split
  all_goals exact ⟨_, rfl⟩
theorem q_toIntS (x : List Int) (hx : x.length * 8 ≤ reachBytes) : p_laws_toIntS x = some x := by
  rw [reach_eq] at hx
  unfold p_laws_toIntS
  rw [show (8 : Int) = ((8 : Nat) : Int) from rfl, mkL_ok (by omega) (by omega), Option.bind_some]
  have e : p_laws_toIntS_l0 x = copyStep x some := rfl
  rw [e]
  obtain ⟨i, h⟩ := copy_loop (ρ := List Int) (x := x) (v := List.replicate x.length 0) (f := some) (fun _ _ => rfl) (by simp) (by omega)
  rw [h]; rfl
theorem q_toVector (x : TVec) (hx : okTVec x) : p_laws_toVector x = some x := by
  unfold p_laws_toVector
  rw [q_toIntS x.counts hx.1]; rfl
theorem q_eqIntS (x : List Int) (hx : x.length * 8 ≤ reachBytes) : p_laws_eqIntS x x = some true := by
  rw [reach_eq] at hx
  unfold p_laws_eqIntS
  rw [if_pos (by simp)]
  have e : p_laws_eqIntS_l0 x x = eqStep x x fun a b => some (decide (a = b)) := by
    funext s
    unfold p_laws_eqIntS_l0 eqStep
    simp only [Option.bind_some]
  rw [e]
  obtain ⟨i, h⟩ := eq_loop (x := x) (g := fun a b => some (decide (a = b))) (fun a _ => by simp) (by omega)
  rw [h]; rfl
theorem q_eqVector (x : TVec) (hx : okTVec x) : p_laws_eqVector x x = some true := by
  unfold p_laws_eqVector
  rw [q_eqIntS x.counts hx.1]; rfl

theorem q_specVecOK (x : TVec) : ∃ b, p_spec_VecOK x = some b ∧ (b = true → x.counts.length = 16) := by
  unfold p_spec_VecOK
  by_cases hl : decide ((x.counts.length : Int) = 16) = true
  · rw [if_t hl]
    have hl' : x.counts.length = 16 := by have := of_decide_eq_true hl; omega
    obtain ⟨e, h1, h2⟩ := loop_count (step := p_spec_VecOK_l0 x) 16 (fun i s => s = (i : Int)) (fun _ => True) (by
      rintro i _ hi rfl
      obtain ⟨a, ha, ha'⟩ := get_lt (xs := x.counts) (i := i) (by omega)
      have hd : decide ((i : Int) < 16) = true := by simp; omega
      simp only [p_spec_VecOK_l0]
      rw [if_t hd, ha, Option.bind_some, w64_succ (by omega)]
      repeat' split
      · exact .inr (.inr ⟨_, rfl, trivial⟩)
      · exact .inr (.inr ⟨_, rfl, trivial⟩)
      · exact .inl ⟨_, rfl, rfl⟩)
      (by
      rintro _ rfl
      left
      exact ⟨16, rfl, trivial⟩) (s := 0) rfl
    rw [h1, Option.bind_some]
    cases e with
    | out s => exact ⟨_, rfl, fun _ => hl'⟩
    | ret r => exact ⟨_, rfl, fun _ => hl'⟩
  · rw [if_neg hl]
    exact ⟨_, rfl, fun h => by cases h⟩
theorem q_implVecOK (x : TVec) : p_impl_VecOK x = p_spec_VecOK x := by
  unfold p_impl_VecOK p_spec_VecOK
  by_cases hl : decide ((x.counts.length : Int) = 16) = true
  · rw [if_t hl, if_t hl]
    have hl' : (x.counts.length : Int) = 16 := of_decide_eq_true hl
    have : p_impl_VecOK_l0 x = p_spec_VecOK_l0 x := by
      funext s
      unfold p_impl_VecOK_l0 p_spec_VecOK_l0
      rw [hl']
    rw [this]
    try rfl
  · rw [if_neg hl, if_neg hl]

theorem q_eqVec (x : TVec) (hx : x.counts.length * 8 ≤ reachBytes) : p_laws_eqVector x x = some true := by
  unfold p_laws_eqVector
  rw [q_eqIntS x.counts hx]; rfl
theorem q_markIntS (x : List Int) (n : Int) (h0 : 0 ≤ n) (hn : n + x.length < 9223372036854775807) : ∃ y, p_laws_markIntS x n = some ⟨n + x.length, y⟩ ∧ y.length = x.length ∧ ∀ j : Nat, j < x.length → y[j]? = some (n + j) := by
  unfold p_laws_markIntS
  obtain ⟨e, h1, y, i, rfl, h2, h3⟩ := loop_count (step := p_laws_markIntS_l0) x.length (fun i s => s.2.1 = n + (i : Int) ∧ s.2.2 = (i : Int) ∧ s.1.length = x.length ∧ ∀ j : Nat, j < i → s.1[j]? = some (n + j))
    (fun e => ∃ y i, e = .out (y, n + x.length, i) ∧ y.length = x.length ∧ ∀ j : Nat, j < x.length → y[j]? = some (n + j)) (by
      rintro i ⟨s0, s1, s2⟩ hi ⟨h1, h2, h3, h4⟩
      simp only at h1 h2 h3 h4
      subst h1 h2
      obtain ⟨a, ha, ha'⟩ := get_lt (xs := s0) (i := i) (by omega)
      have hd : decide ((i : Int) < (s0.length : Int)) = true := by simp; omega
      left
      refine ⟨(s0.set i (n + i), n + ((i + 1 : Nat) : Int), ((i + 1 : Nat) : Int)), ?_, rfl, rfl, by simpa using h3, ?_⟩
      · simp only [p_laws_markIntS_l0]
        rw [if_t hd, ha, Option.bind_some, w64_succ (by omega), w64_id (by omega) (by omega), Int.toNat_natCast, show n + (i : Int) + 1 = n + ((i + 1 : Nat) : Int) from by omega]
      · intro j hj
        simp only [List.getElem?_set]
        by_cases e : i = j
        · subst e
          rw [if_pos rfl, if_pos (by omega)]
        · rw [if_neg e]; exact h4 j (by omega))
    (by
      rintro ⟨s0, s1, s2⟩ ⟨h1, h2, h3, h4⟩
      simp only at h1 h2 h3 h4
      subst h1 h2
      have hd : decide ((x.length : Int) < (s0.length : Int)) = false := by simp; omega
      left
      refine ⟨(s0, n + (x.length : Int), (x.length : Int)), ?_, s0, x.length, rfl, h3, h4⟩
      simp only [p_laws_markIntS_l0]
      rw [if_f hd]) (s := (x, n, 0)) ⟨by simp, rfl, rfl, fun j hj => by omega⟩
  rw [h1]
  exact ⟨y, rfl, h2, h3⟩

theorem q_markText (n : Int) (hn : n < 4611686018427387904) : ∃ s, p_laws_markText n = some s := by
  unfold p_laws_markText
  by_cases h0 : n ≤ 0
  · rw [if_pos (decide_eq_true h0)]; exact ⟨_, rfl⟩
  · rw [if_neg (by simpa using h0)]
    obtain ⟨e, h1, m, s, rfl, hs⟩ := loopP_inv (step := p_laws_markText_l0) (fun s => 0 ≤ s.1 ∧ s.1 + s.2.size ≤ n) (fun s => s.1.toNat) (fun e => ∃ m s, e = .out (m, s) ∧ (s.size : Int) ≤ n) (by
      rintro ⟨s1, s2⟩ ⟨h2, h3⟩
      simp only at h2 h3
      simp only [p_laws_markText_l0]
      by_cases hd : 0 < s1
      · rw [if_pos (decide_eq_true hd)]
        have hz : ∀ k : Int, (strOfNums [k]).size = 1 := fun k => rfl
        have hc : ∀ k : Int, cat? (strOfNums [k]) s2 = some (strOfNums [k] ++ s2) := by
          intro k
          unfold cat?
          rw [if_pos (by rw [hz]; omega)]
        rw [hc, Option.bind_some]
        refine ⟨_, rfl, ?_⟩
        have hq : s1.tdiv 10 = s1 / 10 := Int.tdiv_eq_ediv_of_nonneg h2
        have hw : w64 (s1.tdiv 10) = s1 / 10 := by rw [hq]; exact w64_id (by omega) (by omega)
        simp only [hw, ByteArray.size_append, hz]
        refine ⟨⟨by omega, by omega⟩, by omega⟩
      · rw [if_neg (by simpa using hd)]
        exact ⟨_, rfl, _, _, rfl, by omega⟩) (s := (n, ByteArray.mk #[])) ⟨by simp only; omega, by simp only; show n + ((0 : Nat) : Int) ≤ n; omega⟩
    rw [h1, Option.bind_some]
    have : cat? (ByteArray.mk #[109]) s = some (ByteArray.mk #[109] ++ s) := by
      unfold cat?
      rw [if_pos (by show ((1 + s.size : Nat) : Int) ≤ _; omega)]
    simp only [this, Option.bind_some]
    exact ⟨_, rfl⟩
noncomputable def mt (n : Int) : ByteArray := (p_laws_markText n).getD (ByteArray.mk #[])
theorem mt_eq {n : Int} (hn : n < 4611686018427387904) : p_laws_markText n = some (mt n) := by
  obtain ⟨s, hs⟩ := q_markText n hn
  unfold mt
  rw [hs]; rfl

theorem q_StampOK (x : TStamp) : p_spec_StampOK x = some (decide (1 ≤ x.time ∧ x.time ≤ 1000000000000 ∧ 0 ≤ x.actor ∧ x.actor < 16)) := by
  unfold p_spec_StampOK
  simp only [decide_eq_true_eq]
  repeat' split
  all_goals (simp only [Option.some.injEq]; symm; first | (rw [decide_eq_false_iff_not]; omega) | (apply decide_eq_decide.2; omega))
theorem q_implStampOK (x : TStamp) : p_impl_StampOK x = p_spec_StampOK x := by
  rw [q_StampOK]
  unfold p_impl_StampOK p_impl_isActor
  simp only [decide_eq_true_eq]
  repeat' split
  all_goals simp only [Option.bind_some, Option.some.injEq]
  all_goals (symm; first | (rw [decide_eq_false_iff_not]; omega) | (apply decide_eq_decide.2; omega))
theorem q_StampLess (x y : TStamp) : p_spec_StampLess x y = some (decide (x.time < y.time ∨ (x.time = y.time ∧ x.actor < y.actor))) := by
  unfold p_spec_StampLess
  simp only [decide_eq_true_eq]
  repeat' split
  all_goals (simp only [Option.some.injEq]; symm; first | (rw [decide_eq_false_iff_not]; omega) | (rw [decide_eq_true_eq]; omega) | (apply decide_eq_decide.2; omega))
theorem q_implStampLess (x y : TStamp) : p_impl_StampLess x y = p_spec_StampLess x y := by
  rw [q_StampLess]
  unfold p_impl_StampLess
  simp only [decide_eq_true_eq]
  repeat' split
  all_goals (simp only [Option.some.injEq]; symm; first | (rw [decide_eq_false_iff_not]; omega) | (rw [decide_eq_true_eq]; omega) | (apply decide_eq_decide.2; omega))

def lessS (x y : TStamp) : Prop := x.time < y.time ∨ (x.time = y.time ∧ x.actor < y.actor)
/-- Entries by rising stamps that were seen. -/
structure EntOK (s : TVec) (l : List TEntry) : Prop where
  counts : s.counts.length = 16
  len : l.length ≤ 256
  ent : ∀ (i : Nat) (e : TEntry), l[i]? = some e → 1 ≤ e.stamp.time ∧ e.stamp.time ≤ 1000000000000 ∧ 0 ≤ e.stamp.actor ∧ e.stamp.actor < 16 ∧ e.text.size ≤ 200 ∧ ∀ c, s.counts[e.stamp.actor.toNat]? = some c → e.stamp.time ≤ c
  rise : ∀ (i : Nat) (e f : TEntry), l[i]? = some e → l[i + 1]? = some f → lessS e.stamp f.stamp
theorem q_stateLoop (s : TVec) (l : List TEntry) : p_impl_stateOK_l0 s l = p_spec_l03EntriesOK_l0 s l := by
  funext i
  unfold p_impl_stateOK_l0 p_spec_l03EntriesOK_l0
  simp only [q_implStampOK, q_implStampLess]
theorem q_stateOK (s : TVec) (l : List TEntry) : p_impl_stateOK s l = p_spec_l03EntriesOK s l := by
  unfold p_impl_stateOK p_spec_l03EntriesOK
  simp only [q_implVecOK, q_stateLoop]
theorem q_EntOK (s : TVec) (l : List TEntry) : ∃ b, p_spec_l03EntriesOK s l = some b ∧ (b = true → EntOK s l) := by
  unfold p_spec_l03EntriesOK
  obtain ⟨v, hv, hv2⟩ := q_specVecOK s
  rw [hv, Option.bind_some]
  cases v with
  | false => exact ⟨false, rfl, fun h => by cases h⟩
  | true =>
    have h16 := hv2 rfl
    rw [if_pos rfl]
    by_cases hl : (256 : Int) < (l.length : Int)
    · rw [if_pos (decide_eq_true hl)]; exact ⟨_, rfl, fun h => by cases h⟩
    · rw [if_neg (by simpa using hl)]
      have hgood := all_loop (step := p_spec_l03EntriesOK_l0 s l) l.length (fun i => ∀ e, l[i]? = some e → (1 ≤ e.stamp.time ∧ e.stamp.time ≤ 1000000000000 ∧ 0 ≤ e.stamp.actor ∧ e.stamp.actor < 16 ∧ e.text.size ≤ 200 ∧ ∀ c, s.counts[e.stamp.actor.toNat]? = some c → e.stamp.time ≤ c) ∧ ∀ k f, i = k + 1 → l[k]? = some f → lessS f.stamp e.stamp) (by
        intro i hi
        obtain ⟨a, ha, ha'⟩ := get_lt (xs := l) hi
        have hd : decide ((i : Int) < (l.length : Int)) = true := by simpa using hi
        simp only [p_spec_l03EntriesOK_l0]
        rw [if_t hd, ha, Option.bind_some, q_StampOK, Option.bind_some, w64_succ (by omega)]
        by_cases h1 : 1 ≤ a.stamp.time ∧ a.stamp.time ≤ 1000000000000 ∧ 0 ≤ a.stamp.actor ∧ a.stamp.actor < 16
        case neg =>
          rw [if_neg (by simpa using h1)]
          refine .inr ⟨fun hg => h1 ?_, rfl⟩
          have := (hg a ha').1
          exact ⟨this.1, this.2.1, this.2.2.1, this.2.2.2.1⟩
        rw [if_pos (by simpa using h1)]
        by_cases h2 : 200 < (a.text.size : Int)
        · rw [if_pos (decide_eq_true h2)]
          refine .inr ⟨fun hg => ?_, rfl⟩
          have := (hg a ha').1.2.2.2.2.1
          omega
        rw [if_neg (by simpa using h2)]
        obtain ⟨k, hk⟩ : ∃ k : Nat, a.stamp.actor = (k : Int) := ⟨a.stamp.actor.toNat, by omega⟩
        obtain ⟨c, hc, hc'⟩ := get_lt (xs := s.counts) (i := k) (by omega)
        rw [hk, hc, Option.bind_some]
        by_cases h3 : c < a.stamp.time
        · rw [if_pos (decide_eq_true h3)]
          refine .inr ⟨fun hg => ?_, rfl⟩
          have := (hg a ha').1.2.2.2.2.2 c (by rw [hk]; simpa using hc')
          omega
        rw [if_neg (by simpa using h3)]
        have hfirst : 1 ≤ a.stamp.time ∧ a.stamp.time ≤ 1000000000000 ∧ 0 ≤ a.stamp.actor ∧ a.stamp.actor < 16 ∧ a.text.size ≤ 200 ∧ ∀ c, s.counts[a.stamp.actor.toNat]? = some c → a.stamp.time ≤ c := by
          refine ⟨h1.1, h1.2.1, h1.2.2.1, h1.2.2.2, by omega, ?_⟩
          intro c' hc2
          rw [hk, Int.toNat_natCast, hc'] at hc2
          cases hc2
          omega
        by_cases h4 : 0 < (i : Int)
        · rw [if_pos (decide_eq_true h4), w64_pred (by omega) (by omega)]
          obtain ⟨f, hf, hf'⟩ := get_lt (xs := l) (i := i - 1) (by omega)
          rw [hf, Option.bind_some, q_StampLess, Option.bind_some]
          by_cases h5 : f.stamp.time < a.stamp.time ∨ (f.stamp.time = a.stamp.time ∧ f.stamp.actor < a.stamp.actor)
          · rw [if_pos (decide_eq_true h5)]
            refine .inl ⟨fun e he => ?_, rfl⟩
            rw [ha'] at he
            cases he
            refine ⟨hfirst, fun k f' hk' hf2 => ?_⟩
            rw [show k = i - 1 from by omega, hf'] at hf2
            cases hf2
            exact h5
          · rw [if_neg (by simpa using h5)]
            refine .inr ⟨fun hg => h5 ?_, rfl⟩
            exact (hg a ha').2 (i - 1) f (by omega) hf'
        · rw [if_neg (by simpa using h4)]
          refine .inl ⟨fun e he => ?_, rfl⟩
          rw [ha'] at he
          cases he
          exact ⟨hfirst, fun k f' hk' hf2 => by omega⟩) (by
        have hd : decide ((l.length : Int) < (l.length : Int)) = false := by simp
        simp only [p_spec_l03EntriesOK_l0]
        rw [if_f hd])
      rcases hgood with ⟨h1, h2⟩ | ⟨h1, h2⟩
      · rw [h1]
        refine ⟨true, rfl, fun _ => ⟨h16, by omega, fun i e he => ?_, fun i e f he hf => ?_⟩⟩
        · exact (h2 i (List.getElem?_eq_some_iff.1 he).1 e he).1
        · exact (h2 (i + 1) (List.getElem?_eq_some_iff.1 hf).1 f hf).2 i e rfl he
      · rw [h1]
        exact ⟨false, rfl, fun h => by cases h⟩

theorem q_szEntry (x : TEntry) (n : Int) : ∃ m, p_laws_szEntry x n = some m := by
  unfold p_laws_szEntry
  repeat' split
  all_goals exact ⟨_, rfl⟩
theorem q_szEntryS (x : List TEntry) (n : Int) (hx : x.length < 9223372036854775807) : ∃ m, p_laws_szEntryS x n = some m := by
  unfold p_laws_szEntryS
  split
  · exact ⟨_, rfl⟩
  · obtain ⟨e, h1, _⟩ := loop_count (step := p_laws_szEntryS_l0 x) x.length (fun i s => s.2 = (i : Int)) (fun _ => True) (by
      rintro i ⟨s1, s2⟩ hi h
      simp only at h
      subst h
      obtain ⟨a, ha, ha'⟩ := get_lt (xs := x) hi
      obtain ⟨m, hm⟩ := q_szEntry a s1
      have hd : decide ((i : Int) < (x.length : Int)) = true := by simpa using hi
      simp only [p_laws_szEntryS_l0]
      rw [if_t hd, ha, Option.bind_some, hm, Option.bind_some, w64_succ (by omega)]
      split
      · exact .inr (.inr ⟨_, rfl, trivial⟩)
      · exact .inl ⟨_, rfl, rfl⟩)
      (by
      rintro ⟨s1, s2⟩ h
      simp only at h
      subst h
      have hd : decide ((x.length : Int) < (x.length : Int)) = false := by simp
      simp only [p_laws_szEntryS_l0]
      rw [if_f hd]
      exact .inl ⟨_, rfl, trivial⟩) (s := (w64 (n - (x.length : Int)), 0)) rfl
    rw [h1, Option.bind_some]
    cases e with
    | out s => exact ⟨_, rfl⟩
    | ret r => exact ⟨_, rfl⟩
theorem q_toEntryS (x : List TEntry) (hx : x.length * 32 ≤ reachBytes) : p_laws_toEntryS x = some x := by
  rw [reach_eq] at hx
  unfold p_laws_toEntryS
  rw [show (32 : Int) = ((32 : Nat) : Int) from rfl, mkL_ok (by omega) (by omega), Option.bind_some]
  have e : p_laws_toEntryS_l0 x = copyStep x some := by
    funext s
    unfold p_laws_toEntryS_l0 copyStep p_laws_toEntry p_laws_toStamp
    rfl
  rw [e]
  obtain ⟨i, h⟩ := copy_loop (ρ := List TEntry) (x := x) (v := List.replicate x.length (TEntry.mk (TStamp.mk 0 0) (ByteArray.mk #[]))) (f := some) (fun _ _ => rfl) (by simp) (by omega)
  rw [h]; rfl
theorem q_eqEntry (x : TEntry) : p_laws_eqEntry x x = some true := by
  unfold p_laws_eqEntry p_laws_eqStamp
  simp
theorem q_eqEntryS (x : List TEntry) (hx : x.length < 9223372036854775807) : p_laws_eqEntryS x x = some true := by
  unfold p_laws_eqEntryS
  rw [if_pos (by simp)]
  have e : p_laws_eqEntryS_l0 x x = eqStep x x p_laws_eqEntry := rfl
  rw [e]
  obtain ⟨i, h⟩ := eq_loop (x := x) (g := p_laws_eqEntry) (fun a _ => q_eqEntry a) hx
  rw [h]; rfl
noncomputable def mEntry (k : Int) : TEntry := ⟨⟨k, k + 1⟩, mt (k + 2)⟩
theorem q_markEntryS (x : List TEntry) (n : Int) (h0 : 0 ≤ n) (hn : n + 3 * x.length < 4611686018427380000) : ∃ y, p_laws_markEntryS x n = some ⟨n + 3 * x.length, y⟩ ∧ y.length = x.length ∧ ∀ j : Nat, j < x.length → y[j]? = some (mEntry (n + 3 * j)) := by
  unfold p_laws_markEntryS
  obtain ⟨e, h1, y, i, rfl, h2, h3⟩ := loop_count (step := p_laws_markEntryS_l0) x.length (fun i s => s.2.1 = n + 3 * (i : Int) ∧ s.2.2 = (i : Int) ∧ s.1.length = x.length ∧ ∀ j : Nat, j < i → s.1[j]? = some (mEntry (n + 3 * j)))
    (fun e => ∃ y i, e = .out (y, n + 3 * x.length, i) ∧ y.length = x.length ∧ ∀ j : Nat, j < x.length → y[j]? = some (mEntry (n + 3 * j))) (by
      rintro i ⟨s0, s1, s2⟩ hi ⟨h1, h2, h3, h4⟩
      simp only at h1 h2 h3 h4
      subst h1 h2
      obtain ⟨a, ha, ha'⟩ := get_lt (xs := s0) (i := i) (by omega)
      have hd : decide ((i : Int) < (s0.length : Int)) = true := by simp; omega
      have hset : ∀ (l : List TEntry) (b : TEntry), l.length = x.length → get? (l.set i b) (i : Int) = some b := by
        intro l b hl
        rw [get_nat, List.getElem?_set_self (by omega)]
      left
      refine ⟨(s0.set i (mEntry (n + 3 * i)), n + 3 * ((i + 1 : Nat) : Int), ((i + 1 : Nat) : Int)), ?_, rfl, rfl, by simpa using h3, ?_⟩
      · 
        have e1 : w64 (n + 3 * (i : Int) + 1) = n + 3 * (i : Int) + 1 := by rw [w64_id (by omega) (by omega)]
        have e2 : w64 (n + 3 * (i : Int) + 1 + 1) = n + 3 * (i : Int) + 2 := by rw [w64_id (by omega) (by omega)]; omega
        have e3 : w64 (n + 3 * (i : Int) + 2 + 1) = n + 3 * ((i + 1 : Nat) : Int) := by rw [w64_id (by omega) (by omega)]; omega
        have t2 : p_laws_markText (n + 3 * (i : Int) + 2) = some (mt (n + 3 * (i : Int) + 2)) := mt_eq (by omega)
        have e0 := w64_succ (show i < 9223372036854775807 by omega)
        have es := fun b => hset s0 b h3
        simp only [p_laws_markEntryS_l0, Int.toNat_natCast, e1, e2, e3, e0, hd, if_true, ha, Option.bind_some, t2, es, List.set_set]
        rfl
      · intro j hj
        simp only [List.getElem?_set]
        by_cases e : i = j
        · subst e
          rw [if_pos rfl, if_pos (by omega)]
        · rw [if_neg e]; exact h4 j (by omega))
    (by
      rintro ⟨s0, s1, s2⟩ ⟨h1, h2, h3, h4⟩
      simp only at h1 h2 h3 h4
      subst h1 h2
      have hd : decide ((x.length : Int) < (s0.length : Int)) = false := by simp; omega
      left
      refine ⟨(s0, n + 3 * (x.length : Int), (x.length : Int)), ?_, s0, x.length, rfl, h3, h4⟩
      simp only [p_laws_markEntryS_l0]
      rw [if_f hd]) (s := (x, n, 0)) ⟨by simp, rfl, rfl, fun j hj => by omega⟩
  rw [h1]
  exact ⟨y, rfl, h2, h3⟩

theorem q_szSet (x : TMulti) (n : Int) (hx : okTMulti x) : ∃ m, p_laws_szSet x n = some m := by
  have h2 := hx.2.1
  rw [reach_eq] at h2
  unfold p_laws_szSet
  obtain ⟨m, h⟩ := q_szVector x.seen n
  obtain ⟨k, h2⟩ := q_szEntryS x.entries m (by omega)
  rw [h, Option.bind_some, h2]
  simp only [Option.bind_some]
  repeat' split
  all_goals exact ⟨_, rfl⟩
theorem q_toSet (x : TMulti) (hx : okTMulti x) : p_laws_toSet x = some x := by
  unfold p_laws_toSet
  rw [q_toVector _ hx.1, q_toEntryS _ hx.2.1]; rfl
theorem q_eqSet (x : TMulti) (h1 : x.seen.counts.length * 8 ≤ reachBytes) (h2 : x.entries.length * 32 ≤ reachBytes) : p_laws_eqSet x x = some true := by
  unfold p_laws_eqSet
  rw [reach_eq] at h2
  rw [q_eqVec _ h1, q_eqEntryS _ (by omega)]; rfl
theorem q_markSet0 (x : TMulti) (n : Int) (h0 : 0 ≤ n) (hn : n + x.seen.counts.length + 3 * x.entries.length < 4611686018427380000) : ∃ y, p_laws_markSet x n = some ⟨n + x.seen.counts.length + 3 * x.entries.length, y⟩ := by
  obtain ⟨y, h1, _⟩ := q_markIntS x.seen.counts n h0 (by omega)
  obtain ⟨z, h3, h4, h5⟩ := q_markEntryS x.entries (n + x.seen.counts.length) (by omega) (by omega)
  refine ⟨⟨⟨y⟩, z⟩, ?_⟩
  unfold p_laws_markSet p_laws_markVector
  rw [h1, Option.bind_some, Option.bind_some, h3]; rfl

theorem q_eqStringS (x : List ByteArray) (hx : x.length < 9223372036854775807) : p_laws_eqStringS x x = some true := by
  unfold p_laws_eqStringS
  rw [if_pos (by simp)]
  have e : p_laws_eqStringS_l0 x x = eqStep x x fun a b => some (decide (a = b)) := by
    funext s
    unfold p_laws_eqStringS_l0 eqStep
    simp only [Option.bind_some]
  rw [e]
  obtain ⟨i, h⟩ := eq_loop (x := x) (g := fun a b => some (decide (a = b))) (fun a _ => by simp) hx
  rw [h]; rfl
theorem q_markStringS (x : List ByteArray) (n : Int) (h0 : 0 ≤ n) (hn : n + x.length < 4611686018427380000) : ∃ y, p_laws_markStringS x n = some ⟨n + x.length, y⟩ ∧ y.length = x.length ∧ ∀ j : Nat, j < x.length → y[j]? = some (mt (n + j)) := by
  unfold p_laws_markStringS
  obtain ⟨e, h1, y, i, rfl, h2, h3⟩ := loop_count (step := p_laws_markStringS_l0) x.length (fun i s => s.2.1 = n + (i : Int) ∧ s.2.2 = (i : Int) ∧ s.1.length = x.length ∧ ∀ j : Nat, j < i → s.1[j]? = some (mt (n + j)))
    (fun e => ∃ y i, e = .out (y, n + x.length, i) ∧ y.length = x.length ∧ ∀ j : Nat, j < x.length → y[j]? = some (mt (n + j))) (by
      rintro i ⟨s0, s1, s2⟩ hi ⟨h1, h2, h3, h4⟩
      simp only at h1 h2 h3 h4
      subst h1 h2
      obtain ⟨a, ha, ha'⟩ := get_lt (xs := s0) (i := i) (by omega)
      left
      refine ⟨(s0.set i (mt (n + i)), n + ((i + 1 : Nat) : Int), ((i + 1 : Nat) : Int)), ?_, rfl, rfl, by simpa using h3, ?_⟩
      · simp only [p_laws_markStringS_l0]
        rw [if_t (by simp; omega), mt_eq (by omega), Option.bind_some, ha, Option.bind_some, w64_succ (by omega), w64_id (by omega) (by omega), Int.toNat_natCast, show n + (i : Int) + 1 = n + ((i + 1 : Nat) : Int) from by omega]
      · intro j hj
        simp only [List.getElem?_set]
        by_cases e : i = j
        · subst e
          rw [if_pos rfl, if_pos (by omega)]
        · rw [if_neg e]; exact h4 j (by omega))
    (by
      rintro ⟨s0, s1, s2⟩ ⟨h1, h2, h3, h4⟩
      simp only at h1 h2 h3 h4
      subst h1 h2
      left
      refine ⟨(s0, n + (x.length : Int), (x.length : Int)), ?_, s0, x.length, rfl, h3, h4⟩
      simp only [p_laws_markStringS_l0]
      rw [if_f (by simp; omega)]) (s := (x, n, 0)) ⟨by simp, rfl, rfl, fun j hj => by omega⟩
  rw [h1]
  exact ⟨y, rfl, h2, h3⟩
theorem q_heldStringS (y : List ByteArray) (n : Int) (h0 : 0 ≤ n) (hn : n + y.length < 4611686018427380000) (hy : ∀ j : Nat, j < y.length → y[j]? = some (mt (n + j))) : p_laws_heldStringS y n = some (n + y.length) := by
  unfold p_laws_heldStringS
  obtain ⟨e, h1, i, rfl⟩ := loop_count (step := p_laws_heldStringS_l0 y) y.length (fun i s => s = (n + (i : Int), (i : Int))) (fun e => ∃ i, e = .out (n + (y.length : Int), i)) (by
      rintro i _ hi rfl
      left
      obtain ⟨a, ha, ha'⟩ := get_lt (xs := y) hi
      rw [hy i hi] at ha'
      cases ha'
      refine ⟨_, ?_, rfl⟩
      simp only [p_laws_heldStringS_l0]
      rw [if_t (by simpa using hi), ha, Option.bind_some, mt_eq (by omega), Option.bind_some, if_pos (by simp), w64_succ (by omega), w64_id (by omega) (by omega), show n + (i : Int) + 1 = n + ((i + 1 : Nat) : Int) from by omega])
    (by
      rintro _ rfl
      left
      refine ⟨_, ?_, (y.length : Int), rfl⟩
      simp only [p_laws_heldStringS_l0]
      rw [if_neg (by simp)]) (s := (n, 0)) (by simp)
  rw [h1]
  rfl

/-- Texts in the order of their bytes. -/
def bl (a b : ByteArray) : Prop := a.data.toList < b.data.toList
instance (a b : ByteArray) : Decidable (bl a b) := by unfold bl; infer_instance
theorem bl_trans {a b c : ByteArray} (h : bl a b) (h2 : bl b c) : bl a c := List.lt_trans h h2
theorem bl_irrefl (a : ByteArray) : ¬ bl a a := List.lt_irrefl _
theorem bl_eq {a b : ByteArray} (h : ¬ bl a b) (h2 : ¬ bl b a) : a = b := by
  have : a.data.toList = b.data.toList := List.le_antisymm (List.not_lt.1 h2) (List.not_lt.1 h)
  rcases a with ⟨⟨a⟩⟩
  rcases b with ⟨⟨b⟩⟩
  simpa using this
theorem bl_asymm {a b : ByteArray} (h : bl a b) : ¬ bl b a := fun h2 => bl_irrefl a (bl_trans h h2)
theorem bytesLess_lt : ∀ (x y : List UInt8), Op.bytesLess x y = decide (x < y)
  | [], [] => by simp [Op.bytesLess]
  | _ :: _, [] => by simp [Op.bytesLess]
  | [], _ :: _ => by simp [Op.bytesLess]
  | a :: x, b :: y => by
    have ih := bytesLess_lt x y
    unfold Op.bytesLess
    rw [ih, Bool.eq_iff_iff]
    simp only [Bool.or_eq_true, Bool.and_eq_true, decide_eq_true_eq, beq_iff_eq, List.cons_lt_cons_iff]
theorem q_bl (a b : ByteArray) : Op.bytesLess a.toList b.toList = decide (bl a b) := by
  rw [ByteArray.toList_eq, ByteArray.toList_eq, bytesLess_lt]
  rfl
/-- Strictly rising. -/
def Asc (l : List ByteArray) : Prop := l.Pairwise bl
theorem asc_one : ∀ {l m : List ByteArray}, Asc l → Asc m → (∀ x, x ∈ l ↔ x ∈ m) → l = m
  | [], [], _, _, _ => rfl
  | [], b :: m, _, _, h => by have := (h b).2 (by simp); simp at this
  | a :: l, [], _, _, h => by have := (h a).1 (by simp); simp at this
  | a :: l, b :: m, hl, hm, h => by
    obtain ⟨h1, h2⟩ := List.pairwise_cons.1 hl
    obtain ⟨h3, h4⟩ := List.pairwise_cons.1 hm
    have e : a = b := by
      rcases List.mem_cons.1 ((h a).1 (by simp)) with e | e
      · exact e
      · rcases List.mem_cons.1 ((h b).2 (by simp)) with e2 | e2
        · exact e2.symm
        · exact absurd (h1 b e2) (bl_asymm (h3 a e))
    subst e
    rw [asc_one h2 h4 fun x => ?_]
    constructor
    · intro hx
      rcases List.mem_cons.1 ((h x).1 (List.mem_cons_of_mem _ hx)) with e | e
      · subst e
        exact absurd (h1 x hx) (bl_irrefl x)
      · exact e
    · intro hx
      rcases List.mem_cons.1 ((h x).2 (List.mem_cons_of_mem _ hx)) with e | e
      · subst e
        exact absurd (h3 x hx) (bl_irrefl x)
      · exact e
theorem sortB_mem {xs : List ByteArray} {x : ByteArray} : x ∈ sortB xs ↔ x ∈ xs := by
  unfold sortB
  rw [List.mem_map]
  constructor
  · rintro ⟨l, hl, rfl⟩
    have := (List.mergeSort_perm _ _).mem_iff.1 hl
    obtain ⟨s, hs, rfl⟩ := List.mem_map.1 this
    exact hs
  · intro hx
    exact ⟨x.data.toList, (List.mergeSort_perm _ _).mem_iff.2 (List.mem_map.2 ⟨x, hx, rfl⟩), rfl⟩
theorem sortB_sorted (xs : List ByteArray) : (sortB xs).Pairwise fun a b => ¬ bl b a := by
  unfold sortB
  rw [List.pairwise_map]
  refine List.Pairwise.imp ?_ (List.pairwise_mergeSort (le := fun x y => decide (x ≤ y)) ?_ ?_ _)
  · intro a b h hb
    exact List.not_lt.2 (of_decide_eq_true h) hb
  · intro a b c h1 h2
    exact decide_eq_true (List.le_trans (of_decide_eq_true h1) (of_decide_eq_true h2))
  · intro a b
    rcases List.le_total a b with h | h <;> simp [h]

theorem q_place (x : TMulti) (out : List ByteArray) (hl : out.length ≤ 4096) (i : Nat) (f : TEntry) (hf : get? x.entries (i : Int) = some f) :
    ∃ a : Nat, a ≤ out.length ∧ loopP (p_spec_SetElements_l1 x out (i : Int)) 0 = some (.out (a : Int)) ∧ (∀ j v, j < a → out[j]? = some v → bl v f.text) ∧ ∀ v, out[a]? = some v → ¬ bl v f.text := by
  obtain ⟨e, h1, a, h2, rfl, h3, h4⟩ := loop_count (step := p_spec_SetElements_l1 x out (i : Int)) out.length (fun a s => s = (a : Int) ∧ ∀ j v, j < a → out[j]? = some v → bl v f.text)
    (fun e => ∃ a : Nat, a ≤ out.length ∧ e = .out (a : Int) ∧ (∀ j v, j < a → out[j]? = some v → bl v f.text) ∧ ∀ v, out[a]? = some v → ¬ bl v f.text) (by
      rintro a _ ha ⟨rfl, hI⟩
      obtain ⟨v, hv, hv'⟩ := get_lt (xs := out) ha
      have hd : decide ((a : Int) < (out.length : Int)) = true := by simpa using ha
      simp only [p_spec_SetElements_l1]
      rw [if_t hd, hv, Option.bind_some, hf, Option.bind_some, q_bl]
      by_cases hb : bl v f.text
      · left
        rw [if_pos (by simpa using hb), w64_succ (by omega)]
        refine ⟨_, rfl, rfl, fun j u hj hu => ?_⟩
        rcases Nat.lt_or_ge j a with h | h
        · exact hI j u h hu
        · obtain rfl : j = a := by omega
          rw [hv'] at hu
          cases hu
          exact hb
      · right
        left
        rw [if_neg (by simpa using hb)]
        refine ⟨_, rfl, a, by omega, rfl, hI, fun u hu => ?_⟩
        rw [hv'] at hu
        cases hu
        exact hb)
    (by
      rintro _ ⟨rfl, hI⟩
      left
      refine ⟨_, ?_, out.length, Nat.le_refl _, rfl, hI, fun v hv => ?_⟩
      · simp only [p_spec_SetElements_l1]
        rw [if_neg (by simp)]
      · rw [List.getElem?_eq_none (Nat.le_refl _)] at hv
        cases hv) (s := 0) ⟨rfl, fun j v hj => by omega⟩
  exact ⟨a, h2, h1, h3, h4⟩
theorem asc_ins {out : List ByteArray} {t : ByteArray} {a : Nat} (ho : Asc out) (h1 : ∀ j v, j < a → out[j]? = some v → bl v t) (h2 : ∀ v, out[a]? = some v → bl t v) : Asc (out.take a ++ [t] ++ out.drop a) := by
  unfold Asc at *
  rw [List.append_assoc, List.pairwise_append]
  have hX : ∀ v, v ∈ out.take a → bl v t := by
    intro v hv
    obtain ⟨j, hj⟩ := List.mem_iff_getElem?.1 hv
    have hjl := (List.getElem?_eq_some_iff.1 hj).1
    rw [List.length_take] at hjl
    rw [List.getElem?_take, if_pos (by omega)] at hj
    exact h1 j v (by omega) hj
  have hY : ∀ v, v ∈ out.drop a → bl t v := by
    intro v hv
    obtain ⟨j, hj⟩ := List.mem_iff_getElem?.1 hv
    rw [List.getElem?_drop] at hj
    have hjl := (List.getElem?_eq_some_iff.1 hj).1
    have ha : out[a]? = some out[a] := List.getElem?_eq_getElem (by omega)
    have hta := h2 _ ha
    rcases Nat.eq_zero_or_pos j with h0 | h0
    · subst h0
      rw [Nat.add_zero, ha] at hj
      cases hj
      exact hta
    · have := List.pairwise_iff_getElem.1 ho a (a + j) (by omega) hjl (by omega)
      have he := (List.getElem?_eq_some_iff.1 hj).2
      rw [he] at this
      exact bl_trans hta this
  refine ⟨ho.sublist (List.take_sublist _ _), ?_, ?_⟩
  · rw [List.cons_append, List.nil_append, List.pairwise_cons]
    exact ⟨hY, ho.sublist (List.drop_sublist _ _)⟩
  · intro u hu v hv
    rcases List.mem_append.1 hv with h | h
    · simp at h
      subst h
      exact hX u hu
    · exact bl_trans (hX u hu) (hY v h)
theorem mem_ins {out : List ByteArray} {t y : ByteArray} {a : Nat} : y ∈ out.take a ++ [t] ++ out.drop a ↔ y ∈ out ∨ y = t := by
  conv => rhs; rw [← List.take_append_drop a out]
  simp only [List.mem_append, List.mem_singleton]
  constructor
  · rintro ((h | h) | h)
    · exact .inl (.inl h)
    · exact .inr h
    · exact .inl (.inr h)
  · rintro ((h | h) | h)
    · exact .inl (.inl h)
    · exact .inr h
    · exact .inl (.inr h)
def texts (x : TMulti) : List ByteArray := x.entries.map fun f => f.text
theorem q_specElems (x : TMulti) (hl : x.entries.length ≤ 256) : ∃ out n, loopP (p_spec_SetElements_l2 x) (([] : List ByteArray), 0) = some (.out (out, n)) ∧ Asc out ∧ out.length ≤ x.entries.length ∧ ∀ y, y ∈ out ↔ y ∈ texts x := by
  obtain ⟨e, h1, out, n, rfl, h2, h3⟩ := loop_count (step := p_spec_SetElements_l2 x) x.entries.length (fun i s => s.2 = (i : Int) ∧ Asc s.1 ∧ s.1.length ≤ i ∧ ∀ y, y ∈ s.1 ↔ y ∈ (texts x).take i)
    (fun e => ∃ out n, e = .out (out, n) ∧ Asc out ∧ out.length ≤ x.entries.length ∧ ∀ y, y ∈ out ↔ y ∈ texts x) (by
      rintro i ⟨out, s⟩ hi ⟨h1, h2, h3, h4⟩
      simp only at h1 h2 h3 h4
      subst h1
      left
      obtain ⟨f, hf, hf'⟩ := get_lt (xs := x.entries) hi
      have hft : (texts x)[i]? = some f.text := by unfold texts; rw [List.getElem?_map, hf']; rfl
      have hd : decide ((i : Int) < (x.entries.length : Int)) = true := by simpa using hi
      obtain ⟨a, ha, g1, g2, g3⟩ := q_place x out (by omega) i f hf
      have hc1 : cut? out 0 (a : Int) = some (out.take a) := by
        unfold cut?
        rw [if_pos (by omega)]
        simp
      have hc2 : cut? out (a : Int) (out.length : Int) = some (out.drop a) := by
        unfold cut?
        rw [if_pos (by omega), Int.toNat_natCast, Int.toNat_natCast, List.take_of_length_le (by rw [List.length_drop]; exact Nat.le_refl _)]
      have a1 : app? 16 ([] : List ByteArray) (out.take a) = some (out.take a) := by
        rw [app_list (by simp only [List.length_nil, List.length_take]; omega)]
        rfl
      have a2 : app? 16 (out.take a) [f.text] = some (out.take a ++ [f.text]) := app_one (by rw [List.length_take]; omega)
      have a3 : app? 16 (out.take a ++ [f.text]) (out.drop a) = some (out.take a ++ [f.text] ++ out.drop a) := app_list (by simp only [List.length_append, List.length_cons, List.length_nil, List.length_take, List.length_drop]; omega)
      have hnew : (∀ v, out[a]? = some v → bl f.text v) → Asc (out.take a ++ [f.text] ++ out.drop a) ∧ (out.take a ++ [f.text] ++ out.drop a).length ≤ i + 1 ∧ ∀ y, y ∈ out.take a ++ [f.text] ++ out.drop a ↔ y ∈ (texts x).take (i + 1) := by
        intro h5
        refine ⟨asc_ins h2 g2 h5, by simp only [List.length_append, List.length_cons, List.length_nil, List.length_take, List.length_drop]; omega, fun y => ?_⟩
        rw [mem_ins, h4 y, take_next hft, List.mem_append, List.mem_singleton]
      simp only [p_spec_SetElements_l2]
      rw [if_t hd, g1, Option.bind_some]
      simp only
      rw [w64_succ (by omega)]
      by_cases hal : a = out.length
      · rw [if_pos (by simp [hal]), hc1, Option.bind_some, a1, Option.bind_some, hf, Option.bind_some, a2, Option.bind_some, hc2, Option.bind_some, a3, Option.bind_some]
        exact ⟨_, rfl, rfl, hnew fun v hv => by rw [hal, List.getElem?_eq_none (Nat.le_refl _)] at hv; cases hv⟩
      · obtain ⟨v, hv, hv'⟩ := get_lt (xs := out) (i := a) (by omega)
        rw [if_neg (by simp only [decide_eq_true_eq]; omega), hv, Option.bind_some, hf, Option.bind_some]
        by_cases he : v = f.text
        · rw [if_pos (by simpa using he)]
          refine ⟨_, rfl, rfl, h2, Nat.le_succ_of_le h3, fun y => ?_⟩
          rw [h4 y, take_next hft, List.mem_append, List.mem_singleton]
          constructor
          · exact .inl
          · rintro (h | h)
            · exact h
            · rw [h, ← h4, ← he]
              exact List.mem_of_getElem? hv'
        · rw [if_neg (by simpa using he), hc1, Option.bind_some, a1, Option.bind_some, a2, Option.bind_some, hc2, Option.bind_some, a3, Option.bind_some]
          refine ⟨_, rfl, rfl, hnew fun u hu => ?_⟩
          rw [hv'] at hu
          cases hu
          by_cases hb : bl f.text v
          · exact hb
          · exact absurd (bl_eq (g3 v hv') hb) he)
    (by
      rintro ⟨out, s⟩ ⟨h1, h2, h3, h4⟩
      simp only at h1 h2 h3 h4
      subst h1
      left
      refine ⟨_, ?_, out, (x.entries.length : Int), rfl, h2, h3, fun y => ?_⟩
      · simp only [p_spec_SetElements_l2]
        rw [if_neg (by simp)]
      · rw [h4 y, List.take_of_length_le (by unfold texts; rw [List.length_map]; exact Nat.le_refl _)]) (s := (([] : List ByteArray), 0)) ⟨rfl, List.Pairwise.nil, by simp, by simp⟩
  exact ⟨out, n, h1, h2, h3⟩
theorem q_allTexts (x : TMulti) (hl : x.entries.length ≤ 256) : ∃ n, loopP (p_impl_SetElements_l0 x) (([] : List ByteArray), 0) = some (.out (texts x, n)) := by
  have htl : (texts x).length = x.entries.length := by unfold texts; rw [List.length_map]
  obtain ⟨e, h1, n, rfl⟩ := loop_count (step := p_impl_SetElements_l0 x) x.entries.length (fun i s => s = ((texts x).take i, (i : Int))) (fun e => ∃ n, e = .out (texts x, n)) (by
      rintro i _ hi rfl
      left
      obtain ⟨f, hf, hf'⟩ := get_lt (xs := x.entries) hi
      have hft : (texts x)[i]? = some f.text := by unfold texts; rw [List.getElem?_map, hf']; rfl
      have hd : decide ((i : Int) < (x.entries.length : Int)) = true := by simpa using hi
      refine ⟨_, ?_, rfl⟩
      simp only [p_impl_SetElements_l0]
      rw [if_t hd, hf, Option.bind_some, app_one (by rw [List.length_take]; omega), Option.bind_some, w64_succ (by omega), take_next hft])
    (by
      rintro _ rfl
      left
      refine ⟨_, ?_, (x.entries.length : Int), rfl⟩
      simp only [p_impl_SetElements_l0]
      rw [if_neg (by simp), ← htl, List.take_length]) (s := (([] : List ByteArray), 0)) (by simp)
  exact ⟨n, h1⟩
theorem q_dedup (T S : List ByteArray) (hl : S.length ≤ 256) (hT : T.length = S.length) (hS : S.Pairwise fun a b => ¬ bl b a) : ∃ out n, loopP (p_impl_SetElements_l1 T S) (([] : List ByteArray), 0) = some (.out (out, n)) ∧ Asc out ∧ ∀ y, y ∈ out ↔ y ∈ S := by
  obtain ⟨e, h1, out, n, rfl, h2, h3⟩ := loop_count (step := p_impl_SetElements_l1 T S) S.length (fun i s => s.2 = (i : Int) ∧ Asc s.1 ∧ s.1.length ≤ i ∧ ∀ y, y ∈ s.1 ↔ y ∈ S.take i)
    (fun e => ∃ out n, e = .out (out, n) ∧ Asc out ∧ ∀ y, y ∈ out ↔ y ∈ S) (by
      rintro i ⟨out, s⟩ hi ⟨h1, h2, h3, h4⟩
      simp only at h1 h2 h3 h4
      subst h1
      left
      obtain ⟨v, hv, hv'⟩ := get_lt (xs := S) hi
      have hd : decide ((i : Int) < (T.length : Int)) = true := by simp only [decide_eq_true_eq]; omega
      have hadd : (∀ y, y ∈ out → bl y v) → Asc (out ++ [v]) ∧ (out ++ [v]).length ≤ i + 1 ∧ ∀ y, y ∈ out ++ [v] ↔ y ∈ S.take (i + 1) := by
        intro h5
        refine ⟨?_, by simp only [List.length_append, List.length_cons, List.length_nil]; omega, fun y => ?_⟩
        · unfold Asc at *
          rw [List.pairwise_append]
          exact ⟨h2, List.pairwise_singleton _ _, fun a ha b hb => by simp at hb; subst hb; exact h5 a ha⟩
        · rw [take_next hv', List.mem_append, List.mem_append, h4 y]
      simp only [p_impl_SetElements_l1]
      rw [if_t hd, hv, Option.bind_some, w64_succ (by omega), app_one (by omega), Option.bind_some]
      cases i with
      | zero =>
        rw [if_pos (by simp)]
        refine ⟨_, rfl, rfl, hadd fun y hy => ?_⟩
        rw [h4 y] at hy
        simp at hy
      | succ i =>
        obtain ⟨u, hu, hu'⟩ := get_lt (xs := S) (i := i) (by omega)
        have hw : w64 (((i + 1 : Nat) : Int) - 1) = (i : Int) := by rw [w64_id (by omega) (by omega)]; omega
        rw [if_neg (by simp only [decide_eq_true_eq]; omega), hw, hu, Option.bind_some]
        have hord : ∀ (j k : Nat) (a b : ByteArray), j < k → S[j]? = some a → S[k]? = some b → ¬ bl b a := by
          intro j k a b hjk ha hb
          obtain ⟨ja, rfl⟩ := List.getElem?_eq_some_iff.1 ha
          obtain ⟨kb, rfl⟩ := List.getElem?_eq_some_iff.1 hb
          exact List.pairwise_iff_getElem.1 hS j k ja kb hjk
        by_cases he : u = v
        · rw [if_pos (by simpa using he)]
          refine ⟨_, rfl, rfl, h2, Nat.le_succ_of_le h3, fun y => ?_⟩
          rw [h4 y, take_next hv', List.mem_append, List.mem_singleton]
          constructor
          · exact .inl
          · rintro (h | h)
            · exact h
            · rw [h, ← he]
              exact List.mem_of_getElem? (i := i) (by rw [List.getElem?_take, if_pos (by omega)]; exact hu')
        · rw [if_neg (by simpa using he)]
          refine ⟨_, rfl, rfl, hadd fun y hy => ?_⟩
          have huv : bl u v := by
            by_cases hb : bl u v
            · exact hb
            · exact absurd (bl_eq hb (hord i (i + 1) u v (by omega) hu' hv')) he
          rw [h4 y] at hy
          obtain ⟨j, hj⟩ := List.mem_iff_getElem?.1 hy
          have hjl := (List.getElem?_eq_some_iff.1 hj).1
          rw [List.length_take] at hjl
          rw [List.getElem?_take, if_pos (by omega)] at hj
          rcases Nat.lt_or_ge j i with h | h
          · have hyu := hord j i y u h hj hu'
            by_cases hb : bl y u
            · exact bl_trans hb huv
            · rw [bl_eq hb hyu]
              exact huv
          · obtain rfl : j = i := by omega
            rw [hu'] at hj
            cases hj
            exact huv)
    (by
      rintro ⟨out, s⟩ ⟨h1, h2, h3, h4⟩
      simp only at h1 h2 h3 h4
      subst h1
      left
      rw [List.take_length] at h4
      refine ⟨_, ?_, out, (S.length : Int), rfl, h2, h4⟩
      simp only [p_impl_SetElements_l1]
      rw [if_neg (by simp only [decide_eq_true_eq]; omega)]) (s := (([] : List ByteArray), 0)) ⟨rfl, List.Pairwise.nil, by simp, by simp⟩
  exact ⟨out, n, h1, h2, h3⟩

theorem q_SetElements (x : TMulti) : ∃ r, p_spec_SetElements x = some r ∧ p_impl_SetElements x = some r ∧ r.a.length ≤ 256 := by
  unfold p_spec_SetElements p_impl_SetElements
  rw [q_stateOK]
  obtain ⟨b, h1, h2⟩ := q_EntOK x.seen x.entries
  rw [h1, Option.bind_some, Option.bind_some]
  cases b with
  | false => exact ⟨_, rfl, rfl, by simp⟩
  | true =>
    have ho := h2 rfl
    have hl : x.entries.length ≤ 256 := ho.len
    obtain ⟨out, n, h3, h4, h45, h5⟩ := q_specElems x hl
    obtain ⟨m, h6⟩ := q_allTexts x hl
    have htl : (texts x).length = x.entries.length := by unfold texts; rw [List.length_map]
    have hS : p_sort_Strings (texts x) = some (sortB (texts x)) := by
      unfold p_sort_Strings
      rw [if_pos (by omega)]
    obtain ⟨out2, n2, h7, h8, h9⟩ := q_dedup (texts x) (sortB (texts x)) (by rw [sortB_len]; omega) sortB_len.symm (sortB_sorted _)
    have he : out2 = out := asc_one h8 h4 fun y => by rw [h9 y, sortB_mem, h5 y]
    rw [if_pos rfl, if_pos rfl, h3, h6, Option.bind_some, Option.bind_some]
    simp only
    rw [hS, Option.bind_some, h7, he]
    exact ⟨_, rfl, rfl, by simp only; omega⟩

theorem plain_SetElements (x : TMulti) (hx : okTMulti x) : p_laws_FnExactSetElements x = some true := by
  unfold p_laws_FnExactSetElements
  obtain ⟨m, h1⟩ := q_szSet x 1048576 hx
  obtain ⟨r, h3, h4, hr⟩ := q_SetElements x
  have hx1 := hx.1.1
  have hx2 := hx.2.1
  have q1 := q_eqSet x hx1 hx2
  rw [reach_eq] at hx1 hx2
  obtain ⟨x', h5⟩ := q_markSet0 x 1 (by omega) (by omega)
  obtain ⟨g, h7, h8, h9⟩ := q_markStringS r.a 1 (by omega) (by omega)
  have h10 := q_heldStringS g 1 (by omega) (by omega) (by rw [h8]; exact h9)
  rw [h8] at h10
  rw [h1, Option.bind_some]
  split
  · rfl
  · rw [q_toSet x hx, Option.bind_some, h3, Option.bind_some, h4, Option.bind_some, q_eqStringS _ (by omega), Option.bind_some, if_pos rfl, if_pos (by simp), q1, Option.bind_some, if_pos rfl, h5, Option.bind_some, if_neg (by simp only [decide_eq_true_eq]; omega), h7, Option.bind_some]
    simp only
    rw [h10, Option.bind_some, if_neg (by simp only [decide_eq_true_eq]; omega), if_pos (by simp)]
end Go.AM
