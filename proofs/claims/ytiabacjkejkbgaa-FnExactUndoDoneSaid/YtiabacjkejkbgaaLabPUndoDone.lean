/- The plain law of UndoDone. No condition. -/
import Derived.Test.YtiabacjkejkbgaaLabGUndoDone
import Derived.Test.YtiabacjkejkbgaaLabL4
set_option linter.unusedVariables false
set_option linter.unusedSimpArgs false
namespace Go.AM

theorem G_seq {ok : TOp → Prop} {L : List TOp} (h : G ok L) (a : Int) : ∀ (j : Nat) (o : TOp), (ofs L a)[j]? = some o → o.seq = (j : Int) + 1 := by
  induction h with
  | nil => intro j o hj; simp [ofs] at hj
  | snoc h1 h2 ih =>
    rename_i P p
    intro j o hj
    rw [ofs_snoc] at hj
    by_cases e : p.actor = a
    · rw [if_pos e] at hj
      rcases Nat.lt_or_ge j (ofs P a).length with hlt | hge
      · rw [List.getElem?_append_left hlt] at hj
        exact ih j o hj
      · rw [List.getElem?_append_right hge] at hj
        have : j - (ofs P a).length = 0 := by
          rcases Nat.eq_zero_or_pos (j - (ofs P a).length) with h0 | h0
          · exact h0
          · rw [List.getElem?_eq_none (by simp; omega)] at hj; cases hj
        rw [this] at hj
        simp at hj
        subst hj
        have h3 := h2.2.2
        rw [e] at h3
        omega
    · rw [if_neg e] at hj
      exact ih j o hj

theorem q_szIntS (x : List Int) (n : Int) : ∃ m, p_laws_szIntS x n = some m := by
  unfold p_laws_szIntS
  repeat' split
  all_goals exact ⟨_, rfl⟩
theorem q_szVector (x : TVec) (n : Int) : ∃ m, p_laws_szVector x n = some m := by
  unfold p_laws_szVector
  obtain ⟨m, h⟩ := q_szIntS x.counts n
  rw [h, Option.bind_some]
  repeat' split
  all_goals exact ⟨_, rfl⟩
theorem q_toIntS (x : List Int) (hx : x.length * 8 ≤ reachBytes) : p_laws_toIntS x = some x := by
  rw [reach_eq] at hx
  unfold p_laws_toIntS
  rw [show (8 : Int) = ((8 : Nat) : Int) from rfl, mkL_ok (by omega) (by omega), Option.bind_some]
  have e : p_laws_toIntS_l0 x = copyStep x some := rfl
  rw [e]
  obtain ⟨i, h⟩ := copy_loop (ρ := List Int) (x := x) (v := List.replicate x.length 0) (f := some) (fun _ _ => rfl) (by simp) (by omega)
  rw [h]; rfl
theorem q_toVector (x : TVec) (hx : okTVec x) : p_laws_toVector x = some x := by
  unfold p_laws_toVector
  rw [q_toIntS x.counts hx.1]; rfl
theorem q_eqIntS (x : List Int) (hx : x.length * 8 ≤ reachBytes) : p_laws_eqIntS x x = some true := by
  rw [reach_eq] at hx
  unfold p_laws_eqIntS
  rw [if_pos (by simp)]
  have e : p_laws_eqIntS_l0 x x = eqStep x x fun a b => some (decide (a = b)) := by
    funext s
    unfold p_laws_eqIntS_l0 eqStep
    simp only [Option.bind_some]
  rw [e]
  obtain ⟨i, h⟩ := eq_loop (x := x) (g := fun a b => some (decide (a = b))) (fun a _ => by simp) (by omega)
  rw [h]; rfl
theorem q_eqVector (x : TVec) (hx : okTVec x) : p_laws_eqVector x x = some true := by
  unfold p_laws_eqVector
  rw [q_eqIntS x.counts hx.1]; rfl

theorem q_specVecOK2 (x : TVec) : ∃ b, p_spec_VecOK x = some b ∧ (b = true → x.counts.length = 16 ∧ ∀ c, c ∈ x.counts → 0 ≤ c ∧ c ≤ 1000000000000) := by
  unfold p_spec_VecOK
  by_cases hl : decide ((x.counts.length : Int) = 16) = true
  · rw [if_t hl]
    have hl' : x.counts.length = 16 := by have := of_decide_eq_true hl; omega
    have hg := all_loop (step := p_spec_VecOK_l0 x) 16 (fun i => ∀ c, x.counts[i]? = some c → 0 ≤ c ∧ c ≤ 1000000000000) (by
      intro i hi
      obtain ⟨a, ha, ha'⟩ := get_lt (xs := x.counts) (i := i) (by omega)
      have hd : decide ((i : Int) < 16) = true := by simp; omega
      simp only [p_spec_VecOK_l0]
      rw [if_t hd, ha, Option.bind_some, w64_succ (by omega)]
      by_cases h1 : a < 0
      · rw [if_pos (decide_eq_true h1)]
        exact .inr ⟨fun h => by have := h a ha'; omega, rfl⟩
      · rw [if_neg (by simpa using h1)]
        by_cases h2 : 1000000000000 < a
        · rw [if_pos (decide_eq_true h2)]
          exact .inr ⟨fun h => by have := h a ha'; omega, rfl⟩
        · rw [if_neg (by simpa using h2)]
          refine .inl ⟨fun c hc => ?_, rfl⟩
          rw [ha'] at hc; cases hc; omega) rfl
    rcases hg with ⟨h1, h2⟩ | ⟨h1, _⟩
    · rw [show ((0 : Int)) = 0 from rfl, h1]
      refine ⟨true, rfl, fun _ => ⟨hl', fun c hc => ?_⟩⟩
      obtain ⟨i, hi⟩ := List.getElem?_of_mem hc
      exact h2 i (by have := (List.getElem?_eq_some_iff.1 hi).1; omega) c hi
    · rw [h1]
      exact ⟨false, rfl, fun h => by cases h⟩
  · rw [if_neg hl]
    exact ⟨_, rfl, fun h => by cases h⟩

theorem q_specVecOK (x : TVec) : ∃ b, p_spec_VecOK x = some b ∧ (b = true → x.counts.length = 16) := by
  unfold p_spec_VecOK
  by_cases hl : decide ((x.counts.length : Int) = 16) = true
  · rw [if_t hl]
    have hl' : x.counts.length = 16 := by have := of_decide_eq_true hl; omega
    obtain ⟨e, h1, h2⟩ := loop_count (step := p_spec_VecOK_l0 x) 16 (fun i s => s = (i : Int)) (fun _ => True) (by
      rintro i _ hi rfl
      obtain ⟨a, ha, ha'⟩ := get_lt (xs := x.counts) (i := i) (by omega)
      have hd : decide ((i : Int) < 16) = true := by simp; omega
      simp only [p_spec_VecOK_l0]
      rw [if_t hd, ha, Option.bind_some, w64_succ (by omega)]
      repeat' split
      · exact .inr (.inr ⟨_, rfl, trivial⟩)
      · exact .inr (.inr ⟨_, rfl, trivial⟩)
      · exact .inl ⟨_, rfl, rfl⟩)
      (by
      rintro _ rfl
      left
      exact ⟨16, rfl, trivial⟩) (s := 0) rfl
    rw [h1, Option.bind_some]
    cases e with
    | out s => exact ⟨_, rfl, fun _ => hl'⟩
    | ret r => exact ⟨_, rfl, fun _ => hl'⟩
  · rw [if_neg hl]
    exact ⟨_, rfl, fun h => by cases h⟩
theorem q_implVecOK (x : TVec) : p_impl_VecOK x = p_spec_VecOK x := by
  unfold p_impl_VecOK p_spec_VecOK
  by_cases hl : decide ((x.counts.length : Int) = 16) = true
  · rw [if_t hl, if_t hl]
    have hl' : (x.counts.length : Int) = 16 := of_decide_eq_true hl
    have : p_impl_VecOK_l0 x = p_spec_VecOK_l0 x := by
      funext s
      unfold p_impl_VecOK_l0 p_spec_VecOK_l0
      rw [hl']
    rw [this]
    try rfl
  · rw [if_neg hl, if_neg hl]

theorem q_StampOK (x : TStamp) : p_spec_StampOK x = some (decide (1 ≤ x.time ∧ x.time ≤ 1000000000000 ∧ 0 ≤ x.actor ∧ x.actor < 16)) := by
  unfold p_spec_StampOK
  simp only [decide_eq_true_eq]
  repeat' split
  all_goals (simp only [Option.some.injEq]; symm; first | (rw [decide_eq_false_iff_not]; omega) | (apply decide_eq_decide.2; omega))
theorem q_implStampOK (x : TStamp) : p_impl_StampOK x = p_spec_StampOK x := by
  rw [q_StampOK]
  unfold p_impl_StampOK p_impl_isActor
  simp only [decide_eq_true_eq]
  repeat' split
  all_goals simp only [Option.bind_some, Option.some.injEq]
  all_goals (symm; first | (rw [decide_eq_false_iff_not]; omega) | (apply decide_eq_decide.2; omega))
theorem q_StampLess (x y : TStamp) : p_spec_StampLess x y = some (decide (x.time < y.time ∨ (x.time = y.time ∧ x.actor < y.actor))) := by
  unfold p_spec_StampLess
  simp only [decide_eq_true_eq]
  repeat' split
  all_goals (simp only [Option.some.injEq]; symm; first | (rw [decide_eq_false_iff_not]; omega) | (rw [decide_eq_true_eq]; omega) | (apply decide_eq_decide.2; omega))
theorem q_implStampLess (x y : TStamp) : p_impl_StampLess x y = p_spec_StampLess x y := by
  rw [q_StampLess]
  unfold p_impl_StampLess
  simp only [decide_eq_true_eq]
  repeat' split
  all_goals (simp only [Option.some.injEq]; symm; first | (rw [decide_eq_false_iff_not]; omega) | (rw [decide_eq_true_eq]; omega) | (apply decide_eq_decide.2; omega))

structure Ok1 (o : TOp) : Prop where
  a0 : 0 ≤ o.actor
  a1 : o.actor < 16
  s0 : 1 ≤ o.seq
  s1 : o.seq ≤ 1000000000000
  dl : o.deps.counts.length = 16
  db : ∀ c, c ∈ o.deps.counts → 0 ≤ c ∧ c ≤ 1000000000000
  o0 : 1 ≤ o.obj
  o1 : o.obj ≤ 100
  k0 : 1 ≤ o.kind
  k1 : o.kind ≤ 4
def P1 (o : TOp) (s : Option Bool) : Prop := ∃ b, s = some b ∧ (b = true → Ok1 o)
theorem p1_f {o : TOp} : P1 o (some false) := ⟨false, rfl, fun h => by cases h⟩
theorem p1_ite {o : TOp} {c : Bool} {s t : Option Bool} (h1 : c = true → P1 o s) (h2 : c = false → P1 o t) : P1 o (if c = true then s else t) := by
  cases c with
  | true => rw [if_pos rfl]; exact h1 rfl
  | false => rw [if_neg (by simp)]; exact h2 rfl
theorem q_None (x : TStamp) : p_spec_l02None x = some (decide (x.time = 0) && decide (x.actor = 0)) := by
  unfold p_spec_l02None
  split <;> simp_all
theorem q_Char (n : Int) : ∃ b, p_spec_l04Char n = some b := by
  unfold p_spec_l04Char
  repeat' split
  all_goals exact ⟨_, rfl⟩
theorem q_opOK (o : TOp) : P1 o (p_spec_l08OpOK o) := by
  unfold p_spec_l08OpOK
  obtain ⟨c, hc⟩ := q_Char o.n
  obtain ⟨d, hd, hd'⟩ := q_specVecOK2 o.deps
  rw [show p_spec_l08Stamp o = some ⟨o.time, o.actor⟩ from rfl, Option.bind_some, q_StampOK, Option.bind_some, hd, Option.bind_some]
  simp only [q_None, q_StampOK, q_StampLess, hc, Option.bind_some]
  refine p1_ite (fun h1 => ?_) (fun _ => p1_f)
  refine p1_ite (fun _ => p1_f) (fun h2 => ?_)
  refine p1_ite (fun _ => p1_f) (fun h3 => ?_)
  refine p1_ite (fun h4 => ?_) (fun _ => p1_f)
  simp only [decide_eq_true_eq, decide_eq_false_iff_not] at h1 h2 h3
  obtain ⟨v7, hv7⟩ : ∃ v, get? o.deps.counts o.actor = some v := by
    obtain ⟨x, hx, _⟩ := get_lt (xs := o.deps.counts) (i := o.actor.toNat) (by have := (hd' h4).1; omega)
    rw [Int.toNat_of_nonneg (by omega)] at hx
    exact ⟨x, hx⟩
  rw [hv7, Option.bind_some]
  refine p1_ite (fun h5 => ?_) (fun _ => p1_f)
  refine p1_ite (fun _ => p1_f) (fun h6 => ?_)
  refine p1_ite (fun _ => p1_f) (fun h7 => ?_)
  simp only [decide_eq_true_eq, decide_eq_false_iff_not] at h6 h7
  have hk : 1 ≤ o.kind → o.kind ≤ 4 → Ok1 o := fun k0 k1 => ⟨by omega, by omega, by omega, by omega, (hd' h4).1, (hd' h4).2, by omega, by omega, k0, k1⟩
  repeat' (first | exact p1_f | refine p1_ite (fun _ => ?_) (fun _ => ?_))
  all_goals (first | exact p1_f | (refine ⟨_, rfl, fun _ => hk ?_ ?_⟩ <;> simp_all))

theorem q_New : p_spec_l02New = some ⟨List.replicate 16 0⟩ := by
  unfold p_spec_l02New
  rw [show (mkL 16 8 16 0 : Option (List Int)) = some (List.replicate 16 0) from mkL_ok (l := 16) (y := 8) (by decide) (by decide), Option.bind_some]
theorem q_Counts (L : List TOp) (hL : L.length ≤ 1024) (hA : ∀ o, o ∈ L → 0 ≤ o.actor ∧ o.actor < 16) :
    ∃ v, p_spec_l08Counts L = some v ∧ v.counts.length = 16 ∧ ∀ a : Nat, a < 16 → v.counts[a]? = some ((ofs L (a : Int)).length : Int) := by
  unfold p_spec_l08Counts
  rw [q_New, Option.bind_some]
  obtain ⟨e, h1, s, n, rfl, h2, h3⟩ := loop_count (step := p_spec_l08Counts_l0 L) L.length (fun i s => s.2 = (i : Int) ∧ s.1.length = 16 ∧ ∀ a : Nat, a < 16 → s.1[a]? = some ((ofs (L.take i) (a : Int)).length : Int))
    (fun e => ∃ (s : List Int) (n : Int), e = .out (s, n) ∧ s.length = 16 ∧ ∀ a : Nat, a < 16 → s[a]? = some ((ofs L (a : Int)).length : Int)) (by
      rintro i ⟨s1, s2⟩ hi ⟨h1, h2, h3⟩
      simp only at h1 h2 h3
      subst h1
      left
      obtain ⟨o, ho, ho'⟩ := get_lt (xs := L) hi
      have hm : o ∈ L := List.mem_of_getElem? ho'
      obtain ⟨a0, a1⟩ := hA o hm
      have hd : decide ((i : Int) < (L.length : Int)) = true := by simpa using hi
      have hc := h3 o.actor.toNat (by omega)
      rw [Int.toNat_of_nonneg a0] at hc
      have hg : get? s1 o.actor = some ((ofs (L.take i) o.actor).length : Int) := by
        unfold get?
        rw [if_pos a0, hc]
      have hln : (ofs (L.take i) o.actor).length ≤ 1024 := Nat.le_trans ofs_len (by rw [List.length_take]; omega)
      refine ⟨(s1.set o.actor.toNat (((ofs (L.take i) o.actor).length + 1 : Nat) : Int), ((i + 1 : Nat) : Int)), ?_, rfl, by simp [h2], ?_⟩
      · simp only [p_spec_l08Counts_l0]
        rw [if_t hd, ho, Option.bind_some, hg, Option.bind_some, w64_succ (by omega), w64_succ (by omega)]
      · intro a ha
        simp only
        rw [take_next ho', ofs_snoc]
        by_cases e : o.actor.toNat = a
        · subst e
          rw [List.getElem?_set_self (by omega), if_pos (by omega), Int.toNat_of_nonneg a0]
          simp
        · rw [List.getElem?_set_ne e, if_neg (by omega)]
          exact h3 a ha)
    (by
      rintro ⟨s1, s2⟩ ⟨h1, h2, h3⟩
      simp only at h1 h2 h3
      subst h1
      left
      refine ⟨(s1, (L.length : Int)), ?_, s1, _, rfl, h2, ?_⟩
      · simp only [p_spec_l08Counts_l0]
        rw [if_neg (by simp)]
      · rwa [List.take_length] at h3) (s := (List.replicate 16 0, 0)) ⟨rfl, by simp, fun a ha => by rw [List.getElem?_replicate, if_pos ha]; rfl⟩
  rw [h1, Option.bind_some]
  exact ⟨_, rfl, h2, h3⟩

theorem q_Find {ok : TOp → Prop} {L : List TOp} (hG : G ok L) (hL : L.length ≤ 1024) (a : Nat) (n : Int) (hn1 : 1 ≤ n) (hn2 : n ≤ ((ofs L (a : Int)).length : Int)) :
    ∃ j p, p_spec_l08Find L a n = some j ∧ get? L j = some p ∧ (ofs L (a : Int))[(n - 1).toNat]? = some p := by
  obtain ⟨A, B, e, hA, hB⟩ := G_split hG (a : Int)
  generalize hM : ofs L (a : Int) = M at *
  have hMa : ∀ x, x ∈ M → x.actor = a := fun x hx => by rw [← hM] at hx; exact ofs_actor hx
  have hlen : L.length = A.length + (M.length + B.length) := by rw [e]; simp
  obtain ⟨m, rfl⟩ : ∃ m : Nat, n = (m : Int) + 1 := ⟨(n - 1).toNat, by omega⟩
  have hm : m < M.length := by omega
  have hat : L[A.length + m]? = some M[m] := by
    rw [e, List.getElem?_append_right (by omega), Nat.add_sub_cancel_left, List.getElem?_append_left hm, List.getElem?_eq_getElem hm]
  have hat0 : L[A.length]? = some M[0] := by
    rw [e, List.getElem?_append_right (by omega), Nat.sub_self, List.getElem?_append_left (by omega), List.getElem?_eq_getElem (by omega)]
  have hj : get? L ((A.length + m : Nat) : Int) = some M[m] := by
    unfold get?
    rw [if_pos (by omega), Int.toNat_natCast]
    exact hat
  refine ⟨((A.length + m : Nat) : Int), M[m], ?_, hj, by rw [show ((m : Int) + 1 - 1).toNat = m by omega]; exact List.getElem?_eq_getElem hm⟩
  unfold p_spec_l08Find
  obtain ⟨ee, h1, rfl⟩ := loop_count (step := p_spec_l08Find_l0 L a ((m : Int) + 1)) A.length (fun i s => s = (i : Int)) (fun e => e = .ret ((A.length + m : Nat) : Int)) (by
      rintro i _ hi rfl
      left
      obtain ⟨o, ho, ho'⟩ := get_lt (xs := L) (i := i) (by omega)
      have hoA : o ∈ A := by
        rw [e, List.getElem?_append_left hi] at ho'
        exact List.mem_of_getElem? ho'
      have hne := hA o hoA
      have hd : decide ((i : Int) < (L.length : Int)) = true := by simp; omega
      refine ⟨((i + 1 : Nat) : Int), ?_, rfl⟩
      simp only [p_spec_l08Find_l0]
      rw [if_t hd, ho, Option.bind_some, if_neg (by simp; omega), w64_succ (by omega)])
    (by
      rintro _ rfl
      right
      have hd : decide ((A.length : Int) < (L.length : Int)) = true := by simp; omega
      have ho : get? L (A.length : Int) = some M[0] := by
        unfold get?
        rw [if_pos (by omega), Int.toNat_natCast]
        exact hat0
      have ha0 : (M[0]).actor = a := hMa _ (List.getElem_mem _)
      have ham : (M[m]).actor = a := hMa _ (List.getElem_mem _)
      refine ⟨_, ?_, rfl⟩
      simp only [p_spec_l08Find_l0]
      rw [if_t hd, ho, Option.bind_some, if_pos (by simp [ha0]), if_neg (by simp; omega), w64_id (by omega) (by omega), if_neg (by simp; omega), w64_id (n := (A.length : Int) + ((m : Int) + 1)) (by omega) (by omega), w64_id (by omega) (by omega),
        show (A.length : Int) + ((m : Int) + 1) - 1 = ((A.length + m : Nat) : Int) by omega, hj, Option.bind_some, if_pos (by simp [ham])]) (s := 0) rfl
  rw [h1, Option.bind_some]

theorem q_Causes {ok : TOp → Prop} {L : List TOp} (hG : G ok L) (hL : L.length ≤ 1024) {v : TVec} (hv : v.counts.length = 16) (hv' : ∀ a : Nat, a < 16 → v.counts[a]? = some ((ofs L (a : Int)).length : Int))
    (o : TOp) (hd : o.deps.counts.length = 16) : ∃ b, p_spec_l08Causes L v o = some b ∧ (b = true ↔ ∀ a : Nat, a < 16 → CA L o a) := by
  unfold p_spec_l08Causes
  have key := all_loop (step := p_spec_l08Causes_l0 L v o) 16 (CA L o) (by
    intro a ha
    obtain ⟨n, hn, hn'⟩ := get_lt (xs := o.deps.counts) (i := a) (by omega)
    have hc : get? v.counts (a : Int) = some ((ofs L (a : Int)).length : Int) := by
      unfold get?
      rw [if_pos (by omega), Int.toNat_natCast]
      exact hv' a ha
    have hd16 : decide ((a : Int) < 16) = true := by simp; omega
    simp only [p_spec_l08Causes_l0]
    rw [if_t hd16, hn, Option.bind_some, hc, Option.bind_some]
    by_cases h1 : ((ofs L (a : Int)).length : Int) < n
    · right
      rw [if_pos (by simpa using h1)]
      exact ⟨fun h => by have := (h n hn').1; omega, rfl⟩
    · rw [if_neg (by simpa using h1)]
      by_cases h2 : 0 < n
      · obtain ⟨j, p, hj, hp, hp'⟩ := q_Find hG hL a n (by omega) (by omega)
        rw [if_pos (by simpa using h2), hj, Option.bind_some, hp, Option.bind_some, show p_spec_l08Stamp p = some ⟨p.time, p.actor⟩ from rfl, Option.bind_some, show p_spec_l08Stamp o = some ⟨o.time, o.actor⟩ from rfl, Option.bind_some, q_StampLess, Option.bind_some]
        by_cases h3 : less p o
        · left
          refine ⟨fun n' h => ?_, ?_⟩
          · rw [hn'] at h
            cases h
            exact ⟨by omega, fun _ q hq => by rw [hp'] at hq; cases hq; exact h3⟩
          · rw [if_pos (by unfold less at h3; simpa using h3), w64_succ (by omega)]
        · right
          rw [if_neg (by unfold less at h3; simpa using h3)]
          exact ⟨fun h => h3 ((h n hn').2 h2 p hp'), rfl⟩
      · left
        rw [if_neg (by simpa using h2), w64_succ (by omega)]
        refine ⟨fun n' h => ?_, rfl⟩
        rw [hn'] at h
        cases h
        exact ⟨by omega, fun h => absurd h h2⟩) (by
    simp only [p_spec_l08Causes_l0]
    rw [if_neg (by decide)])
  rcases key with ⟨h1, h2⟩ | ⟨h1, a, h2, h3⟩
  · rw [show (0 : Int) = ((0 : Nat) : Int) from rfl] at *
    rw [h1]
    exact ⟨true, rfl, fun _ => h2, fun _ => rfl⟩
  · rw [h1]
    exact ⟨false, rfl, fun h => (by cases h), fun h => absurd (h a h2) h3⟩

def okS (o : TOp) : Prop := p_spec_l08OpOK o = some true
theorem okS_1 {o : TOp} (h : okS o) : Ok1 o := by
  obtain ⟨b, h1, h2⟩ := q_opOK o
  unfold okS at h
  rw [h] at h1
  cases h1
  exact h2 rfl
def cv (t : Int) : Int := if t = 4 then 3 else t
theorem q_Thing {o : TOp} (h : Ok1 o) : p_spec_l08Thing o.kind = some (cv (thing o)) := by
  have h0 := h.k0
  have h1 := h.k1
  unfold p_spec_l08Thing cv thing
  have : o.kind = 1 ∨ o.kind = 2 ∨ o.kind = 3 ∨ o.kind = 4 := by omega
  rcases this with h | h | h | h <;> simp [h]
theorem thing_range {o : TOp} (h : Ok1 o) : thing o = 1 ∨ thing o = 2 ∨ thing o = 4 := by
  have h0 := h.k0
  have h1 := h.k1
  unfold thing
  split <;> omega
theorem lt_range {P : List TOp} (h : ∀ o, o ∈ P → Ok1 o) (b : Int) : lastThing P b = 0 ∨ lastThing P b = 1 ∨ lastThing P b = 2 ∨ lastThing P b = 4 := by
  unfold lastThing
  have key : ∀ (P : List TOp) (t : Int), (∀ o, o ∈ P → Ok1 o) → (t = 0 ∨ t = 1 ∨ t = 2 ∨ t = 4) → (P.foldl (fun t o => if o.obj = b then thing o else t) t = 0 ∨ P.foldl (fun t o => if o.obj = b then thing o else t) t = 1 ∨ P.foldl (fun t o => if o.obj = b then thing o else t) t = 2 ∨ P.foldl (fun t o => if o.obj = b then thing o else t) t = 4) := by
    intro P
    induction P with
    | nil => intro t _ ht; exact ht
    | cons o P ih =>
      intro t h ht
      rw [List.foldl_cons]
      refine ih _ (fun x hx => h x (List.mem_cons_of_mem _ hx)) ?_
      split
      · have := thing_range (h o (by simp))
        omega
      · exact ht
  exact key P 0 h (.inl rfl)
theorem cv_zero {t : Int} : cv t = 0 ↔ t = 0 := by unfold cv; split <;> omega
theorem cv_inj {t u : Int} (ht : t = 0 ∨ t = 1 ∨ t = 2 ∨ t = 4) (hu : u = 1 ∨ u = 2 ∨ u = 4) : cv t = cv u ↔ t = u := by
  unfold cv
  split <;> split <;> omega

theorem q_specL0 (L : List TOp) (hL : L.length ≤ 1024) : ∃ e, loopP (p_spec_LogOK_l0 L) 0 = some e ∧ ((∃ s, e = .out s ∧ G okS L) ∨ (e = .ret false ∧ ¬ G okS L)) :=
  loop_count (step := p_spec_LogOK_l0 L) L.length (fun i s => s = (i : Int) ∧ G okS (L.take i)) (fun e => (∃ s, e = .out s ∧ G okS L) ∨ (e = .ret false ∧ ¬ G okS L)) (by
      rintro i _ hi ⟨rfl, hg⟩
      obtain ⟨o, ho, ho'⟩ := get_lt (xs := L) hi
      obtain ⟨b, hb, _⟩ := q_opOK o
      have hd : decide ((i : Int) < (L.length : Int)) = true := by simpa using hi
      have good : Step okS (L.take i) o → p_spec_LogOK_l0 L (i : Int) = some (.go ((i + 1 : Nat) : Int)) → (∃ s', p_spec_LogOK_l0 L (i : Int) = some (.go s') ∧ (s' = ((i + 1 : Nat) : Int) ∧ G okS (L.take (i + 1)))) := fun h1 h2 =>
        ⟨_, h2, rfl, by rw [take_next ho']; exact .snoc hg h1⟩
      have bad : ¬ Step okS (L.take i) o → p_spec_LogOK_l0 L (i : Int) = some (.ret false) → ∃ r, p_spec_LogOK_l0 L (i : Int) = some (.ret r) ∧ ((∃ s, (Ex.ret r : Ex Int Bool) = .out s ∧ G okS L) ∨ ((Ex.ret r : Ex Int Bool) = .ret false ∧ ¬ G okS L)) := fun h1 h2 =>
        ⟨_, h2, .inr ⟨rfl, fun h => h1 (G_iff.1 h i o ho')⟩⟩
      have hstep : p_spec_LogOK_l0 L (i : Int) = some (.go ((i + 1 : Nat) : Int)) ∧ Step okS (L.take i) o ∨ p_spec_LogOK_l0 L (i : Int) = some (.ret false) ∧ ¬ Step okS (L.take i) o := by
        simp only [p_spec_LogOK_l0]
        rw [if_t hd, ho, Option.bind_some, hb, Option.bind_some]
        cases b with
        | false =>
          right
          exact ⟨rfl, fun h => by have := h.1; unfold okS at this; rw [hb] at this; cases this⟩
        | true =>
          have hok : okS o := hb
          rw [if_pos rfl]
          rcases Nat.eq_zero_or_pos i with rfl | hi0
          · rw [if_pos (by rfl), List.take_zero, step_first]
            by_cases h1 : o.seq = 1
            · left
              rw [if_pos (by simpa using h1), if_neg (by decide), w64_succ (by omega)]
              exact ⟨rfl, hok, h1⟩
            · right
              rw [if_neg (by simpa using h1)]
              exact ⟨rfl, fun h => h1 h.2⟩
          · obtain ⟨p, hp, hp'⟩ := get_lt (xs := L) (i := i - 1) (by omega)
            have htl := take_last hi0 hp'
            rw [htl] at hg ⊢
            have hpk : Ok1 p := okS_1 (G_ok hg (by simp))
            have hps := hpk.s1
            have hps0 := hpk.s0
            have hi1 : decide ((0 : Int) < (i : Int)) = true := by simp; omega
            rw [step_next hg, if_neg (by simp; omega), w64_pred hi0 (by omega), hp, Option.bind_some]
            by_cases h1 : o.actor = p.actor
            · rw [if_pos (by simpa using h1), w64_id (n := p.seq + 1) (by omega) (by omega)]
              by_cases h2 : o.seq = p.seq + 1
              · left
                rw [if_pos (by simpa using h2), w64_succ (by omega)]
                exact ⟨rfl, hok, .inl ⟨h1, h2⟩⟩
              · right
                rw [if_neg (by simpa using h2)]
                exact ⟨rfl, fun h => by rcases h.2 with h | h <;> omega⟩
            · rw [if_neg (by simpa using h1)]
              by_cases h2 : o.seq = 1
              · rw [if_pos (by simpa using h2), if_t hi1]
                by_cases h3 : o.actor < p.actor
                · right
                  rw [if_pos (by simpa using h3)]
                  exact ⟨rfl, fun h => by rcases h.2 with h | h <;> omega⟩
                · left
                  rw [if_neg (by simpa using h3), w64_succ (by omega)]
                  exact ⟨rfl, hok, .inr ⟨by omega, h2⟩⟩
              · right
                rw [if_neg (by simpa using h2)]
                exact ⟨rfl, fun h => by rcases h.2 with h | h <;> omega⟩
      rcases hstep with ⟨h1, h2⟩ | ⟨h1, h2⟩
      · exact .inl (good h2 h1)
      · exact .inr (.inr (bad h2 h1)))
    (by
      rintro _ ⟨rfl, hg⟩
      left
      rw [List.take_length] at hg
      refine ⟨(L.length : Int), ?_, .inl ⟨_, rfl, hg⟩⟩
      simp only [p_spec_LogOK_l0]
      rw [if_neg (by simp)]) ⟨rfl, by simpa using G.nil⟩

theorem q_specL1 (L : List TOp) (hL : L.length ≤ 1024) (hG : G okS L) {v : TVec} (hv : v.counts.length = 16) (hv' : ∀ a : Nat, a < 16 → v.counts[a]? = some ((ofs L (a : Int)).length : Int)) :
    ∃ e, loopP (p_spec_LogOK_l1 L v) (List.replicate 101 0, 0) = some e ∧ ((∃ s, e = .out s ∧ KK L ∧ CC L) ∨ (e = .ret false ∧ ¬ (KK L ∧ CC L))) :=
  loop_count (step := p_spec_LogOK_l1 L v) L.length (fun i s => s.2 = (i : Int) ∧ s.1.length = 101 ∧ (∀ b : Nat, b < 101 → s.1[b]? = some (cv (lastThing (L.take i) (b : Int)))) ∧ ∀ (j : Nat) (o : TOp), j < i → L[j]? = some o → KS (L.take j) o ∧ ∀ a : Nat, a < 16 → CA L o a)
    (fun e => (∃ s, e = .out s ∧ KK L ∧ CC L) ∨ (e = .ret false ∧ ¬ (KK L ∧ CC L))) (by
      rintro i ⟨s1, s2⟩ hi ⟨h1, h2, h3, h4⟩
      simp only at h1 h2 h3 h4
      subst h1
      obtain ⟨o, ho, ho'⟩ := get_lt (xs := L) hi
      have hok : Ok1 o := okS_1 (G_ok hG (List.mem_of_getElem? ho'))
      have hall : ∀ x, x ∈ L.take i → Ok1 x := fun x hx => okS_1 (G_ok hG (List.mem_of_mem_take hx))
      have hd : decide ((i : Int) < (L.length : Int)) = true := by simpa using hi
      obtain ⟨c, hc, hc'⟩ := q_Causes hG hL hv hv' o hok.dl
      have o0 := hok.o0
      have o1 := hok.o1
      have hgt : get? s1 o.obj = some (cv (lastThing (L.take i) o.obj)) := by
        unfold get?
        rw [if_pos (by omega), h3 o.obj.toNat (by omega), Int.toNat_of_nonneg (by omega)]
      have hnext : KS (L.take i) o → (∀ a : Nat, a < 16 → CA L o a) → ((s1.set o.obj.toNat (cv (thing o))).length = 101 ∧ (∀ b : Nat, b < 101 → (s1.set o.obj.toNat (cv (thing o)))[b]? = some (cv (lastThing (L.take (i + 1)) (b : Int)))) ∧ ∀ (j : Nat) (o : TOp), j < i + 1 → L[j]? = some o → KS (L.take j) o ∧ ∀ a : Nat, a < 16 → CA L o a) := by
        intro k1 k2
        refine ⟨by simp [h2], ?_, ?_⟩
        · intro b hb
          rw [take_next ho', lastThing_snoc]
          by_cases e : o.obj.toNat = b
          · subst e
            rw [List.getElem?_set_self (by omega), if_pos (by omega)]
          · rw [List.getElem?_set_ne e, if_neg (by omega)]
            exact h3 b hb
        · intro j x hj hx
          rcases Nat.lt_or_ge j i with hlt | hge
          · exact h4 j x hlt hx
          · obtain rfl : j = i := by omega
            rw [ho'] at hx
            cases hx
            exact ⟨k1, k2⟩
      simp only [p_spec_LogOK_l1]
      rw [if_t hd, ho, Option.bind_some, hc, Option.bind_some]
      cases c with
      | false =>
        right
        right
        refine ⟨false, rfl, .inr ⟨rfl, fun h => ?_⟩⟩
        have := hc'.2 (h.2 i o ho')
        cases this
      | true =>
        have hca := hc'.1 rfl
        rw [if_pos rfl, q_Thing hok, Option.bind_some, hgt, Option.bind_some, w64_succ (by omega)]
        by_cases e1 : cv (lastThing (L.take i) o.obj) = 0
        · left
          rw [if_pos (by simpa using e1)]
          exact ⟨_, rfl, rfl, hnext (.inl (cv_zero.1 e1)) hca⟩
        · rw [if_neg (by simpa using e1)]
          by_cases e2 : cv (lastThing (L.take i) o.obj) = cv (thing o)
          · left
            rw [if_pos (by simpa using e2)]
            exact ⟨_, rfl, rfl, hnext (.inr ((cv_inj (lt_range hall _) (thing_range hok)).1 e2)) hca⟩
          · right
            right
            rw [if_neg (by simpa using e2)]
            refine ⟨false, rfl, .inr ⟨rfl, fun h => ?_⟩⟩
            rcases h.1 i o ho' with k | k
            · exact e1 (cv_zero.2 k)
            · exact e2 (by rw [k]))
    (by
      rintro ⟨s1, s2⟩ ⟨h1, h2, h3, h4⟩
      simp only at h1 h2 h3 h4
      subst h1
      left
      refine ⟨(s1, (L.length : Int)), ?_, .inl ⟨_, rfl, ?_, ?_⟩⟩
      · simp only [p_spec_LogOK_l1]
        rw [if_neg (by simp)]
      · intro i o hi
        exact (h4 i o (List.getElem?_eq_some_iff.1 hi).1 hi).1
      · intro i o hi
        exact (h4 i o (List.getElem?_eq_some_iff.1 hi).1 hi).2)
    ⟨rfl, by simp, fun b hb => by rw [List.getElem?_replicate, if_pos hb]; rfl, fun j o hj => by omega⟩

theorem q_specLogOK (L : List TOp) : ∃ b, p_spec_LogOK L = some b ∧ (b = true ↔ Valid okS L) := by
  unfold p_spec_LogOK
  by_cases hl : 1024 < L.length
  · rw [if_pos (by simp; omega)]
    exact ⟨false, rfl, fun h => (by cases h), fun h => by have := h.1; omega⟩
  · rw [if_neg (by simp; omega)]
    obtain ⟨e, h1, h2⟩ := q_specL0 L (by omega)
    rw [h1, Option.bind_some]
    rcases h2 with ⟨s, rfl, hG⟩ | ⟨rfl, hG⟩
    · obtain ⟨v, hv, hv1, hv2⟩ := q_Counts L (by omega) (fun o ho => ⟨(okS_1 (G_ok hG ho)).a0, (okS_1 (G_ok hG ho)).a1⟩)
      obtain ⟨e, h3, h4⟩ := q_specL1 L (by omega) hG hv1 hv2
      simp only
      rw [hv, Option.bind_some, show (mkL 101 8 101 0 : Option (List Int)) = some (List.replicate 101 0) from mkL_ok (l := 101) (y := 8) (by decide) (by decide), Option.bind_some, h3, Option.bind_some]
      rcases h4 with ⟨⟨s1, s2⟩, rfl, hK, hC⟩ | ⟨rfl, hK⟩
      · exact ⟨true, rfl, fun _ => ⟨by omega, hG, hK, hC⟩, fun _ => rfl⟩
      · exact ⟨false, rfl, fun h => (by cases h), fun h => absurd ⟨h.2.2.1, h.2.2.2⟩ hK⟩
    · exact ⟨false, rfl, fun h => (by cases h), fun h => absurd h.2.1 hG⟩

def P2 (o : TOp) (s : Option Bool) : Prop := ∃ b, s = some b ∧ (b = true → 0 ≤ o.undo ∧ o.undo < o.seq)
theorem p2_f {o : TOp} : P2 o (some false) := ⟨false, rfl, fun h => by cases h⟩
theorem p2_ite {o : TOp} {c : Bool} {s t : Option Bool} (h1 : c = true → P2 o s) (h2 : c = false → P2 o t) : P2 o (if c = true then s else t) := by
  cases c with
  | true => rw [if_pos rfl]; exact h1 rfl
  | false => rw [if_neg (by simp)]; exact h2 rfl
theorem q_undoOK (o : TOp) : P2 o (p_spec_l08OpOK o) := by
  unfold p_spec_l08OpOK
  obtain ⟨c, hc⟩ := q_Char o.n
  obtain ⟨d, hd, hd'⟩ := q_specVecOK2 o.deps
  rw [show p_spec_l08Stamp o = some ⟨o.time, o.actor⟩ from rfl, Option.bind_some, q_StampOK, Option.bind_some, hd, Option.bind_some]
  simp only [q_None, q_StampOK, q_StampLess, hc, Option.bind_some]
  refine p2_ite (fun h1 => ?_) (fun _ => p2_f)
  refine p2_ite (fun _ => p2_f) (fun h2 => ?_)
  refine p2_ite (fun _ => p2_f) (fun h3 => ?_)
  refine p2_ite (fun h4 => ?_) (fun _ => p2_f)
  simp only [decide_eq_true_eq, decide_eq_false_iff_not] at h1 h2 h3
  obtain ⟨v7, hv7⟩ : ∃ v, get? o.deps.counts o.actor = some v := by
    obtain ⟨x, hx, _⟩ := get_lt (xs := o.deps.counts) (i := o.actor.toNat) (by have := (hd' h4).1; omega)
    rw [Int.toNat_of_nonneg (by omega)] at hx
    exact ⟨x, hx⟩
  rw [hv7, Option.bind_some]
  refine p2_ite (fun h5 => ?_) (fun _ => p2_f)
  refine p2_ite (fun _ => p2_f) (fun h6 => ?_)
  refine p2_ite (fun _ => p2_f) (fun h7 => ?_)
  refine p2_ite (fun _ => p2_f) (fun h8 => ?_)
  refine p2_ite (fun _ => p2_f) (fun h9 => ?_)
  refine p2_ite (fun _ => p2_f) (fun h10 => ?_)
  refine p2_ite (fun _ => p2_f) (fun h11 => ?_)
  simp only [decide_eq_true_eq, decide_eq_false_iff_not] at h10 h11
  have hk : 0 ≤ o.undo ∧ o.undo < o.seq := by omega
  repeat' (first | exact p2_f | refine p2_ite (fun _ => ?_) (fun _ => ?_))
  all_goals exact ⟨_, rfl, fun _ => hk⟩
theorem okS_undo {o : TOp} (h : okS o) : 0 ≤ o.undo ∧ o.undo < o.seq := by
  obtain ⟨b, h1, h2⟩ := q_undoOK o
  unfold okS at h
  rw [h] at h1
  cases h1
  exact h2 rfl

theorem q_thing (o : TOp) : p_impl_Op_thing o = some (thing o) := by
  unfold p_impl_Op_thing thing
  simp only [decide_eq_true_eq]
  split <;> rfl
theorem q_put {k : TBook} {P : List TOp} {o : TOp} (hR : Rep k P) (h : Ok1 o) (hP : P.length ≤ 1024) : ∃ k', p_impl_book_put k o = some k' ∧ Rep k' (P ++ [o]) := by
  have a0 := h.a0
  have a1 := h.a1
  have o0 := h.o0
  have o1 := h.o1
  have h1 : get? k.of_ o.actor = some (ofs P o.actor) := by
    unfold get?
    rw [if_pos a0, hR.of_ o.actor.toNat (by omega), Int.toNat_of_nonneg a0]
  have h2 : get? k.kind o.obj = some (lastThing P o.obj) := by
    unfold get?
    rw [if_pos (by omega), hR.kind o.obj.toNat (by omega), Int.toNat_of_nonneg (by omega)]
  have h3 : (ofs P o.actor).length ≤ 1024 := Nat.le_trans ofs_len hP
  have rep : ∀ k' : TBook, k'.of_ = k.of_.set o.actor.toNat (ofs P o.actor ++ [o]) → k'.kind = k.kind.set o.obj.toNat (thing o) → Rep k' (P ++ [o]) := by
    intro k' e1 e2
    refine ⟨fun a ha => ?_, fun b hb => ?_⟩
    · rw [e1, ofs_snoc]
      by_cases e : o.actor.toNat = a
      · subst e
        rw [List.getElem?_set_self (by rw [k.h1]; omega), if_pos (by omega), Int.toNat_of_nonneg a0]
      · rw [List.getElem?_set_ne e, if_neg (by omega)]
        exact hR.of_ a ha
    · rw [e2, lastThing_snoc]
      by_cases e : o.obj.toNat = b
      · subst e
        rw [List.getElem?_set_self (by rw [k.h2]; omega), if_pos (by omega)]
      · rw [List.getElem?_set_ne e, if_neg (by omega)]
        exact hR.kind b hb
  unfold p_impl_book_put
  rw [h1, Option.bind_some, app_one (by omega), Option.bind_some, q_thing, Option.bind_some, h2, Option.bind_some, show p_impl_Op_stamp o = some ⟨o.time, o.actor⟩ from rfl, Option.bind_some, q_implStampLess, q_StampLess, Option.bind_some]
  split
  · exact ⟨_, rfl, rep _ rfl rfl⟩
  · exact ⟨_, rfl, rep _ rfl rfl⟩

theorem all_loopR {ρ : Type} {step : Int → Option (Lp Int ρ)} {r : ρ} (n : Nat) (good : Nat → Prop)
    (h : ∀ i, i < n → (good i ∧ step (i : Int) = some (.go ((i + 1 : Nat) : Int))) ∨ (¬ good i ∧ step (i : Int) = some (.ret r))) (he : step (n : Int) = some (.out (n : Int))) :
    (loopP step 0 = some (.out (n : Int)) ∧ ∀ i, i < n → good i) ∨ (loopP step 0 = some (.ret r) ∧ ∃ i, i < n ∧ ¬ good i) := by
  obtain ⟨e, h1, h2⟩ := loop_count (step := step) n (fun i s => s = (i : Int) ∧ ∀ j, j < i → good j) (fun e => (e = .out (n : Int) ∧ ∀ i, i < n → good i) ∨ (e = .ret r ∧ ∃ i, i < n ∧ ¬ good i)) (by
      rintro i _ hi ⟨rfl, hg⟩
      rcases h i hi with ⟨h1, h2⟩ | ⟨h1, h2⟩
      · refine .inl ⟨_, h2, rfl, fun j hj => ?_⟩
        rcases Nat.lt_or_ge j i with hlt | hge
        · exact hg j hlt
        · obtain rfl : j = i := by omega
          exact h1
      · exact .inr (.inr ⟨_, h2, .inr ⟨rfl, i, hi, h1⟩⟩))
    (by
      rintro _ ⟨rfl, hg⟩
      exact .inl ⟨_, he, .inl ⟨rfl, hg⟩⟩) (s := 0) ⟨rfl, fun j hj => by omega⟩
  rcases h2 with ⟨rfl, h3⟩ | ⟨rfl, h3⟩
  · exact .inl ⟨h1, h3⟩
  · exact .inr ⟨h1, h3⟩

theorem q_opOKi (o : TOp) : p_impl_opOK o = p_spec_l08OpOK o := by
  unfold p_impl_opOK p_spec_l08OpOK
  have hc : ∀ n, p_impl_charOK n = p_spec_l04Char n := fun n => rfl
  have h1 : p_impl_Op_stamp o = some ⟨o.time, o.actor⟩ := rfl
  have h2 : p_spec_l08Stamp o = some ⟨o.time, o.actor⟩ := rfl
  rw [h1, h2]
  simp only [Option.bind_some, q_implStampOK, q_implVecOK, q_implStampLess, q_None, hc]

def badB : T2 (Option TBook) Bool := ⟨none, false⟩
theorem q_implL0 (L : List TOp) (hL : L.length ≤ 1024) : ∃ e, loopP (p_impl_readBook_l0 L) (book0, 0) = some e ∧ ((∃ k s, e = .out (k, s) ∧ G okS L ∧ KK L ∧ Rep k L) ∨ (e = .ret badB ∧ ¬ (G okS L ∧ KK L))) :=
  loop_count (step := p_impl_readBook_l0 L) L.length (fun i s => s.2 = (i : Int) ∧ G okS (L.take i) ∧ Rep s.1 (L.take i) ∧ ∀ (j : Nat) (o : TOp), j < i → L[j]? = some o → KS (L.take j) o)
    (fun e => (∃ k s, e = .out (k, s) ∧ G okS L ∧ KK L ∧ Rep k L) ∨ (e = .ret badB ∧ ¬ (G okS L ∧ KK L))) (by
      rintro i ⟨k, s2⟩ hi ⟨h1, hg, hR, hK⟩
      simp only at h1 hR
      subst h1
      obtain ⟨o, ho, ho'⟩ := get_lt (xs := L) hi
      obtain ⟨b, hb, _⟩ := q_opOK o
      have hd : decide ((i : Int) < (L.length : Int)) = true := by simpa using hi
      have hlen : (L.take i).length ≤ 1024 := by rw [List.length_take]; omega
      have good : ∀ k', Step okS (L.take i) o → KS (L.take i) o → Rep k' (L.take i ++ [o]) → G okS (L.take (i + 1)) ∧ Rep k' (L.take (i + 1)) ∧ ∀ (j : Nat) (o : TOp), j < i + 1 → L[j]? = some o → KS (L.take j) o := by
        intro k' h1 h2 h3
        rw [take_next ho']
        refine ⟨.snoc hg h1, h3, fun j x hj hx => ?_⟩
        rcases Nat.lt_or_ge j i with hlt | hge
        · exact hK j x hlt hx
        · obtain rfl : j = i := by omega
          rw [ho'] at hx
          cases hx
          exact h2
      have bad : ¬ (Step okS (L.take i) o ∧ KS (L.take i) o) → ¬ (G okS L ∧ KK L) := fun h1 h => h1 ⟨G_iff.1 h.1 i o ho', h.2 i o ho'⟩
      -- what follows once the place in the order is right
      have tail : okS o → (Step okS (L.take i) o ↔ o.seq = (ofs (L.take i) o.actor).length + 1) →
          ∀ t, t = ((get? k.of_ o.actor).bind fun v => if (decide (o.seq = w64 ((v.length : Int) + 1))) = true then (get? k.kind o.obj).bind fun w => if (decide (w = 0)) = true then (p_impl_book_put k o).bind fun q => some (.go (q, w64 ((i : Int) + 1))) else (p_impl_Op_thing o).bind fun u => if (decide (w = u)) = true then (p_impl_book_put k o).bind fun q => some (.go (q, w64 ((i : Int) + 1))) else some (.ret badB) else some (.ret badB) : Option (Lp (TBook × Int) (T2 (Option TBook) Bool))) →
          (∃ s', t = some (.go s') ∧ (s'.2 = ((i + 1 : Nat) : Int) ∧ G okS (L.take (i + 1)) ∧ Rep s'.1 (L.take (i + 1)) ∧ ∀ (j : Nat) (o : TOp), j < i + 1 → L[j]? = some o → KS (L.take j) o)) ∨ (t = some (.ret badB) ∧ ¬ (G okS L ∧ KK L)) := by
        rintro hok hst t rfl
        have h1 := okS_1 hok
        have a0 := h1.a0
        have a1 := h1.a1
        have o0 := h1.o0
        have o1 := h1.o1
        obtain ⟨k', hk', hk2⟩ := q_put hR h1 hlen
        have g1 : get? k.of_ o.actor = some (ofs (L.take i) o.actor) := by
          unfold get?
          rw [if_pos a0, hR.of_ o.actor.toNat (by omega), Int.toNat_of_nonneg a0]
        have g2 : get? k.kind o.obj = some (lastThing (L.take i) o.obj) := by
          unfold get?
          rw [if_pos (by omega), hR.kind o.obj.toNat (by omega), Int.toNat_of_nonneg (by omega)]
        have g3 : (ofs (L.take i) o.actor).length ≤ 1024 := Nat.le_trans ofs_len hlen
        rw [g1, Option.bind_some, w64_succ (by omega), hk', q_thing, g2]
        simp only [Option.bind_some]
        by_cases e1 : o.seq = (((ofs (L.take i) o.actor).length + 1 : Nat) : Int)
        · rw [if_pos (by simpa using e1), w64_succ (by omega)]
          have hs : Step okS (L.take i) o := hst.2 (by omega)
          by_cases e2 : lastThing (L.take i) o.obj = 0
          · rw [if_pos (by simpa using e2)]
            exact .inl ⟨_, rfl, rfl, good k' hs (.inl e2) hk2⟩
          · rw [if_neg (by simpa using e2)]
            by_cases e3 : lastThing (L.take i) o.obj = thing o
            · rw [if_pos (by simpa using e3)]
              exact .inl ⟨_, rfl, rfl, good k' hs (.inr e3) hk2⟩
            · rw [if_neg (by simpa using e3)]
              exact .inr ⟨rfl, bad fun h => h.2.elim e2 e3⟩
        · rw [if_neg (by simpa using e1)]
          exact .inr ⟨rfl, bad fun h => e1 (by have := hst.1 h.1; omega)⟩
      have fin : ∀ t : Option (Lp (TBook × Int) (T2 (Option TBook) Bool)), ((∃ s', t = some (.go s') ∧ (s'.2 = ((i + 1 : Nat) : Int) ∧ G okS (L.take (i + 1)) ∧ Rep s'.1 (L.take (i + 1)) ∧ ∀ (j : Nat) (o : TOp), j < i + 1 → L[j]? = some o → KS (L.take j) o)) ∨ (t = some (.ret badB) ∧ ¬ (G okS L ∧ KK L))) →
          p_impl_readBook_l0 L (k, (i : Int)) = t → (∃ s', p_impl_readBook_l0 L (k, (i : Int)) = some (.go s') ∧ (s'.2 = ((i + 1 : Nat) : Int) ∧ G okS (L.take (i + 1)) ∧ Rep s'.1 (L.take (i + 1)) ∧ ∀ (j : Nat) (o : TOp), j < i + 1 → L[j]? = some o → KS (L.take j) o)) ∨ (∃ s', p_impl_readBook_l0 L (k, (i : Int)) = some (.out s') ∧ ((∃ k s, (Ex.out s' : Ex (TBook × Int) (T2 (Option TBook) Bool)) = .out (k, s) ∧ G okS L ∧ KK L ∧ Rep k L) ∨ ((Ex.out s' : Ex (TBook × Int) (T2 (Option TBook) Bool)) = .ret badB ∧ ¬ (G okS L ∧ KK L)))) ∨ (∃ r, p_impl_readBook_l0 L (k, (i : Int)) = some (.ret r) ∧ ((∃ k s, (Ex.ret r : Ex (TBook × Int) (T2 (Option TBook) Bool)) = .out (k, s) ∧ G okS L ∧ KK L ∧ Rep k L) ∨ ((Ex.ret r : Ex (TBook × Int) (T2 (Option TBook) Bool)) = .ret badB ∧ ¬ (G okS L ∧ KK L)))) := by
        rintro t (⟨s', h1, h2⟩ | ⟨h1, h2⟩) e
        · exact .inl ⟨s', e.trans h1, h2⟩
        · exact .inr (.inr ⟨_, e.trans h1, .inr ⟨rfl, h2⟩⟩)
      cases b with
      | false =>
        refine fin (some (.ret badB)) (.inr ⟨rfl, bad fun h => by have := h.1.1; unfold okS at this; rw [hb] at this; cases this⟩) ?_
        simp only [p_impl_readBook_l0]
        rw [if_t hd, ho, Option.bind_some, q_opOKi, hb, Option.bind_some]
        rfl
      | true =>
        have hok : okS o := hb
        rcases Nat.eq_zero_or_pos i with rfl | hi0
        · refine fin _ (tail hok (by rw [List.take_zero, step_first]; simp [ofs, hok]) _ rfl) ?_
          simp only [p_impl_readBook_l0]
          rw [if_t hd, ho, Option.bind_some, q_opOKi, hb, Option.bind_some, if_pos rfl, if_neg (by decide)]
          rfl
        · obtain ⟨p, hp, hp'⟩ := get_lt (xs := L) (i := i - 1) (by omega)
          have htl := take_last hi0 hp'
          have hg2 := hg
          rw [htl] at hg2
          have hi1 : decide ((0 : Int) < (i : Int)) = true := by simp; omega
          by_cases h1 : o.actor < p.actor
          · refine fin (some (.ret badB)) (.inr ⟨rfl, bad fun h => ?_⟩) ?_
            · have := (h.1.2.1 p (by rw [htl]; simp))
              omega
            · simp only [p_impl_readBook_l0]
              rw [if_t hd, ho, Option.bind_some, q_opOKi, hb, Option.bind_some, if_pos rfl, if_t hi1, w64_pred hi0 (by omega), hp, Option.bind_some, if_pos (by simpa using h1)]
              rfl
          · refine fin _ (tail hok ?_ _ rfl) ?_
            · have := step_le (o := o) hg2
              rw [← htl] at this
              rw [this]
              constructor
              · exact fun h => h.2.2
              · exact fun h => ⟨hok, by omega, h⟩
            · simp only [p_impl_readBook_l0]
              rw [if_t hd, ho, Option.bind_some, q_opOKi, hb, Option.bind_some, if_pos rfl, if_t hi1, w64_pred hi0 (by omega), hp, Option.bind_some, if_neg (by simpa using h1)]
              rfl)
    (by
      rintro ⟨k, s2⟩ ⟨h1, hg, hR, hK⟩
      simp only at h1 hR
      subst h1
      left
      rw [List.take_length] at hg hR
      refine ⟨(k, (L.length : Int)), ?_, .inl ⟨k, _, rfl, hg, ?_, hR⟩⟩
      · simp only [p_impl_readBook_l0]
        rw [if_neg (by simp)]
      · intro i o hi
        exact hK i o (List.getElem?_eq_some_iff.1 hi).1 hi)
    ⟨rfl, by simpa using G.nil, ⟨fun a ha => by simp only [book0]; rw [List.getElem?_replicate, if_pos ha]; rfl, fun b hb => by simp only [book0]; rw [List.getElem?_replicate, if_pos hb]; rfl⟩, fun j o hj => by omega⟩

theorem q_implL1 (L : List TOp) (k : TBook) (hR : Rep k L) (hL : L.length ≤ 1024) (o : TOp) (ho : Ok1 o) :
    (loopP (p_impl_readBook_l1 k o) 0 = some (.out 16) ∧ ∀ a : Nat, a < 16 → CA L o a) ∨ (loopP (p_impl_readBook_l1 k o) 0 = some (.ret badB) ∧ ∃ a : Nat, a < 16 ∧ ¬ CA L o a) := by
  have key := all_loopR (step := p_impl_readBook_l1 k o) (r := badB) 16 (CA L o) (by
    intro a ha
    obtain ⟨n, hn, hn'⟩ := get_lt (xs := o.deps.counts) (i := a) (by rw [ho.dl]; omega)
    have hb := ho.db n (List.mem_of_getElem? hn')
    have hc : get? k.of_ (a : Int) = some (ofs L (a : Int)) := by
      unfold get?
      rw [if_pos (by omega), Int.toNat_natCast]
      exact hR.of_ a ha
    have hd16 : decide ((a : Int) < (o.deps.counts.length : Int)) = true := by rw [ho.dl]; simp; omega
    simp only [p_impl_readBook_l1]
    rw [if_t hd16, hn, Option.bind_some, hc, Option.bind_some]
    by_cases h1 : ((ofs L (a : Int)).length : Int) < n
    · right
      rw [if_pos (by simpa using h1)]
      exact ⟨fun h => by have := (h n hn').1; omega, rfl⟩
    · rw [if_neg (by simpa using h1)]
      by_cases h2 : 0 < n
      · obtain ⟨p, hp, hp'⟩ := get_lt (xs := ofs L (a : Int)) (i := (n - 1).toNat) (by omega)
        rw [Int.toNat_of_nonneg (by omega)] at hp
        rw [if_pos (by simpa using h2), w64_id (by omega) (by omega), hp, Option.bind_some, show p_impl_Op_stamp p = some ⟨p.time, p.actor⟩ from rfl, Option.bind_some, show p_impl_Op_stamp o = some ⟨o.time, o.actor⟩ from rfl, Option.bind_some, q_implStampLess, q_StampLess, Option.bind_some]
        by_cases h3 : less p o
        · left
          refine ⟨fun n' h => ?_, ?_⟩
          · rw [hn'] at h
            cases h
            exact ⟨by omega, fun _ q hq => by rw [hp'] at hq; cases hq; exact h3⟩
          · rw [if_pos (by unfold less at h3; simpa using h3), w64_succ (by omega)]
        · right
          rw [if_neg (by unfold less at h3; simpa using h3)]
          exact ⟨fun h => h3 ((h n hn').2 h2 p hp'), rfl⟩
      · left
        rw [if_neg (by simpa using h2), w64_succ (by omega)]
        refine ⟨fun n' h => ?_, rfl⟩
        rw [hn'] at h
        cases h
        exact ⟨by omega, fun h => absurd h h2⟩) (by
    simp only [p_impl_readBook_l1]
    rw [if_neg (by rw [ho.dl]; decide)])
  exact key

theorem q_implL2 (L : List TOp) (k : TBook) (hR : Rep k L) (hL : L.length ≤ 1024) (hG : G okS L) :
    (loopP (p_impl_readBook_l2 L k) 0 = some (.out (L.length : Int)) ∧ CC L) ∨ (loopP (p_impl_readBook_l2 L k) 0 = some (.ret badB) ∧ ¬ CC L) := by
  rcases all_loopR (step := p_impl_readBook_l2 L k) (r := badB) L.length (fun i => ∀ o, L[i]? = some o → ∀ a : Nat, a < 16 → CA L o a) (by
    intro i hi
    obtain ⟨o, ho, ho'⟩ := get_lt (xs := L) hi
    have hd : decide ((i : Int) < (L.length : Int)) = true := by simpa using hi
    have hok := okS_1 (G_ok hG (List.mem_of_getElem? ho'))
    simp only [p_impl_readBook_l2]
    rw [if_t hd, ho, Option.bind_some]
    rcases q_implL1 L k hR hL o hok with ⟨h1, h2⟩ | ⟨h1, a, h2, h3⟩
    · left
      rw [h1, Option.bind_some]
      exact ⟨fun x hx => by rw [ho'] at hx; cases hx; exact h2, by simp only; rw [w64_succ (by omega)]⟩
    · right
      rw [h1, Option.bind_some]
      exact ⟨fun h => h3 (h o ho' a h2), rfl⟩) (by
    simp only [p_impl_readBook_l2]
    rw [if_neg (by simp)]) with ⟨h1, h2⟩ | ⟨h1, i, h2, h3⟩
  · exact .inl ⟨h1, fun i o hi => h2 i (List.getElem?_eq_some_iff.1 hi).1 o hi⟩
  · exact .inr ⟨h1, fun h => h3 fun o ho => h i o ho⟩

theorem q_readBook (L : List TOp) : ∃ r, p_impl_readBook L = some r ∧ (r.b = true ↔ Valid okS L) ∧ (r.b = true → ∃ k, r.a = some k ∧ Rep k L) := by
  unfold p_impl_readBook
  by_cases hl : 1024 < L.length
  · rw [if_pos (by simp; omega)]
    exact ⟨_, rfl, ⟨fun h => (by cases h), fun h => by have := h.1; omega⟩, fun h => (by cases h)⟩
  · rw [if_neg (by simp; omega)]
    obtain ⟨e, h1, h2⟩ := q_implL0 L (by omega)
    rw [h1, Option.bind_some]
    rcases h2 with ⟨k, s, rfl, hG, hK, hR⟩ | ⟨rfl, hG⟩
    · simp only
      rcases q_implL2 L k hR (by omega) hG with ⟨h3, h4⟩ | ⟨h3, h4⟩
      · rw [h3, Option.bind_some]
        exact ⟨_, rfl, ⟨fun _ => ⟨by omega, hG, hK, h4⟩, fun _ => rfl⟩, fun _ => ⟨k, rfl, hR⟩⟩
      · rw [h3, Option.bind_some]
        exact ⟨_, rfl, ⟨fun h => (by cases h), fun h => absurd h.2.2.2 h4⟩, fun h => (by cases h)⟩
    · exact ⟨badB, rfl, ⟨fun h => (by cases h), fun h => absurd ⟨h.2.1, h.2.2.1⟩ hG⟩, fun h => (by cases h)⟩

theorem q_szOp (x : TOp) (n : Int) : ∃ m, p_laws_szOp x n = some m := by
  unfold p_laws_szOp
  obtain ⟨m, h⟩ := q_szVector x.deps n
  rw [h, Option.bind_some]
  repeat' split
  all_goals exact ⟨_, rfl⟩
theorem q_szOpS (L : List TOp) (n : Int) (hL : L.length < 9223372036854775807) : ∃ m, p_laws_szOpS L n = some m := by
  unfold p_laws_szOpS
  split
  · exact ⟨_, rfl⟩
  · obtain ⟨e, h1, h2⟩ := loop_count (step := p_laws_szOpS_l0 L) L.length (fun i s => s.2 = (i : Int)) (fun _ => True) (by
      rintro i ⟨s1, s2⟩ hi h1
      simp only at h1
      subst h1
      obtain ⟨o, ho, _⟩ := get_lt (xs := L) hi
      obtain ⟨m, hm⟩ := q_szOp o s1
      have hd : decide ((i : Int) < (L.length : Int)) = true := by simpa using hi
      simp only [p_laws_szOpS_l0]
      rw [if_t hd, ho, Option.bind_some, hm, Option.bind_some, w64_succ (by omega)]
      split
      · exact .inr (.inr ⟨_, rfl, trivial⟩)
      · exact .inl ⟨_, rfl, rfl⟩)
      (by
      rintro ⟨s1, s2⟩ h1
      simp only at h1
      subst h1
      left
      refine ⟨(s1, (L.length : Int)), ?_, trivial⟩
      simp only [p_laws_szOpS_l0]
      rw [if_neg (by simp)]) (s := (w64 (n - (L.length : Int)), 0)) rfl
    rw [h1, Option.bind_some]
    cases e with
    | out s => exact ⟨_, rfl⟩
    | ret r => exact ⟨_, rfl⟩
theorem q_toOp (x : TOp) (hx : okTOp x) : p_laws_toOp x = some x := by
  unfold p_laws_toOp
  rw [q_toVector _ hx.2.2.2.1, Option.bind_some, show p_laws_toStamp x.at_ = some x.at_ from rfl]
  rfl
theorem q_toOpS (L : List TOp) (h1 : L.length * 128 ≤ reachBytes) (h2 : ∀ x, x ∈ L → okTOp x) : p_laws_toOpS L = some L := by
  rw [reach_eq] at h1
  unfold p_laws_toOpS
  rw [if_pos (by omega)]
  obtain ⟨e, h3, rfl⟩ := loop_count (step := p_laws_toOpS_l0 L) L.length (fun i s => s = L.take i) (fun e => e = .out L) (by
      rintro i _ hi rfl
      left
      obtain ⟨o, ho, ho'⟩ := get_lt (xs := L) hi
      have hlen : (L.take i).length = i := by rw [List.length_take]; omega
      refine ⟨L.take (i + 1), ?_, rfl⟩
      simp only [p_laws_toOpS_l0]
      rw [hlen, if_pos hi, ho, Option.bind_some, q_toOp o (h2 o (List.mem_of_getElem? ho')), Option.bind_some, take_next ho'])
    (by
      rintro _ rfl
      left
      refine ⟨L, ?_, rfl⟩
      simp only [p_laws_toOpS_l0]
      rw [List.take_length, if_neg (by omega)]) (s := []) (by simp)
  rw [h3]; rfl
theorem q_eqOp (x : TOp) (hx : okTOp x) : p_laws_eqOp x x = some true := by
  unfold p_laws_eqOp
  have h : p_laws_eqStamp x.at_ x.at_ = some true := by unfold p_laws_eqStamp; simp
  rw [q_eqVector _ hx.2.2.2.1, h]
  simp
theorem q_eqOpS (L : List TOp) (hL : L.length < 9223372036854775807) (h2 : ∀ x, x ∈ L → okTOp x) : p_laws_eqOpS L L = some true := by
  unfold p_laws_eqOpS
  rw [if_pos (by simp)]
  have e : p_laws_eqOpS_l0 L L = eqStep L L p_laws_eqOp := rfl
  rw [e]
  obtain ⟨i, h⟩ := eq_loop (x := L) (g := p_laws_eqOp) (fun a ha => q_eqOp a (h2 a ha)) hL
  rw [h]; rfl

theorem q_markText (n : Int) (hn : n < 4611686018427387904) : ∃ s, p_laws_markText n = some s := by
  unfold p_laws_markText
  by_cases h0 : n ≤ 0
  · rw [if_pos (decide_eq_true h0)]; exact ⟨_, rfl⟩
  · rw [if_neg (by simpa using h0)]
    obtain ⟨e, h1, m, s, rfl, hs⟩ := loopP_inv (step := p_laws_markText_l0) (fun s => 0 ≤ s.1 ∧ s.1 + s.2.size ≤ n) (fun s => s.1.toNat) (fun e => ∃ m s, e = .out (m, s) ∧ (s.size : Int) ≤ n) (by
      rintro ⟨s1, s2⟩ ⟨h2, h3⟩
      simp only at h2 h3
      simp only [p_laws_markText_l0]
      by_cases hd : 0 < s1
      · rw [if_pos (decide_eq_true hd)]
        have hz : ∀ k : Int, (strOfNums [k]).size = 1 := fun k => rfl
        have hc : ∀ k : Int, cat? (strOfNums [k]) s2 = some (strOfNums [k] ++ s2) := by
          intro k
          unfold cat?
          rw [if_pos (by rw [hz]; omega)]
        rw [hc, Option.bind_some]
        refine ⟨_, rfl, ?_⟩
        have hq : s1.tdiv 10 = s1 / 10 := Int.tdiv_eq_ediv_of_nonneg h2
        have hw : w64 (s1.tdiv 10) = s1 / 10 := by rw [hq]; exact w64_id (by omega) (by omega)
        simp only [hw, ByteArray.size_append, hz]
        refine ⟨⟨by omega, by omega⟩, by omega⟩
      · rw [if_neg (by simpa using hd)]
        exact ⟨_, rfl, _, _, rfl, by omega⟩) (s := (n, ByteArray.mk #[])) ⟨by simp only; omega, by simp only; show n + ((0 : Nat) : Int) ≤ n; omega⟩
    rw [h1, Option.bind_some]
    have : cat? (ByteArray.mk #[109]) s = some (ByteArray.mk #[109] ++ s) := by
      unfold cat?
      rw [if_pos (by show ((1 + s.size : Nat) : Int) ≤ _; omega)]
    simp only [this, Option.bind_some]
    exact ⟨_, rfl⟩
noncomputable def mt (n : Int) : ByteArray := (p_laws_markText n).getD (ByteArray.mk #[])
theorem mt_eq {n : Int} (hn : n < 4611686018427387904) : p_laws_markText n = some (mt n) := by
  obtain ⟨s, hs⟩ := q_markText n hn
  unfold mt
  rw [hs]; rfl

theorem q_eqVec (x : TVec) (hx : x.counts.length * 8 ≤ reachBytes) : p_laws_eqVector x x = some true := by
  unfold p_laws_eqVector
  rw [q_eqIntS x.counts hx]; rfl
theorem q_markIntS (x : List Int) (n : Int) (h0 : 0 ≤ n) (hn : n + x.length < 9223372036854775807) : ∃ y, p_laws_markIntS x n = some ⟨n + x.length, y⟩ ∧ y.length = x.length ∧ ∀ j : Nat, j < x.length → y[j]? = some (n + j) := by
  unfold p_laws_markIntS
  obtain ⟨e, h1, y, i, rfl, h2, h3⟩ := loop_count (step := p_laws_markIntS_l0) x.length (fun i s => s.2.1 = n + (i : Int) ∧ s.2.2 = (i : Int) ∧ s.1.length = x.length ∧ ∀ j : Nat, j < i → s.1[j]? = some (n + j))
    (fun e => ∃ y i, e = .out (y, n + x.length, i) ∧ y.length = x.length ∧ ∀ j : Nat, j < x.length → y[j]? = some (n + j)) (by
      rintro i ⟨s0, s1, s2⟩ hi ⟨h1, h2, h3, h4⟩
      simp only at h1 h2 h3 h4
      subst h1 h2
      obtain ⟨a, ha, ha'⟩ := get_lt (xs := s0) (i := i) (by omega)
      have hd : decide ((i : Int) < (s0.length : Int)) = true := by simp; omega
      left
      refine ⟨(s0.set i (n + i), n + ((i + 1 : Nat) : Int), ((i + 1 : Nat) : Int)), ?_, rfl, rfl, by simpa using h3, ?_⟩
      · simp only [p_laws_markIntS_l0]
        rw [if_t hd, ha, Option.bind_some, w64_succ (by omega), w64_id (by omega) (by omega), Int.toNat_natCast, show n + (i : Int) + 1 = n + ((i + 1 : Nat) : Int) from by omega]
      · intro j hj
        simp only [List.getElem?_set]
        by_cases e : i = j
        · subst e
          rw [if_pos rfl, if_pos (by omega)]
        · rw [if_neg e]; exact h4 j (by omega))
    (by
      rintro ⟨s0, s1, s2⟩ ⟨h1, h2, h3, h4⟩
      simp only at h1 h2 h3 h4
      subst h1 h2
      have hd : decide ((x.length : Int) < (s0.length : Int)) = false := by simp; omega
      left
      refine ⟨(s0, n + (x.length : Int), (x.length : Int)), ?_, s0, x.length, rfl, h3, h4⟩
      simp only [p_laws_markIntS_l0]
      rw [if_f hd]) (s := (x, n, 0)) ⟨by simp, rfl, rfl, fun j hj => by omega⟩
  rw [h1]
  exact ⟨y, rfl, h2, h3⟩

theorem q_heldIntS (y : List Int) (n : Int) (h0 : 0 ≤ n) (hn : n + y.length < 9223372036854775807) (hy : ∀ j : Nat, j < y.length → y[j]? = some (n + j)) : p_laws_heldIntS y n = some (n + y.length) := by
  unfold p_laws_heldIntS
  obtain ⟨e, h1, i, rfl⟩ := loop_count (step := p_laws_heldIntS_l0 y) y.length (fun i s => s.1 = n + (i : Int) ∧ s.2 = (i : Int)) (fun e => ∃ i, e = .out (n + y.length, i)) (by
      rintro i ⟨s0, s1⟩ hi ⟨h1, h2⟩
      simp only at h1 h2
      subst h1 h2
      obtain ⟨a, ha, ha'⟩ := get_lt (xs := y) (i := i) hi
      rw [hy i hi] at ha'
      cases ha'
      have hd : decide ((i : Int) < (y.length : Int)) = true := by simp; omega
      left
      refine ⟨(n + ((i + 1 : Nat) : Int), ((i + 1 : Nat) : Int)), ?_, rfl, rfl⟩
      simp only [p_laws_heldIntS_l0]
      rw [if_t hd, ha, Option.bind_some, if_pos (by simp), w64_succ (by omega), w64_id (by omega) (by omega), show n + (i : Int) + 1 = n + ((i + 1 : Nat) : Int) from by omega])
    (by
      rintro ⟨s0, s1⟩ ⟨h1, h2⟩
      simp only at h1 h2
      subst h1 h2
      have hd : decide ((y.length : Int) < (y.length : Int)) = false := by simp
      left
      refine ⟨(n + (y.length : Int), (y.length : Int)), ?_, y.length, rfl⟩
      simp only [p_laws_heldIntS_l0]
      rw [if_f hd]) (s := (n, 0)) ⟨by simp, rfl⟩
  rw [h1]; rfl

/-- What the sizes of a log come to. -/
def szO (o : TOp) : Nat := o.deps.counts.length + o.key.size + o.text.size
def szL (L : List TOp) : Nat := (L.map szO).sum
def cnL (L : List TOp) : Nat := (L.map fun o => o.deps.counts.length).sum
theorem cn_le : ∀ (L : List TOp), cnL L ≤ szL L
  | [] => Nat.le_refl _
  | o :: L => by
    have := cn_le L
    simp only [cnL, szL, List.map_cons, List.sum_cons, szO] at *
    omega
theorem szL_snoc {P : List TOp} {o : TOp} : szL (P ++ [o]) = szL P + szO o := by simp [szL]
theorem cnL_snoc {P : List TOp} {o : TOp} : cnL (P ++ [o]) = cnL P + o.deps.counts.length := by simp [cnL]
theorem q_szOp2 (x : TOp) (hx : okTOp x) (n : Int) (h0 : 0 ≤ n) (h1 : n ≤ 4611686018427387904) : p_laws_szOp x n = some (-1) ∨ (0 ≤ n - (szO x : Int) ∧ p_laws_szOp x n = some (n - (szO x : Int))) := by
  have c := hx.2.2.2.1.1
  have k := hx.2.2.2.2.2.2.2.2.2.1
  have t := hx.2.2.2.2.2.2.2.2.2.2
  rw [reach_eq] at c k t
  unfold p_laws_szOp p_laws_szVector p_laws_szIntS szO
  rw [w64_id (n := n - (x.deps.counts.length : Int)) (by omega) (by omega)]
  simp only [decide_eq_true_eq]
  by_cases h2 : n - (x.deps.counts.length : Int) < 0
  · left
    rw [if_pos h2]
    rfl
  · rw [if_neg h2, Option.bind_some, if_neg h2, Option.bind_some, if_neg h2, w64_id (n := n - (x.deps.counts.length : Int) - (x.key.size : Int)) (by omega) (by omega)]
    by_cases h3 : n - (x.deps.counts.length : Int) - (x.key.size : Int) < 0
    · left
      rw [if_pos h3]
    · rw [if_neg h3, w64_id (n := n - (x.deps.counts.length : Int) - (x.key.size : Int) - (x.text.size : Int)) (by omega) (by omega)]
      by_cases h4 : n - (x.deps.counts.length : Int) - (x.key.size : Int) - (x.text.size : Int) < 0
      · left
        rw [if_pos h4]
      · right
        rw [if_neg h4]
        exact ⟨by omega, by congr 1; omega⟩
theorem q_szOpS3 (L : List TOp) (hL : L.length * 128 ≤ reachBytes) (hx : ∀ x, x ∈ L → okTOp x) (n : Int) (h0 : 0 ≤ n) (h1 : n ≤ 4611686018427387904) : p_laws_szOpS L n = some (-1) ∨ ∃ m, p_laws_szOpS L n = some m ∧ 0 ≤ m ∧ m + (L.length : Int) + (szL L : Int) = n := by
  rw [reach_eq] at hL
  unfold p_laws_szOpS
  rw [w64_id (n := n - (L.length : Int)) (by omega) (by omega)]
  simp only [decide_eq_true_eq]
  by_cases h2 : n - (L.length : Int) < 0
  · left
    rw [if_pos h2]
  · rw [if_neg h2]
    obtain ⟨e, h3, h4⟩ := loop_count (step := p_laws_szOpS_l0 L) L.length (fun i s => s.2 = (i : Int) ∧ 0 ≤ s.1 ∧ s.1 + (szL (L.take i) : Int) = n - (L.length : Int)) (fun e => e = .ret (-1) ∨ ∃ s, e = .out s ∧ 0 ≤ s.1 ∧ s.1 + (szL L : Int) = n - (L.length : Int)) (by
      rintro i ⟨s1, s2⟩ hi ⟨h1, h2, h3⟩
      simp only at h1 h2 h3
      subst h1
      obtain ⟨o, ho, ho'⟩ := get_lt (xs := L) hi
      have hd : decide ((i : Int) < (L.length : Int)) = true := by simpa using hi
      simp only [p_laws_szOpS_l0]
      rw [if_t hd, ho, Option.bind_some]
      rcases q_szOp2 o (hx o (List.mem_of_getElem? ho')) s1 h2 (by omega) with h | ⟨h4, h⟩
      · right
        right
        rw [h]
        exact ⟨-1, rfl, .inl rfl⟩
      · left
        rw [h, Option.bind_some, if_neg (by simp; omega), w64_succ (by omega)]
        refine ⟨_, rfl, rfl, h4, ?_⟩
        simp only
        rw [take_next ho', szL_snoc]
        omega)
      (by
      rintro ⟨s1, s2⟩ ⟨h1, h2, h3⟩
      simp only at h1 h2 h3
      subst h1
      rw [List.take_length] at h3
      left
      refine ⟨(s1, (L.length : Int)), ?_, .inr ⟨_, rfl, h2, h3⟩⟩
      simp only [p_laws_szOpS_l0]
      rw [if_neg (by simp)]) (s := (n - (L.length : Int), 0)) ⟨rfl, by simp only; omega, by simp [szL]⟩
    rw [h3, Option.bind_some]
    rcases h4 with rfl | ⟨s, rfl, h5, h6⟩
    · exact .inl rfl
    · exact .inr ⟨_, rfl, h5, by omega⟩
theorem q_szOpS2 (L : List TOp) (hL : L.length * 128 ≤ reachBytes) (hx : ∀ x, x ∈ L → okTOp x) (n : Int) (h0 : 0 ≤ n) (h1 : n ≤ 4611686018427387904) : p_laws_szOpS L n = some (-1) ∨ ∃ m, p_laws_szOpS L n = some m ∧ (L.length : Int) + (szL L : Int) ≤ n := by
  rcases q_szOpS3 L hL hx n h0 h1 with h | ⟨m, h2, h3, h4⟩
  · exact .inl h
  · exact .inr ⟨m, h2, by omega⟩
theorem q_markOpr (x : TOp) (k : Int) (h0 : 0 ≤ k) (hk : k + 11 + x.deps.counts.length < 4611686018427387904) : ∃ y, p_laws_markOpS_r x k = some ⟨k + 11 + x.deps.counts.length, y⟩ := by
  obtain ⟨y, hy, _⟩ := q_markIntS x.deps.counts (k + 3) (by omega) (by omega)
  obtain ⟨s, hs⟩ := q_markText (k + 3 + x.deps.counts.length + 6) (by omega)
  obtain ⟨t, ht⟩ := q_markText (k + 3 + x.deps.counts.length + 7) (by omega)
  have e1 : w64 (w64 (w64 (k + 1) + 1) + 1) = k + 3 := by rw [w64_id (n := k + 1) (by omega) (by omega), w64_id (n := k + 1 + 1) (by omega) (by omega), w64_id (by omega) (by omega)]; omega
  have e2 : w64 (w64 (w64 (w64 (w64 (w64 (k + 3 + (x.deps.counts.length : Int) + 1) + 1) + 1) + 1) + 1) + 1) = k + 3 + (x.deps.counts.length : Int) + 6 := by simp only [w64_add_l]; rw [w64_id (by omega) (by omega)]; omega
  have e3 : w64 (k + 3 + (x.deps.counts.length : Int) + 6 + 1) = k + 3 + (x.deps.counts.length : Int) + 7 := by rw [w64_id (by omega) (by omega)]; omega
  have e4 : w64 (k + 3 + (x.deps.counts.length : Int) + 7 + 1) = k + 11 + (x.deps.counts.length : Int) := by rw [w64_id (by omega) (by omega)]; omega
  unfold p_laws_markOpS_r
  rw [e1, hy, Option.bind_some]
  simp only
  rw [e2, hs, Option.bind_some, e3, ht, Option.bind_some, e4]
  exact ⟨_, rfl⟩
theorem q_markOpS (L : List TOp) (n : Int) (h0 : 0 ≤ n) (hn : n + 11 * L.length + (cnL L : Int) < 4611686018427387904) : ∃ r, p_laws_markOpS L n = some r ∧ r.a = n + 11 * L.length + (cnL L : Int) := by
  have hsum : ∀ i, cnL (L.take i) ≤ cnL L := fun i => by
    have : cnL (L.take i) + cnL (L.drop i) = cnL L := by
      unfold cnL
      rw [← List.sum_append, ← List.map_append, List.take_append_drop]
    omega
  unfold p_laws_markOpS
  obtain ⟨e, h1, s, k, rfl, h2⟩ := loop_count (step := p_laws_markOpS_l0 L) L.length (fun i s => s.1.length = i ∧ s.2 = n + 11 * (i : Int) + (cnL (L.take i) : Int)) (fun e => ∃ s k, e = .out (s, k) ∧ k = n + 11 * (L.length : Int) + (cnL L : Int)) (by
      rintro i ⟨s1, k⟩ hi ⟨h1, h2⟩
      simp only at h1 h2
      subst h1
      left
      obtain ⟨o, ho, ho'⟩ := get_lt (xs := L) hi
      have hs := hsum (s1.length + 1)
      rw [take_next ho', cnL_snoc] at hs
      obtain ⟨y, hy⟩ := q_markOpr o k (by omega) (by omega)
      refine ⟨(s1 ++ [y], k + 11 + o.deps.counts.length), ?_, by simp, ?_⟩
      · simp only [p_laws_markOpS_l0]
        rw [if_pos hi, ho, Option.bind_some, hy, Option.bind_some, if_pos (by omega)]
      · simp only
        rw [take_next ho', cnL_snoc]
        omega)
    (by
      rintro ⟨s1, k⟩ ⟨h1, h2⟩
      simp only at h1 h2
      rw [List.take_length] at h2
      left
      refine ⟨(s1, k), ?_, s1, k, rfl, h2⟩
      simp only [p_laws_markOpS_l0]
      rw [if_neg (by omega)]) (s := ([], n)) ⟨rfl, by simp [cnL]⟩
  rw [h1, Option.bind_some]
  exact ⟨_, rfl, h2⟩

/-- Which of these operations are undone: told from behind. -/
def UD (M : List TOp) (D : Nat → Bool) : Prop := ∀ i, i < M.length → (D i = true ↔ ∃ j o, i < j ∧ M[j]? = some o ∧ o.undo = (i : Int) + 1 ∧ D j = false)
theorem UD_one {M : List TOp} {D E : Nat → Bool} (hD : UD M D) (hE : UD M E) : ∀ i, i < M.length → D i = E i := by
  have key : ∀ n i, M.length - i ≤ n → i < M.length → D i = E i := by
    intro n
    induction n with
    | zero => intro i h1 h2; omega
    | succ n ih =>
      intro i h1 h2
      have hh : (D i = true ↔ E i = true) := by
        rw [hD i h2, hE i h2]
        constructor
        · rintro ⟨j, o, h3, h4, h5, h6⟩
          have hj := (List.getElem?_eq_some_iff.1 h4).1
          exact ⟨j, o, h3, h4, h5, by rw [← ih j (by omega) hj]; exact h6⟩
        · rintro ⟨j, o, h3, h4, h5, h6⟩
          have hj := (List.getElem?_eq_some_iff.1 h4).1
          exact ⟨j, o, h3, h4, h5, by rw [ih j (by omega) hj]; exact h6⟩
      cases h : D i <;> cases h' : E i <;> simp_all
  exact fun i hi => key M.length i (by omega) hi
theorem q_undone (k : TBook) (L : List TOp) (hR : Rep k L) (hl : L.length ≤ 1024) (a : Nat) (ha : a < 16) (hs : ∀ (j : Nat) (o : TOp), (ofs L (a : Int))[j]? = some o → o.seq = (j : Int) + 1) (hu : ∀ o, o ∈ ofs L (a : Int) → 0 ≤ o.undo ∧ o.undo < o.seq) :
    ∃ s, p_impl_book_undone (some k) (a : Int) = some s ∧ s.length = (ofs L (a : Int)).length + 1 ∧ s[0]? = some false ∧ ∃ D, UD (ofs L (a : Int)) D ∧ ∀ i, i < (ofs L (a : Int)).length → s[i + 1]? = some (D i) := by
  have hM1 : (ofs L (a : Int)).length ≤ 1024 := Nat.le_trans ofs_len hl
  have hc : get? k.of_ (a : Int) = some (ofs L (a : Int)) := by
    unfold get?
    rw [if_pos (by omega), Int.toNat_natCast]
    exact hR.of_ a ha
  generalize ofs L (a : Int) = M at *
  unfold p_impl_book_undone
  rw [Option.bind_some, hc, Option.bind_some, w64_succ (by omega), show (mkL ((M.length + 1 : Nat) : Int) 1 ((M.length + 1 : Nat) : Int) false : Option (List Bool)) = some (List.replicate (M.length + 1) false) from mkL_ok (l := M.length + 1) (y := 1) (by omega) (by omega), Option.bind_some]
  obtain ⟨e, h1, s, n, rfl, h2, h3, h4⟩ := loop_count (step := p_impl_book_undone_l0 M) M.length (fun c s => s.2 = (M.length : Int) - 1 - (c : Int) ∧ s.1.length = M.length + 1 ∧ s.1[0]? = some false ∧ ∀ i, i < M.length → ∃ b, s.1[i + 1]? = some b ∧ (b = true ↔ ∃ j o, M.length ≤ j + c ∧ i < j ∧ M[j]? = some o ∧ o.undo = (i : Int) + 1 ∧ s.1[j + 1]? = some false))
    (fun e => ∃ (s : List Bool) (n : Int), e = .out (s, n) ∧ s.length = M.length + 1 ∧ s[0]? = some false ∧ ∀ i, i < M.length → ∃ b, s[i + 1]? = some b ∧ (b = true ↔ ∃ j o, i < j ∧ M[j]? = some o ∧ o.undo = (i : Int) + 1 ∧ s[j + 1]? = some false)) (by
      rintro c ⟨s4, s5⟩ hc ⟨h1, h2, h3, h4⟩
      simp only at h1 h2 h3 h4
      left
      obtain ⟨j0, hj0⟩ : ∃ j0, j0 + c + 1 = M.length := ⟨M.length - c - 1, by omega⟩
      have e5 : s5 = (j0 : Int) := by omega
      subst e5
      obtain ⟨o, ho, ho'⟩ := get_lt (xs := M) (i := j0) (by omega)
      have hseq := hs j0 o ho'
      obtain ⟨u0, u1⟩ := hu o (List.mem_of_getElem? ho')
      obtain ⟨b9, hb9, hb9'⟩ := h4 j0 (by omega)
      have hd : decide ((0 : Int) ≤ (j0 : Int)) = true := by simp
      have hw : w64 ((j0 : Int) - 1) = (M.length : Int) - 1 - ((c + 1 : Nat) : Int) := by rw [w64_id (by omega) (by omega)]; omega
      simp only [p_impl_book_undone_l0]
      rw [if_t hd, ho, Option.bind_some]
      by_cases hz : 0 < o.undo
      · have g9 : get? s4 o.seq = some b9 := by
          unfold get?
          rw [if_pos (by omega), hseq, show ((j0 : Int) + 1).toNat = j0 + 1 by omega]
          exact hb9
        rw [if_pos (by simpa using hz), g9, Option.bind_some]
        cases b9 with
        | true =>
          rw [if_pos rfl]
          refine ⟨_, rfl, hw, h2, h3, fun i hi => ?_⟩
          obtain ⟨b, hb, hb'⟩ := h4 i hi
          refine ⟨b, hb, hb'.trans ⟨?_, ?_⟩⟩
          · rintro ⟨j, p, k1, k2, k3, k4, k5⟩
            exact ⟨j, p, by omega, k2, k3, k4, k5⟩
          · rintro ⟨j, p, k1, k2, k3, k4, k5⟩
            refine ⟨j, p, ?_, k2, k3, k4, k5⟩
            rcases Nat.lt_or_ge (j + c) M.length with hlt | hge
            · obtain rfl : j = j0 := by omega
              rw [hb9] at k5
              cases k5
            · exact hge
        | false =>
          obtain ⟨u, hu2⟩ : ∃ u : Nat, o.undo = (u : Int) + 1 := ⟨(o.undo - 1).toNat, by omega⟩
          have hun : o.undo.toNat = u + 1 := by omega
          obtain ⟨b12, hb12, _⟩ := h4 u (by omega)
          have g12 : get? s4 o.undo = some b12 := by
            unfold get?
            rw [if_pos (by omega), hun]
            exact hb12
          rw [if_neg (by simp), g12, Option.bind_some]
          refine ⟨_, rfl, hw, by simp [h2], by rw [hun, List.getElem?_set_ne (by omega)]; exact h3, fun i hi => ?_⟩
          obtain ⟨b, hb, hb'⟩ := h4 i hi
          have hset : ∀ j, u < j → (s4.set o.undo.toNat true)[j + 1]? = s4[j + 1]? := fun j hj => by rw [hun, List.getElem?_set_ne (by omega)]
          by_cases hiu : i = u
          · subst hiu
            refine ⟨true, by rw [hun, List.getElem?_set_self (by omega)], fun _ => ⟨j0, o, by omega, by omega, ho', hu2, by rw [hset j0 (by omega)]; exact hb9⟩, fun _ => rfl⟩
          · refine ⟨b, by rw [hun, List.getElem?_set_ne (by omega)]; exact hb, hb'.trans ⟨?_, ?_⟩⟩
            · rintro ⟨j, p, k1, k2, k3, k4, k5⟩
              exact ⟨j, p, by omega, k2, k3, k4, by rw [hset j (by omega)]; exact k5⟩
            · rintro ⟨j, p, k1, k2, k3, k4, k5⟩
              have hju : j = j0 ∨ M.length ≤ j + c := by omega
              rcases hju with rfl | hju
              · rw [ho'] at k3
                cases k3
                omega
              · exact ⟨j, p, hju, k2, k3, k4, by rw [← hset j (by omega)]; exact k5⟩
      · rw [if_neg (by simpa using hz)]
        refine ⟨_, rfl, hw, h2, h3, fun i hi => ?_⟩
        obtain ⟨b, hb, hb'⟩ := h4 i hi
        refine ⟨b, hb, hb'.trans ⟨?_, ?_⟩⟩
        · rintro ⟨j, p, k1, k2, k3, k4, k5⟩
          exact ⟨j, p, by omega, k2, k3, k4, k5⟩
        · rintro ⟨j, p, k1, k2, k3, k4, k5⟩
          refine ⟨j, p, ?_, k2, k3, k4, k5⟩
          rcases Nat.lt_or_ge (j + c) M.length with hlt | hge
          · obtain rfl : j = j0 := by omega
            rw [ho'] at k3
            cases k3
            omega
          · exact hge)
    (by
      rintro ⟨s4, s5⟩ ⟨h1, h2, h3, h4⟩
      simp only at h1 h2 h3 h4
      left
      refine ⟨(s4, s5), ?_, s4, s5, rfl, h2, h3, fun i hi => ?_⟩
      · simp only [p_impl_book_undone_l0]
        rw [if_neg (by simp; omega)]
      · obtain ⟨b, hb, hb'⟩ := h4 i hi
        refine ⟨b, hb, hb'.trans ⟨?_, ?_⟩⟩
        · rintro ⟨j, p, k1, k2, k3, k4, k5⟩
          exact ⟨j, p, k2, k3, k4, k5⟩
        · rintro ⟨j, p, k2, k3, k4, k5⟩
          exact ⟨j, p, by omega, k2, k3, k4, k5⟩) (s := (List.replicate (M.length + 1) false, w64 ((M.length : Int) - 1)))
    ⟨by simp only; rw [w64_id (by omega) (by omega)]; omega, by simp, by rw [List.getElem?_replicate, if_pos (by omega)], fun i hi => ⟨false, by rw [List.getElem?_replicate, if_pos (by omega)], fun h => (by cases h), fun ⟨j, o, k1, k2, k3, _⟩ => by have := (List.getElem?_eq_some_iff.1 k3).1; omega⟩⟩
  rw [h1, Option.bind_some]
  refine ⟨s, rfl, h2, h3, fun i => s[i + 1]?.getD false, ?_, fun i hi => ?_⟩
  · intro i hi
    obtain ⟨b, hb, hb'⟩ := h4 i hi
    simp only [hb, Option.getD_some]
    rw [hb']
    constructor
    · rintro ⟨j, o, k2, k3, k4, k5⟩
      exact ⟨j, o, k2, k3, k4, by rw [k5]; rfl⟩
    · rintro ⟨j, o, k2, k3, k4, k5⟩
      have hj := (List.getElem?_eq_some_iff.1 k3).1
      obtain ⟨b2, hb2, _⟩ := h4 j hj
      rw [hb2] at k5
      simp at k5
      exact ⟨j, o, k2, k3, k4, by rw [hb2, k5]⟩
  · obtain ⟨b, hb, _⟩ := h4 i hi
    simp only [hb]
    rfl

theorem G_sort {ok : TOp → Prop} {L : List TOp} (h : G ok L) {i k : Nat} {o p : TOp} (hik : i < k) (hi : L[i]? = some o) (hk : L[k]? = some p) : o.actor ≤ p.actor := by
  refine (G_iff.1 h k p hk).2.1 o ?_
  refine List.mem_of_getElem? (i := i) ?_
  rw [List.getElem?_take, if_pos hik, hi]
def US (L : List TOp) (i : Nat) (o : TOp) (m : Nat) (s : List Bool) : Prop := ∃ k p, i < k ∧ k < m ∧ L[k]? = some p ∧ p.actor = o.actor ∧ p.undo = o.seq ∧ s[k]? = some false
theorem q_l10in {ok : TOp → Prop} (L : List TOp) (hG : G ok L) (hl : L.length ≤ 1024) (i : Nat) (o : TOp) (ho : L[i]? = some o) (s : List Bool) (hs : s.length = L.length) (h0 : s[i]? = some false) :
    ∃ t n, loopP (p_spec_l10Undone_l1 L (i : Int)) (s, w64 ((i : Int) + 1)) = some (.out (t, n)) ∧ t.length = L.length ∧ (∀ j, j ≠ i → t[j]? = s[j]?) ∧ ∃ b, t[i]? = some b ∧ (b = true ↔ US L i o L.length s) := by
  have hiL := (List.getElem?_eq_some_iff.1 ho).1
  obtain ⟨e, h1, t, n, rfl, h2, h3, h4⟩ := loop_count (step := p_spec_l10Undone_l1 L (i : Int)) (L.length - (i + 1)) (fun c t => t.2 = ((i + 1 + c : Nat) : Int) ∧ t.1.length = L.length ∧ (∀ j, j ≠ i → t.1[j]? = s[j]?) ∧ ∃ b, t.1[i]? = some b ∧ (b = true ↔ US L i o (i + 1 + c) s))
    (fun e => ∃ (t : List Bool) (n : Int), e = .out (t, n) ∧ t.length = L.length ∧ (∀ j, j ≠ i → t[j]? = s[j]?) ∧ ∃ b, t[i]? = some b ∧ (b = true ↔ US L i o L.length s)) (by
      rintro c ⟨s4, s5⟩ hc ⟨h1, h2, h3, b, h4, h5⟩
      simp only at h1 h2 h3 h4 h5
      subst h1
      obtain ⟨p, hp, hp'⟩ := get_lt (xs := L) (i := i + 1 + c) (by omega)
      have hd : decide (((i + 1 + c : Nat) : Int) < (L.length : Int)) = true := by simp; omega
      have hgo : get? L (i : Int) = some o := by
        unfold get?
        rw [if_pos (by omega), Int.toNat_natCast, ho]
      have hw : w64 (((i + 1 + c : Nat) : Int) + 1) = ((i + 1 + (c + 1) : Nat) : Int) := by rw [w64_id (by omega) (by omega)]; omega
      simp only [p_spec_l10Undone_l1]
      rw [if_t hd, hp, Option.bind_some, hgo, Option.bind_some]
      by_cases ha : p.actor = o.actor
      · left
        rw [if_pos (by simpa using ha)]
        by_cases hu : p.undo = o.seq
        · obtain ⟨q, hq⟩ : ∃ q, s[i + 1 + c]? = some q := ⟨_, List.getElem?_eq_getElem (by omega)⟩
          have hg4 : get? s4 ((i + 1 + c : Nat) : Int) = some q := by
            unfold get?
            rw [if_pos (by omega), Int.toNat_natCast, h3 _ (by omega), hq]
          have hg5 : get? s4 (i : Int) = some b := by
            unfold get?
            rw [if_pos (by omega), Int.toNat_natCast, h4]
          rw [if_pos (by simpa using hu), hg4, Option.bind_some]
          cases q with
          | true =>
            rw [if_pos rfl]
            refine ⟨_, rfl, hw, h2, h3, b, h4, h5.trans ⟨?_, ?_⟩⟩
            · rintro ⟨k, r, k1, k2, k3⟩
              exact ⟨k, r, k1, by omega, k3⟩
            · rintro ⟨k, r, k1, k2, k3, k4, k5, k6⟩
              refine ⟨k, r, k1, ?_, k3, k4, k5, k6⟩
              rcases Nat.lt_or_ge k (i + 1 + c) with h | h
              · exact h
              · obtain rfl : k = i + 1 + c := by omega
                rw [hq] at k6
                cases k6
          | false =>
            rw [if_neg (by simp), hg5, Option.bind_some]
            refine ⟨_, rfl, hw, by simp [h2], fun j hj => by rw [Int.toNat_natCast, List.getElem?_set_ne (by omega)]; exact h3 j hj, true, by rw [Int.toNat_natCast, List.getElem?_set_self (by omega)], fun _ => ⟨i + 1 + c, p, by omega, by omega, hp', ha, hu, hq⟩, fun _ => rfl⟩
        · rw [if_neg (by simpa using hu)]
          refine ⟨_, rfl, hw, h2, h3, b, h4, h5.trans ⟨?_, ?_⟩⟩
          · rintro ⟨k, r, k1, k2, k3⟩
            exact ⟨k, r, k1, by omega, k3⟩
          · rintro ⟨k, r, k1, k2, k3, k4, k5, k6⟩
            refine ⟨k, r, k1, ?_, k3, k4, k5, k6⟩
            rcases Nat.lt_or_ge k (i + 1 + c) with h | h
            · exact h
            · obtain rfl : k = i + 1 + c := by omega
              rw [hp'] at k3
              cases k3
              exact absurd k5 hu
      · right
        left
        rw [if_neg (by simpa using ha)]
        refine ⟨_, rfl, _, _, rfl, h2, h3, b, h4, h5.trans ⟨?_, ?_⟩⟩
        · rintro ⟨k, r, k1, k2, k3⟩
          exact ⟨k, r, k1, by omega, k3⟩
        · rintro ⟨k, r, k1, k2, k3, k4, k5, k6⟩
          refine ⟨k, r, k1, ?_, k3, k4, k5, k6⟩
          rcases Nat.lt_or_ge k (i + 1 + c) with h | h
          · exact h
          · exfalso
            have g1 := G_sort hG (i := i) (by omega) ho hp'
            rcases Nat.eq_or_lt_of_le h with h | h
            · subst h
              rw [hp'] at k3
              cases k3
              exact ha k4
            · have g2 := G_sort hG h hp' k3
              omega)
    (by
      rintro ⟨s4, s5⟩ ⟨h1, h2, h3, b, h4, h5⟩
      simp only at h1 h2 h3 h4 h5
      left
      refine ⟨(s4, s5), ?_, s4, s5, rfl, h2, h3, b, h4, ?_⟩
      · simp only [p_spec_l10Undone_l1]
        rw [if_neg (by simp; omega)]
      · rw [h5, show i + 1 + (L.length - (i + 1)) = L.length by omega]) (s := (s, w64 ((i : Int) + 1)))
    ⟨by simp only; rw [w64_id (by omega) (by omega)]; omega, hs, fun _ _ => rfl, false, h0, fun h => (by cases h), fun ⟨k, p, k1, k2, _⟩ => by omega⟩
  exact ⟨t, n, h1, h2, h3, h4⟩
theorem q_l10Undone {ok : TOp → Prop} (L : List TOp) (hG : G ok L) (hl : L.length ≤ 1024) :
    ∃ s, p_spec_l10Undone L = some s ∧ s.length = L.length ∧ ∀ i o, L[i]? = some o → ∃ b, s[i]? = some b ∧ (b = true ↔ US L i o L.length s) := by
  unfold p_spec_l10Undone
  rw [show (mkL (L.length : Int) 1 (L.length : Int) false : Option (List Bool)) = some (List.replicate L.length false) from mkL_ok (l := L.length) (y := 1) (by omega) (by omega), Option.bind_some]
  obtain ⟨e, h1, s, n, rfl, h2, h3⟩ := loop_count (step := p_spec_l10Undone_l2 L) L.length (fun c s => s.2 = (L.length : Int) - 1 - (c : Int) ∧ s.1.length = L.length ∧ ∀ i o, L[i]? = some o → ∃ b, s.1[i]? = some b ∧ (L.length ≤ i + c → (b = true ↔ US L i o L.length s.1)) ∧ (i + c < L.length → b = false))
    (fun e => ∃ (s : List Bool) (n : Int), e = .out (s, n) ∧ s.length = L.length ∧ ∀ i o, L[i]? = some o → ∃ b, s[i]? = some b ∧ (b = true ↔ US L i o L.length s)) (by
      rintro c ⟨s1, s2⟩ hc ⟨h1, h2, h3⟩
      simp only at h1 h2 h3
      left
      obtain ⟨i, hi⟩ : ∃ i, i + c + 1 = L.length := ⟨L.length - c - 1, by omega⟩
      have e2 : s2 = (i : Int) := by omega
      subst e2
      obtain ⟨o, ho, ho'⟩ := get_lt (xs := L) (i := i) (by omega)
      obtain ⟨b, hb, _, hb2⟩ := h3 i o ho'
      have hb3 := hb2 (by omega)
      subst hb3
      obtain ⟨t, n, g1, g2, g3, b', g4, g5⟩ := q_l10in L hG hl i o ho' s1 h2 hb
      have hd : decide ((0 : Int) ≤ (i : Int)) = true := by simp
      have hw : w64 ((i : Int) - 1) = (L.length : Int) - 1 - ((c + 1 : Nat) : Int) := by rw [w64_id (by omega) (by omega)]; omega
      simp only [p_spec_l10Undone_l2]
      rw [if_t hd, g1, Option.bind_some]
      have hus : ∀ j p, i ≤ j → (US L j p L.length t ↔ US L j p L.length s1) := by
        intro j p hj
        constructor
        · rintro ⟨k, r, k1, k2, k3, k4, k5, k6⟩
          exact ⟨k, r, k1, k2, k3, k4, k5, by rw [← g3 k (by omega)]; exact k6⟩
        · rintro ⟨k, r, k1, k2, k3, k4, k5, k6⟩
          exact ⟨k, r, k1, k2, k3, k4, k5, by rw [g3 k (by omega)]; exact k6⟩
      refine ⟨_, rfl, hw, g2, fun j p hp => ?_⟩
      by_cases hj : j = i
      · subst hj
        rw [ho'] at hp
        cases hp
        exact ⟨b', g4, fun _ => by rw [g5, hus j o (Nat.le_refl _)], fun h => by omega⟩
      · obtain ⟨b2, k1, k2, k3⟩ := h3 j p hp
        refine ⟨b2, by simp only; rw [g3 j hj]; exact k1, fun h => ?_, fun h => k3 (by omega)⟩
        simp only
        rw [k2 (by omega), hus j p (by omega)])
    (by
      rintro ⟨s1, s2⟩ ⟨h1, h2, h3⟩
      simp only at h1 h2 h3
      left
      refine ⟨(s1, s2), ?_, s1, s2, rfl, h2, fun i o ho => ?_⟩
      · simp only [p_spec_l10Undone_l2]
        rw [if_neg (by simp; omega)]
      · obtain ⟨b, k1, k2, k3⟩ := h3 i o ho
        exact ⟨b, k1, k2 (by omega)⟩) (s := (List.replicate L.length false, w64 ((L.length : Int) - 1)))
    ⟨by simp only; rw [w64_id (by omega) (by omega)]; omega, by simp, fun i o ho => by
      have := (List.getElem?_eq_some_iff.1 ho).1
      exact ⟨false, by rw [List.getElem?_replicate, if_pos this], fun h => by omega, fun _ => rfl⟩⟩
  rw [h1, Option.bind_some]
  exact ⟨s, rfl, h2, h3⟩
/-- What the specification's list of the undone says of one actor's operations. -/
theorem US_UD {L A B M : List TOp} {a : Int} {s : List Bool} (e : L = A ++ (M ++ B)) (hA : ∀ x, x ∈ A → x.actor < a) (hB : ∀ x, x ∈ B → a < x.actor) (hM : ∀ x, x ∈ M → x.actor = a)
    (hs : ∀ (j : Nat) (o : TOp), M[j]? = some o → o.seq = (j : Int) + 1) (h : ∀ i o, L[i]? = some o → ∃ b, s[i]? = some b ∧ (b = true ↔ US L i o L.length s)) :
    ∃ D, UD M D ∧ ∀ j, j < M.length → s[A.length + j]? = some (D j) := by
  have at_ : ∀ j, j < M.length → L[A.length + j]? = M[j]? := by
    intro j hj
    rw [e, List.getElem?_append_right (by omega), Nat.add_sub_cancel_left, List.getElem?_append_left hj]
  have back : ∀ k p, A.length ≤ k → L[k]? = some p → p.actor = a → k - A.length < M.length := by
    intro k p hk hp ha
    rcases Nat.lt_or_ge (k - A.length) M.length with h | h
    · exact h
    · exfalso
      rw [e, List.getElem?_append_right hk, List.getElem?_append_right h] at hp
      have := hB p (List.mem_of_getElem? hp)
      omega
  refine ⟨fun j => s[A.length + j]?.getD false, fun i hi => ?_, fun j hj => ?_⟩
  · obtain ⟨o, ho⟩ : ∃ o, M[i]? = some o := ⟨_, List.getElem?_eq_getElem hi⟩
    obtain ⟨b, hb, hb'⟩ := h (A.length + i) o (by rw [at_ i hi]; exact ho)
    have hoa := hM o (List.mem_of_getElem? ho)
    have hos := hs i o ho
    simp only [hb, Option.getD_some]
    rw [hb']
    constructor
    · rintro ⟨k, p, k1, k2, k3, k4, k5, k6⟩
      have hk := back k p (by omega) k3 (by omega)
      obtain ⟨j, rfl⟩ : ∃ j, k = A.length + j := ⟨k - A.length, by omega⟩
      have hj : j < M.length := by omega
      refine ⟨j, p, by omega, by rw [← at_ j hj]; exact k3, by omega, by rw [k6]; rfl⟩
    · rintro ⟨j, p, k1, k2, k3, k4⟩
      have hj := (List.getElem?_eq_some_iff.1 k2).1
      have hLj : L[A.length + j]? = some p := by rw [at_ j hj]; exact k2
      obtain ⟨b2, hb2, _⟩ := h _ p hLj
      rw [hb2] at k4
      simp at k4
      subst k4
      exact ⟨A.length + j, p, by omega, (List.getElem?_eq_some_iff.1 hLj).1, hLj, by rw [hoa]; exact hM p (List.mem_of_getElem? k2), by omega, hb2⟩
  · obtain ⟨o, ho⟩ : ∃ o, M[j]? = some o := ⟨_, List.getElem?_eq_getElem hj⟩
    obtain ⟨b, hb, _⟩ := h (A.length + j) o (by rw [at_ j hj]; exact ho)
    simp only [hb]
    rfl
/-- The numbers of the undone among the first m of one actor's operations. -/
def TT (D : Nat → Bool) (m : Nat) : List Int := ((List.range m).filter D).map fun j : Nat => (j : Int) + 1
theorem TT_len {D : Nat → Bool} {m : Nat} : (TT D m).length ≤ m := by
  unfold TT
  rw [List.length_map]
  exact Nat.le_trans (List.length_filter_le _ _) (by simp)
theorem TT_succ {D : Nat → Bool} {m : Nat} : TT D (m + 1) = if D m = true then TT D m ++ [(m : Int) + 1] else TT D m := by
  unfold TT
  rw [List.range_succ, List.filter_append, List.map_append]
  by_cases h : D m = true
  · rw [if_pos h]; simp [h]
  · rw [if_neg h]; simp [h]
theorem TT_eq {D E : Nat → Bool} {m : Nat} (h : ∀ j, j < m → D j = E j) : TT D m = TT E m := by
  unfold TT
  congr 1
  refine List.filter_congr fun j hj => ?_
  exact h j (List.mem_range.1 hj)
theorem q_specOut {L A B M : List TOp} {a : Int} {s : List Bool} {D : Nat → Bool} (hl : L.length ≤ 1024) (hsl : s.length = L.length) (e : L = A ++ (M ++ B)) (hA : ∀ x, x ∈ A → x.actor < a) (hB : ∀ x, x ∈ B → a < x.actor) (hM : ∀ x, x ∈ M → x.actor = a)
    (hs : ∀ (j : Nat) (o : TOp), M[j]? = some o → o.seq = (j : Int) + 1) (hD : ∀ j, j < M.length → s[A.length + j]? = some (D j)) :
    ∃ n, loopP (p_spec_UndoDone_l0 L a s) (([] : List Int), 0) = some (.out (TT D M.length, n)) := by
  have hlen : L.length = A.length + (M.length + B.length) := by rw [e]; simp
  obtain ⟨e2, h1, n, rfl⟩ := loop_count (step := p_spec_UndoDone_l0 L a s) L.length (fun c t => t.2 = (c : Int) ∧ t.1 = TT D (min (c - A.length) M.length))
    (fun e => ∃ n, e = .out (TT D M.length, n)) (by
      rintro c ⟨s5, s6⟩ hc ⟨h1, h2⟩
      simp only at h1 h2
      subst h1 h2
      left
      obtain ⟨o, ho, ho'⟩ := get_lt (xs := L) hc
      have hd : decide ((c : Int) < (L.length : Int)) = true := by simpa using hc
      simp only [p_spec_UndoDone_l0]
      rw [if_t hd, ho, Option.bind_some, w64_succ (by omega)]
      rcases Nat.lt_or_ge c A.length with hcA | hcA
      · have hoA : o.actor < a := by
          rw [e, List.getElem?_append_left hcA] at ho'
          exact hA o (List.mem_of_getElem? ho')
        rw [if_neg (by simp; omega)]
        refine ⟨_, rfl, rfl, ?_⟩
        simp only
        rw [show c - A.length = 0 by omega, show c + 1 - A.length = 0 by omega]
      · obtain ⟨j, rfl⟩ : ∃ j, c = A.length + j := ⟨c - A.length, by omega⟩
        rw [e, List.getElem?_append_right (by omega), Nat.add_sub_cancel_left] at ho'
        rcases Nat.lt_or_ge j M.length with hj | hj
        · rw [List.getElem?_append_left hj] at ho'
          have hoa := hM o (List.mem_of_getElem? ho')
          have hgs : get? s ((A.length + j : Nat) : Int) = some (D j) := by
            unfold get?
            rw [if_pos (by omega), Int.toNat_natCast, hD j hj]
          have m1 : min (A.length + j - A.length) M.length = j := by omega
          have m2 : min (A.length + j + 1 - A.length) M.length = j + 1 := by omega
          have hT := TT_len (D := D) (m := j)
          rw [if_pos (by simpa using hoa), hgs, Option.bind_some]
          cases hDj : D j with
          | true =>
            rw [if_pos rfl, m1, app_one (by omega), Option.bind_some, hs j o ho']
            refine ⟨_, rfl, rfl, ?_⟩
            simp only
            rw [m2, TT_succ, if_pos hDj]
          | false =>
            rw [if_neg (by simp), m1]
            refine ⟨_, rfl, rfl, ?_⟩
            simp only
            rw [m2, TT_succ, if_neg (by simp [hDj])]
        · rw [List.getElem?_append_right hj] at ho'
          have := hB o (List.mem_of_getElem? ho')
          rw [if_neg (by simp; omega)]
          refine ⟨_, rfl, rfl, ?_⟩
          simp only
          rw [show min (A.length + j - A.length) M.length = M.length by omega, show min (A.length + j + 1 - A.length) M.length = M.length by omega])
    (by
      rintro ⟨s5, s6⟩ ⟨h1, h2⟩
      simp only at h1 h2
      subst h1 h2
      left
      refine ⟨_, ?_, (L.length : Int), rfl⟩
      simp only [p_spec_UndoDone_l0]
      rw [if_neg (by simp), show min (L.length - A.length) M.length = M.length by omega]) (s := (([] : List Int), 0)) ⟨rfl, by
        simp only
        rw [show min (0 - A.length) M.length = 0 by omega]; rfl⟩
  exact ⟨n, h1⟩
theorem q_implOut {s : List Bool} {m : Nat} {D : Nat → Bool} (hm : m ≤ 1024) (hl : s.length = m + 1) (h0 : s[0]? = some false) (hD : ∀ i, i < m → s[i + 1]? = some (D i)) :
    ∃ n, loopP (p_impl_UndoDone_l0 s) (([] : List Int), 0) = some (.out (TT D m, n)) := by
  obtain ⟨e2, h1, n, rfl⟩ := loop_count (step := p_impl_UndoDone_l0 s) (m + 1) (fun c t => t.2 = (c : Int) ∧ t.1 = TT D (c - 1))
    (fun e => ∃ n, e = .out (TT D m, n)) (by
      rintro c ⟨s5, s6⟩ hc ⟨h1, h2⟩
      simp only at h1 h2
      subst h1 h2
      left
      have hd : decide ((c : Int) < (s.length : Int)) = true := by simp; omega
      simp only [p_impl_UndoDone_l0]
      rw [if_t hd, w64_succ (by omega)]
      cases c with
      | zero =>
        rw [show get? s ((0 : Nat) : Int) = some false by unfold get?; rw [if_pos (by omega)]; exact h0, Option.bind_some, if_neg (by simp)]
        exact ⟨_, rfl, rfl, rfl⟩
      | succ j =>
        rw [show get? s ((j + 1 : Nat) : Int) = some (D j) by unfold get?; rw [if_pos (by omega), Int.toNat_natCast]; exact hD j (by omega), Option.bind_some]
        have hT := TT_len (D := D) (m := j)
        cases hDj : D j with
        | true =>
          rw [if_pos rfl, Nat.add_sub_cancel, app_one (by omega), Option.bind_some]
          refine ⟨_, rfl, rfl, ?_⟩
          simp only [Nat.add_sub_cancel]
          rw [TT_succ, if_pos hDj]
          simp
        | false =>
          rw [if_neg (by simp)]
          refine ⟨_, rfl, rfl, ?_⟩
          simp only [Nat.add_sub_cancel]
          rw [TT_succ, if_neg (by simp [hDj])])
    (by
      rintro ⟨s5, s6⟩ ⟨h1, h2⟩
      simp only at h1 h2
      subst h1 h2
      left
      refine ⟨_, ?_, ((m + 1 : Nat) : Int), rfl⟩
      simp only [p_impl_UndoDone_l0]
      rw [if_neg (by simp; omega), Nat.add_sub_cancel]) (s := (([] : List Int), 0)) ⟨rfl, rfl⟩
  exact ⟨n, h1⟩

theorem q_isActor (a : Int) : p_impl_isActor a = some (decide (0 ≤ a ∧ a < 16)) := by
  unfold p_impl_isActor
  by_cases h : 0 ≤ a
  · rw [if_pos (by simpa using h)]; simp [h]
  · rw [if_neg (by simpa using h)]; simp [h]
theorem q_UndoDone (x : List TOp) (a : Int) : ∃ r, p_spec_UndoDone x a = some r ∧ p_impl_UndoDone x a = some r ∧ r.a.length ≤ 1024 := by
  unfold p_spec_UndoDone p_impl_UndoDone
  obtain ⟨b, hb, hb'⟩ := q_specLogOK x
  obtain ⟨r, hr, hr', hk⟩ := q_readBook x
  have e : r.b = b := by
    cases h : b <;> cases h2 : r.b <;> simp_all
  rw [hb, hr, Option.bind_some, Option.bind_some, e]
  cases b with
  | false => exact ⟨_, rfl, rfl, by simp⟩
  | true =>
    obtain ⟨k, hk1, hR⟩ := hk e
    have hV := hb'.1 rfl
    rw [if_pos rfl, if_pos rfl, q_isActor, Option.bind_some]
    by_cases h1 : a < 0
    · rw [if_pos (by simpa using h1), if_neg (by simp; omega)]
      exact ⟨_, rfl, rfl, by simp⟩
    · rw [if_neg (by simpa using h1)]
      by_cases h2 : 16 ≤ a
      · rw [if_pos (by simpa using h2), if_neg (by simp; omega)]
        exact ⟨_, rfl, rfl, by simp⟩
      · rw [if_neg (by simpa using h2), if_pos (by simp; omega)]
        obtain ⟨n, rfl⟩ : ∃ n : Nat, a = (n : Int) := ⟨a.toNat, by omega⟩
        have hs := G_seq hV.2.1 (n : Int)
        obtain ⟨s, g1, g2, g3⟩ := q_l10Undone x hV.2.1 hV.1
        obtain ⟨t, f1, f2, f3, E, f4, f5⟩ := q_undone k x hR hV.1 n (by omega) hs (fun o ho => okS_undo (G_ok hV.2.1 (List.mem_filter.1 ho).1))
        obtain ⟨A, B, eL, hA, hB⟩ := G_split hV.2.1 (n : Int)
        have hM : ∀ o, o ∈ ofs x (n : Int) → o.actor = n := fun o ho => ofs_actor ho
        have hlen : (ofs x (n : Int)).length ≤ 1024 := Nat.le_trans ofs_len hV.1
        obtain ⟨D, d1, d2⟩ := US_UD eL hA hB hM hs g3
        obtain ⟨i, h3⟩ := q_specOut (D := D) hV.1 g2 eL hA hB hM hs d2
        obtain ⟨j, h4⟩ := q_implOut (D := E) hlen f2 f3 f5
        have hT : TT E (ofs x (n : Int)).length = TT D (ofs x (n : Int)).length := TT_eq (UD_one f4 d1)
        rw [g1, Option.bind_some, hk1, f1, Option.bind_some, h3, h4, hT]
        exact ⟨_, rfl, rfl, Nat.le_trans TT_len hlen⟩

theorem plain_UndoDone (x : List TOp) (a : Int) (hx : x.length * 128 ≤ reachBytes ∧ ∀ a, a ∈ x → okTOp a) (ha : InI64 a) : p_laws_FnExactUndoDone x a = some true := by
  have h1 := hx.1
  rw [reach_eq] at h1
  unfold p_laws_FnExactUndoDone
  rcases q_szOpS2 x hx.1 hx.2 1048576 (by omega) (by omega) with hm | ⟨m, hm, hm'⟩
  · rw [hm]; rfl
  · rw [hm, Option.bind_some]
    split
    · rfl
    · have hc := cn_le x
      obtain ⟨r, hr, hr2, hr3⟩ := q_UndoDone x a
      obtain ⟨y, hy, hy2⟩ := q_markOpS x 1 (by omega) (by omega)
      obtain ⟨z, hz, hz2, hz3⟩ := q_markIntS r.a 1 (by omega) (by omega)
      rw [q_toOpS x hx.1 hx.2, Option.bind_some, hr, Option.bind_some, hr2, Option.bind_some, q_eqIntS _ (by rw [reach_eq]; omega), Option.bind_some, if_pos rfl, if_pos (by simp), q_eqOpS x (by omega) hx.2, Option.bind_some, if_pos rfl,
        hy, Option.bind_some, if_neg (by rw [hy2]; simp; omega), hz, Option.bind_some]
      simp only
      rw [q_heldIntS z 1 (by omega) (by omega) (by rw [hz2]; exact hz3), Option.bind_some, hz2, if_neg (by simp; omega), if_pos (by simp)]
end Go.AM
