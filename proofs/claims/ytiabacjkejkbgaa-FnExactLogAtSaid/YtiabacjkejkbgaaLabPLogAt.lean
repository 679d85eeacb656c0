/- The plain law of LogAt. No condition. -/
import Derived.Test.YtiabacjkejkbgaaLabGLogAtb
import Derived.Test.YtiabacjkejkbgaaLabL4
set_option linter.unusedVariables false
set_option linter.unusedSimpArgs false
namespace Go.AM

theorem G_seq {ok : TOp → Prop} {L : List TOp} (h : G ok L) (a : Int) : ∀ (j : Nat) (o : TOp), (ofs L a)[j]? = some o → o.seq = (j : Int) + 1 := by
  induction h with
  | nil => intro j o hj; simp [ofs] at hj
  | snoc h1 h2 ih =>
    rename_i P p
    intro j o hj
    rw [ofs_snoc] at hj
    by_cases e : p.actor = a
    · rw [if_pos e] at hj
      rcases Nat.lt_or_ge j (ofs P a).length with hlt | hge
      · rw [List.getElem?_append_left hlt] at hj
        exact ih j o hj
      · rw [List.getElem?_append_right hge] at hj
        have : j - (ofs P a).length = 0 := by
          rcases Nat.eq_zero_or_pos (j - (ofs P a).length) with h0 | h0
          · exact h0
          · rw [List.getElem?_eq_none (by simp; omega)] at hj; cases hj
        rw [this] at hj
        simp at hj
        subst hj
        have h3 := h2.2.2
        rw [e] at h3
        omega
    · rw [if_neg e] at hj
      exact ih j o hj

/-- A valid log lies actor behind actor. -/
theorem G_below {ok : TOp → Prop} {L : List TOp} (h : G ok L) : ∀ n : Nat, (∀ o, o ∈ L → 0 ≤ o.actor) → L.filter (fun o => decide (o.actor < (n : Int))) = (List.range n).flatMap fun a : Nat => ofs L (a : Int)
  | 0, h0 => by
    rw [List.filter_eq_nil_iff.2]
    · rfl
    · intro o ho
      have := h0 o ho
      simp only [decide_eq_true_eq]
      omega
  | n + 1, h0 => by
    rw [List.range_succ, List.flatMap_append, ← G_below h n h0]
    obtain ⟨A, B, e, hA, hB⟩ := G_split h (n : Int)
    have hM : ∀ x, x ∈ ofs L (n : Int) → x.actor = n := fun x hx => ofs_actor hx
    simp only [List.flatMap_cons, List.flatMap_nil, List.append_nil]
    generalize ofs L (n : Int) = M at *
    rw [e, List.filter_append, List.filter_append, List.filter_append, List.filter_append]
    have f1 : A.filter (fun o => decide (o.actor < ((n + 1 : Nat) : Int))) = A := List.filter_eq_self.2 fun x hx => by have := hA x hx; simp only [decide_eq_true_eq]; omega
    have f2 : M.filter (fun o => decide (o.actor < ((n + 1 : Nat) : Int))) = M := List.filter_eq_self.2 fun x hx => by have := hM x hx; simp only [decide_eq_true_eq]; omega
    have f3 : B.filter (fun o => decide (o.actor < ((n + 1 : Nat) : Int))) = [] := List.filter_eq_nil_iff.2 fun x hx => by have := hB x hx; simp only [decide_eq_true_eq]; omega
    have f4 : A.filter (fun o => decide (o.actor < (n : Int))) = A := List.filter_eq_self.2 fun x hx => by have := hA x hx; simp only [decide_eq_true_eq]; omega
    have f5 : M.filter (fun o => decide (o.actor < (n : Int))) = [] := List.filter_eq_nil_iff.2 fun x hx => by have := hM x hx; simp only [decide_eq_true_eq]; omega
    have f6 : B.filter (fun o => decide (o.actor < (n : Int))) = [] := List.filter_eq_nil_iff.2 fun x hx => by have := hB x hx; simp only [decide_eq_true_eq]; omega
    rw [f1, f2, f3, f4, f5, f6]
    simp
theorem G_cat {ok : TOp → Prop} {L : List TOp} (h : G ok L) (h0 : ∀ o, o ∈ L → 0 ≤ o.actor ∧ o.actor < 16) : L = (List.range 16).flatMap fun a : Nat => ofs L (a : Int) := by
  rw [← G_below h 16 (fun o ho => (h0 o ho).1), List.filter_eq_self.2]
  intro o ho
  have := (h0 o ho).2
  simp only [decide_eq_true_eq]
  omega
theorem cat_filter {ok : TOp → Prop} {L : List TOp} (h : G ok L) (h0 : ∀ o, o ∈ L → 0 ≤ o.actor ∧ o.actor < 16) (p : TOp → Bool) : L.filter p = (List.range 16).flatMap fun a : Nat => (ofs L (a : Int)).filter p := by
  conv => lhs; rw [G_cat h h0]
  rw [List.filter_flatMap]
theorem flat_succ {α : Type} (f : Nat → List α) (n : Nat) : (List.range (n + 1)).flatMap f = (List.range n).flatMap f ++ f n := by
  rw [List.range_succ, List.flatMap_append]
  simp
theorem filter_take_next {L : List TOp} {p : TOp → Bool} {i : Nat} {o : TOp} (h : L[i]? = some o) : (L.take (i + 1)).filter p = if p o = true then (L.take i).filter p ++ [o] else (L.take i).filter p := by
  rw [take_next h, List.filter_append]
  by_cases hp : p o = true
  · rw [if_pos hp]; simp [hp]
  · rw [if_neg hp]; simp [hp]

theorem q_szIntS (x : List Int) (n : Int) : ∃ m, p_laws_szIntS x n = some m := by
  unfold p_laws_szIntS
  repeat' split
  all_goals exact ⟨_, rfl⟩
theorem q_szVector (x : TVec) (n : Int) : ∃ m, p_laws_szVector x n = some m := by
  unfold p_laws_szVector
  obtain ⟨m, h⟩ := q_szIntS x.counts n
  rw [h, Option.bind_some]
  repeat' split
  all_goals exact ⟨_, rfl⟩
theorem q_toIntS (x : List Int) (hx : x.length * 8 ≤ reachBytes) : p_laws_toIntS x = some x := by
  rw [reach_eq] at hx
  unfold p_laws_toIntS
  rw [show (8 : Int) = ((8 : Nat) : Int) from rfl, mkL_ok (by omega) (by omega), Option.bind_some]
  have e : p_laws_toIntS_l0 x = copyStep x some := rfl
  rw [e]
  obtain ⟨i, h⟩ := copy_loop (ρ := List Int) (x := x) (v := List.replicate x.length 0) (f := some) (fun _ _ => rfl) (by simp) (by omega)
  rw [h]; rfl
theorem q_toVector (x : TVec) (hx : okTVec x) : p_laws_toVector x = some x := by
  unfold p_laws_toVector
  rw [q_toIntS x.counts hx.1]; rfl
theorem q_eqIntS (x : List Int) (hx : x.length * 8 ≤ reachBytes) : p_laws_eqIntS x x = some true := by
  rw [reach_eq] at hx
  unfold p_laws_eqIntS
  rw [if_pos (by simp)]
  have e : p_laws_eqIntS_l0 x x = eqStep x x fun a b => some (decide (a = b)) := by
    funext s
    unfold p_laws_eqIntS_l0 eqStep
    simp only [Option.bind_some]
  rw [e]
  obtain ⟨i, h⟩ := eq_loop (x := x) (g := fun a b => some (decide (a = b))) (fun a _ => by simp) (by omega)
  rw [h]; rfl
theorem q_eqVector (x : TVec) (hx : okTVec x) : p_laws_eqVector x x = some true := by
  unfold p_laws_eqVector
  rw [q_eqIntS x.counts hx.1]; rfl

theorem q_specVecOK2 (x : TVec) : ∃ b, p_spec_VecOK x = some b ∧ (b = true → x.counts.length = 16 ∧ ∀ c, c ∈ x.counts → 0 ≤ c ∧ c ≤ 1000000000000) := by
  unfold p_spec_VecOK
  by_cases hl : decide ((x.counts.length : Int) = 16) = true
  · rw [if_t hl]
    have hl' : x.counts.length = 16 := by have := of_decide_eq_true hl; omega
    have hg := all_loop (step := p_spec_VecOK_l0 x) 16 (fun i => ∀ c, x.counts[i]? = some c → 0 ≤ c ∧ c ≤ 1000000000000) (by
      intro i hi
      obtain ⟨a, ha, ha'⟩ := get_lt (xs := x.counts) (i := i) (by omega)
      have hd : decide ((i : Int) < 16) = true := by simp; omega
      simp only [p_spec_VecOK_l0]
      rw [if_t hd, ha, Option.bind_some, w64_succ (by omega)]
      by_cases h1 : a < 0
      · rw [if_pos (decide_eq_true h1)]
        exact .inr ⟨fun h => by have := h a ha'; omega, rfl⟩
      · rw [if_neg (by simpa using h1)]
        by_cases h2 : 1000000000000 < a
        · rw [if_pos (decide_eq_true h2)]
          exact .inr ⟨fun h => by have := h a ha'; omega, rfl⟩
        · rw [if_neg (by simpa using h2)]
          refine .inl ⟨fun c hc => ?_, rfl⟩
          rw [ha'] at hc; cases hc; omega) rfl
    rcases hg with ⟨h1, h2⟩ | ⟨h1, _⟩
    · rw [show ((0 : Int)) = 0 from rfl, h1]
      refine ⟨true, rfl, fun _ => ⟨hl', fun c hc => ?_⟩⟩
      obtain ⟨i, hi⟩ := List.getElem?_of_mem hc
      exact h2 i (by have := (List.getElem?_eq_some_iff.1 hi).1; omega) c hi
    · rw [h1]
      exact ⟨false, rfl, fun h => by cases h⟩
  · rw [if_neg hl]
    exact ⟨_, rfl, fun h => by cases h⟩

theorem q_specVecOK (x : TVec) : ∃ b, p_spec_VecOK x = some b ∧ (b = true → x.counts.length = 16) := by
  unfold p_spec_VecOK
  by_cases hl : decide ((x.counts.length : Int) = 16) = true
  · rw [if_t hl]
    have hl' : x.counts.length = 16 := by have := of_decide_eq_true hl; omega
    obtain ⟨e, h1, h2⟩ := loop_count (step := p_spec_VecOK_l0 x) 16 (fun i s => s = (i : Int)) (fun _ => True) (by
      rintro i _ hi rfl
      obtain ⟨a, ha, ha'⟩ := get_lt (xs := x.counts) (i := i) (by omega)
      have hd : decide ((i : Int) < 16) = true := by simp; omega
      simp only [p_spec_VecOK_l0]
      rw [if_t hd, ha, Option.bind_some, w64_succ (by omega)]
      repeat' split
      · exact .inr (.inr ⟨_, rfl, trivial⟩)
      · exact .inr (.inr ⟨_, rfl, trivial⟩)
      · exact .inl ⟨_, rfl, rfl⟩)
      (by
      rintro _ rfl
      left
      exact ⟨16, rfl, trivial⟩) (s := 0) rfl
    rw [h1, Option.bind_some]
    cases e with
    | out s => exact ⟨_, rfl, fun _ => hl'⟩
    | ret r => exact ⟨_, rfl, fun _ => hl'⟩
  · rw [if_neg hl]
    exact ⟨_, rfl, fun h => by cases h⟩
theorem q_implVecOK (x : TVec) : p_impl_VecOK x = p_spec_VecOK x := by
  unfold p_impl_VecOK p_spec_VecOK
  by_cases hl : decide ((x.counts.length : Int) = 16) = true
  · rw [if_t hl, if_t hl]
    have hl' : (x.counts.length : Int) = 16 := of_decide_eq_true hl
    have : p_impl_VecOK_l0 x = p_spec_VecOK_l0 x := by
      funext s
      unfold p_impl_VecOK_l0 p_spec_VecOK_l0
      rw [hl']
    rw [this]
    try rfl
  · rw [if_neg hl, if_neg hl]

theorem q_StampOK (x : TStamp) : p_spec_StampOK x = some (decide (1 ≤ x.time ∧ x.time ≤ 1000000000000 ∧ 0 ≤ x.actor ∧ x.actor < 16)) := by
  unfold p_spec_StampOK
  simp only [decide_eq_true_eq]
  repeat' split
  all_goals (simp only [Option.some.injEq]; symm; first | (rw [decide_eq_false_iff_not]; omega) | (apply decide_eq_decide.2; omega))
theorem q_implStampOK (x : TStamp) : p_impl_StampOK x = p_spec_StampOK x := by
  rw [q_StampOK]
  unfold p_impl_StampOK p_impl_isActor
  simp only [decide_eq_true_eq]
  repeat' split
  all_goals simp only [Option.bind_some, Option.some.injEq]
  all_goals (symm; first | (rw [decide_eq_false_iff_not]; omega) | (apply decide_eq_decide.2; omega))
theorem q_StampLess (x y : TStamp) : p_spec_StampLess x y = some (decide (x.time < y.time ∨ (x.time = y.time ∧ x.actor < y.actor))) := by
  unfold p_spec_StampLess
  simp only [decide_eq_true_eq]
  repeat' split
  all_goals (simp only [Option.some.injEq]; symm; first | (rw [decide_eq_false_iff_not]; omega) | (rw [decide_eq_true_eq]; omega) | (apply decide_eq_decide.2; omega))
theorem q_implStampLess (x y : TStamp) : p_impl_StampLess x y = p_spec_StampLess x y := by
  rw [q_StampLess]
  unfold p_impl_StampLess
  simp only [decide_eq_true_eq]
  repeat' split
  all_goals (simp only [Option.some.injEq]; symm; first | (rw [decide_eq_false_iff_not]; omega) | (rw [decide_eq_true_eq]; omega) | (apply decide_eq_decide.2; omega))

structure Ok1 (o : TOp) : Prop where
  a0 : 0 ≤ o.actor
  a1 : o.actor < 16
  s0 : 1 ≤ o.seq
  s1 : o.seq ≤ 1000000000000
  dl : o.deps.counts.length = 16
  db : ∀ c, c ∈ o.deps.counts → 0 ≤ c ∧ c ≤ 1000000000000
  o0 : 1 ≤ o.obj
  o1 : o.obj ≤ 100
  k0 : 1 ≤ o.kind
  k1 : o.kind ≤ 4
def P1 (o : TOp) (s : Option Bool) : Prop := ∃ b, s = some b ∧ (b = true → Ok1 o)
theorem p1_f {o : TOp} : P1 o (some false) := ⟨false, rfl, fun h => by cases h⟩
theorem p1_ite {o : TOp} {c : Bool} {s t : Option Bool} (h1 : c = true → P1 o s) (h2 : c = false → P1 o t) : P1 o (if c = true then s else t) := by
  cases c with
  | true => rw [if_pos rfl]; exact h1 rfl
  | false => rw [if_neg (by simp)]; exact h2 rfl
theorem q_None (x : TStamp) : p_spec_l02None x = some (decide (x.time = 0) && decide (x.actor = 0)) := by
  unfold p_spec_l02None
  split <;> simp_all
theorem q_Char (n : Int) : ∃ b, p_spec_l04Char n = some b := by
  unfold p_spec_l04Char
  repeat' split
  all_goals exact ⟨_, rfl⟩
theorem q_opOK (o : TOp) : P1 o (p_spec_l08OpOK o) := by
  unfold p_spec_l08OpOK
  obtain ⟨c, hc⟩ := q_Char o.n
  obtain ⟨d, hd, hd'⟩ := q_specVecOK2 o.deps
  rw [show p_spec_l08Stamp o = some ⟨o.time, o.actor⟩ from rfl, Option.bind_some, q_StampOK, Option.bind_some, hd, Option.bind_some]
  simp only [q_None, q_StampOK, q_StampLess, hc, Option.bind_some]
  refine p1_ite (fun h1 => ?_) (fun _ => p1_f)
  refine p1_ite (fun _ => p1_f) (fun h2 => ?_)
  refine p1_ite (fun _ => p1_f) (fun h3 => ?_)
  refine p1_ite (fun h4 => ?_) (fun _ => p1_f)
  simp only [decide_eq_true_eq, decide_eq_false_iff_not] at h1 h2 h3
  obtain ⟨v7, hv7⟩ : ∃ v, get? o.deps.counts o.actor = some v := by
    obtain ⟨x, hx, _⟩ := get_lt (xs := o.deps.counts) (i := o.actor.toNat) (by have := (hd' h4).1; omega)
    rw [Int.toNat_of_nonneg (by omega)] at hx
    exact ⟨x, hx⟩
  rw [hv7, Option.bind_some]
  refine p1_ite (fun h5 => ?_) (fun _ => p1_f)
  refine p1_ite (fun _ => p1_f) (fun h6 => ?_)
  refine p1_ite (fun _ => p1_f) (fun h7 => ?_)
  simp only [decide_eq_true_eq, decide_eq_false_iff_not] at h6 h7
  have hk : 1 ≤ o.kind → o.kind ≤ 4 → Ok1 o := fun k0 k1 => ⟨by omega, by omega, by omega, by omega, (hd' h4).1, (hd' h4).2, by omega, by omega, k0, k1⟩
  repeat' (first | exact p1_f | refine p1_ite (fun _ => ?_) (fun _ => ?_))
  all_goals (first | exact p1_f | (refine ⟨_, rfl, fun _ => hk ?_ ?_⟩ <;> simp_all))

theorem q_New : p_spec_l02New = some ⟨List.replicate 16 0⟩ := by
  unfold p_spec_l02New
  rw [show (mkL 16 8 16 0 : Option (List Int)) = some (List.replicate 16 0) from mkL_ok (l := 16) (y := 8) (by decide) (by decide), Option.bind_some]
theorem q_Counts (L : List TOp) (hL : L.length ≤ 1024) (hA : ∀ o, o ∈ L → 0 ≤ o.actor ∧ o.actor < 16) :
    ∃ v, p_spec_l08Counts L = some v ∧ v.counts.length = 16 ∧ ∀ a : Nat, a < 16 → v.counts[a]? = some ((ofs L (a : Int)).length : Int) := by
  unfold p_spec_l08Counts
  rw [q_New, Option.bind_some]
  obtain ⟨e, h1, s, n, rfl, h2, h3⟩ := loop_count (step := p_spec_l08Counts_l0 L) L.length (fun i s => s.2 = (i : Int) ∧ s.1.length = 16 ∧ ∀ a : Nat, a < 16 → s.1[a]? = some ((ofs (L.take i) (a : Int)).length : Int))
    (fun e => ∃ (s : List Int) (n : Int), e = .out (s, n) ∧ s.length = 16 ∧ ∀ a : Nat, a < 16 → s[a]? = some ((ofs L (a : Int)).length : Int)) (by
      rintro i ⟨s1, s2⟩ hi ⟨h1, h2, h3⟩
      simp only at h1 h2 h3
      subst h1
      left
      obtain ⟨o, ho, ho'⟩ := get_lt (xs := L) hi
      have hm : o ∈ L := List.mem_of_getElem? ho'
      obtain ⟨a0, a1⟩ := hA o hm
      have hd : decide ((i : Int) < (L.length : Int)) = true := by simpa using hi
      have hc := h3 o.actor.toNat (by omega)
      rw [Int.toNat_of_nonneg a0] at hc
      have hg : get? s1 o.actor = some ((ofs (L.take i) o.actor).length : Int) := by
        unfold get?
        rw [if_pos a0, hc]
      have hln : (ofs (L.take i) o.actor).length ≤ 1024 := Nat.le_trans ofs_len (by rw [List.length_take]; omega)
      refine ⟨(s1.set o.actor.toNat (((ofs (L.take i) o.actor).length + 1 : Nat) : Int), ((i + 1 : Nat) : Int)), ?_, rfl, by simp [h2], ?_⟩
      · simp only [p_spec_l08Counts_l0]
        rw [if_t hd, ho, Option.bind_some, hg, Option.bind_some, w64_succ (by omega), w64_succ (by omega)]
      · intro a ha
        simp only
        rw [take_next ho', ofs_snoc]
        by_cases e : o.actor.toNat = a
        · subst e
          rw [List.getElem?_set_self (by omega), if_pos (by omega), Int.toNat_of_nonneg a0]
          simp
        · rw [List.getElem?_set_ne e, if_neg (by omega)]
          exact h3 a ha)
    (by
      rintro ⟨s1, s2⟩ ⟨h1, h2, h3⟩
      simp only at h1 h2 h3
      subst h1
      left
      refine ⟨(s1, (L.length : Int)), ?_, s1, _, rfl, h2, ?_⟩
      · simp only [p_spec_l08Counts_l0]
        rw [if_neg (by simp)]
      · rwa [List.take_length] at h3) (s := (List.replicate 16 0, 0)) ⟨rfl, by simp, fun a ha => by rw [List.getElem?_replicate, if_pos ha]; rfl⟩
  rw [h1, Option.bind_some]
  exact ⟨_, rfl, h2, h3⟩

theorem q_Find {ok : TOp → Prop} {L : List TOp} (hG : G ok L) (hL : L.length ≤ 1024) (a : Nat) (n : Int) (hn1 : 1 ≤ n) (hn2 : n ≤ ((ofs L (a : Int)).length : Int)) :
    ∃ j p, p_spec_l08Find L a n = some j ∧ get? L j = some p ∧ (ofs L (a : Int))[(n - 1).toNat]? = some p := by
  obtain ⟨A, B, e, hA, hB⟩ := G_split hG (a : Int)
  generalize hM : ofs L (a : Int) = M at *
  have hMa : ∀ x, x ∈ M → x.actor = a := fun x hx => by rw [← hM] at hx; exact ofs_actor hx
  have hlen : L.length = A.length + (M.length + B.length) := by rw [e]; simp
  obtain ⟨m, rfl⟩ : ∃ m : Nat, n = (m : Int) + 1 := ⟨(n - 1).toNat, by omega⟩
  have hm : m < M.length := by omega
  have hat : L[A.length + m]? = some M[m] := by
    rw [e, List.getElem?_append_right (by omega), Nat.add_sub_cancel_left, List.getElem?_append_left hm, List.getElem?_eq_getElem hm]
  have hat0 : L[A.length]? = some M[0] := by
    rw [e, List.getElem?_append_right (by omega), Nat.sub_self, List.getElem?_append_left (by omega), List.getElem?_eq_getElem (by omega)]
  have hj : get? L ((A.length + m : Nat) : Int) = some M[m] := by
    unfold get?
    rw [if_pos (by omega), Int.toNat_natCast]
    exact hat
  refine ⟨((A.length + m : Nat) : Int), M[m], ?_, hj, by rw [show ((m : Int) + 1 - 1).toNat = m by omega]; exact List.getElem?_eq_getElem hm⟩
  unfold p_spec_l08Find
  obtain ⟨ee, h1, rfl⟩ := loop_count (step := p_spec_l08Find_l0 L a ((m : Int) + 1)) A.length (fun i s => s = (i : Int)) (fun e => e = .ret ((A.length + m : Nat) : Int)) (by
      rintro i _ hi rfl
      left
      obtain ⟨o, ho, ho'⟩ := get_lt (xs := L) (i := i) (by omega)
      have hoA : o ∈ A := by
        rw [e, List.getElem?_append_left hi] at ho'
        exact List.mem_of_getElem? ho'
      have hne := hA o hoA
      have hd : decide ((i : Int) < (L.length : Int)) = true := by simp; omega
      refine ⟨((i + 1 : Nat) : Int), ?_, rfl⟩
      simp only [p_spec_l08Find_l0]
      rw [if_t hd, ho, Option.bind_some, if_neg (by simp; omega), w64_succ (by omega)])
    (by
      rintro _ rfl
      right
      have hd : decide ((A.length : Int) < (L.length : Int)) = true := by simp; omega
      have ho : get? L (A.length : Int) = some M[0] := by
        unfold get?
        rw [if_pos (by omega), Int.toNat_natCast]
        exact hat0
      have ha0 : (M[0]).actor = a := hMa _ (List.getElem_mem _)
      have ham : (M[m]).actor = a := hMa _ (List.getElem_mem _)
      refine ⟨_, ?_, rfl⟩
      simp only [p_spec_l08Find_l0]
      rw [if_t hd, ho, Option.bind_some, if_pos (by simp [ha0]), if_neg (by simp; omega), w64_id (by omega) (by omega), if_neg (by simp; omega), w64_id (n := (A.length : Int) + ((m : Int) + 1)) (by omega) (by omega), w64_id (by omega) (by omega),
        show (A.length : Int) + ((m : Int) + 1) - 1 = ((A.length + m : Nat) : Int) by omega, hj, Option.bind_some, if_pos (by simp [ham])]) (s := 0) rfl
  rw [h1, Option.bind_some]

theorem q_Causes {ok : TOp → Prop} {L : List TOp} (hG : G ok L) (hL : L.length ≤ 1024) {v : TVec} (hv : v.counts.length = 16) (hv' : ∀ a : Nat, a < 16 → v.counts[a]? = some ((ofs L (a : Int)).length : Int))
    (o : TOp) (hd : o.deps.counts.length = 16) : ∃ b, p_spec_l08Causes L v o = some b ∧ (b = true ↔ ∀ a : Nat, a < 16 → CA L o a) := by
  unfold p_spec_l08Causes
  have key := all_loop (step := p_spec_l08Causes_l0 L v o) 16 (CA L o) (by
    intro a ha
    obtain ⟨n, hn, hn'⟩ := get_lt (xs := o.deps.counts) (i := a) (by omega)
    have hc : get? v.counts (a : Int) = some ((ofs L (a : Int)).length : Int) := by
      unfold get?
      rw [if_pos (by omega), Int.toNat_natCast]
      exact hv' a ha
    have hd16 : decide ((a : Int) < 16) = true := by simp; omega
    simp only [p_spec_l08Causes_l0]
    rw [if_t hd16, hn, Option.bind_some, hc, Option.bind_some]
    by_cases h1 : ((ofs L (a : Int)).length : Int) < n
    · right
      rw [if_pos (by simpa using h1)]
      exact ⟨fun h => by have := (h n hn').1; omega, rfl⟩
    · rw [if_neg (by simpa using h1)]
      by_cases h2 : 0 < n
      · obtain ⟨j, p, hj, hp, hp'⟩ := q_Find hG hL a n (by omega) (by omega)
        rw [if_pos (by simpa using h2), hj, Option.bind_some, hp, Option.bind_some, show p_spec_l08Stamp p = some ⟨p.time, p.actor⟩ from rfl, Option.bind_some, show p_spec_l08Stamp o = some ⟨o.time, o.actor⟩ from rfl, Option.bind_some, q_StampLess, Option.bind_some]
        by_cases h3 : less p o
        · left
          refine ⟨fun n' h => ?_, ?_⟩
          · rw [hn'] at h
            cases h
            exact ⟨by omega, fun _ q hq => by rw [hp'] at hq; cases hq; exact h3⟩
          · rw [if_pos (by unfold less at h3; simpa using h3), w64_succ (by omega)]
        · right
          rw [if_neg (by unfold less at h3; simpa using h3)]
          exact ⟨fun h => h3 ((h n hn').2 h2 p hp'), rfl⟩
      · left
        rw [if_neg (by simpa using h2), w64_succ (by omega)]
        refine ⟨fun n' h => ?_, rfl⟩
        rw [hn'] at h
        cases h
        exact ⟨by omega, fun h => absurd h h2⟩) (by
    simp only [p_spec_l08Causes_l0]
    rw [if_neg (by decide)])
  rcases key with ⟨h1, h2⟩ | ⟨h1, a, h2, h3⟩
  · rw [show (0 : Int) = ((0 : Nat) : Int) from rfl] at *
    rw [h1]
    exact ⟨true, rfl, fun _ => h2, fun _ => rfl⟩
  · rw [h1]
    exact ⟨false, rfl, fun h => (by cases h), fun h => absurd (h a h2) h3⟩

def okS (o : TOp) : Prop := p_spec_l08OpOK o = some true
theorem okS_1 {o : TOp} (h : okS o) : Ok1 o := by
  obtain ⟨b, h1, h2⟩ := q_opOK o
  unfold okS at h
  rw [h] at h1
  cases h1
  exact h2 rfl
def cv (t : Int) : Int := if t = 4 then 3 else t
theorem q_Thing {o : TOp} (h : Ok1 o) : p_spec_l08Thing o.kind = some (cv (thing o)) := by
  have h0 := h.k0
  have h1 := h.k1
  unfold p_spec_l08Thing cv thing
  have : o.kind = 1 ∨ o.kind = 2 ∨ o.kind = 3 ∨ o.kind = 4 := by omega
  rcases this with h | h | h | h <;> simp [h]
theorem thing_range {o : TOp} (h : Ok1 o) : thing o = 1 ∨ thing o = 2 ∨ thing o = 4 := by
  have h0 := h.k0
  have h1 := h.k1
  unfold thing
  split <;> omega
theorem lt_range {P : List TOp} (h : ∀ o, o ∈ P → Ok1 o) (b : Int) : lastThing P b = 0 ∨ lastThing P b = 1 ∨ lastThing P b = 2 ∨ lastThing P b = 4 := by
  unfold lastThing
  have key : ∀ (P : List TOp) (t : Int), (∀ o, o ∈ P → Ok1 o) → (t = 0 ∨ t = 1 ∨ t = 2 ∨ t = 4) → (P.foldl (fun t o => if o.obj = b then thing o else t) t = 0 ∨ P.foldl (fun t o => if o.obj = b then thing o else t) t = 1 ∨ P.foldl (fun t o => if o.obj = b then thing o else t) t = 2 ∨ P.foldl (fun t o => if o.obj = b then thing o else t) t = 4) := by
    intro P
    induction P with
    | nil => intro t _ ht; exact ht
    | cons o P ih =>
      intro t h ht
      rw [List.foldl_cons]
      refine ih _ (fun x hx => h x (List.mem_cons_of_mem _ hx)) ?_
      split
      · have := thing_range (h o (by simp))
        omega
      · exact ht
  exact key P 0 h (.inl rfl)
theorem cv_zero {t : Int} : cv t = 0 ↔ t = 0 := by unfold cv; split <;> omega
theorem cv_inj {t u : Int} (ht : t = 0 ∨ t = 1 ∨ t = 2 ∨ t = 4) (hu : u = 1 ∨ u = 2 ∨ u = 4) : cv t = cv u ↔ t = u := by
  unfold cv
  split <;> split <;> omega

theorem q_specL0 (L : List TOp) (hL : L.length ≤ 1024) : ∃ e, loopP (p_spec_LogOK_l0 L) 0 = some e ∧ ((∃ s, e = .out s ∧ G okS L) ∨ (e = .ret false ∧ ¬ G okS L)) :=
  loop_count (step := p_spec_LogOK_l0 L) L.length (fun i s => s = (i : Int) ∧ G okS (L.take i)) (fun e => (∃ s, e = .out s ∧ G okS L) ∨ (e = .ret false ∧ ¬ G okS L)) (by
      rintro i _ hi ⟨rfl, hg⟩
      obtain ⟨o, ho, ho'⟩ := get_lt (xs := L) hi
      obtain ⟨b, hb, _⟩ := q_opOK o
      have hd : decide ((i : Int) < (L.length : Int)) = true := by simpa using hi
      have good : Step okS (L.take i) o → p_spec_LogOK_l0 L (i : Int) = some (.go ((i + 1 : Nat) : Int)) → (∃ s', p_spec_LogOK_l0 L (i : Int) = some (.go s') ∧ (s' = ((i + 1 : Nat) : Int) ∧ G okS (L.take (i + 1)))) := fun h1 h2 =>
        ⟨_, h2, rfl, by rw [take_next ho']; exact .snoc hg h1⟩
      have bad : ¬ Step okS (L.take i) o → p_spec_LogOK_l0 L (i : Int) = some (.ret false) → ∃ r, p_spec_LogOK_l0 L (i : Int) = some (.ret r) ∧ ((∃ s, (Ex.ret r : Ex Int Bool) = .out s ∧ G okS L) ∨ ((Ex.ret r : Ex Int Bool) = .ret false ∧ ¬ G okS L)) := fun h1 h2 =>
        ⟨_, h2, .inr ⟨rfl, fun h => h1 (G_iff.1 h i o ho')⟩⟩
      have hstep : p_spec_LogOK_l0 L (i : Int) = some (.go ((i + 1 : Nat) : Int)) ∧ Step okS (L.take i) o ∨ p_spec_LogOK_l0 L (i : Int) = some (.ret false) ∧ ¬ Step okS (L.take i) o := by
        simp only [p_spec_LogOK_l0]
        rw [if_t hd, ho, Option.bind_some, hb, Option.bind_some]
        cases b with
        | false =>
          right
          exact ⟨rfl, fun h => by have := h.1; unfold okS at this; rw [hb] at this; cases this⟩
        | true =>
          have hok : okS o := hb
          rw [if_pos rfl]
          rcases Nat.eq_zero_or_pos i with rfl | hi0
          · rw [if_pos (by rfl), List.take_zero, step_first]
            by_cases h1 : o.seq = 1
            · left
              rw [if_pos (by simpa using h1), if_neg (by decide), w64_succ (by omega)]
              exact ⟨rfl, hok, h1⟩
            · right
              rw [if_neg (by simpa using h1)]
              exact ⟨rfl, fun h => h1 h.2⟩
          · obtain ⟨p, hp, hp'⟩ := get_lt (xs := L) (i := i - 1) (by omega)
            have htl := take_last hi0 hp'
            rw [htl] at hg ⊢
            have hpk : Ok1 p := okS_1 (G_ok hg (by simp))
            have hps := hpk.s1
            have hps0 := hpk.s0
            have hi1 : decide ((0 : Int) < (i : Int)) = true := by simp; omega
            rw [step_next hg, if_neg (by simp; omega), w64_pred hi0 (by omega), hp, Option.bind_some]
            by_cases h1 : o.actor = p.actor
            · rw [if_pos (by simpa using h1), w64_id (n := p.seq + 1) (by omega) (by omega)]
              by_cases h2 : o.seq = p.seq + 1
              · left
                rw [if_pos (by simpa using h2), w64_succ (by omega)]
                exact ⟨rfl, hok, .inl ⟨h1, h2⟩⟩
              · right
                rw [if_neg (by simpa using h2)]
                exact ⟨rfl, fun h => by rcases h.2 with h | h <;> omega⟩
            · rw [if_neg (by simpa using h1)]
              by_cases h2 : o.seq = 1
              · rw [if_pos (by simpa using h2), if_t hi1]
                by_cases h3 : o.actor < p.actor
                · right
                  rw [if_pos (by simpa using h3)]
                  exact ⟨rfl, fun h => by rcases h.2 with h | h <;> omega⟩
                · left
                  rw [if_neg (by simpa using h3), w64_succ (by omega)]
                  exact ⟨rfl, hok, .inr ⟨by omega, h2⟩⟩
              · right
                rw [if_neg (by simpa using h2)]
                exact ⟨rfl, fun h => by rcases h.2 with h | h <;> omega⟩
      rcases hstep with ⟨h1, h2⟩ | ⟨h1, h2⟩
      · exact .inl (good h2 h1)
      · exact .inr (.inr (bad h2 h1)))
    (by
      rintro _ ⟨rfl, hg⟩
      left
      rw [List.take_length] at hg
      refine ⟨(L.length : Int), ?_, .inl ⟨_, rfl, hg⟩⟩
      simp only [p_spec_LogOK_l0]
      rw [if_neg (by simp)]) ⟨rfl, by simpa using G.nil⟩

theorem q_specL1 (L : List TOp) (hL : L.length ≤ 1024) (hG : G okS L) {v : TVec} (hv : v.counts.length = 16) (hv' : ∀ a : Nat, a < 16 → v.counts[a]? = some ((ofs L (a : Int)).length : Int)) :
    ∃ e, loopP (p_spec_LogOK_l1 L v) (List.replicate 101 0, 0) = some e ∧ ((∃ s, e = .out s ∧ KK L ∧ CC L) ∨ (e = .ret false ∧ ¬ (KK L ∧ CC L))) :=
  loop_count (step := p_spec_LogOK_l1 L v) L.length (fun i s => s.2 = (i : Int) ∧ s.1.length = 101 ∧ (∀ b : Nat, b < 101 → s.1[b]? = some (cv (lastThing (L.take i) (b : Int)))) ∧ ∀ (j : Nat) (o : TOp), j < i → L[j]? = some o → KS (L.take j) o ∧ ∀ a : Nat, a < 16 → CA L o a)
    (fun e => (∃ s, e = .out s ∧ KK L ∧ CC L) ∨ (e = .ret false ∧ ¬ (KK L ∧ CC L))) (by
      rintro i ⟨s1, s2⟩ hi ⟨h1, h2, h3, h4⟩
      simp only at h1 h2 h3 h4
      subst h1
      obtain ⟨o, ho, ho'⟩ := get_lt (xs := L) hi
      have hok : Ok1 o := okS_1 (G_ok hG (List.mem_of_getElem? ho'))
      have hall : ∀ x, x ∈ L.take i → Ok1 x := fun x hx => okS_1 (G_ok hG (List.mem_of_mem_take hx))
      have hd : decide ((i : Int) < (L.length : Int)) = true := by simpa using hi
      obtain ⟨c, hc, hc'⟩ := q_Causes hG hL hv hv' o hok.dl
      have o0 := hok.o0
      have o1 := hok.o1
      have hgt : get? s1 o.obj = some (cv (lastThing (L.take i) o.obj)) := by
        unfold get?
        rw [if_pos (by omega), h3 o.obj.toNat (by omega), Int.toNat_of_nonneg (by omega)]
      have hnext : KS (L.take i) o → (∀ a : Nat, a < 16 → CA L o a) → ((s1.set o.obj.toNat (cv (thing o))).length = 101 ∧ (∀ b : Nat, b < 101 → (s1.set o.obj.toNat (cv (thing o)))[b]? = some (cv (lastThing (L.take (i + 1)) (b : Int)))) ∧ ∀ (j : Nat) (o : TOp), j < i + 1 → L[j]? = some o → KS (L.take j) o ∧ ∀ a : Nat, a < 16 → CA L o a) := by
        intro k1 k2
        refine ⟨by simp [h2], ?_, ?_⟩
        · intro b hb
          rw [take_next ho', lastThing_snoc]
          by_cases e : o.obj.toNat = b
          · subst e
            rw [List.getElem?_set_self (by omega), if_pos (by omega)]
          · rw [List.getElem?_set_ne e, if_neg (by omega)]
            exact h3 b hb
        · intro j x hj hx
          rcases Nat.lt_or_ge j i with hlt | hge
          · exact h4 j x hlt hx
          · obtain rfl : j = i := by omega
            rw [ho'] at hx
            cases hx
            exact ⟨k1, k2⟩
      simp only [p_spec_LogOK_l1]
      rw [if_t hd, ho, Option.bind_some, hc, Option.bind_some]
      cases c with
      | false =>
        right
        right
        refine ⟨false, rfl, .inr ⟨rfl, fun h => ?_⟩⟩
        have := hc'.2 (h.2 i o ho')
        cases this
      | true =>
        have hca := hc'.1 rfl
        rw [if_pos rfl, q_Thing hok, Option.bind_some, hgt, Option.bind_some, w64_succ (by omega)]
        by_cases e1 : cv (lastThing (L.take i) o.obj) = 0
        · left
          rw [if_pos (by simpa using e1)]
          exact ⟨_, rfl, rfl, hnext (.inl (cv_zero.1 e1)) hca⟩
        · rw [if_neg (by simpa using e1)]
          by_cases e2 : cv (lastThing (L.take i) o.obj) = cv (thing o)
          · left
            rw [if_pos (by simpa using e2)]
            exact ⟨_, rfl, rfl, hnext (.inr ((cv_inj (lt_range hall _) (thing_range hok)).1 e2)) hca⟩
          · right
            right
            rw [if_neg (by simpa using e2)]
            refine ⟨false, rfl, .inr ⟨rfl, fun h => ?_⟩⟩
            rcases h.1 i o ho' with k | k
            · exact e1 (cv_zero.2 k)
            · exact e2 (by rw [k]))
    (by
      rintro ⟨s1, s2⟩ ⟨h1, h2, h3, h4⟩
      simp only at h1 h2 h3 h4
      subst h1
      left
      refine ⟨(s1, (L.length : Int)), ?_, .inl ⟨_, rfl, ?_, ?_⟩⟩
      · simp only [p_spec_LogOK_l1]
        rw [if_neg (by simp)]
      · intro i o hi
        exact (h4 i o (List.getElem?_eq_some_iff.1 hi).1 hi).1
      · intro i o hi
        exact (h4 i o (List.getElem?_eq_some_iff.1 hi).1 hi).2)
    ⟨rfl, by simp, fun b hb => by rw [List.getElem?_replicate, if_pos hb]; rfl, fun j o hj => by omega⟩

theorem q_specLogOK (L : List TOp) : ∃ b, p_spec_LogOK L = some b ∧ (b = true ↔ Valid okS L) := by
  unfold p_spec_LogOK
  by_cases hl : 1024 < L.length
  · rw [if_pos (by simp; omega)]
    exact ⟨false, rfl, fun h => (by cases h), fun h => by have := h.1; omega⟩
  · rw [if_neg (by simp; omega)]
    obtain ⟨e, h1, h2⟩ := q_specL0 L (by omega)
    rw [h1, Option.bind_some]
    rcases h2 with ⟨s, rfl, hG⟩ | ⟨rfl, hG⟩
    · obtain ⟨v, hv, hv1, hv2⟩ := q_Counts L (by omega) (fun o ho => ⟨(okS_1 (G_ok hG ho)).a0, (okS_1 (G_ok hG ho)).a1⟩)
      obtain ⟨e, h3, h4⟩ := q_specL1 L (by omega) hG hv1 hv2
      simp only
      rw [hv, Option.bind_some, show (mkL 101 8 101 0 : Option (List Int)) = some (List.replicate 101 0) from mkL_ok (l := 101) (y := 8) (by decide) (by decide), Option.bind_some, h3, Option.bind_some]
      rcases h4 with ⟨⟨s1, s2⟩, rfl, hK, hC⟩ | ⟨rfl, hK⟩
      · exact ⟨true, rfl, fun _ => ⟨by omega, hG, hK, hC⟩, fun _ => rfl⟩
      · exact ⟨false, rfl, fun h => (by cases h), fun h => absurd ⟨h.2.2.1, h.2.2.2⟩ hK⟩
    · exact ⟨false, rfl, fun h => (by cases h), fun h => absurd h.2.1 hG⟩

theorem q_thing (o : TOp) : p_impl_Op_thing o = some (thing o) := by
  unfold p_impl_Op_thing thing
  simp only [decide_eq_true_eq]
  split <;> rfl
theorem q_put {k : TBook} {P : List TOp} {o : TOp} (hR : Rep k P) (h : Ok1 o) (hP : P.length ≤ 1024) : ∃ k', p_impl_book_put k o = some k' ∧ Rep k' (P ++ [o]) := by
  have a0 := h.a0
  have a1 := h.a1
  have o0 := h.o0
  have o1 := h.o1
  have h1 : get? k.of_ o.actor = some (ofs P o.actor) := by
    unfold get?
    rw [if_pos a0, hR.of_ o.actor.toNat (by omega), Int.toNat_of_nonneg a0]
  have h2 : get? k.kind o.obj = some (lastThing P o.obj) := by
    unfold get?
    rw [if_pos (by omega), hR.kind o.obj.toNat (by omega), Int.toNat_of_nonneg (by omega)]
  have h3 : (ofs P o.actor).length ≤ 1024 := Nat.le_trans ofs_len hP
  have rep : ∀ k' : TBook, k'.of_ = k.of_.set o.actor.toNat (ofs P o.actor ++ [o]) → k'.kind = k.kind.set o.obj.toNat (thing o) → Rep k' (P ++ [o]) := by
    intro k' e1 e2
    refine ⟨fun a ha => ?_, fun b hb => ?_⟩
    · rw [e1, ofs_snoc]
      by_cases e : o.actor.toNat = a
      · subst e
        rw [List.getElem?_set_self (by rw [k.h1]; omega), if_pos (by omega), Int.toNat_of_nonneg a0]
      · rw [List.getElem?_set_ne e, if_neg (by omega)]
        exact hR.of_ a ha
    · rw [e2, lastThing_snoc]
      by_cases e : o.obj.toNat = b
      · subst e
        rw [List.getElem?_set_self (by rw [k.h2]; omega), if_pos (by omega)]
      · rw [List.getElem?_set_ne e, if_neg (by omega)]
        exact hR.kind b hb
  unfold p_impl_book_put
  rw [h1, Option.bind_some, app_one (by omega), Option.bind_some, q_thing, Option.bind_some, h2, Option.bind_some, show p_impl_Op_stamp o = some ⟨o.time, o.actor⟩ from rfl, Option.bind_some, q_implStampLess, q_StampLess, Option.bind_some]
  split
  · exact ⟨_, rfl, rep _ rfl rfl⟩
  · exact ⟨_, rfl, rep _ rfl rfl⟩

theorem all_loopR {ρ : Type} {step : Int → Option (Lp Int ρ)} {r : ρ} (n : Nat) (good : Nat → Prop)
    (h : ∀ i, i < n → (good i ∧ step (i : Int) = some (.go ((i + 1 : Nat) : Int))) ∨ (¬ good i ∧ step (i : Int) = some (.ret r))) (he : step (n : Int) = some (.out (n : Int))) :
    (loopP step 0 = some (.out (n : Int)) ∧ ∀ i, i < n → good i) ∨ (loopP step 0 = some (.ret r) ∧ ∃ i, i < n ∧ ¬ good i) := by
  obtain ⟨e, h1, h2⟩ := loop_count (step := step) n (fun i s => s = (i : Int) ∧ ∀ j, j < i → good j) (fun e => (e = .out (n : Int) ∧ ∀ i, i < n → good i) ∨ (e = .ret r ∧ ∃ i, i < n ∧ ¬ good i)) (by
      rintro i _ hi ⟨rfl, hg⟩
      rcases h i hi with ⟨h1, h2⟩ | ⟨h1, h2⟩
      · refine .inl ⟨_, h2, rfl, fun j hj => ?_⟩
        rcases Nat.lt_or_ge j i with hlt | hge
        · exact hg j hlt
        · obtain rfl : j = i := by omega
          exact h1
      · exact .inr (.inr ⟨_, h2, .inr ⟨rfl, i, hi, h1⟩⟩))
    (by
      rintro _ ⟨rfl, hg⟩
      exact .inl ⟨_, he, .inl ⟨rfl, hg⟩⟩) (s := 0) ⟨rfl, fun j hj => by omega⟩
  rcases h2 with ⟨rfl, h3⟩ | ⟨rfl, h3⟩
  · exact .inl ⟨h1, h3⟩
  · exact .inr ⟨h1, h3⟩

theorem q_opOKi (o : TOp) : p_impl_opOK o = p_spec_l08OpOK o := by
  unfold p_impl_opOK p_spec_l08OpOK
  have hc : ∀ n, p_impl_charOK n = p_spec_l04Char n := fun n => rfl
  have h1 : p_impl_Op_stamp o = some ⟨o.time, o.actor⟩ := rfl
  have h2 : p_spec_l08Stamp o = some ⟨o.time, o.actor⟩ := rfl
  rw [h1, h2]
  simp only [Option.bind_some, q_implStampOK, q_implVecOK, q_implStampLess, q_None, hc]

def badB : T2 (Option TBook) Bool := ⟨none, false⟩
theorem q_implL0 (L : List TOp) (hL : L.length ≤ 1024) : ∃ e, loopP (p_impl_readBook_l0 L) (book0, 0) = some e ∧ ((∃ k s, e = .out (k, s) ∧ G okS L ∧ KK L ∧ Rep k L) ∨ (e = .ret badB ∧ ¬ (G okS L ∧ KK L))) :=
  loop_count (step := p_impl_readBook_l0 L) L.length (fun i s => s.2 = (i : Int) ∧ G okS (L.take i) ∧ Rep s.1 (L.take i) ∧ ∀ (j : Nat) (o : TOp), j < i → L[j]? = some o → KS (L.take j) o)
    (fun e => (∃ k s, e = .out (k, s) ∧ G okS L ∧ KK L ∧ Rep k L) ∨ (e = .ret badB ∧ ¬ (G okS L ∧ KK L))) (by
      rintro i ⟨k, s2⟩ hi ⟨h1, hg, hR, hK⟩
      simp only at h1 hR
      subst h1
      obtain ⟨o, ho, ho'⟩ := get_lt (xs := L) hi
      obtain ⟨b, hb, _⟩ := q_opOK o
      have hd : decide ((i : Int) < (L.length : Int)) = true := by simpa using hi
      have hlen : (L.take i).length ≤ 1024 := by rw [List.length_take]; omega
      have good : ∀ k', Step okS (L.take i) o → KS (L.take i) o → Rep k' (L.take i ++ [o]) → G okS (L.take (i + 1)) ∧ Rep k' (L.take (i + 1)) ∧ ∀ (j : Nat) (o : TOp), j < i + 1 → L[j]? = some o → KS (L.take j) o := by
        intro k' h1 h2 h3
        rw [take_next ho']
        refine ⟨.snoc hg h1, h3, fun j x hj hx => ?_⟩
        rcases Nat.lt_or_ge j i with hlt | hge
        · exact hK j x hlt hx
        · obtain rfl : j = i := by omega
          rw [ho'] at hx
          cases hx
          exact h2
      have bad : ¬ (Step okS (L.take i) o ∧ KS (L.take i) o) → ¬ (G okS L ∧ KK L) := fun h1 h => h1 ⟨G_iff.1 h.1 i o ho', h.2 i o ho'⟩
      -- what follows once the place in the order is right
      have tail : okS o → (Step okS (L.take i) o ↔ o.seq = (ofs (L.take i) o.actor).length + 1) →
          ∀ t, t = ((get? k.of_ o.actor).bind fun v => if (decide (o.seq = w64 ((v.length : Int) + 1))) = true then (get? k.kind o.obj).bind fun w => if (decide (w = 0)) = true then (p_impl_book_put k o).bind fun q => some (.go (q, w64 ((i : Int) + 1))) else (p_impl_Op_thing o).bind fun u => if (decide (w = u)) = true then (p_impl_book_put k o).bind fun q => some (.go (q, w64 ((i : Int) + 1))) else some (.ret badB) else some (.ret badB) : Option (Lp (TBook × Int) (T2 (Option TBook) Bool))) →
          (∃ s', t = some (.go s') ∧ (s'.2 = ((i + 1 : Nat) : Int) ∧ G okS (L.take (i + 1)) ∧ Rep s'.1 (L.take (i + 1)) ∧ ∀ (j : Nat) (o : TOp), j < i + 1 → L[j]? = some o → KS (L.take j) o)) ∨ (t = some (.ret badB) ∧ ¬ (G okS L ∧ KK L)) := by
        rintro hok hst t rfl
        have h1 := okS_1 hok
        have a0 := h1.a0
        have a1 := h1.a1
        have o0 := h1.o0
        have o1 := h1.o1
        obtain ⟨k', hk', hk2⟩ := q_put hR h1 hlen
        have g1 : get? k.of_ o.actor = some (ofs (L.take i) o.actor) := by
          unfold get?
          rw [if_pos a0, hR.of_ o.actor.toNat (by omega), Int.toNat_of_nonneg a0]
        have g2 : get? k.kind o.obj = some (lastThing (L.take i) o.obj) := by
          unfold get?
          rw [if_pos (by omega), hR.kind o.obj.toNat (by omega), Int.toNat_of_nonneg (by omega)]
        have g3 : (ofs (L.take i) o.actor).length ≤ 1024 := Nat.le_trans ofs_len hlen
        rw [g1, Option.bind_some, w64_succ (by omega), hk', q_thing, g2]
        simp only [Option.bind_some]
        by_cases e1 : o.seq = (((ofs (L.take i) o.actor).length + 1 : Nat) : Int)
        · rw [if_pos (by simpa using e1), w64_succ (by omega)]
          have hs : Step okS (L.take i) o := hst.2 (by omega)
          by_cases e2 : lastThing (L.take i) o.obj = 0
          · rw [if_pos (by simpa using e2)]
            exact .inl ⟨_, rfl, rfl, good k' hs (.inl e2) hk2⟩
          · rw [if_neg (by simpa using e2)]
            by_cases e3 : lastThing (L.take i) o.obj = thing o
            · rw [if_pos (by simpa using e3)]
              exact .inl ⟨_, rfl, rfl, good k' hs (.inr e3) hk2⟩
            · rw [if_neg (by simpa using e3)]
              exact .inr ⟨rfl, bad fun h => h.2.elim e2 e3⟩
        · rw [if_neg (by simpa using e1)]
          exact .inr ⟨rfl, bad fun h => e1 (by have := hst.1 h.1; omega)⟩
      have fin : ∀ t : Option (Lp (TBook × Int) (T2 (Option TBook) Bool)), ((∃ s', t = some (.go s') ∧ (s'.2 = ((i + 1 : Nat) : Int) ∧ G okS (L.take (i + 1)) ∧ Rep s'.1 (L.take (i + 1)) ∧ ∀ (j : Nat) (o : TOp), j < i + 1 → L[j]? = some o → KS (L.take j) o)) ∨ (t = some (.ret badB) ∧ ¬ (G okS L ∧ KK L))) →
          p_impl_readBook_l0 L (k, (i : Int)) = t → (∃ s', p_impl_readBook_l0 L (k, (i : Int)) = some (.go s') ∧ (s'.2 = ((i + 1 : Nat) : Int) ∧ G okS (L.take (i + 1)) ∧ Rep s'.1 (L.take (i + 1)) ∧ ∀ (j : Nat) (o : TOp), j < i + 1 → L[j]? = some o → KS (L.take j) o)) ∨ (∃ s', p_impl_readBook_l0 L (k, (i : Int)) = some (.out s') ∧ ((∃ k s, (Ex.out s' : Ex (TBook × Int) (T2 (Option TBook) Bool)) = .out (k, s) ∧ G okS L ∧ KK L ∧ Rep k L) ∨ ((Ex.out s' : Ex (TBook × Int) (T2 (Option TBook) Bool)) = .ret badB ∧ ¬ (G okS L ∧ KK L)))) ∨ (∃ r, p_impl_readBook_l0 L (k, (i : Int)) = some (.ret r) ∧ ((∃ k s, (Ex.ret r : Ex (TBook × Int) (T2 (Option TBook) Bool)) = .out (k, s) ∧ G okS L ∧ KK L ∧ Rep k L) ∨ ((Ex.ret r : Ex (TBook × Int) (T2 (Option TBook) Bool)) = .ret badB ∧ ¬ (G okS L ∧ KK L)))) := by
        rintro t (⟨s', h1, h2⟩ | ⟨h1, h2⟩) e
        · exact .inl ⟨s', e.trans h1, h2⟩
        · exact .inr (.inr ⟨_, e.trans h1, .inr ⟨rfl, h2⟩⟩)
      cases b with
      | false =>
        refine fin (some (.ret badB)) (.inr ⟨rfl, bad fun h => by have := h.1.1; unfold okS at this; rw [hb] at this; cases this⟩) ?_
        simp only [p_impl_readBook_l0]
        rw [if_t hd, ho, Option.bind_some, q_opOKi, hb, Option.bind_some]
        rfl
      | true =>
        have hok : okS o := hb
        rcases Nat.eq_zero_or_pos i with rfl | hi0
        · refine fin _ (tail hok (by rw [List.take_zero, step_first]; simp [ofs, hok]) _ rfl) ?_
          simp only [p_impl_readBook_l0]
          rw [if_t hd, ho, Option.bind_some, q_opOKi, hb, Option.bind_some, if_pos rfl, if_neg (by decide)]
          rfl
        · obtain ⟨p, hp, hp'⟩ := get_lt (xs := L) (i := i - 1) (by omega)
          have htl := take_last hi0 hp'
          have hg2 := hg
          rw [htl] at hg2
          have hi1 : decide ((0 : Int) < (i : Int)) = true := by simp; omega
          by_cases h1 : o.actor < p.actor
          · refine fin (some (.ret badB)) (.inr ⟨rfl, bad fun h => ?_⟩) ?_
            · have := (h.1.2.1 p (by rw [htl]; simp))
              omega
            · simp only [p_impl_readBook_l0]
              rw [if_t hd, ho, Option.bind_some, q_opOKi, hb, Option.bind_some, if_pos rfl, if_t hi1, w64_pred hi0 (by omega), hp, Option.bind_some, if_pos (by simpa using h1)]
              rfl
          · refine fin _ (tail hok ?_ _ rfl) ?_
            · have := step_le (o := o) hg2
              rw [← htl] at this
              rw [this]
              constructor
              · exact fun h => h.2.2
              · exact fun h => ⟨hok, by omega, h⟩
            · simp only [p_impl_readBook_l0]
              rw [if_t hd, ho, Option.bind_some, q_opOKi, hb, Option.bind_some, if_pos rfl, if_t hi1, w64_pred hi0 (by omega), hp, Option.bind_some, if_neg (by simpa using h1)]
              rfl)
    (by
      rintro ⟨k, s2⟩ ⟨h1, hg, hR, hK⟩
      simp only at h1 hR
      subst h1
      left
      rw [List.take_length] at hg hR
      refine ⟨(k, (L.length : Int)), ?_, .inl ⟨k, _, rfl, hg, ?_, hR⟩⟩
      · simp only [p_impl_readBook_l0]
        rw [if_neg (by simp)]
      · intro i o hi
        exact hK i o (List.getElem?_eq_some_iff.1 hi).1 hi)
    ⟨rfl, by simpa using G.nil, ⟨fun a ha => by simp only [book0]; rw [List.getElem?_replicate, if_pos ha]; rfl, fun b hb => by simp only [book0]; rw [List.getElem?_replicate, if_pos hb]; rfl⟩, fun j o hj => by omega⟩

theorem q_implL1 (L : List TOp) (k : TBook) (hR : Rep k L) (hL : L.length ≤ 1024) (o : TOp) (ho : Ok1 o) :
    (loopP (p_impl_readBook_l1 k o) 0 = some (.out 16) ∧ ∀ a : Nat, a < 16 → CA L o a) ∨ (loopP (p_impl_readBook_l1 k o) 0 = some (.ret badB) ∧ ∃ a : Nat, a < 16 ∧ ¬ CA L o a) := by
  have key := all_loopR (step := p_impl_readBook_l1 k o) (r := badB) 16 (CA L o) (by
    intro a ha
    obtain ⟨n, hn, hn'⟩ := get_lt (xs := o.deps.counts) (i := a) (by rw [ho.dl]; omega)
    have hb := ho.db n (List.mem_of_getElem? hn')
    have hc : get? k.of_ (a : Int) = some (ofs L (a : Int)) := by
      unfold get?
      rw [if_pos (by omega), Int.toNat_natCast]
      exact hR.of_ a ha
    have hd16 : decide ((a : Int) < (o.deps.counts.length : Int)) = true := by rw [ho.dl]; simp; omega
    simp only [p_impl_readBook_l1]
    rw [if_t hd16, hn, Option.bind_some, hc, Option.bind_some]
    by_cases h1 : ((ofs L (a : Int)).length : Int) < n
    · right
      rw [if_pos (by simpa using h1)]
      exact ⟨fun h => by have := (h n hn').1; omega, rfl⟩
    · rw [if_neg (by simpa using h1)]
      by_cases h2 : 0 < n
      · obtain ⟨p, hp, hp'⟩ := get_lt (xs := ofs L (a : Int)) (i := (n - 1).toNat) (by omega)
        rw [Int.toNat_of_nonneg (by omega)] at hp
        rw [if_pos (by simpa using h2), w64_id (by omega) (by omega), hp, Option.bind_some, show p_impl_Op_stamp p = some ⟨p.time, p.actor⟩ from rfl, Option.bind_some, show p_impl_Op_stamp o = some ⟨o.time, o.actor⟩ from rfl, Option.bind_some, q_implStampLess, q_StampLess, Option.bind_some]
        by_cases h3 : less p o
        · left
          refine ⟨fun n' h => ?_, ?_⟩
          · rw [hn'] at h
            cases h
            exact ⟨by omega, fun _ q hq => by rw [hp'] at hq; cases hq; exact h3⟩
          · rw [if_pos (by unfold less at h3; simpa using h3), w64_succ (by omega)]
        · right
          rw [if_neg (by unfold less at h3; simpa using h3)]
          exact ⟨fun h => h3 ((h n hn').2 h2 p hp'), rfl⟩
      · left
        rw [if_neg (by simpa using h2), w64_succ (by omega)]
        refine ⟨fun n' h => ?_, rfl⟩
        rw [hn'] at h
        cases h
        exact ⟨by omega, fun h => absurd h h2⟩) (by
    simp only [p_impl_readBook_l1]
    rw [if_neg (by rw [ho.dl]; decide)])
  exact key

theorem q_implL2 (L : List TOp) (k : TBook) (hR : Rep k L) (hL : L.length ≤ 1024) (hG : G okS L) :
    (loopP (p_impl_readBook_l2 L k) 0 = some (.out (L.length : Int)) ∧ CC L) ∨ (loopP (p_impl_readBook_l2 L k) 0 = some (.ret badB) ∧ ¬ CC L) := by
  rcases all_loopR (step := p_impl_readBook_l2 L k) (r := badB) L.length (fun i => ∀ o, L[i]? = some o → ∀ a : Nat, a < 16 → CA L o a) (by
    intro i hi
    obtain ⟨o, ho, ho'⟩ := get_lt (xs := L) hi
    have hd : decide ((i : Int) < (L.length : Int)) = true := by simpa using hi
    have hok := okS_1 (G_ok hG (List.mem_of_getElem? ho'))
    simp only [p_impl_readBook_l2]
    rw [if_t hd, ho, Option.bind_some]
    rcases q_implL1 L k hR hL o hok with ⟨h1, h2⟩ | ⟨h1, a, h2, h3⟩
    · left
      rw [h1, Option.bind_some]
      exact ⟨fun x hx => by rw [ho'] at hx; cases hx; exact h2, by simp only; rw [w64_succ (by omega)]⟩
    · right
      rw [h1, Option.bind_some]
      exact ⟨fun h => h3 (h o ho' a h2), rfl⟩) (by
    simp only [p_impl_readBook_l2]
    rw [if_neg (by simp)]) with ⟨h1, h2⟩ | ⟨h1, i, h2, h3⟩
  · exact .inl ⟨h1, fun i o hi => h2 i (List.getElem?_eq_some_iff.1 hi).1 o hi⟩
  · exact .inr ⟨h1, fun h => h3 fun o ho => h i o ho⟩

theorem q_readBook (L : List TOp) : ∃ r, p_impl_readBook L = some r ∧ (r.b = true ↔ Valid okS L) ∧ (r.b = true → ∃ k, r.a = some k ∧ Rep k L) := by
  unfold p_impl_readBook
  by_cases hl : 1024 < L.length
  · rw [if_pos (by simp; omega)]
    exact ⟨_, rfl, ⟨fun h => (by cases h), fun h => by have := h.1; omega⟩, fun h => (by cases h)⟩
  · rw [if_neg (by simp; omega)]
    obtain ⟨e, h1, h2⟩ := q_implL0 L (by omega)
    rw [h1, Option.bind_some]
    rcases h2 with ⟨k, s, rfl, hG, hK, hR⟩ | ⟨rfl, hG⟩
    · simp only
      rcases q_implL2 L k hR (by omega) hG with ⟨h3, h4⟩ | ⟨h3, h4⟩
      · rw [h3, Option.bind_some]
        exact ⟨_, rfl, ⟨fun _ => ⟨by omega, hG, hK, h4⟩, fun _ => rfl⟩, fun _ => ⟨k, rfl, hR⟩⟩
      · rw [h3, Option.bind_some]
        exact ⟨_, rfl, ⟨fun h => (by cases h), fun h => absurd h.2.2.2 h4⟩, fun h => (by cases h)⟩
    · exact ⟨badB, rfl, ⟨fun h => (by cases h), fun h => absurd ⟨h.2.1, h.2.2.1⟩ hG⟩, fun h => (by cases h)⟩

theorem q_szOp (x : TOp) (n : Int) : ∃ m, p_laws_szOp x n = some m := by
  unfold p_laws_szOp
  obtain ⟨m, h⟩ := q_szVector x.deps n
  rw [h, Option.bind_some]
  repeat' split
  all_goals exact ⟨_, rfl⟩
theorem q_szOpS (L : List TOp) (n : Int) (hL : L.length < 9223372036854775807) : ∃ m, p_laws_szOpS L n = some m := by
  unfold p_laws_szOpS
  split
  · exact ⟨_, rfl⟩
  · obtain ⟨e, h1, h2⟩ := loop_count (step := p_laws_szOpS_l0 L) L.length (fun i s => s.2 = (i : Int)) (fun _ => True) (by
      rintro i ⟨s1, s2⟩ hi h1
      simp only at h1
      subst h1
      obtain ⟨o, ho, _⟩ := get_lt (xs := L) hi
      obtain ⟨m, hm⟩ := q_szOp o s1
      have hd : decide ((i : Int) < (L.length : Int)) = true := by simpa using hi
      simp only [p_laws_szOpS_l0]
      rw [if_t hd, ho, Option.bind_some, hm, Option.bind_some, w64_succ (by omega)]
      split
      · exact .inr (.inr ⟨_, rfl, trivial⟩)
      · exact .inl ⟨_, rfl, rfl⟩)
      (by
      rintro ⟨s1, s2⟩ h1
      simp only at h1
      subst h1
      left
      refine ⟨(s1, (L.length : Int)), ?_, trivial⟩
      simp only [p_laws_szOpS_l0]
      rw [if_neg (by simp)]) (s := (w64 (n - (L.length : Int)), 0)) rfl
    rw [h1, Option.bind_some]
    cases e with
    | out s => exact ⟨_, rfl⟩
    | ret r => exact ⟨_, rfl⟩
theorem q_toOp (x : TOp) (hx : okTOp x) : p_laws_toOp x = some x := by
  unfold p_laws_toOp
  rw [q_toVector _ hx.2.2.2.1, Option.bind_some, show p_laws_toStamp x.at_ = some x.at_ from rfl]
  rfl
theorem q_toOpS (L : List TOp) (h1 : L.length * 128 ≤ reachBytes) (h2 : ∀ x, x ∈ L → okTOp x) : p_laws_toOpS L = some L := by
  rw [reach_eq] at h1
  unfold p_laws_toOpS
  rw [if_pos (by omega)]
  obtain ⟨e, h3, rfl⟩ := loop_count (step := p_laws_toOpS_l0 L) L.length (fun i s => s = L.take i) (fun e => e = .out L) (by
      rintro i _ hi rfl
      left
      obtain ⟨o, ho, ho'⟩ := get_lt (xs := L) hi
      have hlen : (L.take i).length = i := by rw [List.length_take]; omega
      refine ⟨L.take (i + 1), ?_, rfl⟩
      simp only [p_laws_toOpS_l0]
      rw [hlen, if_pos hi, ho, Option.bind_some, q_toOp o (h2 o (List.mem_of_getElem? ho')), Option.bind_some, take_next ho'])
    (by
      rintro _ rfl
      left
      refine ⟨L, ?_, rfl⟩
      simp only [p_laws_toOpS_l0]
      rw [List.take_length, if_neg (by omega)]) (s := []) (by simp)
  rw [h3]; rfl
theorem q_eqOp (x : TOp) (hx : okTOp x) : p_laws_eqOp x x = some true := by
  unfold p_laws_eqOp
  have h : p_laws_eqStamp x.at_ x.at_ = some true := by unfold p_laws_eqStamp; simp
  rw [q_eqVector _ hx.2.2.2.1, h]
  simp
theorem q_eqOpS (L : List TOp) (hL : L.length < 9223372036854775807) (h2 : ∀ x, x ∈ L → okTOp x) : p_laws_eqOpS L L = some true := by
  unfold p_laws_eqOpS
  rw [if_pos (by simp)]
  have e : p_laws_eqOpS_l0 L L = eqStep L L p_laws_eqOp := rfl
  rw [e]
  obtain ⟨i, h⟩ := eq_loop (x := L) (g := p_laws_eqOp) (fun a ha => q_eqOp a (h2 a ha)) hL
  rw [h]; rfl

theorem q_markText (n : Int) (hn : n < 4611686018427387904) : ∃ s, p_laws_markText n = some s := by
  unfold p_laws_markText
  by_cases h0 : n ≤ 0
  · rw [if_pos (decide_eq_true h0)]; exact ⟨_, rfl⟩
  · rw [if_neg (by simpa using h0)]
    obtain ⟨e, h1, m, s, rfl, hs⟩ := loopP_inv (step := p_laws_markText_l0) (fun s => 0 ≤ s.1 ∧ s.1 + s.2.size ≤ n) (fun s => s.1.toNat) (fun e => ∃ m s, e = .out (m, s) ∧ (s.size : Int) ≤ n) (by
      rintro ⟨s1, s2⟩ ⟨h2, h3⟩
      simp only at h2 h3
      simp only [p_laws_markText_l0]
      by_cases hd : 0 < s1
      · rw [if_pos (decide_eq_true hd)]
        have hz : ∀ k : Int, (strOfNums [k]).size = 1 := fun k => rfl
        have hc : ∀ k : Int, cat? (strOfNums [k]) s2 = some (strOfNums [k] ++ s2) := by
          intro k
          unfold cat?
          rw [if_pos (by rw [hz]; omega)]
        rw [hc, Option.bind_some]
        refine ⟨_, rfl, ?_⟩
        have hq : s1.tdiv 10 = s1 / 10 := Int.tdiv_eq_ediv_of_nonneg h2
        have hw : w64 (s1.tdiv 10) = s1 / 10 := by rw [hq]; exact w64_id (by omega) (by omega)
        simp only [hw, ByteArray.size_append, hz]
        refine ⟨⟨by omega, by omega⟩, by omega⟩
      · rw [if_neg (by simpa using hd)]
        exact ⟨_, rfl, _, _, rfl, by omega⟩) (s := (n, ByteArray.mk #[])) ⟨by simp only; omega, by simp only; show n + ((0 : Nat) : Int) ≤ n; omega⟩
    rw [h1, Option.bind_some]
    have : cat? (ByteArray.mk #[109]) s = some (ByteArray.mk #[109] ++ s) := by
      unfold cat?
      rw [if_pos (by show ((1 + s.size : Nat) : Int) ≤ _; omega)]
    simp only [this, Option.bind_some]
    exact ⟨_, rfl⟩
noncomputable def mt (n : Int) : ByteArray := (p_laws_markText n).getD (ByteArray.mk #[])
theorem mt_eq {n : Int} (hn : n < 4611686018427387904) : p_laws_markText n = some (mt n) := by
  obtain ⟨s, hs⟩ := q_markText n hn
  unfold mt
  rw [hs]; rfl

theorem q_eqVec (x : TVec) (hx : x.counts.length * 8 ≤ reachBytes) : p_laws_eqVector x x = some true := by
  unfold p_laws_eqVector
  rw [q_eqIntS x.counts hx]; rfl
theorem q_markIntS (x : List Int) (n : Int) (h0 : 0 ≤ n) (hn : n + x.length < 9223372036854775807) : ∃ y, p_laws_markIntS x n = some ⟨n + x.length, y⟩ ∧ y.length = x.length ∧ ∀ j : Nat, j < x.length → y[j]? = some (n + j) := by
  unfold p_laws_markIntS
  obtain ⟨e, h1, y, i, rfl, h2, h3⟩ := loop_count (step := p_laws_markIntS_l0) x.length (fun i s => s.2.1 = n + (i : Int) ∧ s.2.2 = (i : Int) ∧ s.1.length = x.length ∧ ∀ j : Nat, j < i → s.1[j]? = some (n + j))
    (fun e => ∃ y i, e = .out (y, n + x.length, i) ∧ y.length = x.length ∧ ∀ j : Nat, j < x.length → y[j]? = some (n + j)) (by
      rintro i ⟨s0, s1, s2⟩ hi ⟨h1, h2, h3, h4⟩
      simp only at h1 h2 h3 h4
      subst h1 h2
      obtain ⟨a, ha, ha'⟩ := get_lt (xs := s0) (i := i) (by omega)
      have hd : decide ((i : Int) < (s0.length : Int)) = true := by simp; omega
      left
      refine ⟨(s0.set i (n + i), n + ((i + 1 : Nat) : Int), ((i + 1 : Nat) : Int)), ?_, rfl, rfl, by simpa using h3, ?_⟩
      · simp only [p_laws_markIntS_l0]
        rw [if_t hd, ha, Option.bind_some, w64_succ (by omega), w64_id (by omega) (by omega), Int.toNat_natCast, show n + (i : Int) + 1 = n + ((i + 1 : Nat) : Int) from by omega]
      · intro j hj
        simp only [List.getElem?_set]
        by_cases e : i = j
        · subst e
          rw [if_pos rfl, if_pos (by omega)]
        · rw [if_neg e]; exact h4 j (by omega))
    (by
      rintro ⟨s0, s1, s2⟩ ⟨h1, h2, h3, h4⟩
      simp only at h1 h2 h3 h4
      subst h1 h2
      have hd : decide ((x.length : Int) < (s0.length : Int)) = false := by simp; omega
      left
      refine ⟨(s0, n + (x.length : Int), (x.length : Int)), ?_, s0, x.length, rfl, h3, h4⟩
      simp only [p_laws_markIntS_l0]
      rw [if_f hd]) (s := (x, n, 0)) ⟨by simp, rfl, rfl, fun j hj => by omega⟩
  rw [h1]
  exact ⟨y, rfl, h2, h3⟩

theorem q_heldIntS (y : List Int) (n : Int) (h0 : 0 ≤ n) (hn : n + y.length < 9223372036854775807) (hy : ∀ j : Nat, j < y.length → y[j]? = some (n + j)) : p_laws_heldIntS y n = some (n + y.length) := by
  unfold p_laws_heldIntS
  obtain ⟨e, h1, i, rfl⟩ := loop_count (step := p_laws_heldIntS_l0 y) y.length (fun i s => s.1 = n + (i : Int) ∧ s.2 = (i : Int)) (fun e => ∃ i, e = .out (n + y.length, i)) (by
      rintro i ⟨s0, s1⟩ hi ⟨h1, h2⟩
      simp only at h1 h2
      subst h1 h2
      obtain ⟨a, ha, ha'⟩ := get_lt (xs := y) (i := i) hi
      rw [hy i hi] at ha'
      cases ha'
      have hd : decide ((i : Int) < (y.length : Int)) = true := by simp; omega
      left
      refine ⟨(n + ((i + 1 : Nat) : Int), ((i + 1 : Nat) : Int)), ?_, rfl, rfl⟩
      simp only [p_laws_heldIntS_l0]
      rw [if_t hd, ha, Option.bind_some, if_pos (by simp), w64_succ (by omega), w64_id (by omega) (by omega), show n + (i : Int) + 1 = n + ((i + 1 : Nat) : Int) from by omega])
    (by
      rintro ⟨s0, s1⟩ ⟨h1, h2⟩
      simp only at h1 h2
      subst h1 h2
      have hd : decide ((y.length : Int) < (y.length : Int)) = false := by simp
      left
      refine ⟨(n + (y.length : Int), (y.length : Int)), ?_, y.length, rfl⟩
      simp only [p_laws_heldIntS_l0]
      rw [if_f hd]) (s := (n, 0)) ⟨by simp, rfl⟩
  rw [h1]; rfl

/-- What the sizes of a log come to. -/
def szO (o : TOp) : Nat := o.deps.counts.length + o.key.size + o.text.size
def szL (L : List TOp) : Nat := (L.map szO).sum
def cnL (L : List TOp) : Nat := (L.map fun o => o.deps.counts.length).sum
theorem cn_le : ∀ (L : List TOp), cnL L ≤ szL L
  | [] => Nat.le_refl _
  | o :: L => by
    have := cn_le L
    simp only [cnL, szL, List.map_cons, List.sum_cons, szO] at *
    omega
theorem szL_snoc {P : List TOp} {o : TOp} : szL (P ++ [o]) = szL P + szO o := by simp [szL]
theorem cnL_snoc {P : List TOp} {o : TOp} : cnL (P ++ [o]) = cnL P + o.deps.counts.length := by simp [cnL]
theorem q_szOp2 (x : TOp) (hx : okTOp x) (n : Int) (h0 : 0 ≤ n) (h1 : n ≤ 4611686018427387904) : p_laws_szOp x n = some (-1) ∨ (0 ≤ n - (szO x : Int) ∧ p_laws_szOp x n = some (n - (szO x : Int))) := by
  have c := hx.2.2.2.1.1
  have k := hx.2.2.2.2.2.2.2.2.2.1
  have t := hx.2.2.2.2.2.2.2.2.2.2
  rw [reach_eq] at c k t
  unfold p_laws_szOp p_laws_szVector p_laws_szIntS szO
  rw [w64_id (n := n - (x.deps.counts.length : Int)) (by omega) (by omega)]
  simp only [decide_eq_true_eq]
  by_cases h2 : n - (x.deps.counts.length : Int) < 0
  · left
    rw [if_pos h2]
    rfl
  · rw [if_neg h2, Option.bind_some, if_neg h2, Option.bind_some, if_neg h2, w64_id (n := n - (x.deps.counts.length : Int) - (x.key.size : Int)) (by omega) (by omega)]
    by_cases h3 : n - (x.deps.counts.length : Int) - (x.key.size : Int) < 0
    · left
      rw [if_pos h3]
    · rw [if_neg h3, w64_id (n := n - (x.deps.counts.length : Int) - (x.key.size : Int) - (x.text.size : Int)) (by omega) (by omega)]
      by_cases h4 : n - (x.deps.counts.length : Int) - (x.key.size : Int) - (x.text.size : Int) < 0
      · left
        rw [if_pos h4]
      · right
        rw [if_neg h4]
        exact ⟨by omega, by congr 1; omega⟩
theorem q_szOpS3 (L : List TOp) (hL : L.length * 128 ≤ reachBytes) (hx : ∀ x, x ∈ L → okTOp x) (n : Int) (h0 : 0 ≤ n) (h1 : n ≤ 4611686018427387904) : p_laws_szOpS L n = some (-1) ∨ ∃ m, p_laws_szOpS L n = some m ∧ 0 ≤ m ∧ m + (L.length : Int) + (szL L : Int) = n := by
  rw [reach_eq] at hL
  unfold p_laws_szOpS
  rw [w64_id (n := n - (L.length : Int)) (by omega) (by omega)]
  simp only [decide_eq_true_eq]
  by_cases h2 : n - (L.length : Int) < 0
  · left
    rw [if_pos h2]
  · rw [if_neg h2]
    obtain ⟨e, h3, h4⟩ := loop_count (step := p_laws_szOpS_l0 L) L.length (fun i s => s.2 = (i : Int) ∧ 0 ≤ s.1 ∧ s.1 + (szL (L.take i) : Int) = n - (L.length : Int)) (fun e => e = .ret (-1) ∨ ∃ s, e = .out s ∧ 0 ≤ s.1 ∧ s.1 + (szL L : Int) = n - (L.length : Int)) (by
      rintro i ⟨s1, s2⟩ hi ⟨h1, h2, h3⟩
      simp only at h1 h2 h3
      subst h1
      obtain ⟨o, ho, ho'⟩ := get_lt (xs := L) hi
      have hd : decide ((i : Int) < (L.length : Int)) = true := by simpa using hi
      simp only [p_laws_szOpS_l0]
      rw [if_t hd, ho, Option.bind_some]
      rcases q_szOp2 o (hx o (List.mem_of_getElem? ho')) s1 h2 (by omega) with h | ⟨h4, h⟩
      · right
        right
        rw [h]
        exact ⟨-1, rfl, .inl rfl⟩
      · left
        rw [h, Option.bind_some, if_neg (by simp; omega), w64_succ (by omega)]
        refine ⟨_, rfl, rfl, h4, ?_⟩
        simp only
        rw [take_next ho', szL_snoc]
        omega)
      (by
      rintro ⟨s1, s2⟩ ⟨h1, h2, h3⟩
      simp only at h1 h2 h3
      subst h1
      rw [List.take_length] at h3
      left
      refine ⟨(s1, (L.length : Int)), ?_, .inr ⟨_, rfl, h2, h3⟩⟩
      simp only [p_laws_szOpS_l0]
      rw [if_neg (by simp)]) (s := (n - (L.length : Int), 0)) ⟨rfl, by simp only; omega, by simp [szL]⟩
    rw [h3, Option.bind_some]
    rcases h4 with rfl | ⟨s, rfl, h5, h6⟩
    · exact .inl rfl
    · exact .inr ⟨_, rfl, h5, by omega⟩
theorem q_szOpS2 (L : List TOp) (hL : L.length * 128 ≤ reachBytes) (hx : ∀ x, x ∈ L → okTOp x) (n : Int) (h0 : 0 ≤ n) (h1 : n ≤ 4611686018427387904) : p_laws_szOpS L n = some (-1) ∨ ∃ m, p_laws_szOpS L n = some m ∧ (L.length : Int) + (szL L : Int) ≤ n := by
  rcases q_szOpS3 L hL hx n h0 h1 with h | ⟨m, h2, h3, h4⟩
  · exact .inl h
  · exact .inr ⟨m, h2, by omega⟩
theorem q_markOpr (x : TOp) (k : Int) (h0 : 0 ≤ k) (hk : k + 11 + x.deps.counts.length < 4611686018427387904) : ∃ y, p_laws_markOpS_r x k = some ⟨k + 11 + x.deps.counts.length, y⟩ := by
  obtain ⟨y, hy, _⟩ := q_markIntS x.deps.counts (k + 3) (by omega) (by omega)
  obtain ⟨s, hs⟩ := q_markText (k + 3 + x.deps.counts.length + 6) (by omega)
  obtain ⟨t, ht⟩ := q_markText (k + 3 + x.deps.counts.length + 7) (by omega)
  have e1 : w64 (w64 (w64 (k + 1) + 1) + 1) = k + 3 := by rw [w64_id (n := k + 1) (by omega) (by omega), w64_id (n := k + 1 + 1) (by omega) (by omega), w64_id (by omega) (by omega)]; omega
  have e2 : w64 (w64 (w64 (w64 (w64 (w64 (k + 3 + (x.deps.counts.length : Int) + 1) + 1) + 1) + 1) + 1) + 1) = k + 3 + (x.deps.counts.length : Int) + 6 := by simp only [w64_add_l]; rw [w64_id (by omega) (by omega)]; omega
  have e3 : w64 (k + 3 + (x.deps.counts.length : Int) + 6 + 1) = k + 3 + (x.deps.counts.length : Int) + 7 := by rw [w64_id (by omega) (by omega)]; omega
  have e4 : w64 (k + 3 + (x.deps.counts.length : Int) + 7 + 1) = k + 11 + (x.deps.counts.length : Int) := by rw [w64_id (by omega) (by omega)]; omega
  unfold p_laws_markOpS_r
  rw [e1, hy, Option.bind_some]
  simp only
  rw [e2, hs, Option.bind_some, e3, ht, Option.bind_some, e4]
  exact ⟨_, rfl⟩
theorem q_markOpS (L : List TOp) (n : Int) (h0 : 0 ≤ n) (hn : n + 11 * L.length + (cnL L : Int) < 4611686018427387904) : ∃ r, p_laws_markOpS L n = some r ∧ r.a = n + 11 * L.length + (cnL L : Int) := by
  have hsum : ∀ i, cnL (L.take i) ≤ cnL L := fun i => by
    have : cnL (L.take i) + cnL (L.drop i) = cnL L := by
      unfold cnL
      rw [← List.sum_append, ← List.map_append, List.take_append_drop]
    omega
  unfold p_laws_markOpS
  obtain ⟨e, h1, s, k, rfl, h2⟩ := loop_count (step := p_laws_markOpS_l0 L) L.length (fun i s => s.1.length = i ∧ s.2 = n + 11 * (i : Int) + (cnL (L.take i) : Int)) (fun e => ∃ s k, e = .out (s, k) ∧ k = n + 11 * (L.length : Int) + (cnL L : Int)) (by
      rintro i ⟨s1, k⟩ hi ⟨h1, h2⟩
      simp only at h1 h2
      subst h1
      left
      obtain ⟨o, ho, ho'⟩ := get_lt (xs := L) hi
      have hs := hsum (s1.length + 1)
      rw [take_next ho', cnL_snoc] at hs
      obtain ⟨y, hy⟩ := q_markOpr o k (by omega) (by omega)
      refine ⟨(s1 ++ [y], k + 11 + o.deps.counts.length), ?_, by simp, ?_⟩
      · simp only [p_laws_markOpS_l0]
        rw [if_pos hi, ho, Option.bind_some, hy, Option.bind_some, if_pos (by omega)]
      · simp only
        rw [take_next ho', cnL_snoc]
        omega)
    (by
      rintro ⟨s1, k⟩ ⟨h1, h2⟩
      simp only at h1 h2
      rw [List.take_length] at h2
      left
      refine ⟨(s1, k), ?_, s1, k, rfl, h2⟩
      simp only [p_laws_markOpS_l0]
      rw [if_neg (by omega)]) (s := ([], n)) ⟨rfl, by simp [cnL]⟩
  rw [h1, Option.bind_some]
  exact ⟨_, rfl, h2⟩

/-- Where the marks of the i-th operation begin. -/
def KM (n : Int) (L : List TOp) (i : Nat) : Int := n + 11 * (i : Int) + (cnL (L.take i) : Int)
theorem q_markHeld (L : List TOp) (n : Int) (h0 : 0 ≤ n) (hn : n + 11 * L.length + (cnL L : Int) < 4611686018427387904) :
    ∃ r, p_laws_markOpS L n = some r ∧ r.a = n + 11 * L.length + (cnL L : Int) ∧ p_laws_heldOpS r.b n = some r.a := by
  have hsum : ∀ i, cnL (L.take i) ≤ cnL L := fun i => by
    have : cnL (L.take i) + cnL (L.drop i) = cnL L := by
      unfold cnL
      rw [← List.sum_append, ← List.map_append, List.take_append_drop]
    omega
  have hKs : ∀ i x, L[i]? = some x → KM n L (i + 1) = KM n L i + 11 + (x.deps.counts.length : Int) := fun i x hx => by
    unfold KM
    rw [take_next hx, cnL_snoc]
    omega
  have hKb : ∀ i x, L[i]? = some x → 0 ≤ KM n L i ∧ KM n L i + 11 + (x.deps.counts.length : Int) < 4611686018427387904 := fun i x hx => by
    have hi := (List.getElem?_eq_some_iff.1 hx).1
    have hs := hsum (i + 1)
    have := hKs i x hx
    unfold KM at *
    omega
  have hKl : KM n L L.length = n + 11 * (L.length : Int) + (cnL L : Int) := by unfold KM; rw [List.take_length]
  obtain ⟨P, hP, hPl, hPm⟩ : ∃ P, loopP (p_laws_markOpS_l0 L) ([], n) = some (.out (P, KM n L L.length)) ∧ P.length = L.length ∧ ∀ i x o, L[i]? = some x → P[i]? = some o → p_laws_markOpS_r x (KM n L i) = some ⟨KM n L (i + 1), o⟩ := by
    obtain ⟨e, h1, s, rfl, h2, h3⟩ := loop_count (step := p_laws_markOpS_l0 L) L.length (fun i s => s.1.length = i ∧ s.2 = KM n L i ∧ ∀ j x o, L[j]? = some x → s.1[j]? = some o → p_laws_markOpS_r x (KM n L j) = some ⟨KM n L (j + 1), o⟩)
      (fun e => ∃ s, e = .out (s, KM n L L.length) ∧ s.length = L.length ∧ ∀ j x o, L[j]? = some x → s[j]? = some o → p_laws_markOpS_r x (KM n L j) = some ⟨KM n L (j + 1), o⟩) (by
        rintro i ⟨s1, k⟩ hi ⟨h1, h2, h3⟩
        simp only at h1 h2 h3
        subst h1 h2
        left
        obtain ⟨o, ho, ho'⟩ := get_lt (xs := L) hi
        obtain ⟨b0, b1⟩ := hKb _ o ho'
        obtain ⟨y, hy⟩ := q_markOpr o (KM n L s1.length) b0 (by omega)
        rw [← hKs _ o ho'] at hy
        refine ⟨(s1 ++ [y], KM n L (s1.length + 1)), ?_, by simp, rfl, ?_⟩
        · simp only [p_laws_markOpS_l0]
          rw [if_pos hi, ho, Option.bind_some, hy, Option.bind_some, if_pos (by omega)]
        · intro j x o2 hx ho2
          simp only at ho2
          rcases Nat.lt_or_ge j s1.length with hlt | hge
          · rw [List.getElem?_append_left hlt] at ho2
            exact h3 j x o2 hx ho2
          · have hj := (List.getElem?_eq_some_iff.1 ho2).1
            simp at hj
            obtain rfl : j = s1.length := by omega
            rw [ho'] at hx
            cases hx
            rw [List.getElem?_append_right (Nat.le_refl _)] at ho2
            simp at ho2
            subst ho2
            exact hy)
      (by
        rintro ⟨s1, k⟩ ⟨h1, h2, h3⟩
        simp only at h1 h2 h3
        subst h2
        left
        refine ⟨_, ?_, s1, rfl, h1, h3⟩
        simp only [p_laws_markOpS_l0]
        rw [if_neg (by omega)]) (s := ([], n)) ⟨rfl, by simp [KM, cnL], fun j x o _ h => by simp at h⟩
    exact ⟨s, h1, h2, h3⟩
  refine ⟨⟨KM n L L.length, P⟩, ?_, hKl, ?_⟩
  · unfold p_laws_markOpS
    rw [hP]
    rfl
  · unfold p_laws_heldOpS
    obtain ⟨e, h1, i, rfl⟩ := loop_count (step := p_laws_heldOpS_l0 P) P.length (fun i s => s = (KM n L i, (i : Int))) (fun e => ∃ i, e = .out (KM n L L.length, i)) (by
        rintro i _ hi rfl
        left
        obtain ⟨o, ho, ho'⟩ := get_lt (xs := P) hi
        obtain ⟨x, _, hx⟩ := get_lt (xs := L) (i := i) (by omega)
        have hm := hPm i x o hx ho'
        obtain ⟨b0, b1⟩ := hKb i x hx
        rw [hKs i x hx] at hm ⊢
        generalize hk : KM n L i = k at *
        have hil := (List.getElem?_eq_some_iff.1 hx).1
        have hiL : (i : Int) < 4611686018427387904 := by
          have : (L.length : Int) ≤ 11 * (L.length : Int) := by omega
          omega
        obtain ⟨y, hy, hy2, hy3⟩ := q_markIntS x.deps.counts (k + 3) (by omega) (by omega)
        obtain ⟨s, hs⟩ := q_markText (k + 3 + x.deps.counts.length + 6) (by omega)
        obtain ⟨t, ht⟩ := q_markText (k + 3 + x.deps.counts.length + 7) (by omega)
        have hh := q_heldIntS y (k + 3) (by omega) (by rw [hy2]; omega) (by rw [hy2]; exact hy3)
        rw [hy2] at hh
        have e1 : w64 (w64 (w64 (k + 1) + 1) + 1) = k + 3 := by rw [w64_id (n := k + 1) (by omega) (by omega), w64_id (n := k + 1 + 1) (by omega) (by omega), w64_id (by omega) (by omega)]; omega
        have e2 : w64 (w64 (w64 (w64 (w64 (w64 (k + 3 + (x.deps.counts.length : Int) + 1) + 1) + 1) + 1) + 1) + 1) = k + 3 + (x.deps.counts.length : Int) + 6 := by simp only [w64_add_l]; rw [w64_id (by omega) (by omega)]; omega
        have e3 : w64 (k + 3 + (x.deps.counts.length : Int) + 6 + 1) = k + 3 + (x.deps.counts.length : Int) + 7 := by rw [w64_id (by omega) (by omega)]; omega
        have e4 : w64 (k + 3 + (x.deps.counts.length : Int) + 7 + 1) = k + 11 + (x.deps.counts.length : Int) := by rw [w64_id (by omega) (by omega)]; omega
        have hd : decide ((i : Int) < (P.length : Int)) = true := by simpa using hi
        have hneg : (k + 3 + (x.deps.counts.length : Int) < 0) = False := by simp; omega
        unfold p_laws_markOpS_r at hm
        rw [e1, hy, Option.bind_some] at hm
        simp only at hm
        rw [e2, hs, Option.bind_some, e3, ht, Option.bind_some, e4] at hm
        simp only [Option.some.injEq, T2.mk.injEq] at hm
        obtain ⟨-, rfl⟩ := hm
        refine ⟨_, ?_, rfl⟩
        simp only [p_laws_heldOpS_l0]
        rw [if_t hd, ho, Option.bind_some]
        simp only
        rw [e1, hh]
        simp only [Option.bind_some, decide_eq_true_eq, if_true, hneg, if_false]
        rw [e2, hs]
        simp only [Option.bind_some, if_true]
        rw [e3, ht]
        simp only [Option.bind_some, if_true]
        rw [e4, w64_succ (by omega), show k + 11 + (x.deps.counts.length : Int) = k + 11 + x.deps.counts.length from rfl])
      (by
        rintro _ rfl
        left
        refine ⟨_, ?_, (P.length : Int), rfl⟩
        simp only [p_laws_heldOpS_l0]
        rw [if_neg (by simp), hPl]) (s := (n, 0)) (by simp [KM, cnL])
    rw [h1]
    rfl

theorem q_copyS (x : TOp) (h : x.deps.counts.length ≤ 1024) : p_spec_l08CopyOp x = some x := by
  unfold p_spec_l08CopyOp p_spec_l02Copy
  rw [app_list (by simp only [List.length_nil]; omega), Option.bind_some, Option.bind_some]
  rfl
theorem q_copyI (x : TOp) (h : x.deps.counts.length ≤ 1024) : p_impl_opCopy x = some x := by
  unfold p_impl_opCopy p_impl_vecCopy
  rw [app_list (by simp only [List.length_nil]; omega), Option.bind_some, Option.bind_some]
  rfl
/-- Is an operation above what these counts tell? -/
def ab (v : TVec) (o : TOp) : Bool := decide ((v.counts[o.actor.toNat]?).getD 0 < o.seq)
theorem cat_len {L : List TOp} (hV : Valid okS L) (p : TOp → Bool) (n : Nat) : ((List.range n).flatMap fun a : Nat => (ofs L (a : Int)).filter p).length ≤ 1024 := by
  have h0 : ∀ o, o ∈ L → 0 ≤ o.actor := fun o ho => (okS_1 (G_ok hV.2.1 ho)).a0
  rw [← List.filter_flatMap, ← G_below hV.2.1 n h0]
  exact Nat.le_trans (List.length_filter_le _ _) (Nat.le_trans (List.length_filter_le _ _) hV.1)
theorem val_cat {L : List TOp} (hV : Valid okS L) (p : TOp → Bool) : L.filter p = (List.range 16).flatMap fun a : Nat => (ofs L (a : Int)).filter p :=
  cat_filter hV.2.1 (fun o ho => ⟨(okS_1 (G_ok hV.2.1 ho)).a0, (okS_1 (G_ok hV.2.1 ho)).a1⟩) p

def LEv (x y : TVec) : Prop := ∀ i : Nat, i < 16 → ∀ c d, x.counts[i]? = some c → y.counts[i]? = some d → c ≤ d
theorem q_Covers (y x : TVec) (hy : y.counts.length = 16) (hx : x.counts.length = 16) : ∃ b, p_spec_l02Covers y x = some b ∧ (b = true ↔ LEv x y) := by
  unfold p_spec_l02Covers
  have key := all_loopR (step := p_spec_l02Covers_l0 y x) (r := false) 16 (fun i => ∀ c d, x.counts[i]? = some c → y.counts[i]? = some d → c ≤ d) (by
    intro i hi
    obtain ⟨c, hc, hc'⟩ := get_lt (xs := x.counts) (i := i) (by omega)
    obtain ⟨d, hd, hd'⟩ := get_lt (xs := y.counts) (i := i) (by omega)
    have h16 : decide ((i : Int) < 16) = true := by simp; omega
    simp only [p_spec_l02Covers_l0]
    rw [if_t h16, hc, Option.bind_some, hd, Option.bind_some, w64_succ (by omega)]
    by_cases h : d < c
    · right
      rw [if_pos (by simpa using h)]
      exact ⟨fun hg => by have := hg c d hc' hd'; omega, rfl⟩
    · left
      rw [if_neg (by simpa using h)]
      refine ⟨fun c2 d2 h1 h2 => ?_, rfl⟩
      rw [hc'] at h1
      rw [hd'] at h2
      cases h1
      cases h2
      omega) (by
    simp only [p_spec_l02Covers_l0]
    rw [if_neg (by decide)])
  rcases key with ⟨h1, h2⟩ | ⟨h1, i, h2, h3⟩
  · rw [h1]
    exact ⟨true, rfl, fun _ => h2, fun _ => rfl⟩
  · rw [h1]
    exact ⟨false, rfl, fun h => (by cases h), fun h => absurd (h i h2) h3⟩
theorem q_vecLE (x y : TVec) (hy : y.counts.length = 16) (hx : x.counts.length = 16) : ∃ b, p_impl_vecLE x y = some b ∧ (b = true ↔ LEv x y) := by
  unfold p_impl_vecLE
  have key := all_loopR (step := p_impl_vecLE_l0 x y) (r := false) 16 (fun i => ∀ c d, x.counts[i]? = some c → y.counts[i]? = some d → c ≤ d) (by
    intro i hi
    obtain ⟨c, hc, hc'⟩ := get_lt (xs := x.counts) (i := i) (by omega)
    obtain ⟨d, hd, hd'⟩ := get_lt (xs := y.counts) (i := i) (by omega)
    have h16 : decide ((i : Int) < (x.counts.length : Int)) = true := by simp; omega
    simp only [p_impl_vecLE_l0]
    rw [if_t h16, hc, Option.bind_some, hd, Option.bind_some, w64_succ (by omega)]
    by_cases h : d < c
    · right
      rw [if_pos (by simpa using h)]
      exact ⟨fun hg => by have := hg c d hc' hd'; omega, rfl⟩
    · left
      rw [if_neg (by simpa using h)]
      refine ⟨fun c2 d2 h1 h2 => ?_, rfl⟩
      rw [hc'] at h1
      rw [hd'] at h2
      cases h1
      cases h2
      omega) (by
    simp only [p_impl_vecLE_l0]
    rw [if_neg (by simp; omega)])
  rcases key with ⟨h1, h2⟩ | ⟨h1, i, h2, h3⟩
  · rw [show ((0 : Int)) = 0 from rfl, h1]
    exact ⟨true, rfl, fun _ => h2, fun _ => rfl⟩
  · rw [h1]
    exact ⟨false, rfl, fun h => (by cases h), fun h => absurd (h i h2) h3⟩
/-- Not above what the vector tells. -/
def bl (v : TVec) (o : TOp) : Bool := !(ab v o)
/-- All that a vector lets in stands upon what it lets in. -/
def Cl (L : List TOp) (v : TVec) : Prop := ∀ o, o ∈ L → bl v o = true → LEv o.deps v
theorem q_specAt {L : List TOp} (hV : Valid okS L) (v : TVec) (hv : v.counts.length = 16) :
    ∃ e, loopP (p_spec_LogAt_l0 L v) (([] : List TOp), 0) = some e ∧ ((∃ n, e = .out (L.filter (bl v), n) ∧ Cl L v) ∨ (e = .ret ⟨[], 5⟩ ∧ ¬ Cl L v)) := by
  have hl := hV.1
  exact loop_count (step := p_spec_LogAt_l0 L v) L.length (fun i s => s = ((L.take i).filter (bl v), (i : Int)) ∧ ∀ o, o ∈ L.take i → bl v o = true → LEv o.deps v) (fun e => (∃ n, e = .out (L.filter (bl v), n) ∧ Cl L v) ∨ (e = .ret ⟨[], 5⟩ ∧ ¬ Cl L v)) (by
      rintro i _ hi ⟨rfl, hI⟩
      obtain ⟨o, ho, ho'⟩ := get_lt (xs := L) hi
      have hm := List.mem_of_getElem? ho'
      have ok := okS_1 (G_ok hV.2.1 hm)
      have a0 := ok.a0
      have a1 := ok.a1
      obtain ⟨c, hc, hc'⟩ := get_lt (xs := v.counts) (i := o.actor.toNat) (by omega)
      rw [Int.toNat_of_nonneg a0] at hc
      have hd : decide ((i : Int) < (L.length : Int)) = true := by simpa using hi
      have hab : bl v o = !(decide (c < o.seq)) := by unfold bl ab; rw [hc']; rfl
      have hlen : ((L.take i).filter (bl v)).length ≤ 1024 := Nat.le_trans (List.length_filter_le _ _) (by rw [List.length_take]; omega)
      obtain ⟨b, hb, hb'⟩ := q_Covers v o.deps hv ok.dl
      simp only [p_spec_LogAt_l0]
      rw [if_t hd, ho, Option.bind_some, hc, Option.bind_some, w64_succ (by omega), hb, Option.bind_some, q_copyS o (by rw [ok.dl]; omega), Option.bind_some, app_one (by omega), Option.bind_some]
      by_cases hlt : c < o.seq
      · left
        rw [if_pos (by simpa using hlt)]
        refine ⟨_, rfl, ?_, ?_⟩
        · rw [filter_take_next ho', hab, if_neg (by simpa using hlt)]
        · intro p hp hpb
          rw [take_next ho'] at hp
          rcases List.mem_append.1 hp with h | h
          · exact hI p h hpb
          · simp at h
            subst h
            rw [hab] at hpb
            simp at hpb
            omega
      · rw [if_neg (by simpa using hlt)]
        cases b with
        | true =>
          left
          rw [if_pos rfl]
          refine ⟨_, rfl, ?_, ?_⟩
          · rw [filter_take_next ho', hab, if_pos (by simpa using hlt)]
          · intro p hp hpb
            rw [take_next ho'] at hp
            rcases List.mem_append.1 hp with h | h
            · exact hI p h hpb
            · simp at h
              subst h
              exact hb'.1 rfl
        | false =>
          right
          right
          rw [if_neg (by simp)]
          refine ⟨_, rfl, .inr ⟨rfl, fun h => ?_⟩⟩
          cases hb'.2 (h o hm (by rw [hab]; simpa using hlt)))
    (by
      rintro _ ⟨rfl, hI⟩
      left
      rw [List.take_length] at hI
      refine ⟨_, ?_, .inl ⟨(L.length : Int), rfl, hI⟩⟩
      simp only [p_spec_LogAt_l0]
      rw [if_neg (by simp), List.take_length]) (s := (([] : List TOp), 0)) ⟨by simp, by simp⟩
theorem q_implAt2 (v : TVec) (hv : v.counts.length = 16) (M P : List TOp) (hM : ∀ o, o ∈ M → Ok1 o) (hl : P.length + M.length ≤ 1024) (k : TBook) (hR : Rep k P) :
    ∃ e, loopP (p_impl_book_at_l2 v M) (k, 0) = some e ∧ ((∃ k' n, e = .out (k', n) ∧ Rep k' (P ++ M) ∧ ∀ o, o ∈ M → LEv o.deps v) ∨ (e = .ret ⟨none, 5⟩ ∧ ∃ o, o ∈ M ∧ ¬ LEv o.deps v)) := by
  exact loop_count (step := p_impl_book_at_l2 v M) M.length (fun i s => s.2 = (i : Int) ∧ Rep s.1 (P ++ M.take i) ∧ ∀ o, o ∈ M.take i → LEv o.deps v) (fun e => (∃ k' n, e = .out (k', n) ∧ Rep k' (P ++ M) ∧ ∀ o, o ∈ M → LEv o.deps v) ∨ (e = .ret ⟨none, 5⟩ ∧ ∃ o, o ∈ M ∧ ¬ LEv o.deps v)) (by
      rintro i ⟨k1, n⟩ hi ⟨h1, h2, h3⟩
      simp only at h1 h2 h3
      subst h1
      obtain ⟨o, ho, ho'⟩ := get_lt (xs := M) hi
      have hm := List.mem_of_getElem? ho'
      have ok := hM o hm
      have hd : decide ((i : Int) < (M.length : Int)) = true := by simpa using hi
      obtain ⟨b, hb, hb'⟩ := q_vecLE o.deps v hv ok.dl
      obtain ⟨k2, hk2, hR2⟩ := q_put h2 ok (by rw [List.length_append, List.length_take]; omega)
      simp only [p_impl_book_at_l2]
      rw [if_t hd, ho, Option.bind_some, hb, Option.bind_some, hk2, Option.bind_some, w64_succ (by omega)]
      cases b with
      | true =>
        left
        rw [if_pos rfl]
        refine ⟨_, rfl, rfl, ?_, ?_⟩
        · rw [take_next ho', ← List.append_assoc]
          exact hR2
        · intro p hp
          rw [take_next ho'] at hp
          rcases List.mem_append.1 hp with h | h
          · exact h3 p h
          · simp at h
            subst h
            exact hb'.1 rfl
      | false =>
        right
        right
        rw [if_neg (by simp)]
        exact ⟨_, rfl, .inr ⟨rfl, o, hm, fun h => by cases hb'.2 h⟩⟩)
    (by
      rintro ⟨k1, n⟩ ⟨h1, h2, h3⟩
      simp only at h1 h2 h3
      subst h1
      rw [List.take_length] at h2 h3
      left
      refine ⟨_, ?_, .inl ⟨k1, (M.length : Int), rfl, h2, h3⟩⟩
      simp only [p_impl_book_at_l2]
      rw [if_neg (by simp)]) (s := (k, 0)) ⟨rfl, by simpa using hR, by simp⟩
theorem ofs_bl {L : List TOp} (v : TVec) (a c : Nat) (hc : v.counts[a]? = some (c : Int)) (hs : ∀ (j : Nat) (o : TOp), (ofs L (a : Int))[j]? = some o → o.seq = (j : Int) + 1) : (ofs L (a : Int)).filter (bl v) = (ofs L (a : Int)).take c := by
  have hact : ∀ o, o ∈ ofs L (a : Int) → o.actor = a := fun o ho => ofs_actor ho
  generalize ofs L (a : Int) = M at *
  have hbl : ∀ j o, M[j]? = some o → bl v o = decide (j < c) := by
    intro j o hj
    unfold bl ab
    rw [hact o (List.mem_of_getElem? hj), Int.toNat_natCast, hc, hs j o hj]
    simp only [Option.getD_some]
    by_cases h : j < c
    · rw [decide_eq_true h, decide_eq_false (by omega)]
      rfl
    · rw [decide_eq_false h, decide_eq_true (by omega)]
      rfl
  have key : ∀ n, n ≤ M.length → (M.take n).filter (bl v) = (M.take n).take c := by
    intro n
    induction n with
    | zero => intro _; simp
    | succ n ih =>
      intro hn
      have hl : n < M.length := hn
      have e : M[n]? = some M[n] := List.getElem?_eq_getElem hl
      rw [filter_take_next e, hbl n _ e, ih (by omega), take_next e]
      by_cases h : n < c
      · have e1 : (M.take n).take c = M.take n := List.take_of_length_le (by rw [List.length_take]; omega)
        have e2 : (M.take n ++ [M[n]]).take c = M.take n ++ [M[n]] := List.take_of_length_le (by rw [List.length_append, List.length_take]; simp only [List.length_cons, List.length_nil]; omega)
        rw [if_pos (by simpa using h), e1, e2]
      · rw [if_neg (by simpa using h), List.take_append_of_le_length (by rw [List.length_take]; omega)]
  have := key M.length (Nat.le_refl _)
  rwa [List.take_length] at this
theorem q_bookAt {L : List TOp} (hV : Valid okS L) (k : TBook) (hR : Rep k L) (v w : TVec) (hv : v.counts.length = 16) (hv0 : ∀ c, c ∈ v.counts → 0 ≤ c) (hw : w.counts.length = 16) (hw' : ∀ a : Nat, a < 16 → w.counts[a]? = some ((ofs L (a : Int)).length : Int)) :
    ∃ r, p_impl_book_at (some k) v = some r ∧ ((LEv v w ∧ Cl L v ∧ r.b = 0 ∧ ∃ k', r.a = some k' ∧ Rep k' (L.filter (bl v))) ∨ (¬ (LEv v w ∧ Cl L v) ∧ r.b = 5)) := by
  unfold p_impl_book_at
  have hgk : ∀ a : Nat, a < 16 → get? k.of_ (a : Int) = some (ofs L (a : Int)) := by
    intro a ha
    unfold get?
    rw [if_pos (by omega), Int.toNat_natCast]
    exact hR.of_ a ha
  have key := all_loopR (step := p_impl_book_at_l0 (some k) v) (r := ⟨(none : Option TBook), (5 : Int)⟩) 16 (fun a => ∀ c, v.counts[a]? = some c → c ≤ ((ofs L (a : Int)).length : Int)) (by
    intro a ha
    obtain ⟨c, hc, hc'⟩ := get_lt (xs := v.counts) (i := a) (by omega)
    have hd : decide ((a : Int) < (v.counts.length : Int)) = true := by simp; omega
    simp only [p_impl_book_at_l0]
    rw [if_t hd, hc, Option.bind_some, Option.bind_some, hgk a ha, Option.bind_some, w64_succ (by omega)]
    by_cases h : ((ofs L (a : Int)).length : Int) < c
    · right
      rw [if_pos (by simpa using h)]
      exact ⟨fun hg => by have := hg c hc'; omega, rfl⟩
    · left
      rw [if_neg (by simpa using h)]
      refine ⟨fun c2 h2 => ?_, rfl⟩
      rw [hc'] at h2
      cases h2
      omega) (by
    simp only [p_impl_book_at_l0]
    rw [if_neg (by simp; omega)])
  rcases key with ⟨h1, h2⟩ | ⟨h1, a, h2, h3⟩
  · have hLE : LEv v w := by
      intro a ha c d hc hd
      rw [hw' a ha] at hd
      cases hd
      exact h2 a ha c hc
    rw [show ((0 : Int)) = 0 from rfl, h1, Option.bind_some]
    simp only
    have hP : ∀ a, a ≤ 16 → ((List.range a).flatMap fun a : Nat => (ofs L (a : Int)).filter (bl v)).length ≤ 1024 := fun a _ => cat_len hV (bl v) a
    obtain ⟨e, g1, g2⟩ := loop_count (step := p_impl_book_at_l3 (some k) v) 16 (fun a s => s.2 = (a : Int) ∧ Rep s.1 ((List.range a).flatMap fun a : Nat => (ofs L (a : Int)).filter (bl v)) ∧ ∀ b : Nat, b < a → ∀ o, o ∈ (ofs L (b : Int)).filter (bl v) → LEv o.deps v)
      (fun e => (∃ k' n, e = .out (k', n) ∧ Rep k' (L.filter (bl v)) ∧ Cl L v) ∨ (e = .ret ⟨none, 5⟩ ∧ ¬ Cl L v)) (by
        rintro a ⟨k1, n⟩ ha ⟨q1, q2, q3⟩
        simp only at q1 q2 q3
        subst q1
        obtain ⟨c, hc, hc'⟩ := get_lt (xs := v.counts) (i := a) (by omega)
        have c0 := hv0 c (List.mem_of_getElem? hc')
        have c1 := h2 a ha c hc'
        obtain ⟨cn, rfl⟩ : ∃ cn : Nat, c = (cn : Int) := ⟨c.toNat, by omega⟩
        have hd : decide ((a : Int) < (v.counts.length : Int)) = true := by simp; omega
        have hcut : cut? (ofs L (a : Int)) 0 (cn : Int) = some ((ofs L (a : Int)).filter (bl v)) := by
          rw [ofs_bl v a cn hc' (G_seq hV.2.1 (a : Int))]
          unfold cut?
          rw [if_pos ⟨by omega, by omega, c1⟩]
          simp
        have hsum := cat_len hV (bl v) (a + 1)
        rw [flat_succ, List.length_append] at hsum
        obtain ⟨e, f1, f2⟩ := q_implAt2 v hv ((ofs L (a : Int)).filter (bl v)) _ (fun o ho => okS_1 (G_ok hV.2.1 (List.mem_filter.1 (List.mem_filter.1 ho).1).1)) hsum k1 q2
        simp only [p_impl_book_at_l3]
        rw [if_t hd, hc, Option.bind_some, Option.bind_some, hgk a ha, Option.bind_some, hcut, Option.bind_some, f1, Option.bind_some]
        rcases f2 with ⟨k2, n, rfl, f3, f4⟩ | ⟨rfl, o, f3, f4⟩
        · left
          refine ⟨_, rfl, by simp only; rw [w64_succ (by omega)], ?_, ?_⟩
          · simp only
            rw [flat_succ]
            exact f3
          · intro b hb o ho
            rcases Nat.lt_or_ge b a with hlt | hge
            · exact q3 b hlt o ho
            · obtain rfl : b = a := by omega
              exact f4 o ho
        · right
          right
          refine ⟨_, rfl, .inr ⟨rfl, fun h => f4 (h o (List.mem_filter.1 (List.mem_filter.1 f3).1).1 (List.mem_filter.1 f3).2)⟩⟩)
      (by
        rintro ⟨k1, n⟩ ⟨q1, q2, q3⟩
        simp only at q1 q2 q3
        subst q1
        rw [← val_cat hV] at q2
        left
        refine ⟨_, ?_, .inl ⟨k1, (16 : Int), rfl, q2, fun o ho hb => ?_⟩⟩
        · simp only [p_impl_book_at_l3]
          rw [if_neg (by simp; omega)]
          rfl
        · have ok := okS_1 (G_ok hV.2.1 ho)
          have a0 := ok.a0
          have a1 := ok.a1
          refine q3 o.actor.toNat (by omega) o (List.mem_filter.2 ⟨List.mem_filter.2 ⟨ho, ?_⟩, hb⟩)
          simp
          omega) (s := (book0, 0)) ⟨rfl, by
            constructor
            · intro a ha
              have : ofs ([] : List TOp) (a : Int) = [] := rfl
              simp only [List.range_zero, List.flatMap_nil, this]
              unfold book0
              simp only
              rw [List.getElem?_replicate, if_pos ha]
            · intro b hb
              have : lastThing ([] : List TOp) (b : Int) = 0 := rfl
              simp only [List.range_zero, List.flatMap_nil, this]
              unfold book0
              simp only
              rw [List.getElem?_replicate, if_pos hb], fun b hb => by omega⟩
    rw [g1, Option.bind_some]
    rcases g2 with ⟨k', n, rfl, g3, g4⟩ | ⟨rfl, g3⟩
    · exact ⟨_, rfl, .inl ⟨hLE, g4, rfl, k', rfl, g3⟩⟩
    · exact ⟨_, rfl, .inr ⟨fun h => g3 h.2, rfl⟩⟩
  · rw [h1]
    refine ⟨_, rfl, .inr ⟨fun h => h3 fun c hc => ?_, rfl⟩⟩
    exact h.1 a h2 c _ hc (hw' a h2)
theorem q_bookLog {L : List TOp} (k : TBook) (hR : Rep k L) (hl : ∀ n, ((List.range n).flatMap fun a : Nat => ofs L (a : Int)).length ≤ 1024) (hd : ∀ o, o ∈ L → o.deps.counts.length = 16) : p_impl_book_log (some k) = some ((List.range 16).flatMap fun a : Nat => ofs L (a : Int)) := by
  unfold p_impl_book_log
  obtain ⟨e, h1, n, rfl⟩ := loop_count (step := p_impl_book_log_l2 (some k)) 16 (fun i s => s = ((List.range i).flatMap fun a : Nat => ofs L (a : Int), (i : Int))) (fun e => ∃ n, e = .out ((List.range 16).flatMap fun a : Nat => ofs L (a : Int), n)) (by
      rintro i _ hi rfl
      left
      have hga : get? k.of_ (i : Int) = some (ofs L (i : Int)) := by
        unfold get?
        rw [if_pos (by omega), Int.toNat_natCast]
        exact hR.of_ i hi
      have hd16 : decide ((i : Int) < 16) = true := by simp; omega
      have hs := hl i
      have hM := hl (i + 1)
      rw [flat_succ, List.length_append] at hM
      have hdM : ∀ o, o ∈ ofs L (i : Int) → o.deps.counts.length = 16 := fun o ho => hd o (List.mem_filter.1 ho).1
      refine ⟨((List.range (i + 1)).flatMap fun a : Nat => ofs L (a : Int), ((i + 1 : Nat) : Int)), ?_, rfl⟩
      simp only [p_impl_book_log_l2]
      rw [if_t hd16, Option.bind_some, hga, Option.bind_some, flat_succ]
      generalize ((List.range i).flatMap fun a : Nat => ofs L (a : Int)) = s at *
      generalize ofs L (i : Int) = M at *
      obtain ⟨e, h1, n, rfl⟩ := loop_count (step := p_impl_book_log_l1 M) M.length (fun j t => t = (s ++ M.take j, (j : Int))) (fun e => ∃ n, e = .out (s ++ M, n)) (by
          rintro j _ hj rfl
          left
          obtain ⟨o, ho, ho'⟩ := get_lt (xs := M) hj
          have hdj : decide ((j : Int) < (M.length : Int)) = true := by simpa using hj
          refine ⟨_, ?_, rfl⟩
          simp only [p_impl_book_log_l1]
          rw [if_t hdj, ho, Option.bind_some, q_copyI o (by rw [hdM o (List.mem_of_getElem? ho')]; omega), Option.bind_some, app_one (by rw [List.length_append, List.length_take]; omega), Option.bind_some, w64_succ (by omega), take_next ho', List.append_assoc])
        (by
          rintro _ rfl
          left
          refine ⟨_, ?_, (M.length : Int), rfl⟩
          simp only [p_impl_book_log_l1]
          rw [if_neg (by simp), List.take_length]) (s := (s, 0)) (by simp)
      rw [h1, Option.bind_some, w64_succ (by omega)])
    (by
      rintro _ rfl
      left
      refine ⟨_, ?_, (16 : Int), rfl⟩
      simp only [p_impl_book_log_l2]
      rw [if_neg (by decide)]
      rfl) (s := (([] : List TOp), 0)) (by simp)
  rw [h1, Option.bind_some]

theorem cn16 : ∀ l : List TOp, (∀ o, o ∈ l → o.deps.counts.length = 16) → cnL l = 16 * l.length
  | [], _ => rfl
  | o :: l, h => by
    have h3 := cn16 l fun q hq => h q (List.mem_cons_of_mem _ hq)
    have h4 := h o (List.mem_cons_self ..)
    simp only [cnL, List.map_cons, List.sum_cons, List.length_cons] at *
    omega
theorem res_ok {x l : List TOp} (hx : ∀ a, a ∈ x → okTOp a) (h : l = [] ∨ Valid okS x ∧ ∃ p, l = x.filter p) : l.length ≤ 1024 ∧ (∀ a, a ∈ l → okTOp a) ∧ cnL l ≤ 16384 := by
  rcases h with rfl | ⟨hV, p, rfl⟩
  · exact ⟨by simp, fun a ha => (by cases ha), by simp [cnL]⟩
  · have hl : (x.filter p).length ≤ 1024 := Nat.le_trans (List.length_filter_le _ _) hV.1
    refine ⟨hl, fun a ha => hx a (List.mem_filter.1 ha).1, ?_⟩
    rw [cn16 _ fun o ho => (okS_1 (G_ok hV.2.1 (List.mem_filter.1 ho).1)).dl]
    omega

theorem q_markV (x : TVec) (n : Int) (h0 : 0 ≤ n) (hn : n + x.counts.length < 9223372036854775807) : ∃ y, p_laws_markVector x n = some ⟨n + x.counts.length, y⟩ := by
  obtain ⟨y, h1, h2, h3⟩ := q_markIntS x.counts n h0 hn
  refine ⟨⟨y⟩, ?_⟩
  unfold p_laws_markVector
  rw [h1]
  rfl
theorem ofs_filter {L : List TOp} {p : TOp → Bool} {a : Int} : ofs (L.filter p) a = (ofs L a).filter p := by
  unfold ofs
  rw [List.filter_filter, List.filter_filter]
  congr 1
  funext o
  rw [Bool.and_comm]

theorem q_LogAt (x : List TOp) (v : TVec) : ∃ r, p_spec_LogAt x v = some r ∧ p_impl_LogAt x v = some r ∧ (r.a = [] ∨ Valid okS x ∧ ∃ p, r.a = x.filter p) := by
  unfold p_spec_LogAt p_impl_LogAt p_impl_bookAt
  obtain ⟨b, hb, hb'⟩ := q_specLogOK x
  obtain ⟨r, hr, hr', hk⟩ := q_readBook x
  obtain ⟨c, hc, hc'⟩ := q_specVecOK2 v
  have e : r.b = b := by
    cases h : b <;> cases h2 : r.b <;> simp_all
  rw [hb, hr, Option.bind_some, Option.bind_some, e, q_implVecOK, hc]
  cases b with
  | false => exact ⟨_, rfl, rfl, .inl rfl⟩
  | true =>
    rw [if_pos rfl, if_pos rfl, Option.bind_some, Option.bind_some]
    cases c with
    | false => exact ⟨_, rfl, rfl, .inl rfl⟩
    | true =>
      obtain ⟨k, hk1, hR⟩ := hk e
      have hV := hb'.1 rfl
      obtain ⟨hv, hv2⟩ := hc' rfl
      obtain ⟨w, hw, hw1, hw2⟩ := q_Counts x hV.1 (fun o ho => ⟨(okS_1 (G_ok hV.2.1 ho)).a0, (okS_1 (G_ok hV.2.1 ho)).a1⟩)
      obtain ⟨d, hd, hd'⟩ := q_Covers w v hw1 hv
      obtain ⟨e1, h1, h2⟩ := q_specAt hV v hv
      obtain ⟨r2, h3, h4⟩ := q_bookAt hV k hR v w hv (fun c hc => (hv2 c hc).1) hw1 hw2
      rw [if_pos rfl, if_pos rfl, hw, Option.bind_some, hd, Option.bind_some, hk1, h3, Option.bind_some, Option.bind_some, h1]
      rcases h4 with ⟨g1, g2, g3, k', g4, g5⟩ | ⟨g1, g2⟩
      · have hdt : d = true := hd'.2 g1
        subst hdt
        rcases h2 with ⟨n, rfl, _⟩ | ⟨_, g6⟩
        · have hlog := q_bookLog k' g5 (fun n => by
            have := cat_len hV (bl v) n
            simpa only [ofs_filter] using this) (fun o ho => (okS_1 (G_ok hV.2.1 (List.mem_filter.1 ho).1)).dl)
          simp only [ofs_filter] at hlog
          rw [← val_cat hV] at hlog
          rw [if_pos rfl, if_pos (by simpa using g3), g4, hlog, Option.bind_some]
          exact ⟨_, rfl, rfl, .inr ⟨hV, _, rfl⟩⟩
        · exact absurd g2 g6
      · cases d with
        | false =>
          rw [if_neg (by simp), if_neg (by rw [g2]; decide), g2]
          exact ⟨_, rfl, rfl, .inl rfl⟩
        | true =>
          rcases h2 with ⟨n, _, g6⟩ | ⟨rfl, _⟩
          · exact absurd ⟨hd'.1 rfl, g6⟩ g1
          · rw [if_pos rfl, if_neg (by rw [g2]; decide), g2]
            exact ⟨_, rfl, rfl, .inl rfl⟩

theorem plain_LogAt (x : List TOp) (v : TVec) (hx : x.length * 128 ≤ reachBytes ∧ ∀ a, a ∈ x → okTOp a) (hv : okTVec v) : p_laws_FnExactLogAt x v = some true := by
  have h1 := hx.1
  have h2 := hv.1
  rw [reach_eq] at h1 h2
  unfold p_laws_FnExactLogAt
  rcases q_szOpS3 x hx.1 hx.2 1048576 (by omega) (by omega) with hm | ⟨m, hm, hm0, hm'⟩
  · rw [hm]; rfl
  · rw [hm, Option.bind_some]
    split
    · rfl
    · obtain ⟨m2, hm2⟩ := q_szVector v m
      rw [hm2, Option.bind_some]
      split
      · rfl
      · have hc := cn_le x
        obtain ⟨r, hr, hr2, hr3⟩ := q_LogAt x v
        obtain ⟨hrl, hrx, hrc⟩ := res_ok hx.2 hr3
        obtain ⟨y, hy, hy2⟩ := q_markOpS x 1 (by omega) (by omega)
        obtain ⟨u, hu⟩ := q_markV v y.a (by rw [hy2]; omega) (by rw [hy2]; omega)
        obtain ⟨z, hz, hz2, hz3⟩ := q_markHeld r.a 1 (by omega) (by omega)
        rw [q_toOpS x hx.1 hx.2, Option.bind_some, q_toVector v hv, Option.bind_some, hr, Option.bind_some, hr2, Option.bind_some, q_eqOpS r.a (by omega) hrx, Option.bind_some, if_pos rfl, if_pos (by simp), q_eqOpS x (by omega) hx.2, Option.bind_some, if_pos rfl, q_eqVector v hv, Option.bind_some, if_pos rfl,
          hy, Option.bind_some, hu, Option.bind_some, if_neg (by simp only [hy2, decide_eq_true_eq]; omega), hz, Option.bind_some, hz3, Option.bind_some, if_neg (by simp only [hz2, decide_eq_true_eq]; omega), if_pos (by simp)]
end Go.AM
