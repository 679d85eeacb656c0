/- The plain law of BranchMerge. No condition. -/
import Derived.Test.YtiabacjkejkbgaaLabGBranchMergeb
import Derived.Test.YtiabacjkejkbgaaLabL4
set_option linter.unusedVariables false
set_option linter.unusedSimpArgs false
namespace Go.AM

theorem G_seq {ok : TOp → Prop} {L : List TOp} (h : G ok L) (a : Int) : ∀ (j : Nat) (o : TOp), (ofs L a)[j]? = some o → o.seq = (j : Int) + 1 := by
  induction h with
  | nil => intro j o hj; simp [ofs] at hj
  | snoc h1 h2 ih =>
    rename_i P p
    intro j o hj
    rw [ofs_snoc] at hj
    by_cases e : p.actor = a
    · rw [if_pos e] at hj
      rcases Nat.lt_or_ge j (ofs P a).length with hlt | hge
      · rw [List.getElem?_append_left hlt] at hj
        exact ih j o hj
      · rw [List.getElem?_append_right hge] at hj
        have : j - (ofs P a).length = 0 := by
          rcases Nat.eq_zero_or_pos (j - (ofs P a).length) with h0 | h0
          · exact h0
          · rw [List.getElem?_eq_none (by simp; omega)] at hj; cases hj
        rw [this] at hj
        simp at hj
        subst hj
        have h3 := h2.2.2
        rw [e] at h3
        omega
    · rw [if_neg e] at hj
      exact ih j o hj

/-- A valid log lies actor behind actor. -/
theorem G_below {ok : TOp → Prop} {L : List TOp} (h : G ok L) : ∀ n : Nat, (∀ o, o ∈ L → 0 ≤ o.actor) → L.filter (fun o => decide (o.actor < (n : Int))) = (List.range n).flatMap fun a : Nat => ofs L (a : Int)
  | 0, h0 => by
    rw [List.filter_eq_nil_iff.2]
    · rfl
    · intro o ho
      have := h0 o ho
      simp only [decide_eq_true_eq]
      omega
  | n + 1, h0 => by
    rw [List.range_succ, List.flatMap_append, ← G_below h n h0]
    obtain ⟨A, B, e, hA, hB⟩ := G_split h (n : Int)
    have hM : ∀ x, x ∈ ofs L (n : Int) → x.actor = n := fun x hx => ofs_actor hx
    simp only [List.flatMap_cons, List.flatMap_nil, List.append_nil]
    generalize ofs L (n : Int) = M at *
    rw [e, List.filter_append, List.filter_append, List.filter_append, List.filter_append]
    have f1 : A.filter (fun o => decide (o.actor < ((n + 1 : Nat) : Int))) = A := List.filter_eq_self.2 fun x hx => by have := hA x hx; simp only [decide_eq_true_eq]; omega
    have f2 : M.filter (fun o => decide (o.actor < ((n + 1 : Nat) : Int))) = M := List.filter_eq_self.2 fun x hx => by have := hM x hx; simp only [decide_eq_true_eq]; omega
    have f3 : B.filter (fun o => decide (o.actor < ((n + 1 : Nat) : Int))) = [] := List.filter_eq_nil_iff.2 fun x hx => by have := hB x hx; simp only [decide_eq_true_eq]; omega
    have f4 : A.filter (fun o => decide (o.actor < (n : Int))) = A := List.filter_eq_self.2 fun x hx => by have := hA x hx; simp only [decide_eq_true_eq]; omega
    have f5 : M.filter (fun o => decide (o.actor < (n : Int))) = [] := List.filter_eq_nil_iff.2 fun x hx => by have := hM x hx; simp only [decide_eq_true_eq]; omega
    have f6 : B.filter (fun o => decide (o.actor < (n : Int))) = [] := List.filter_eq_nil_iff.2 fun x hx => by have := hB x hx; simp only [decide_eq_true_eq]; omega
    rw [f1, f2, f3, f4, f5, f6]
    simp
theorem G_cat {ok : TOp → Prop} {L : List TOp} (h : G ok L) (h0 : ∀ o, o ∈ L → 0 ≤ o.actor ∧ o.actor < 16) : L = (List.range 16).flatMap fun a : Nat => ofs L (a : Int) := by
  rw [← G_below h 16 (fun o ho => (h0 o ho).1), List.filter_eq_self.2]
  intro o ho
  have := (h0 o ho).2
  simp only [decide_eq_true_eq]
  omega
theorem cat_filter {ok : TOp → Prop} {L : List TOp} (h : G ok L) (h0 : ∀ o, o ∈ L → 0 ≤ o.actor ∧ o.actor < 16) (p : TOp → Bool) : L.filter p = (List.range 16).flatMap fun a : Nat => (ofs L (a : Int)).filter p := by
  conv => lhs; rw [G_cat h h0]
  rw [List.filter_flatMap]
theorem flat_succ {α : Type} (f : Nat → List α) (n : Nat) : (List.range (n + 1)).flatMap f = (List.range n).flatMap f ++ f n := by
  rw [List.range_succ, List.flatMap_append]
  simp
theorem filter_take_next {L : List TOp} {p : TOp → Bool} {i : Nat} {o : TOp} (h : L[i]? = some o) : (L.take (i + 1)).filter p = if p o = true then (L.take i).filter p ++ [o] else (L.take i).filter p := by
  rw [take_next h, List.filter_append]
  by_cases hp : p o = true
  · rw [if_pos hp]; simp [hp]
  · rw [if_neg hp]; simp [hp]

theorem q_szIntS (x : List Int) (n : Int) : ∃ m, p_laws_szIntS x n = some m := by
  unfold p_laws_szIntS
  repeat' split
  all_goals exact ⟨_, rfl⟩
theorem q_szVector (x : TVec) (n : Int) : ∃ m, p_laws_szVector x n = some m := by
  unfold p_laws_szVector
  obtain ⟨m, h⟩ := q_szIntS x.counts n
  rw [h, Option.bind_some]
  repeat' split
  all_goals exact ⟨_, rfl⟩
theorem q_toIntS (x : List Int) (hx : x.length * 8 ≤ reachBytes) : p_laws_toIntS x = some x := by
  rw [reach_eq] at hx
  unfold p_laws_toIntS
  rw [show (8 : Int) = ((8 : Nat) : Int) from rfl, mkL_ok (by omega) (by omega), Option.bind_some]
  have e : p_laws_toIntS_l0 x = copyStep x some := rfl
  rw [e]
  obtain ⟨i, h⟩ := copy_loop (ρ := List Int) (x := x) (v := List.replicate x.length 0) (f := some) (fun _ _ => rfl) (by simp) (by omega)
  rw [h]; rfl
theorem q_toVector (x : TVec) (hx : okTVec x) : p_laws_toVector x = some x := by
  unfold p_laws_toVector
  rw [q_toIntS x.counts hx.1]; rfl
theorem q_eqIntS (x : List Int) (hx : x.length * 8 ≤ reachBytes) : p_laws_eqIntS x x = some true := by
  rw [reach_eq] at hx
  unfold p_laws_eqIntS
  rw [if_pos (by simp)]
  have e : p_laws_eqIntS_l0 x x = eqStep x x fun a b => some (decide (a = b)) := by
    funext s
    unfold p_laws_eqIntS_l0 eqStep
    simp only [Option.bind_some]
  rw [e]
  obtain ⟨i, h⟩ := eq_loop (x := x) (g := fun a b => some (decide (a = b))) (fun a _ => by simp) (by omega)
  rw [h]; rfl
theorem q_eqVector (x : TVec) (hx : okTVec x) : p_laws_eqVector x x = some true := by
  unfold p_laws_eqVector
  rw [q_eqIntS x.counts hx.1]; rfl

theorem q_specVecOK2 (x : TVec) : ∃ b, p_spec_VecOK x = some b ∧ (b = true → x.counts.length = 16 ∧ ∀ c, c ∈ x.counts → 0 ≤ c ∧ c ≤ 1000000000000) := by
  unfold p_spec_VecOK
  by_cases hl : decide ((x.counts.length : Int) = 16) = true
  · rw [if_t hl]
    have hl' : x.counts.length = 16 := by have := of_decide_eq_true hl; omega
    have hg := all_loop (step := p_spec_VecOK_l0 x) 16 (fun i => ∀ c, x.counts[i]? = some c → 0 ≤ c ∧ c ≤ 1000000000000) (by
      intro i hi
      obtain ⟨a, ha, ha'⟩ := get_lt (xs := x.counts) (i := i) (by omega)
      have hd : decide ((i : Int) < 16) = true := by simp; omega
      simp only [p_spec_VecOK_l0]
      rw [if_t hd, ha, Option.bind_some, w64_succ (by omega)]
      by_cases h1 : a < 0
      · rw [if_pos (decide_eq_true h1)]
        exact .inr ⟨fun h => by have := h a ha'; omega, rfl⟩
      · rw [if_neg (by simpa using h1)]
        by_cases h2 : 1000000000000 < a
        · rw [if_pos (decide_eq_true h2)]
          exact .inr ⟨fun h => by have := h a ha'; omega, rfl⟩
        · rw [if_neg (by simpa using h2)]
          refine .inl ⟨fun c hc => ?_, rfl⟩
          rw [ha'] at hc; cases hc; omega) rfl
    rcases hg with ⟨h1, h2⟩ | ⟨h1, _⟩
    · rw [show ((0 : Int)) = 0 from rfl, h1]
      refine ⟨true, rfl, fun _ => ⟨hl', fun c hc => ?_⟩⟩
      obtain ⟨i, hi⟩ := List.getElem?_of_mem hc
      exact h2 i (by have := (List.getElem?_eq_some_iff.1 hi).1; omega) c hi
    · rw [h1]
      exact ⟨false, rfl, fun h => by cases h⟩
  · rw [if_neg hl]
    exact ⟨_, rfl, fun h => by cases h⟩

theorem q_specVecOK (x : TVec) : ∃ b, p_spec_VecOK x = some b ∧ (b = true → x.counts.length = 16) := by
  unfold p_spec_VecOK
  by_cases hl : decide ((x.counts.length : Int) = 16) = true
  · rw [if_t hl]
    have hl' : x.counts.length = 16 := by have := of_decide_eq_true hl; omega
    obtain ⟨e, h1, h2⟩ := loop_count (step := p_spec_VecOK_l0 x) 16 (fun i s => s = (i : Int)) (fun _ => True) (by
      rintro i _ hi rfl
      obtain ⟨a, ha, ha'⟩ := get_lt (xs := x.counts) (i := i) (by omega)
      have hd : decide ((i : Int) < 16) = true := by simp; omega
      simp only [p_spec_VecOK_l0]
      rw [if_t hd, ha, Option.bind_some, w64_succ (by omega)]
      repeat' split
      · exact .inr (.inr ⟨_, rfl, trivial⟩)
      · exact .inr (.inr ⟨_, rfl, trivial⟩)
      · exact .inl ⟨_, rfl, rfl⟩)
      (by
      rintro _ rfl
      left
      exact ⟨16, rfl, trivial⟩) (s := 0) rfl
    rw [h1, Option.bind_some]
    cases e with
    | out s => exact ⟨_, rfl, fun _ => hl'⟩
    | ret r => exact ⟨_, rfl, fun _ => hl'⟩
  · rw [if_neg hl]
    exact ⟨_, rfl, fun h => by cases h⟩
theorem q_implVecOK (x : TVec) : p_impl_VecOK x = p_spec_VecOK x := by
  unfold p_impl_VecOK p_spec_VecOK
  by_cases hl : decide ((x.counts.length : Int) = 16) = true
  · rw [if_t hl, if_t hl]
    have hl' : (x.counts.length : Int) = 16 := of_decide_eq_true hl
    have : p_impl_VecOK_l0 x = p_spec_VecOK_l0 x := by
      funext s
      unfold p_impl_VecOK_l0 p_spec_VecOK_l0
      rw [hl']
    rw [this]
    try rfl
  · rw [if_neg hl, if_neg hl]

theorem q_StampOK (x : TStamp) : p_spec_StampOK x = some (decide (1 ≤ x.time ∧ x.time ≤ 1000000000000 ∧ 0 ≤ x.actor ∧ x.actor < 16)) := by
  unfold p_spec_StampOK
  simp only [decide_eq_true_eq]
  repeat' split
  all_goals (simp only [Option.some.injEq]; symm; first | (rw [decide_eq_false_iff_not]; omega) | (apply decide_eq_decide.2; omega))
theorem q_implStampOK (x : TStamp) : p_impl_StampOK x = p_spec_StampOK x := by
  rw [q_StampOK]
  unfold p_impl_StampOK p_impl_isActor
  simp only [decide_eq_true_eq]
  repeat' split
  all_goals simp only [Option.bind_some, Option.some.injEq]
  all_goals (symm; first | (rw [decide_eq_false_iff_not]; omega) | (apply decide_eq_decide.2; omega))
theorem q_StampLess (x y : TStamp) : p_spec_StampLess x y = some (decide (x.time < y.time ∨ (x.time = y.time ∧ x.actor < y.actor))) := by
  unfold p_spec_StampLess
  simp only [decide_eq_true_eq]
  repeat' split
  all_goals (simp only [Option.some.injEq]; symm; first | (rw [decide_eq_false_iff_not]; omega) | (rw [decide_eq_true_eq]; omega) | (apply decide_eq_decide.2; omega))
theorem q_implStampLess (x y : TStamp) : p_impl_StampLess x y = p_spec_StampLess x y := by
  rw [q_StampLess]
  unfold p_impl_StampLess
  simp only [decide_eq_true_eq]
  repeat' split
  all_goals (simp only [Option.some.injEq]; symm; first | (rw [decide_eq_false_iff_not]; omega) | (rw [decide_eq_true_eq]; omega) | (apply decide_eq_decide.2; omega))

structure Ok1 (o : TOp) : Prop where
  a0 : 0 ≤ o.actor
  a1 : o.actor < 16
  s0 : 1 ≤ o.seq
  s1 : o.seq ≤ 1000000000000
  dl : o.deps.counts.length = 16
  db : ∀ c, c ∈ o.deps.counts → 0 ≤ c ∧ c ≤ 1000000000000
  o0 : 1 ≤ o.obj
  o1 : o.obj ≤ 100
  k0 : 1 ≤ o.kind
  k1 : o.kind ≤ 4
def P1 (o : TOp) (s : Option Bool) : Prop := ∃ b, s = some b ∧ (b = true → Ok1 o)
theorem p1_f {o : TOp} : P1 o (some false) := ⟨false, rfl, fun h => by cases h⟩
theorem p1_ite {o : TOp} {c : Bool} {s t : Option Bool} (h1 : c = true → P1 o s) (h2 : c = false → P1 o t) : P1 o (if c = true then s else t) := by
  cases c with
  | true => rw [if_pos rfl]; exact h1 rfl
  | false => rw [if_neg (by simp)]; exact h2 rfl
theorem q_None (x : TStamp) : p_spec_l02None x = some (decide (x.time = 0) && decide (x.actor = 0)) := by
  unfold p_spec_l02None
  split <;> simp_all
theorem q_Char (n : Int) : ∃ b, p_spec_l04Char n = some b := by
  unfold p_spec_l04Char
  repeat' split
  all_goals exact ⟨_, rfl⟩
theorem q_opOK (o : TOp) : P1 o (p_spec_l08OpOK o) := by
  unfold p_spec_l08OpOK
  obtain ⟨c, hc⟩ := q_Char o.n
  obtain ⟨d, hd, hd'⟩ := q_specVecOK2 o.deps
  rw [show p_spec_l08Stamp o = some ⟨o.time, o.actor⟩ from rfl, Option.bind_some, q_StampOK, Option.bind_some, hd, Option.bind_some]
  simp only [q_None, q_StampOK, q_StampLess, hc, Option.bind_some]
  refine p1_ite (fun h1 => ?_) (fun _ => p1_f)
  refine p1_ite (fun _ => p1_f) (fun h2 => ?_)
  refine p1_ite (fun _ => p1_f) (fun h3 => ?_)
  refine p1_ite (fun h4 => ?_) (fun _ => p1_f)
  simp only [decide_eq_true_eq, decide_eq_false_iff_not] at h1 h2 h3
  obtain ⟨v7, hv7⟩ : ∃ v, get? o.deps.counts o.actor = some v := by
    obtain ⟨x, hx, _⟩ := get_lt (xs := o.deps.counts) (i := o.actor.toNat) (by have := (hd' h4).1; omega)
    rw [Int.toNat_of_nonneg (by omega)] at hx
    exact ⟨x, hx⟩
  rw [hv7, Option.bind_some]
  refine p1_ite (fun h5 => ?_) (fun _ => p1_f)
  refine p1_ite (fun _ => p1_f) (fun h6 => ?_)
  refine p1_ite (fun _ => p1_f) (fun h7 => ?_)
  simp only [decide_eq_true_eq, decide_eq_false_iff_not] at h6 h7
  have hk : 1 ≤ o.kind → o.kind ≤ 4 → Ok1 o := fun k0 k1 => ⟨by omega, by omega, by omega, by omega, (hd' h4).1, (hd' h4).2, by omega, by omega, k0, k1⟩
  repeat' (first | exact p1_f | refine p1_ite (fun _ => ?_) (fun _ => ?_))
  all_goals (first | exact p1_f | (refine ⟨_, rfl, fun _ => hk ?_ ?_⟩ <;> simp_all))

theorem q_New : p_spec_l02New = some ⟨List.replicate 16 0⟩ := by
  unfold p_spec_l02New
  rw [show (mkL 16 8 16 0 : Option (List Int)) = some (List.replicate 16 0) from mkL_ok (l := 16) (y := 8) (by decide) (by decide), Option.bind_some]
theorem q_Counts (L : List TOp) (hL : L.length ≤ 1024) (hA : ∀ o, o ∈ L → 0 ≤ o.actor ∧ o.actor < 16) :
    ∃ v, p_spec_l08Counts L = some v ∧ v.counts.length = 16 ∧ ∀ a : Nat, a < 16 → v.counts[a]? = some ((ofs L (a : Int)).length : Int) := by
  unfold p_spec_l08Counts
  rw [q_New, Option.bind_some]
  obtain ⟨e, h1, s, n, rfl, h2, h3⟩ := loop_count (step := p_spec_l08Counts_l0 L) L.length (fun i s => s.2 = (i : Int) ∧ s.1.length = 16 ∧ ∀ a : Nat, a < 16 → s.1[a]? = some ((ofs (L.take i) (a : Int)).length : Int))
    (fun e => ∃ (s : List Int) (n : Int), e = .out (s, n) ∧ s.length = 16 ∧ ∀ a : Nat, a < 16 → s[a]? = some ((ofs L (a : Int)).length : Int)) (by
      rintro i ⟨s1, s2⟩ hi ⟨h1, h2, h3⟩
      simp only at h1 h2 h3
      subst h1
      left
      obtain ⟨o, ho, ho'⟩ := get_lt (xs := L) hi
      have hm : o ∈ L := List.mem_of_getElem? ho'
      obtain ⟨a0, a1⟩ := hA o hm
      have hd : decide ((i : Int) < (L.length : Int)) = true := by simpa using hi
      have hc := h3 o.actor.toNat (by omega)
      rw [Int.toNat_of_nonneg a0] at hc
      have hg : get? s1 o.actor = some ((ofs (L.take i) o.actor).length : Int) := by
        unfold get?
        rw [if_pos a0, hc]
      have hln : (ofs (L.take i) o.actor).length ≤ 1024 := Nat.le_trans ofs_len (by rw [List.length_take]; omega)
      refine ⟨(s1.set o.actor.toNat (((ofs (L.take i) o.actor).length + 1 : Nat) : Int), ((i + 1 : Nat) : Int)), ?_, rfl, by simp [h2], ?_⟩
      · simp only [p_spec_l08Counts_l0]
        rw [if_t hd, ho, Option.bind_some, hg, Option.bind_some, w64_succ (by omega), w64_succ (by omega)]
      · intro a ha
        simp only
        rw [take_next ho', ofs_snoc]
        by_cases e : o.actor.toNat = a
        · subst e
          rw [List.getElem?_set_self (by omega), if_pos (by omega), Int.toNat_of_nonneg a0]
          simp
        · rw [List.getElem?_set_ne e, if_neg (by omega)]
          exact h3 a ha)
    (by
      rintro ⟨s1, s2⟩ ⟨h1, h2, h3⟩
      simp only at h1 h2 h3
      subst h1
      left
      refine ⟨(s1, (L.length : Int)), ?_, s1, _, rfl, h2, ?_⟩
      · simp only [p_spec_l08Counts_l0]
        rw [if_neg (by simp)]
      · rwa [List.take_length] at h3) (s := (List.replicate 16 0, 0)) ⟨rfl, by simp, fun a ha => by rw [List.getElem?_replicate, if_pos ha]; rfl⟩
  rw [h1, Option.bind_some]
  exact ⟨_, rfl, h2, h3⟩

theorem q_Find {ok : TOp → Prop} {L : List TOp} (hG : G ok L) (hL : L.length ≤ 1024) (a : Nat) (n : Int) (hn1 : 1 ≤ n) (hn2 : n ≤ ((ofs L (a : Int)).length : Int)) :
    ∃ j p, p_spec_l08Find L a n = some j ∧ get? L j = some p ∧ (ofs L (a : Int))[(n - 1).toNat]? = some p := by
  obtain ⟨A, B, e, hA, hB⟩ := G_split hG (a : Int)
  generalize hM : ofs L (a : Int) = M at *
  have hMa : ∀ x, x ∈ M → x.actor = a := fun x hx => by rw [← hM] at hx; exact ofs_actor hx
  have hlen : L.length = A.length + (M.length + B.length) := by rw [e]; simp
  obtain ⟨m, rfl⟩ : ∃ m : Nat, n = (m : Int) + 1 := ⟨(n - 1).toNat, by omega⟩
  have hm : m < M.length := by omega
  have hat : L[A.length + m]? = some M[m] := by
    rw [e, List.getElem?_append_right (by omega), Nat.add_sub_cancel_left, List.getElem?_append_left hm, List.getElem?_eq_getElem hm]
  have hat0 : L[A.length]? = some M[0] := by
    rw [e, List.getElem?_append_right (by omega), Nat.sub_self, List.getElem?_append_left (by omega), List.getElem?_eq_getElem (by omega)]
  have hj : get? L ((A.length + m : Nat) : Int) = some M[m] := by
    unfold get?
    rw [if_pos (by omega), Int.toNat_natCast]
    exact hat
  refine ⟨((A.length + m : Nat) : Int), M[m], ?_, hj, by rw [show ((m : Int) + 1 - 1).toNat = m by omega]; exact List.getElem?_eq_getElem hm⟩
  unfold p_spec_l08Find
  obtain ⟨ee, h1, rfl⟩ := loop_count (step := p_spec_l08Find_l0 L a ((m : Int) + 1)) A.length (fun i s => s = (i : Int)) (fun e => e = .ret ((A.length + m : Nat) : Int)) (by
      rintro i _ hi rfl
      left
      obtain ⟨o, ho, ho'⟩ := get_lt (xs := L) (i := i) (by omega)
      have hoA : o ∈ A := by
        rw [e, List.getElem?_append_left hi] at ho'
        exact List.mem_of_getElem? ho'
      have hne := hA o hoA
      have hd : decide ((i : Int) < (L.length : Int)) = true := by simp; omega
      refine ⟨((i + 1 : Nat) : Int), ?_, rfl⟩
      simp only [p_spec_l08Find_l0]
      rw [if_t hd, ho, Option.bind_some, if_neg (by simp; omega), w64_succ (by omega)])
    (by
      rintro _ rfl
      right
      have hd : decide ((A.length : Int) < (L.length : Int)) = true := by simp; omega
      have ho : get? L (A.length : Int) = some M[0] := by
        unfold get?
        rw [if_pos (by omega), Int.toNat_natCast]
        exact hat0
      have ha0 : (M[0]).actor = a := hMa _ (List.getElem_mem _)
      have ham : (M[m]).actor = a := hMa _ (List.getElem_mem _)
      refine ⟨_, ?_, rfl⟩
      simp only [p_spec_l08Find_l0]
      rw [if_t hd, ho, Option.bind_some, if_pos (by simp [ha0]), if_neg (by simp; omega), w64_id (by omega) (by omega), if_neg (by simp; omega), w64_id (n := (A.length : Int) + ((m : Int) + 1)) (by omega) (by omega), w64_id (by omega) (by omega),
        show (A.length : Int) + ((m : Int) + 1) - 1 = ((A.length + m : Nat) : Int) by omega, hj, Option.bind_some, if_pos (by simp [ham])]) (s := 0) rfl
  rw [h1, Option.bind_some]

theorem q_Causes {ok : TOp → Prop} {L : List TOp} (hG : G ok L) (hL : L.length ≤ 1024) {v : TVec} (hv : v.counts.length = 16) (hv' : ∀ a : Nat, a < 16 → v.counts[a]? = some ((ofs L (a : Int)).length : Int))
    (o : TOp) (hd : o.deps.counts.length = 16) : ∃ b, p_spec_l08Causes L v o = some b ∧ (b = true ↔ ∀ a : Nat, a < 16 → CA L o a) := by
  unfold p_spec_l08Causes
  have key := all_loop (step := p_spec_l08Causes_l0 L v o) 16 (CA L o) (by
    intro a ha
    obtain ⟨n, hn, hn'⟩ := get_lt (xs := o.deps.counts) (i := a) (by omega)
    have hc : get? v.counts (a : Int) = some ((ofs L (a : Int)).length : Int) := by
      unfold get?
      rw [if_pos (by omega), Int.toNat_natCast]
      exact hv' a ha
    have hd16 : decide ((a : Int) < 16) = true := by simp; omega
    simp only [p_spec_l08Causes_l0]
    rw [if_t hd16, hn, Option.bind_some, hc, Option.bind_some]
    by_cases h1 : ((ofs L (a : Int)).length : Int) < n
    · right
      rw [if_pos (by simpa using h1)]
      exact ⟨fun h => by have := (h n hn').1; omega, rfl⟩
    · rw [if_neg (by simpa using h1)]
      by_cases h2 : 0 < n
      · obtain ⟨j, p, hj, hp, hp'⟩ := q_Find hG hL a n (by omega) (by omega)
        rw [if_pos (by simpa using h2), hj, Option.bind_some, hp, Option.bind_some, show p_spec_l08Stamp p = some ⟨p.time, p.actor⟩ from rfl, Option.bind_some, show p_spec_l08Stamp o = some ⟨o.time, o.actor⟩ from rfl, Option.bind_some, q_StampLess, Option.bind_some]
        by_cases h3 : less p o
        · left
          refine ⟨fun n' h => ?_, ?_⟩
          · rw [hn'] at h
            cases h
            exact ⟨by omega, fun _ q hq => by rw [hp'] at hq; cases hq; exact h3⟩
          · rw [if_pos (by unfold less at h3; simpa using h3), w64_succ (by omega)]
        · right
          rw [if_neg (by unfold less at h3; simpa using h3)]
          exact ⟨fun h => h3 ((h n hn').2 h2 p hp'), rfl⟩
      · left
        rw [if_neg (by simpa using h2), w64_succ (by omega)]
        refine ⟨fun n' h => ?_, rfl⟩
        rw [hn'] at h
        cases h
        exact ⟨by omega, fun h => absurd h h2⟩) (by
    simp only [p_spec_l08Causes_l0]
    rw [if_neg (by decide)])
  rcases key with ⟨h1, h2⟩ | ⟨h1, a, h2, h3⟩
  · rw [show (0 : Int) = ((0 : Nat) : Int) from rfl] at *
    rw [h1]
    exact ⟨true, rfl, fun _ => h2, fun _ => rfl⟩
  · rw [h1]
    exact ⟨false, rfl, fun h => (by cases h), fun h => absurd (h a h2) h3⟩

def okS (o : TOp) : Prop := p_spec_l08OpOK o = some true
theorem okS_1 {o : TOp} (h : okS o) : Ok1 o := by
  obtain ⟨b, h1, h2⟩ := q_opOK o
  unfold okS at h
  rw [h] at h1
  cases h1
  exact h2 rfl
def cv (t : Int) : Int := if t = 4 then 3 else t
theorem q_Thing {o : TOp} (h : Ok1 o) : p_spec_l08Thing o.kind = some (cv (thing o)) := by
  have h0 := h.k0
  have h1 := h.k1
  unfold p_spec_l08Thing cv thing
  have : o.kind = 1 ∨ o.kind = 2 ∨ o.kind = 3 ∨ o.kind = 4 := by omega
  rcases this with h | h | h | h <;> simp [h]
theorem thing_range {o : TOp} (h : Ok1 o) : thing o = 1 ∨ thing o = 2 ∨ thing o = 4 := by
  have h0 := h.k0
  have h1 := h.k1
  unfold thing
  split <;> omega
theorem lt_range {P : List TOp} (h : ∀ o, o ∈ P → Ok1 o) (b : Int) : lastThing P b = 0 ∨ lastThing P b = 1 ∨ lastThing P b = 2 ∨ lastThing P b = 4 := by
  unfold lastThing
  have key : ∀ (P : List TOp) (t : Int), (∀ o, o ∈ P → Ok1 o) → (t = 0 ∨ t = 1 ∨ t = 2 ∨ t = 4) → (P.foldl (fun t o => if o.obj = b then thing o else t) t = 0 ∨ P.foldl (fun t o => if o.obj = b then thing o else t) t = 1 ∨ P.foldl (fun t o => if o.obj = b then thing o else t) t = 2 ∨ P.foldl (fun t o => if o.obj = b then thing o else t) t = 4) := by
    intro P
    induction P with
    | nil => intro t _ ht; exact ht
    | cons o P ih =>
      intro t h ht
      rw [List.foldl_cons]
      refine ih _ (fun x hx => h x (List.mem_cons_of_mem _ hx)) ?_
      split
      · have := thing_range (h o (by simp))
        omega
      · exact ht
  exact key P 0 h (.inl rfl)
theorem cv_zero {t : Int} : cv t = 0 ↔ t = 0 := by unfold cv; split <;> omega
theorem cv_inj {t u : Int} (ht : t = 0 ∨ t = 1 ∨ t = 2 ∨ t = 4) (hu : u = 1 ∨ u = 2 ∨ u = 4) : cv t = cv u ↔ t = u := by
  unfold cv
  split <;> split <;> omega

theorem q_specL0 (L : List TOp) (hL : L.length ≤ 1024) : ∃ e, loopP (p_spec_LogOK_l0 L) 0 = some e ∧ ((∃ s, e = .out s ∧ G okS L) ∨ (e = .ret false ∧ ¬ G okS L)) :=
  loop_count (step := p_spec_LogOK_l0 L) L.length (fun i s => s = (i : Int) ∧ G okS (L.take i)) (fun e => (∃ s, e = .out s ∧ G okS L) ∨ (e = .ret false ∧ ¬ G okS L)) (by
      rintro i _ hi ⟨rfl, hg⟩
      obtain ⟨o, ho, ho'⟩ := get_lt (xs := L) hi
      obtain ⟨b, hb, _⟩ := q_opOK o
      have hd : decide ((i : Int) < (L.length : Int)) = true := by simpa using hi
      have good : Step okS (L.take i) o → p_spec_LogOK_l0 L (i : Int) = some (.go ((i + 1 : Nat) : Int)) → (∃ s', p_spec_LogOK_l0 L (i : Int) = some (.go s') ∧ (s' = ((i + 1 : Nat) : Int) ∧ G okS (L.take (i + 1)))) := fun h1 h2 =>
        ⟨_, h2, rfl, by rw [take_next ho']; exact .snoc hg h1⟩
      have bad : ¬ Step okS (L.take i) o → p_spec_LogOK_l0 L (i : Int) = some (.ret false) → ∃ r, p_spec_LogOK_l0 L (i : Int) = some (.ret r) ∧ ((∃ s, (Ex.ret r : Ex Int Bool) = .out s ∧ G okS L) ∨ ((Ex.ret r : Ex Int Bool) = .ret false ∧ ¬ G okS L)) := fun h1 h2 =>
        ⟨_, h2, .inr ⟨rfl, fun h => h1 (G_iff.1 h i o ho')⟩⟩
      have hstep : p_spec_LogOK_l0 L (i : Int) = some (.go ((i + 1 : Nat) : Int)) ∧ Step okS (L.take i) o ∨ p_spec_LogOK_l0 L (i : Int) = some (.ret false) ∧ ¬ Step okS (L.take i) o := by
        simp only [p_spec_LogOK_l0]
        rw [if_t hd, ho, Option.bind_some, hb, Option.bind_some]
        cases b with
        | false =>
          right
          exact ⟨rfl, fun h => by have := h.1; unfold okS at this; rw [hb] at this; cases this⟩
        | true =>
          have hok : okS o := hb
          rw [if_pos rfl]
          rcases Nat.eq_zero_or_pos i with rfl | hi0
          · rw [if_pos (by rfl), List.take_zero, step_first]
            by_cases h1 : o.seq = 1
            · left
              rw [if_pos (by simpa using h1), if_neg (by decide), w64_succ (by omega)]
              exact ⟨rfl, hok, h1⟩
            · right
              rw [if_neg (by simpa using h1)]
              exact ⟨rfl, fun h => h1 h.2⟩
          · obtain ⟨p, hp, hp'⟩ := get_lt (xs := L) (i := i - 1) (by omega)
            have htl := take_last hi0 hp'
            rw [htl] at hg ⊢
            have hpk : Ok1 p := okS_1 (G_ok hg (by simp))
            have hps := hpk.s1
            have hps0 := hpk.s0
            have hi1 : decide ((0 : Int) < (i : Int)) = true := by simp; omega
            rw [step_next hg, if_neg (by simp; omega), w64_pred hi0 (by omega), hp, Option.bind_some]
            by_cases h1 : o.actor = p.actor
            · rw [if_pos (by simpa using h1), w64_id (n := p.seq + 1) (by omega) (by omega)]
              by_cases h2 : o.seq = p.seq + 1
              · left
                rw [if_pos (by simpa using h2), w64_succ (by omega)]
                exact ⟨rfl, hok, .inl ⟨h1, h2⟩⟩
              · right
                rw [if_neg (by simpa using h2)]
                exact ⟨rfl, fun h => by rcases h.2 with h | h <;> omega⟩
            · rw [if_neg (by simpa using h1)]
              by_cases h2 : o.seq = 1
              · rw [if_pos (by simpa using h2), if_t hi1]
                by_cases h3 : o.actor < p.actor
                · right
                  rw [if_pos (by simpa using h3)]
                  exact ⟨rfl, fun h => by rcases h.2 with h | h <;> omega⟩
                · left
                  rw [if_neg (by simpa using h3), w64_succ (by omega)]
                  exact ⟨rfl, hok, .inr ⟨by omega, h2⟩⟩
              · right
                rw [if_neg (by simpa using h2)]
                exact ⟨rfl, fun h => by rcases h.2 with h | h <;> omega⟩
      rcases hstep with ⟨h1, h2⟩ | ⟨h1, h2⟩
      · exact .inl (good h2 h1)
      · exact .inr (.inr (bad h2 h1)))
    (by
      rintro _ ⟨rfl, hg⟩
      left
      rw [List.take_length] at hg
      refine ⟨(L.length : Int), ?_, .inl ⟨_, rfl, hg⟩⟩
      simp only [p_spec_LogOK_l0]
      rw [if_neg (by simp)]) ⟨rfl, by simpa using G.nil⟩

theorem q_specL1 (L : List TOp) (hL : L.length ≤ 1024) (hG : G okS L) {v : TVec} (hv : v.counts.length = 16) (hv' : ∀ a : Nat, a < 16 → v.counts[a]? = some ((ofs L (a : Int)).length : Int)) :
    ∃ e, loopP (p_spec_LogOK_l1 L v) (List.replicate 101 0, 0) = some e ∧ ((∃ s, e = .out s ∧ KK L ∧ CC L) ∨ (e = .ret false ∧ ¬ (KK L ∧ CC L))) :=
  loop_count (step := p_spec_LogOK_l1 L v) L.length (fun i s => s.2 = (i : Int) ∧ s.1.length = 101 ∧ (∀ b : Nat, b < 101 → s.1[b]? = some (cv (lastThing (L.take i) (b : Int)))) ∧ ∀ (j : Nat) (o : TOp), j < i → L[j]? = some o → KS (L.take j) o ∧ ∀ a : Nat, a < 16 → CA L o a)
    (fun e => (∃ s, e = .out s ∧ KK L ∧ CC L) ∨ (e = .ret false ∧ ¬ (KK L ∧ CC L))) (by
      rintro i ⟨s1, s2⟩ hi ⟨h1, h2, h3, h4⟩
      simp only at h1 h2 h3 h4
      subst h1
      obtain ⟨o, ho, ho'⟩ := get_lt (xs := L) hi
      have hok : Ok1 o := okS_1 (G_ok hG (List.mem_of_getElem? ho'))
      have hall : ∀ x, x ∈ L.take i → Ok1 x := fun x hx => okS_1 (G_ok hG (List.mem_of_mem_take hx))
      have hd : decide ((i : Int) < (L.length : Int)) = true := by simpa using hi
      obtain ⟨c, hc, hc'⟩ := q_Causes hG hL hv hv' o hok.dl
      have o0 := hok.o0
      have o1 := hok.o1
      have hgt : get? s1 o.obj = some (cv (lastThing (L.take i) o.obj)) := by
        unfold get?
        rw [if_pos (by omega), h3 o.obj.toNat (by omega), Int.toNat_of_nonneg (by omega)]
      have hnext : KS (L.take i) o → (∀ a : Nat, a < 16 → CA L o a) → ((s1.set o.obj.toNat (cv (thing o))).length = 101 ∧ (∀ b : Nat, b < 101 → (s1.set o.obj.toNat (cv (thing o)))[b]? = some (cv (lastThing (L.take (i + 1)) (b : Int)))) ∧ ∀ (j : Nat) (o : TOp), j < i + 1 → L[j]? = some o → KS (L.take j) o ∧ ∀ a : Nat, a < 16 → CA L o a) := by
        intro k1 k2
        refine ⟨by simp [h2], ?_, ?_⟩
        · intro b hb
          rw [take_next ho', lastThing_snoc]
          by_cases e : o.obj.toNat = b
          · subst e
            rw [List.getElem?_set_self (by omega), if_pos (by omega)]
          · rw [List.getElem?_set_ne e, if_neg (by omega)]
            exact h3 b hb
        · intro j x hj hx
          rcases Nat.lt_or_ge j i with hlt | hge
          · exact h4 j x hlt hx
          · obtain rfl : j = i := by omega
            rw [ho'] at hx
            cases hx
            exact ⟨k1, k2⟩
      simp only [p_spec_LogOK_l1]
      rw [if_t hd, ho, Option.bind_some, hc, Option.bind_some]
      cases c with
      | false =>
        right
        right
        refine ⟨false, rfl, .inr ⟨rfl, fun h => ?_⟩⟩
        have := hc'.2 (h.2 i o ho')
        cases this
      | true =>
        have hca := hc'.1 rfl
        rw [if_pos rfl, q_Thing hok, Option.bind_some, hgt, Option.bind_some, w64_succ (by omega)]
        by_cases e1 : cv (lastThing (L.take i) o.obj) = 0
        · left
          rw [if_pos (by simpa using e1)]
          exact ⟨_, rfl, rfl, hnext (.inl (cv_zero.1 e1)) hca⟩
        · rw [if_neg (by simpa using e1)]
          by_cases e2 : cv (lastThing (L.take i) o.obj) = cv (thing o)
          · left
            rw [if_pos (by simpa using e2)]
            exact ⟨_, rfl, rfl, hnext (.inr ((cv_inj (lt_range hall _) (thing_range hok)).1 e2)) hca⟩
          · right
            right
            rw [if_neg (by simpa using e2)]
            refine ⟨false, rfl, .inr ⟨rfl, fun h => ?_⟩⟩
            rcases h.1 i o ho' with k | k
            · exact e1 (cv_zero.2 k)
            · exact e2 (by rw [k]))
    (by
      rintro ⟨s1, s2⟩ ⟨h1, h2, h3, h4⟩
      simp only at h1 h2 h3 h4
      subst h1
      left
      refine ⟨(s1, (L.length : Int)), ?_, .inl ⟨_, rfl, ?_, ?_⟩⟩
      · simp only [p_spec_LogOK_l1]
        rw [if_neg (by simp)]
      · intro i o hi
        exact (h4 i o (List.getElem?_eq_some_iff.1 hi).1 hi).1
      · intro i o hi
        exact (h4 i o (List.getElem?_eq_some_iff.1 hi).1 hi).2)
    ⟨rfl, by simp, fun b hb => by rw [List.getElem?_replicate, if_pos hb]; rfl, fun j o hj => by omega⟩

theorem q_specLogOK (L : List TOp) : ∃ b, p_spec_LogOK L = some b ∧ (b = true ↔ Valid okS L) := by
  unfold p_spec_LogOK
  by_cases hl : 1024 < L.length
  · rw [if_pos (by simp; omega)]
    exact ⟨false, rfl, fun h => (by cases h), fun h => by have := h.1; omega⟩
  · rw [if_neg (by simp; omega)]
    obtain ⟨e, h1, h2⟩ := q_specL0 L (by omega)
    rw [h1, Option.bind_some]
    rcases h2 with ⟨s, rfl, hG⟩ | ⟨rfl, hG⟩
    · obtain ⟨v, hv, hv1, hv2⟩ := q_Counts L (by omega) (fun o ho => ⟨(okS_1 (G_ok hG ho)).a0, (okS_1 (G_ok hG ho)).a1⟩)
      obtain ⟨e, h3, h4⟩ := q_specL1 L (by omega) hG hv1 hv2
      simp only
      rw [hv, Option.bind_some, show (mkL 101 8 101 0 : Option (List Int)) = some (List.replicate 101 0) from mkL_ok (l := 101) (y := 8) (by decide) (by decide), Option.bind_some, h3, Option.bind_some]
      rcases h4 with ⟨⟨s1, s2⟩, rfl, hK, hC⟩ | ⟨rfl, hK⟩
      · exact ⟨true, rfl, fun _ => ⟨by omega, hG, hK, hC⟩, fun _ => rfl⟩
      · exact ⟨false, rfl, fun h => (by cases h), fun h => absurd ⟨h.2.2.1, h.2.2.2⟩ hK⟩
    · exact ⟨false, rfl, fun h => (by cases h), fun h => absurd h.2.1 hG⟩

theorem q_thing (o : TOp) : p_impl_Op_thing o = some (thing o) := by
  unfold p_impl_Op_thing thing
  simp only [decide_eq_true_eq]
  split <;> rfl
theorem q_put {k : TBook} {P : List TOp} {o : TOp} (hR : Rep k P) (h : Ok1 o) (hP : P.length ≤ 1024) : ∃ k', p_impl_book_put k o = some k' ∧ Rep k' (P ++ [o]) := by
  have a0 := h.a0
  have a1 := h.a1
  have o0 := h.o0
  have o1 := h.o1
  have h1 : get? k.of_ o.actor = some (ofs P o.actor) := by
    unfold get?
    rw [if_pos a0, hR.of_ o.actor.toNat (by omega), Int.toNat_of_nonneg a0]
  have h2 : get? k.kind o.obj = some (lastThing P o.obj) := by
    unfold get?
    rw [if_pos (by omega), hR.kind o.obj.toNat (by omega), Int.toNat_of_nonneg (by omega)]
  have h3 : (ofs P o.actor).length ≤ 1024 := Nat.le_trans ofs_len hP
  have rep : ∀ k' : TBook, k'.of_ = k.of_.set o.actor.toNat (ofs P o.actor ++ [o]) → k'.kind = k.kind.set o.obj.toNat (thing o) → Rep k' (P ++ [o]) := by
    intro k' e1 e2
    refine ⟨fun a ha => ?_, fun b hb => ?_⟩
    · rw [e1, ofs_snoc]
      by_cases e : o.actor.toNat = a
      · subst e
        rw [List.getElem?_set_self (by rw [k.h1]; omega), if_pos (by omega), Int.toNat_of_nonneg a0]
      · rw [List.getElem?_set_ne e, if_neg (by omega)]
        exact hR.of_ a ha
    · rw [e2, lastThing_snoc]
      by_cases e : o.obj.toNat = b
      · subst e
        rw [List.getElem?_set_self (by rw [k.h2]; omega), if_pos (by omega)]
      · rw [List.getElem?_set_ne e, if_neg (by omega)]
        exact hR.kind b hb
  unfold p_impl_book_put
  rw [h1, Option.bind_some, app_one (by omega), Option.bind_some, q_thing, Option.bind_some, h2, Option.bind_some, show p_impl_Op_stamp o = some ⟨o.time, o.actor⟩ from rfl, Option.bind_some, q_implStampLess, q_StampLess, Option.bind_some]
  split
  · exact ⟨_, rfl, rep _ rfl rfl⟩
  · exact ⟨_, rfl, rep _ rfl rfl⟩

theorem all_loopR {ρ : Type} {step : Int → Option (Lp Int ρ)} {r : ρ} (n : Nat) (good : Nat → Prop)
    (h : ∀ i, i < n → (good i ∧ step (i : Int) = some (.go ((i + 1 : Nat) : Int))) ∨ (¬ good i ∧ step (i : Int) = some (.ret r))) (he : step (n : Int) = some (.out (n : Int))) :
    (loopP step 0 = some (.out (n : Int)) ∧ ∀ i, i < n → good i) ∨ (loopP step 0 = some (.ret r) ∧ ∃ i, i < n ∧ ¬ good i) := by
  obtain ⟨e, h1, h2⟩ := loop_count (step := step) n (fun i s => s = (i : Int) ∧ ∀ j, j < i → good j) (fun e => (e = .out (n : Int) ∧ ∀ i, i < n → good i) ∨ (e = .ret r ∧ ∃ i, i < n ∧ ¬ good i)) (by
      rintro i _ hi ⟨rfl, hg⟩
      rcases h i hi with ⟨h1, h2⟩ | ⟨h1, h2⟩
      · refine .inl ⟨_, h2, rfl, fun j hj => ?_⟩
        rcases Nat.lt_or_ge j i with hlt | hge
        · exact hg j hlt
        · obtain rfl : j = i := by omega
          exact h1
      · exact .inr (.inr ⟨_, h2, .inr ⟨rfl, i, hi, h1⟩⟩))
    (by
      rintro _ ⟨rfl, hg⟩
      exact .inl ⟨_, he, .inl ⟨rfl, hg⟩⟩) (s := 0) ⟨rfl, fun j hj => by omega⟩
  rcases h2 with ⟨rfl, h3⟩ | ⟨rfl, h3⟩
  · exact .inl ⟨h1, h3⟩
  · exact .inr ⟨h1, h3⟩

theorem q_opOKi (o : TOp) : p_impl_opOK o = p_spec_l08OpOK o := by
  unfold p_impl_opOK p_spec_l08OpOK
  have hc : ∀ n, p_impl_charOK n = p_spec_l04Char n := fun n => rfl
  have h1 : p_impl_Op_stamp o = some ⟨o.time, o.actor⟩ := rfl
  have h2 : p_spec_l08Stamp o = some ⟨o.time, o.actor⟩ := rfl
  rw [h1, h2]
  simp only [Option.bind_some, q_implStampOK, q_implVecOK, q_implStampLess, q_None, hc]

def badB : T2 (Option TBook) Bool := ⟨none, false⟩
theorem q_implL0 (L : List TOp) (hL : L.length ≤ 1024) : ∃ e, loopP (p_impl_readBook_l0 L) (book0, 0) = some e ∧ ((∃ k s, e = .out (k, s) ∧ G okS L ∧ KK L ∧ Rep k L) ∨ (e = .ret badB ∧ ¬ (G okS L ∧ KK L))) :=
  loop_count (step := p_impl_readBook_l0 L) L.length (fun i s => s.2 = (i : Int) ∧ G okS (L.take i) ∧ Rep s.1 (L.take i) ∧ ∀ (j : Nat) (o : TOp), j < i → L[j]? = some o → KS (L.take j) o)
    (fun e => (∃ k s, e = .out (k, s) ∧ G okS L ∧ KK L ∧ Rep k L) ∨ (e = .ret badB ∧ ¬ (G okS L ∧ KK L))) (by
      rintro i ⟨k, s2⟩ hi ⟨h1, hg, hR, hK⟩
      simp only at h1 hR
      subst h1
      obtain ⟨o, ho, ho'⟩ := get_lt (xs := L) hi
      obtain ⟨b, hb, _⟩ := q_opOK o
      have hd : decide ((i : Int) < (L.length : Int)) = true := by simpa using hi
      have hlen : (L.take i).length ≤ 1024 := by rw [List.length_take]; omega
      have good : ∀ k', Step okS (L.take i) o → KS (L.take i) o → Rep k' (L.take i ++ [o]) → G okS (L.take (i + 1)) ∧ Rep k' (L.take (i + 1)) ∧ ∀ (j : Nat) (o : TOp), j < i + 1 → L[j]? = some o → KS (L.take j) o := by
        intro k' h1 h2 h3
        rw [take_next ho']
        refine ⟨.snoc hg h1, h3, fun j x hj hx => ?_⟩
        rcases Nat.lt_or_ge j i with hlt | hge
        · exact hK j x hlt hx
        · obtain rfl : j = i := by omega
          rw [ho'] at hx
          cases hx
          exact h2
      have bad : ¬ (Step okS (L.take i) o ∧ KS (L.take i) o) → ¬ (G okS L ∧ KK L) := fun h1 h => h1 ⟨G_iff.1 h.1 i o ho', h.2 i o ho'⟩
      -- what follows once the place in the order is right
      have tail : okS o → (Step okS (L.take i) o ↔ o.seq = (ofs (L.take i) o.actor).length + 1) →
          ∀ t, t = ((get? k.of_ o.actor).bind fun v => if (decide (o.seq = w64 ((v.length : Int) + 1))) = true then (get? k.kind o.obj).bind fun w => if (decide (w = 0)) = true then (p_impl_book_put k o).bind fun q => some (.go (q, w64 ((i : Int) + 1))) else (p_impl_Op_thing o).bind fun u => if (decide (w = u)) = true then (p_impl_book_put k o).bind fun q => some (.go (q, w64 ((i : Int) + 1))) else some (.ret badB) else some (.ret badB) : Option (Lp (TBook × Int) (T2 (Option TBook) Bool))) →
          (∃ s', t = some (.go s') ∧ (s'.2 = ((i + 1 : Nat) : Int) ∧ G okS (L.take (i + 1)) ∧ Rep s'.1 (L.take (i + 1)) ∧ ∀ (j : Nat) (o : TOp), j < i + 1 → L[j]? = some o → KS (L.take j) o)) ∨ (t = some (.ret badB) ∧ ¬ (G okS L ∧ KK L)) := by
        rintro hok hst t rfl
        have h1 := okS_1 hok
        have a0 := h1.a0
        have a1 := h1.a1
        have o0 := h1.o0
        have o1 := h1.o1
        obtain ⟨k', hk', hk2⟩ := q_put hR h1 hlen
        have g1 : get? k.of_ o.actor = some (ofs (L.take i) o.actor) := by
          unfold get?
          rw [if_pos a0, hR.of_ o.actor.toNat (by omega), Int.toNat_of_nonneg a0]
        have g2 : get? k.kind o.obj = some (lastThing (L.take i) o.obj) := by
          unfold get?
          rw [if_pos (by omega), hR.kind o.obj.toNat (by omega), Int.toNat_of_nonneg (by omega)]
        have g3 : (ofs (L.take i) o.actor).length ≤ 1024 := Nat.le_trans ofs_len hlen
        rw [g1, Option.bind_some, w64_succ (by omega), hk', q_thing, g2]
        simp only [Option.bind_some]
        by_cases e1 : o.seq = (((ofs (L.take i) o.actor).length + 1 : Nat) : Int)
        · rw [if_pos (by simpa using e1), w64_succ (by omega)]
          have hs : Step okS (L.take i) o := hst.2 (by omega)
          by_cases e2 : lastThing (L.take i) o.obj = 0
          · rw [if_pos (by simpa using e2)]
            exact .inl ⟨_, rfl, rfl, good k' hs (.inl e2) hk2⟩
          · rw [if_neg (by simpa using e2)]
            by_cases e3 : lastThing (L.take i) o.obj = thing o
            · rw [if_pos (by simpa using e3)]
              exact .inl ⟨_, rfl, rfl, good k' hs (.inr e3) hk2⟩
            · rw [if_neg (by simpa using e3)]
              exact .inr ⟨rfl, bad fun h => h.2.elim e2 e3⟩
        · rw [if_neg (by simpa using e1)]
          exact .inr ⟨rfl, bad fun h => e1 (by have := hst.1 h.1; omega)⟩
      have fin : ∀ t : Option (Lp (TBook × Int) (T2 (Option TBook) Bool)), ((∃ s', t = some (.go s') ∧ (s'.2 = ((i + 1 : Nat) : Int) ∧ G okS (L.take (i + 1)) ∧ Rep s'.1 (L.take (i + 1)) ∧ ∀ (j : Nat) (o : TOp), j < i + 1 → L[j]? = some o → KS (L.take j) o)) ∨ (t = some (.ret badB) ∧ ¬ (G okS L ∧ KK L))) →
          p_impl_readBook_l0 L (k, (i : Int)) = t → (∃ s', p_impl_readBook_l0 L (k, (i : Int)) = some (.go s') ∧ (s'.2 = ((i + 1 : Nat) : Int) ∧ G okS (L.take (i + 1)) ∧ Rep s'.1 (L.take (i + 1)) ∧ ∀ (j : Nat) (o : TOp), j < i + 1 → L[j]? = some o → KS (L.take j) o)) ∨ (∃ s', p_impl_readBook_l0 L (k, (i : Int)) = some (.out s') ∧ ((∃ k s, (Ex.out s' : Ex (TBook × Int) (T2 (Option TBook) Bool)) = .out (k, s) ∧ G okS L ∧ KK L ∧ Rep k L) ∨ ((Ex.out s' : Ex (TBook × Int) (T2 (Option TBook) Bool)) = .ret badB ∧ ¬ (G okS L ∧ KK L)))) ∨ (∃ r, p_impl_readBook_l0 L (k, (i : Int)) = some (.ret r) ∧ ((∃ k s, (Ex.ret r : Ex (TBook × Int) (T2 (Option TBook) Bool)) = .out (k, s) ∧ G okS L ∧ KK L ∧ Rep k L) ∨ ((Ex.ret r : Ex (TBook × Int) (T2 (Option TBook) Bool)) = .ret badB ∧ ¬ (G okS L ∧ KK L)))) := by
        rintro t (⟨s', h1, h2⟩ | ⟨h1, h2⟩) e
        · exact .inl ⟨s', e.trans h1, h2⟩
        · exact .inr (.inr ⟨_, e.trans h1, .inr ⟨rfl, h2⟩⟩)
      cases b with
      | false =>
        refine fin (some (.ret badB)) (.inr ⟨rfl, bad fun h => by have := h.1.1; unfold okS at this; rw [hb] at this; cases this⟩) ?_
        simp only [p_impl_readBook_l0]
        rw [if_t hd, ho, Option.bind_some, q_opOKi, hb, Option.bind_some]
        rfl
      | true =>
        have hok : okS o := hb
        rcases Nat.eq_zero_or_pos i with rfl | hi0
        · refine fin _ (tail hok (by rw [List.take_zero, step_first]; simp [ofs, hok]) _ rfl) ?_
          simp only [p_impl_readBook_l0]
          rw [if_t hd, ho, Option.bind_some, q_opOKi, hb, Option.bind_some, if_pos rfl, if_neg (by decide)]
          rfl
        · obtain ⟨p, hp, hp'⟩ := get_lt (xs := L) (i := i - 1) (by omega)
          have htl := take_last hi0 hp'
          have hg2 := hg
          rw [htl] at hg2
          have hi1 : decide ((0 : Int) < (i : Int)) = true := by simp; omega
          by_cases h1 : o.actor < p.actor
          · refine fin (some (.ret badB)) (.inr ⟨rfl, bad fun h => ?_⟩) ?_
            · have := (h.1.2.1 p (by rw [htl]; simp))
              omega
            · simp only [p_impl_readBook_l0]
              rw [if_t hd, ho, Option.bind_some, q_opOKi, hb, Option.bind_some, if_pos rfl, if_t hi1, w64_pred hi0 (by omega), hp, Option.bind_some, if_pos (by simpa using h1)]
              rfl
          · refine fin _ (tail hok ?_ _ rfl) ?_
            · have := step_le (o := o) hg2
              rw [← htl] at this
              rw [this]
              constructor
              · exact fun h => h.2.2
              · exact fun h => ⟨hok, by omega, h⟩
            · simp only [p_impl_readBook_l0]
              rw [if_t hd, ho, Option.bind_some, q_opOKi, hb, Option.bind_some, if_pos rfl, if_t hi1, w64_pred hi0 (by omega), hp, Option.bind_some, if_neg (by simpa using h1)]
              rfl)
    (by
      rintro ⟨k, s2⟩ ⟨h1, hg, hR, hK⟩
      simp only at h1 hR
      subst h1
      left
      rw [List.take_length] at hg hR
      refine ⟨(k, (L.length : Int)), ?_, .inl ⟨k, _, rfl, hg, ?_, hR⟩⟩
      · simp only [p_impl_readBook_l0]
        rw [if_neg (by simp)]
      · intro i o hi
        exact hK i o (List.getElem?_eq_some_iff.1 hi).1 hi)
    ⟨rfl, by simpa using G.nil, ⟨fun a ha => by simp only [book0]; rw [List.getElem?_replicate, if_pos ha]; rfl, fun b hb => by simp only [book0]; rw [List.getElem?_replicate, if_pos hb]; rfl⟩, fun j o hj => by omega⟩

theorem q_implL1 (L : List TOp) (k : TBook) (hR : Rep k L) (hL : L.length ≤ 1024) (o : TOp) (ho : Ok1 o) :
    (loopP (p_impl_readBook_l1 k o) 0 = some (.out 16) ∧ ∀ a : Nat, a < 16 → CA L o a) ∨ (loopP (p_impl_readBook_l1 k o) 0 = some (.ret badB) ∧ ∃ a : Nat, a < 16 ∧ ¬ CA L o a) := by
  have key := all_loopR (step := p_impl_readBook_l1 k o) (r := badB) 16 (CA L o) (by
    intro a ha
    obtain ⟨n, hn, hn'⟩ := get_lt (xs := o.deps.counts) (i := a) (by rw [ho.dl]; omega)
    have hb := ho.db n (List.mem_of_getElem? hn')
    have hc : get? k.of_ (a : Int) = some (ofs L (a : Int)) := by
      unfold get?
      rw [if_pos (by omega), Int.toNat_natCast]
      exact hR.of_ a ha
    have hd16 : decide ((a : Int) < (o.deps.counts.length : Int)) = true := by rw [ho.dl]; simp; omega
    simp only [p_impl_readBook_l1]
    rw [if_t hd16, hn, Option.bind_some, hc, Option.bind_some]
    by_cases h1 : ((ofs L (a : Int)).length : Int) < n
    · right
      rw [if_pos (by simpa using h1)]
      exact ⟨fun h => by have := (h n hn').1; omega, rfl⟩
    · rw [if_neg (by simpa using h1)]
      by_cases h2 : 0 < n
      · obtain ⟨p, hp, hp'⟩ := get_lt (xs := ofs L (a : Int)) (i := (n - 1).toNat) (by omega)
        rw [Int.toNat_of_nonneg (by omega)] at hp
        rw [if_pos (by simpa using h2), w64_id (by omega) (by omega), hp, Option.bind_some, show p_impl_Op_stamp p = some ⟨p.time, p.actor⟩ from rfl, Option.bind_some, show p_impl_Op_stamp o = some ⟨o.time, o.actor⟩ from rfl, Option.bind_some, q_implStampLess, q_StampLess, Option.bind_some]
        by_cases h3 : less p o
        · left
          refine ⟨fun n' h => ?_, ?_⟩
          · rw [hn'] at h
            cases h
            exact ⟨by omega, fun _ q hq => by rw [hp'] at hq; cases hq; exact h3⟩
          · rw [if_pos (by unfold less at h3; simpa using h3), w64_succ (by omega)]
        · right
          rw [if_neg (by unfold less at h3; simpa using h3)]
          exact ⟨fun h => h3 ((h n hn').2 h2 p hp'), rfl⟩
      · left
        rw [if_neg (by simpa using h2), w64_succ (by omega)]
        refine ⟨fun n' h => ?_, rfl⟩
        rw [hn'] at h
        cases h
        exact ⟨by omega, fun h => absurd h h2⟩) (by
    simp only [p_impl_readBook_l1]
    rw [if_neg (by rw [ho.dl]; decide)])
  exact key

theorem q_implL2 (L : List TOp) (k : TBook) (hR : Rep k L) (hL : L.length ≤ 1024) (hG : G okS L) :
    (loopP (p_impl_readBook_l2 L k) 0 = some (.out (L.length : Int)) ∧ CC L) ∨ (loopP (p_impl_readBook_l2 L k) 0 = some (.ret badB) ∧ ¬ CC L) := by
  rcases all_loopR (step := p_impl_readBook_l2 L k) (r := badB) L.length (fun i => ∀ o, L[i]? = some o → ∀ a : Nat, a < 16 → CA L o a) (by
    intro i hi
    obtain ⟨o, ho, ho'⟩ := get_lt (xs := L) hi
    have hd : decide ((i : Int) < (L.length : Int)) = true := by simpa using hi
    have hok := okS_1 (G_ok hG (List.mem_of_getElem? ho'))
    simp only [p_impl_readBook_l2]
    rw [if_t hd, ho, Option.bind_some]
    rcases q_implL1 L k hR hL o hok with ⟨h1, h2⟩ | ⟨h1, a, h2, h3⟩
    · left
      rw [h1, Option.bind_some]
      exact ⟨fun x hx => by rw [ho'] at hx; cases hx; exact h2, by simp only; rw [w64_succ (by omega)]⟩
    · right
      rw [h1, Option.bind_some]
      exact ⟨fun h => h3 (h o ho' a h2), rfl⟩) (by
    simp only [p_impl_readBook_l2]
    rw [if_neg (by simp)]) with ⟨h1, h2⟩ | ⟨h1, i, h2, h3⟩
  · exact .inl ⟨h1, fun i o hi => h2 i (List.getElem?_eq_some_iff.1 hi).1 o hi⟩
  · exact .inr ⟨h1, fun h => h3 fun o ho => h i o ho⟩

theorem q_readBook (L : List TOp) : ∃ r, p_impl_readBook L = some r ∧ (r.b = true ↔ Valid okS L) ∧ (r.b = true → ∃ k, r.a = some k ∧ Rep k L) := by
  unfold p_impl_readBook
  by_cases hl : 1024 < L.length
  · rw [if_pos (by simp; omega)]
    exact ⟨_, rfl, ⟨fun h => (by cases h), fun h => by have := h.1; omega⟩, fun h => (by cases h)⟩
  · rw [if_neg (by simp; omega)]
    obtain ⟨e, h1, h2⟩ := q_implL0 L (by omega)
    rw [h1, Option.bind_some]
    rcases h2 with ⟨k, s, rfl, hG, hK, hR⟩ | ⟨rfl, hG⟩
    · simp only
      rcases q_implL2 L k hR (by omega) hG with ⟨h3, h4⟩ | ⟨h3, h4⟩
      · rw [h3, Option.bind_some]
        exact ⟨_, rfl, ⟨fun _ => ⟨by omega, hG, hK, h4⟩, fun _ => rfl⟩, fun _ => ⟨k, rfl, hR⟩⟩
      · rw [h3, Option.bind_some]
        exact ⟨_, rfl, ⟨fun h => (by cases h), fun h => absurd h.2.2.2 h4⟩, fun h => (by cases h)⟩
    · exact ⟨badB, rfl, ⟨fun h => (by cases h), fun h => absurd ⟨h.2.1, h.2.2.1⟩ hG⟩, fun h => (by cases h)⟩

theorem q_szOp (x : TOp) (n : Int) : ∃ m, p_laws_szOp x n = some m := by
  unfold p_laws_szOp
  obtain ⟨m, h⟩ := q_szVector x.deps n
  rw [h, Option.bind_some]
  repeat' split
  all_goals exact ⟨_, rfl⟩
theorem q_szOpS (L : List TOp) (n : Int) (hL : L.length < 9223372036854775807) : ∃ m, p_laws_szOpS L n = some m := by
  unfold p_laws_szOpS
  split
  · exact ⟨_, rfl⟩
  · obtain ⟨e, h1, h2⟩ := loop_count (step := p_laws_szOpS_l0 L) L.length (fun i s => s.2 = (i : Int)) (fun _ => True) (by
      rintro i ⟨s1, s2⟩ hi h1
      simp only at h1
      subst h1
      obtain ⟨o, ho, _⟩ := get_lt (xs := L) hi
      obtain ⟨m, hm⟩ := q_szOp o s1
      have hd : decide ((i : Int) < (L.length : Int)) = true := by simpa using hi
      simp only [p_laws_szOpS_l0]
      rw [if_t hd, ho, Option.bind_some, hm, Option.bind_some, w64_succ (by omega)]
      split
      · exact .inr (.inr ⟨_, rfl, trivial⟩)
      · exact .inl ⟨_, rfl, rfl⟩)
      (by
      rintro ⟨s1, s2⟩ h1
      simp only at h1
      subst h1
      left
      refine ⟨(s1, (L.length : Int)), ?_, trivial⟩
      simp only [p_laws_szOpS_l0]
      rw [if_neg (by simp)]) (s := (w64 (n - (L.length : Int)), 0)) rfl
    rw [h1, Option.bind_some]
    cases e with
    | out s => exact ⟨_, rfl⟩
    | ret r => exact ⟨_, rfl⟩
theorem q_toOp (x : TOp) (hx : okTOp x) : p_laws_toOp x = some x := by
  unfold p_laws_toOp
  rw [q_toVector _ hx.2.2.2.1, Option.bind_some, show p_laws_toStamp x.at_ = some x.at_ from rfl]
  rfl
theorem q_toOpS (L : List TOp) (h1 : L.length * 128 ≤ reachBytes) (h2 : ∀ x, x ∈ L → okTOp x) : p_laws_toOpS L = some L := by
  rw [reach_eq] at h1
  unfold p_laws_toOpS
  rw [if_pos (by omega)]
  obtain ⟨e, h3, rfl⟩ := loop_count (step := p_laws_toOpS_l0 L) L.length (fun i s => s = L.take i) (fun e => e = .out L) (by
      rintro i _ hi rfl
      left
      obtain ⟨o, ho, ho'⟩ := get_lt (xs := L) hi
      have hlen : (L.take i).length = i := by rw [List.length_take]; omega
      refine ⟨L.take (i + 1), ?_, rfl⟩
      simp only [p_laws_toOpS_l0]
      rw [hlen, if_pos hi, ho, Option.bind_some, q_toOp o (h2 o (List.mem_of_getElem? ho')), Option.bind_some, take_next ho'])
    (by
      rintro _ rfl
      left
      refine ⟨L, ?_, rfl⟩
      simp only [p_laws_toOpS_l0]
      rw [List.take_length, if_neg (by omega)]) (s := []) (by simp)
  rw [h3]; rfl
theorem q_eqOp (x : TOp) (hx : okTOp x) : p_laws_eqOp x x = some true := by
  unfold p_laws_eqOp
  have h : p_laws_eqStamp x.at_ x.at_ = some true := by unfold p_laws_eqStamp; simp
  rw [q_eqVector _ hx.2.2.2.1, h]
  simp
theorem q_eqOpS (L : List TOp) (hL : L.length < 9223372036854775807) (h2 : ∀ x, x ∈ L → okTOp x) : p_laws_eqOpS L L = some true := by
  unfold p_laws_eqOpS
  rw [if_pos (by simp)]
  have e : p_laws_eqOpS_l0 L L = eqStep L L p_laws_eqOp := rfl
  rw [e]
  obtain ⟨i, h⟩ := eq_loop (x := L) (g := p_laws_eqOp) (fun a ha => q_eqOp a (h2 a ha)) hL
  rw [h]; rfl

theorem q_markText (n : Int) (hn : n < 4611686018427387904) : ∃ s, p_laws_markText n = some s := by
  unfold p_laws_markText
  by_cases h0 : n ≤ 0
  · rw [if_pos (decide_eq_true h0)]; exact ⟨_, rfl⟩
  · rw [if_neg (by simpa using h0)]
    obtain ⟨e, h1, m, s, rfl, hs⟩ := loopP_inv (step := p_laws_markText_l0) (fun s => 0 ≤ s.1 ∧ s.1 + s.2.size ≤ n) (fun s => s.1.toNat) (fun e => ∃ m s, e = .out (m, s) ∧ (s.size : Int) ≤ n) (by
      rintro ⟨s1, s2⟩ ⟨h2, h3⟩
      simp only at h2 h3
      simp only [p_laws_markText_l0]
      by_cases hd : 0 < s1
      · rw [if_pos (decide_eq_true hd)]
        have hz : ∀ k : Int, (strOfNums [k]).size = 1 := fun k => rfl
        have hc : ∀ k : Int, cat? (strOfNums [k]) s2 = some (strOfNums [k] ++ s2) := by
          intro k
          unfold cat?
          rw [if_pos (by rw [hz]; omega)]
        rw [hc, Option.bind_some]
        refine ⟨_, rfl, ?_⟩
        have hq : s1.tdiv 10 = s1 / 10 := Int.tdiv_eq_ediv_of_nonneg h2
        have hw : w64 (s1.tdiv 10) = s1 / 10 := by rw [hq]; exact w64_id (by omega) (by omega)
        simp only [hw, ByteArray.size_append, hz]
        refine ⟨⟨by omega, by omega⟩, by omega⟩
      · rw [if_neg (by simpa using hd)]
        exact ⟨_, rfl, _, _, rfl, by omega⟩) (s := (n, ByteArray.mk #[])) ⟨by simp only; omega, by simp only; show n + ((0 : Nat) : Int) ≤ n; omega⟩
    rw [h1, Option.bind_some]
    have : cat? (ByteArray.mk #[109]) s = some (ByteArray.mk #[109] ++ s) := by
      unfold cat?
      rw [if_pos (by show ((1 + s.size : Nat) : Int) ≤ _; omega)]
    simp only [this, Option.bind_some]
    exact ⟨_, rfl⟩
noncomputable def mt (n : Int) : ByteArray := (p_laws_markText n).getD (ByteArray.mk #[])
theorem mt_eq {n : Int} (hn : n < 4611686018427387904) : p_laws_markText n = some (mt n) := by
  obtain ⟨s, hs⟩ := q_markText n hn
  unfold mt
  rw [hs]; rfl

theorem q_eqVec (x : TVec) (hx : x.counts.length * 8 ≤ reachBytes) : p_laws_eqVector x x = some true := by
  unfold p_laws_eqVector
  rw [q_eqIntS x.counts hx]; rfl
theorem q_markIntS (x : List Int) (n : Int) (h0 : 0 ≤ n) (hn : n + x.length < 9223372036854775807) : ∃ y, p_laws_markIntS x n = some ⟨n + x.length, y⟩ ∧ y.length = x.length ∧ ∀ j : Nat, j < x.length → y[j]? = some (n + j) := by
  unfold p_laws_markIntS
  obtain ⟨e, h1, y, i, rfl, h2, h3⟩ := loop_count (step := p_laws_markIntS_l0) x.length (fun i s => s.2.1 = n + (i : Int) ∧ s.2.2 = (i : Int) ∧ s.1.length = x.length ∧ ∀ j : Nat, j < i → s.1[j]? = some (n + j))
    (fun e => ∃ y i, e = .out (y, n + x.length, i) ∧ y.length = x.length ∧ ∀ j : Nat, j < x.length → y[j]? = some (n + j)) (by
      rintro i ⟨s0, s1, s2⟩ hi ⟨h1, h2, h3, h4⟩
      simp only at h1 h2 h3 h4
      subst h1 h2
      obtain ⟨a, ha, ha'⟩ := get_lt (xs := s0) (i := i) (by omega)
      have hd : decide ((i : Int) < (s0.length : Int)) = true := by simp; omega
      left
      refine ⟨(s0.set i (n + i), n + ((i + 1 : Nat) : Int), ((i + 1 : Nat) : Int)), ?_, rfl, rfl, by simpa using h3, ?_⟩
      · simp only [p_laws_markIntS_l0]
        rw [if_t hd, ha, Option.bind_some, w64_succ (by omega), w64_id (by omega) (by omega), Int.toNat_natCast, show n + (i : Int) + 1 = n + ((i + 1 : Nat) : Int) from by omega]
      · intro j hj
        simp only [List.getElem?_set]
        by_cases e : i = j
        · subst e
          rw [if_pos rfl, if_pos (by omega)]
        · rw [if_neg e]; exact h4 j (by omega))
    (by
      rintro ⟨s0, s1, s2⟩ ⟨h1, h2, h3, h4⟩
      simp only at h1 h2 h3 h4
      subst h1 h2
      have hd : decide ((x.length : Int) < (s0.length : Int)) = false := by simp; omega
      left
      refine ⟨(s0, n + (x.length : Int), (x.length : Int)), ?_, s0, x.length, rfl, h3, h4⟩
      simp only [p_laws_markIntS_l0]
      rw [if_f hd]) (s := (x, n, 0)) ⟨by simp, rfl, rfl, fun j hj => by omega⟩
  rw [h1]
  exact ⟨y, rfl, h2, h3⟩

theorem q_heldIntS (y : List Int) (n : Int) (h0 : 0 ≤ n) (hn : n + y.length < 9223372036854775807) (hy : ∀ j : Nat, j < y.length → y[j]? = some (n + j)) : p_laws_heldIntS y n = some (n + y.length) := by
  unfold p_laws_heldIntS
  obtain ⟨e, h1, i, rfl⟩ := loop_count (step := p_laws_heldIntS_l0 y) y.length (fun i s => s.1 = n + (i : Int) ∧ s.2 = (i : Int)) (fun e => ∃ i, e = .out (n + y.length, i)) (by
      rintro i ⟨s0, s1⟩ hi ⟨h1, h2⟩
      simp only at h1 h2
      subst h1 h2
      obtain ⟨a, ha, ha'⟩ := get_lt (xs := y) (i := i) hi
      rw [hy i hi] at ha'
      cases ha'
      have hd : decide ((i : Int) < (y.length : Int)) = true := by simp; omega
      left
      refine ⟨(n + ((i + 1 : Nat) : Int), ((i + 1 : Nat) : Int)), ?_, rfl, rfl⟩
      simp only [p_laws_heldIntS_l0]
      rw [if_t hd, ha, Option.bind_some, if_pos (by simp), w64_succ (by omega), w64_id (by omega) (by omega), show n + (i : Int) + 1 = n + ((i + 1 : Nat) : Int) from by omega])
    (by
      rintro ⟨s0, s1⟩ ⟨h1, h2⟩
      simp only at h1 h2
      subst h1 h2
      have hd : decide ((y.length : Int) < (y.length : Int)) = false := by simp
      left
      refine ⟨(n + (y.length : Int), (y.length : Int)), ?_, y.length, rfl⟩
      simp only [p_laws_heldIntS_l0]
      rw [if_f hd]) (s := (n, 0)) ⟨by simp, rfl⟩
  rw [h1]; rfl

/-- What the sizes of a log come to. -/
def szO (o : TOp) : Nat := o.deps.counts.length + o.key.size + o.text.size
def szL (L : List TOp) : Nat := (L.map szO).sum
def cnL (L : List TOp) : Nat := (L.map fun o => o.deps.counts.length).sum
theorem cn_le : ∀ (L : List TOp), cnL L ≤ szL L
  | [] => Nat.le_refl _
  | o :: L => by
    have := cn_le L
    simp only [cnL, szL, List.map_cons, List.sum_cons, szO] at *
    omega
theorem szL_snoc {P : List TOp} {o : TOp} : szL (P ++ [o]) = szL P + szO o := by simp [szL]
theorem cnL_snoc {P : List TOp} {o : TOp} : cnL (P ++ [o]) = cnL P + o.deps.counts.length := by simp [cnL]
theorem q_szOp2 (x : TOp) (hx : okTOp x) (n : Int) (h0 : 0 ≤ n) (h1 : n ≤ 4611686018427387904) : p_laws_szOp x n = some (-1) ∨ (0 ≤ n - (szO x : Int) ∧ p_laws_szOp x n = some (n - (szO x : Int))) := by
  have c := hx.2.2.2.1.1
  have k := hx.2.2.2.2.2.2.2.2.2.1
  have t := hx.2.2.2.2.2.2.2.2.2.2
  rw [reach_eq] at c k t
  unfold p_laws_szOp p_laws_szVector p_laws_szIntS szO
  rw [w64_id (n := n - (x.deps.counts.length : Int)) (by omega) (by omega)]
  simp only [decide_eq_true_eq]
  by_cases h2 : n - (x.deps.counts.length : Int) < 0
  · left
    rw [if_pos h2]
    rfl
  · rw [if_neg h2, Option.bind_some, if_neg h2, Option.bind_some, if_neg h2, w64_id (n := n - (x.deps.counts.length : Int) - (x.key.size : Int)) (by omega) (by omega)]
    by_cases h3 : n - (x.deps.counts.length : Int) - (x.key.size : Int) < 0
    · left
      rw [if_pos h3]
    · rw [if_neg h3, w64_id (n := n - (x.deps.counts.length : Int) - (x.key.size : Int) - (x.text.size : Int)) (by omega) (by omega)]
      by_cases h4 : n - (x.deps.counts.length : Int) - (x.key.size : Int) - (x.text.size : Int) < 0
      · left
        rw [if_pos h4]
      · right
        rw [if_neg h4]
        exact ⟨by omega, by congr 1; omega⟩
theorem q_szOpS3 (L : List TOp) (hL : L.length * 128 ≤ reachBytes) (hx : ∀ x, x ∈ L → okTOp x) (n : Int) (h0 : 0 ≤ n) (h1 : n ≤ 4611686018427387904) : p_laws_szOpS L n = some (-1) ∨ ∃ m, p_laws_szOpS L n = some m ∧ 0 ≤ m ∧ m + (L.length : Int) + (szL L : Int) = n := by
  rw [reach_eq] at hL
  unfold p_laws_szOpS
  rw [w64_id (n := n - (L.length : Int)) (by omega) (by omega)]
  simp only [decide_eq_true_eq]
  by_cases h2 : n - (L.length : Int) < 0
  · left
    rw [if_pos h2]
  · rw [if_neg h2]
    obtain ⟨e, h3, h4⟩ := loop_count (step := p_laws_szOpS_l0 L) L.length (fun i s => s.2 = (i : Int) ∧ 0 ≤ s.1 ∧ s.1 + (szL (L.take i) : Int) = n - (L.length : Int)) (fun e => e = .ret (-1) ∨ ∃ s, e = .out s ∧ 0 ≤ s.1 ∧ s.1 + (szL L : Int) = n - (L.length : Int)) (by
      rintro i ⟨s1, s2⟩ hi ⟨h1, h2, h3⟩
      simp only at h1 h2 h3
      subst h1
      obtain ⟨o, ho, ho'⟩ := get_lt (xs := L) hi
      have hd : decide ((i : Int) < (L.length : Int)) = true := by simpa using hi
      simp only [p_laws_szOpS_l0]
      rw [if_t hd, ho, Option.bind_some]
      rcases q_szOp2 o (hx o (List.mem_of_getElem? ho')) s1 h2 (by omega) with h | ⟨h4, h⟩
      · right
        right
        rw [h]
        exact ⟨-1, rfl, .inl rfl⟩
      · left
        rw [h, Option.bind_some, if_neg (by simp; omega), w64_succ (by omega)]
        refine ⟨_, rfl, rfl, h4, ?_⟩
        simp only
        rw [take_next ho', szL_snoc]
        omega)
      (by
      rintro ⟨s1, s2⟩ ⟨h1, h2, h3⟩
      simp only at h1 h2 h3
      subst h1
      rw [List.take_length] at h3
      left
      refine ⟨(s1, (L.length : Int)), ?_, .inr ⟨_, rfl, h2, h3⟩⟩
      simp only [p_laws_szOpS_l0]
      rw [if_neg (by simp)]) (s := (n - (L.length : Int), 0)) ⟨rfl, by simp only; omega, by simp [szL]⟩
    rw [h3, Option.bind_some]
    rcases h4 with rfl | ⟨s, rfl, h5, h6⟩
    · exact .inl rfl
    · exact .inr ⟨_, rfl, h5, by omega⟩
theorem q_szOpS2 (L : List TOp) (hL : L.length * 128 ≤ reachBytes) (hx : ∀ x, x ∈ L → okTOp x) (n : Int) (h0 : 0 ≤ n) (h1 : n ≤ 4611686018427387904) : p_laws_szOpS L n = some (-1) ∨ ∃ m, p_laws_szOpS L n = some m ∧ (L.length : Int) + (szL L : Int) ≤ n := by
  rcases q_szOpS3 L hL hx n h0 h1 with h | ⟨m, h2, h3, h4⟩
  · exact .inl h
  · exact .inr ⟨m, h2, by omega⟩
theorem q_markOpr (x : TOp) (k : Int) (h0 : 0 ≤ k) (hk : k + 11 + x.deps.counts.length < 4611686018427387904) : ∃ y, p_laws_markOpS_r x k = some ⟨k + 11 + x.deps.counts.length, y⟩ := by
  obtain ⟨y, hy, _⟩ := q_markIntS x.deps.counts (k + 3) (by omega) (by omega)
  obtain ⟨s, hs⟩ := q_markText (k + 3 + x.deps.counts.length + 6) (by omega)
  obtain ⟨t, ht⟩ := q_markText (k + 3 + x.deps.counts.length + 7) (by omega)
  have e1 : w64 (w64 (w64 (k + 1) + 1) + 1) = k + 3 := by rw [w64_id (n := k + 1) (by omega) (by omega), w64_id (n := k + 1 + 1) (by omega) (by omega), w64_id (by omega) (by omega)]; omega
  have e2 : w64 (w64 (w64 (w64 (w64 (w64 (k + 3 + (x.deps.counts.length : Int) + 1) + 1) + 1) + 1) + 1) + 1) = k + 3 + (x.deps.counts.length : Int) + 6 := by simp only [w64_add_l]; rw [w64_id (by omega) (by omega)]; omega
  have e3 : w64 (k + 3 + (x.deps.counts.length : Int) + 6 + 1) = k + 3 + (x.deps.counts.length : Int) + 7 := by rw [w64_id (by omega) (by omega)]; omega
  have e4 : w64 (k + 3 + (x.deps.counts.length : Int) + 7 + 1) = k + 11 + (x.deps.counts.length : Int) := by rw [w64_id (by omega) (by omega)]; omega
  unfold p_laws_markOpS_r
  rw [e1, hy, Option.bind_some]
  simp only
  rw [e2, hs, Option.bind_some, e3, ht, Option.bind_some, e4]
  exact ⟨_, rfl⟩
theorem q_markOpS (L : List TOp) (n : Int) (h0 : 0 ≤ n) (hn : n + 11 * L.length + (cnL L : Int) < 4611686018427387904) : ∃ r, p_laws_markOpS L n = some r ∧ r.a = n + 11 * L.length + (cnL L : Int) := by
  have hsum : ∀ i, cnL (L.take i) ≤ cnL L := fun i => by
    have : cnL (L.take i) + cnL (L.drop i) = cnL L := by
      unfold cnL
      rw [← List.sum_append, ← List.map_append, List.take_append_drop]
    omega
  unfold p_laws_markOpS
  obtain ⟨e, h1, s, k, rfl, h2⟩ := loop_count (step := p_laws_markOpS_l0 L) L.length (fun i s => s.1.length = i ∧ s.2 = n + 11 * (i : Int) + (cnL (L.take i) : Int)) (fun e => ∃ s k, e = .out (s, k) ∧ k = n + 11 * (L.length : Int) + (cnL L : Int)) (by
      rintro i ⟨s1, k⟩ hi ⟨h1, h2⟩
      simp only at h1 h2
      subst h1
      left
      obtain ⟨o, ho, ho'⟩ := get_lt (xs := L) hi
      have hs := hsum (s1.length + 1)
      rw [take_next ho', cnL_snoc] at hs
      obtain ⟨y, hy⟩ := q_markOpr o k (by omega) (by omega)
      refine ⟨(s1 ++ [y], k + 11 + o.deps.counts.length), ?_, by simp, ?_⟩
      · simp only [p_laws_markOpS_l0]
        rw [if_pos hi, ho, Option.bind_some, hy, Option.bind_some, if_pos (by omega)]
      · simp only
        rw [take_next ho', cnL_snoc]
        omega)
    (by
      rintro ⟨s1, k⟩ ⟨h1, h2⟩
      simp only at h1 h2
      rw [List.take_length] at h2
      left
      refine ⟨(s1, k), ?_, s1, k, rfl, h2⟩
      simp only [p_laws_markOpS_l0]
      rw [if_neg (by omega)]) (s := ([], n)) ⟨rfl, by simp [cnL]⟩
  rw [h1, Option.bind_some]
  exact ⟨_, rfl, h2⟩

/-- Where the marks of the i-th operation begin. -/
def KM (n : Int) (L : List TOp) (i : Nat) : Int := n + 11 * (i : Int) + (cnL (L.take i) : Int)
theorem q_markHeld (L : List TOp) (n : Int) (h0 : 0 ≤ n) (hn : n + 11 * L.length + (cnL L : Int) < 4611686018427387904) :
    ∃ r, p_laws_markOpS L n = some r ∧ r.a = n + 11 * L.length + (cnL L : Int) ∧ p_laws_heldOpS r.b n = some r.a := by
  have hsum : ∀ i, cnL (L.take i) ≤ cnL L := fun i => by
    have : cnL (L.take i) + cnL (L.drop i) = cnL L := by
      unfold cnL
      rw [← List.sum_append, ← List.map_append, List.take_append_drop]
    omega
  have hKs : ∀ i x, L[i]? = some x → KM n L (i + 1) = KM n L i + 11 + (x.deps.counts.length : Int) := fun i x hx => by
    unfold KM
    rw [take_next hx, cnL_snoc]
    omega
  have hKb : ∀ i x, L[i]? = some x → 0 ≤ KM n L i ∧ KM n L i + 11 + (x.deps.counts.length : Int) < 4611686018427387904 := fun i x hx => by
    have hi := (List.getElem?_eq_some_iff.1 hx).1
    have hs := hsum (i + 1)
    have := hKs i x hx
    unfold KM at *
    omega
  have hKl : KM n L L.length = n + 11 * (L.length : Int) + (cnL L : Int) := by unfold KM; rw [List.take_length]
  obtain ⟨P, hP, hPl, hPm⟩ : ∃ P, loopP (p_laws_markOpS_l0 L) ([], n) = some (.out (P, KM n L L.length)) ∧ P.length = L.length ∧ ∀ i x o, L[i]? = some x → P[i]? = some o → p_laws_markOpS_r x (KM n L i) = some ⟨KM n L (i + 1), o⟩ := by
    obtain ⟨e, h1, s, rfl, h2, h3⟩ := loop_count (step := p_laws_markOpS_l0 L) L.length (fun i s => s.1.length = i ∧ s.2 = KM n L i ∧ ∀ j x o, L[j]? = some x → s.1[j]? = some o → p_laws_markOpS_r x (KM n L j) = some ⟨KM n L (j + 1), o⟩)
      (fun e => ∃ s, e = .out (s, KM n L L.length) ∧ s.length = L.length ∧ ∀ j x o, L[j]? = some x → s[j]? = some o → p_laws_markOpS_r x (KM n L j) = some ⟨KM n L (j + 1), o⟩) (by
        rintro i ⟨s1, k⟩ hi ⟨h1, h2, h3⟩
        simp only at h1 h2 h3
        subst h1 h2
        left
        obtain ⟨o, ho, ho'⟩ := get_lt (xs := L) hi
        obtain ⟨b0, b1⟩ := hKb _ o ho'
        obtain ⟨y, hy⟩ := q_markOpr o (KM n L s1.length) b0 (by omega)
        rw [← hKs _ o ho'] at hy
        refine ⟨(s1 ++ [y], KM n L (s1.length + 1)), ?_, by simp, rfl, ?_⟩
        · simp only [p_laws_markOpS_l0]
          rw [if_pos hi, ho, Option.bind_some, hy, Option.bind_some, if_pos (by omega)]
        · intro j x o2 hx ho2
          simp only at ho2
          rcases Nat.lt_or_ge j s1.length with hlt | hge
          · rw [List.getElem?_append_left hlt] at ho2
            exact h3 j x o2 hx ho2
          · have hj := (List.getElem?_eq_some_iff.1 ho2).1
            simp at hj
            obtain rfl : j = s1.length := by omega
            rw [ho'] at hx
            cases hx
            rw [List.getElem?_append_right (Nat.le_refl _)] at ho2
            simp at ho2
            subst ho2
            exact hy)
      (by
        rintro ⟨s1, k⟩ ⟨h1, h2, h3⟩
        simp only at h1 h2 h3
        subst h2
        left
        refine ⟨_, ?_, s1, rfl, h1, h3⟩
        simp only [p_laws_markOpS_l0]
        rw [if_neg (by omega)]) (s := ([], n)) ⟨rfl, by simp [KM, cnL], fun j x o _ h => by simp at h⟩
    exact ⟨s, h1, h2, h3⟩
  refine ⟨⟨KM n L L.length, P⟩, ?_, hKl, ?_⟩
  · unfold p_laws_markOpS
    rw [hP]
    rfl
  · unfold p_laws_heldOpS
    obtain ⟨e, h1, i, rfl⟩ := loop_count (step := p_laws_heldOpS_l0 P) P.length (fun i s => s = (KM n L i, (i : Int))) (fun e => ∃ i, e = .out (KM n L L.length, i)) (by
        rintro i _ hi rfl
        left
        obtain ⟨o, ho, ho'⟩ := get_lt (xs := P) hi
        obtain ⟨x, _, hx⟩ := get_lt (xs := L) (i := i) (by omega)
        have hm := hPm i x o hx ho'
        obtain ⟨b0, b1⟩ := hKb i x hx
        rw [hKs i x hx] at hm ⊢
        generalize hk : KM n L i = k at *
        have hil := (List.getElem?_eq_some_iff.1 hx).1
        have hiL : (i : Int) < 4611686018427387904 := by
          have : (L.length : Int) ≤ 11 * (L.length : Int) := by omega
          omega
        obtain ⟨y, hy, hy2, hy3⟩ := q_markIntS x.deps.counts (k + 3) (by omega) (by omega)
        obtain ⟨s, hs⟩ := q_markText (k + 3 + x.deps.counts.length + 6) (by omega)
        obtain ⟨t, ht⟩ := q_markText (k + 3 + x.deps.counts.length + 7) (by omega)
        have hh := q_heldIntS y (k + 3) (by omega) (by rw [hy2]; omega) (by rw [hy2]; exact hy3)
        rw [hy2] at hh
        have e1 : w64 (w64 (w64 (k + 1) + 1) + 1) = k + 3 := by rw [w64_id (n := k + 1) (by omega) (by omega), w64_id (n := k + 1 + 1) (by omega) (by omega), w64_id (by omega) (by omega)]; omega
        have e2 : w64 (w64 (w64 (w64 (w64 (w64 (k + 3 + (x.deps.counts.length : Int) + 1) + 1) + 1) + 1) + 1) + 1) = k + 3 + (x.deps.counts.length : Int) + 6 := by simp only [w64_add_l]; rw [w64_id (by omega) (by omega)]; omega
        have e3 : w64 (k + 3 + (x.deps.counts.length : Int) + 6 + 1) = k + 3 + (x.deps.counts.length : Int) + 7 := by rw [w64_id (by omega) (by omega)]; omega
        have e4 : w64 (k + 3 + (x.deps.counts.length : Int) + 7 + 1) = k + 11 + (x.deps.counts.length : Int) := by rw [w64_id (by omega) (by omega)]; omega
        have hd : decide ((i : Int) < (P.length : Int)) = true := by simpa using hi
        have hneg : (k + 3 + (x.deps.counts.length : Int) < 0) = False := by simp; omega
        unfold p_laws_markOpS_r at hm
        rw [e1, hy, Option.bind_some] at hm
        simp only at hm
        rw [e2, hs, Option.bind_some, e3, ht, Option.bind_some, e4] at hm
        simp only [Option.some.injEq, T2.mk.injEq] at hm
        obtain ⟨-, rfl⟩ := hm
        refine ⟨_, ?_, rfl⟩
        simp only [p_laws_heldOpS_l0]
        rw [if_t hd, ho, Option.bind_some]
        simp only
        rw [e1, hh]
        simp only [Option.bind_some, decide_eq_true_eq, if_true, hneg, if_false]
        rw [e2, hs]
        simp only [Option.bind_some, if_true]
        rw [e3, ht]
        simp only [Option.bind_some, if_true]
        rw [e4, w64_succ (by omega), show k + 11 + (x.deps.counts.length : Int) = k + 11 + x.deps.counts.length from rfl])
      (by
        rintro _ rfl
        left
        refine ⟨_, ?_, (P.length : Int), rfl⟩
        simp only [p_laws_heldOpS_l0]
        rw [if_neg (by simp), hPl]) (s := (n, 0)) (by simp [KM, cnL])
    rw [h1]
    rfl

theorem q_FindNo {ok : TOp → Prop} {L : List TOp} (hG : G ok L) (hL : L.length ≤ 1024) (a : Nat) (n : Int) (hn1 : 1 ≤ n) (hn3 : n ≤ 1000000000000) (hn2 : ((ofs L (a : Int)).length : Int) < n) : p_spec_l08Find L a n = some (-1) := by
  obtain ⟨A, B, e, hA, hB⟩ := G_split hG (a : Int)
  generalize hM : ofs L (a : Int) = M at *
  have hMa : ∀ x, x ∈ M → x.actor = a := fun x hx => by rw [← hM] at hx; exact ofs_actor hx
  have hlen : L.length = A.length + (M.length + B.length) := by rw [e]; simp
  unfold p_spec_l08Find
  have hw : ∀ i : Nat, i < L.length → n ≤ (L.length : Int) - i → A.length ≤ i → ∃ p, get? L (w64 ((w64 ((i : Int) + n)) - 1)) = some p ∧ (M.length ≤ i - A.length + (n.toNat - 1) → p.actor ≠ a) := by
    intro i hi h1 h2
    rw [w64_id (n := (i : Int) + n) (by omega) (by omega), w64_id (by omega) (by omega)]
    obtain ⟨m, rfl⟩ : ∃ m : Nat, n = (m : Int) + 1 := ⟨(n - 1).toNat, by omega⟩
    obtain ⟨p, hp, hp'⟩ := get_lt (xs := L) (i := i + m) (by omega)
    refine ⟨p, by rw [show (i : Int) + ((m : Int) + 1) - 1 = ((i + m : Nat) : Int) by omega]; exact hp, fun h3 => ?_⟩
    rw [e, List.getElem?_append_right (by omega), List.getElem?_append_right (by omega)] at hp'
    have := hB p (List.mem_of_getElem? hp')
    omega
  obtain ⟨ee, h1, h2⟩ := loop_count (step := p_spec_l08Find_l0 L a n) L.length (fun i s => s = (i : Int) ∧ (i ≤ A.length ∨ M = [])) (fun e => e = .ret (-1) ∨ ∃ s, e = .out s) (by
      rintro i _ hi ⟨rfl, hI⟩
      obtain ⟨o, ho, ho'⟩ := get_lt (xs := L) (i := i) (by omega)
      have hd : decide ((i : Int) < (L.length : Int)) = true := by simp; omega
      simp only [p_spec_l08Find_l0]
      rw [if_t hd, ho, Option.bind_some]
      rcases Nat.lt_or_ge i A.length with hlt | hge
      · have hne : o.actor < a := by
          rw [e, List.getElem?_append_left hlt] at ho'
          exact hA o (List.mem_of_getElem? ho')
        left
        rw [if_neg (by simp; omega), w64_succ (by omega)]
        exact ⟨_, rfl, rfl, .inl hlt⟩
      · by_cases hMn : M = []
        · have hne : (a : Int) < o.actor := by
            rw [e, hMn, List.getElem?_append_right hge, List.nil_append] at ho'
            exact hB o (List.mem_of_getElem? ho')
          left
          rw [if_neg (by simp; omega), w64_succ (by omega)]
          exact ⟨_, rfl, rfl, .inr hMn⟩
        · have hi2 : i = A.length := by
            rcases hI with h | h
            · omega
            · exact absurd h hMn
          have hM0 : 0 < M.length := List.length_pos_iff.2 hMn
          have hoa : o.actor = a := by
            rw [e, List.getElem?_append_right hge, List.getElem?_append_left (by omega)] at ho'
            exact hMa o (List.mem_of_getElem? ho')
          right
          right
          refine ⟨-1, ?_, .inl rfl⟩
          rw [if_pos (by simpa using hoa), if_neg (by simp; omega), w64_id (by omega) (by omega)]
          by_cases h3 : (L.length : Int) - (i : Int) < n
          · rw [if_pos (by simpa using h3)]
          · obtain ⟨p, hp, hp2⟩ := hw i hi (by omega) hge
            rw [if_neg (by simpa using h3), hp, Option.bind_some, if_neg (by simpa using hp2 (by omega))])
    (by
      rintro _ ⟨rfl, hI⟩
      left
      refine ⟨(L.length : Int), ?_, .inr ⟨_, rfl⟩⟩
      simp only [p_spec_l08Find_l0]
      rw [if_neg (by simp)]) (s := 0) ⟨rfl, .inl (by omega)⟩
  rw [h1, Option.bind_some]
  rcases h2 with rfl | ⟨s, rfl⟩
  · rfl
  · rfl
theorem q_l05Same (x y : List Int) (hx : x.length ≤ 1024) : ∃ b, p_spec_l05Same x y = some b ∧ (b = true ↔ x = y) := by
  unfold p_spec_l05Same
  by_cases hl : x.length = y.length
  · rw [if_pos (by simp [hl])]
    have key := all_loopR (step := p_spec_l05Same_l0 x y) (r := false) x.length (fun i => x[i]? = y[i]?) (by
      intro i hi
      obtain ⟨a, ha, ha'⟩ := get_lt (xs := x) hi
      obtain ⟨b, hb, hb'⟩ := get_lt (xs := y) (i := i) (by omega)
      have hd : decide ((i : Int) < (x.length : Int)) = true := by simpa using hi
      simp only [p_spec_l05Same_l0]
      rw [if_t hd, ha, Option.bind_some, hb, Option.bind_some, ha', hb']
      by_cases h : a = b
      · left
        rw [if_pos (by simpa using h), w64_succ (by omega)]
        exact ⟨by rw [h], rfl⟩
      · right
        rw [if_neg (by simpa using h)]
        exact ⟨by simpa using h, rfl⟩) (by
      simp only [p_spec_l05Same_l0]
      rw [if_neg (by simp)])
    rcases key with ⟨h1, h2⟩ | ⟨h1, i, h2, h3⟩
    · rw [h1]
      refine ⟨true, rfl, fun _ => List.ext_getElem? fun i => ?_, fun _ => rfl⟩
      by_cases hi : i < x.length
      · exact h2 i hi
      · rw [List.getElem?_eq_none (by omega), List.getElem?_eq_none (by omega)]
    · rw [h1]
      exact ⟨false, rfl, fun h => (by cases h), fun h => absurd (by rw [h]) h3⟩
  · rw [if_neg (by simp only [decide_eq_true_eq]; omega)]
    exact ⟨false, rfl, fun h => (by cases h), fun h => absurd (by rw [h]) hl⟩
theorem q_vecSame (x y : TVec) : p_impl_vecSame x y = p_spec_l05Same x.counts y.counts := rfl
theorem op_ext {x y : TOp} : x = y ↔ x.actor = y.actor ∧ x.seq = y.seq ∧ x.time = y.time ∧ x.deps.counts = y.deps.counts ∧ x.kind = y.kind ∧ x.obj = y.obj ∧ x.n = y.n ∧ x.undo = y.undo ∧ (x.at_.time = y.at_.time ∧ x.at_.actor = y.at_.actor) ∧ x.key = y.key ∧ x.text = y.text := by
  rcases x with ⟨_, _, _, ⟨_⟩, _, _, _, _, ⟨_, _⟩, _, _⟩
  rcases y with ⟨_, _, _, ⟨_⟩, _, _, _, _, ⟨_, _⟩, _, _⟩
  simp only [TOp.mk.injEq, TVec.mk.injEq, TStamp.mk.injEq]
theorem bt {p : Prop} [Decidable p] {s : Option Bool} {q : Prop} (h1 : p → ∃ b, s = some b ∧ (b = true ↔ q)) (h2 : q → p) : ∃ b, (if decide p = true then s else some false) = some b ∧ (b = true ↔ q) := by
  by_cases h : p
  · rw [if_pos (by simpa using h)]
    exact h1 h
  · rw [if_neg (by simpa using h)]
    exact ⟨false, rfl, fun h => (by cases h), fun hq => absurd (h2 hq) h⟩
theorem bt2 {p p' : Prop} [Decidable p] [Decidable p'] {s : Option Bool} {q : Prop} (h1 : p ∧ p' → ∃ b, s = some b ∧ (b = true ↔ q)) (h2 : q → p ∧ p') : ∃ b, (if (decide p && decide p') = true then s else some false) = some b ∧ (b = true ↔ q) := by
  by_cases h : p ∧ p'
  · rw [if_pos (by simpa using h)]
    exact h1 h
  · rw [if_neg (by simpa using h)]
    exact ⟨false, rfl, fun h => (by cases h), fun hq => absurd (h2 hq) h⟩
theorem bt3 {c : Bool} {p : Prop} {s : Option Bool} {q : Prop} (hc : c = true ↔ p) (h1 : p → ∃ b, s = some b ∧ (b = true ↔ q)) (h2 : q → p) : ∃ b, (if c = true then s else some false) = some b ∧ (b = true ↔ q) := by
  by_cases h : c = true
  · rw [if_pos h]
    exact h1 (hc.1 h)
  · rw [if_neg h]
    exact ⟨false, rfl, fun h => (by cases h), fun hq => absurd (hc.2 (h2 hq)) h⟩
theorem q_SameOp (x y : TOp) (hx : x.deps.counts.length ≤ 1024) : ∃ b, p_spec_l08SameOp x y = some b ∧ (b = true ↔ x = y) := by
  obtain ⟨c, hc, hc'⟩ := q_l05Same x.deps.counts y.deps.counts hx
  unfold p_spec_l08SameOp
  rw [hc, Option.bind_some, op_ext]
  refine bt (fun h1 => ?_) (fun h => h.1)
  refine bt (fun h2 => ?_) (fun h => h.2.1)
  refine bt (fun h3 => ?_) (fun h => h.2.2.1)
  refine bt3 hc' (fun h4 => ?_) (fun h => h.2.2.2.1)
  refine bt (fun h5 => ?_) (fun h => h.2.2.2.2.1)
  refine bt (fun h6 => ?_) (fun h => h.2.2.2.2.2.1)
  refine bt (fun h7 => ?_) (fun h => h.2.2.2.2.2.2.1)
  refine bt (fun h8 => ?_) (fun h => h.2.2.2.2.2.2.2.1)
  refine bt2 (fun h9 => ?_) (fun h => h.2.2.2.2.2.2.2.2.1)
  refine bt (fun h10 => ?_) (fun h => h.2.2.2.2.2.2.2.2.2.1)
  refine ⟨_, rfl, ?_⟩
  rw [decide_eq_true_eq]
  exact ⟨fun h11 => ⟨h1, h2, h3, h4, h5, h6, h7, h8, h9, h10, h11⟩, fun h => h.2.2.2.2.2.2.2.2.2.2⟩
theorem q_opSame (x y : TOp) (hx : x.deps.counts.length ≤ 1024) : ∃ b, p_impl_opSame x y = some b ∧ (b = true ↔ x = y) := by
  obtain ⟨c, hc, hc'⟩ := q_l05Same x.deps.counts y.deps.counts hx
  unfold p_impl_opSame
  rw [q_vecSame, hc, Option.bind_some, op_ext]
  refine bt3 hc' (fun h4 => ?_) (fun h => h.2.2.2.1)
  refine bt (fun h1 => ?_) (fun h => h.1)
  refine bt (fun h2 => ?_) (fun h => h.2.1)
  refine bt (fun h3 => ?_) (fun h => h.2.2.1)
  refine bt (fun h5 => ?_) (fun h => h.2.2.2.2.1)
  refine bt (fun h6 => ?_) (fun h => h.2.2.2.2.2.1)
  refine bt (fun h7 => ?_) (fun h => h.2.2.2.2.2.2.1)
  refine bt (fun h8 => ?_) (fun h => h.2.2.2.2.2.2.2.1)
  refine bt2 (fun h9 => ?_) (fun h => h.2.2.2.2.2.2.2.2.1)
  refine bt (fun h10 => ?_) (fun h => h.2.2.2.2.2.2.2.2.2.1)
  refine ⟨_, rfl, ?_⟩
  rw [decide_eq_true_eq]
  exact ⟨fun h11 => ⟨h1, h2, h3, h4, h5, h6, h7, h8, h9, h10, h11⟩, fun h => h.2.2.2.2.2.2.2.2.2.2⟩
/-- Two logs tell the same of the operations that both have. -/
def AgA (a b : List TOp) (n : Nat) : Prop := ∀ (i : Nat) (x y : TOp), (ofs a (n : Int))[i]? = some x → (ofs b (n : Int))[i]? = some y → x = y
def Agree (a b : List TOp) : Prop := ∀ n : Nat, n < 16 → AgA a b n
def Code (a b : List TOp) (c : Int) : Prop := (¬ (Valid okS a ∧ Valid okS b) ∧ c = 1) ∨ ((Valid okS a ∧ Valid okS b) ∧ ((Agree a b ∧ c = 0) ∨ (¬ Agree a b ∧ c = 16)))
theorem Code_one {a b : List TOp} {c d : Int} (h1 : Code a b c) (h2 : Code a b d) : c = d := by
  rcases h1 with ⟨h1, rfl⟩ | ⟨h1, ⟨h3, rfl⟩ | ⟨h3, rfl⟩⟩ <;> rcases h2 with ⟨h2, rfl⟩ | ⟨h2, ⟨h4, rfl⟩ | ⟨h4, rfl⟩⟩ <;> first | rfl | exact absurd h1 h2 | exact absurd h2 h1 | exact absurd h3 h4 | exact absurd h4 h3
theorem q_l11Code (a b : List TOp) : ∃ c, p_spec_l11Code a b = some c ∧ Code a b c := by
  unfold p_spec_l11Code
  obtain ⟨va, hva, hva'⟩ := q_specLogOK a
  obtain ⟨vb, hvb, hvb'⟩ := q_specLogOK b
  rw [hva, hvb, Option.bind_some, Option.bind_some]
  cases va with
  | false => exact ⟨1, rfl, .inl ⟨fun h => (by cases hva'.2 h.1), rfl⟩⟩
  | true =>
    rw [if_pos rfl]
    cases vb with
    | false => exact ⟨1, rfl, .inl ⟨fun h => (by cases hvb'.2 h.2), rfl⟩⟩
    | true =>
      have hA := hva'.1 rfl
      have hB := hvb'.1 rfl
      rw [if_pos rfl]
      have key := all_loopR (step := p_spec_l11Code_l0 a b) (r := (16 : Int)) a.length (fun i => ∀ x y, a[i]? = some x → (ofs b x.actor)[(x.seq - 1).toNat]? = some y → x = y) (by
        intro i hi
        obtain ⟨x, hx, hx'⟩ := get_lt (xs := a) hi
        have h1 := okS_1 (G_ok hA.2.1 (List.mem_of_getElem? hx'))
        obtain ⟨n, hn⟩ : ∃ n : Nat, x.actor = (n : Int) := ⟨x.actor.toNat, by have := h1.a0; omega⟩
        have hs0 := h1.s0
        have hs1 := h1.s1
        have hd : decide ((i : Int) < (a.length : Int)) = true := by simpa using hi
        have la := hA.1
        simp only [p_spec_l11Code_l0]
        rw [if_t hd, hx, Option.bind_some, hn]
        rcases Int.lt_or_le ((ofs b (n : Int)).length : Int) x.seq with hlt | hle
        · left
          rw [q_FindNo hB.2.1 hB.1 n x.seq h1.s0 h1.s1 hlt, Option.bind_some, if_neg (by decide), w64_succ (by omega)]
          refine ⟨fun x2 y h2 h3 => ?_, rfl⟩
          rw [hx'] at h2
          cases h2
          rw [hn, List.getElem?_eq_none (by omega)] at h3
          cases h3
        · obtain ⟨j, p, hj, hp, hp'⟩ := q_Find hB.2.1 hB.1 n x.seq h1.s0 hle
          have hj0 : 0 ≤ j := by
            unfold get? at hp
            by_cases h : 0 ≤ j
            · exact h
            · rw [if_neg h] at hp; cases hp
          obtain ⟨c, hc, hc'⟩ := q_SameOp x p (by rw [h1.dl]; omega)
          rw [hj, Option.bind_some, if_pos (by simpa using hj0), hp, Option.bind_some, hc, Option.bind_some]
          cases c with
          | true =>
            left
            rw [if_pos rfl, w64_succ (by omega)]
            refine ⟨fun x2 y h2 h3 => ?_, rfl⟩
            rw [hx'] at h2
            cases h2
            rw [hn, hp'] at h3
            cases h3
            exact hc'.1 rfl
          | false =>
            right
            rw [if_neg (by simp)]
            exact ⟨fun h => (by cases hc'.2 (h x p hx' (by rw [hn]; exact hp'))), rfl⟩) (by
        simp only [p_spec_l11Code_l0]
        rw [if_neg (by simp)])
      rcases key with ⟨h1, h2⟩ | ⟨h1, i, h2, h3⟩
      · rw [h1]
        refine ⟨0, rfl, .inr ⟨⟨hA, hB⟩, .inl ⟨fun n hn j x y hx hy => ?_, rfl⟩⟩⟩
        have hseq := G_seq hA.2.1 _ _ _ hx
        have hm := List.mem_of_getElem? hx
        have hac := ofs_actor hm
        obtain ⟨i, hi⟩ := List.mem_iff_getElem?.1 (List.mem_filter.1 hm).1
        refine h2 i (List.getElem?_eq_some_iff.1 hi).1 x y hi ?_
        rw [hac, show (x.seq - 1).toNat = j by omega]
        exact hy
      · rw [h1]
        refine ⟨16, rfl, .inr ⟨⟨hA, hB⟩, .inr ⟨fun hag => h3 fun x y hx hy => ?_, rfl⟩⟩⟩
        have ho := okS_1 (G_ok hA.2.1 (List.mem_of_getElem? hx))
        have hm : x ∈ ofs a x.actor := List.mem_filter.2 ⟨List.mem_of_getElem? hx, by simp⟩
        obtain ⟨j, hj⟩ := List.mem_iff_getElem?.1 hm
        have hseq := G_seq hA.2.1 _ _ _ hj
        have := ho.a0
        have := ho.a1
        refine hag x.actor.toNat (by omega) j x y ?_ ?_
        · rw [Int.toNat_of_nonneg (by omega)]; exact hj
        · rw [Int.toNat_of_nonneg (by omega), ← show (x.seq - 1).toNat = j by omega]; exact hy
theorem q_readTwo (a b : List TOp) : ∃ r, p_impl_readTwo a b = some r ∧ Code a b r.c ∧ (r.c = 0 → (Valid okS a ∧ Valid okS b) ∧ Agree a b ∧ ∃ ka kb, r.a = some ka ∧ r.b = some kb ∧ Rep ka a ∧ Rep kb b) := by
  unfold p_impl_readTwo
  obtain ⟨ra, hra, hra', hka⟩ := q_readBook a
  obtain ⟨rb, hrb, hrb', hkb⟩ := q_readBook b
  rw [hra, hrb, Option.bind_some, Option.bind_some]
  by_cases ha : ra.b = true
  · rw [if_pos ha]
    by_cases hb : rb.b = true
    · rw [if_pos hb]
      obtain ⟨ka, hka1, hRa⟩ := hka ha
      obtain ⟨kb, hkb1, hRb⟩ := hkb hb
      have hA := hra'.1 ha
      have hB := hrb'.1 hb
      have key := all_loopR (step := p_impl_readTwo_l1 ra rb) (r := ⟨(none : Option TBook), (none : Option TBook), (16 : Int)⟩) 16 (AgA a b) (by
        intro n hn
        have la : (ofs a (n : Int)).length ≤ 1024 := Nat.le_trans ofs_len hA.1
        have lb : (ofs b (n : Int)).length ≤ 1024 := Nat.le_trans ofs_len hB.1
        have hga : get? ka.of_ (n : Int) = some (ofs a (n : Int)) := by
          unfold get?
          rw [if_pos (by omega), Int.toNat_natCast]
          exact hRa.of_ n hn
        have hgb : get? kb.of_ (n : Int) = some (ofs b (n : Int)) := by
          unfold get?
          rw [if_pos (by omega), Int.toNat_natCast]
          exact hRb.of_ n hn
        have hd : decide ((n : Int) < 16) = true := by simp; omega
        simp only [p_impl_readTwo_l1]
        rw [if_t hd]
        have key := all_loopR (step := p_impl_readTwo_l0 ra rb (n : Int)) (r := ⟨(none : Option TBook), (none : Option TBook), (16 : Int)⟩) (min (ofs a (n : Int)).length (ofs b (n : Int)).length) (fun i => ∀ x y, (ofs a (n : Int))[i]? = some x → (ofs b (n : Int))[i]? = some y → x = y) (by
          intro i hi
          obtain ⟨x, hx, hx'⟩ := get_lt (xs := ofs a (n : Int)) (i := i) (by omega)
          obtain ⟨y, hy, hy'⟩ := get_lt (xs := ofs b (n : Int)) (i := i) (by omega)
          have h1 := okS_1 (G_ok hA.2.1 (List.mem_filter.1 (List.mem_of_getElem? hx')).1)
          obtain ⟨c, hc, hc'⟩ := q_opSame x y (by rw [h1.dl]; omega)
          have hd1 : decide ((i : Int) < ((ofs a (n : Int)).length : Int)) = true := by simp; omega
          have hd2 : decide ((i : Int) < ((ofs b (n : Int)).length : Int)) = true := by simp; omega
          simp only [p_impl_readTwo_l0]
          rw [hka1, Option.bind_some, hga, Option.bind_some, if_t hd1, hkb1, Option.bind_some, hgb, Option.bind_some, if_t hd2, hx, Option.bind_some, hy, Option.bind_some, hc, Option.bind_some]
          cases c with
          | true =>
            left
            rw [if_pos rfl, w64_succ (by omega)]
            refine ⟨fun x2 y2 h2 h3 => ?_, rfl⟩
            rw [hx'] at h2
            rw [hy'] at h3
            cases h2
            cases h3
            exact hc'.1 rfl
          | false =>
            right
            rw [if_neg (by simp)]
            exact ⟨fun h => (by cases hc'.2 (h x y hx' hy')), rfl⟩) (by
          simp only [p_impl_readTwo_l0]
          rw [hka1, Option.bind_some, hga, Option.bind_some]
          by_cases h1 : (ofs a (n : Int)).length ≤ (ofs b (n : Int)).length
          · rw [Nat.min_eq_left h1, if_neg (by simp)]
          · rw [Nat.min_eq_right (by omega), if_pos (by simp; omega), hkb1, Option.bind_some, hgb, Option.bind_some, if_neg (by simp)])
        rcases key with ⟨h1, h2⟩ | ⟨h1, i, h2, h3⟩
        · left
          rw [h1, Option.bind_some]
          refine ⟨fun i x y hx hy => ?_, by simp only; rw [w64_succ (by omega)]⟩
          have q1 := (List.getElem?_eq_some_iff.1 hx).1
          have q2 := (List.getElem?_eq_some_iff.1 hy).1
          exact h2 i (by omega) x y hx hy
        · right
          rw [h1, Option.bind_some]
          exact ⟨fun h => h3 fun x y hx hy => h i x y hx hy, rfl⟩) (by
        simp only [p_impl_readTwo_l1]
        rw [if_neg (by decide)])
      rcases key with ⟨h1, h2⟩ | ⟨h1, i, h2, h3⟩
      · rw [h1]
        exact ⟨_, rfl, .inr ⟨⟨hA, hB⟩, .inl ⟨h2, rfl⟩⟩, fun _ => ⟨⟨hA, hB⟩, h2, ka, kb, hka1, hkb1, hRa, hRb⟩⟩
      · rw [h1]
        exact ⟨_, rfl, .inr ⟨⟨hA, hB⟩, .inr ⟨fun h => h3 (h i h2), rfl⟩⟩, fun h => (by cases h)⟩
    · rw [if_neg hb]
      exact ⟨_, rfl, .inl ⟨fun h => hb (hrb'.2 h.2), rfl⟩, fun h => (by cases h)⟩
  · rw [if_neg ha]
    exact ⟨_, rfl, .inl ⟨fun h => ha (hra'.2 h.1), rfl⟩, fun h => (by cases h)⟩

theorem q_copyS (x : TOp) (h : x.deps.counts.length ≤ 1024) : p_spec_l08CopyOp x = some x := by
  unfold p_spec_l08CopyOp p_spec_l02Copy
  rw [app_list (by simp only [List.length_nil]; omega), Option.bind_some, Option.bind_some]
  rfl
theorem q_copyI (x : TOp) (h : x.deps.counts.length ≤ 1024) : p_impl_opCopy x = some x := by
  unfold p_impl_opCopy p_impl_vecCopy
  rw [app_list (by simp only [List.length_nil]; omega), Option.bind_some, Option.bind_some]
  rfl
/-- Is an operation above what these counts tell? -/
def ab (v : TVec) (o : TOp) : Bool := decide ((v.counts[o.actor.toNat]?).getD 0 < o.seq)
theorem cat_len {L : List TOp} (hV : Valid okS L) (p : TOp → Bool) (n : Nat) : ((List.range n).flatMap fun a : Nat => (ofs L (a : Int)).filter p).length ≤ 1024 := by
  have h0 : ∀ o, o ∈ L → 0 ≤ o.actor := fun o ho => (okS_1 (G_ok hV.2.1 ho)).a0
  rw [← List.filter_flatMap, ← G_below hV.2.1 n h0]
  exact Nat.le_trans (List.length_filter_le _ _) (Nat.le_trans (List.length_filter_le _ _) hV.1)
theorem val_cat {L : List TOp} (hV : Valid okS L) (p : TOp → Bool) : L.filter p = (List.range 16).flatMap fun a : Nat => (ofs L (a : Int)).filter p :=
  cat_filter hV.2.1 (fun o ho => ⟨(okS_1 (G_ok hV.2.1 ho)).a0, (okS_1 (G_ok hV.2.1 ho)).a1⟩) p

def has (L : List TOp) (b : Int) : Bool := L.any fun o => decide (o.obj = b)
theorem lt_has (L : List TOp) (h : ∀ o, o ∈ L → Ok1 o) (b : Int) : lastThing L b = 0 ↔ has L b = false := by
  have key : ∀ n, n ≤ L.length → (lastThing (L.take n) b = 0 ↔ has (L.take n) b = false) := by
    intro n
    induction n with
    | zero => intro _; simp [lastThing, has]
    | succ n ih =>
      intro hn
      have hl : n < L.length := hn
      have e : L[n]? = some L[n] := List.getElem?_eq_getElem hl
      have ok := h _ (List.mem_of_getElem? e)
      have ht := thing_range ok
      rw [take_next e, lastThing_snoc]
      unfold has at *
      rw [List.any_append]
      by_cases hb : L[n].obj = b
      · rw [if_pos hb]
        simp [hb]
        omega
      · rw [if_neg hb, ih (by omega)]
        simp [hb]
  have := key L.length (Nat.le_refl _)
  rwa [List.take_length] at this

theorem KK_thing {L : List TOp} (hK : KK L) (h : ∀ o, o ∈ L → Ok1 o) : ∀ o, o ∈ L → thing o = lastThing L o.obj := by
  have key : ∀ n, n ≤ L.length → ∀ o, o ∈ L.take n → thing o = lastThing (L.take n) o.obj := by
    intro n
    induction n with
    | zero => intro _ o ho; simp at ho
    | succ n ih =>
      intro hn o ho
      have hl : n < L.length := hn
      have e : L[n]? = some L[n] := List.getElem?_eq_getElem hl
      have ks := hK n _ e
      rw [take_next e] at ho ⊢
      rw [lastThing_snoc]
      rcases List.mem_append.1 ho with h1 | h1
      · have h2 := ih (by omega) o h1
        by_cases hb : L[n].obj = o.obj
        · rw [if_pos hb]
          unfold KS at ks
          rw [hb, ← h2] at ks
          have := thing_range (h o (List.take_subset _ _ h1))
          rcases ks with h3 | h3
          · omega
          · exact h3
        · rw [if_neg hb]
          exact h2
      · simp at h1
        subst h1
        rw [if_pos rfl]
  have := key L.length (Nat.le_refl _)
  rwa [List.take_length] at this
def KFit (A B : List TOp) : Prop := ∀ x, x ∈ A → ∀ o, o ∈ B → o.obj = x.obj → thing o = thing x
theorem KFit_iff {A B : List TOp} (hA : Valid okS A) (hB : Valid okS B) : KFit A B ↔ ∀ b : Nat, b < 101 → lastThing A (b : Int) = 0 ∨ lastThing B (b : Int) = 0 ∨ lastThing B (b : Int) = lastThing A (b : Int) := by
  have oA : ∀ o, o ∈ A → Ok1 o := fun o ho => okS_1 (G_ok hA.2.1 ho)
  have oB : ∀ o, o ∈ B → Ok1 o := fun o ho => okS_1 (G_ok hB.2.1 ho)
  constructor
  · intro h b hb
    by_cases h1 : lastThing A (b : Int) = 0
    · exact .inl h1
    · by_cases h2 : lastThing B (b : Int) = 0
      · exact .inr (.inl h2)
      · right; right
        have h3 : has A (b : Int) = true := by
          cases hh : has A (b : Int) with
          | true => rfl
          | false => exact absurd ((lt_has A oA _).2 hh) h1
        have h4 : has B (b : Int) = true := by
          cases hh : has B (b : Int) with
          | true => rfl
          | false => exact absurd ((lt_has B oB _).2 hh) h2
        unfold has at h3 h4
        rw [List.any_eq_true] at h3 h4
        obtain ⟨x, hx, hx'⟩ := h3
        obtain ⟨o, ho, ho'⟩ := h4
        simp only [decide_eq_true_eq] at hx' ho'
        have e1 := KK_thing hA.2.2.1 oA x hx
        have e2 := KK_thing hB.2.2.1 oB o ho
        rw [hx'] at e1
        rw [ho'] at e2
        rw [← e1, ← e2]
        exact h x hx o ho (by rw [hx', ho'])
  · intro h x hx o ho e
    have o1 := (oA x hx).o0
    have o2 := (oA x hx).o1
    have e1 := KK_thing hA.2.2.1 oA x hx
    have e2 := KK_thing hB.2.2.1 oB o ho
    have t1 := thing_range (oA x hx)
    have t2 := thing_range (oB o ho)
    have h3 := h x.obj.toNat (by omega)
    rw [Int.toNat_of_nonneg (by omega)] at h3
    rw [e] at e2
    omega
theorem q_KindFits (B : List TOp) (hl : B.length ≤ 1024) (oB : ∀ o, o ∈ B → Ok1 o) (x : TOp) (ox : Ok1 x) : ∃ b, p_spec_l08KindFits B x = some b ∧ (b = true ↔ ∀ o, o ∈ B → o.obj = x.obj → thing o = thing x) := by
  unfold p_spec_l08KindFits
  have key := all_loopR (step := p_spec_l08KindFits_l0 B x) (r := false) B.length (fun i => ∀ o, B[i]? = some o → o.obj = x.obj → thing o = thing x) (by
    intro i hi
    obtain ⟨o, ho, ho'⟩ := get_lt (xs := B) hi
    have ok := oB o (List.mem_of_getElem? ho')
    have hd : decide ((i : Int) < (B.length : Int)) = true := by simpa using hi
    simp only [p_spec_l08KindFits_l0]
    rw [if_t hd, ho, Option.bind_some, w64_succ (by omega), q_Thing ok, q_Thing ox, Option.bind_some, Option.bind_some]
    by_cases h1 : o.obj = x.obj
    · rw [if_pos (by simpa using h1)]
      have hc := cv_inj (t := thing o) (u := thing x) (by have := thing_range ok; omega) (thing_range ox)
      by_cases h2 : thing o = thing x
      · left
        rw [if_pos (by simpa using hc.2 h2)]
        refine ⟨fun o2 h3 _ => ?_, rfl⟩
        rw [ho'] at h3
        cases h3
        exact h2
      · right
        rw [if_neg (by simpa using fun h => h2 (hc.1 h))]
        exact ⟨fun h => h2 (h o ho' h1), rfl⟩
    · left
      rw [if_neg (by simpa using h1)]
      refine ⟨fun o2 h3 h4 => ?_, rfl⟩
      rw [ho'] at h3
      cases h3
      exact absurd h4 h1) (by
    simp only [p_spec_l08KindFits_l0]
    rw [if_neg (by simp)])
  rcases key with ⟨h1, h2⟩ | ⟨h1, i, h2, h3⟩
  · rw [h1]
    refine ⟨true, rfl, fun _ o ho => ?_, fun _ => rfl⟩
    obtain ⟨i, hi⟩ := List.mem_iff_getElem?.1 ho
    exact h2 i (List.getElem?_eq_some_iff.1 hi).1 o hi
  · rw [h1]
    exact ⟨false, rfl, fun h => (by cases h), fun h => absurd (fun o ho => h o (List.mem_of_getElem? ho)) h3⟩
theorem q_Insert (X Y : List TOp) (o : TOp) (hl : X.length + Y.length ≤ 4096) (hX : ∀ x, x ∈ X → x.actor < o.actor ∨ (x.actor = o.actor ∧ x.seq < o.seq)) (hY : ∀ y, y ∈ Y → o.actor < y.actor) : p_spec_l08Insert (X ++ Y) o = some (X ++ [o] ++ Y) := by
  have hlen : (X ++ Y).length = X.length + Y.length := List.length_append
  unfold p_spec_l08Insert
  obtain ⟨e, h1, rfl⟩ := loop_count (step := p_spec_l08Insert_l0 (X ++ Y) o) X.length (fun i s => s = (i : Int)) (fun e => e = .out (X.length : Int)) (by
      rintro i _ hi rfl
      left
      obtain ⟨x, hx, hx'⟩ := get_lt (xs := X ++ Y) (i := i) (by omega)
      rw [List.getElem?_append_left hi] at hx'
      have hd : decide ((i : Int) < ((X ++ Y).length : Int)) = true := by simp only [decide_eq_true_eq]; omega
      refine ⟨_, ?_, rfl⟩
      simp only [p_spec_l08Insert_l0]
      rw [if_t hd, hx, Option.bind_some, w64_succ (by omega)]
      rcases hX x (List.mem_of_getElem? hx') with h | ⟨h, h2⟩
      · rw [if_pos (by simpa using h)]
      · rw [if_neg (by simp; omega), if_pos (by simpa using h), if_pos (by simpa using h2)])
    (by
      rintro _ rfl
      left
      refine ⟨_, ?_, rfl⟩
      simp only [p_spec_l08Insert_l0]
      by_cases hY0 : Y.length = 0
      · rw [if_neg (by simp only [decide_eq_true_eq]; omega)]
      · have hd : decide ((X.length : Int) < ((X ++ Y).length : Int)) = true := by simp only [decide_eq_true_eq]; omega
        obtain ⟨y, hy, hy'⟩ := get_lt (xs := X ++ Y) (i := X.length) (by omega)
        rw [List.getElem?_append_right (Nat.le_refl _)] at hy'
        have := hY y (List.mem_of_getElem? hy')
        rw [if_t hd, hy, Option.bind_some, if_neg (by simp; omega), if_neg (by simp; omega)]) (s := 0) rfl
  have hmk : (mkL 0 128 (w64 (((X ++ Y).length : Int) + 1)) () : Option (List Unit)) = some [] := by
    rw [w64_succ (by omega)]
    unfold mkL
    rw [if_pos (by omega)]
    rfl
  have hc1 : cut? (X ++ Y) 0 (X.length : Int) = some X := by
    unfold cut?
    rw [if_pos (by omega)]
    simp
  have hc2 : cut? (X ++ Y) (X.length : Int) ((X ++ Y).length : Int) = some Y := by
    unfold cut?
    rw [if_pos (by omega), hlen, Int.toNat_natCast, Int.toNat_natCast, Nat.add_sub_cancel_left, List.drop_left, List.take_length]
  rw [h1, Option.bind_some]
  simp only
  rw [hmk, Option.bind_some, hc1, Option.bind_some, app_list (by simp only [List.length_nil]; omega), Option.bind_some, List.nil_append, app_one (by omega), Option.bind_some, hc2, Option.bind_some, app_list (by simp only [List.length_append, List.length_cons, List.length_nil]; omega), Option.bind_some]
def cat (F : Nat → List TOp) (n : Nat) : List TOp := (List.range n).flatMap F
theorem cat_succ {F : Nat → List TOp} {n : Nat} : cat F (n + 1) = cat F n ++ F n := flat_succ F n
theorem cat_split (F G : Nat → List TOp) (n : Nat) (o : TOp) (h1 : ∀ m, m ≠ n → G m = F m) (h2 : G n = F n ++ [o]) : ∀ k, n < k → ∃ Y, cat F k = cat F (n + 1) ++ Y ∧ cat G k = cat F (n + 1) ++ [o] ++ Y ∧ ∀ y, y ∈ Y → ∃ m, n < m ∧ m < k ∧ y ∈ F m := by
  have hlow : ∀ k, k ≤ n → cat G k = cat F k := by
    intro k
    induction k with
    | zero => intro _; rfl
    | succ k ih =>
      intro hk
      rw [cat_succ, cat_succ, ih (by omega), h1 k (by omega)]
  intro k
  induction k with
  | zero => intro h; omega
  | succ k ih =>
    intro hk
    by_cases e : k = n
    · subst e
      refine ⟨[], by simp, ?_, fun y hy => by cases hy⟩
      rw [cat_succ, hlow k (Nat.le_refl _), h2, cat_succ]
      simp
    · obtain ⟨Y, hY1, hY2, hY3⟩ := ih (by omega)
      refine ⟨Y ++ F k, ?_, ?_, ?_⟩
      · rw [cat_succ (n := k), hY1, List.append_assoc]
      · rw [cat_succ (n := k), hY2, h1 k e, List.append_assoc]
      · intro y hy
        rcases List.mem_append.1 hy with h | h
        · obtain ⟨m, q1, q2, q3⟩ := hY3 y h
          exact ⟨m, q1, by omega, q3⟩
        · exact ⟨k, by omega, by omega, h⟩
theorem cat_mem {F : Nat → List TOp} {n : Nat} {x : TOp} (h : x ∈ cat F n) : ∃ m, m < n ∧ x ∈ F m := by
  unfold cat at h
  obtain ⟨m, hm, hx⟩ := List.mem_flatMap.1 h
  exact ⟨m, List.mem_range.1 hm, hx⟩
theorem cat_lenle {F G : Nat → List TOp} (h : ∀ m, (F m).length ≤ (G m).length) : ∀ n, (cat F n).length ≤ (cat G n).length
  | 0 => by simp [cat]
  | n + 1 => by
    rw [cat_succ, cat_succ, List.length_append, List.length_append]
    have := cat_lenle h n
    have := h n
    omega
theorem cat_lenadd {F G H : Nat → List TOp} (h : ∀ m, (F m).length ≤ (G m).length + (H m).length) : ∀ n, (cat F n).length ≤ (cat G n).length + (cat H n).length
  | 0 => by simp [cat]
  | n + 1 => by
    rw [cat_succ, cat_succ, cat_succ, List.length_append, List.length_append, List.length_append]
    have := cat_lenadd h n
    have := h n
    omega
/-- What is behind a of b, actor by actor. -/
def FM (A B : List TOp) (n : Nat) : List TOp := ofs A (n : Int) ++ (ofs B (n : Int)).drop (ofs A (n : Int)).length
theorem valid_cat {A : List TOp} (hA : Valid okS A) : A = cat (fun n : Nat => ofs A (n : Int)) 16 :=
  G_cat hA.2.1 fun o ho => ⟨(okS_1 (G_ok hA.2.1 ho)).a0, (okS_1 (G_ok hA.2.1 ho)).a1⟩
theorem cat_ofs_len {A : List TOp} (hA : Valid okS A) (n : Nat) : (cat (fun n : Nat => ofs A (n : Int)) n).length ≤ 1024 := by
  have h := cat_len hA (fun _ => true) n
  have e : (fun a : Nat => (ofs A (a : Int)).filter fun _ => true) = fun a : Nat => ofs A (a : Int) := by
    funext a
    exact List.filter_eq_self.2 fun _ _ => rfl
  rw [e] at h
  exact h
theorem FM_mem {A B : List TOp} {n : Nat} {x : TOp} (h : x ∈ FM A B n) : x.actor = n ∧ (x ∈ A ∨ x ∈ B) := by
  unfold FM at h
  rcases List.mem_append.1 h with h | h
  · exact ⟨ofs_actor h, .inl (List.mem_filter.1 h).1⟩
  · have := List.mem_of_mem_drop h
    exact ⟨ofs_actor this, .inr (List.mem_filter.1 this).1⟩
theorem q_specMerge {A B : List TOp} (hA : Valid okS A) (hB : Valid okS B) (v : TVec) (hv : v.counts.length = 16) (hv' : ∀ a : Nat, a < 16 → v.counts[a]? = some ((ofs A (a : Int)).length : Int)) :
    ∃ n, loopP (p_spec_BranchMerge_l1 B v) (A, 0) = some (.out (cat (FM A B) 16, n)) := by
  have hl := hB.1
  obtain ⟨e, h1, n, rfl⟩ := loop_count (step := p_spec_BranchMerge_l1 B v) B.length (fun i s => s = (cat (FM A (B.take i)) 16, (i : Int))) (fun e => ∃ n, e = .out (cat (FM A B) 16, n)) (by
      rintro i _ hi rfl
      left
      obtain ⟨o, ho, ho'⟩ := get_lt (xs := B) hi
      have ok := okS_1 (G_ok hB.2.1 (List.mem_of_getElem? ho'))
      have a0 := ok.a0
      have a1 := ok.a1
      obtain ⟨n, hn⟩ : ∃ n : Nat, o.actor = (n : Int) := ⟨o.actor.toNat, by omega⟩
      have hn16 : n < 16 := by omega
      have hseq : o.seq = (ofs (B.take i) (n : Int)).length + 1 := by
        have := (G_iff.1 hB.2.1 i o ho').2.2
        rwa [hn] at this
      have hd : decide ((i : Int) < (B.length : Int)) = true := by simpa using hi
      have hc : get? v.counts o.actor = some ((ofs A (n : Int)).length : Int) := by
        rw [hn]
        unfold get?
        rw [if_pos (by omega), Int.toNat_natCast]
        exact hv' n hn16
      refine ⟨(cat (FM A (B.take (i + 1))) 16, ((i + 1 : Nat) : Int)), ?_, rfl⟩
      simp only [p_spec_BranchMerge_l1]
      rw [if_t hd, ho, Option.bind_some, hc, Option.bind_some, w64_succ (by omega)]
      have hoth : ∀ m : Nat, m ≠ n → FM A (B.take (i + 1)) m = FM A (B.take i) m := by
        intro m hm
        unfold FM
        rw [take_next ho', ofs_snoc, if_neg (by omega)]
      by_cases h : ((ofs A (n : Int)).length : Int) < o.seq
      · have hown : FM A (B.take (i + 1)) n = FM A (B.take i) n ++ [o] := by
          unfold FM
          rw [take_next ho', ofs_snoc, if_pos hn, List.drop_append_of_le_length (by omega), List.append_assoc]
        obtain ⟨Y, hY1, hY2, hY3⟩ := cat_split (FM A (B.take i)) (FM A (B.take (i + 1))) n o hoth hown 16 hn16
        have hVt : Valid okS B := hB
        have htl : (ofs (B.take i) (n : Int)).length ≤ 1024 := Nat.le_trans ofs_len (by rw [List.length_take]; omega)
        have hlen16 : (cat (FM A (B.take i)) 16).length ≤ 2048 := by
          have h2 := cat_lenadd (F := FM A (B.take i)) (G := fun n : Nat => ofs A (n : Int)) (H := fun n : Nat => ofs B (n : Int)) (fun m => by
            unfold FM
            rw [List.length_append, List.length_drop]
            have : (ofs (B.take i) (m : Int)).length ≤ (ofs B (m : Int)).length := by
              unfold ofs
              exact ((List.take_sublist i B).filter _).length_le
            first | omega | (simp only; omega)) 16
          have := cat_ofs_len hA 16
          have := cat_ofs_len hB 16
          omega
        have hins := q_Insert (cat (FM A (B.take i)) (n + 1)) Y o (by rw [hY1, List.length_append] at hlen16; omega) (by
          intro x hx
          obtain ⟨m, hm, hxm⟩ := cat_mem hx
          have hxa := (FM_mem hxm).1
          rcases Nat.lt_or_ge m n with hlt | hge
          · left; omega
          · obtain rfl : m = n := by omega
            right
            refine ⟨by omega, ?_⟩
            unfold FM at hxm
            rcases List.mem_append.1 hxm with h3 | h3
            · obtain ⟨j, hj⟩ := List.mem_iff_getElem?.1 h3
              have := G_seq hA.2.1 _ _ _ hj
              have := (List.getElem?_eq_some_iff.1 hj).1
              omega
            · obtain ⟨j, hj⟩ := List.mem_iff_getElem?.1 (List.mem_of_mem_drop h3)
              have := G_seq (G_take hB.2.1 i) _ _ _ hj
              have := (List.getElem?_eq_some_iff.1 hj).1
              omega) (by
          intro y hy
          obtain ⟨m, hm, _, hym⟩ := hY3 y hy
          have := (FM_mem hym).1
          omega)
        rw [if_pos (by simpa using h), q_copyS o (by rw [ok.dl]; omega), Option.bind_some, hY1, hins, Option.bind_some, hY2]
      · have hown : FM A (B.take (i + 1)) n = FM A (B.take i) n := by
          unfold FM
          rw [take_next ho', ofs_snoc, if_pos hn, List.drop_eq_nil_of_le (by simp; omega), List.drop_eq_nil_of_le (by omega)]
        rw [if_neg (by simpa using h)]
        have : FM A (B.take (i + 1)) = FM A (B.take i) := by
          funext m
          by_cases hm : m = n
          · rw [hm]; exact hown
          · exact hoth m hm
        rw [this])
    (by
      rintro _ rfl
      left
      refine ⟨_, ?_, (B.length : Int), rfl⟩
      simp only [p_spec_BranchMerge_l1]
      rw [if_neg (by simp), List.take_length]) (s := (A, 0)) (by
        have : FM A (B.take 0) = fun n : Nat => ofs A (n : Int) := by
          funext n
          unfold FM
          simp [ofs]
        rw [this, ← valid_cat hA]
        rfl)
  exact ⟨n, h1⟩
theorem FM_alt {A B : List TOp} {n : Nat} (h : AgA A B n) : FM A B n = if (ofs A (n : Int)).length < (ofs B (n : Int)).length then ofs B (n : Int) else ofs A (n : Int) := by
  unfold FM AgA at *
  generalize ofs A (n : Int) = M at *
  generalize ofs B (n : Int) = N at *
  by_cases hl : M.length < N.length
  · rw [if_pos hl]
    have : M = N.take M.length := by
      refine List.ext_getElem? fun i => ?_
      rw [List.getElem?_take]
      by_cases hi : i < M.length
      · rw [if_pos hi, List.getElem?_eq_getElem hi, List.getElem?_eq_getElem (by omega)]
        congr 1
        exact h i _ _ (List.getElem?_eq_getElem hi) (List.getElem?_eq_getElem (by omega))
      · rw [if_neg hi, List.getElem?_eq_none (by omega)]
    conv => lhs; lhs; rw [this]
    exact List.take_append_drop _ _
  · rw [if_neg hl, List.drop_eq_nil_of_le (by omega), List.append_nil]
theorem q_copyLoop {ρ : Type} {step : List TOp × Int → Option (Lp (List TOp × Int) ρ)} (M s : List TOp) (hs : s.length + M.length ≤ 4096) (hd : ∀ o, o ∈ M → o.deps.counts.length = 16)
    (hstep : ∀ t n, step (t, n) = if (decide (n < (M.length : Int))) = true then ((get? M n).bind fun v28 => (p_impl_opCopy v28).bind fun v29 => (app? 128 t [v29]).bind fun v30 => some (.go (v30, w64 (n + 1)))) else some (.out (t, n))) : ∃ n, loopP step (s, 0) = some (.out (s ++ M, n)) := by
  obtain ⟨e, h1, n, rfl⟩ := loop_count (step := step) M.length (fun j t => t = (s ++ M.take j, (j : Int))) (fun e => ∃ n, e = .out (s ++ M, n)) (by
      rintro j _ hj rfl
      left
      obtain ⟨o, ho, ho'⟩ := get_lt (xs := M) hj
      have hdj : decide ((j : Int) < (M.length : Int)) = true := by simpa using hj
      refine ⟨_, ?_, rfl⟩
      rw [hstep, if_t hdj, ho, Option.bind_some, q_copyI o (by rw [hd o (List.mem_of_getElem? ho')]; omega), Option.bind_some, app_one (by rw [List.length_append, List.length_take]; omega), Option.bind_some, w64_succ (by omega), take_next ho', List.append_assoc])
    (by
      rintro _ rfl
      left
      refine ⟨_, ?_, (M.length : Int), rfl⟩
      rw [hstep, if_neg (by simp), List.take_length]) (s := (s, 0)) (by simp)
  exact ⟨n, h1⟩
theorem q_implMerge {A B : List TOp} (hA : Valid okS A) (hB : Valid okS B) (hag : Agree A B) (ka kb : TBook) (hRa : Rep ka A) (hRb : Rep kb B) (r : T3 (Option TBook) (Option TBook) Int) (hr : r.b = some kb) :
    ∃ n, loopP (p_impl_merge_l5 r ka) (([] : List TOp), 0) = some (.out (cat (FM A B) 16, n)) := by
  obtain ⟨e, h1, n, rfl⟩ := loop_count (step := p_impl_merge_l5 r ka) 16 (fun i s => s = (cat (FM A B) i, (i : Int))) (fun e => ∃ n, e = .out (cat (FM A B) 16, n)) (by
      rintro i _ hi rfl
      left
      have hga : get? ka.of_ (i : Int) = some (ofs A (i : Int)) := by
        unfold get?
        rw [if_pos (by omega), Int.toNat_natCast]
        exact hRa.of_ i hi
      have hgb : get? kb.of_ (i : Int) = some (ofs B (i : Int)) := by
        unfold get?
        rw [if_pos (by omega), Int.toNat_natCast]
        exact hRb.of_ i hi
      have hd16 : decide ((i : Int) < 16) = true := by simp; omega
      have hs : (cat (FM A B) i).length ≤ 2048 := by
        have h2 := cat_lenadd (F := FM A B) (G := fun n : Nat => ofs A (n : Int)) (H := fun n : Nat => ofs B (n : Int)) (fun m => by
          unfold FM
          rw [List.length_append, List.length_drop]
          first | omega | (simp only; omega)) i
        have := cat_ofs_len hA i
        have := cat_ofs_len hB i
        omega
      have la : (ofs A (i : Int)).length ≤ 1024 := Nat.le_trans ofs_len hA.1
      have lb : (ofs B (i : Int)).length ≤ 1024 := Nat.le_trans ofs_len hB.1
      refine ⟨(cat (FM A B) (i + 1), ((i + 1 : Nat) : Int)), ?_, rfl⟩
      simp only [p_impl_merge_l5]
      rw [if_t hd16, hga, Option.bind_some, hr, Option.bind_some, hgb, Option.bind_some, cat_succ, FM_alt (hag i hi), w64_succ (by omega)]
      by_cases h : (ofs A (i : Int)).length < (ofs B (i : Int)).length
      · obtain ⟨n, hn⟩ := q_copyLoop (step := p_impl_merge_l3 (ofs B (i : Int))) (ofs B (i : Int)) (cat (FM A B) i) (by omega) (fun o ho => (okS_1 (G_ok hB.2.1 (List.mem_filter.1 ho).1)).dl) (fun t n => rfl)
        rw [if_pos h, if_pos (by simp only [decide_eq_true_eq]; omega), hn, Option.bind_some]
      · obtain ⟨n, hn⟩ := q_copyLoop (step := p_impl_merge_l4 (ofs A (i : Int))) (ofs A (i : Int)) (cat (FM A B) i) (by omega) (fun o ho => (okS_1 (G_ok hA.2.1 (List.mem_filter.1 ho).1)).dl) (fun t n => rfl)
        rw [if_neg h, if_neg (by simp only [decide_eq_true_eq]; omega), hn, Option.bind_some])
    (by
      rintro _ rfl
      left
      refine ⟨_, ?_, (16 : Int), rfl⟩
      simp only [p_impl_merge_l5]
      rw [if_neg (by decide)]
      rfl) (s := (([] : List TOp), 0)) rfl
  exact ⟨n, h1⟩

theorem q_Copy {A : List TOp} (hA : Valid okS A) : p_spec_l08Copy A = some A := by
  have hl := hA.1
  unfold p_spec_l08Copy
  obtain ⟨e, h1, n, rfl⟩ := loop_count (step := p_spec_l08Copy_l0 A) A.length (fun j t => t = (A.take j, (j : Int))) (fun e => ∃ n, e = .out (A, n)) (by
      rintro j _ hj rfl
      left
      obtain ⟨o, ho, ho'⟩ := get_lt (xs := A) hj
      have ok := okS_1 (G_ok hA.2.1 (List.mem_of_getElem? ho'))
      have hdj : decide ((j : Int) < (A.length : Int)) = true := by simpa using hj
      refine ⟨_, ?_, rfl⟩
      simp only [p_spec_l08Copy_l0]
      rw [if_t hdj, ho, Option.bind_some, q_copyS o (by rw [ok.dl]; omega), Option.bind_some, app_one (by rw [List.length_take]; omega), Option.bind_some, w64_succ (by omega), take_next ho'])
    (by
      rintro _ rfl
      left
      refine ⟨_, ?_, (A.length : Int), rfl⟩
      simp only [p_spec_l08Copy_l0]
      rw [if_neg (by simp), List.take_length]) (s := (([] : List TOp), 0)) (by simp)
  rw [h1, Option.bind_some]
theorem q_specFit {A B : List TOp} (hA : Valid okS A) (hB : Valid okS B) : (∃ n, loopP (p_spec_BranchMerge_l0 A B) 0 = some (.out n) ∧ KFit A B) ∨ (loopP (p_spec_BranchMerge_l0 A B) 0 = some (.ret ⟨[], 8⟩) ∧ ¬ KFit A B) := by
  have la := hA.1
  have key := all_loopR (step := p_spec_BranchMerge_l0 A B) (r := ⟨[], (8 : Int)⟩) A.length (fun i => ∀ x, A[i]? = some x → ∀ o, o ∈ B → o.obj = x.obj → thing o = thing x) (by
    intro i hi
    obtain ⟨x, hx, hx'⟩ := get_lt (xs := A) hi
    obtain ⟨b, hb, hb'⟩ := q_KindFits B hB.1 (fun o ho => okS_1 (G_ok hB.2.1 ho)) x (okS_1 (G_ok hA.2.1 (List.mem_of_getElem? hx')))
    have hd : decide ((i : Int) < (A.length : Int)) = true := by simpa using hi
    simp only [p_spec_BranchMerge_l0]
    rw [if_t hd, hx, Option.bind_some, hb, Option.bind_some, w64_succ (by omega)]
    cases b with
    | true =>
      left
      rw [if_pos rfl]
      refine ⟨fun x2 h2 => ?_, rfl⟩
      rw [hx'] at h2
      cases h2
      exact hb'.1 rfl
    | false =>
      right
      rw [if_neg (by simp)]
      exact ⟨fun h => (by cases hb'.2 (h x hx')), rfl⟩) (by
    simp only [p_spec_BranchMerge_l0]
    rw [if_neg (by simp)])
  rcases key with ⟨h1, h2⟩ | ⟨h1, i, h2, h3⟩
  · left
    refine ⟨_, h1, fun x hx => ?_⟩
    obtain ⟨i, hi⟩ := List.mem_iff_getElem?.1 hx
    exact h2 i (List.getElem?_eq_some_iff.1 hi).1 x hi
  · right
    exact ⟨h1, fun h => h3 fun x hx => h x (List.mem_of_getElem? hx)⟩
theorem q_implFit {A B : List TOp} (hA : Valid okS A) (hB : Valid okS B) (ka kb : TBook) (hRa : Rep ka A) (hRb : Rep kb B) (r : T3 (Option TBook) (Option TBook) Int) (hr : r.b = some kb) :
    (∃ n, loopP (p_impl_merge_l0 r ka) 0 = some (.out n) ∧ KFit A B) ∨ (loopP (p_impl_merge_l0 r ka) 0 = some (.ret ⟨none, none, [], 8⟩) ∧ ¬ KFit A B) := by
  have key := all_loopR (step := p_impl_merge_l0 r ka) (r := ⟨(none : Option TBook), (none : Option TBook), ([] : List TOp), (8 : Int)⟩) 101 (fun b => lastThing A (b : Int) = 0 ∨ lastThing B (b : Int) = 0 ∨ lastThing B (b : Int) = lastThing A (b : Int)) (by
    intro b hb
    have ha : get? ka.kind (b : Int) = some (lastThing A (b : Int)) := by
      unfold get?
      rw [if_pos (by omega), Int.toNat_natCast]
      exact hRa.kind b hb
    have hbb : get? kb.kind (b : Int) = some (lastThing B (b : Int)) := by
      unfold get?
      rw [if_pos (by omega), Int.toNat_natCast]
      exact hRb.kind b hb
    have hd : decide ((b : Int) < 101) = true := by simp; omega
    simp only [p_impl_merge_l0]
    rw [if_t hd, ha, Option.bind_some, hr, Option.bind_some, hbb, Option.bind_some, w64_succ (by omega)]
    by_cases h1 : lastThing A (b : Int) = 0
    · left
      rw [if_pos (by simpa using h1)]
      exact ⟨.inl h1, rfl⟩
    · rw [if_neg (by simpa using h1)]
      by_cases h2 : lastThing B (b : Int) = 0
      · left
        rw [if_pos (by simpa using h2)]
        exact ⟨.inr (.inl h2), rfl⟩
      · rw [if_neg (by simpa using h2)]
        by_cases h3 : lastThing B (b : Int) = lastThing A (b : Int)
        · left
          rw [if_pos (by simpa using h3)]
          exact ⟨.inr (.inr h3), rfl⟩
        · right
          rw [if_neg (by simpa using h3)]
          exact ⟨by omega, rfl⟩) (by
    simp only [p_impl_merge_l0]
    rw [if_neg (by decide)])
  have hk := KFit_iff hA hB
  rcases key with ⟨h1, h2⟩ | ⟨h1, i, h2, h3⟩
  · exact .inl ⟨_, h1, hk.2 h2⟩
  · exact .inr ⟨h1, fun h => h3 (hk.1 h i h2)⟩

theorem q_BranchMerge (x y : List TOp) : ∃ r, p_spec_BranchMerge x y = some r ∧ p_impl_BranchMerge x y = some r ∧ (r.a = [] ∨ (Valid okS x ∧ Valid okS y) ∧ r.a.length ≤ 1024 ∧ ∀ o, o ∈ r.a → o ∈ x ∨ o ∈ y) := by
  unfold p_spec_BranchMerge p_impl_BranchMerge p_impl_merge
  obtain ⟨c, hc, hc'⟩ := q_l11Code x y
  obtain ⟨r, hr, hr', hk⟩ := q_readTwo x y
  have e := Code_one hr' hc'
  rw [hc, hr, Option.bind_some, Option.bind_some, e]
  by_cases h0 : c = 0
  · obtain ⟨⟨hA, hB⟩, hag, ka, kb, hka, hkb, hRa, hRb⟩ := hk (by rw [e, h0])
    obtain ⟨v, hv, hv1, hv2⟩ := q_Counts x hA.1 (fun o ho => ⟨(okS_1 (G_ok hA.2.1 ho)).a0, (okS_1 (G_ok hA.2.1 ho)).a1⟩)
    rw [if_pos (by simpa using h0), if_pos (by simpa using h0), hka, Option.bind_some]
    rcases q_specFit hA hB with ⟨n, h1, h2⟩ | ⟨h1, h2⟩
    · rcases q_implFit hA hB ka kb hRa hRb r hkb with ⟨m, h3, h4⟩ | ⟨h3, h4⟩
      · obtain ⟨i, h5⟩ := q_specMerge hA hB v hv1 hv2
        obtain ⟨j, h6⟩ := q_implMerge hA hB hag ka kb hRa hRb r hkb
        rw [h1, h3, Option.bind_some, Option.bind_some]
        simp only
        rw [q_Copy hA, hv, Option.bind_some, Option.bind_some, h5, h6, Option.bind_some, Option.bind_some]
        simp only
        by_cases hlen : 1024 < (cat (FM x y) 16).length
        · rw [if_pos (by simp only [decide_eq_true_eq]; omega), if_pos (by simp only [decide_eq_true_eq]; omega)]
          exact ⟨_, rfl, rfl, .inl rfl⟩
        · rw [if_neg (by simp only [decide_eq_true_eq]; omega), if_neg (by simp only [decide_eq_true_eq]; omega)]
          refine ⟨_, rfl, rfl, .inr ⟨⟨hA, hB⟩, by simp only; omega, fun o ho => ?_⟩⟩
          obtain ⟨m, _, hm⟩ := cat_mem ho
          exact (FM_mem hm).2
      · exact absurd h2 h4
    · rcases q_implFit hA hB ka kb hRa hRb r hkb with ⟨m, h3, h4⟩ | ⟨h3, h4⟩
      · exact absurd h4 h2
      · rw [h1, h3]
        exact ⟨_, rfl, rfl, .inl rfl⟩
  · rw [if_neg (by simpa using h0), if_neg (by simpa using h0)]
    exact ⟨_, rfl, rfl, .inl rfl⟩
theorem cn16 : ∀ l : List TOp, (∀ o, o ∈ l → o.deps.counts.length = 16) → cnL l = 16 * l.length
  | [], _ => rfl
  | o :: l, h => by
    have h3 := cn16 l fun q hq => h q (List.mem_cons_of_mem _ hq)
    have h4 := h o (List.mem_cons_self ..)
    simp only [cnL, List.map_cons, List.sum_cons, List.length_cons] at *
    omega

theorem plain_BranchMerge (x y : List TOp) (hx : x.length * 128 ≤ reachBytes ∧ ∀ a, a ∈ x → okTOp a) (hy : y.length * 128 ≤ reachBytes ∧ ∀ a, a ∈ y → okTOp a) : p_laws_FnExactBranchMerge x y = some true := by
  have h1 := hx.1
  have h2 := hy.1
  rw [reach_eq] at h1 h2
  unfold p_laws_FnExactBranchMerge
  rcases q_szOpS3 x hx.1 hx.2 1048576 (by omega) (by omega) with hm | ⟨m, hm, hm0, hm'⟩
  · rw [hm]; rfl
  · rw [hm, Option.bind_some]
    split
    · rfl
    · rcases q_szOpS3 y hy.1 hy.2 m (by omega) (by omega) with hn | ⟨n, hn, hn0, hn'⟩
      · rw [hn]; rfl
      · rw [hn, Option.bind_some]
        split
        · rfl
        · have hc := cn_le x
          have hc2 := cn_le y
          obtain ⟨r, hr, hr2, hr3⟩ := q_BranchMerge x y
          have hres : r.a.length ≤ 1024 ∧ (∀ a, a ∈ r.a → okTOp a) ∧ cnL r.a ≤ 16384 := by
            rcases hr3 with h | ⟨⟨hA, hB⟩, h3, h4⟩
            · rw [h]; exact ⟨by simp, fun a ha => (by cases ha), by simp [cnL]⟩
            · refine ⟨h3, fun a ha => ?_, ?_⟩
              · rcases h4 a ha with h5 | h5
                · exact hx.2 a h5
                · exact hy.2 a h5
              · rw [cn16 _ fun o ho => ?_]
                · omega
                · rcases h4 o ho with h5 | h5
                  · exact (okS_1 (G_ok hA.2.1 h5)).dl
                  · exact (okS_1 (G_ok hB.2.1 h5)).dl
          obtain ⟨hrl, hrx, hrc⟩ := hres
          obtain ⟨u, hu, hu2⟩ := q_markOpS x 1 (by omega) (by omega)
          obtain ⟨w, hw, hw2⟩ := q_markOpS y u.a (by rw [hu2]; omega) (by rw [hu2]; omega)
          obtain ⟨z, hz, hz2, hz3⟩ := q_markHeld r.a 1 (by omega) (by omega)
          rw [q_toOpS x hx.1 hx.2, Option.bind_some, q_toOpS y hy.1 hy.2, Option.bind_some, hr, Option.bind_some, hr2, Option.bind_some, q_eqOpS r.a (by omega) hrx, Option.bind_some, if_pos rfl, if_pos (by simp), q_eqOpS x (by omega) hx.2, Option.bind_some, if_pos rfl, q_eqOpS y (by omega) hy.2, Option.bind_some, if_pos rfl,
            hu, Option.bind_some, hw, Option.bind_some, if_neg (by simp only [hw2, hu2, decide_eq_true_eq]; omega), hz, Option.bind_some, hz3, Option.bind_some, if_neg (by simp only [hz2, decide_eq_true_eq]; omega), if_pos (by simp)]
end Go.AM
