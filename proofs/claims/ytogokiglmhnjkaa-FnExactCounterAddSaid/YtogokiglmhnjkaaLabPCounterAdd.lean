/- The plain law of CounterAdd. No condition. -/
import Derived.Test.YtogokiglmhnjkaaLabGCounterAdd
import Derived.Test.YtogokiglmhnjkaaLabL1
set_option linter.unusedVariables false
set_option linter.unusedSimpArgs false
namespace Go.AM

theorem q_szIntS (x : List Int) (n : Int) : ∃ m, p_laws_szIntS x n = some m := by
  unfold p_laws_szIntS
  repeat' split
  all_goals exact ⟨_, rfl⟩
theorem q_szVector (x : TVec) (n : Int) : ∃ m, p_laws_szVector x n = some m := by
  unfold p_laws_szVector
  obtain ⟨m, h⟩ := q_szIntS x.counts n
  rw [h, Option.bind_some]
  repeat' split
  all_goals exact ⟨_, rfl⟩
theorem q_toIntS (x : List Int) (hx : x.length * 8 ≤ reachBytes) : p_laws_toIntS x = some x := by
  rw [reach_eq] at hx
  unfold p_laws_toIntS
  rw [show (8 : Int) = ((8 : Nat) : Int) from rfl, mkL_ok (by omega) (by omega), Option.bind_some]
  have e : p_laws_toIntS_l0 x = copyStep x some := rfl
  rw [e]
  obtain ⟨i, h⟩ := copy_loop (ρ := List Int) (x := x) (v := List.replicate x.length 0) (f := some) (fun _ _ => rfl) (by simp) (by omega)
  rw [h]; rfl
theorem q_toVector (x : TVec) (hx : okTVec x) : p_laws_toVector x = some x := by
  unfold p_laws_toVector
  rw [q_toIntS x.counts hx.1]; rfl
theorem q_eqIntS (x : List Int) (hx : x.length * 8 ≤ reachBytes) : p_laws_eqIntS x x = some true := by
  rw [reach_eq] at hx
  unfold p_laws_eqIntS
  rw [if_pos (by simp)]
  have e : p_laws_eqIntS_l0 x x = eqStep x x fun a b => some (decide (a = b)) := by
    funext s
    unfold p_laws_eqIntS_l0 eqStep
    simp only [Option.bind_some]
  rw [e]
  obtain ⟨i, h⟩ := eq_loop (x := x) (g := fun a b => some (decide (a = b))) (fun a _ => by simp) (by omega)
  rw [h]; rfl
theorem q_eqVector (x : TVec) (hx : okTVec x) : p_laws_eqVector x x = some true := by
  unfold p_laws_eqVector
  rw [q_eqIntS x.counts hx.1]; rfl

theorem q_specVecOK (x : TVec) : ∃ b, p_spec_VecOK x = some b ∧ (b = true → x.counts.length = 16) := by
  unfold p_spec_VecOK
  by_cases hl : decide ((x.counts.length : Int) = 16) = true
  · rw [if_t hl]
    have hl' : x.counts.length = 16 := by have := of_decide_eq_true hl; omega
    obtain ⟨e, h1, h2⟩ := loop_count (step := p_spec_VecOK_l0 x) 16 (fun i s => s = (i : Int)) (fun _ => True) (by
      rintro i _ hi rfl
      obtain ⟨a, ha, ha'⟩ := get_lt (xs := x.counts) (i := i) (by omega)
      have hd : decide ((i : Int) < 16) = true := by simp; omega
      simp only [p_spec_VecOK_l0]
      rw [if_t hd, ha, Option.bind_some, w64_succ (by omega)]
      repeat' split
      · exact .inr (.inr ⟨_, rfl, trivial⟩)
      · exact .inr (.inr ⟨_, rfl, trivial⟩)
      · exact .inl ⟨_, rfl, rfl⟩)
      (by
      rintro _ rfl
      left
      exact ⟨16, rfl, trivial⟩) (s := 0) rfl
    rw [h1, Option.bind_some]
    cases e with
    | out s => exact ⟨_, rfl, fun _ => hl'⟩
    | ret r => exact ⟨_, rfl, fun _ => hl'⟩
  · rw [if_neg hl]
    exact ⟨_, rfl, fun h => by cases h⟩
theorem q_implVecOK (x : TVec) : p_impl_VecOK x = p_spec_VecOK x := by
  unfold p_impl_VecOK p_spec_VecOK
  by_cases hl : decide ((x.counts.length : Int) = 16) = true
  · rw [if_t hl, if_t hl]
    have hl' : (x.counts.length : Int) = 16 := of_decide_eq_true hl
    have : p_impl_VecOK_l0 x = p_spec_VecOK_l0 x := by
      funext s
      unfold p_impl_VecOK_l0 p_spec_VecOK_l0
      rw [hl']
    rw [this]
    try rfl
  · rw [if_neg hl, if_neg hl]

theorem q_eqVec (x : TVec) (hx : x.counts.length * 8 ≤ reachBytes) : p_laws_eqVector x x = some true := by
  unfold p_laws_eqVector
  rw [q_eqIntS x.counts hx]; rfl
theorem q_markIntS (x : List Int) (n : Int) (h0 : 0 ≤ n) (hn : n + x.length < 9223372036854775807) : ∃ y, p_laws_markIntS x n = some ⟨n + x.length, y⟩ ∧ y.length = x.length ∧ ∀ j : Nat, j < x.length → y[j]? = some (n + j) := by
  unfold p_laws_markIntS
  obtain ⟨e, h1, y, i, rfl, h2, h3⟩ := loop_count (step := p_laws_markIntS_l0) x.length (fun i s => s.2.1 = n + (i : Int) ∧ s.2.2 = (i : Int) ∧ s.1.length = x.length ∧ ∀ j : Nat, j < i → s.1[j]? = some (n + j))
    (fun e => ∃ y i, e = .out (y, n + x.length, i) ∧ y.length = x.length ∧ ∀ j : Nat, j < x.length → y[j]? = some (n + j)) (by
      rintro i ⟨s0, s1, s2⟩ hi ⟨h1, h2, h3, h4⟩
      simp only at h1 h2 h3 h4
      subst h1 h2
      obtain ⟨a, ha, ha'⟩ := get_lt (xs := s0) (i := i) (by omega)
      have hd : decide ((i : Int) < (s0.length : Int)) = true := by simp; omega
      left
      refine ⟨(s0.set i (n + i), n + ((i + 1 : Nat) : Int), ((i + 1 : Nat) : Int)), ?_, rfl, rfl, by simpa using h3, ?_⟩
      · simp only [p_laws_markIntS_l0]
        rw [if_t hd, ha, Option.bind_some, w64_succ (by omega), w64_id (by omega) (by omega), Int.toNat_natCast, show n + (i : Int) + 1 = n + ((i + 1 : Nat) : Int) from by omega]
      · intro j hj
        simp only [List.getElem?_set]
        by_cases e : i = j
        · subst e
          rw [if_pos rfl, if_pos (by omega)]
        · rw [if_neg e]; exact h4 j (by omega))
    (by
      rintro ⟨s0, s1, s2⟩ ⟨h1, h2, h3, h4⟩
      simp only at h1 h2 h3 h4
      subst h1 h2
      have hd : decide ((x.length : Int) < (s0.length : Int)) = false := by simp; omega
      left
      refine ⟨(s0, n + (x.length : Int), (x.length : Int)), ?_, s0, x.length, rfl, h3, h4⟩
      simp only [p_laws_markIntS_l0]
      rw [if_f hd]) (s := (x, n, 0)) ⟨by simp, rfl, rfl, fun j hj => by omega⟩
  rw [h1]
  exact ⟨y, rfl, h2, h3⟩
theorem q_heldIntS (y : List Int) (n : Int) (h0 : 0 ≤ n) (hn : n + y.length < 9223372036854775807) (hy : ∀ j : Nat, j < y.length → y[j]? = some (n + j)) : p_laws_heldIntS y n = some (n + y.length) := by
  unfold p_laws_heldIntS
  obtain ⟨e, h1, i, rfl⟩ := loop_count (step := p_laws_heldIntS_l0 y) y.length (fun i s => s.1 = n + (i : Int) ∧ s.2 = (i : Int)) (fun e => ∃ i, e = .out (n + y.length, i)) (by
      rintro i ⟨s0, s1⟩ hi ⟨h1, h2⟩
      simp only at h1 h2
      subst h1 h2
      obtain ⟨a, ha, ha'⟩ := get_lt (xs := y) (i := i) hi
      rw [hy i hi] at ha'
      cases ha'
      have hd : decide ((i : Int) < (y.length : Int)) = true := by simp; omega
      left
      refine ⟨(n + ((i + 1 : Nat) : Int), ((i + 1 : Nat) : Int)), ?_, rfl, rfl⟩
      simp only [p_laws_heldIntS_l0]
      rw [if_t hd, ha, Option.bind_some, if_pos (by simp), w64_succ (by omega), w64_id (by omega) (by omega), show n + (i : Int) + 1 = n + ((i + 1 : Nat) : Int) from by omega])
    (by
      rintro ⟨s0, s1⟩ ⟨h1, h2⟩
      simp only at h1 h2
      subst h1 h2
      have hd : decide ((y.length : Int) < (y.length : Int)) = false := by simp
      left
      refine ⟨(n + (y.length : Int), (y.length : Int)), ?_, y.length, rfl⟩
      simp only [p_laws_heldIntS_l0]
      rw [if_f hd]) (s := (n, 0)) ⟨by simp, rfl⟩
  rw [h1]; rfl
theorem q_mark (x : TVec) (n : Int) (h0 : 0 ≤ n) (hn : n + x.counts.length < 9223372036854775807) : ∃ y, p_laws_markVector x n = some ⟨n + x.counts.length, y⟩ ∧ p_laws_heldVector y n = some (n + x.counts.length) := by
  obtain ⟨y, h1, h2, h3⟩ := q_markIntS x.counts n h0 hn
  refine ⟨⟨y⟩, ?_, ?_⟩
  · unfold p_laws_markVector
    rw [h1]; rfl
  · unfold p_laws_heldVector
    rw [q_heldIntS y n h0 (by rw [h2]; exact hn) (by rw [h2]; exact h3), Option.bind_some, h2, if_neg (by simp; omega)]

theorem q_szCounter (x : TCounter) (n : Int) : ∃ m, p_laws_szCounter x n = some m := by
  unfold p_laws_szCounter
  obtain ⟨m, h⟩ := q_szVector x.plus n
  obtain ⟨k, h2⟩ := q_szVector x.minus m
  rw [h, Option.bind_some, h2]
  simp only [Option.bind_some]
  repeat' split
  all_goals exact ⟨_, rfl⟩
theorem q_toCounter (x : TCounter) (hx : okTCounter x) : p_laws_toCounter x = some x := by
  unfold p_laws_toCounter
  rw [q_toVector _ hx.1, q_toVector _ hx.2]; rfl
theorem q_eqCounter (x : TCounter) (h1 : x.plus.counts.length * 8 ≤ reachBytes) (h2 : x.minus.counts.length * 8 ≤ reachBytes) : p_laws_eqCounter x x = some true := by
  unfold p_laws_eqCounter
  rw [q_eqVec _ h1, q_eqVec _ h2]; rfl
theorem q_markCounter (x : TCounter) (n : Int) (h0 : 0 ≤ n) (hn : n + x.plus.counts.length + x.minus.counts.length < 9223372036854775807) : ∃ y, p_laws_markCounter x n = some ⟨n + x.plus.counts.length + x.minus.counts.length, y⟩ ∧ p_laws_heldCounter y n = some (n + x.plus.counts.length + x.minus.counts.length) := by
  obtain ⟨y, h1, h2⟩ := q_mark x.plus n h0 (by omega)
  obtain ⟨z, h3, h4⟩ := q_mark x.minus (n + x.plus.counts.length) (by omega) hn
  refine ⟨⟨y, z⟩, ?_, ?_⟩
  · unfold p_laws_markCounter
    rw [h1, Option.bind_some, h3]; rfl
  · unfold p_laws_heldCounter
    rw [h2, Option.bind_some, if_neg (by simp; omega), h4, Option.bind_some, if_neg (by simp; omega)]

/-- What a counter's vector may hold. -/
def inT (v : Int) : Prop := 0 ≤ v ∧ v ≤ 1000000000000
instance (v : Int) : Decidable (inT v) := by unfold inT; infer_instance

theorem q_specVecOKv (x : TVec) : ∃ b, p_spec_VecOK x = some b ∧ (b = true ↔ x.counts.length = 16 ∧ ∀ v, v ∈ x.counts → inT v) := by
  unfold p_spec_VecOK
  by_cases hl : decide ((x.counts.length : Int) = 16) = true
  · rw [if_t hl]
    have hl' : x.counts.length = 16 := by have := of_decide_eq_true hl; omega
    obtain ⟨e, h1, h2⟩ := loop_count (step := p_spec_VecOK_l0 x) 16 (fun i s => s = (i : Int) ∧ ∀ j v, j < i → x.counts[j]? = some v → inT v)
      (fun e => (∃ s, e = .out s ∧ ∀ v, v ∈ x.counts → inT v) ∨ (e = .ret false ∧ ¬ ∀ v, v ∈ x.counts → inT v)) (by
      rintro i _ hi ⟨rfl, hI⟩
      obtain ⟨a, ha, ha'⟩ := get_lt (xs := x.counts) (i := i) (by omega)
      have hd : decide ((i : Int) < 16) = true := by simp; omega
      simp only [p_spec_VecOK_l0]
      rw [if_t hd, ha, Option.bind_some, w64_succ (by omega)]
      have hbad : ¬ inT a → ¬ ∀ v, v ∈ x.counts → inT v := fun h1 h2 => h1 (h2 a (List.mem_of_getElem? ha'))
      split
      · rename_i h
        refine .inr (.inr ⟨_, rfl, .inr ⟨rfl, hbad ?_⟩⟩)
        have := of_decide_eq_true h
        unfold inT; omega
      · rename_i h
        split
        · rename_i h'
          refine .inr (.inr ⟨_, rfl, .inr ⟨rfl, hbad ?_⟩⟩)
          have := of_decide_eq_true h'
          unfold inT; omega
        · rename_i h'
          refine .inl ⟨_, rfl, rfl, ?_⟩
          intro j v hj hv
          by_cases e : j = i
          · subst e
            rw [ha'] at hv
            cases hv
            simp only [decide_eq_true_eq] at h h'
            unfold inT; omega
          · exact hI j v (by omega) hv)
      (by
      rintro _ ⟨rfl, hI⟩
      left
      refine ⟨16, rfl, .inl ⟨16, rfl, ?_⟩⟩
      intro v hv
      obtain ⟨j, hj⟩ := List.getElem?_of_mem hv
      exact hI j v (by have := (List.getElem?_eq_some_iff.1 hj).1; omega) hj) (s := 0) ⟨rfl, fun j v hj => by omega⟩
    rw [h1, Option.bind_some]
    rcases h2 with ⟨s, rfl, h⟩ | ⟨rfl, h⟩
    · exact ⟨true, rfl, by simp; exact ⟨hl', h⟩⟩
    · exact ⟨false, rfl, by simp; intro _; simpa using h⟩
  · rw [if_neg hl]
    exact ⟨false, rfl, by simp; intro h; exact absurd (by simp; omega) hl⟩

theorem q_vecOKv (x : TVec) (h1 : x.counts.length = 16) (h2 : ∀ v, v ∈ x.counts → inT v) : p_spec_VecOK x = some true := by
  obtain ⟨b, e, h⟩ := q_specVecOKv x
  rw [e, h.2 ⟨h1, h2⟩]

/-- One number of a good vector is another. -/
theorem q_setOK (x : TVec) (h1 : x.counts.length = 16) (h2 : ∀ v, v ∈ x.counts → inT v) (i : Nat) (hi : i < 16) (y : Int) : p_spec_VecOK ⟨x.counts.set i y⟩ = some (decide (inT y)) := by
  obtain ⟨b, e, h⟩ := q_specVecOKv ⟨x.counts.set i y⟩
  rw [e]
  congr 1
  rw [Bool.eq_iff_iff, h, decide_eq_true_eq]
  constructor
  · rintro ⟨_, h3⟩
    exact h3 y (List.mem_iff_getElem?.2 ⟨i, by simp only; rw [List.getElem?_set, if_pos rfl, if_pos (by omega)]⟩)
  · intro hy
    refine ⟨by simpa using h1, ?_⟩
    intro v hv
    rcases List.mem_or_eq_of_mem_set hv with hv | rfl
    · exact h2 v hv
    · exact hy

theorem q_CounterOKv (x : TCounter) : ∃ b, p_spec_l03CounterOK x = some b ∧ p_impl_counterOK x = some b ∧ (b = true → (x.plus.counts.length = 16 ∧ ∀ v, v ∈ x.plus.counts → inT v) ∧ (x.minus.counts.length = 16 ∧ ∀ v, v ∈ x.minus.counts → inT v)) := by
  unfold p_spec_l03CounterOK p_impl_counterOK
  obtain ⟨b, h1, h2⟩ := q_specVecOKv x.plus
  obtain ⟨c, h3, h4⟩ := q_specVecOKv x.minus
  rw [q_implVecOK, q_implVecOK, h1, h3]
  simp only [Option.bind_some]
  cases b with
  | false => exact ⟨false, rfl, rfl, fun h => by cases h⟩
  | true => exact ⟨c, rfl, rfl, fun h => ⟨h2.1 rfl, h4.1 h⟩⟩

theorem q_copy (x : TVec) (h : x.counts.length = 16) : p_spec_l02Copy x = some x ∧ p_impl_vecCopy x = some x := by
  have : app? 8 ([] : List Int) x.counts = some x.counts := by
    unfold app?
    rw [if_pos (by right; simp only [List.length_nil]; omega)]
    rfl
  unfold p_spec_l02Copy p_impl_vecCopy
  rw [this]
  exact ⟨rfl, rfl⟩

theorem q_CounterAdd (x : TCounter) (a n : Int) : ∃ r, p_spec_CounterAdd x a n = some r ∧ p_impl_CounterAdd x a n = some r ∧ r.a.plus.counts.length ≤ 16 ∧ r.a.minus.counts.length ≤ 16 := by
  unfold p_spec_CounterAdd p_impl_CounterAdd
  obtain ⟨b, h1, h1', h2⟩ := q_CounterOKv x
  rw [h1, h1']
  simp only [Option.bind_some]
  cases b with
  | false => exact ⟨_, rfl, rfl, by simp, by simp⟩
  | true =>
    obtain ⟨⟨a1, a2⟩, b1, b2⟩ := h2 rfl
    simp only [if_true, p_impl_isActor]
    by_cases c1 : a < 0
    · have c1' : ¬ 0 ≤ a := by omega
      simp only [c1, c1', decide_true, decide_false, if_true, Bool.false_eq_true, if_false, Option.bind_some]
      exact ⟨_, rfl, rfl, by simp, by simp⟩
    have c1' : 0 ≤ a := by omega
    simp only [c1, c1', decide_true, decide_false, if_true, Bool.false_eq_true, if_false, Option.bind_some]
    by_cases c2 : 16 ≤ a
    · have c2' : ¬ a < 16 := by omega
      simp only [c2, c2', decide_true, decide_false, if_true, Bool.false_eq_true, if_false]
      exact ⟨_, rfl, rfl, by simp, by simp⟩
    have c2' : a < 16 := by omega
    simp only [c2, c2', decide_true, decide_false, if_true, Bool.false_eq_true, if_false]
    by_cases c3 : n < -1000000000000
    · simp only [c3, decide_true, if_true]
      exact ⟨_, rfl, rfl, by simp, by simp⟩
    by_cases c4 : 1000000000000 < n
    · simp only [c3, c4, decide_true, decide_false, if_true, Bool.false_eq_true, if_false]
      exact ⟨_, rfl, rfl, by simp, by simp⟩
    simp only [c3, c4, decide_false, Bool.false_eq_true, if_false, q_copy _ a1, q_copy _ b1, Option.bind_some]
    obtain ⟨i, rfl⟩ : ∃ i : Nat, a = i := ⟨a.toNat, by omega⟩
    have hi : i < 16 := by omega
    obtain ⟨u, hu, hu'⟩ := get_lt (xs := x.plus.counts) (i := i) (by omega)
    obtain ⟨v, hv, hv'⟩ := get_lt (xs := x.minus.counts) (i := i) (by omega)
    have hu2 := a2 u (List.mem_of_getElem? hu')
    have hv2 := b2 v (List.mem_of_getElem? hv')
    unfold inT at hu2 hv2
    have e0 : w64 (0 - n) = -n := by rw [w64_id (by omega) (by omega)]; omega
    have e1 : w64 (u + n) = u + n := w64_id (by omega) (by omega)
    have e2 : w64 (v - n) = v - n := w64_id (by omega) (by omega)
    have e3 : w64 (v + -n) = v - n := by rw [show v + -n = v - n from by omega]; exact e2
    rw [e0, hu, hv]
    simp only [Option.bind_some, e1, e2, e3, Int.toNat_natCast, p_spec_l03CounterOK, q_setOK x.plus a1 a2 i hi, q_setOK x.minus b1 b2 i hi, q_vecOKv x.plus a1 a2, q_vecOKv x.minus b1 b2, if_true]
    by_cases c5 : 0 ≤ n
    · have c5' : ¬ n < 0 := by omega
      simp only [c5, c5', decide_true, decide_false, if_true, Bool.false_eq_true, if_false]
      by_cases c6 : inT (u + n)
      · have c6' : ¬ 1000000000000 < u + n := by unfold inT at c6; omega
        simp only [c6, c6', decide_true, decide_false, if_true, Bool.false_eq_true, if_false, Option.bind_some]
        exact ⟨_, rfl, rfl, by simp; omega, by simp only; omega⟩
      · have c6' : 1000000000000 < u + n := by unfold inT at c6; omega
        simp only [c6, c6', decide_true, decide_false, if_true, Bool.false_eq_true, if_false, Option.bind_some]
        exact ⟨_, rfl, rfl, by simp, by simp⟩
    · have c5' : n < 0 := by omega
      simp only [c5, c5', decide_true, decide_false, if_true, Bool.false_eq_true, if_false]
      by_cases c6 : inT (v - n)
      · have c6' : ¬ 1000000000000 < v - n := by unfold inT at c6; omega
        simp only [c6, c6', decide_true, decide_false, if_true, Bool.false_eq_true, if_false, Option.bind_some]
        exact ⟨_, rfl, rfl, by simp only; omega, by simp; omega⟩
      · have c6' : 1000000000000 < v - n := by unfold inT at c6; omega
        simp only [c6, c6', decide_true, decide_false, if_true, Bool.false_eq_true, if_false, Option.bind_some]
        exact ⟨_, rfl, rfl, by simp, by simp⟩

theorem plain_CounterAdd (x : TCounter) (a n : Int) (hx : okTCounter x) (ha : InI64 a) (hn0 : InI64 n) : p_laws_FnExactCounterAdd x a n = some true := by
  unfold p_laws_FnExactCounterAdd
  obtain ⟨m, h1⟩ := q_szCounter x 1048576
  obtain ⟨r, h3, h4, hr1, hr2⟩ := q_CounterAdd x a n
  have hx1 := hx.1.1
  have hx2 := hx.2.1
  have q1 := q_eqCounter x hx1 hx2
  have q3 := q_eqCounter r.a (by rw [reach_eq]; omega) (by rw [reach_eq]; omega)
  rw [reach_eq] at hx1 hx2
  obtain ⟨x', h5, _⟩ := q_markCounter x 1 (by omega) (by omega)
  obtain ⟨g, h7, h8⟩ := q_markCounter r.a 1 (by omega) (by omega)
  have hn : ¬ (1 + (x.plus.counts.length : Int) + x.minus.counts.length < 0) := by omega
  have hn' : ¬ (1 + (r.a.plus.counts.length : Int) + r.a.minus.counts.length < 0) := by omega
  simp only [h1, h3, h4, h5, h7, h8, q_toCounter x hx, q1, q3, Option.bind_some, decide_true, if_true, decide_eq_true_eq, hn, hn', if_false]
  repeat' split
  all_goals rfl
end Go.AM
