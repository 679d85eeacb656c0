/- The plain law of CounterJoin. No condition. -/
import Derived.Test.YtjnkmdphjopboaaLabGCounterJoin
import Derived.Test.YtjnkmdphjopboaaLabL1
set_option linter.unusedVariables false
set_option linter.unusedSimpArgs false
namespace Go.AM

theorem q_szIntS (x : List Int) (n : Int) : ∃ m, p_laws_szIntS x n = some m := by
  unfold p_laws_szIntS
  repeat' split
  all_goals exact ⟨_, rfl⟩
theorem q_szVector (x : TVec) (n : Int) : ∃ m, p_laws_szVector x n = some m := by
  unfold p_laws_szVector
  obtain ⟨m, h⟩ := q_szIntS x.counts n
  rw [h, Option.bind_some]
  repeat' split
  all_goals exact ⟨_, rfl⟩
theorem q_toIntS (x : List Int) (hx : x.length * 8 ≤ reachBytes) : p_laws_toIntS x = some x := by
  rw [reach_eq] at hx
  unfold p_laws_toIntS
  rw [show (8 : Int) = ((8 : Nat) : Int) from rfl, mkL_ok (by omega) (by omega), Option.bind_some]
  have e : p_laws_toIntS_l0 x = copyStep x some := rfl
  rw [e]
  obtain ⟨i, h⟩ := copy_loop (ρ := List Int) (x := x) (v := List.replicate x.length 0) (f := some) (fun _ _ => rfl) (by simp) (by omega)
  rw [h]; rfl
theorem q_toVector (x : TVec) (hx : okTVec x) : p_laws_toVector x = some x := by
  unfold p_laws_toVector
  rw [q_toIntS x.counts hx.1]; rfl
theorem q_eqIntS (x : List Int) (hx : x.length * 8 ≤ reachBytes) : p_laws_eqIntS x x = some true := by
  rw [reach_eq] at hx
  unfold p_laws_eqIntS
  rw [if_pos (by simp)]
  have e : p_laws_eqIntS_l0 x x = eqStep x x fun a b => some (decide (a = b)) := by
    funext s
    unfold p_laws_eqIntS_l0 eqStep
    simp only [Option.bind_some]
  rw [e]
  obtain ⟨i, h⟩ := eq_loop (x := x) (g := fun a b => some (decide (a = b))) (fun a _ => by simp) (by omega)
  rw [h]; rfl
theorem q_eqVector (x : TVec) (hx : okTVec x) : p_laws_eqVector x x = some true := by
  unfold p_laws_eqVector
  rw [q_eqIntS x.counts hx.1]; rfl

theorem q_specVecOK (x : TVec) : ∃ b, p_spec_VecOK x = some b ∧ (b = true → x.counts.length = 16) := by
  unfold p_spec_VecOK
  by_cases hl : decide ((x.counts.length : Int) = 16) = true
  · rw [if_t hl]
    have hl' : x.counts.length = 16 := by have := of_decide_eq_true hl; omega
    obtain ⟨e, h1, h2⟩ := loop_count (step := p_spec_VecOK_l0 x) 16 (fun i s => s = (i : Int)) (fun _ => True) (by
      rintro i _ hi rfl
      obtain ⟨a, ha, ha'⟩ := get_lt (xs := x.counts) (i := i) (by omega)
      have hd : decide ((i : Int) < 16) = true := by simp; omega
      simp only [p_spec_VecOK_l0]
      rw [if_t hd, ha, Option.bind_some, w64_succ (by omega)]
      repeat' split
      · exact .inr (.inr ⟨_, rfl, trivial⟩)
      · exact .inr (.inr ⟨_, rfl, trivial⟩)
      · exact .inl ⟨_, rfl, rfl⟩)
      (by
      rintro _ rfl
      left
      exact ⟨16, rfl, trivial⟩) (s := 0) rfl
    rw [h1, Option.bind_some]
    cases e with
    | out s => exact ⟨_, rfl, fun _ => hl'⟩
    | ret r => exact ⟨_, rfl, fun _ => hl'⟩
  · rw [if_neg hl]
    exact ⟨_, rfl, fun h => by cases h⟩
theorem q_implVecOK (x : TVec) : p_impl_VecOK x = p_spec_VecOK x := by
  unfold p_impl_VecOK p_spec_VecOK
  by_cases hl : decide ((x.counts.length : Int) = 16) = true
  · rw [if_t hl, if_t hl]
    have hl' : (x.counts.length : Int) = 16 := of_decide_eq_true hl
    have : p_impl_VecOK_l0 x = p_spec_VecOK_l0 x := by
      funext s
      unfold p_impl_VecOK_l0 p_spec_VecOK_l0
      rw [hl']
    rw [this]
  · rw [if_neg hl, if_neg hl]

theorem q_eqVec (x : TVec) (hx : x.counts.length * 8 ≤ reachBytes) : p_laws_eqVector x x = some true := by
  unfold p_laws_eqVector
  rw [q_eqIntS x.counts hx]; rfl
theorem q_markIntS (x : List Int) (n : Int) (h0 : 0 ≤ n) (hn : n + x.length < 9223372036854775807) : ∃ y, p_laws_markIntS x n = some ⟨n + x.length, y⟩ ∧ y.length = x.length ∧ ∀ j : Nat, j < x.length → y[j]? = some (n + j) := by
  unfold p_laws_markIntS
  obtain ⟨e, h1, y, i, rfl, h2, h3⟩ := loop_count (step := p_laws_markIntS_l0) x.length (fun i s => s.2.1 = n + (i : Int) ∧ s.2.2 = (i : Int) ∧ s.1.length = x.length ∧ ∀ j : Nat, j < i → s.1[j]? = some (n + j))
    (fun e => ∃ y i, e = .out (y, n + x.length, i) ∧ y.length = x.length ∧ ∀ j : Nat, j < x.length → y[j]? = some (n + j)) (by
      rintro i ⟨s0, s1, s2⟩ hi ⟨h1, h2, h3, h4⟩
      simp only at h1 h2 h3 h4
      subst h1 h2
      obtain ⟨a, ha, ha'⟩ := get_lt (xs := s0) (i := i) (by omega)
      have hd : decide ((i : Int) < (s0.length : Int)) = true := by simp; omega
      left
      refine ⟨(s0.set i (n + i), n + ((i + 1 : Nat) : Int), ((i + 1 : Nat) : Int)), ?_, rfl, rfl, by simpa using h3, ?_⟩
      · simp only [p_laws_markIntS_l0]
        rw [if_t hd, ha, Option.bind_some, w64_succ (by omega), w64_id (by omega) (by omega), Int.toNat_natCast, show n + (i : Int) + 1 = n + ((i + 1 : Nat) : Int) from by omega]
      · intro j hj
        simp only [List.getElem?_set]
        by_cases e : i = j
        · subst e
          rw [if_pos rfl, if_pos (by omega)]
        · rw [if_neg e]; exact h4 j (by omega))
    (by
      rintro ⟨s0, s1, s2⟩ ⟨h1, h2, h3, h4⟩
      simp only at h1 h2 h3 h4
      subst h1 h2
      have hd : decide ((x.length : Int) < (s0.length : Int)) = false := by simp; omega
      left
      refine ⟨(s0, n + (x.length : Int), (x.length : Int)), ?_, s0, x.length, rfl, h3, h4⟩
      simp only [p_laws_markIntS_l0]
      rw [if_f hd]) (s := (x, n, 0)) ⟨by simp, rfl, rfl, fun j hj => by omega⟩
  rw [h1]
  exact ⟨y, rfl, h2, h3⟩
theorem q_heldIntS (y : List Int) (n : Int) (h0 : 0 ≤ n) (hn : n + y.length < 9223372036854775807) (hy : ∀ j : Nat, j < y.length → y[j]? = some (n + j)) : p_laws_heldIntS y n = some (n + y.length) := by
  unfold p_laws_heldIntS
  obtain ⟨e, h1, i, rfl⟩ := loop_count (step := p_laws_heldIntS_l0 y) y.length (fun i s => s.1 = n + (i : Int) ∧ s.2 = (i : Int)) (fun e => ∃ i, e = .out (n + y.length, i)) (by
      rintro i ⟨s0, s1⟩ hi ⟨h1, h2⟩
      simp only at h1 h2
      subst h1 h2
      obtain ⟨a, ha, ha'⟩ := get_lt (xs := y) (i := i) hi
      rw [hy i hi] at ha'
      cases ha'
      have hd : decide ((i : Int) < (y.length : Int)) = true := by simp; omega
      left
      refine ⟨(n + ((i + 1 : Nat) : Int), ((i + 1 : Nat) : Int)), ?_, rfl, rfl⟩
      simp only [p_laws_heldIntS_l0]
      rw [if_t hd, ha, Option.bind_some, if_pos (by simp), w64_succ (by omega), w64_id (by omega) (by omega), show n + (i : Int) + 1 = n + ((i + 1 : Nat) : Int) from by omega])
    (by
      rintro ⟨s0, s1⟩ ⟨h1, h2⟩
      simp only at h1 h2
      subst h1 h2
      have hd : decide ((y.length : Int) < (y.length : Int)) = false := by simp
      left
      refine ⟨(n + (y.length : Int), (y.length : Int)), ?_, y.length, rfl⟩
      simp only [p_laws_heldIntS_l0]
      rw [if_f hd]) (s := (n, 0)) ⟨by simp, rfl⟩
  rw [h1]; rfl
theorem q_mark (x : TVec) (n : Int) (h0 : 0 ≤ n) (hn : n + x.counts.length < 9223372036854775807) : ∃ y, p_laws_markVector x n = some ⟨n + x.counts.length, y⟩ ∧ p_laws_heldVector y n = some (n + x.counts.length) := by
  obtain ⟨y, h1, h2, h3⟩ := q_markIntS x.counts n h0 hn
  refine ⟨⟨y⟩, ?_, ?_⟩
  · unfold p_laws_markVector
    rw [h1]; rfl
  · unfold p_laws_heldVector
    rw [q_heldIntS y n h0 (by rw [h2]; exact hn) (by rw [h2]; exact h3), Option.bind_some, h2, if_neg (by simp; omega)]

def mx (x y : List Int) (j : Nat) : Int := if y.getD j 0 > x.getD j 0 then y.getD j 0 else x.getD j 0
theorem q_specLoop (x y : TVec) (hx : x.counts.length = 16) (hy : y.counts.length = 16) : ∃ m i, loopP (p_spec_l02Join_l0 x y) ([], 0) = some (.out (m, i)) ∧ m.length = 16 ∧ ∀ j, j < 16 → m[j]? = some (mx x.counts y.counts j) := by
  obtain ⟨e, h1, m, i, rfl, h2, h3⟩ := loop_count (step := p_spec_l02Join_l0 x y) 16 (fun i s => s.2 = (i : Int) ∧ s.1.length = i ∧ ∀ j, j < i → s.1[j]? = some (mx x.counts y.counts j))
    (fun e => ∃ m i, e = .out (m, i) ∧ m.length = 16 ∧ ∀ j, j < 16 → m[j]? = some (mx x.counts y.counts j)) (by
      rintro i ⟨s1, s2⟩ hi ⟨h1, h2, h3⟩
      simp only at h1 h2 h3
      subst h1
      obtain ⟨a, ha, ha'⟩ := get_lt (xs := x.counts) (i := i) (by omega)
      obtain ⟨b, hb, hb'⟩ := get_lt (xs := y.counts) (i := i) (by omega)
      have hd : decide ((i : Int) < 16) = true := by simp; omega
      have hm : mx x.counts y.counts i = if b > a then b else a := by
        unfold mx
        simp [List.getD_eq_getElem?_getD, ha', hb']
      left
      refine ⟨(s1 ++ [mx x.counts y.counts i], ((i + 1 : Nat) : Int)), ?_, rfl, by simp [h2], ?_⟩
      · simp only [p_spec_l02Join_l0]
        rw [if_t hd, ha, Option.bind_some, hb, Option.bind_some, w64_succ (by omega), hm]
        unfold app?
        rw [if_pos (by right; simp only [List.length_cons, List.length_nil]; omega)]
        rfl
      · intro j hj
        by_cases e : j < i
        · rw [List.getElem?_append_left (by omega)]; exact h3 j e
        · obtain rfl : j = i := by omega
          rw [List.getElem?_append_right (by omega)]
          simp [h2])
    (by
      rintro ⟨s1, s2⟩ ⟨h1, h2, h3⟩
      simp only at h1 h2 h3
      subst h1
      exact .inl ⟨_, rfl, _, _, rfl, h2, h3⟩) (s := ([], 0)) ⟨rfl, rfl, fun j hj => by omega⟩
  exact ⟨m, i, h1, h2, h3⟩
theorem q_implLoop (x y : TVec) (v : List Int) (hv : v.length = 16) (hx : x.counts.length = 16) (hy : y.counts.length = 16) : ∃ m i, loopP (p_impl_vecJoin_l0 x y) (v, 0) = some (.out (m, i)) ∧ m.length = 16 ∧ ∀ j, j < 16 → m[j]? = some (mx x.counts y.counts j) := by
  obtain ⟨e, h1, m, i, rfl, h2, h3⟩ := loop_count (step := p_impl_vecJoin_l0 x y) 16 (fun i s => s.2 = (i : Int) ∧ s.1.length = 16 ∧ ∀ j, j < i → s.1[j]? = some (mx x.counts y.counts j))
    (fun e => ∃ m i, e = .out (m, i) ∧ m.length = 16 ∧ ∀ j, j < 16 → m[j]? = some (mx x.counts y.counts j)) (by
      rintro i ⟨s1, s2⟩ hi ⟨h1, h2, h3⟩
      simp only at h1 h2 h3
      subst h1
      obtain ⟨a, ha, ha'⟩ := get_lt (xs := x.counts) (i := i) (by omega)
      obtain ⟨b, hb, hb'⟩ := get_lt (xs := y.counts) (i := i) (by omega)
      obtain ⟨c, hc, hc'⟩ := get_lt (xs := s1) (i := i) (by omega)
      have hd : decide ((i : Int) < 16) = true := by simp; omega
      have hm : mx x.counts y.counts i = if b > a then b else a := by
        unfold mx
        simp [List.getD_eq_getElem?_getD, ha', hb']
      left
      refine ⟨(s1.set i (mx x.counts y.counts i), ((i + 1 : Nat) : Int)), ?_, rfl, by simpa using h2, ?_⟩
      · simp only [p_impl_vecJoin_l0]
        rw [if_t hd, ha, Option.bind_some, hb, Option.bind_some, hc, Option.bind_some, w64_succ (by omega), hm, Int.toNat_natCast]
      · intro j hj
        simp only [List.getElem?_set]
        by_cases e : i = j
        · subst e
          rw [if_pos rfl, if_pos (by omega)]
        · rw [if_neg e]; exact h3 j (by omega))
    (by
      rintro ⟨s1, s2⟩ ⟨h1, h2, h3⟩
      simp only at h1 h2 h3
      subst h1
      exact .inl ⟨_, rfl, _, _, rfl, h2, h3⟩) (s := (v, 0)) ⟨rfl, hv, fun j hj => by omega⟩
  exact ⟨m, i, h1, h2, h3⟩
theorem q_vecJoin (x y : TVec) (hx : x.counts.length = 16) (hy : y.counts.length = 16) : ∃ r, p_spec_l02Join x y = some r ∧ p_impl_vecJoin x y = some r ∧ r.counts.length = 16 := by
  obtain ⟨m, i, h5, h6, h7⟩ := q_specLoop x y hx hy
  obtain ⟨m', i', h8, h9, h10⟩ := q_implLoop x y (List.replicate 16 0) (by simp) hx hy
  have hm : m' = m := by
    apply List.ext_getElem?
    intro j
    by_cases hj : j < 16
    · rw [h7 j hj, h10 j hj]
    · rw [List.getElem?_eq_none (by omega), List.getElem?_eq_none (by omega)]
  subst hm
  have hk : mkL 16 8 16 (0 : Int) = some (List.replicate 16 0) := mkL_ok (l := 16) (y := 8) (by omega) (by omega)
  unfold p_spec_l02Join p_impl_vecJoin
  rw [h5, hk]
  simp only [Option.bind_some]
  rw [h8]
  exact ⟨_, rfl, rfl, h6⟩

theorem q_szCounter (x : TCounter) (n : Int) : ∃ m, p_laws_szCounter x n = some m := by
  unfold p_laws_szCounter
  obtain ⟨m, h⟩ := q_szVector x.plus n
  obtain ⟨k, h2⟩ := q_szVector x.minus m
  rw [h, Option.bind_some, h2]
  simp only [Option.bind_some]
  repeat' split
  all_goals exact ⟨_, rfl⟩
theorem q_toCounter (x : TCounter) (hx : okTCounter x) : p_laws_toCounter x = some x := by
  unfold p_laws_toCounter
  rw [q_toVector _ hx.1, q_toVector _ hx.2]; rfl
theorem q_eqCounter (x : TCounter) (h1 : x.plus.counts.length * 8 ≤ reachBytes) (h2 : x.minus.counts.length * 8 ≤ reachBytes) : p_laws_eqCounter x x = some true := by
  unfold p_laws_eqCounter
  rw [q_eqVec _ h1, q_eqVec _ h2]; rfl
theorem q_markCounter (x : TCounter) (n : Int) (h0 : 0 ≤ n) (hn : n + x.plus.counts.length + x.minus.counts.length < 9223372036854775807) : ∃ y, p_laws_markCounter x n = some ⟨n + x.plus.counts.length + x.minus.counts.length, y⟩ ∧ p_laws_heldCounter y n = some (n + x.plus.counts.length + x.minus.counts.length) := by
  obtain ⟨y, h1, h2⟩ := q_mark x.plus n h0 (by omega)
  obtain ⟨z, h3, h4⟩ := q_mark x.minus (n + x.plus.counts.length) (by omega) hn
  refine ⟨⟨y, z⟩, ?_, ?_⟩
  · unfold p_laws_markCounter
    rw [h1, Option.bind_some, h3]; rfl
  · unfold p_laws_heldCounter
    rw [h2, Option.bind_some, if_neg (by simp; omega), h4, Option.bind_some, if_neg (by simp; omega)]

theorem q_CounterOK (x : TCounter) : ∃ b, p_spec_l03CounterOK x = some b ∧ p_impl_counterOK x = some b ∧ (b = true → x.plus.counts.length = 16 ∧ x.minus.counts.length = 16) := by
  unfold p_spec_l03CounterOK p_impl_counterOK
  obtain ⟨b, h1, h2⟩ := q_specVecOK x.plus
  obtain ⟨c, h3, h4⟩ := q_specVecOK x.minus
  rw [q_implVecOK, q_implVecOK, h1, h3]
  simp only [Option.bind_some]
  cases b with
  | false => exact ⟨false, rfl, rfl, fun h => by cases h⟩
  | true => exact ⟨c, rfl, rfl, fun h => ⟨h2 rfl, h4 h⟩⟩
theorem q_CounterJoin (x y : TCounter) : ∃ r, p_spec_CounterJoin x y = some r ∧ p_impl_CounterJoin x y = some r ∧ r.a.plus.counts.length ≤ 16 ∧ r.a.minus.counts.length ≤ 16 := by
  unfold p_spec_CounterJoin p_impl_CounterJoin
  obtain ⟨b, h1, h1', h2⟩ := q_CounterOK x
  obtain ⟨c, h3, h3', h4⟩ := q_CounterOK y
  rw [h1, h1', h3, h3']
  simp only [Option.bind_some]
  cases b with
  | false => exact ⟨_, rfl, rfl, by simp, by simp⟩
  | true =>
    cases c with
    | false => exact ⟨_, rfl, rfl, by simp, by simp⟩
    | true =>
      obtain ⟨a1, a2⟩ := h2 rfl
      obtain ⟨b1, b2⟩ := h4 rfl
      obtain ⟨r, e1, e2, e3⟩ := q_vecJoin x.plus y.plus a1 b1
      obtain ⟨s, e4, e5, e6⟩ := q_vecJoin x.minus y.minus a2 b2
      simp only [e1, e2, e4, e5, Option.bind_some, if_true]
      exact ⟨_, rfl, rfl, by simp only; omega, by simp only; omega⟩
theorem plain_CounterJoin (x y : TCounter) (hx : okTCounter x) (hy : okTCounter y) : p_laws_FnExactCounterJoin x y = some true := by
  unfold p_laws_FnExactCounterJoin
  obtain ⟨m, h1⟩ := q_szCounter x 1048576
  obtain ⟨k, h2⟩ := q_szCounter y m
  obtain ⟨r, h3, h4, hr1, hr2⟩ := q_CounterJoin x y
  have hx1 := hx.1.1
  have hx2 := hx.2.1
  have hy1 := hy.1.1
  have hy2 := hy.2.1
  have q1 := q_eqCounter x hx1 hx2
  have q2 := q_eqCounter y hy1 hy2
  have q3 := q_eqCounter r.a (by rw [reach_eq]; omega) (by rw [reach_eq]; omega)
  rw [reach_eq] at hx1 hy1 hx2 hy2
  obtain ⟨x', h5, _⟩ := q_markCounter x 1 (by omega) (by omega)
  obtain ⟨y', h6, _⟩ := q_markCounter y (1 + x.plus.counts.length + x.minus.counts.length) (by omega) (by omega)
  obtain ⟨g, h7, h8⟩ := q_markCounter r.a 1 (by omega) (by omega)
  have hn : ¬ (1 + (x.plus.counts.length : Int) + x.minus.counts.length + y.plus.counts.length + y.minus.counts.length < 0) := by omega
  have hn' : ¬ (1 + (r.a.plus.counts.length : Int) + r.a.minus.counts.length < 0) := by omega
  simp only [h1, h2, h3, h4, h5, h6, h7, h8, q_toCounter x hx, q_toCounter y hy, q1, q2, q3, Option.bind_some, decide_true, if_true, decide_eq_true_eq, hn, hn', if_false]
  repeat' split
  all_goals rfl
end Go.AM
