/- The plain law of VecBytes. No condition. -/
import Derived.Test.YtjnkmdphjopboaaLabGVecBytes
import Derived.Test.YtjnkmdphjopboaaLabL3
set_option linter.unusedVariables false
set_option linter.unusedSimpArgs false
namespace Go.AM

theorem q_szIntS (x : List Int) (n : Int) : ∃ m, p_laws_szIntS x n = some m := by
  unfold p_laws_szIntS
  repeat' split
  all_goals exact ⟨_, rfl⟩
theorem q_szVector (x : TVec) (n : Int) : ∃ m, p_laws_szVector x n = some m := by
  unfold p_laws_szVector
  obtain ⟨m, h⟩ := q_szIntS x.counts n
  rw [h, Option.bind_some]
  repeat' split
  all_goals exact ⟨_, rfl⟩
theorem q_toIntS (x : List Int) (hx : x.length * 8 ≤ reachBytes) : p_laws_toIntS x = some x := by
  rw [reach_eq] at hx
  unfold p_laws_toIntS
  rw [show (8 : Int) = ((8 : Nat) : Int) from rfl, mkL_ok (by omega) (by omega), Option.bind_some]
  have e : p_laws_toIntS_l0 x = copyStep x some := rfl
  rw [e]
  obtain ⟨i, h⟩ := copy_loop (ρ := List Int) (x := x) (v := List.replicate x.length 0) (f := some) (fun _ _ => rfl) (by simp) (by omega)
  rw [h]; rfl
theorem q_toVector (x : TVec) (hx : okTVec x) : p_laws_toVector x = some x := by
  unfold p_laws_toVector
  rw [q_toIntS x.counts hx.1]; rfl
theorem q_eqIntS (x : List Int) (hx : x.length * 8 ≤ reachBytes) : p_laws_eqIntS x x = some true := by
  rw [reach_eq] at hx
  unfold p_laws_eqIntS
  rw [if_pos (by simp)]
  have e : p_laws_eqIntS_l0 x x = eqStep x x fun a b => some (decide (a = b)) := by
    funext s
    unfold p_laws_eqIntS_l0 eqStep
    simp only [Option.bind_some]
  rw [e]
  obtain ⟨i, h⟩ := eq_loop (x := x) (g := fun a b => some (decide (a = b))) (fun a _ => by simp) (by omega)
  rw [h]; rfl
theorem q_eqVector (x : TVec) (hx : okTVec x) : p_laws_eqVector x x = some true := by
  unfold p_laws_eqVector
  rw [q_eqIntS x.counts hx.1]; rfl

theorem q_specVecOK (x : TVec) : ∃ b, p_spec_VecOK x = some b ∧ (b = true → x.counts.length = 16) := by
  unfold p_spec_VecOK
  by_cases hl : decide ((x.counts.length : Int) = 16) = true
  · rw [if_t hl]
    have hl' : x.counts.length = 16 := by have := of_decide_eq_true hl; omega
    obtain ⟨e, h1, h2⟩ := loop_count (step := p_spec_VecOK_l0 x) 16 (fun i s => s = (i : Int)) (fun _ => True) (by
      rintro i _ hi rfl
      obtain ⟨a, ha, ha'⟩ := get_lt (xs := x.counts) (i := i) (by omega)
      have hd : decide ((i : Int) < 16) = true := by simp; omega
      simp only [p_spec_VecOK_l0]
      rw [if_t hd, ha, Option.bind_some, w64_succ (by omega)]
      repeat' split
      · exact .inr (.inr ⟨_, rfl, trivial⟩)
      · exact .inr (.inr ⟨_, rfl, trivial⟩)
      · exact .inl ⟨_, rfl, rfl⟩)
      (by
      rintro _ rfl
      left
      exact ⟨16, rfl, trivial⟩) (s := 0) rfl
    rw [h1, Option.bind_some]
    cases e with
    | out s => exact ⟨_, rfl, fun _ => hl'⟩
    | ret r => exact ⟨_, rfl, fun _ => hl'⟩
  · rw [if_neg hl]
    exact ⟨_, rfl, fun h => by cases h⟩
theorem q_implVecOK (x : TVec) : p_impl_VecOK x = p_spec_VecOK x := by
  unfold p_impl_VecOK p_spec_VecOK
  by_cases hl : decide ((x.counts.length : Int) = 16) = true
  · rw [if_t hl, if_t hl]
    have hl' : (x.counts.length : Int) = 16 := of_decide_eq_true hl
    have : p_impl_VecOK_l0 x = p_spec_VecOK_l0 x := by
      funext s
      unfold p_impl_VecOK_l0 p_spec_VecOK_l0
      rw [hl']
    rw [this]
  · rw [if_neg hl, if_neg hl]

theorem q_specVecOK2 (x : TVec) : ∃ b, p_spec_VecOK x = some b ∧ (b = true → x.counts.length = 16 ∧ ∀ c, c ∈ x.counts → 0 ≤ c ∧ c ≤ 1000000000000) := by
  unfold p_spec_VecOK
  by_cases hl : decide ((x.counts.length : Int) = 16) = true
  · rw [if_t hl]
    have hl' : x.counts.length = 16 := by have := of_decide_eq_true hl; omega
    have hg := all_loop (step := p_spec_VecOK_l0 x) 16 (fun i => ∀ c, x.counts[i]? = some c → 0 ≤ c ∧ c ≤ 1000000000000) (by
      intro i hi
      obtain ⟨a, ha, ha'⟩ := get_lt (xs := x.counts) (i := i) (by omega)
      have hd : decide ((i : Int) < 16) = true := by simp; omega
      simp only [p_spec_VecOK_l0]
      rw [if_t hd, ha, Option.bind_some, w64_succ (by omega)]
      by_cases h1 : a < 0
      · rw [if_pos (decide_eq_true h1)]
        exact .inr ⟨fun h => by have := h a ha'; omega, rfl⟩
      · rw [if_neg (by simpa using h1)]
        by_cases h2 : 1000000000000 < a
        · rw [if_pos (decide_eq_true h2)]
          exact .inr ⟨fun h => by have := h a ha'; omega, rfl⟩
        · rw [if_neg (by simpa using h2)]
          refine .inl ⟨fun c hc => ?_, rfl⟩
          rw [ha'] at hc; cases hc; omega) rfl
    rcases hg with ⟨h1, h2⟩ | ⟨h1, _⟩
    · rw [show ((0 : Int)) = 0 from rfl, h1]
      refine ⟨true, rfl, fun _ => ⟨hl', fun c hc => ?_⟩⟩
      obtain ⟨i, hi⟩ := List.getElem?_of_mem hc
      exact h2 i (by have := (List.getElem?_eq_some_iff.1 hi).1; omega) c hi
    · rw [h1]
      exact ⟨false, rfl, fun h => by cases h⟩
  · rw [if_neg hl]
    exact ⟨_, rfl, fun h => by cases h⟩

theorem q_eqVec (x : TVec) (hx : x.counts.length * 8 ≤ reachBytes) : p_laws_eqVector x x = some true := by
  unfold p_laws_eqVector
  rw [q_eqIntS x.counts hx]; rfl
theorem q_markIntS (x : List Int) (n : Int) (h0 : 0 ≤ n) (hn : n + x.length < 9223372036854775807) : ∃ y, p_laws_markIntS x n = some ⟨n + x.length, y⟩ ∧ y.length = x.length ∧ ∀ j : Nat, j < x.length → y[j]? = some (n + j) := by
  unfold p_laws_markIntS
  obtain ⟨e, h1, y, i, rfl, h2, h3⟩ := loop_count (step := p_laws_markIntS_l0) x.length (fun i s => s.2.1 = n + (i : Int) ∧ s.2.2 = (i : Int) ∧ s.1.length = x.length ∧ ∀ j : Nat, j < i → s.1[j]? = some (n + j))
    (fun e => ∃ y i, e = .out (y, n + x.length, i) ∧ y.length = x.length ∧ ∀ j : Nat, j < x.length → y[j]? = some (n + j)) (by
      rintro i ⟨s0, s1, s2⟩ hi ⟨h1, h2, h3, h4⟩
      simp only at h1 h2 h3 h4
      subst h1 h2
      obtain ⟨a, ha, ha'⟩ := get_lt (xs := s0) (i := i) (by omega)
      have hd : decide ((i : Int) < (s0.length : Int)) = true := by simp; omega
      left
      refine ⟨(s0.set i (n + i), n + ((i + 1 : Nat) : Int), ((i + 1 : Nat) : Int)), ?_, rfl, rfl, by simpa using h3, ?_⟩
      · simp only [p_laws_markIntS_l0]
        rw [if_t hd, ha, Option.bind_some, w64_succ (by omega), w64_id (by omega) (by omega), Int.toNat_natCast, show n + (i : Int) + 1 = n + ((i + 1 : Nat) : Int) from by omega]
      · intro j hj
        simp only [List.getElem?_set]
        by_cases e : i = j
        · subst e
          rw [if_pos rfl, if_pos (by omega)]
        · rw [if_neg e]; exact h4 j (by omega))
    (by
      rintro ⟨s0, s1, s2⟩ ⟨h1, h2, h3, h4⟩
      simp only at h1 h2 h3 h4
      subst h1 h2
      have hd : decide ((x.length : Int) < (s0.length : Int)) = false := by simp; omega
      left
      refine ⟨(s0, n + (x.length : Int), (x.length : Int)), ?_, s0, x.length, rfl, h3, h4⟩
      simp only [p_laws_markIntS_l0]
      rw [if_f hd]) (s := (x, n, 0)) ⟨by simp, rfl, rfl, fun j hj => by omega⟩
  rw [h1]
  exact ⟨y, rfl, h2, h3⟩
theorem q_markV (x : TVec) (n : Int) (h0 : 0 ≤ n) (hn : n + x.counts.length < 9223372036854775807) : ∃ y, p_laws_markVector x n = some ⟨n + x.counts.length, y⟩ := by
  obtain ⟨y, h1, h2, h3⟩ := q_markIntS x.counts n h0 hn
  refine ⟨⟨y⟩, ?_⟩
  unfold p_laws_markVector
  rw [h1]; rfl

theorem q_eqByteS (x : List U8) (hx : x.length ≤ 281474976710656) : p_laws_eqByteS x x = some true := by
  unfold p_laws_eqByteS
  rw [if_pos (by simp)]
  have e : p_laws_eqByteS_l0 x x = eqStep x x fun a b => some (decide (a.v = b.v)) := by
    funext s
    unfold p_laws_eqByteS_l0 eqStep
    simp only [Option.bind_some]
  rw [e]
  obtain ⟨i, h⟩ := eq_loop (x := x) (g := fun a b => some (decide (a.v = b.v))) (fun a _ => by simp) (by omega)
  rw [h]; rfl

theorem q_markByteS (x : List U8) (n : Int) (h0 : 0 ≤ n) (hn : n + x.length < 9223372036854775807) : ∃ y, p_laws_markByteS x n = some ⟨n + x.length, y⟩ ∧ y.length = x.length ∧ ∀ j : Nat, j < x.length → y[j]? = some ⟨IntKind.wrap .u8 (n + j)⟩ := by
  unfold p_laws_markByteS
  obtain ⟨e, h1, y, i, rfl, h2, h3⟩ := loop_count (step := p_laws_markByteS_l0) x.length (fun i s => s.2.1 = n + (i : Int) ∧ s.2.2 = (i : Int) ∧ s.1.length = x.length ∧ ∀ j : Nat, j < i → s.1[j]? = some ⟨IntKind.wrap .u8 (n + j)⟩)
    (fun e => ∃ y i, e = .out (y, n + x.length, i) ∧ y.length = x.length ∧ ∀ j : Nat, j < x.length → y[j]? = some ⟨IntKind.wrap .u8 (n + j)⟩) (by
      rintro i ⟨s0, s1, s2⟩ hi ⟨h1, h2, h3, h4⟩
      simp only at h1 h2 h3 h4
      subst h1 h2
      obtain ⟨a, ha, ha'⟩ := get_lt (xs := s0) (i := i) (by omega)
      have hd : decide ((i : Int) < (s0.length : Int)) = true := by simp; omega
      left
      refine ⟨(s0.set i ⟨IntKind.wrap .u8 (n + i)⟩, n + ((i + 1 : Nat) : Int), ((i + 1 : Nat) : Int)), ?_, rfl, rfl, by simpa using h3, ?_⟩
      · simp only [p_laws_markByteS_l0]
        rw [if_t hd, ha, Option.bind_some, w64_succ (by omega), w64_id (by omega) (by omega), Int.toNat_natCast, show n + (i : Int) + 1 = n + ((i + 1 : Nat) : Int) from by omega]
      · intro j hj
        simp only [List.getElem?_set]
        by_cases e : i = j
        · subst e
          rw [if_pos rfl, if_pos (by omega)]
        · rw [if_neg e]; exact h4 j (by omega))
    (by
      rintro ⟨s0, s1, s2⟩ ⟨h1, h2, h3, h4⟩
      simp only at h1 h2 h3 h4
      subst h1 h2
      have hd : decide ((x.length : Int) < (s0.length : Int)) = false := by simp; omega
      left
      refine ⟨(s0, n + (x.length : Int), (x.length : Int)), ?_, s0, x.length, rfl, h3, h4⟩
      simp only [p_laws_markByteS_l0]
      rw [if_f hd]) (s := (x, n, 0)) ⟨by simp, rfl, rfl, fun j hj => by omega⟩
  rw [h1]
  exact ⟨y, rfl, h2, h3⟩
theorem q_heldByteS (y : List U8) (n : Int) (h0 : 0 ≤ n) (hn : n + y.length < 9223372036854775807) (hy : ∀ j : Nat, j < y.length → y[j]? = some ⟨IntKind.wrap .u8 (n + j)⟩) : p_laws_heldByteS y n = some (n + y.length) := by
  unfold p_laws_heldByteS
  obtain ⟨e, h1, i, rfl⟩ := loop_count (step := p_laws_heldByteS_l0 y) y.length (fun i s => s.1 = n + (i : Int) ∧ s.2 = (i : Int)) (fun e => ∃ i, e = .out (n + y.length, i)) (by
      rintro i ⟨s0, s1⟩ hi ⟨h1, h2⟩
      simp only at h1 h2
      subst h1 h2
      obtain ⟨a, ha, ha'⟩ := get_lt (xs := y) (i := i) hi
      rw [hy i hi] at ha'
      cases ha'
      have hd : decide ((i : Int) < (y.length : Int)) = true := by simp; omega
      left
      refine ⟨(n + ((i + 1 : Nat) : Int), ((i + 1 : Nat) : Int)), ?_, rfl, rfl⟩
      simp only [p_laws_heldByteS_l0]
      rw [if_t hd, ha, Option.bind_some, if_pos (by simp), w64_succ (by omega), w64_id (by omega) (by omega), show n + (i : Int) + 1 = n + ((i + 1 : Nat) : Int) from by omega])
    (by
      rintro ⟨s0, s1⟩ ⟨h1, h2⟩
      simp only at h1 h2
      subst h1 h2
      have hd : decide ((y.length : Int) < (y.length : Int)) = false := by simp
      left
      refine ⟨(n + (y.length : Int), (y.length : Int)), ?_, y.length, rfl⟩
      simp only [p_laws_heldByteS_l0]
      rw [if_f hd]) (s := (n, 0)) ⟨by simp, rfl⟩
  rw [h1]; rfl

/-- A number in groups of seven bits. -/
def encN (v : Nat) : List U8 := if v < 128 then [⟨(v : Int)⟩] else ⟨((128 + v % 128 : Nat) : Int)⟩ :: encN (v / 128)
termination_by v
decreasing_by omega
theorem encN_lt {v : Nat} (h : v < 128) : encN v = [⟨(v : Int)⟩] := by rw [encN, if_pos h]
theorem encN_ge {v : Nat} (h : ¬ v < 128) : encN v = ⟨((128 + v % 128 : Nat) : Int)⟩ :: encN (v / 128) := by rw [encN, if_neg h]
theorem encN_len : ∀ (k v : Nat), v < 128 ^ (k + 1) → (encN v).length ≤ k + 1
  | 0, v, h => by rw [encN_lt (by simpa using h)]; simp
  | k + 1, v, h => by
    by_cases hv : v < 128
    · rw [encN_lt hv]; simp
    · rw [encN_ge hv]
      have := encN_len k (v / 128) (by rw [Nat.pow_succ] at h; omega)
      simp only [List.length_cons]
      omega
theorem encN_len9 {v : Nat} (h : v < 9223372036854775808) : (encN v).length ≤ 9 := encN_len 8 v (by simpa using h)
theorem encN_ok (v : Nat) : ∀ a, a ∈ encN v → 0 ≤ a.v ∧ a.v ≤ 255 := by
  induction v using Nat.strongRecOn with
  | ind v ih =>
    intro a ha
    by_cases hv : v < 128
    · rw [encN_lt hv] at ha
      rw [List.mem_singleton] at ha
      subst ha
      simp only
      omega
    · rw [encN_ge hv] at ha
      rcases List.mem_cons.1 ha with rfl | ha
      · simp only; omega
      · exact ih (v / 128) (by omega) a ha
theorem pN_step {n v : Nat} (hv : v < 9223372036854775808) (h128 : ¬ v < 128) : pN_spec_l01Put (n + 1) (v : Int) = (pN_spec_l01Put n ((v / 128 : Nat) : Int)).bind fun v1 => (app? 1 [⟨((128 + v % 128 : Nat) : Int)⟩] v1).bind fun v2 => some v2 := by
  show pB_spec_l01Put (pN_spec_l01Put n) (v : Int) = _
  unfold pB_spec_l01Put
  have e1 : w64 (Int.tdiv (v : Int) 128) = ((v / 128 : Nat) : Int) := by
    rw [Int.tdiv_eq_ediv_of_nonneg (by omega), w64_id (by omega) (by omega)]; omega
  have e2 : IntKind.wrap .u8 (w64 (128 + Int.tmod (v : Int) 128)) = ((128 + v % 128 : Nat) : Int) := by
    rw [Int.tmod_eq_emod_of_nonneg (by omega), w64_id (by omega) (by omega), wrap_u8_id (by omega) (by omega)]; omega
  rw [if_f (by simp; omega), e1, e2]
theorem pN_val : ∀ (n v : Nat), v < 9223372036854775808 → pN_spec_l01Put n (v : Int) = none ∨ pN_spec_l01Put n (v : Int) = some (encN v)
  | 0, v, _ => .inl rfl
  | n + 1, v, hv => by
    by_cases h128 : v < 128
    · right
      show pB_spec_l01Put (pN_spec_l01Put n) (v : Int) = _
      unfold pB_spec_l01Put
      rw [if_t (by simp; omega), encN_lt h128, wrap_u8_id (by omega) (by omega)]
    · rw [pN_step hv h128]
      rcases pN_val n (v / 128) (by omega) with h | h
      · left; rw [h]; rfl
      · right
        have := encN_len9 (v := v / 128) (by omega)
        rw [h, Option.bind_some, app_list (by simp only [List.length_cons, List.length_nil]; omega), encN_ge h128]; rfl
theorem pN_has : ∀ (n v : Nat), v < 9223372036854775808 → v < 128 ^ (n + 1) → pN_spec_l01Put (n + 1) (v : Int) = some (encN v)
  | 0, v, hv, h => by
    have h128 : v < 128 := by simpa using h
    show pB_spec_l01Put (pN_spec_l01Put 0) (v : Int) = _
    unfold pB_spec_l01Put
    rw [if_t (by simp; omega), encN_lt h128, wrap_u8_id (by omega) (by omega)]
  | n + 1, v, hv, h => by
    by_cases h128 : v < 128
    · show pB_spec_l01Put (pN_spec_l01Put (n + 1)) (v : Int) = _
      unfold pB_spec_l01Put
      rw [if_t (by simp; omega), encN_lt h128, wrap_u8_id (by omega) (by omega)]
    · rw [pN_step hv h128, pN_has n (v / 128) (by omega) (by rw [Nat.pow_succ] at h; omega), Option.bind_some]
      have := encN_len9 (v := v / 128) (by omega)
      rw [app_list (by simp only [List.length_cons, List.length_nil]; omega), encN_ge h128]; rfl
theorem q_l01Put {v : Nat} (hv : v < 9223372036854775808) : p_spec_l01Put (v : Int) = some (encN v) := by
  unfold p_spec_l01Put
  refine fixP_eq (n := 9) ?_ (pN_has 8 v hv (by simpa using hv))
  intro n m b c h1 h2
  rcases pN_val n v hv with h | h
  · rw [h] at h1; cases h1
  · rcases pN_val m v hv with h' | h'
    · rw [h'] at h2; cases h2
    · rw [h] at h1; rw [h'] at h2
      cases h1; cases h2; rfl

theorem q_appendLoop : ∀ (v : Nat) (b : List U8), v < 9223372036854775808 → b.length + (encN v).length ≤ 1099511627776 → ∃ b' v', loopP p_impl_appendInt_l0 (b, (v : Int)) = some (.out (b', v')) ∧ app? 1 b' [⟨IntKind.wrap .u8 v'⟩] = some (b ++ encN v) := by
  intro v
  induction v using Nat.strongRecOn with
  | ind v ih =>
    intro b hv hb
    by_cases h128 : v < 128
    · rw [encN_lt h128] at hb ⊢
      simp only [List.length_cons, List.length_nil] at hb
      refine ⟨b, (v : Int), loopP_out ?_, ?_⟩
      · simp only [p_impl_appendInt_l0]
        rw [if_f (by simp; omega)]
      · rw [wrap_u8_id (by omega) (by omega), app_one (by omega)]
    · rw [encN_ge h128] at hb ⊢
      simp only [List.length_cons] at hb
      have e1 : (orI .u8 (IntKind.wrap .u8 (andI .i64 (v : Int) 127)) 128) = ((128 + v % 128 : Nat) : Int) := by
        rw [and127_i64 (by omega) (by omega), wrap_u8_id (by omega) (by omega), or128_u8 (by omega) (by omega)]; omega
      have e2 : shr? .i64 (v : Int) 7 = some ((v / 128 : Nat) : Int) := by
        rw [shr7 (by omega)]; rfl
      have hst : p_impl_appendInt_l0 (b, (v : Int)) = some (.go (b ++ [⟨((128 + v % 128 : Nat) : Int)⟩], ((v / 128 : Nat) : Int))) := by
        simp only [p_impl_appendInt_l0]
        rw [if_t (by simp; omega), e1, app_one (by omega), Option.bind_some, e2, Option.bind_some]
      rw [loopP_go hst]
      obtain ⟨b', v', h1, h2⟩ := ih (v / 128) (by omega) (b ++ [⟨((128 + v % 128 : Nat) : Int)⟩]) (by omega) (by simp only [List.length_append, List.length_cons, List.length_nil]; omega)
      refine ⟨b', v', h1, ?_⟩
      rw [h2, List.append_assoc]; rfl
theorem q_appendInt {v : Nat} {b : List U8} (hv : v < 9223372036854775808) (hb : b.length + 9 ≤ 1099511627776) : p_impl_appendInt b (v : Int) = some (b ++ encN v) := by
  have := encN_len9 hv
  obtain ⟨b', v', h1, h2⟩ := q_appendLoop v b hv (by omega)
  unfold p_impl_appendInt
  rw [h1, Option.bind_some]
  simp only
  rw [h2]; rfl

/-- Without the zeros at the end. -/
def trim (x : List Int) : Nat → Nat
  | 0 => 0
  | n + 1 => if x.getD n 0 = 0 then trim x n else n + 1
theorem trim_le (x : List Int) : ∀ n, trim x n ≤ n
  | 0 => Nat.le_refl _
  | n + 1 => by
    unfold trim
    split
    · have := trim_le x n; omega
    · exact Nat.le_refl _
theorem getD_get {x : List Int} {n : Nat} {a : Int} (h : x[n]? = some a) : x.getD n 0 = a := by rw [List.getD_eq_getElem?_getD, h]; rfl
theorem q_trimSpec (x : TVec) (hx : x.counts.length = 16) : ∀ n : Nat, n ≤ 16 → loopP (p_spec_l02Bytes_l0 x) (n : Int) = some (.out (trim x.counts n : Int))
  | 0, _ => loopP_out rfl
  | n + 1, hn => by
    obtain ⟨a, ha, ha'⟩ := get_lt (xs := x.counts) (i := n) (by omega)
    have hw : w64 (((n + 1 : Nat) : Int) - 1) = (n : Int) := by rw [w64_id (by omega) (by omega)]; omega
    have hst : ∀ r, (if decide (a = 0) = true then some (Lp.go (n : Int)) else some (Lp.out ((n + 1 : Nat) : Int))) = r → p_spec_l02Bytes_l0 x ((n + 1 : Nat) : Int) = r := by
      rintro _ rfl
      simp only [p_spec_l02Bytes_l0]
      rw [if_t (decide_eq_true (by omega)), hw, ha, Option.bind_some]
    unfold trim
    rw [getD_get ha']
    by_cases h0 : a = 0
    · rw [if_pos h0, loopP_go (hst _ (if_pos (decide_eq_true h0)))]
      exact q_trimSpec x hx n (by omega)
    · rw [if_neg h0, loopP_out (hst _ (if_neg (by simpa using h0)))]
theorem q_trimImpl (x : TVec) (hx : x.counts.length = 16) : ∀ n : Nat, n ≤ 16 → loopP (p_impl_VecBytes_l0 x) (n : Int) = some (.out (trim x.counts n : Int))
  | 0, _ => loopP_out rfl
  | n + 1, hn => by
    obtain ⟨a, ha, ha'⟩ := get_lt (xs := x.counts) (i := n) (by omega)
    have hw : w64 (((n + 1 : Nat) : Int) - 1) = (n : Int) := by rw [w64_id (by omega) (by omega)]; omega
    have hst : ∀ r, (if decide (a = 0) = true then some (Lp.go (n : Int)) else some (Lp.out ((n + 1 : Nat) : Int))) = r → p_impl_VecBytes_l0 x ((n + 1 : Nat) : Int) = r := by
      rintro _ rfl
      simp only [p_impl_VecBytes_l0]
      rw [if_t (decide_eq_true (by omega)), hw, ha, Option.bind_some]
    unfold trim
    rw [getD_get ha']
    by_cases h0 : a = 0
    · rw [if_pos h0, loopP_go (hst _ (if_pos (decide_eq_true h0)))]
      exact q_trimImpl x hx n (by omega)
    · rw [if_neg h0, loopP_out (hst _ (if_neg (by simpa using h0)))]
/-- The numbers, one behind the other. -/
def encs (l : List Int) : List U8 := l.flatMap fun c => encN c.toNat
theorem encs_snoc (l : List Int) (c : Int) : encs (l ++ [c]) = encs l ++ encN c.toNat := by simp [encs]
theorem encs_len : ∀ (l : List Int), (∀ c, c ∈ l → 0 ≤ c ∧ c ≤ 1000000000000) → (encs l).length ≤ 9 * l.length
  | [], _ => by simp [encs]
  | c :: l, h => by
    have h1 := encs_len l fun c hc => h c (by simp [hc])
    have h2 := encN_len9 (v := c.toNat) (by have := h c (by simp); omega)
    have : encs (c :: l) = encN c.toNat ++ encs l := rfl
    rw [this, List.length_append, List.length_cons]
    omega
theorem q_bytes (x : TVec) (hx : x.counts.length = 16) (hc : ∀ c, c ∈ x.counts → 0 ≤ c ∧ c ≤ 1000000000000) : ∃ r, p_spec_l02Bytes x = some r ∧ (p_impl_VecOK x = some true → p_impl_VecBytes x = some ⟨r, 0⟩) ∧ r.length ≤ 200 := by
  have htl := trim_le x.counts 16
  generalize hn : trim x.counts 16 = n at htl
  have hg : ∀ i, i < n → ∃ c : Nat, get? x.counts (i : Int) = some (c : Int) ∧ x.counts[i]? = some (c : Int) ∧ c ≤ 1000000000000 := by
    intro i hi
    obtain ⟨a, ha, ha'⟩ := get_lt (xs := x.counts) (i := i) (by omega)
    have := hc a (List.mem_of_getElem? ha')
    refine ⟨a.toNat, ?_, ?_, by omega⟩
    · rw [ha]; congr 1; omega
    · rw [ha']; congr 1; omega
  have hlen : ∀ i, (encs (x.counts.take i)).length ≤ 9 * i := by
    intro i
    have := encs_len (x.counts.take i) fun c h => hc c (List.mem_of_mem_take h)
    rw [List.length_take] at this
    omega
  obtain ⟨e1, a1, i1, rfl⟩ := loop_count (step := p_spec_l02Bytes_l1 x (n : Int)) n (fun i s => s.2 = (i : Int) ∧ s.1 = encs (x.counts.take i)) (fun e => ∃ i, e = .out (encs (x.counts.take n), i)) (by
    rintro i ⟨s0, s1⟩ hi ⟨h1, h2⟩
    simp only at h1 h2
    subst h1 h2
    obtain ⟨c, g1, g2, g3⟩ := hg i hi
    have := encN_len9 (v := c) (by omega)
    have hl := hlen i
    simp only [p_spec_l02Bytes_l1]
    rw [if_t (by simp; omega), g1, Option.bind_some, q_l01Put (by omega), Option.bind_some, app_list (by omega), Option.bind_some, w64_succ (by omega)]
    refine .inl ⟨_, rfl, rfl, ?_⟩
    simp only
    rw [take_next g2, encs_snoc, Int.toNat_natCast])
    (by
    rintro ⟨s0, s1⟩ ⟨h1, h2⟩
    simp only at h1 h2
    subst h1 h2
    simp only [p_spec_l02Bytes_l1]
    rw [if_f (by simp)]
    exact .inl ⟨_, rfl, _, rfl⟩) (s := ([], 0)) ⟨rfl, rfl⟩
  refine ⟨encs (x.counts.take n), ?_, ?_, by have := hlen n; omega⟩
  · unfold p_spec_l02Bytes
    have := q_trimSpec x hx 16 (Nat.le_refl _)
    rw [hn] at this
    rw [show (16 : Int) = ((16 : Nat) : Int) from rfl, this, Option.bind_some]
    simp only
    rw [a1]; rfl
  · intro hok
    unfold p_impl_VecBytes
    rw [hok, Option.bind_some, if_pos rfl]
    have := q_trimImpl x hx 16 (Nat.le_refl _)
    rw [hn] at this
    rw [show (16 : Int) = ((16 : Nat) : Int) from rfl, this, Option.bind_some]
    simp only
    have hcut : cut? x.counts 0 (n : Int) = some (x.counts.take n) := by
      unfold cut?
      rw [if_pos ⟨by omega, by omega, by omega⟩]
      simp
    rw [hcut, Option.bind_some]
    have htake : (x.counts.take n).length = n := by rw [List.length_take]; omega
    obtain ⟨e2, a2, i2, rfl⟩ := loop_count (step := p_impl_VecBytes_l1 (x.counts.take n)) n (fun i s => s.2 = (i : Int) ∧ s.1 = encs (x.counts.take i)) (fun e => ∃ i, e = .out (encs (x.counts.take n), i)) (by
      rintro i ⟨s0, s1⟩ hi ⟨h1, h2⟩
      simp only at h1 h2
      subst h1 h2
      obtain ⟨c, g1, g2, g3⟩ := hg i hi
      have g4 : get? (x.counts.take n) (i : Int) = some (c : Int) := by
        rw [get_nat, List.getElem?_take, if_pos hi, g2]
      have hl := hlen i
      simp only [p_impl_VecBytes_l1]
      rw [if_t (by rw [htake]; simp; omega), g4, Option.bind_some, q_appendInt (by omega) (by omega), Option.bind_some, w64_succ (by omega)]
      refine .inl ⟨_, rfl, rfl, ?_⟩
      simp only
      rw [take_next g2, encs_snoc, Int.toNat_natCast])
      (by
      rintro ⟨s0, s1⟩ ⟨h1, h2⟩
      simp only at h1 h2
      subst h1 h2
      simp only [p_impl_VecBytes_l1]
      rw [if_f (by rw [htake]; simp)]
      exact .inl ⟨_, rfl, _, rfl⟩) (s := ([], 0)) ⟨rfl, rfl⟩
    rw [a2]; rfl
theorem q_VecBytes (x : TVec) : ∃ r, p_spec_VecBytes x = some r ∧ p_impl_VecBytes x = some r ∧ r.a.length ≤ 200 := by
  obtain ⟨b, h1, h2⟩ := q_specVecOK2 x
  unfold p_spec_VecBytes
  rw [h1, Option.bind_some]
  cases b with
  | false =>
    refine ⟨_, rfl, ?_, by simp⟩
    unfold p_impl_VecBytes
    rw [q_implVecOK, h1]; rfl
  | true =>
    obtain ⟨hx, hc⟩ := h2 rfl
    obtain ⟨r, h3, h4, h5⟩ := q_bytes x hx hc
    rw [if_pos rfl, h3]
    exact ⟨_, rfl, h4 (by rw [q_implVecOK, h1]), h5⟩
theorem plain_VecBytes (x : TVec) (hx : okTVec x) : p_laws_FnExactVecBytes x = some true := by
  unfold p_laws_FnExactVecBytes
  obtain ⟨m, h1⟩ := q_szVector x 1048576
  obtain ⟨r, h3, h4, hr⟩ := q_VecBytes x
  have hx1 := hx.1
  rw [reach_eq] at hx1
  obtain ⟨x', h5⟩ := q_markV x 1 (by omega) (by omega)
  obtain ⟨g, h7, h8, h9⟩ := q_markByteS r.a 1 (by omega) (by omega)
  have h10 := q_heldByteS g 1 (by omega) (by omega) (by rw [h8]; exact h9)
  rw [h8] at h10
  have hn : ¬ (1 + (x.counts.length : Int) < 0) := by omega
  have hn' : ¬ (1 + (r.a.length : Int) < 0) := by omega
  simp only [h1, h3, h4, h5, h7, h10, q_toVector x hx, q_eqVector x hx, q_eqByteS r.a (by omega), Option.bind_some, decide_true, if_true, decide_eq_true_eq, hn, hn', if_false]
  repeat' split
  all_goals rfl
end Go.AM
