/- The plain law of ReadVec. No condition. -/
import Derived.Test.YtjnkmdphjopboaaLabGReadVec
import Derived.Test.YtjnkmdphjopboaaLabL3
set_option linter.unusedVariables false
set_option linter.unusedSimpArgs false
namespace Go.AM

theorem q_toByteS (x : List U8) (hx : x.length ≤ 281474976710656) : p_laws_toByteS x = some x := by
  unfold p_laws_toByteS
  rw [show (1 : Int) = ((1 : Nat) : Int) from rfl, mkL_ok (by omega) (by omega), Option.bind_some]
  have e : p_laws_toByteS_l0 x = copyStep x some := rfl
  rw [e]
  obtain ⟨i, h⟩ := copy_loop (ρ := List U8) (x := x) (v := List.replicate x.length (U8.mk 0)) (f := some) (fun _ _ => rfl) (by simp) (by omega)
  rw [h]; rfl
theorem q_eqByteS (x : List U8) (hx : x.length ≤ 281474976710656) : p_laws_eqByteS x x = some true := by
  unfold p_laws_eqByteS
  rw [if_pos (by simp)]
  have e : p_laws_eqByteS_l0 x x = eqStep x x fun a b => some (decide (a.v = b.v)) := by
    funext s
    unfold p_laws_eqByteS_l0 eqStep
    simp only [Option.bind_some]
  rw [e]
  obtain ⟨i, h⟩ := eq_loop (x := x) (g := fun a b => some (decide (a.v = b.v))) (fun a _ => by simp) (by omega)
  rw [h]; rfl

theorem q_markByteS (x : List U8) (n : Int) (h0 : 0 ≤ n) (hn : n + x.length < 9223372036854775807) : ∃ y, p_laws_markByteS x n = some ⟨n + x.length, y⟩ ∧ y.length = x.length ∧ ∀ j : Nat, j < x.length → y[j]? = some ⟨IntKind.wrap .u8 (n + j)⟩ := by
  unfold p_laws_markByteS
  obtain ⟨e, h1, y, i, rfl, h2, h3⟩ := loop_count (step := p_laws_markByteS_l0) x.length (fun i s => s.2.1 = n + (i : Int) ∧ s.2.2 = (i : Int) ∧ s.1.length = x.length ∧ ∀ j : Nat, j < i → s.1[j]? = some ⟨IntKind.wrap .u8 (n + j)⟩)
    (fun e => ∃ y i, e = .out (y, n + x.length, i) ∧ y.length = x.length ∧ ∀ j : Nat, j < x.length → y[j]? = some ⟨IntKind.wrap .u8 (n + j)⟩) (by
      rintro i ⟨s0, s1, s2⟩ hi ⟨h1, h2, h3, h4⟩
      simp only at h1 h2 h3 h4
      subst h1 h2
      obtain ⟨a, ha, ha'⟩ := get_lt (xs := s0) (i := i) (by omega)
      have hd : decide ((i : Int) < (s0.length : Int)) = true := by simp; omega
      left
      refine ⟨(s0.set i ⟨IntKind.wrap .u8 (n + i)⟩, n + ((i + 1 : Nat) : Int), ((i + 1 : Nat) : Int)), ?_, rfl, rfl, by simpa using h3, ?_⟩
      · simp only [p_laws_markByteS_l0]
        rw [if_t hd, ha, Option.bind_some, w64_succ (by omega), w64_id (by omega) (by omega), Int.toNat_natCast, show n + (i : Int) + 1 = n + ((i + 1 : Nat) : Int) from by omega]
      · intro j hj
        simp only [List.getElem?_set]
        by_cases e : i = j
        · subst e
          rw [if_pos rfl, if_pos (by omega)]
        · rw [if_neg e]; exact h4 j (by omega))
    (by
      rintro ⟨s0, s1, s2⟩ ⟨h1, h2, h3, h4⟩
      simp only at h1 h2 h3 h4
      subst h1 h2
      have hd : decide ((x.length : Int) < (s0.length : Int)) = false := by simp; omega
      left
      refine ⟨(s0, n + (x.length : Int), (x.length : Int)), ?_, s0, x.length, rfl, h3, h4⟩
      simp only [p_laws_markByteS_l0]
      rw [if_f hd]) (s := (x, n, 0)) ⟨by simp, rfl, rfl, fun j hj => by omega⟩
  rw [h1]
  exact ⟨y, rfl, h2, h3⟩

theorem q_eqIntS (x : List Int) (hx : x.length * 8 ≤ reachBytes) : p_laws_eqIntS x x = some true := by
  rw [reach_eq] at hx
  unfold p_laws_eqIntS
  rw [if_pos (by simp)]
  have e : p_laws_eqIntS_l0 x x = eqStep x x fun a b => some (decide (a = b)) := by
    funext s
    unfold p_laws_eqIntS_l0 eqStep
    simp only [Option.bind_some]
  rw [e]
  obtain ⟨i, h⟩ := eq_loop (x := x) (g := fun a b => some (decide (a = b))) (fun a _ => by simp) (by omega)
  rw [h]; rfl

theorem q_eqVec (x : TVec) (hx : x.counts.length * 8 ≤ reachBytes) : p_laws_eqVector x x = some true := by
  unfold p_laws_eqVector
  rw [q_eqIntS x.counts hx]; rfl
theorem q_markIntS (x : List Int) (n : Int) (h0 : 0 ≤ n) (hn : n + x.length < 9223372036854775807) : ∃ y, p_laws_markIntS x n = some ⟨n + x.length, y⟩ ∧ y.length = x.length ∧ ∀ j : Nat, j < x.length → y[j]? = some (n + j) := by
  unfold p_laws_markIntS
  obtain ⟨e, h1, y, i, rfl, h2, h3⟩ := loop_count (step := p_laws_markIntS_l0) x.length (fun i s => s.2.1 = n + (i : Int) ∧ s.2.2 = (i : Int) ∧ s.1.length = x.length ∧ ∀ j : Nat, j < i → s.1[j]? = some (n + j))
    (fun e => ∃ y i, e = .out (y, n + x.length, i) ∧ y.length = x.length ∧ ∀ j : Nat, j < x.length → y[j]? = some (n + j)) (by
      rintro i ⟨s0, s1, s2⟩ hi ⟨h1, h2, h3, h4⟩
      simp only at h1 h2 h3 h4
      subst h1 h2
      obtain ⟨a, ha, ha'⟩ := get_lt (xs := s0) (i := i) (by omega)
      have hd : decide ((i : Int) < (s0.length : Int)) = true := by simp; omega
      left
      refine ⟨(s0.set i (n + i), n + ((i + 1 : Nat) : Int), ((i + 1 : Nat) : Int)), ?_, rfl, rfl, by simpa using h3, ?_⟩
      · simp only [p_laws_markIntS_l0]
        rw [if_t hd, ha, Option.bind_some, w64_succ (by omega), w64_id (by omega) (by omega), Int.toNat_natCast, show n + (i : Int) + 1 = n + ((i + 1 : Nat) : Int) from by omega]
      · intro j hj
        simp only [List.getElem?_set]
        by_cases e : i = j
        · subst e
          rw [if_pos rfl, if_pos (by omega)]
        · rw [if_neg e]; exact h4 j (by omega))
    (by
      rintro ⟨s0, s1, s2⟩ ⟨h1, h2, h3, h4⟩
      simp only at h1 h2 h3 h4
      subst h1 h2
      have hd : decide ((x.length : Int) < (s0.length : Int)) = false := by simp; omega
      left
      refine ⟨(s0, n + (x.length : Int), (x.length : Int)), ?_, s0, x.length, rfl, h3, h4⟩
      simp only [p_laws_markIntS_l0]
      rw [if_f hd]) (s := (x, n, 0)) ⟨by simp, rfl, rfl, fun j hj => by omega⟩
  rw [h1]
  exact ⟨y, rfl, h2, h3⟩
theorem q_heldIntS (y : List Int) (n : Int) (h0 : 0 ≤ n) (hn : n + y.length < 9223372036854775807) (hy : ∀ j : Nat, j < y.length → y[j]? = some (n + j)) : p_laws_heldIntS y n = some (n + y.length) := by
  unfold p_laws_heldIntS
  obtain ⟨e, h1, i, rfl⟩ := loop_count (step := p_laws_heldIntS_l0 y) y.length (fun i s => s.1 = n + (i : Int) ∧ s.2 = (i : Int)) (fun e => ∃ i, e = .out (n + y.length, i)) (by
      rintro i ⟨s0, s1⟩ hi ⟨h1, h2⟩
      simp only at h1 h2
      subst h1 h2
      obtain ⟨a, ha, ha'⟩ := get_lt (xs := y) (i := i) hi
      rw [hy i hi] at ha'
      cases ha'
      have hd : decide ((i : Int) < (y.length : Int)) = true := by simp; omega
      left
      refine ⟨(n + ((i + 1 : Nat) : Int), ((i + 1 : Nat) : Int)), ?_, rfl, rfl⟩
      simp only [p_laws_heldIntS_l0]
      rw [if_t hd, ha, Option.bind_some, if_pos (by simp), w64_succ (by omega), w64_id (by omega) (by omega), show n + (i : Int) + 1 = n + ((i + 1 : Nat) : Int) from by omega])
    (by
      rintro ⟨s0, s1⟩ ⟨h1, h2⟩
      simp only at h1 h2
      subst h1 h2
      have hd : decide ((y.length : Int) < (y.length : Int)) = false := by simp
      left
      refine ⟨(n + (y.length : Int), (y.length : Int)), ?_, y.length, rfl⟩
      simp only [p_laws_heldIntS_l0]
      rw [if_f hd]) (s := (n, 0)) ⟨by simp, rfl⟩
  rw [h1]; rfl
theorem q_mark (x : TVec) (n : Int) (h0 : 0 ≤ n) (hn : n + x.counts.length < 9223372036854775807) : ∃ y, p_laws_markVector x n = some ⟨n + x.counts.length, y⟩ ∧ p_laws_heldVector y n = some (n + x.counts.length) := by
  obtain ⟨y, h1, h2, h3⟩ := q_markIntS x.counts n h0 hn
  refine ⟨⟨y⟩, ?_, ?_⟩
  · unfold p_laws_markVector
    rw [h1]; rfl
  · unfold p_laws_heldVector
    rw [q_heldIntS y n h0 (by rw [h2]; exact hn) (by rw [h2]; exact h3), Option.bind_some, h2, if_neg (by simp; omega)]

theorem q_specVecOK3 (x : TVec) : ∃ b, p_spec_VecOK x = some b ∧ (b = true ↔ x.counts.length = 16 ∧ ∀ c, c ∈ x.counts → 0 ≤ c ∧ c ≤ 1000000000000) := by
  unfold p_spec_VecOK
  by_cases hl : decide ((x.counts.length : Int) = 16) = true
  · rw [if_t hl]
    have hl' : x.counts.length = 16 := by have := of_decide_eq_true hl; omega
    have hg := all_loop (step := p_spec_VecOK_l0 x) 16 (fun i => ∀ c, x.counts[i]? = some c → 0 ≤ c ∧ c ≤ 1000000000000) (by
      intro i hi
      obtain ⟨a, ha, ha'⟩ := get_lt (xs := x.counts) (i := i) (by omega)
      have hd : decide ((i : Int) < 16) = true := by simp; omega
      simp only [p_spec_VecOK_l0]
      rw [if_t hd, ha, Option.bind_some, w64_succ (by omega)]
      by_cases h1 : a < 0
      · rw [if_pos (decide_eq_true h1)]
        exact .inr ⟨fun h => by have := h a ha'; omega, rfl⟩
      · rw [if_neg (by simpa using h1)]
        by_cases h2 : 1000000000000 < a
        · rw [if_pos (decide_eq_true h2)]
          exact .inr ⟨fun h => by have := h a ha'; omega, rfl⟩
        · rw [if_neg (by simpa using h2)]
          refine .inl ⟨fun c hc => ?_, rfl⟩
          rw [ha'] at hc; cases hc; omega) rfl
    rcases hg with ⟨h1, h2⟩ | ⟨h1, h3⟩
    · rw [show ((0 : Int)) = 0 from rfl, h1]
      refine ⟨true, rfl, fun _ => ⟨hl', fun c hc => ?_⟩, fun _ => rfl⟩
      obtain ⟨i, hi⟩ := List.getElem?_of_mem hc
      exact h2 i (by have := (List.getElem?_eq_some_iff.1 hi).1; omega) c hi
    · rw [h1]
      refine ⟨false, rfl, fun h => (by cases h), fun h => ?_⟩
      obtain ⟨i, hi, hn⟩ := h3
      exact (hn fun c hc => h.2 c (List.mem_of_getElem? hc)).elim
  · rw [if_neg hl]
    refine ⟨_, rfl, fun h => (by cases h), fun h => ?_⟩
    exact (hl (by simp [h.1])).elim

/-- A number in groups of seven bits. -/
def encN (v : Nat) : List U8 := if v < 128 then [⟨(v : Int)⟩] else ⟨((128 + v % 128 : Nat) : Int)⟩ :: encN (v / 128)
termination_by v
decreasing_by omega
theorem encN_lt {v : Nat} (h : v < 128) : encN v = [⟨(v : Int)⟩] := by rw [encN, if_pos h]
theorem encN_ge {v : Nat} (h : ¬ v < 128) : encN v = ⟨((128 + v % 128 : Nat) : Int)⟩ :: encN (v / 128) := by rw [encN, if_neg h]
theorem encN_len : ∀ (k v : Nat), v < 128 ^ (k + 1) → (encN v).length ≤ k + 1
  | 0, v, h => by rw [encN_lt (by simpa using h)]; simp
  | k + 1, v, h => by
    by_cases hv : v < 128
    · rw [encN_lt hv]; simp
    · rw [encN_ge hv]
      have := encN_len k (v / 128) (by rw [Nat.pow_succ] at h; omega)
      simp only [List.length_cons]
      omega
theorem encN_len9 {v : Nat} (h : v < 9223372036854775808) : (encN v).length ≤ 9 := encN_len 8 v (by simpa using h)
theorem encN_ok (v : Nat) : ∀ a, a ∈ encN v → 0 ≤ a.v ∧ a.v ≤ 255 := by
  induction v using Nat.strongRecOn with
  | ind v ih =>
    intro a ha
    by_cases hv : v < 128
    · rw [encN_lt hv] at ha
      rw [List.mem_singleton] at ha
      subst ha
      simp only
      omega
    · rw [encN_ge hv] at ha
      rcases List.mem_cons.1 ha with rfl | ha
      · simp only; omega
      · exact ih (v / 128) (by omega) a ha
theorem pN_step {n v : Nat} (hv : v < 9223372036854775808) (h128 : ¬ v < 128) : pN_spec_l01Put (n + 1) (v : Int) = (pN_spec_l01Put n ((v / 128 : Nat) : Int)).bind fun v1 => (app? 1 [⟨((128 + v % 128 : Nat) : Int)⟩] v1).bind fun v2 => some v2 := by
  show pB_spec_l01Put (pN_spec_l01Put n) (v : Int) = _
  unfold pB_spec_l01Put
  have e1 : w64 (Int.tdiv (v : Int) 128) = ((v / 128 : Nat) : Int) := by
    rw [Int.tdiv_eq_ediv_of_nonneg (by omega), w64_id (by omega) (by omega)]; omega
  have e2 : IntKind.wrap .u8 (w64 (128 + Int.tmod (v : Int) 128)) = ((128 + v % 128 : Nat) : Int) := by
    rw [Int.tmod_eq_emod_of_nonneg (by omega), w64_id (by omega) (by omega), wrap_u8_id (by omega) (by omega)]; omega
  rw [if_f (by simp; omega), e1, e2]
theorem pN_val : ∀ (n v : Nat), v < 9223372036854775808 → pN_spec_l01Put n (v : Int) = none ∨ pN_spec_l01Put n (v : Int) = some (encN v)
  | 0, v, _ => .inl rfl
  | n + 1, v, hv => by
    by_cases h128 : v < 128
    · right
      show pB_spec_l01Put (pN_spec_l01Put n) (v : Int) = _
      unfold pB_spec_l01Put
      rw [if_t (by simp; omega), encN_lt h128, wrap_u8_id (by omega) (by omega)]
    · rw [pN_step hv h128]
      rcases pN_val n (v / 128) (by omega) with h | h
      · left; rw [h]; rfl
      · right
        have := encN_len9 (v := v / 128) (by omega)
        rw [h, Option.bind_some, app_list (by simp only [List.length_cons, List.length_nil]; omega), encN_ge h128]; rfl
theorem pN_has : ∀ (n v : Nat), v < 9223372036854775808 → v < 128 ^ (n + 1) → pN_spec_l01Put (n + 1) (v : Int) = some (encN v)
  | 0, v, hv, h => by
    have h128 : v < 128 := by simpa using h
    show pB_spec_l01Put (pN_spec_l01Put 0) (v : Int) = _
    unfold pB_spec_l01Put
    rw [if_t (by simp; omega), encN_lt h128, wrap_u8_id (by omega) (by omega)]
  | n + 1, v, hv, h => by
    by_cases h128 : v < 128
    · show pB_spec_l01Put (pN_spec_l01Put (n + 1)) (v : Int) = _
      unfold pB_spec_l01Put
      rw [if_t (by simp; omega), encN_lt h128, wrap_u8_id (by omega) (by omega)]
    · rw [pN_step hv h128, pN_has n (v / 128) (by omega) (by rw [Nat.pow_succ] at h; omega), Option.bind_some]
      have := encN_len9 (v := v / 128) (by omega)
      rw [app_list (by simp only [List.length_cons, List.length_nil]; omega), encN_ge h128]; rfl
theorem q_l01Put {v : Nat} (hv : v < 9223372036854775808) : p_spec_l01Put (v : Int) = some (encN v) := by
  unfold p_spec_l01Put
  refine fixP_eq (n := 9) ?_ (pN_has 8 v hv (by simpa using hv))
  intro n m b c h1 h2
  rcases pN_val n v hv with h | h
  · rw [h] at h1; cases h1
  · rcases pN_val m v hv with h' | h'
    · rw [h'] at h2; cases h2
    · rw [h] at h1; rw [h'] at h2
      cases h1; cases h2; rfl

/-- A number of seven bits a byte, at most k bytes more: its value and where it ends. -/
def decN (x : List U8) : Nat → Nat → Option (Nat × Nat)
  | 0, _ => none
  | k + 1, i => match x[i]? with
    | none => none
    | some c => if k = 0 ∧ 63 < c.v then none else if c.v < 128 then (if k < 8 ∧ c.v = 0 then none else some (c.v.toNat, i + 1)) else (decN x k (i + 1)).map fun p => (c.v.toNat % 128 + 128 * p.1, p.2)
theorem decN_next {x : List U8} : ∀ {k i w nx : Nat}, decN x k i = some (w, nx) → i < nx ∧ nx ≤ x.length
  | 0, i, w, nx, h => by simp [decN] at h
  | k + 1, i, w, nx, h => by
    unfold decN at h
    cases hc : x[i]? with
    | none => rw [hc] at h; cases h
    | some c =>
      have hi := (List.getElem?_eq_some_iff.1 hc).1
      rw [hc] at h
      dsimp only at h
      split at h
      · cases h
      · split at h
        · split at h
          · cases h
          · cases h; omega
        · obtain ⟨p, hp, h⟩ := Option.map_eq_some_iff.1 h
          cases h
          have := decN_next (w := p.1) (nx := p.2) hp
          omega
theorem decN_bound {x : List U8} (hx : ∀ a, a ∈ x → 0 ≤ a.v ∧ a.v ≤ 255) : ∀ {k i w nx : Nat}, decN x (k + 1) i = some (w, nx) → w < 64 * 128 ^ k
  | 0, i, w, nx, h => by
    unfold decN at h
    cases hc : x[i]? with
    | none => rw [hc] at h; cases h
    | some c =>
      have hb := hx c (List.mem_of_getElem? hc)
      rw [hc] at h
      dsimp only at h
      split at h
      · cases h
      · split at h
        · split at h
          · cases h
          · cases h; simp; omega
        · simp [decN] at h
  | k + 1, i, w, nx, h => by
    unfold decN at h
    cases hc : x[i]? with
    | none => rw [hc] at h; cases h
    | some c =>
      have hb := hx c (List.mem_of_getElem? hc)
      have hp : 0 < 128 ^ k := Nat.pow_pos (by decide)
      rw [hc] at h
      dsimp only at h
      rw [Nat.pow_succ]
      split at h
      · cases h
      · split at h
        · split at h
          · cases h
          · cases h; omega
        · obtain ⟨p, hp, h⟩ := Option.map_eq_some_iff.1 h
          cases h
          have := decN_bound hx (w := p.1) (nx := p.2) hp
          omega
theorem acc_bound {n k v w : Nat} (hn : n + k = 8) (hv : v < 128 ^ n) (hw : w < 64 * 128 ^ k) : v + 128 ^ n * w < 4611686018427387904 := by
  have e : 128 ^ n * (64 * 128 ^ k) = 4611686018427387904 := by
    rw [Nat.mul_left_comm, ← Nat.pow_add, hn]
  have h1 : 128 ^ n * (w + 1) ≤ 128 ^ n * (64 * 128 ^ k) := Nat.mul_le_mul_left _ (by omega)
  rw [e, Nat.mul_add, Nat.mul_one] at h1
  omega
theorem pow_bound {n k : Nat} (hn : n + k = 8) : 128 ^ n ≤ 72057594037927936 := by
  have : 128 ^ n ≤ 128 ^ 8 := Nat.pow_le_pow_right (by decide) (by omega)
  simpa using this
theorem q_getLoop {x : List U8} (hx : ∀ a, a ∈ x → 0 ≤ a.v ∧ a.v ≤ 255) (hl : x.length ≤ 1048576) (at_ : Nat) (ha : at_ ≤ x.length) : ∀ (k n v : Nat), n + k = 8 → v < 128 ^ n →
    (∀ w nx, decN x (k + 1) (at_ + n) = some (w, nx) → loopP (p_spec_l01Get_l0 x (at_ : Int)) ((v : Int), ((128 ^ n : Nat) : Int), (n : Int)) = some (.ret ⟨((v + 128 ^ n * w : Nat) : Int), (nx : Int), true⟩)) ∧
    (decN x (k + 1) (at_ + n) = none → ∃ e, loopP (p_spec_l01Get_l0 x (at_ : Int)) ((v : Int), ((128 ^ n : Nat) : Int), (n : Int)) = some e ∧ ((∃ a b, e = .ret ⟨a, b, false⟩) ∨ ∃ s, e = .out s)) := by
  intro k
  induction k with
  | zero => 
    intro n v hn hv
    obtain rfl : n = 8 := by omega
    have hw1 : w64 ((at_ : Int) + ((8 : Nat) : Int)) = ((at_ + 8 : Nat) : Int) := by rw [w64_id (by omega) (by omega)]; omega
    unfold decN
    cases hc : x[at_ + 8]? with
    | none =>
      have hlen := List.getElem?_eq_none_iff.1 hc
      refine ⟨fun w nx h => by simp at h, fun _ => ⟨_, loopP_out (s' := ((v : Int), ((128 ^ 8 : Nat) : Int), ((8 : Nat) : Int))) ?_, .inr ⟨_, rfl⟩⟩⟩
      simp only [p_spec_l01Get_l0]
      rw [if_t (by simp), hw1, if_f (by simp; omega)]
    | some c =>
      dsimp only
      have hb := hx c (List.mem_of_getElem? hc)
      have hlen := (List.getElem?_eq_some_iff.1 hc).1
      obtain ⟨c', hg, hg'⟩ := get_lt (xs := x) (i := at_ + 8) hlen
      rw [hc] at hg'; cases hg'
      have hcv : w64 c.v = c.v := w64_id (by omega) (by omega)
      by_cases h63 : 63 < c.v
      · rw [if_pos ⟨rfl, h63⟩]
        refine ⟨fun w nx h => (by cases h), fun _ => ⟨_, loopP_ret (r := ⟨0, 0, false⟩) ?_, .inl ⟨_, _, rfl⟩⟩⟩
        simp only [p_spec_l01Get_l0]
        rw [if_t (by simp), hw1, if_t (by simp; omega), hg, Option.bind_some, hcv, if_t (by simp), if_t (by simp; omega)]
      · rw [if_neg (by omega), if_pos (by omega)]
        have ht : Int.tmod c.v 128 = c.v := Int.tmod_eq_of_lt (by omega) (by omega)
        have hm1 : w64 (c.v * ((128 ^ 8 : Nat) : Int)) = c.v * ((128 ^ 8 : Nat) : Int) := w64_id (by simp; omega) (by simp; omega)
        have hvb : (v : Int) < 72057594037927936 := by have : v < 72057594037927936 := by simpa using hv
                                                       omega
        have hm2 : w64 ((v : Int) + c.v * ((128 ^ 8 : Nat) : Int)) = ((v + 128 ^ 8 * c.v.toNat : Nat) : Int) := by rw [w64_id (by simp; omega) (by simp; omega)]; simp; omega
        have hm3 : w64 (((at_ + 8 : Nat) : Int) + 1) = ((at_ + 8 + 1 : Nat) : Int) := w64_succ (by omega)
        have hst : p_spec_l01Get_l0 x (at_ : Int) ((v : Int), ((128 ^ 8 : Nat) : Int), ((8 : Nat) : Int)) = some (.ret ⟨((v + 128 ^ 8 * c.v.toNat : Nat) : Int), ((at_ + 8 + 1 : Nat) : Int), decide (0 < c.v)⟩) := by
          simp only [p_spec_l01Get_l0]
          rw [if_t (by simp), hw1, if_t (by simp; omega), hg, Option.bind_some, hcv, if_t (by simp), if_f (by simp; omega), if_t (by simp; omega), if_f (by simp), ht, hm1, hm2, hm3]
        by_cases h0 : c.v = 0
        · rw [if_pos ⟨by omega, h0⟩]
          have : decide (0 < c.v) = false := by simp; omega
          rw [this] at hst
          exact ⟨fun w nx h => (by cases h), fun _ => ⟨_, loopP_ret hst, .inl ⟨_, _, rfl⟩⟩⟩
        · rw [if_neg (by omega)]
          have : decide (0 < c.v) = true := by simp; omega
          rw [this] at hst
          refine ⟨fun w nx h => ?_, fun h => (by cases h)⟩
          cases h
          exact loopP_ret hst
  | succ k ih =>
    intro n v hn hv
    have hn8 : n < 8 := by omega
    have hpb : 128 ^ n ≤ 562949953421312 := by
      have : 128 ^ n ≤ 128 ^ 7 := Nat.pow_le_pow_right (by decide) (by omega)
      simpa using this
    have hpp : 0 < 128 ^ n := Nat.pow_pos (by decide)
    have hw1 : w64 ((at_ : Int) + (n : Int)) = ((at_ + n : Nat) : Int) := by rw [w64_id (by omega) (by omega)]; omega
    unfold decN
    cases hc : x[at_ + n]? with
    | none =>
      have hlen := List.getElem?_eq_none_iff.1 hc
      refine ⟨fun w nx h => by simp at h, fun _ => ⟨_, loopP_out (s' := ((v : Int), ((128 ^ n : Nat) : Int), (n : Int))) ?_, .inr ⟨_, rfl⟩⟩⟩
      simp only [p_spec_l01Get_l0]
      rw [if_t (by simp; omega), hw1, if_f (by simp; omega)]
    | some c =>
      dsimp only
      have hb := hx c (List.mem_of_getElem? hc)
      have hlen := (List.getElem?_eq_some_iff.1 hc).1
      obtain ⟨c', hg, hg'⟩ := get_lt (xs := x) (i := at_ + n) hlen
      rw [hc] at hg'; cases hg'
      have hcv : w64 c.v = c.v := w64_id (by omega) (by omega)
      rw [if_neg (by omega)]
      have ht : Int.tmod c.v 128 = ((c.v.toNat % 128 : Nat) : Int) := by rw [Int.tmod_eq_emod_of_nonneg (by omega)]; omega
      have hcm : c.v.toNat % 128 < 128 := Nat.mod_lt _ (by decide)
      have hmul : (c.v.toNat % 128) * 128 ^ n ≤ 127 * 128 ^ n := Nat.mul_le_mul_right _ (by omega)
      have hm1 : w64 (((c.v.toNat % 128 : Nat) : Int) * ((128 ^ n : Nat) : Int)) = (((c.v.toNat % 128) * 128 ^ n : Nat) : Int) := by
        rw [← Int.natCast_mul, w64_id (by omega) (by omega)]
      have hm2 : w64 ((v : Int) + (((c.v.toNat % 128) * 128 ^ n : Nat) : Int)) = ((v + 128 ^ n * (c.v.toNat % 128) : Nat) : Int) := by
        have e := Nat.mul_comm (128 ^ n) (c.v.toNat % 128)
        have hz := Nat.zero_le (c.v.toNat % 128 * 128 ^ n)
        rw [e, ← Int.natCast_add]
        exact w64_id (by omega) (by omega)
      have hm3 : w64 (((at_ + n : Nat) : Int) + 1) = ((at_ + n + 1 : Nat) : Int) := w64_succ (by omega)
      by_cases h128 : c.v < 128
      · rw [if_pos h128]
        have hst : p_spec_l01Get_l0 x (at_ : Int) ((v : Int), ((128 ^ n : Nat) : Int), (n : Int)) = some (.ret ⟨((v + 128 ^ n * (c.v.toNat % 128) : Nat) : Int), ((at_ + n + 1 : Nat) : Int), decide (n = 0 ∨ 0 < c.v)⟩) := by
          simp only [p_spec_l01Get_l0]
          rw [if_t (by simp; omega), hw1, if_t (by simp; omega), hg, Option.bind_some, hcv, if_f (by simp; omega), if_t (by simp; omega), ht, hm1, hm2, hm3]
          by_cases h0 : n = 0
          · rw [if_t (by simp; omega)]; simp [h0]
          · rw [if_f (by simp; omega)]; simp [h0]
        by_cases h0 : k + 1 < 8 ∧ c.v = 0
        · rw [if_pos h0]
          have : decide (n = 0 ∨ 0 < c.v) = false := by simp; omega
          rw [this] at hst
          exact ⟨fun w nx h => (by cases h), fun _ => ⟨_, loopP_ret hst, .inl ⟨_, _, rfl⟩⟩⟩
        · rw [if_neg h0]
          have : decide (n = 0 ∨ 0 < c.v) = true := by simp; omega
          rw [this] at hst
          refine ⟨fun w nx h => ?_, fun h => (by cases h)⟩
          cases h
          rw [show c.v.toNat % 128 = c.v.toNat from by omega] at hst
          exact loopP_ret hst
      · rw [if_neg h128]
        have hu : w64 (((128 ^ n : Nat) : Int) * 128) = ((128 ^ (n + 1) : Nat) : Int) := by
          rw [w64_id (by omega) (by omega), Nat.pow_succ, Int.natCast_mul]; rfl
        have hst : p_spec_l01Get_l0 x (at_ : Int) ((v : Int), ((128 ^ n : Nat) : Int), (n : Int)) = some (.go (((v + 128 ^ n * (c.v.toNat % 128) : Nat) : Int), ((128 ^ (n + 1) : Nat) : Int), ((n + 1 : Nat) : Int))) := by
          simp only [p_spec_l01Get_l0]
          rw [if_t (by simp; omega), hw1, if_t (by simp; omega), hg, Option.bind_some, hcv, if_f (by simp; omega), if_f (by simp; omega), if_t (by simp; omega), ht, hm1, hm2, hu, w64_succ (by omega)]
        have hv' : v + 128 ^ n * (c.v.toNat % 128) < 128 ^ (n + 1) := by
          rw [Nat.pow_succ]
          have : 128 ^ n * (c.v.toNat % 128) ≤ 128 ^ n * 127 := Nat.mul_le_mul_left _ (by omega)
          omega
        obtain ⟨i1, i2⟩ := ih (n + 1) _ (by omega) hv'
        rw [loopP_go hst]
        constructor
        · intro w nx h
          obtain ⟨p, hp, h⟩ := Option.map_eq_some_iff.1 h
          cases h
          rw [i1 p.1 p.2 hp, Nat.pow_succ, Nat.mul_add, Nat.mul_assoc, Nat.add_assoc]
        · intro h
          exact i2 (Option.map_eq_none_iff.1 h)
theorem q_get {x : List U8} (hx : ∀ a, a ∈ x → 0 ≤ a.v ∧ a.v ≤ 255) (hl : x.length ≤ 1048576) (at_ : Nat) (ha : at_ ≤ x.length) :
    (∀ w nx, decN x 9 at_ = some (w, nx) → p_spec_l01Get x (at_ : Int) = some ⟨(w : Int), (nx : Int), true⟩) ∧ (decN x 9 at_ = none → ∃ a b, p_spec_l01Get x (at_ : Int) = some ⟨a, b, false⟩) := by
  obtain ⟨h1, h2⟩ := q_getLoop hx hl at_ ha 8 0 0 rfl (by decide)
  unfold p_spec_l01Get
  constructor
  · intro w nx h
    have := h1 w nx h
    simp only [Nat.pow_zero, Nat.one_mul, Nat.zero_add] at this
    rw [show ((0 : Int), (1 : Int), (0 : Int)) = (((0 : Nat) : Int), ((1 : Nat) : Int), ((0 : Nat) : Int)) from rfl, this]; rfl
  · intro h
    obtain ⟨e, h3, h4⟩ := h2 h
    rw [show ((0 : Int), (1 : Int), (0 : Int)) = (((0 : Nat) : Int), ((128 ^ 0 : Nat) : Int), ((0 : Nat) : Int)) from rfl, h3]
    rcases h4 with ⟨a, b, rfl⟩ | ⟨⟨a, b, c⟩, rfl⟩
    · exact ⟨a, b, rfl⟩
    · exact ⟨0, 0, rfl⟩

theorem q_numLoop {r : TReader} (hx : ∀ a, a ∈ r.b → 0 ≤ a.v ∧ a.v ≤ 255) (hl : r.b.length ≤ 1048576) (hbad : r.bad = false) : ∀ (k n v i : Nat), n + k = 8 → v < 128 ^ n →
    (∀ w nx, decN r.b (k + 1) i = some (w, nx) → loopP (p_impl_reader_num_l0 r) ((i : Int), (v : Int), ((7 * n : Nat) : Int)) = some (.ret ⟨((v + 128 ^ n * w : Nat) : Int), ⟨r.b, (nx : Int), false⟩⟩)) ∧
    (decN r.b (k + 1) i = none → ∃ r', loopP (p_impl_reader_num_l0 r) ((i : Int), (v : Int), ((7 * n : Nat) : Int)) = some (.ret ⟨0, r'⟩) ∧ r'.bad = true ∧ r'.b = r.b) := by
  intro k
  induction k with
  | zero => 
    intro n v i hn hv
    obtain rfl : n = 8 := by omega
    unfold decN
    cases hc : r.b[i]? with
    | none =>
      have hlen := List.getElem?_eq_none_iff.1 hc
      refine ⟨fun w nx h => by simp at h, fun _ => ⟨⟨r.b, i, true⟩, loopP_ret ?_, rfl, rfl⟩⟩
      simp only [p_impl_reader_num_l0]
      rw [if_f hbad, if_t (by simp; omega)]
    | some c =>
      dsimp only
      have hb := hx c (List.mem_of_getElem? hc)
      have hlen := (List.getElem?_eq_some_iff.1 hc).1
      obtain ⟨c', hg, hg'⟩ := get_lt (xs := r.b) (i := i) hlen
      rw [hc] at hg'; cases hg'
      have hi1 : w64 ((i : Int) + 1) = ((i + 1 : Nat) : Int) := w64_succ (by omega)
      by_cases h63 : 63 < c.v
      · rw [if_pos ⟨rfl, h63⟩]
        refine ⟨fun w nx h => (by cases h), fun _ => ⟨⟨r.b, ((i + 1 : Nat) : Int), true⟩, loopP_ret ?_, rfl, rfl⟩⟩
        simp only [p_impl_reader_num_l0]
        rw [if_f hbad, if_f (by simp; omega), if_f (by simp), hg, Option.bind_some, if_t (by simp), if_t (by simp; omega), hi1]
      · rw [if_neg (by omega), if_pos (by omega)]
        have hand : IntKind.wrap .u64 (andI .u8 c.v 127) = ((c.v.toNat : Nat) : Int) := by
          rw [and127_u8 (by omega) (by omega), wrap_u64_id (by omega) (by omega)]; omega
        have hcn : c.v.toNat ≤ 63 := by omega
        have hvb : v < 2 ^ 56 := by simpa using hv
        have hsh : shl? .u64 ((c.v.toNat : Nat) : Int) ((7 * 8 : Nat) : Int) = some ((c.v.toNat * 2 ^ 56 : Nat) : Int) := shl_u64 (y := c.v.toNat) (i := 56) (by omega) (by omega)
        have hor : orI .u64 (v : Int) ((c.v.toNat * 2 ^ 56 : Nat) : Int) = ((v + c.v.toNat * 2 ^ 56 : Nat) : Int) := or_u64 hvb (by omega)
        have hwv : w64 ((v + c.v.toNat * 2 ^ 56 : Nat) : Int) = ((v + 128 ^ 8 * c.v.toNat : Nat) : Int) := by
          rw [w64_id (by omega) (by omega)]
          congr 1
          rw [Nat.mul_comm]
        by_cases h0 : c.v = 0
        · rw [if_pos ⟨by omega, h0⟩]
          refine ⟨fun w nx h => (by cases h), fun _ => ⟨⟨r.b, ((i + 1 : Nat) : Int), true⟩, loopP_ret ?_, rfl, rfl⟩⟩
          simp only [p_impl_reader_num_l0]
          rw [if_f hbad, if_f (by simp; omega), if_f (by simp), hg, Option.bind_some, if_t (by simp), if_f (by simp; omega), hand, hsh, Option.bind_some, if_t (by simp; omega), if_t (by simp [h0]), if_t (by simp), hi1]
        · rw [if_neg (by omega)]
          refine ⟨fun w nx h => ?_, fun h => (by cases h)⟩
          cases h
          refine loopP_ret ?_
          simp only [p_impl_reader_num_l0]
          rw [if_f hbad, if_f (by simp; omega), if_f (by simp), hg, Option.bind_some, if_t (by simp), if_f (by simp; omega), hand, hsh, Option.bind_some, if_t (by simp; omega), if_f (by simp [h0]), hi1, hor, hwv, hbad]
  | succ k ih =>
    intro n v i hn hv
    have hn8 : n < 8 := by omega
    have hpb : 128 ^ n ≤ 562949953421312 := by
      have : 128 ^ n ≤ 128 ^ 7 := Nat.pow_le_pow_right (by decide) (by omega)
      simpa using this
    have hpp : 0 < 128 ^ n := Nat.pow_pos (by decide)
    have hp2 : 2 ^ (7 * n) = 128 ^ n := by rw [Nat.pow_mul]
    unfold decN
    cases hc : r.b[i]? with
    | none =>
      have hlen := List.getElem?_eq_none_iff.1 hc
      refine ⟨fun w nx h => by simp at h, fun _ => ⟨⟨r.b, i, true⟩, loopP_ret ?_, rfl, rfl⟩⟩
      simp only [p_impl_reader_num_l0]
      rw [if_f hbad, if_t (by simp; omega)]
    | some c =>
      dsimp only
      have hb := hx c (List.mem_of_getElem? hc)
      have hlen := (List.getElem?_eq_some_iff.1 hc).1
      obtain ⟨c', hg, hg'⟩ := get_lt (xs := r.b) (i := i) hlen
      rw [hc] at hg'; cases hg'
      have hi1 : w64 ((i : Int) + 1) = ((i + 1 : Nat) : Int) := w64_succ (by omega)
      rw [if_neg (by omega)]
      have hand : IntKind.wrap .u64 (andI .u8 c.v 127) = ((c.v.toNat % 128 : Nat) : Int) := by
        rw [and127_u8 (by omega) (by omega), wrap_u64_id (by omega) (by omega)]; omega
      have hcm : c.v.toNat % 128 < 128 := Nat.mod_lt _ (by decide)
      have hmul : (c.v.toNat % 128) * 128 ^ n ≤ 127 * 128 ^ n := Nat.mul_le_mul_right _ (by omega)
      have hsh : shl? .u64 ((c.v.toNat % 128 : Nat) : Int) ((7 * n : Nat) : Int) = some ((c.v.toNat % 128 * 2 ^ (7 * n) : Nat) : Int) := shl_u64 (by omega) (by rw [hp2]; omega)
      have hor : orI .u64 (v : Int) ((c.v.toNat % 128 * 2 ^ (7 * n) : Nat) : Int) = ((v + 128 ^ n * (c.v.toNat % 128) : Nat) : Int) := by
        rw [or_u64 (by rw [hp2]; exact hv) (by rw [hp2]; omega), hp2, Nat.mul_comm]
      have hmul2 : 128 ^ n * (c.v.toNat % 128) ≤ 127 * 128 ^ n := by rw [Nat.mul_comm]; exact hmul
      have hwv : w64 ((v + 128 ^ n * (c.v.toNat % 128) : Nat) : Int) = ((v + 128 ^ n * (c.v.toNat % 128) : Nat) : Int) := w64_id (by omega) (by omega)
      by_cases h128 : c.v < 128
      · rw [if_pos h128]
        by_cases h0 : k + 1 < 8 ∧ c.v = 0
        · rw [if_pos h0]
          refine ⟨fun w nx h => (by cases h), fun _ => ⟨⟨r.b, ((i + 1 : Nat) : Int), true⟩, loopP_ret ?_, rfl, rfl⟩⟩
          simp only [p_impl_reader_num_l0]
          rw [if_f hbad, if_f (by simp; omega), if_f (by simp; omega), hg, Option.bind_some, if_f (by simp; omega), hand, hsh, Option.bind_some, if_t (by simp; omega), if_t (by simp; omega), if_t (by simp; omega), hi1]
        · rw [if_neg h0]
          refine ⟨fun w nx h => ?_, fun h => (by cases h)⟩
          cases h
          refine loopP_ret ?_
          simp only [p_impl_reader_num_l0]
          rw [if_f hbad, if_f (by simp; omega), if_f (by simp; omega), hg, Option.bind_some, if_f (by simp; omega), hand, hsh, Option.bind_some, if_t (by simp; omega)]
          rw [hor, hwv, hi1, hbad, show c.v.toNat % 128 = c.v.toNat from by omega]
          by_cases h0' : c.v = 0
          · rw [if_t (by simp; omega), if_f (by simp; omega)]
          · rw [if_f (by simp; omega)]
      · rw [if_neg h128]
        have h7 : IntKind.wrap .u64 (((7 * n : Nat) : Int) + 7) = ((7 * (n + 1) : Nat) : Int) := by rw [wrap_u64_id (by omega) (by omega)]; omega
        have hst : p_impl_reader_num_l0 r ((i : Int), (v : Int), ((7 * n : Nat) : Int)) = some (.go (((i + 1 : Nat) : Int), ((v + 128 ^ n * (c.v.toNat % 128) : Nat) : Int), ((7 * (n + 1) : Nat) : Int))) := by
          simp only [p_impl_reader_num_l0]
          rw [if_f hbad, if_f (by simp; omega), if_f (by simp; omega), hg, Option.bind_some, if_f (by simp; omega), hand, hsh, Option.bind_some, if_f (by simp; omega), hor, hi1, h7]
        have hv' : v + 128 ^ n * (c.v.toNat % 128) < 128 ^ (n + 1) := by
          rw [Nat.pow_succ]
          have : 128 ^ n * (c.v.toNat % 128) ≤ 128 ^ n * 127 := Nat.mul_le_mul_left _ (by omega)
          omega
        obtain ⟨i1, i2⟩ := ih (n + 1) _ (i + 1) (by omega) hv'
        rw [loopP_go hst]
        constructor
        · intro w nx h
          obtain ⟨p, hp, h⟩ := Option.map_eq_some_iff.1 h
          cases h
          rw [i1 p.1 p.2 hp, Nat.pow_succ, Nat.mul_add, Nat.mul_assoc, Nat.add_assoc]
        · intro h
          exact i2 (Option.map_eq_none_iff.1 h)
theorem q_num {r : TReader} (hx : ∀ a, a ∈ r.b → 0 ≤ a.v ∧ a.v ≤ 255) (hl : r.b.length ≤ 1048576) (hbad : r.bad = false) {i : Nat} (hi : r.at_ = (i : Int)) :
    (∀ w nx, decN r.b 9 i = some (w, nx) → p_impl_reader_num r = some ⟨(w : Int), ⟨r.b, (nx : Int), false⟩⟩) ∧ (decN r.b 9 i = none → ∃ r', p_impl_reader_num r = some ⟨0, r'⟩ ∧ r'.bad = true ∧ r'.b = r.b) := by
  obtain ⟨h1, h2⟩ := q_numLoop hx hl hbad 8 0 0 i rfl (by decide)
  unfold p_impl_reader_num
  rw [hi]
  constructor
  · intro w nx h
    have := h1 w nx h
    simp only [Nat.pow_zero, Nat.one_mul, Nat.zero_add] at this
    rw [show ((i : Int), (0 : Int), (0 : Int)) = ((i : Int), ((0 : Nat) : Int), ((7 * 0 : Nat) : Int)) from rfl, this]; rfl
  · intro h
    obtain ⟨r', h3, h4⟩ := h2 h
    exact ⟨r', by rw [show ((i : Int), (0 : Int), (0 : Int)) = ((i : Int), ((0 : Nat) : Int), ((7 * 0 : Nat) : Int)) from rfl, h3]; rfl, h4⟩

theorem decN_pos {x : List U8} (hx : ∀ a, a ∈ x → 0 ≤ a.v ∧ a.v ≤ 255) : ∀ {k i w nx : Nat}, k ≤ 8 → decN x k i = some (w, nx) → 1 ≤ w
  | 0, i, w, nx, _, h => by simp [decN] at h
  | k + 1, i, w, nx, hk, h => by
    unfold decN at h
    cases hc : x[i]? with
    | none => rw [hc] at h; cases h
    | some c =>
      have hb := hx c (List.mem_of_getElem? hc)
      rw [hc] at h
      dsimp only at h
      split at h
      · cases h
      · split at h
        · split at h
          · cases h
          · cases h; omega
        · obtain ⟨p, hp, h⟩ := Option.map_eq_some_iff.1 h
          cases h
          have := decN_pos hx (k := k) (w := p.1) (nx := p.2) (by omega) hp
          omega
/-- What is read as a number is what is written for it. -/
theorem decN_enc {x : List U8} (hx : ∀ a, a ∈ x → 0 ≤ a.v ∧ a.v ≤ 255) : ∀ {k i w nx : Nat}, k ≤ 9 → decN x k i = some (w, nx) → x.drop i = encN w ++ x.drop nx
  | 0, i, w, nx, _, h => by simp [decN] at h
  | k + 1, i, w, nx, hk, h => by
    unfold decN at h
    cases hc : x[i]? with
    | none => rw [hc] at h; cases h
    | some c =>
      have hb := hx c (List.mem_of_getElem? hc)
      have hd : x.drop i = c :: x.drop (i + 1) := by
        obtain ⟨h1, h2⟩ := List.getElem?_eq_some_iff.1 hc
        rw [← h2]
        exact List.drop_eq_getElem_cons h1
      rw [hc] at h
      dsimp only at h
      split at h
      · cases h
      · split at h
        · rename_i h128
          split at h
          · cases h
          · cases h
            rw [hd, encN_lt (by omega)]
            have : c = ⟨((c.v.toNat : Nat) : Int)⟩ := by
              obtain ⟨v⟩ := c
              simp only at hb ⊢
              congr 1; omega
            rw [← this]; rfl
        · rename_i h128
          obtain ⟨p, hp, h⟩ := Option.map_eq_some_iff.1 h
          cases h
          have h1 := decN_pos hx (k := k) (w := p.1) (nx := p.2) (by omega) hp
          have h2 := decN_enc hx (k := k) (w := p.1) (nx := p.2) (by omega) hp
          have e1 : (c.v.toNat % 128 + 128 * p.1) / 128 = p.1 := by omega
          have e2 : (c.v.toNat % 128 + 128 * p.1) % 128 = c.v.toNat % 128 := by omega
          rw [hd, encN_ge (by omega), e1, e2, h2]
          have : c = ⟨((128 + c.v.toNat % 128 : Nat) : Int)⟩ := by
            obtain ⟨v⟩ := c
            simp only at hb h128 ⊢
            congr 1; omega
          rw [← this]; rfl
theorem q_snum {x : List U8} (hx : ∀ a, a ∈ x → 0 ≤ a.v ∧ a.v ≤ 255) (hl : x.length ≤ 1048576) {i : Nat} (hi : i ≤ x.length) :
    (∀ w nx, decN x 9 i = some (w, nx) → p_spec_l01Reader_num ⟨x, (i : Int), false⟩ = some ⟨(w : Int), ⟨x, (nx : Int), false⟩⟩) ∧ (decN x 9 i = none → p_spec_l01Reader_num ⟨x, (i : Int), false⟩ = some ⟨0, ⟨x, (i : Int), true⟩⟩) := by
  obtain ⟨h1, h2⟩ := q_get hx hl i hi
  unfold p_spec_l01Reader_num
  simp only [Bool.false_eq_true, if_false]
  constructor
  · intro w nx h
    rw [h1 w nx h]; rfl
  · intro h
    obtain ⟨a, b, h3⟩ := h2 h
    rw [h3]; rfl

/-- Without the zeros at the end. -/
def trim (x : List Int) : Nat → Nat
  | 0 => 0
  | n + 1 => if x.getD n 0 = 0 then trim x n else n + 1
theorem trim_le (x : List Int) : ∀ n, trim x n ≤ n
  | 0 => Nat.le_refl _
  | n + 1 => by
    unfold trim
    split
    · have := trim_le x n; omega
    · exact Nat.le_refl _
theorem getD_get {x : List Int} {n : Nat} {a : Int} (h : x[n]? = some a) : x.getD n 0 = a := by rw [List.getD_eq_getElem?_getD, h]; rfl
theorem q_trimSpec (x : TVec) (hx : x.counts.length = 16) : ∀ n : Nat, n ≤ 16 → loopP (p_spec_l02Bytes_l0 x) (n : Int) = some (.out (trim x.counts n : Int))
  | 0, _ => loopP_out rfl
  | n + 1, hn => by
    obtain ⟨a, ha, ha'⟩ := get_lt (xs := x.counts) (i := n) (by omega)
    have hw : w64 (((n + 1 : Nat) : Int) - 1) = (n : Int) := by rw [w64_id (by omega) (by omega)]; omega
    have hst : ∀ r, (if decide (a = 0) = true then some (Lp.go (n : Int)) else some (Lp.out ((n + 1 : Nat) : Int))) = r → p_spec_l02Bytes_l0 x ((n + 1 : Nat) : Int) = r := by
      rintro _ rfl
      simp only [p_spec_l02Bytes_l0]
      rw [if_t (decide_eq_true (by omega)), hw, ha, Option.bind_some]
    unfold trim
    rw [getD_get ha']
    by_cases h0 : a = 0
    · rw [if_pos h0, loopP_go (hst _ (if_pos (decide_eq_true h0)))]
      exact q_trimSpec x hx n (by omega)
    · rw [if_neg h0, loopP_out (hst _ (if_neg (by simpa using h0)))]
/-- The numbers, one behind the other. -/
def encs (l : List Int) : List U8 := l.flatMap fun c => encN c.toNat
theorem encs_snoc (l : List Int) (c : Int) : encs (l ++ [c]) = encs l ++ encN c.toNat := by simp [encs]
theorem encs_len : ∀ (l : List Int), (∀ c, c ∈ l → 0 ≤ c ∧ c ≤ 1000000000000) → (encs l).length ≤ 9 * l.length
  | [], _ => by simp [encs]
  | c :: l, h => by
    have h1 := encs_len l fun c hc => h c (by simp [hc])
    have h2 := encN_len9 (v := c.toNat) (by have := h c (by simp); omega)
    have : encs (c :: l) = encN c.toNat ++ encs l := rfl
    rw [this, List.length_append, List.length_cons]
    omega
theorem q_l02Bytes (x : TVec) (hx : x.counts.length = 16) (hc : ∀ c, c ∈ x.counts → 0 ≤ c ∧ c ≤ 1000000000000) : p_spec_l02Bytes x = some (encs (x.counts.take (trim x.counts 16))) := by
  have htl := trim_le x.counts 16
  have hsp := q_trimSpec x hx 16 (Nat.le_refl _)
  generalize trim x.counts 16 = n at htl hsp
  have hg : ∀ i, i < n → ∃ c : Nat, get? x.counts (i : Int) = some (c : Int) ∧ x.counts[i]? = some (c : Int) ∧ c ≤ 1000000000000 := by
    intro i hi
    obtain ⟨a, ha, ha'⟩ := get_lt (xs := x.counts) (i := i) (by omega)
    have := hc a (List.mem_of_getElem? ha')
    refine ⟨a.toNat, ?_, ?_, by omega⟩
    · rw [ha]; congr 1; omega
    · rw [ha']; congr 1; omega
  have hlen : ∀ i, (encs (x.counts.take i)).length ≤ 9 * i := by
    intro i
    have := encs_len (x.counts.take i) fun c h => hc c (List.mem_of_mem_take h)
    rw [List.length_take] at this
    omega
  obtain ⟨e1, a1, i1, rfl⟩ := loop_count (step := p_spec_l02Bytes_l1 x (n : Int)) n (fun i s => s.2 = (i : Int) ∧ s.1 = encs (x.counts.take i)) (fun e => ∃ i, e = .out (encs (x.counts.take n), i)) (by
    rintro i ⟨s0, s1⟩ hi ⟨h1, h2⟩
    simp only at h1 h2
    subst h1 h2
    obtain ⟨c, g1, g2, g3⟩ := hg i hi
    have := encN_len9 (v := c) (by omega)
    have hl := hlen i
    simp only [p_spec_l02Bytes_l1]
    rw [if_t (by simp; omega), g1, Option.bind_some, q_l01Put (by omega), Option.bind_some, app_list (by omega), Option.bind_some, w64_succ (by omega)]
    refine .inl ⟨_, rfl, rfl, ?_⟩
    simp only
    rw [take_next g2, encs_snoc, Int.toNat_natCast])
    (by
    rintro ⟨s0, s1⟩ ⟨h1, h2⟩
    simp only at h1 h2
    subst h1 h2
    simp only [p_spec_l02Bytes_l1]
    rw [if_f (by simp)]
    exact .inl ⟨_, rfl, _, rfl⟩) (s := ([], 0)) ⟨rfl, rfl⟩
  unfold p_spec_l02Bytes
  rw [show (16 : Int) = ((16 : Nat) : Int) from rfl, hsp, Option.bind_some]
  simp only
  rw [a1]; rfl

theorem encN_ne (v : Nat) : 0 < (encN v).length := by
  rw [encN]
  split <;> simp
/-- The numbers that were read, and zeros. -/
def pad (cs : List Int) : List Int := cs ++ List.replicate (16 - cs.length) 0
theorem pad_len {cs : List Int} (h : cs.length ≤ 16) : (pad cs).length = 16 := by unfold pad; simp; omega
theorem pad_set {cs : List Int} (h : cs.length < 16) (c : Int) : (pad cs).set cs.length c = pad (cs ++ [c]) := by
  unfold pad
  rw [List.set_append_right _ _ (Nat.le_refl _), Nat.sub_self, List.length_append, List.append_assoc]
  congr 1
  rw [show 16 - cs.length = (16 - (cs.length + 1)) + 1 from by omega, List.replicate_succ]
  rfl
/-- However it goes on, the reference's loop ends, and what was read stays. -/
theorem q_specEnds {x : List U8} (hx : ∀ a, a ∈ x → 0 ≤ a.v ∧ a.v ≤ 255) (hl : x.length ≤ 1048576) : ∀ (k i : Nat) (v : List Int) (at_ : Nat) (bad : Bool), i + k = 16 → v.length = 16 → at_ ≤ x.length →
    ∃ v' at' bad' i', loopP (p_spec_ReadVec_l0 x) (v, x, (at_ : Int), bad, (i : Int)) = some (.out (v', x, at', bad', i')) ∧ v'.length = 16 ∧ ∀ j, j < i → v'[j]? = v[j]? := by
  intro k
  induction k with
  | zero =>
    intro i v at_ bad hi hv hat
    refine ⟨v, at_, bad, (i : Int), loopP_out ?_, hv, fun _ _ => rfl⟩
    simp only [p_spec_ReadVec_l0]
    rw [if_f (by simp; omega)]
  | succ k ih =>
    intro i v at_ bad hi hv hat
    by_cases hat2 : at_ < x.length
    · cases bad with
      | true =>
        refine ⟨v, at_, true, (i : Int), loopP_out ?_, hv, fun _ _ => rfl⟩
        simp only [p_spec_ReadVec_l0]
        rw [if_t (by simp; omega), if_t (by simpa using hat2), if_pos trivial]
      | false =>
        obtain ⟨n1, n2⟩ := q_snum hx hl hat
        obtain ⟨a, ha, ha'⟩ := get_lt (xs := v) (i := i) (by omega)
        have go : ∀ (w : Int) (nx : Nat) (b : Bool), p_spec_l01Reader_num ⟨x, (at_ : Int), false⟩ = some ⟨w, ⟨x, (nx : Int), b⟩⟩ → p_spec_ReadVec_l0 x (v, x, (at_ : Int), false, (i : Int)) = some (.go (v.set i w, x, (nx : Int), b, ((i + 1 : Nat) : Int))) := by
          intro w nx b h
          simp only [p_spec_ReadVec_l0]
          rw [if_t (by simp; omega), if_t (by simpa using hat2), if_f rfl, h, Option.bind_some, ha, Option.bind_some, w64_succ (by omega), Int.toNat_natCast]
        have fin : ∀ (w : Int) (nx : Nat) (b : Bool), nx ≤ x.length → p_spec_l01Reader_num ⟨x, (at_ : Int), false⟩ = some ⟨w, ⟨x, (nx : Int), b⟩⟩ →
            ∃ v' at' bad' i', loopP (p_spec_ReadVec_l0 x) (v, x, (at_ : Int), false, (i : Int)) = some (.out (v', x, at', bad', i')) ∧ v'.length = 16 ∧ ∀ j, j < i → v'[j]? = v[j]? := by
          intro w nx b hnx h
          rw [loopP_go (go w nx b h)]
          obtain ⟨v', at', bad', i', e1, e2, e3⟩ := ih (i + 1) (v.set i w) nx b (by omega) (by simpa using hv) hnx
          refine ⟨v', at', bad', i', e1, e2, fun j hj => ?_⟩
          rw [e3 j (by omega), List.getElem?_set, if_neg (by omega)]
        cases h : decN x 9 at_ with
        | none => exact fin 0 at_ true hat (n2 h)
        | some p => exact fin p.1 p.2 false (decN_next h).2 (n1 p.1 p.2 h)
    · refine ⟨v, at_, bad, (i : Int), loopP_out ?_, hv, fun _ _ => rfl⟩
      simp only [p_spec_ReadVec_l0]
      rw [if_t (by simp; omega), if_f (by simpa using hat2)]
theorem specVecOK_false {v : List Int} (h : ∃ (j : Nat) (c : Int), v[j]? = some c ∧ 1000000000000 < c) : p_spec_VecOK ⟨v⟩ = some false := by
  obtain ⟨b, h1, h2⟩ := q_specVecOK3 ⟨v⟩
  rw [h1]
  cases b with
  | false => rfl
  | true =>
    obtain ⟨j, c, hj, hc⟩ := h
    have := (h2.1 rfl).2 c (List.mem_of_getElem? hj)
    omega
/-- Why the reference's answer is no. -/
def Fails (x : List U8) (v : List Int) (at_ : Int) (bad : Bool) : Prop := bad = true ∨ at_ ≠ (x.length : Int) ∨ p_spec_VecOK ⟨v⟩ = some false
theorem q_both {x : List U8} (hx : ∀ a, a ∈ x → 0 ≤ a.v ∧ a.v ≤ 255) (hl : x.length ≤ 1048576) : ∀ (m at_ : Nat) (cs : List Int), x.length - at_ = m → at_ ≤ x.length → cs.length ≤ 16 → (∀ c, c ∈ cs → 0 ≤ c ∧ c ≤ 1000000000000) → x = encs cs ++ x.drop at_ →
    (∃ fs i j, loopP (p_impl_ReadVec_l0 x) (pad cs, x, (at_ : Int), false, cs.getLastD 1, (cs.length : Int)) = some (.out (pad fs, x, (x.length : Int), false, fs.getLastD 1, i)) ∧ loopP (p_spec_ReadVec_l0 x) (pad cs, x, (at_ : Int), false, (cs.length : Int)) = some (.out (pad fs, x, (x.length : Int), false, j)) ∧
      fs.length ≤ 16 ∧ (∀ c, c ∈ fs → 0 ≤ c ∧ c ≤ 1000000000000) ∧ x = encs fs) ∨
    (loopP (p_impl_ReadVec_l0 x) (pad cs, x, (at_ : Int), false, cs.getLastD 1, (cs.length : Int)) = some (.ret ⟨⟨[]⟩, 3⟩) ∧ ∃ v a b j, loopP (p_spec_ReadVec_l0 x) (pad cs, x, (at_ : Int), false, (cs.length : Int)) = some (.out (v, x, a, b, j)) ∧ Fails x v a b) := by
  intro m
  induction m using Nat.strongRecOn with
  | ind m ih =>
    intro at_ cs hm hat hcs hc hxe
    by_cases hend : at_ < x.length
    case neg =>
      have hea : at_ = x.length := by omega
      subst hea
      rw [List.drop_length, List.append_nil] at hxe
      refine .inl ⟨cs, (cs.length : Int), (cs.length : Int), loopP_out ?_, loopP_out ?_, hcs, hc, hxe⟩
      · simp only [p_impl_ReadVec_l0]
        rw [if_f (by simp)]
      · simp only [p_spec_ReadVec_l0]
        rw [if_f (b := decide ((x.length : Int) < (x.length : Int))) (by simp)]
        split <;> rfl
    obtain ⟨s1, s2⟩ := q_snum hx hl hat
    obtain ⟨n1, n2⟩ := q_num (r := ⟨x, (at_ : Int), false⟩) hx hl rfl (i := at_) rfl
    by_cases h16 : cs.length = 16
    · -- too many
      right
      constructor
      · cases h : decN x 9 at_ with
        | none =>
          obtain ⟨r', e1, e2, _⟩ := n2 h
          refine loopP_ret ?_
          simp only [p_impl_ReadVec_l0]
          rw [if_t (by simpa using hend), e1, Option.bind_some, if_t e2]
        | some p =>
          refine loopP_ret ?_
          simp only [p_impl_ReadVec_l0]
          rw [if_t (by simpa using hend), n1 p.1 p.2 h, Option.bind_some, if_f rfl, if_t (by simp; omega)]
      · refine ⟨pad cs, (at_ : Int), false, (cs.length : Int), loopP_out ?_, .inr (.inl (by omega))⟩
        simp only [p_spec_ReadVec_l0]
        rw [if_f (by simp; omega)]
    have hpl := pad_len hcs
    obtain ⟨a, ha, ha'⟩ := get_lt (xs := pad cs) (i := cs.length) (by omega)
    have sgo : ∀ (w : Int) (nx : Nat) (b : Bool), p_spec_l01Reader_num ⟨x, (at_ : Int), false⟩ = some ⟨w, ⟨x, (nx : Int), b⟩⟩ → p_spec_ReadVec_l0 x (pad cs, x, (at_ : Int), false, (cs.length : Int)) = some (.go (pad (cs ++ [w]), x, (nx : Int), b, ((cs.length + 1 : Nat) : Int))) := by
      intro w nx b h
      simp only [p_spec_ReadVec_l0]
      rw [if_t (by simp; omega), if_t (by simpa using hend), if_f rfl, h, Option.bind_some, ha, Option.bind_some, w64_succ (by omega), Int.toNat_natCast, pad_set (by omega)]
    cases h : decN x 9 at_ with
    | none =>
      right
      constructor
      · obtain ⟨r', e1, e2, _⟩ := n2 h
        refine loopP_ret ?_
        simp only [p_impl_ReadVec_l0]
        rw [if_t (by simpa using hend), e1, Option.bind_some, if_t e2]
      · rw [loopP_go (sgo 0 at_ true (s2 h))]
        by_cases h15 : cs.length + 1 < 16
        · refine ⟨pad (cs ++ [0]), (at_ : Int), true, ((cs.length + 1 : Nat) : Int), loopP_out ?_, .inl rfl⟩
          · simp only [p_spec_ReadVec_l0]
            rw [if_t (by simp; omega), if_t (by simpa using hend), if_pos trivial]
        · refine ⟨pad (cs ++ [0]), (at_ : Int), true, ((cs.length + 1 : Nat) : Int), loopP_out ?_, .inl rfl⟩
          · simp only [p_spec_ReadVec_l0]
            rw [if_f (by simp; omega)]
    | some p =>
      obtain ⟨w, nx⟩ := p
      have hnx := decN_next h
      have henc := decN_enc hx (Nat.le_refl 9) h
      have hsg := sgo (w : Int) nx false (s1 w nx h)
      by_cases hbig : 1000000000000 < w
      · right
        constructor
        · refine loopP_ret ?_
          simp only [p_impl_ReadVec_l0]
          rw [if_t (by simpa using hend), n1 w nx h, Option.bind_some, if_f rfl, if_f (by simp; omega), if_t (by simp; omega)]
        · rw [loopP_go hsg]
          obtain ⟨v', at', bad', i', e1, e2, e3⟩ := q_specEnds hx hl (16 - (cs.length + 1)) (cs.length + 1) (pad (cs ++ [(w : Int)])) nx false (by omega) (pad_len (by simp; omega)) hnx.2
          refine ⟨v', at', bad', i', e1, .inr (.inr (specVecOK_false ⟨cs.length, (w : Int), ?_, by omega⟩))⟩
          rw [e3 cs.length (by omega)]
          unfold pad
          rw [List.append_assoc, List.getElem?_append_right (Nat.le_refl _), Nat.sub_self]
          rfl
      · have hst : p_impl_ReadVec_l0 x (pad cs, x, (at_ : Int), false, cs.getLastD 1, (cs.length : Int)) = some (.go (pad (cs ++ [(w : Int)]), x, (nx : Int), false, (w : Int), ((cs.length + 1 : Nat) : Int))) := by
          simp only [p_impl_ReadVec_l0]
          rw [if_t (by simpa using hend), n1 w nx h, Option.bind_some, if_f rfl, if_f (by simp; omega), if_f (by simp; omega), ha, Option.bind_some, w64_succ (by omega), Int.toNat_natCast, pad_set (by omega)]
        rw [loopP_go hst, loopP_go hsg]
        have hlast : (cs ++ [(w : Int)]).getLastD 1 = (w : Int) := by simp
        have := ih (x.length - nx) (by omega) nx (cs ++ [(w : Int)]) rfl hnx.2 (by simp; omega) (by
          intro c hc'
          rcases List.mem_append.1 hc' with hc' | hc'
          · exact hc c hc'
          · rw [List.mem_singleton] at hc'; subst hc'; omega) (by
          rw [encs_snoc, Int.toNat_natCast, List.append_assoc, ← henc]
          exact hxe)
        rw [hlast, List.length_append] at this
        exact this
theorem trim_succ {x : List Int} {n : Nat} : trim x (n + 1) = if x.getD n 0 = 0 then trim x n else n + 1 := rfl
theorem trim_pad : ∀ (n : Nat) (fs : List Int), fs.length ≤ n → trim (fs ++ List.replicate (n - fs.length) 0) n ≤ fs.length ∧ (fs.getLastD 1 ≠ 0 → trim (fs ++ List.replicate (n - fs.length) 0) n = fs.length) ∧ (fs.getLastD 1 = 0 → trim (fs ++ List.replicate (n - fs.length) 0) n < fs.length) := by
  have low : ∀ (n : Nat) (x y : List Int), n ≤ x.length → trim (x ++ y) n = trim x n := by
    intro n
    induction n with
    | zero => intro x y _; rfl
    | succ n ih =>
      intro x y hn
      unfold trim
      rw [ih x y (by omega)]
      have : (x ++ y).getD n 0 = x.getD n 0 := by
        rw [List.getD_eq_getElem?_getD, List.getD_eq_getElem?_getD, List.getElem?_append_left (by omega)]
      rw [this]
  have down : ∀ (k : Nat) (fs : List Int) (m : Nat), k ≤ m → trim (fs ++ List.replicate m 0) (fs.length + k) = trim fs fs.length := by
    intro k
    induction k with
    | zero => intro fs m _; exact low _ _ _ (Nat.le_refl _)
    | succ k ih =>
      intro fs m hk
      have : (fs ++ List.replicate m 0).getD (fs.length + k) 0 = (0 : Int) := by
        rw [List.getD_eq_getElem?_getD, List.getElem?_append_right (by omega), List.getElem?_replicate]
        split <;> rfl
      rw [← Nat.add_assoc, trim_succ, this, if_pos rfl, ih fs m (by omega)]
  intro n fs hn
  have e : trim (fs ++ List.replicate (n - fs.length) 0) n = trim fs fs.length := by
    have := down (n - fs.length) fs (n - fs.length) (Nat.le_refl _)
    rwa [show fs.length + (n - fs.length) = n from by omega] at this
  rw [e]
  refine ⟨trim_le _ _, ?_, ?_⟩
  · intro hl
    cases hf : fs.reverse with
    | nil => have : fs = [] := by simpa using hf
             subst this; rfl
    | cons c r =>
      have : fs = r.reverse ++ [c] := by rw [← List.reverse_reverse fs, hf]; simp
      subst this
      have hg : (r.reverse ++ [c]).getD r.reverse.length 0 = c := by
        rw [List.getD_eq_getElem?_getD, List.getElem?_append_right (Nat.le_refl _), Nat.sub_self]; rfl
      simp at hl
      rw [List.length_append, List.length_singleton]
      unfold trim
      rw [hg, if_neg hl]
  · intro hl
    cases hf : fs.reverse with
    | nil => have : fs = [] := by simpa using hf
             subst this; simp at hl
    | cons c r =>
      have : fs = r.reverse ++ [c] := by rw [← List.reverse_reverse fs, hf]; simp
      subst this
      have hg : (r.reverse ++ [c]).getD r.reverse.length 0 = c := by
        rw [List.getD_eq_getElem?_getD, List.getElem?_append_right (Nat.le_refl _), Nat.sub_self]; rfl
      simp at hl
      rw [List.length_append, List.length_singleton]
      unfold trim
      rw [hg, if_pos hl]
      have := trim_le (r.reverse ++ [c]) r.reverse.length
      omega
theorem encs_app (a b : List Int) : encs (a ++ b) = encs a ++ encs b := by simp [encs]
theorem q_ReadVec (x : List U8) (hx : ∀ a, a ∈ x → 0 ≤ a.v ∧ a.v ≤ 255) : ∃ r, p_spec_ReadVec x = some r ∧ p_impl_ReadVec x = some r ∧ r.a.counts.length ≤ 16 := by
  unfold p_spec_ReadVec p_impl_ReadVec
  by_cases h1 : 1048576 < (x.length : Int)
  · simp only [h1, decide_true, if_true]; exact ⟨_, rfl, rfl, by simp⟩
  simp only [h1, decide_false, Bool.false_eq_true, if_false]
  have hk : mkL 16 8 16 (0 : Int) = some (List.replicate 16 0) := mkL_ok (l := 16) (y := 8) (by omega) (by omega)
  have hnew : p_spec_l02New = some ⟨List.replicate 16 0⟩ := by
    unfold p_spec_l02New
    rw [hk]; rfl
  rw [hnew, hk]
  simp only [Option.bind_some]
  have hb := q_both hx (by omega) x.length 0 [] (by omega) (by omega) (by simp) (by simp) (by simp [encs])
  simp only [List.length_nil, List.getLastD_nil] at hb
  have hp : pad [] = List.replicate 16 0 := rfl
  rw [hp] at hb
  rcases hb with ⟨fs, i, j, e1, e2, e3, e4, e5⟩ | ⟨e1, v, a, b, j, e2, e3⟩
  · have e1' : loopP (p_impl_ReadVec_l0 x) (List.replicate 16 0, x, 0, false, 1, 0) = _ := e1
    have e2' : loopP (p_spec_ReadVec_l0 x) (List.replicate 16 0, x, 0, false, 0) = _ := e2
    rw [e1', e2']
    have hpl := pad_len e3
    have hall : ∀ c, c ∈ pad fs → 0 ≤ c ∧ c ≤ 1000000000000 := by
      intro c hc
      unfold pad at hc
      rcases List.mem_append.1 hc with hc | hc
      · exact e4 c hc
      · rw [List.eq_of_mem_replicate hc]; omega
    obtain ⟨bb, f1, f2⟩ := q_specVecOK3 ⟨pad fs⟩
    obtain rfl : bb = true := f2.2 ⟨hpl, hall⟩
    have f3 := q_l02Bytes ⟨pad fs⟩ hpl hall
    obtain ⟨t1, t2, t3⟩ := trim_pad 16 fs e3
    simp only [Option.bind_some, Bool.false_eq_true, if_false, decide_true, if_true, f1, f3]
    by_cases hlast : fs.getLastD 1 = 0
    · have ht : trim (pad fs) 16 < fs.length := t3 hlast
      have hne : ¬ (strOfNums (nums (encs ((pad fs).take (trim (pad fs) 16)))) = strOfNums (nums x)) := by
        intro h
        have := congrArg ByteArray.size h
        rw [strOfNums_size, strOfNums_size, nums_len, nums_len] at this
        conv at this => rhs; rw [e5]
        have hsplit : fs = fs.take (trim (pad fs) 16) ++ fs.drop (trim (pad fs) 16) := (List.take_append_drop _ _).symm
        have htk : (pad fs).take (trim (pad fs) 16) = fs.take (trim (pad fs) 16) := by
          unfold pad
          exact List.take_append_of_le_length (by unfold pad at ht; omega)
        rw [htk] at this
        conv at this => rhs; rw [hsplit, encs_app, List.length_append]
        have hdrop : 0 < (encs (fs.drop (trim (pad fs) 16))).length := by
          cases hd : fs.drop (trim (pad fs) 16) with
          | nil =>
            have := congrArg List.length hd
            rw [List.length_drop, List.length_nil] at this
            omega
          | cons c l =>
            have : encs (c :: l) = encN c.toNat ++ encs l := rfl
            rw [this, List.length_append]
            have := encN_ne c.toNat
            omega
        omega
      simp only [hne, hlast, decide_false, decide_true, if_true, if_false, Bool.false_eq_true]
      exact ⟨_, rfl, rfl, by simp⟩
    · have ht : trim (pad fs) 16 = fs.length := t2 hlast
      have htk : (pad fs).take (trim (pad fs) 16) = fs := by
        rw [ht]
        unfold pad
        exact List.take_left' rfl
      rw [htk, ← e5]
      simp only [hlast, decide_false, decide_true, if_true, if_false, Bool.false_eq_true]
      exact ⟨_, rfl, rfl, by simp only; omega⟩
  · have e1' : loopP (p_impl_ReadVec_l0 x) (List.replicate 16 0, x, 0, false, 1, 0) = _ := e1
    have e2' : loopP (p_spec_ReadVec_l0 x) (List.replicate 16 0, x, 0, false, 0) = _ := e2
    rw [e1', e2']
    simp only [Option.bind_some]
    refine ⟨⟨⟨[]⟩, 3⟩, ?_, rfl, by simp⟩
    rcases e3 with rfl | h | h
    · simp
    · cases b with
      | true => simp
      | false => simp [h]
    · cases b with
      | true => simp
      | false =>
        by_cases ha : a = (x.length : Int)
        · simp [ha, h]
        · simp [ha]
theorem plain_ReadVec (x : List U8) (hx : x.length * 1 ≤ reachBytes ∧ ∀ a, a ∈ x → (0 ≤ a.v ∧ a.v ≤ 255)) : p_laws_FnExactReadVec x = some true := by
  unfold p_laws_FnExactReadVec
  by_cases h0 : 1048576 < (x.length : Int)
  · simp only [h0, decide_true, if_true]
  simp only [h0, decide_false, Bool.false_eq_true, if_false]
  obtain ⟨r, h3, h4, hr⟩ := q_ReadVec x hx.2
  obtain ⟨x', h5, _⟩ := q_markByteS x 1 (by omega) (by omega)
  obtain ⟨g, h7, h8⟩ := q_mark r.a 1 (by omega) (by omega)
  have hn : ¬ (1 + (x.length : Int) < 0) := by omega
  have hn' : ¬ (1 + (r.a.counts.length : Int) < 0) := by omega
  simp only [q_toByteS x (by omega), h3, h4, h5, h7, h8, q_eqVec r.a (by rw [reach_eq]; omega), q_eqByteS x (by omega), Option.bind_some, decide_true, if_true, decide_eq_true_eq, hn, hn', if_false]
  repeat' split
  all_goals rfl
end Go.AM
