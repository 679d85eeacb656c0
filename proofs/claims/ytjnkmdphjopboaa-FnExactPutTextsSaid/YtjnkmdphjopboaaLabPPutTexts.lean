/- The plain law of PutTexts. No condition. -/
import Derived.Test.YtjnkmdphjopboaaLabGPutTexts
import Derived.Test.YtjnkmdphjopboaaLabL3
set_option linter.unusedVariables false
set_option linter.unusedSimpArgs false
namespace Go.AM

theorem q_markText (n : Int) (hn : n < 4611686018427387904) : ∃ s, p_laws_markText n = some s := by
  unfold p_laws_markText
  by_cases h0 : n ≤ 0
  · rw [if_pos (decide_eq_true h0)]; exact ⟨_, rfl⟩
  · rw [if_neg (by simpa using h0)]
    obtain ⟨e, h1, m, s, rfl, hs⟩ := loopP_inv (step := p_laws_markText_l0) (fun s => 0 ≤ s.1 ∧ s.1 + s.2.size ≤ n) (fun s => s.1.toNat) (fun e => ∃ m s, e = .out (m, s) ∧ (s.size : Int) ≤ n) (by
      rintro ⟨s1, s2⟩ ⟨h2, h3⟩
      simp only at h2 h3
      simp only [p_laws_markText_l0]
      by_cases hd : 0 < s1
      · rw [if_pos (decide_eq_true hd)]
        have hz : ∀ k : Int, (strOfNums [k]).size = 1 := fun k => rfl
        have hc : ∀ k : Int, cat? (strOfNums [k]) s2 = some (strOfNums [k] ++ s2) := by
          intro k
          unfold cat?
          rw [if_pos (by rw [hz]; omega)]
        rw [hc, Option.bind_some]
        refine ⟨_, rfl, ?_⟩
        have hq : s1.tdiv 10 = s1 / 10 := Int.tdiv_eq_ediv_of_nonneg h2
        have hw : w64 (s1.tdiv 10) = s1 / 10 := by rw [hq]; exact w64_id (by omega) (by omega)
        simp only [hw, ByteArray.size_append, hz]
        refine ⟨⟨by omega, by omega⟩, by omega⟩
      · rw [if_neg (by simpa using hd)]
        exact ⟨_, rfl, _, _, rfl, by omega⟩) (s := (n, ByteArray.mk #[])) ⟨by simp only; omega, by simp only; show n + ((0 : Nat) : Int) ≤ n; omega⟩
    rw [h1, Option.bind_some]
    have : cat? (ByteArray.mk #[109]) s = some (ByteArray.mk #[109] ++ s) := by
      unfold cat?
      rw [if_pos (by show ((1 + s.size : Nat) : Int) ≤ _; omega)]
    simp only [this, Option.bind_some]
    exact ⟨_, rfl⟩
noncomputable def mt (n : Int) : ByteArray := (p_laws_markText n).getD (ByteArray.mk #[])
theorem mt_eq {n : Int} (hn : n < 4611686018427387904) : p_laws_markText n = some (mt n) := by
  obtain ⟨s, hs⟩ := q_markText n hn
  unfold mt
  rw [hs]; rfl

theorem q_szStringS (x : List ByteArray) (n : Int) (hx : x.length < 9223372036854775807) : ∃ m, p_laws_szStringS x n = some m := by
  unfold p_laws_szStringS
  split
  · exact ⟨_, rfl⟩
  · obtain ⟨e, h1, _⟩ := loop_count (step := p_laws_szStringS_l0 x) x.length (fun i s => s.2 = (i : Int)) (fun _ => True) (by
      rintro i ⟨s1, s2⟩ hi h
      simp only at h
      subst h
      obtain ⟨a, ha, ha'⟩ := get_lt (xs := x) hi
      simp only [p_laws_szStringS_l0]
      rw [if_t (by simpa using hi), ha, Option.bind_some, w64_succ (by omega)]
      split
      · exact .inr (.inr ⟨_, rfl, trivial⟩)
      · exact .inl ⟨_, rfl, rfl⟩)
      (by
      rintro ⟨s1, s2⟩ h
      simp only at h
      subst h
      simp only [p_laws_szStringS_l0]
      rw [if_f (by simp)]
      exact .inl ⟨_, rfl, trivial⟩) (s := (w64 (n - (x.length : Int)), 0)) rfl
    rw [h1, Option.bind_some]
    cases e with
    | out s => exact ⟨_, rfl⟩
    | ret r => exact ⟨_, rfl⟩
theorem q_toStringS (x : List ByteArray) (hx : x.length * 16 ≤ reachBytes) : p_laws_toStringS x = some x := by
  rw [reach_eq] at hx
  unfold p_laws_toStringS
  rw [show (16 : Int) = ((16 : Nat) : Int) from rfl, mkL_ok (by omega) (by omega), Option.bind_some]
  have e : p_laws_toStringS_l0 x = copyStep x some := rfl
  rw [e]
  obtain ⟨i, h⟩ := copy_loop (ρ := List ByteArray) (x := x) (v := List.replicate x.length (ByteArray.mk #[])) (f := some) (fun _ _ => rfl) (by simp) (by omega)
  rw [h]; rfl
theorem q_eqStringS (x : List ByteArray) (hx : x.length < 9223372036854775807) : p_laws_eqStringS x x = some true := by
  unfold p_laws_eqStringS
  rw [if_pos (by simp)]
  have e : p_laws_eqStringS_l0 x x = eqStep x x fun a b => some (decide (a = b)) := by
    funext s
    unfold p_laws_eqStringS_l0 eqStep
    simp only [Option.bind_some]
  rw [e]
  obtain ⟨i, h⟩ := eq_loop (x := x) (g := fun a b => some (decide (a = b))) (fun a _ => by simp) hx
  rw [h]; rfl
theorem q_markStringS (x : List ByteArray) (n : Int) (h0 : 0 ≤ n) (hn : n + x.length < 4611686018427380000) : ∃ y, p_laws_markStringS x n = some ⟨n + x.length, y⟩ ∧ y.length = x.length ∧ ∀ j : Nat, j < x.length → y[j]? = some (mt (n + j)) := by
  unfold p_laws_markStringS
  obtain ⟨e, h1, y, i, rfl, h2, h3⟩ := loop_count (step := p_laws_markStringS_l0) x.length (fun i s => s.2.1 = n + (i : Int) ∧ s.2.2 = (i : Int) ∧ s.1.length = x.length ∧ ∀ j : Nat, j < i → s.1[j]? = some (mt (n + j)))
    (fun e => ∃ y i, e = .out (y, n + x.length, i) ∧ y.length = x.length ∧ ∀ j : Nat, j < x.length → y[j]? = some (mt (n + j))) (by
      rintro i ⟨s0, s1, s2⟩ hi ⟨h1, h2, h3, h4⟩
      simp only at h1 h2 h3 h4
      subst h1 h2
      obtain ⟨a, ha, ha'⟩ := get_lt (xs := s0) (i := i) (by omega)
      left
      refine ⟨(s0.set i (mt (n + i)), n + ((i + 1 : Nat) : Int), ((i + 1 : Nat) : Int)), ?_, rfl, rfl, by simpa using h3, ?_⟩
      · simp only [p_laws_markStringS_l0]
        rw [if_t (by simp; omega), mt_eq (by omega), Option.bind_some, ha, Option.bind_some, w64_succ (by omega), w64_id (by omega) (by omega), Int.toNat_natCast, show n + (i : Int) + 1 = n + ((i + 1 : Nat) : Int) from by omega]
      · intro j hj
        simp only [List.getElem?_set]
        by_cases e : i = j
        · subst e
          rw [if_pos rfl, if_pos (by omega)]
        · rw [if_neg e]; exact h4 j (by omega))
    (by
      rintro ⟨s0, s1, s2⟩ ⟨h1, h2, h3, h4⟩
      simp only at h1 h2 h3 h4
      subst h1 h2
      left
      refine ⟨(s0, n + (x.length : Int), (x.length : Int)), ?_, s0, x.length, rfl, h3, h4⟩
      simp only [p_laws_markStringS_l0]
      rw [if_f (by simp; omega)]) (s := (x, n, 0)) ⟨by simp, rfl, rfl, fun j hj => by omega⟩
  rw [h1]
  exact ⟨y, rfl, h2, h3⟩

theorem q_eqByteS (x : List U8) (hx : x.length ≤ 281474976710656) : p_laws_eqByteS x x = some true := by
  unfold p_laws_eqByteS
  rw [if_pos (by simp)]
  have e : p_laws_eqByteS_l0 x x = eqStep x x fun a b => some (decide (a.v = b.v)) := by
    funext s
    unfold p_laws_eqByteS_l0 eqStep
    simp only [Option.bind_some]
  rw [e]
  obtain ⟨i, h⟩ := eq_loop (x := x) (g := fun a b => some (decide (a.v = b.v))) (fun a _ => by simp) (by omega)
  rw [h]; rfl

theorem q_markByteS (x : List U8) (n : Int) (h0 : 0 ≤ n) (hn : n + x.length < 9223372036854775807) : ∃ y, p_laws_markByteS x n = some ⟨n + x.length, y⟩ ∧ y.length = x.length ∧ ∀ j : Nat, j < x.length → y[j]? = some ⟨IntKind.wrap .u8 (n + j)⟩ := by
  unfold p_laws_markByteS
  obtain ⟨e, h1, y, i, rfl, h2, h3⟩ := loop_count (step := p_laws_markByteS_l0) x.length (fun i s => s.2.1 = n + (i : Int) ∧ s.2.2 = (i : Int) ∧ s.1.length = x.length ∧ ∀ j : Nat, j < i → s.1[j]? = some ⟨IntKind.wrap .u8 (n + j)⟩)
    (fun e => ∃ y i, e = .out (y, n + x.length, i) ∧ y.length = x.length ∧ ∀ j : Nat, j < x.length → y[j]? = some ⟨IntKind.wrap .u8 (n + j)⟩) (by
      rintro i ⟨s0, s1, s2⟩ hi ⟨h1, h2, h3, h4⟩
      simp only at h1 h2 h3 h4
      subst h1 h2
      obtain ⟨a, ha, ha'⟩ := get_lt (xs := s0) (i := i) (by omega)
      have hd : decide ((i : Int) < (s0.length : Int)) = true := by simp; omega
      left
      refine ⟨(s0.set i ⟨IntKind.wrap .u8 (n + i)⟩, n + ((i + 1 : Nat) : Int), ((i + 1 : Nat) : Int)), ?_, rfl, rfl, by simpa using h3, ?_⟩
      · simp only [p_laws_markByteS_l0]
        rw [if_t hd, ha, Option.bind_some, w64_succ (by omega), w64_id (by omega) (by omega), Int.toNat_natCast, show n + (i : Int) + 1 = n + ((i + 1 : Nat) : Int) from by omega]
      · intro j hj
        simp only [List.getElem?_set]
        by_cases e : i = j
        · subst e
          rw [if_pos rfl, if_pos (by omega)]
        · rw [if_neg e]; exact h4 j (by omega))
    (by
      rintro ⟨s0, s1, s2⟩ ⟨h1, h2, h3, h4⟩
      simp only at h1 h2 h3 h4
      subst h1 h2
      have hd : decide ((x.length : Int) < (s0.length : Int)) = false := by simp; omega
      left
      refine ⟨(s0, n + (x.length : Int), (x.length : Int)), ?_, s0, x.length, rfl, h3, h4⟩
      simp only [p_laws_markByteS_l0]
      rw [if_f hd]) (s := (x, n, 0)) ⟨by simp, rfl, rfl, fun j hj => by omega⟩
  rw [h1]
  exact ⟨y, rfl, h2, h3⟩
theorem q_heldByteS (y : List U8) (n : Int) (h0 : 0 ≤ n) (hn : n + y.length < 9223372036854775807) (hy : ∀ j : Nat, j < y.length → y[j]? = some ⟨IntKind.wrap .u8 (n + j)⟩) : p_laws_heldByteS y n = some (n + y.length) := by
  unfold p_laws_heldByteS
  obtain ⟨e, h1, i, rfl⟩ := loop_count (step := p_laws_heldByteS_l0 y) y.length (fun i s => s.1 = n + (i : Int) ∧ s.2 = (i : Int)) (fun e => ∃ i, e = .out (n + y.length, i)) (by
      rintro i ⟨s0, s1⟩ hi ⟨h1, h2⟩
      simp only at h1 h2
      subst h1 h2
      obtain ⟨a, ha, ha'⟩ := get_lt (xs := y) (i := i) hi
      rw [hy i hi] at ha'
      cases ha'
      have hd : decide ((i : Int) < (y.length : Int)) = true := by simp; omega
      left
      refine ⟨(n + ((i + 1 : Nat) : Int), ((i + 1 : Nat) : Int)), ?_, rfl, rfl⟩
      simp only [p_laws_heldByteS_l0]
      rw [if_t hd, ha, Option.bind_some, if_pos (by simp), w64_succ (by omega), w64_id (by omega) (by omega), show n + (i : Int) + 1 = n + ((i + 1 : Nat) : Int) from by omega])
    (by
      rintro ⟨s0, s1⟩ ⟨h1, h2⟩
      simp only at h1 h2
      subst h1 h2
      have hd : decide ((y.length : Int) < (y.length : Int)) = false := by simp
      left
      refine ⟨(n + (y.length : Int), (y.length : Int)), ?_, y.length, rfl⟩
      simp only [p_laws_heldByteS_l0]
      rw [if_f hd]) (s := (n, 0)) ⟨by simp, rfl⟩
  rw [h1]; rfl

/-- A number in groups of seven bits. -/
def encN (v : Nat) : List U8 := if v < 128 then [⟨(v : Int)⟩] else ⟨((128 + v % 128 : Nat) : Int)⟩ :: encN (v / 128)
termination_by v
decreasing_by omega
theorem encN_lt {v : Nat} (h : v < 128) : encN v = [⟨(v : Int)⟩] := by rw [encN, if_pos h]
theorem encN_ge {v : Nat} (h : ¬ v < 128) : encN v = ⟨((128 + v % 128 : Nat) : Int)⟩ :: encN (v / 128) := by rw [encN, if_neg h]
theorem encN_len : ∀ (k v : Nat), v < 128 ^ (k + 1) → (encN v).length ≤ k + 1
  | 0, v, h => by rw [encN_lt (by simpa using h)]; simp
  | k + 1, v, h => by
    by_cases hv : v < 128
    · rw [encN_lt hv]; simp
    · rw [encN_ge hv]
      have := encN_len k (v / 128) (by rw [Nat.pow_succ] at h; omega)
      simp only [List.length_cons]
      omega
theorem encN_len9 {v : Nat} (h : v < 9223372036854775808) : (encN v).length ≤ 9 := encN_len 8 v (by simpa using h)
theorem encN_ok (v : Nat) : ∀ a, a ∈ encN v → 0 ≤ a.v ∧ a.v ≤ 255 := by
  induction v using Nat.strongRecOn with
  | ind v ih =>
    intro a ha
    by_cases hv : v < 128
    · rw [encN_lt hv] at ha
      rw [List.mem_singleton] at ha
      subst ha
      simp only
      omega
    · rw [encN_ge hv] at ha
      rcases List.mem_cons.1 ha with rfl | ha
      · simp only; omega
      · exact ih (v / 128) (by omega) a ha
theorem pN_step {n v : Nat} (hv : v < 9223372036854775808) (h128 : ¬ v < 128) : pN_spec_l01Put (n + 1) (v : Int) = (pN_spec_l01Put n ((v / 128 : Nat) : Int)).bind fun v1 => (app? 1 [⟨((128 + v % 128 : Nat) : Int)⟩] v1).bind fun v2 => some v2 := by
  show pB_spec_l01Put (pN_spec_l01Put n) (v : Int) = _
  unfold pB_spec_l01Put
  have e1 : w64 (Int.tdiv (v : Int) 128) = ((v / 128 : Nat) : Int) := by
    rw [Int.tdiv_eq_ediv_of_nonneg (by omega), w64_id (by omega) (by omega)]; omega
  have e2 : IntKind.wrap .u8 (w64 (128 + Int.tmod (v : Int) 128)) = ((128 + v % 128 : Nat) : Int) := by
    rw [Int.tmod_eq_emod_of_nonneg (by omega), w64_id (by omega) (by omega), wrap_u8_id (by omega) (by omega)]; omega
  rw [if_f (by simp; omega), e1, e2]
theorem pN_val : ∀ (n v : Nat), v < 9223372036854775808 → pN_spec_l01Put n (v : Int) = none ∨ pN_spec_l01Put n (v : Int) = some (encN v)
  | 0, v, _ => .inl rfl
  | n + 1, v, hv => by
    by_cases h128 : v < 128
    · right
      show pB_spec_l01Put (pN_spec_l01Put n) (v : Int) = _
      unfold pB_spec_l01Put
      rw [if_t (by simp; omega), encN_lt h128, wrap_u8_id (by omega) (by omega)]
    · rw [pN_step hv h128]
      rcases pN_val n (v / 128) (by omega) with h | h
      · left; rw [h]; rfl
      · right
        have := encN_len9 (v := v / 128) (by omega)
        rw [h, Option.bind_some, app_list (by simp only [List.length_cons, List.length_nil]; omega), encN_ge h128]; rfl
theorem pN_has : ∀ (n v : Nat), v < 9223372036854775808 → v < 128 ^ (n + 1) → pN_spec_l01Put (n + 1) (v : Int) = some (encN v)
  | 0, v, hv, h => by
    have h128 : v < 128 := by simpa using h
    show pB_spec_l01Put (pN_spec_l01Put 0) (v : Int) = _
    unfold pB_spec_l01Put
    rw [if_t (by simp; omega), encN_lt h128, wrap_u8_id (by omega) (by omega)]
  | n + 1, v, hv, h => by
    by_cases h128 : v < 128
    · show pB_spec_l01Put (pN_spec_l01Put (n + 1)) (v : Int) = _
      unfold pB_spec_l01Put
      rw [if_t (by simp; omega), encN_lt h128, wrap_u8_id (by omega) (by omega)]
    · rw [pN_step hv h128, pN_has n (v / 128) (by omega) (by rw [Nat.pow_succ] at h; omega), Option.bind_some]
      have := encN_len9 (v := v / 128) (by omega)
      rw [app_list (by simp only [List.length_cons, List.length_nil]; omega), encN_ge h128]; rfl
theorem q_l01Put {v : Nat} (hv : v < 9223372036854775808) : p_spec_l01Put (v : Int) = some (encN v) := by
  unfold p_spec_l01Put
  refine fixP_eq (n := 9) ?_ (pN_has 8 v hv (by simpa using hv))
  intro n m b c h1 h2
  rcases pN_val n v hv with h | h
  · rw [h] at h1; cases h1
  · rcases pN_val m v hv with h' | h'
    · rw [h'] at h2; cases h2
    · rw [h] at h1; rw [h'] at h2
      cases h1; cases h2; rfl

theorem q_appendLoop : ∀ (v : Nat) (b : List U8), v < 9223372036854775808 → b.length + (encN v).length ≤ 1099511627776 → ∃ b' v', loopP p_impl_appendInt_l0 (b, (v : Int)) = some (.out (b', v')) ∧ app? 1 b' [⟨IntKind.wrap .u8 v'⟩] = some (b ++ encN v) := by
  intro v
  induction v using Nat.strongRecOn with
  | ind v ih =>
    intro b hv hb
    by_cases h128 : v < 128
    · rw [encN_lt h128] at hb ⊢
      simp only [List.length_cons, List.length_nil] at hb
      refine ⟨b, (v : Int), loopP_out ?_, ?_⟩
      · simp only [p_impl_appendInt_l0]
        rw [if_f (by simp; omega)]
      · rw [wrap_u8_id (by omega) (by omega), app_one (by omega)]
    · rw [encN_ge h128] at hb ⊢
      simp only [List.length_cons] at hb
      have e1 : (orI .u8 (IntKind.wrap .u8 (andI .i64 (v : Int) 127)) 128) = ((128 + v % 128 : Nat) : Int) := by
        rw [and127_i64 (by omega) (by omega), wrap_u8_id (by omega) (by omega), or128_u8 (by omega) (by omega)]; omega
      have e2 : shr? .i64 (v : Int) 7 = some ((v / 128 : Nat) : Int) := by
        rw [shr7 (by omega)]; rfl
      have hst : p_impl_appendInt_l0 (b, (v : Int)) = some (.go (b ++ [⟨((128 + v % 128 : Nat) : Int)⟩], ((v / 128 : Nat) : Int))) := by
        simp only [p_impl_appendInt_l0]
        rw [if_t (by simp; omega), e1, app_one (by omega), Option.bind_some, e2, Option.bind_some]
      rw [loopP_go hst]
      obtain ⟨b', v', h1, h2⟩ := ih (v / 128) (by omega) (b ++ [⟨((128 + v % 128 : Nat) : Int)⟩]) (by omega) (by simp only [List.length_append, List.length_cons, List.length_nil]; omega)
      refine ⟨b', v', h1, ?_⟩
      rw [h2, List.append_assoc]; rfl
theorem q_appendInt {v : Nat} {b : List U8} (hv : v < 9223372036854775808) (hb : b.length + 9 ≤ 1099511627776) : p_impl_appendInt b (v : Int) = some (b ++ encN v) := by
  have := encN_len9 hv
  obtain ⟨b', v', h1, h2⟩ := q_appendLoop v b hv (by omega)
  unfold p_impl_appendInt
  rw [h1, Option.bind_some]
  simp only
  rw [h2]; rfl

theorem byte_lt {s : ByteArray} {i : Nat} (h : i < s.size) : ∃ b, byte? s (i : Int) = some b := by
  unfold byte?
  rw [if_pos (by omega), Int.toNat_natCast]
  have : i < s.data.size := h
  rw [Array.getElem?_eq_getElem this]
  exact ⟨_, rfl⟩
theorem q_alikeEx (a b : ByteArray) (ha : a.size ≤ 140737488351232) : ∃ k : Nat, p_spec_l01Alike a b = some (k : Int) ∧ k ≤ b.size ∧ k ≤ a.size := by
  unfold p_spec_l01Alike
  obtain ⟨e, h1, k, rfl, h2, h3⟩ := loop_count (step := p_spec_l01Alike_l0 a b) a.size (fun i s => s = (i : Int) ∧ i ≤ b.size ∧ i ≤ a.size) (fun e => ∃ k : Nat, e = .out (k : Int) ∧ k ≤ b.size ∧ k ≤ a.size) (by
    rintro i _ hi ⟨rfl, h2, h3⟩
    obtain ⟨c, hc⟩ := byte_lt hi
    simp only [p_spec_l01Alike_l0]
    rw [if_t (by simpa using hi)]
    by_cases hb : i < b.size
    · obtain ⟨d, hd⟩ := byte_lt hb
      rw [if_t (by simpa using hb), hc, Option.bind_some, hd, Option.bind_some, w64_succ (by omega)]
      by_cases he : c = d
      · rw [if_pos (decide_eq_true he)]
        exact .inl ⟨_, rfl, rfl, by omega, by omega⟩
      · rw [if_neg (by simpa using he)]
        exact .inr (.inl ⟨_, rfl, i, rfl, by omega, by omega⟩)
    · rw [if_f (by simpa using hb)]
      exact .inr (.inl ⟨_, rfl, i, rfl, by omega, by omega⟩))
    (by
    rintro _ ⟨rfl, h2, h3⟩
    simp only [p_spec_l01Alike_l0]
    rw [if_f (by simp)]
    exact .inl ⟨_, rfl, a.size, rfl, h2, h3⟩) (s := 0) ⟨rfl, by omega, by omega⟩
  rw [h1]
  exact ⟨k, rfl, h2, h3⟩
/-- How many bytes two texts share at the beginning. -/
noncomputable def alike (a b : ByteArray) : Nat := ((p_spec_l01Alike a b).getD 0).toNat
theorem q_alike (a b : ByteArray) (ha : a.size ≤ 140737488351232) : p_spec_l01Alike a b = some (alike a b : Int) ∧ alike a b ≤ b.size ∧ alike a b ≤ a.size := by
  obtain ⟨k, h1, h2, h3⟩ := q_alikeEx a b ha
  have : alike a b = k := by unfold alike; rw [h1]; simp
  rw [this]
  exact ⟨h1, h2, h3⟩
theorem q_common (a b : ByteArray) : p_impl_common a b = p_spec_l01Alike a b := rfl
/-- What is written for a text behind another. -/
noncomputable def txtB (p t : ByteArray) : List U8 := encN (alike p t) ++ (encN (t.size - alike p t) ++ bytesL (t.extract (alike p t) t.size))
noncomputable def textsB : ByteArray → List ByteArray → List U8
  | _, [] => []
  | p, t :: ts => txtB p t ++ textsB t ts
def tot : List ByteArray → Nat
  | [] => 0
  | t :: ts => t.size + tot ts
theorem txtB_len {p t : ByteArray} (hp : p.size ≤ 140737488351232) (ht : t.size ≤ 140737488351232) : (txtB p t).length ≤ 18 + t.size := by
  obtain ⟨_, h2, _⟩ := q_alike p t hp
  unfold txtB
  have e1 := encN_len9 (v := alike p t) (by omega)
  have e2 := encN_len9 (v := t.size - alike p t) (by omega)
  simp only [List.length_append, bytesL_len, ByteArray.size_extract]
  omega
theorem textsB_len : ∀ {l : List ByteArray} {p : ByteArray}, p.size ≤ 140737488351232 → (∀ t, t ∈ l → t.size ≤ 140737488351232) → (textsB p l).length ≤ 18 * l.length + tot l
  | [], p, _, _ => by simp [textsB]
  | t :: ts, p, hp, h => by
    have ht := h t (by simp)
    have h1 := txtB_len hp ht
    have h2 := textsB_len (l := ts) ht fun t ht => h t (by simp [ht])
    unfold textsB tot
    simp only [List.length_append, List.length_cons]
    omega
theorem q_txtStep {x : List ByteArray} (hl : x.length ≤ 4096) {i : Nat} {t p : ByteArray} (hi : x[i]? = some t) {s : List U8} (hp : p.size ≤ 140737488351232) (ht : t.size ≤ 140737488351232) (hs : s.length + t.size ≤ 140737488000000) :
    p_spec_l01PutTexts_l0 x (s, p, (i : Int)) = some (if 1048576 < (s ++ txtB p t).length then .ret (s ++ txtB p t) else .go (s ++ txtB p t, t, ((i + 1 : Nat) : Int))) ∧
    (s.length ≤ 10000000 → p_impl_appendTexts_l0 x (s, p, (i : Int)) = some (.go (s ++ txtB p t, t, ((i + 1 : Nat) : Int)))) := by
  have hlt := (List.getElem?_eq_some_iff.1 hi).1
  have hg : get? x (i : Int) = some t := by rw [get_nat]; exact hi
  obtain ⟨h1, h2, h3⟩ := q_alike p t hp
  have e1 := encN_len9 (v := alike p t) (by omega)
  have e2 := encN_len9 (v := t.size - alike p t) (by omega)
  have hsub : w64 ((t.size : Int) - (alike p t : Int)) = ((t.size - alike p t : Nat) : Int) := by rw [w64_id (by omega) (by omega)]; omega
  have hcut : cutS? t (alike p t : Int) (t.size : Int) = some (t.extract (alike p t) t.size) := by
    unfold cutS?
    rw [if_pos ⟨by omega, by omega, by omega⟩]; rfl
  have hbl : (bytesL (t.extract (alike p t) t.size)).length ≤ t.size := by rw [bytesL_len, ByteArray.size_extract]; omega
  constructor
  · simp only [p_spec_l01PutTexts_l0]
    rw [if_t (by simpa using hlt), hg, Option.bind_some, h1, Option.bind_some, q_l01Put (by omega), Option.bind_some, app_list (by omega), Option.bind_some, hsub, q_l01Put (by omega), Option.bind_some, app_list (by rw [List.length_append]; omega), Option.bind_some, hcut, Option.bind_some,
      app_list (by simp only [List.length_append]; omega), Option.bind_some, w64_succ (by omega)]
    have e : s ++ encN (alike p t) ++ encN (t.size - alike p t) ++ bytesL (t.extract (alike p t) t.size) = s ++ txtB p t := by unfold txtB; simp only [List.append_assoc]
    rw [e]
    by_cases hc : 1048576 < (s ++ txtB p t).length
    · rw [if_pos hc, if_pos (decide_eq_true (by omega))]
    · rw [if_neg hc, if_neg (by rw [decide_eq_true_eq]; omega)]
  · intro hs2
    simp only [p_impl_appendTexts_l0]
    rw [if_t (by simpa using hlt), hg, Option.bind_some, q_common, h1, Option.bind_some, q_appendInt (by omega) (by omega), Option.bind_some, hsub, q_appendInt (by omega) (by rw [List.length_append]; omega), Option.bind_some, hcut, Option.bind_some,
      app_list (by simp only [List.length_append]; omega), Option.bind_some, w64_succ (by omega)]
    have e : s ++ encN (alike p t) ++ encN (t.size - alike p t) ++ bytesL (t.extract (alike p t) t.size) = s ++ txtB p t := by unfold txtB; simp only [List.append_assoc]
    rw [e]
theorem q_txtSpec {x : List ByteArray} (hl : x.length ≤ 4096) (hx : ∀ t, t ∈ x → t.size ≤ 1048576) : ∀ (l : List ByteArray) (i : Nat) (p : ByteArray) (s : List U8), x.drop i = l → i ≤ x.length → p.size ≤ 1048576 → s.length ≤ 1048576 →
    (∃ q j, loopP (p_spec_l01PutTexts_l0 x) (s, p, (i : Int)) = some (.out (s ++ textsB p l, q, j)) ∧ (s ++ textsB p l).length ≤ 1048576) ∨ ∃ v, loopP (p_spec_l01PutTexts_l0 x) (s, p, (i : Int)) = some (.ret v) ∧ 1048576 < v.length ∧ v.length ≤ (s ++ textsB p l).length := by
  intro l
  induction l with
  | nil =>
    intro i p s hd hi hp hs
    have : i = x.length := by have := congrArg List.length hd; simp at this; omega
    left
    refine ⟨p, (i : Int), ?_, by simpa [textsB] using hs⟩
    refine loopP_out ?_
    simp only [p_spec_l01PutTexts_l0]
    rw [if_f (by simp; omega)]
    simp [textsB]
  | cons t ts ih =>
    intro i p s hd hi hp hs
    have hget : x[i]? = some t := by
      have : (x.drop i)[0]? = some t := by rw [hd]; rfl
      simpa using this
    have htm := hx t (List.mem_of_getElem? hget)
    have hlt := (List.getElem?_eq_some_iff.1 hget).1
    obtain ⟨h1, _⟩ := q_txtStep hl hget (p := p) (s := s) (by omega) (by omega) (by omega)
    by_cases hc : 1048576 < (s ++ txtB p t).length
    · rw [if_pos hc] at h1
      right
      refine ⟨_, loopP_ret h1, hc, ?_⟩
      unfold textsB
      simp only [List.length_append]
      omega
    · rw [if_neg hc] at h1
      rw [loopP_go h1]
      have hd' : x.drop (i + 1) = ts := by rw [← List.drop_drop, hd]; rfl
      have := ih (i + 1) t (s ++ txtB p t) hd' (by omega) htm (by omega)
      unfold textsB
      rw [← List.append_assoc]
      exact this
theorem q_txtImpl {x : List ByteArray} (hl : x.length ≤ 4096) (hx : ∀ t, t ∈ x → t.size ≤ 1048576) : ∀ (l : List ByteArray) (i : Nat) (p : ByteArray) (s : List U8), x.drop i = l → i ≤ x.length → p.size ≤ 1048576 → s.length + 18 * l.length + tot l ≤ 10000000 →
    ∃ q j, loopP (p_impl_appendTexts_l0 x) (s, p, (i : Int)) = some (.out (s ++ textsB p l, q, j)) := by
  intro l
  induction l with
  | nil =>
    intro i p s hd hi hp hs
    have : i = x.length := by have := congrArg List.length hd; simp at this; omega
    refine ⟨p, (i : Int), ?_⟩
    refine loopP_out ?_
    simp only [p_impl_appendTexts_l0]
    rw [if_f (by simp; omega)]
    simp [textsB]
  | cons t ts ih =>
    intro i p s hd hi hp hs
    have hget : x[i]? = some t := by
      have : (x.drop i)[0]? = some t := by rw [hd]; rfl
      simpa using this
    have htm := hx t (List.mem_of_getElem? hget)
    have hlt := (List.getElem?_eq_some_iff.1 hget).1
    unfold tot at hs
    simp only [List.length_cons] at hs
    obtain ⟨_, h1⟩ := q_txtStep hl hget (p := p) (s := s) (by omega) (by omega) (by omega)
    rw [loopP_go (h1 (by omega))]
    have hd' : x.drop (i + 1) = ts := by rw [← List.drop_drop, hd]; rfl
    have hb := txtB_len (p := p) (t := t) (by omega) (by omega)
    have := ih (i + 1) t (s ++ txtB p t) hd' (by omega) htm (by rw [List.length_append]; omega)
    unfold textsB
    rw [← List.append_assoc]
    exact this
/-- What is written for a list of texts. -/
noncomputable def encTexts (x : List ByteArray) : List U8 := encN x.length ++ textsB (ByteArray.mk #[]) x
theorem q_appendTexts {x : List ByteArray} (hl : x.length ≤ 4096) (hx : ∀ t, t ∈ x → t.size ≤ 1048576) (ht : tot x ≤ 1048576) {b : List U8} (hb : b.length ≤ 4000000) : p_impl_appendTexts b x = some (b ++ encTexts x) := by
  unfold p_impl_appendTexts encTexts
  have h1 := encN_len9 (v := x.length) (by omega)
  rw [q_appendInt (by omega) (by omega), Option.bind_some]
  obtain ⟨q, j, r⟩ := q_txtImpl hl hx x 0 (ByteArray.mk #[]) (b ++ encN x.length) rfl (by omega) (by decide) (by rw [List.length_append]; omega)
  rw [show (0 : Int) = ((0 : Nat) : Int) from rfl, r, List.append_assoc]; rfl
theorem q_putTexts {x : List ByteArray} (hl : x.length ≤ 4096) (hx : ∀ t, t ∈ x → t.size ≤ 1048576) : (p_spec_l01PutTexts x = some (encTexts x) ∧ (encTexts x).length ≤ 1048576) ∨ ∃ v, p_spec_l01PutTexts x = some v ∧ 1048576 < v.length ∧ v.length ≤ (encTexts x).length := by
  unfold p_spec_l01PutTexts encTexts
  have h1 := encN_len9 (v := x.length) (by omega)
  rw [q_l01Put (by omega), Option.bind_some]
  rcases q_txtSpec hl hx x 0 (ByteArray.mk #[]) (encN x.length) rfl (by omega) (by decide) (by omega) with ⟨q, j, r, r2⟩ | ⟨v, r, r2, r3⟩
  · left
    rw [show (0 : Int) = ((0 : Nat) : Int) from rfl, r]
    exact ⟨rfl, r2⟩
  · right
    rw [show (0 : Int) = ((0 : Nat) : Int) from rfl, r]
    exact ⟨v, rfl, r2, r3⟩
theorem tot_mem : ∀ {l : List ByteArray} {t : ByteArray}, t ∈ l → t.size ≤ tot l
  | a :: l, t, h => by
    unfold tot
    rcases List.mem_cons.1 h with rfl | h
    · omega
    · have := tot_mem h; omega
theorem tot_snoc : ∀ (l : List ByteArray) (t : ByteArray), tot (l ++ [t]) = tot l + t.size
  | [], t => by simp [tot]
  | a :: l, t => by rw [List.cons_append]; unfold tot; rw [tot_snoc l t]; omega
theorem tot_le : ∀ {l : List ByteArray}, (∀ t, t ∈ l → t.size ≤ 140737488351232) → tot l ≤ 140737488351232 * l.length
  | [], _ => by simp [tot]
  | a :: l, h => by
    have h1 := h a (by simp)
    have h2 := tot_le (l := l) fun t ht => h t (by simp [ht])
    unfold tot
    rw [List.length_cons]
    omega
theorem tot_take_le : ∀ (l : List ByteArray) (i : Nat), tot (l.take i) ≤ tot l
  | [], i => by simp
  | a :: l, 0 => by simp [tot]
  | a :: l, i + 1 => by
    rw [List.take_succ_cons]
    unfold tot
    have := tot_take_le l i
    omega

theorem q_sumSpec (x : List ByteArray) (hl : x.length ≤ 4096) (hx : ∀ t, t ∈ x → t.size ≤ 140737488351232) : ∃ i, loopP (p_spec_PutTexts_l0 x) (0, 0) = some (.out ((tot x : Int), i)) := by
  have htot := tot_le hx
  obtain ⟨e, h1, i, rfl⟩ := loop_count (step := p_spec_PutTexts_l0 x) x.length (fun i s => s.2 = (i : Int) ∧ s.1 = (tot (x.take i) : Int)) (fun e => ∃ i, e = .out ((tot x : Int), i)) (by
    rintro i ⟨s1, s2⟩ hi ⟨h1, h2⟩
    simp only at h1 h2
    subst h1 h2
    obtain ⟨a, ha, ha'⟩ := get_lt (xs := x) hi
    have h3 := tot_take_le x i
    have h4 := hx a (List.mem_of_getElem? ha')
    simp only [p_spec_PutTexts_l0]
    rw [if_t (by simpa using hi), ha, Option.bind_some, w64_succ (by omega), w64_id (by omega) (by omega)]
    refine .inl ⟨_, rfl, rfl, ?_⟩
    simp only
    rw [take_next ha', tot_snoc]; omega)
    (by
    rintro ⟨s1, s2⟩ ⟨h1, h2⟩
    simp only at h1 h2
    subst h1 h2
    simp only [p_spec_PutTexts_l0]
    rw [if_f (by simp), List.take_length]
    exact .inl ⟨_, rfl, _, rfl⟩) (s := (0, 0)) ⟨rfl, by simp [tot]⟩
  exact ⟨i, h1⟩
theorem q_sumImpl (x : List ByteArray) (hl : x.length ≤ 4096) (hx : ∀ t, t ∈ x → t.size ≤ 140737488351232) : (tot x ≤ 1048576 ∧ ∃ s, loopP (p_impl_PutTexts_l0 x) (0, 0) = some (.out s)) ∨ (1048576 < tot x ∧ loopP (p_impl_PutTexts_l0 x) (0, 0) = some (.ret ⟨[], 2⟩)) := by
  have htot := tot_le hx
  obtain ⟨e, h1, h2⟩ := loop_count (step := p_impl_PutTexts_l0 x) x.length (fun i s => s.2 = (i : Int) ∧ s.1 = (tot (x.take i) : Int) ∧ tot (x.take i) ≤ 1048576) (fun e => (tot x ≤ 1048576 ∧ ∃ s, e = .out s) ∨ (1048576 < tot x ∧ e = .ret ⟨[], 2⟩)) (by
    rintro i ⟨s1, s2⟩ hi ⟨h1, h2, h3⟩
    simp only at h1 h2
    subst h1 h2
    obtain ⟨a, ha, ha'⟩ := get_lt (xs := x) hi
    have h4 := hx a (List.mem_of_getElem? ha')
    have h5 := tot_take_le x (i + 1)
    rw [take_next ha', tot_snoc] at h5
    simp only [p_impl_PutTexts_l0]
    rw [if_t (by simpa using hi), ha, Option.bind_some, w64_succ (by omega), w64_id (by omega) (by omega)]
    by_cases hc : 1048576 < (tot (x.take i) : Int) + (a.size : Int)
    · rw [if_pos (decide_eq_true hc)]
      exact .inr (.inr ⟨_, rfl, .inr ⟨by omega, rfl⟩⟩)
    · rw [if_neg (by simpa using hc)]
      refine .inl ⟨_, rfl, rfl, ?_, ?_⟩
      · simp only
        rw [take_next ha', tot_snoc]; omega
      · rw [take_next ha', tot_snoc]; omega)
    (by
    rintro ⟨s1, s2⟩ ⟨h1, h2, h3⟩
    simp only at h1 h2
    subst h1 h2
    simp only [p_impl_PutTexts_l0]
    rw [if_f (by simp)]
    rw [List.take_length] at h3
    exact .inl ⟨_, rfl, .inl ⟨h3, _, rfl⟩⟩) (s := (0, 0)) ⟨rfl, by simp [tot], by simp [tot]⟩
  rcases h2 with ⟨h2, s, rfl⟩ | ⟨h2, rfl⟩
  · exact .inl ⟨h2, s, h1⟩
  · exact .inr ⟨h2, h1⟩
theorem q_PutTexts (x : List ByteArray) (hx : ∀ t, t ∈ x → t.size ≤ 140737488351232) : ∃ r, p_spec_PutTexts x = some r ∧ p_impl_PutTexts x = some r ∧ r.a.length ≤ 1048576 := by
  unfold p_spec_PutTexts p_impl_PutTexts
  by_cases hl : 4096 < (x.length : Int)
  · simp only [hl, decide_true, if_true]; exact ⟨_, rfl, rfl, by simp⟩
  · simp only [hl, decide_false, Bool.false_eq_true, if_false]
    have hl' : x.length ≤ 4096 := by omega
    obtain ⟨i, h1⟩ := q_sumSpec x hl' hx
    rw [h1]
    rcases q_sumImpl x hl' hx with ⟨h2, ⟨s1, s2⟩, h3⟩ | ⟨h2, h3⟩
    · rw [h3]
      have hn : ¬ (1048576 < (tot x : Int)) := by omega
      simp only [Option.bind_some, hn, decide_false, Bool.false_eq_true, if_false]
      have hx' : ∀ t, t ∈ x → t.size ≤ 1048576 := fun t ht => Nat.le_trans (tot_mem ht) h2
      rw [q_appendTexts hl' hx' h2 (by simp)]
      simp only [Option.bind_some, List.nil_append]
      rcases q_putTexts hl' hx' with ⟨h4, h5⟩ | ⟨v, h4, h5, h6⟩
      · have hn2 : ¬ (1048576 < ((encTexts x).length : Int)) := by omega
        simp only [h4, Option.bind_some, hn2, decide_false, Bool.false_eq_true, if_false]
        exact ⟨_, rfl, rfl, h5⟩
      · have hn2 : 1048576 < (v.length : Int) := by omega
        have hn3 : 1048576 < ((encTexts x).length : Int) := by omega
        simp only [h4, Option.bind_some, hn2, hn3, decide_true, if_true]
        exact ⟨_, rfl, rfl, by simp⟩
    · rw [h3]
      have hn : 1048576 < (tot x : Int) := by omega
      simp only [Option.bind_some, hn, decide_true, if_true]
      exact ⟨_, rfl, rfl, by simp⟩
theorem plain_PutTexts (x : List ByteArray) (hx : x.length * 16 ≤ reachBytes ∧ ∀ a, a ∈ x → a.size ≤ reachBytes) : p_laws_FnExactPutTexts x = some true := by
  unfold p_laws_FnExactPutTexts
  obtain ⟨hx1, hx2⟩ := hx
  have q0 := q_toStringS x hx1
  rw [reach_eq] at hx1 hx2
  obtain ⟨m, h1⟩ := q_szStringS x 1048576 (by omega)
  obtain ⟨r, h3, h4, hr⟩ := q_PutTexts x hx2
  obtain ⟨x', h5, _⟩ := q_markStringS x 1 (by omega) (by omega)
  obtain ⟨g, h7, h8, h9⟩ := q_markByteS r.a 1 (by omega) (by omega)
  have h10 := q_heldByteS g 1 (by omega) (by omega) (by rw [h8]; exact h9)
  rw [h8] at h10
  have hn : ¬ (1 + (x.length : Int) < 0) := by omega
  have hn' : ¬ (1 + (r.a.length : Int) < 0) := by omega
  simp only [h1, q0, h3, h4, h5, h7, h10, q_eqStringS x (by omega), q_eqByteS r.a (by omega), Option.bind_some, decide_true, if_true, decide_eq_true_eq, hn, hn', if_false]
  repeat' split
  all_goals rfl
end Go.AM
