/- The plain law of PutRuns. No condition. -/
import Derived.Test.YtjnkmdphjopboaaLabGPutRuns
import Derived.Test.YtjnkmdphjopboaaLabL3
set_option linter.unusedVariables false
set_option linter.unusedSimpArgs false
namespace Go.AM

theorem q_toIntS (x : List Int) (hx : x.length * 8 ≤ reachBytes) : p_laws_toIntS x = some x := by
  rw [reach_eq] at hx
  unfold p_laws_toIntS
  rw [show (8 : Int) = ((8 : Nat) : Int) from rfl, mkL_ok (by omega) (by omega), Option.bind_some]
  have e : p_laws_toIntS_l0 x = copyStep x some := rfl
  rw [e]
  obtain ⟨i, h⟩ := copy_loop (ρ := List Int) (x := x) (v := List.replicate x.length 0) (f := some) (fun _ _ => rfl) (by simp) (by omega)
  rw [h]; rfl
theorem q_eqIntS (x : List Int) (hx : x.length * 8 ≤ reachBytes) : p_laws_eqIntS x x = some true := by
  rw [reach_eq] at hx
  unfold p_laws_eqIntS
  rw [if_pos (by simp)]
  have e : p_laws_eqIntS_l0 x x = eqStep x x fun a b => some (decide (a = b)) := by
    funext s
    unfold p_laws_eqIntS_l0 eqStep
    simp only [Option.bind_some]
  rw [e]
  obtain ⟨i, h⟩ := eq_loop (x := x) (g := fun a b => some (decide (a = b))) (fun a _ => by simp) (by omega)
  rw [h]; rfl

theorem q_markIntS (x : List Int) (n : Int) (h0 : 0 ≤ n) (hn : n + x.length < 9223372036854775807) : ∃ y, p_laws_markIntS x n = some ⟨n + x.length, y⟩ ∧ y.length = x.length ∧ ∀ j : Nat, j < x.length → y[j]? = some (n + j) := by
  unfold p_laws_markIntS
  obtain ⟨e, h1, y, i, rfl, h2, h3⟩ := loop_count (step := p_laws_markIntS_l0) x.length (fun i s => s.2.1 = n + (i : Int) ∧ s.2.2 = (i : Int) ∧ s.1.length = x.length ∧ ∀ j : Nat, j < i → s.1[j]? = some (n + j))
    (fun e => ∃ y i, e = .out (y, n + x.length, i) ∧ y.length = x.length ∧ ∀ j : Nat, j < x.length → y[j]? = some (n + j)) (by
      rintro i ⟨s0, s1, s2⟩ hi ⟨h1, h2, h3, h4⟩
      simp only at h1 h2 h3 h4
      subst h1 h2
      obtain ⟨a, ha, ha'⟩ := get_lt (xs := s0) (i := i) (by omega)
      have hd : decide ((i : Int) < (s0.length : Int)) = true := by simp; omega
      left
      refine ⟨(s0.set i (n + i), n + ((i + 1 : Nat) : Int), ((i + 1 : Nat) : Int)), ?_, rfl, rfl, by simpa using h3, ?_⟩
      · simp only [p_laws_markIntS_l0]
        rw [if_t hd, ha, Option.bind_some, w64_succ (by omega), w64_id (by omega) (by omega), Int.toNat_natCast, show n + (i : Int) + 1 = n + ((i + 1 : Nat) : Int) from by omega]
      · intro j hj
        simp only [List.getElem?_set]
        by_cases e : i = j
        · subst e
          rw [if_pos rfl, if_pos (by omega)]
        · rw [if_neg e]; exact h4 j (by omega))
    (by
      rintro ⟨s0, s1, s2⟩ ⟨h1, h2, h3, h4⟩
      simp only at h1 h2 h3 h4
      subst h1 h2
      have hd : decide ((x.length : Int) < (s0.length : Int)) = false := by simp; omega
      left
      refine ⟨(s0, n + (x.length : Int), (x.length : Int)), ?_, s0, x.length, rfl, h3, h4⟩
      simp only [p_laws_markIntS_l0]
      rw [if_f hd]) (s := (x, n, 0)) ⟨by simp, rfl, rfl, fun j hj => by omega⟩
  rw [h1]
  exact ⟨y, rfl, h2, h3⟩

theorem q_eqByteS (x : List U8) (hx : x.length ≤ 281474976710656) : p_laws_eqByteS x x = some true := by
  unfold p_laws_eqByteS
  rw [if_pos (by simp)]
  have e : p_laws_eqByteS_l0 x x = eqStep x x fun a b => some (decide (a.v = b.v)) := by
    funext s
    unfold p_laws_eqByteS_l0 eqStep
    simp only [Option.bind_some]
  rw [e]
  obtain ⟨i, h⟩ := eq_loop (x := x) (g := fun a b => some (decide (a.v = b.v))) (fun a _ => by simp) (by omega)
  rw [h]; rfl

theorem q_markByteS (x : List U8) (n : Int) (h0 : 0 ≤ n) (hn : n + x.length < 9223372036854775807) : ∃ y, p_laws_markByteS x n = some ⟨n + x.length, y⟩ ∧ y.length = x.length ∧ ∀ j : Nat, j < x.length → y[j]? = some ⟨IntKind.wrap .u8 (n + j)⟩ := by
  unfold p_laws_markByteS
  obtain ⟨e, h1, y, i, rfl, h2, h3⟩ := loop_count (step := p_laws_markByteS_l0) x.length (fun i s => s.2.1 = n + (i : Int) ∧ s.2.2 = (i : Int) ∧ s.1.length = x.length ∧ ∀ j : Nat, j < i → s.1[j]? = some ⟨IntKind.wrap .u8 (n + j)⟩)
    (fun e => ∃ y i, e = .out (y, n + x.length, i) ∧ y.length = x.length ∧ ∀ j : Nat, j < x.length → y[j]? = some ⟨IntKind.wrap .u8 (n + j)⟩) (by
      rintro i ⟨s0, s1, s2⟩ hi ⟨h1, h2, h3, h4⟩
      simp only at h1 h2 h3 h4
      subst h1 h2
      obtain ⟨a, ha, ha'⟩ := get_lt (xs := s0) (i := i) (by omega)
      have hd : decide ((i : Int) < (s0.length : Int)) = true := by simp; omega
      left
      refine ⟨(s0.set i ⟨IntKind.wrap .u8 (n + i)⟩, n + ((i + 1 : Nat) : Int), ((i + 1 : Nat) : Int)), ?_, rfl, rfl, by simpa using h3, ?_⟩
      · simp only [p_laws_markByteS_l0]
        rw [if_t hd, ha, Option.bind_some, w64_succ (by omega), w64_id (by omega) (by omega), Int.toNat_natCast, show n + (i : Int) + 1 = n + ((i + 1 : Nat) : Int) from by omega]
      · intro j hj
        simp only [List.getElem?_set]
        by_cases e : i = j
        · subst e
          rw [if_pos rfl, if_pos (by omega)]
        · rw [if_neg e]; exact h4 j (by omega))
    (by
      rintro ⟨s0, s1, s2⟩ ⟨h1, h2, h3, h4⟩
      simp only at h1 h2 h3 h4
      subst h1 h2
      have hd : decide ((x.length : Int) < (s0.length : Int)) = false := by simp; omega
      left
      refine ⟨(s0, n + (x.length : Int), (x.length : Int)), ?_, s0, x.length, rfl, h3, h4⟩
      simp only [p_laws_markByteS_l0]
      rw [if_f hd]) (s := (x, n, 0)) ⟨by simp, rfl, rfl, fun j hj => by omega⟩
  rw [h1]
  exact ⟨y, rfl, h2, h3⟩
theorem q_heldByteS (y : List U8) (n : Int) (h0 : 0 ≤ n) (hn : n + y.length < 9223372036854775807) (hy : ∀ j : Nat, j < y.length → y[j]? = some ⟨IntKind.wrap .u8 (n + j)⟩) : p_laws_heldByteS y n = some (n + y.length) := by
  unfold p_laws_heldByteS
  obtain ⟨e, h1, i, rfl⟩ := loop_count (step := p_laws_heldByteS_l0 y) y.length (fun i s => s.1 = n + (i : Int) ∧ s.2 = (i : Int)) (fun e => ∃ i, e = .out (n + y.length, i)) (by
      rintro i ⟨s0, s1⟩ hi ⟨h1, h2⟩
      simp only at h1 h2
      subst h1 h2
      obtain ⟨a, ha, ha'⟩ := get_lt (xs := y) (i := i) hi
      rw [hy i hi] at ha'
      cases ha'
      have hd : decide ((i : Int) < (y.length : Int)) = true := by simp; omega
      left
      refine ⟨(n + ((i + 1 : Nat) : Int), ((i + 1 : Nat) : Int)), ?_, rfl, rfl⟩
      simp only [p_laws_heldByteS_l0]
      rw [if_t hd, ha, Option.bind_some, if_pos (by simp), w64_succ (by omega), w64_id (by omega) (by omega), show n + (i : Int) + 1 = n + ((i + 1 : Nat) : Int) from by omega])
    (by
      rintro ⟨s0, s1⟩ ⟨h1, h2⟩
      simp only at h1 h2
      subst h1 h2
      have hd : decide ((y.length : Int) < (y.length : Int)) = false := by simp
      left
      refine ⟨(n + (y.length : Int), (y.length : Int)), ?_, y.length, rfl⟩
      simp only [p_laws_heldByteS_l0]
      rw [if_f hd]) (s := (n, 0)) ⟨by simp, rfl⟩
  rw [h1]; rfl

/-- A number in groups of seven bits. -/
def encN (v : Nat) : List U8 := if v < 128 then [⟨(v : Int)⟩] else ⟨((128 + v % 128 : Nat) : Int)⟩ :: encN (v / 128)
termination_by v
decreasing_by omega
theorem encN_lt {v : Nat} (h : v < 128) : encN v = [⟨(v : Int)⟩] := by rw [encN, if_pos h]
theorem encN_ge {v : Nat} (h : ¬ v < 128) : encN v = ⟨((128 + v % 128 : Nat) : Int)⟩ :: encN (v / 128) := by rw [encN, if_neg h]
theorem encN_len : ∀ (k v : Nat), v < 128 ^ (k + 1) → (encN v).length ≤ k + 1
  | 0, v, h => by rw [encN_lt (by simpa using h)]; simp
  | k + 1, v, h => by
    by_cases hv : v < 128
    · rw [encN_lt hv]; simp
    · rw [encN_ge hv]
      have := encN_len k (v / 128) (by rw [Nat.pow_succ] at h; omega)
      simp only [List.length_cons]
      omega
theorem encN_len9 {v : Nat} (h : v < 9223372036854775808) : (encN v).length ≤ 9 := encN_len 8 v (by simpa using h)
theorem encN_ok (v : Nat) : ∀ a, a ∈ encN v → 0 ≤ a.v ∧ a.v ≤ 255 := by
  induction v using Nat.strongRecOn with
  | ind v ih =>
    intro a ha
    by_cases hv : v < 128
    · rw [encN_lt hv] at ha
      rw [List.mem_singleton] at ha
      subst ha
      simp only
      omega
    · rw [encN_ge hv] at ha
      rcases List.mem_cons.1 ha with rfl | ha
      · simp only; omega
      · exact ih (v / 128) (by omega) a ha
theorem pN_step {n v : Nat} (hv : v < 9223372036854775808) (h128 : ¬ v < 128) : pN_spec_l01Put (n + 1) (v : Int) = (pN_spec_l01Put n ((v / 128 : Nat) : Int)).bind fun v1 => (app? 1 [⟨((128 + v % 128 : Nat) : Int)⟩] v1).bind fun v2 => some v2 := by
  show pB_spec_l01Put (pN_spec_l01Put n) (v : Int) = _
  unfold pB_spec_l01Put
  have e1 : w64 (Int.tdiv (v : Int) 128) = ((v / 128 : Nat) : Int) := by
    rw [Int.tdiv_eq_ediv_of_nonneg (by omega), w64_id (by omega) (by omega)]; omega
  have e2 : IntKind.wrap .u8 (w64 (128 + Int.tmod (v : Int) 128)) = ((128 + v % 128 : Nat) : Int) := by
    rw [Int.tmod_eq_emod_of_nonneg (by omega), w64_id (by omega) (by omega), wrap_u8_id (by omega) (by omega)]; omega
  rw [if_f (by simp; omega), e1, e2]
theorem pN_val : ∀ (n v : Nat), v < 9223372036854775808 → pN_spec_l01Put n (v : Int) = none ∨ pN_spec_l01Put n (v : Int) = some (encN v)
  | 0, v, _ => .inl rfl
  | n + 1, v, hv => by
    by_cases h128 : v < 128
    · right
      show pB_spec_l01Put (pN_spec_l01Put n) (v : Int) = _
      unfold pB_spec_l01Put
      rw [if_t (by simp; omega), encN_lt h128, wrap_u8_id (by omega) (by omega)]
    · rw [pN_step hv h128]
      rcases pN_val n (v / 128) (by omega) with h | h
      · left; rw [h]; rfl
      · right
        have := encN_len9 (v := v / 128) (by omega)
        rw [h, Option.bind_some, app_list (by simp only [List.length_cons, List.length_nil]; omega), encN_ge h128]; rfl
theorem pN_has : ∀ (n v : Nat), v < 9223372036854775808 → v < 128 ^ (n + 1) → pN_spec_l01Put (n + 1) (v : Int) = some (encN v)
  | 0, v, hv, h => by
    have h128 : v < 128 := by simpa using h
    show pB_spec_l01Put (pN_spec_l01Put 0) (v : Int) = _
    unfold pB_spec_l01Put
    rw [if_t (by simp; omega), encN_lt h128, wrap_u8_id (by omega) (by omega)]
  | n + 1, v, hv, h => by
    by_cases h128 : v < 128
    · show pB_spec_l01Put (pN_spec_l01Put (n + 1)) (v : Int) = _
      unfold pB_spec_l01Put
      rw [if_t (by simp; omega), encN_lt h128, wrap_u8_id (by omega) (by omega)]
    · rw [pN_step hv h128, pN_has n (v / 128) (by omega) (by rw [Nat.pow_succ] at h; omega), Option.bind_some]
      have := encN_len9 (v := v / 128) (by omega)
      rw [app_list (by simp only [List.length_cons, List.length_nil]; omega), encN_ge h128]; rfl
theorem q_l01Put {v : Nat} (hv : v < 9223372036854775808) : p_spec_l01Put (v : Int) = some (encN v) := by
  unfold p_spec_l01Put
  refine fixP_eq (n := 9) ?_ (pN_has 8 v hv (by simpa using hv))
  intro n m b c h1 h2
  rcases pN_val n v hv with h | h
  · rw [h] at h1; cases h1
  · rcases pN_val m v hv with h' | h'
    · rw [h'] at h2; cases h2
    · rw [h] at h1; rw [h'] at h2
      cases h1; cases h2; rfl

theorem q_appendLoop : ∀ (v : Nat) (b : List U8), v < 9223372036854775808 → b.length + (encN v).length ≤ 1099511627776 → ∃ b' v', loopP p_impl_appendInt_l0 (b, (v : Int)) = some (.out (b', v')) ∧ app? 1 b' [⟨IntKind.wrap .u8 v'⟩] = some (b ++ encN v) := by
  intro v
  induction v using Nat.strongRecOn with
  | ind v ih =>
    intro b hv hb
    by_cases h128 : v < 128
    · rw [encN_lt h128] at hb ⊢
      simp only [List.length_cons, List.length_nil] at hb
      refine ⟨b, (v : Int), loopP_out ?_, ?_⟩
      · simp only [p_impl_appendInt_l0]
        rw [if_f (by simp; omega)]
      · rw [wrap_u8_id (by omega) (by omega), app_one (by omega)]
    · rw [encN_ge h128] at hb ⊢
      simp only [List.length_cons] at hb
      have e1 : (orI .u8 (IntKind.wrap .u8 (andI .i64 (v : Int) 127)) 128) = ((128 + v % 128 : Nat) : Int) := by
        rw [and127_i64 (by omega) (by omega), wrap_u8_id (by omega) (by omega), or128_u8 (by omega) (by omega)]; omega
      have e2 : shr? .i64 (v : Int) 7 = some ((v / 128 : Nat) : Int) := by
        rw [shr7 (by omega)]; rfl
      have hst : p_impl_appendInt_l0 (b, (v : Int)) = some (.go (b ++ [⟨((128 + v % 128 : Nat) : Int)⟩], ((v / 128 : Nat) : Int))) := by
        simp only [p_impl_appendInt_l0]
        rw [if_t (by simp; omega), e1, app_one (by omega), Option.bind_some, e2, Option.bind_some]
      rw [loopP_go hst]
      obtain ⟨b', v', h1, h2⟩ := ih (v / 128) (by omega) (b ++ [⟨((128 + v % 128 : Nat) : Int)⟩]) (by omega) (by simp only [List.length_append, List.length_cons, List.length_nil]; omega)
      refine ⟨b', v', h1, ?_⟩
      rw [h2, List.append_assoc]; rfl
theorem q_appendInt {v : Nat} {b : List U8} (hv : v < 9223372036854775808) (hb : b.length + 9 ≤ 1099511627776) : p_impl_appendInt b (v : Int) = some (b ++ encN v) := by
  have := encN_len9 hv
  obtain ⟨b', v', h1, h2⟩ := q_appendLoop v b hv (by omega)
  unfold p_impl_appendInt
  rw [h1, Option.bind_some]
  simp only
  rw [h2]; rfl

/-- Numbers that a list of runs may hold. -/
def numOK (v : Int) : Prop := 0 ≤ v ∧ v ≤ 1152921504606846975
def dif (x : List Int) (j : Nat) : Int := x.getD j 0 - x.getD (j - 1) 0
/-- How many more stand behind with this step. -/
def ext (x : List Int) (d : Int) : Nat → Nat → Nat
  | 0, _ => 0
  | f + 1, j => if dif x j = d then ext x d f (j + 1) + 1 else 0
theorem ext_le (x : List Int) (d : Int) : ∀ f j, ext x d f j ≤ f
  | 0, _ => Nat.le_refl _
  | f + 1, j => by
    unfold ext
    split
    · have := ext_le x d f (j + 1); omega
    · omega
def rl (x : List Int) (i : Nat) : Nat := if i + 1 < x.length then 2 + ext x (dif x (i + 1)) (x.length - (i + 2)) (i + 2) else 1
theorem rl_pos (x : List Int) (i : Nat) : 0 < rl x i := by unfold rl; split <;> omega
theorem rl_le (x : List Int) (i : Nat) (h : i < x.length) : i + rl x i ≤ x.length := by
  unfold rl
  split
  · have := ext_le x (dif x (i + 1)) (x.length - (i + 2)) (i + 2); omega
  · omega
section
variable {x : List Int} (hx : ∀ v, v ∈ x → numOK v) (hl : x.length ≤ 4096)
include hx hl
omit hl in
theorem num_get {i : Nat} (hi : i < x.length) : get? x (i : Int) = some (x.getD i 0) ∧ numOK (x.getD i 0) := by
  obtain ⟨a, ha, ha'⟩ := get_lt (xs := x) hi
  have : x.getD i 0 = a := by rw [List.getD_eq_getElem?_getD, ha']; rfl
  rw [this]
  exact ⟨ha, hx a (List.mem_of_getElem? ha')⟩
omit hl in
theorem dif_w {i j : Nat} (hi : i < x.length) (hj : j < x.length) : w64 (x.getD i 0 - x.getD j 0) = x.getD i 0 - x.getD j 0 := by
  have h1 := (num_get hx hi).2
  have h2 := (num_get hx hj).2
  unfold numOK at h1 h2
  exact w64_id (by omega) (by omega)
theorem q_extImpl (i : Nat) (hi : i + 1 < x.length) : ∀ (f n : Nat), 2 ≤ n → i + n + f = x.length → loopP (p_impl_runLen_l0 x (i : Int) (x.getD (i + 1) 0) (x.getD i 0)) (n : Int) = some (.out ((n + ext x (dif x (i + 1)) f (i + n) : Nat) : Int)) := by
  intro f
  induction f with
  | zero =>
    intro n hn hf
    have hw : w64 ((i : Int) + (n : Int)) = ((i + n : Nat) : Int) := by rw [w64_id (by omega) (by omega)]; omega
    refine loopP_out ?_
    simp only [p_impl_runLen_l0]
    rw [hw, if_f (by simp; omega)]
    rfl
  | succ f ih =>
    intro n hn hf
    have hw : w64 ((i : Int) + (n : Int)) = ((i + n : Nat) : Int) := by rw [w64_id (by omega) (by omega)]; omega
    have hw2 : w64 (((i + n : Nat) : Int) - 1) = ((i + n - 1 : Nat) : Int) := w64_pred (by omega) (by omega)
    have g1 := (num_get hx (i := i + n) (by omega)).1
    have g2 := (num_get hx (i := i + n - 1) (by omega)).1
    have d1 := dif_w hx (i := i + n) (j := i + n - 1) (by omega) (by omega)
    have d2 := dif_w hx (i := i + 1) (j := i) (by omega) (by omega)
    have hst : ∀ r, (if decide (x.getD (i + n) 0 - x.getD (i + n - 1) 0 = x.getD (i + 1) 0 - x.getD i 0) = true then some (Lp.go ((n + 1 : Nat) : Int)) else some (Lp.out (n : Int))) = r → p_impl_runLen_l0 x (i : Int) (x.getD (i + 1) 0) (x.getD i 0) (n : Int) = r := by
      rintro _ rfl
      simp only [p_impl_runLen_l0]
      rw [hw, if_t (by simp; omega), hw2, g1, Option.bind_some, g2, Option.bind_some, d1, d2, w64_succ (by omega)]
    unfold ext
    have hdd : dif x (i + n) = x.getD (i + n) 0 - x.getD (i + n - 1) 0 := rfl
    have hd1 : dif x (i + 1) = x.getD (i + 1) 0 - x.getD i 0 := rfl
    by_cases h : dif x (i + n) = dif x (i + 1)
    · rw [if_pos h]
      rw [hdd, hd1] at h
      rw [loopP_go (hst _ (if_pos (decide_eq_true h))), ih (n + 1) (by omega) (by omega)]
      congr 2
      rw [show i + (n + 1) = i + n + 1 from by omega]
      congr 1
      omega
    · rw [if_neg h]
      rw [hdd, hd1] at h
      rw [loopP_out (hst _ (if_neg (by simpa using h)))]
      rfl
theorem q_runLen {i : Nat} (hi : i < x.length) : p_impl_runLen x (i : Int) = some (rl x i : Int) := by
  unfold p_impl_runLen rl
  rw [w64_succ (by omega)]
  by_cases h : i + 1 < x.length
  · rw [if_f (by simp; omega), if_pos h, (num_get hx h).1, Option.bind_some, (num_get hx hi).1, Option.bind_some]
    rw [show (2 : Int) = ((2 : Nat) : Int) from rfl, q_extImpl hx hl i h (x.length - (i + 2)) 2 (by omega) (by omega)]
    rfl
  · rw [if_t (by simp; omega), if_neg h]; rfl
theorem q_extSpec (i : Nat) (hi : i + 1 < x.length) : ∀ (f j : Nat), i + 2 ≤ j → j + f = x.length → loopP (p_spec_l01PutRuns_l1 x (i : Int)) (j : Int) = some (.out ((j + ext x (dif x (i + 1)) f j : Nat) : Int)) := by
  intro f
  induction f with
  | zero =>
    intro j hj hf
    refine loopP_out ?_
    simp only [p_spec_l01PutRuns_l1]
    rw [if_f (by simp; omega)]
    rfl
  | succ f ih =>
    intro j hj hf
    have hw2 : w64 ((j : Int) - 1) = ((j - 1 : Nat) : Int) := w64_pred (by omega) (by omega)
    have g1 := (num_get hx (i := j) (by omega)).1
    have g2 := (num_get hx (i := j - 1) (by omega)).1
    have g3 := (num_get hx hi).1
    have g4 := (num_get hx (i := i) (by omega)).1
    have d1 := dif_w hx (i := j) (j := j - 1) (by omega) (by omega)
    have d2 := dif_w hx (i := i + 1) (j := i) (by omega) (by omega)
    have hst : ∀ r, (if decide (x.getD j 0 - x.getD (j - 1) 0 = x.getD (i + 1) 0 - x.getD i 0) = true then some (Lp.go ((j + 1 : Nat) : Int)) else some (Lp.out (j : Int))) = r → p_spec_l01PutRuns_l1 x (i : Int) (j : Int) = r := by
      rintro _ rfl
      simp only [p_spec_l01PutRuns_l1]
      rw [if_t (by simp; omega), w64_succ (show i < 9223372036854775807 by omega), if_f (by simp; omega), hw2, g1, Option.bind_some, g2, Option.bind_some, g3, Option.bind_some, g4, Option.bind_some, d1, d2, w64_succ (by omega)]
    unfold ext
    have hdd : dif x j = x.getD j 0 - x.getD (j - 1) 0 := rfl
    have hd1 : dif x (i + 1) = x.getD (i + 1) 0 - x.getD i 0 := rfl
    by_cases h : dif x j = dif x (i + 1)
    · rw [if_pos h]
      rw [hdd, hd1] at h
      rw [loopP_go (hst _ (if_pos (decide_eq_true h))), ih (j + 1) (by omega) (by omega)]
      congr 2
      congr 1
      omega
    · rw [if_neg h]
      rw [hdd, hd1] at h
      rw [loopP_out (hst _ (if_neg (by simpa using h)))]
      rfl
theorem q_runSpec {i : Nat} (hi : i < x.length) : loopP (p_spec_l01PutRuns_l1 x (i : Int)) (w64 ((i : Int) + 1)) = some (.out ((i + rl x i : Nat) : Int)) := by
  unfold rl
  rw [w64_succ (by omega)]
  by_cases h : i + 1 < x.length
  · rw [if_pos h]
    have hst : p_spec_l01PutRuns_l1 x (i : Int) ((i + 1 : Nat) : Int) = some (.go ((i + 2 : Nat) : Int)) := by
      simp only [p_spec_l01PutRuns_l1]
      rw [if_t (by simp; omega), w64_succ (by omega), if_t (by simp), w64_succ (by omega)]
    rw [loopP_go hst, q_extSpec hx hl i h (x.length - (i + 2)) (i + 2) (by omega) (by omega)]
    congr 3
    omega
  · rw [if_neg h]
    refine loopP_out ?_
    simp only [p_spec_l01PutRuns_l1]
    rw [if_f (by simp; omega)]

/-- The sign in the lowest bit. -/
def zigN (d : Int) : Nat := if d < 0 then (-2 * d - 1).toNat else (2 * d).toNat
omit hx hl in
theorem q_zig {d : Int} (h0 : -1152921504606846975 ≤ d) (h1 : d ≤ 1152921504606846975) : p_impl_zig d = some (zigN d : Int) ∧ p_spec_l01Signed d = some (encN (zigN d)) ∧ zigN d < 4611686018427387904 := by
  unfold p_impl_zig p_spec_l01Signed zigN
  by_cases h : d < 0
  · have e1 : w64 (-2 * d) = -2 * d := w64_id (by omega) (by omega)
    have e2 : w64 (-2 * d - 1) = ((-2 * d - 1).toNat : Int) := by rw [w64_id (by omega) (by omega)]; omega
    rw [if_t (by simpa using h), if_t (by simpa using h), e1, e2, if_pos h, q_l01Put (by omega)]
    exact ⟨rfl, rfl, by omega⟩
  · have e2 : w64 (2 * d) = ((2 * d).toNat : Int) := by rw [w64_id (by omega) (by omega)]; omega
    rw [if_f (by simpa using h), if_f (by simpa using h), e2, if_neg h, q_l01Put (by omega)]
    exact ⟨rfl, rfl, by omega⟩

/-- What is written for the run that begins at i. -/
def runB (x : List Int) (i : Nat) : List U8 := encN (x.getD i 0).toNat ++ (encN (rl x i) ++ if 2 ≤ rl x i then encN (zigN (x.getD (i + 1) 0 - x.getD i 0)) else [])
theorem runB_len {i : Nat} (hi : i < x.length) : (runB x i).length ≤ 27 := by
  unfold runB
  have h1 := (num_get hx hi).2
  have h2 := rl_le x i hi
  unfold numOK at h1
  have e1 := encN_len9 (v := (x.getD i 0).toNat) (by omega)
  have e2 := encN_len9 (v := rl x i) (by omega)
  split
  · rename_i h
    have h3 := (num_get hx (i := i + 1) (by omega)).2
    unfold numOK at h3
    have e3 := encN_len9 (v := zigN (x.getD (i + 1) 0 - x.getD i 0)) (by have := (q_zig (d := x.getD (i + 1) 0 - x.getD i 0) (by omega) (by omega)).2.2; omega)
    simp only [List.length_append]
    omega
  · simp only [List.length_append, List.length_nil]
    omega
theorem q_runStep {i : Nat} (hi : i < x.length) (s : List U8) (hs : s.length ≤ 200000) :
    p_spec_l01PutRuns_l2 x (s, (i : Int)) = some (.go (s ++ runB x i, ((i + rl x i : Nat) : Int))) ∧ p_impl_appendRuns_l0 x (s, (i : Int)) = some (.go (s ++ runB x i, ((i + rl x i : Nat) : Int))) := by
  have g1 := (num_get hx hi).1
  have h1 := (num_get hx hi).2
  have h2 := rl_le x i hi
  unfold numOK at h1
  have e1 := encN_len9 (v := (x.getD i 0).toNat) (by omega)
  have e2 := encN_len9 (v := rl x i) (by omega)
  have hv : x.getD i 0 = ((x.getD i 0).toNat : Int) := by omega
  have hsub : w64 (((i + rl x i : Nat) : Int) - (i : Int)) = (rl x i : Int) := by rw [w64_id (by omega) (by omega)]; omega
  have hadd : w64 ((i : Int) + (rl x i : Int)) = ((i + rl x i : Nat) : Int) := by rw [w64_id (by omega) (by omega)]; omega
  have a1 : app? 1 s (encN (x.getD i 0).toNat) = some (s ++ encN (x.getD i 0).toNat) := app_list (by omega)
  have a2 : app? 1 (s ++ encN (x.getD i 0).toNat) (encN (rl x i)) = some (s ++ encN (x.getD i 0).toNat ++ encN (rl x i)) := app_list (by rw [List.length_append]; omega)
  have b1 : p_impl_appendInt s (x.getD i 0) = some (s ++ encN (x.getD i 0).toNat) := by
    conv => lhs; rw [hv]
    exact q_appendInt (by omega) (by omega)
  have b2 : p_impl_appendInt (s ++ encN (x.getD i 0).toNat) (rl x i : Int) = some (s ++ encN (x.getD i 0).toNat ++ encN (rl x i)) := q_appendInt (by omega) (by rw [List.length_append]; omega)
  have p1 : p_spec_l01Put (x.getD i 0) = some (encN (x.getD i 0).toNat) := by
    conv => lhs; rw [hv]
    exact q_l01Put (by omega)
  have p2 : p_spec_l01Put (rl x i : Int) = some (encN (rl x i)) := q_l01Put (by omega)
  simp only [p_spec_l01PutRuns_l2, p_impl_appendRuns_l0]
  rw [if_t (by simpa using hi), if_t (by simpa using hi), q_runSpec hx hl hi, q_runLen hx hl hi, g1]
  simp only [Option.bind_some, hsub, p1, p2, a1, a2, b1, b2, hadd]
  unfold runB
  by_cases h : 2 ≤ rl x i
  · have g3 := (num_get hx (i := i + 1) (by omega)).1
    have h3 := (num_get hx (i := i + 1) (by omega)).2
    unfold numOK at h3
    have hd := dif_w hx (i := i + 1) (j := i) (by omega) (by omega)
    obtain ⟨z1, z2, z3⟩ := q_zig (d := x.getD (i + 1) 0 - x.getD i 0) (by omega) (by omega)
    have e3 := encN_len9 (v := zigN (x.getD (i + 1) 0 - x.getD i 0)) (by omega)
    rw [if_t (by simp; omega), if_t (by simp; omega), w64_succ (by omega), g3, if_pos h]
    simp only [Option.bind_some, hd, z1, z2]
    rw [app_list (by simp only [List.length_append]; omega), q_appendInt (by omega) (by simp only [List.length_append]; omega)]
    simp only [Option.bind_some, List.append_assoc]
    constructor <;> first | rfl | trivial
  · rw [if_f (by simp; omega), if_f (by simp; omega), if_neg h, List.append_nil, ← List.append_assoc]
    constructor <;> first | rfl | trivial
/-- What is written from i on. -/
def runsB (x : List Int) : Nat → Nat → List U8
  | 0, _ => []
  | f + 1, i => if i < x.length then runB x i ++ runsB x f (i + rl x i) else []
omit hx hl in
theorem runsB_pos {f i : Nat} (h : i < x.length) : runsB x (f + 1) i = runB x i ++ runsB x f (i + rl x i) := if_pos h
theorem q_runsLoop : ∀ (f i : Nat) (s : List U8), i ≤ x.length → x.length ≤ i + f → s.length + 27 * (x.length - i) ≤ 150000 →
    ∃ j, loopP (p_spec_l01PutRuns_l2 x) (s, (i : Int)) = some (.out (s ++ runsB x f i, j)) ∧ loopP (p_impl_appendRuns_l0 x) (s, (i : Int)) = some (.out (s ++ runsB x f i, j)) := by
  intro f
  induction f with
  | zero =>
    intro i s h1 h2 h3
    refine ⟨(i : Int), loopP_out ?_, loopP_out ?_⟩
    · simp only [p_spec_l01PutRuns_l2]
      rw [if_f (by simp; omega)]
      simp [runsB]
    · simp only [p_impl_appendRuns_l0]
      rw [if_f (by simp; omega)]
      simp [runsB]
  | succ f ih =>
    intro i s h1 h2 h3
    by_cases hi : i < x.length
    · have hb := runB_len hx hl hi
      have hp := rl_pos x i
      have hle := rl_le x i hi
      obtain ⟨q1, q2⟩ := q_runStep hx hl hi s (by omega)
      obtain ⟨j, r1, r2⟩ := ih (i + rl x i) (s ++ runB x i) hle (by omega) (by rw [List.length_append]; omega)
      refine ⟨j, ?_, ?_⟩
      · rw [loopP_go q1, r1]
        rw [runsB_pos hi, List.append_assoc]
      · rw [loopP_go q2, r2]
        rw [runsB_pos hi, List.append_assoc]
    · refine ⟨(i : Int), loopP_out ?_, loopP_out ?_⟩
      · simp only [p_spec_l01PutRuns_l2]
        rw [if_f (by simp; omega)]
        simp [runsB, hi]
      · simp only [p_impl_appendRuns_l0]
        rw [if_f (by simp; omega)]
        simp [runsB, hi]
theorem runsB_len : ∀ (f i : Nat), i ≤ x.length → (runsB x f i).length ≤ 27 * (x.length - i)
  | 0, i, _ => by simp [runsB]
  | f + 1, i, h => by
    unfold runsB
    by_cases hi : i < x.length
    · rw [if_pos hi, List.length_append]
      have hb := runB_len hx hl hi
      have hp := rl_pos x i
      have hle := rl_le x i hi
      have := runsB_len f (i + rl x i) hle
      omega
    · rw [if_neg hi]; simp
/-- What is written for a list of numbers. -/
def encRuns (x : List Int) : List U8 := encN x.length ++ runsB x x.length 0
theorem encRuns_len : (encRuns x).length ≤ 120000 := by
  unfold encRuns
  rw [List.length_append]
  have h1 := encN_len9 (v := x.length) (by omega)
  have h2 := runsB_len hx hl x.length 0 (by omega)
  omega
theorem q_putRuns : p_spec_l01PutRuns x = some (encRuns x) := by
  unfold p_spec_l01PutRuns encRuns
  have h1 := encN_len9 (v := x.length) (by omega)
  rw [q_l01Put (by omega), Option.bind_some]
  obtain ⟨j, r1, r2⟩ := q_runsLoop hx hl x.length 0 (encN x.length) (by omega) (by omega) (by omega)
  rw [show (0 : Int) = ((0 : Nat) : Int) from rfl, r1]; rfl
theorem q_appendRuns {b : List U8} (hb : b.length ≤ 10000) : p_impl_appendRuns b x = some (b ++ encRuns x) := by
  unfold p_impl_appendRuns encRuns
  have h1 := encN_len9 (v := x.length) (by omega)
  rw [q_appendInt (by omega) (by omega), Option.bind_some]
  obtain ⟨j, r1, r2⟩ := q_runsLoop hx hl x.length 0 (b ++ encN x.length) (by omega) (by omega) (by rw [List.length_append]; omega)
  rw [show (0 : Int) = ((0 : Nat) : Int) from rfl, r2, List.append_assoc]; rfl
end

theorem q_RunsOK (x : List Int) (hl : x.length ≤ 4096) : (p_spec_l01RunsOK x = some true ∧ (∃ i, loopP (p_impl_PutRuns_l0 x) 0 = some (.out i)) ∧ ∀ v, v ∈ x → numOK v) ∨ (p_spec_l01RunsOK x = some false ∧ loopP (p_impl_PutRuns_l0 x) 0 = some (.ret ⟨[], 4⟩)) := by
  have hg := all_loop (step := p_spec_l01RunsOK_l0 x) x.length (fun i => ∀ v, x[i]? = some v → numOK v) (by
    intro i hi
    obtain ⟨a, ha, ha'⟩ := get_lt (xs := x) hi
    simp only [p_spec_l01RunsOK_l0]
    rw [if_t (by simpa using hi), ha, Option.bind_some, w64_succ (by omega)]
    by_cases h1 : a < 0
    · rw [if_pos (decide_eq_true h1)]
      exact .inr ⟨fun h => by have := h a ha'; unfold numOK at this; omega, rfl⟩
    · rw [if_neg (by simpa using h1)]
      by_cases h2 : 1152921504606846975 < a
      · rw [if_pos (decide_eq_true h2)]
        exact .inr ⟨fun h => by have := h a ha'; unfold numOK at this; omega, rfl⟩
      · rw [if_neg (by simpa using h2)]
        refine .inl ⟨fun c hc => ?_, rfl⟩
        rw [ha'] at hc; cases hc; unfold numOK; omega) (by
    simp only [p_spec_l01RunsOK_l0]
    rw [if_f (by simp)])
  obtain ⟨e, h1, h2⟩ := loop_count (step := p_impl_PutRuns_l0 x) x.length (fun i s => s = (i : Int) ∧ ∀ j v, j < i → x[j]? = some v → numOK v) (fun e => ((∃ i, e = .out i) ∧ ∀ j v, j < x.length → x[j]? = some v → numOK v) ∨ (e = .ret ⟨[], 4⟩ ∧ ∃ j v, j < x.length ∧ x[j]? = some v ∧ ¬ numOK v)) (by
    rintro i _ hi ⟨rfl, hn⟩
    obtain ⟨a, ha, ha'⟩ := get_lt (xs := x) hi
    simp only [p_impl_PutRuns_l0]
    rw [if_t (by simpa using hi), ha, Option.bind_some, w64_succ (by omega)]
    by_cases h1 : a < 0
    · rw [if_pos (decide_eq_true h1)]
      exact .inr (.inr ⟨_, rfl, .inr ⟨rfl, i, a, hi, ha', by unfold numOK; omega⟩⟩)
    · rw [if_neg (by simpa using h1)]
      by_cases h2 : 1152921504606846975 < a
      · rw [if_pos (decide_eq_true h2)]
        exact .inr (.inr ⟨_, rfl, .inr ⟨rfl, i, a, hi, ha', by unfold numOK; omega⟩⟩)
      · rw [if_neg (by simpa using h2)]
        refine .inl ⟨_, rfl, rfl, fun j v hj hv => ?_⟩
        by_cases e : j = i
        · subst e; rw [ha'] at hv; cases hv; unfold numOK; omega
        · exact hn j v (by omega) hv)
    (by
    rintro _ ⟨rfl, hn⟩
    simp only [p_impl_PutRuns_l0]
    rw [if_f (by simp)]
    exact .inl ⟨_, rfl, .inl ⟨⟨_, rfl⟩, hn⟩⟩) (s := 0) ⟨rfl, fun j v hj => by omega⟩
  unfold p_spec_l01RunsOK
  rcases hg with ⟨g1, g2⟩ | ⟨g1, i, gi, g2⟩
  · rcases h2 with ⟨⟨i, rfl⟩, _⟩ | ⟨_, j, v, hj, hv, hn⟩
    · left
      rw [g1]
      refine ⟨rfl, ⟨_, h1⟩, fun v hv => ?_⟩
      obtain ⟨j, hj⟩ := List.getElem?_of_mem hv
      exact g2 j (List.getElem?_eq_some_iff.1 hj).1 v hj
    · exact (hn (g2 j hj v hv)).elim
  · rcases h2 with ⟨_, hn⟩ | ⟨rfl, _⟩
    · exact (g2 fun v hv => hn i v gi hv).elim
    · right
      rw [g1]
      exact ⟨rfl, h1⟩
theorem q_PutRuns (x : List Int) : ∃ r, p_spec_PutRuns x = some r ∧ p_impl_PutRuns x = some r ∧ r.a.length ≤ 120000 := by
  unfold p_spec_PutRuns p_impl_PutRuns
  by_cases hl : 4096 < (x.length : Int)
  · simp only [hl, decide_true, if_true]; exact ⟨_, rfl, rfl, by simp⟩
  · simp only [hl, decide_false, Bool.false_eq_true, if_false]
    have hl' : x.length ≤ 4096 := by omega
    rcases q_RunsOK x hl' with ⟨h1, ⟨i, h2⟩, h3⟩ | ⟨h1, h2⟩
    · rw [h1, h2]
      simp only [Option.bind_some, if_true]
      rw [q_putRuns h3 hl', q_appendRuns h3 hl' (by simp)]
      simp only [Option.bind_some, List.nil_append]
      exact ⟨_, rfl, rfl, encRuns_len h3 hl'⟩
    · rw [h1, h2]
      exact ⟨_, rfl, rfl, by simp⟩
theorem plain_PutRuns (x : List Int) (hx : x.length * 8 ≤ reachBytes ∧ ∀ a, a ∈ x → InI64 a) : p_laws_FnExactPutRuns x = some true := by
  unfold p_laws_FnExactPutRuns
  by_cases h0 : 1048576 < (x.length : Int)
  · simp only [h0, decide_true, if_true]
  simp only [h0, decide_false, Bool.false_eq_true, if_false]
  obtain ⟨r, h3, h4, hr⟩ := q_PutRuns x
  have q1 := q_eqIntS x hx.1
  obtain ⟨x', h5, _⟩ := q_markIntS x 1 (by omega) (by omega)
  obtain ⟨g, h7, h8, h9⟩ := q_markByteS r.a 1 (by omega) (by omega)
  have h10 := q_heldByteS g 1 (by omega) (by omega) (by rw [h8]; exact h9)
  rw [h8] at h10
  have hn : ¬ (1 + (x.length : Int) < 0) := by omega
  have hn' : ¬ (1 + (r.a.length : Int) < 0) := by omega
  simp only [q_toIntS x hx.1, h3, h4, h5, h7, h10, q1, q_eqByteS r.a (by omega), Option.bind_some, decide_true, if_true, decide_eq_true_eq, hn, hn', if_false]
  repeat' split
  all_goals rfl
end Go.AM
