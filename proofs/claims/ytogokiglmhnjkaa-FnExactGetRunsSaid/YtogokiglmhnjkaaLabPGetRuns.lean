/- The plain law of GetRuns. No condition. -/
import Derived.Test.YtogokiglmhnjkaaLabGGetRuns
import Derived.Test.YtogokiglmhnjkaaLabPackC
set_option linter.unusedVariables false
set_option linter.unusedSimpArgs false
namespace Go.AM

theorem q_toByteS (x : List U8) (hx : x.length ≤ 281474976710656) : p_laws_toByteS x = some x := by
  unfold p_laws_toByteS
  rw [show (1 : Int) = ((1 : Nat) : Int) from rfl, mkL_ok (by omega) (by omega), Option.bind_some]
  have e : p_laws_toByteS_l0 x = copyStep x some := rfl
  rw [e]
  obtain ⟨i, h⟩ := copy_loop (ρ := List U8) (x := x) (v := List.replicate x.length (U8.mk 0)) (f := some) (fun _ _ => rfl) (by simp) (by omega)
  rw [h]; rfl
theorem q_eqByteS (x : List U8) (hx : x.length ≤ 281474976710656) : p_laws_eqByteS x x = some true := by
  unfold p_laws_eqByteS
  rw [if_pos (by simp)]
  have e : p_laws_eqByteS_l0 x x = eqStep x x fun a b => some (decide (a.v = b.v)) := by
    funext s
    unfold p_laws_eqByteS_l0 eqStep
    simp only [Option.bind_some]
  rw [e]
  obtain ⟨i, h⟩ := eq_loop (x := x) (g := fun a b => some (decide (a.v = b.v))) (fun a _ => by simp) (by omega)
  rw [h]; rfl

theorem q_markByteS (x : List U8) (n : Int) (h0 : 0 ≤ n) (hn : n + x.length < 9223372036854775807) : ∃ y, p_laws_markByteS x n = some ⟨n + x.length, y⟩ ∧ y.length = x.length ∧ ∀ j : Nat, j < x.length → y[j]? = some ⟨IntKind.wrap .u8 (n + j)⟩ := by
  unfold p_laws_markByteS
  obtain ⟨e, h1, y, i, rfl, h2, h3⟩ := loop_count (step := p_laws_markByteS_l0) x.length (fun i s => s.2.1 = n + (i : Int) ∧ s.2.2 = (i : Int) ∧ s.1.length = x.length ∧ ∀ j : Nat, j < i → s.1[j]? = some ⟨IntKind.wrap .u8 (n + j)⟩)
    (fun e => ∃ y i, e = .out (y, n + x.length, i) ∧ y.length = x.length ∧ ∀ j : Nat, j < x.length → y[j]? = some ⟨IntKind.wrap .u8 (n + j)⟩) (by
      rintro i ⟨s0, s1, s2⟩ hi ⟨h1, h2, h3, h4⟩
      simp only at h1 h2 h3 h4
      subst h1 h2
      obtain ⟨a, ha, ha'⟩ := get_lt (xs := s0) (i := i) (by omega)
      have hd : decide ((i : Int) < (s0.length : Int)) = true := by simp; omega
      left
      refine ⟨(s0.set i ⟨IntKind.wrap .u8 (n + i)⟩, n + ((i + 1 : Nat) : Int), ((i + 1 : Nat) : Int)), ?_, rfl, rfl, by simpa using h3, ?_⟩
      · simp only [p_laws_markByteS_l0]
        rw [if_t hd, ha, Option.bind_some, w64_succ (by omega), w64_id (by omega) (by omega), Int.toNat_natCast, show n + (i : Int) + 1 = n + ((i + 1 : Nat) : Int) from by omega]
      · intro j hj
        simp only [List.getElem?_set]
        by_cases e : i = j
        · subst e
          rw [if_pos rfl, if_pos (by omega)]
        · rw [if_neg e]; exact h4 j (by omega))
    (by
      rintro ⟨s0, s1, s2⟩ ⟨h1, h2, h3, h4⟩
      simp only at h1 h2 h3 h4
      subst h1 h2
      have hd : decide ((x.length : Int) < (s0.length : Int)) = false := by simp; omega
      left
      refine ⟨(s0, n + (x.length : Int), (x.length : Int)), ?_, s0, x.length, rfl, h3, h4⟩
      simp only [p_laws_markByteS_l0]
      rw [if_f hd]) (s := (x, n, 0)) ⟨by simp, rfl, rfl, fun j hj => by omega⟩
  rw [h1]
  exact ⟨y, rfl, h2, h3⟩

theorem q_markIntS (x : List Int) (n : Int) (h0 : 0 ≤ n) (hn : n + x.length < 9223372036854775807) : ∃ y, p_laws_markIntS x n = some ⟨n + x.length, y⟩ ∧ y.length = x.length ∧ ∀ j : Nat, j < x.length → y[j]? = some (n + j) := by
  unfold p_laws_markIntS
  obtain ⟨e, h1, y, i, rfl, h2, h3⟩ := loop_count (step := p_laws_markIntS_l0) x.length (fun i s => s.2.1 = n + (i : Int) ∧ s.2.2 = (i : Int) ∧ s.1.length = x.length ∧ ∀ j : Nat, j < i → s.1[j]? = some (n + j))
    (fun e => ∃ y i, e = .out (y, n + x.length, i) ∧ y.length = x.length ∧ ∀ j : Nat, j < x.length → y[j]? = some (n + j)) (by
      rintro i ⟨s0, s1, s2⟩ hi ⟨h1, h2, h3, h4⟩
      simp only at h1 h2 h3 h4
      subst h1 h2
      obtain ⟨a, ha, ha'⟩ := get_lt (xs := s0) (i := i) (by omega)
      have hd : decide ((i : Int) < (s0.length : Int)) = true := by simp; omega
      left
      refine ⟨(s0.set i (n + i), n + ((i + 1 : Nat) : Int), ((i + 1 : Nat) : Int)), ?_, rfl, rfl, by simpa using h3, ?_⟩
      · simp only [p_laws_markIntS_l0]
        rw [if_t hd, ha, Option.bind_some, w64_succ (by omega), w64_id (by omega) (by omega), Int.toNat_natCast, show n + (i : Int) + 1 = n + ((i + 1 : Nat) : Int) from by omega]
      · intro j hj
        simp only [List.getElem?_set]
        by_cases e : i = j
        · subst e
          rw [if_pos rfl, if_pos (by omega)]
        · rw [if_neg e]; exact h4 j (by omega))
    (by
      rintro ⟨s0, s1, s2⟩ ⟨h1, h2, h3, h4⟩
      simp only at h1 h2 h3 h4
      subst h1 h2
      have hd : decide ((x.length : Int) < (s0.length : Int)) = false := by simp; omega
      left
      refine ⟨(s0, n + (x.length : Int), (x.length : Int)), ?_, s0, x.length, rfl, h3, h4⟩
      simp only [p_laws_markIntS_l0]
      rw [if_f hd]) (s := (x, n, 0)) ⟨by simp, rfl, rfl, fun j hj => by omega⟩
  rw [h1]
  exact ⟨y, rfl, h2, h3⟩

theorem q_heldIntS (y : List Int) (n : Int) (h0 : 0 ≤ n) (hn : n + y.length < 9223372036854775807) (hy : ∀ j : Nat, j < y.length → y[j]? = some (n + j)) : p_laws_heldIntS y n = some (n + y.length) := by
  unfold p_laws_heldIntS
  obtain ⟨e, h1, i, rfl⟩ := loop_count (step := p_laws_heldIntS_l0 y) y.length (fun i s => s.1 = n + (i : Int) ∧ s.2 = (i : Int)) (fun e => ∃ i, e = .out (n + y.length, i)) (by
      rintro i ⟨s0, s1⟩ hi ⟨h1, h2⟩
      simp only at h1 h2
      subst h1 h2
      obtain ⟨a, ha, ha'⟩ := get_lt (xs := y) (i := i) hi
      rw [hy i hi] at ha'
      cases ha'
      have hd : decide ((i : Int) < (y.length : Int)) = true := by simp; omega
      left
      refine ⟨(n + ((i + 1 : Nat) : Int), ((i + 1 : Nat) : Int)), ?_, rfl, rfl⟩
      simp only [p_laws_heldIntS_l0]
      rw [if_t hd, ha, Option.bind_some, if_pos (by simp), w64_succ (by omega), w64_id (by omega) (by omega), show n + (i : Int) + 1 = n + ((i + 1 : Nat) : Int) from by omega])
    (by
      rintro ⟨s0, s1⟩ ⟨h1, h2⟩
      simp only at h1 h2
      subst h1 h2
      have hd : decide ((y.length : Int) < (y.length : Int)) = false := by simp
      left
      refine ⟨(n + (y.length : Int), (y.length : Int)), ?_, y.length, rfl⟩
      simp only [p_laws_heldIntS_l0]
      rw [if_f hd]) (s := (n, 0)) ⟨by simp, rfl⟩
  rw [h1]; rfl

/-- A number in groups of seven bits. -/
def encN (v : Nat) : List U8 := if v < 128 then [⟨(v : Int)⟩] else ⟨((128 + v % 128 : Nat) : Int)⟩ :: encN (v / 128)
termination_by v
decreasing_by omega
theorem encN_lt {v : Nat} (h : v < 128) : encN v = [⟨(v : Int)⟩] := by rw [encN, if_pos h]
theorem encN_ge {v : Nat} (h : ¬ v < 128) : encN v = ⟨((128 + v % 128 : Nat) : Int)⟩ :: encN (v / 128) := by rw [encN, if_neg h]
theorem encN_len : ∀ (k v : Nat), v < 128 ^ (k + 1) → (encN v).length ≤ k + 1
  | 0, v, h => by rw [encN_lt (by simpa using h)]; simp
  | k + 1, v, h => by
    by_cases hv : v < 128
    · rw [encN_lt hv]; simp
    · rw [encN_ge hv]
      have := encN_len k (v / 128) (by rw [Nat.pow_succ] at h; omega)
      simp only [List.length_cons]
      omega
theorem encN_len9 {v : Nat} (h : v < 9223372036854775808) : (encN v).length ≤ 9 := encN_len 8 v (by simpa using h)
theorem pN_step {n v : Nat} (hv : v < 9223372036854775808) (h128 : ¬ v < 128) : pN_spec_l01Put (n + 1) (v : Int) = (pN_spec_l01Put n ((v / 128 : Nat) : Int)).bind fun v1 => (app? 1 [⟨((128 + v % 128 : Nat) : Int)⟩] v1).bind fun v2 => some v2 := by
  show pB_spec_l01Put (pN_spec_l01Put n) (v : Int) = _
  unfold pB_spec_l01Put
  have e1 : w64 (Int.tdiv (v : Int) 128) = ((v / 128 : Nat) : Int) := by
    rw [Int.tdiv_eq_ediv_of_nonneg (by omega), w64_id (by omega) (by omega)]; omega
  have e2 : IntKind.wrap .u8 (w64 (128 + Int.tmod (v : Int) 128)) = ((128 + v % 128 : Nat) : Int) := by
    rw [Int.tmod_eq_emod_of_nonneg (by omega), w64_id (by omega) (by omega), wrap_u8_id (by omega) (by omega)]; omega
  rw [if_f (by simp; omega), e1, e2]
theorem pN_val : ∀ (n v : Nat), v < 9223372036854775808 → pN_spec_l01Put n (v : Int) = none ∨ pN_spec_l01Put n (v : Int) = some (encN v)
  | 0, v, _ => .inl rfl
  | n + 1, v, hv => by
    by_cases h128 : v < 128
    · right
      show pB_spec_l01Put (pN_spec_l01Put n) (v : Int) = _
      unfold pB_spec_l01Put
      rw [if_t (by simp; omega), encN_lt h128, wrap_u8_id (by omega) (by omega)]
    · rw [pN_step hv h128]
      rcases pN_val n (v / 128) (by omega) with h | h
      · left; rw [h]; rfl
      · right
        have := encN_len9 (v := v / 128) (by omega)
        rw [h, Option.bind_some, app_list (by simp only [List.length_cons, List.length_nil]; omega), encN_ge h128]; rfl
theorem pN_has : ∀ (n v : Nat), v < 9223372036854775808 → v < 128 ^ (n + 1) → pN_spec_l01Put (n + 1) (v : Int) = some (encN v)
  | 0, v, hv, h => by
    have h128 : v < 128 := by simpa using h
    show pB_spec_l01Put (pN_spec_l01Put 0) (v : Int) = _
    unfold pB_spec_l01Put
    rw [if_t (by simp; omega), encN_lt h128, wrap_u8_id (by omega) (by omega)]
  | n + 1, v, hv, h => by
    by_cases h128 : v < 128
    · show pB_spec_l01Put (pN_spec_l01Put (n + 1)) (v : Int) = _
      unfold pB_spec_l01Put
      rw [if_t (by simp; omega), encN_lt h128, wrap_u8_id (by omega) (by omega)]
    · rw [pN_step hv h128, pN_has n (v / 128) (by omega) (by rw [Nat.pow_succ] at h; omega), Option.bind_some]
      have := encN_len9 (v := v / 128) (by omega)
      rw [app_list (by simp only [List.length_cons, List.length_nil]; omega), encN_ge h128]; rfl
theorem q_l01Put {v : Nat} (hv : v < 9223372036854775808) : p_spec_l01Put (v : Int) = some (encN v) := by
  unfold p_spec_l01Put
  refine fixP_eq (n := 9) ?_ (pN_has 8 v hv (by simpa using hv))
  intro n m b c h1 h2
  rcases pN_val n v hv with h | h
  · rw [h] at h1; cases h1
  · rcases pN_val m v hv with h' | h'
    · rw [h'] at h2; cases h2
    · rw [h] at h1; rw [h'] at h2
      cases h1; cases h2; rfl

theorem q_appendLoop : ∀ (v : Nat) (b : List U8), v < 9223372036854775808 → b.length + (encN v).length ≤ 1099511627776 → ∃ b' v', loopP p_impl_appendInt_l0 (b, (v : Int)) = some (.out (b', v')) ∧ app? 1 b' [⟨IntKind.wrap .u8 v'⟩] = some (b ++ encN v) := by
  intro v
  induction v using Nat.strongRecOn with
  | ind v ih =>
    intro b hv hb
    by_cases h128 : v < 128
    · rw [encN_lt h128] at hb ⊢
      simp only [List.length_cons, List.length_nil] at hb
      refine ⟨b, (v : Int), loopP_out ?_, ?_⟩
      · simp only [p_impl_appendInt_l0]
        rw [if_f (by simp; omega)]
      · rw [wrap_u8_id (by omega) (by omega), app_one (by omega)]
    · rw [encN_ge h128] at hb ⊢
      simp only [List.length_cons] at hb
      have e1 : (orI .u8 (IntKind.wrap .u8 (andI .i64 (v : Int) 127)) 128) = ((128 + v % 128 : Nat) : Int) := by
        rw [and127_i64 (by omega) (by omega), wrap_u8_id (by omega) (by omega), or128_u8 (by omega) (by omega)]; omega
      have e2 : shr? .i64 (v : Int) 7 = some ((v / 128 : Nat) : Int) := by
        rw [shr7 (by omega)]; rfl
      have hst : p_impl_appendInt_l0 (b, (v : Int)) = some (.go (b ++ [⟨((128 + v % 128 : Nat) : Int)⟩], ((v / 128 : Nat) : Int))) := by
        simp only [p_impl_appendInt_l0]
        rw [if_t (by simp; omega), e1, app_one (by omega), Option.bind_some, e2, Option.bind_some]
      rw [loopP_go hst]
      obtain ⟨b', v', h1, h2⟩ := ih (v / 128) (by omega) (b ++ [⟨((128 + v % 128 : Nat) : Int)⟩]) (by omega) (by simp only [List.length_append, List.length_cons, List.length_nil]; omega)
      refine ⟨b', v', h1, ?_⟩
      rw [h2, List.append_assoc]; rfl
theorem q_appendInt {v : Nat} {b : List U8} (hv : v < 9223372036854775808) (hb : b.length + 9 ≤ 1099511627776) : p_impl_appendInt b (v : Int) = some (b ++ encN v) := by
  have := encN_len9 hv
  obtain ⟨b', v', h1, h2⟩ := q_appendLoop v b hv (by omega)
  unfold p_impl_appendInt
  rw [h1, Option.bind_some]
  simp only
  rw [h2]; rfl

/-- Numbers that a list of runs may hold. -/
def numOK (v : Int) : Prop := 0 ≤ v ∧ v ≤ 1152921504606846975
def dif (x : List Int) (j : Nat) : Int := x.getD j 0 - x.getD (j - 1) 0
/-- How many more stand behind with this step. -/
def ext (x : List Int) (d : Int) : Nat → Nat → Nat
  | 0, _ => 0
  | f + 1, j => if dif x j = d then ext x d f (j + 1) + 1 else 0
theorem ext_le (x : List Int) (d : Int) : ∀ f j, ext x d f j ≤ f
  | 0, _ => Nat.le_refl _
  | f + 1, j => by
    unfold ext
    split
    · have := ext_le x d f (j + 1); omega
    · omega
def rl (x : List Int) (i : Nat) : Nat := if i + 1 < x.length then 2 + ext x (dif x (i + 1)) (x.length - (i + 2)) (i + 2) else 1
theorem rl_pos (x : List Int) (i : Nat) : 0 < rl x i := by unfold rl; split <;> omega
theorem rl_le (x : List Int) (i : Nat) (h : i < x.length) : i + rl x i ≤ x.length := by
  unfold rl
  split
  · have := ext_le x (dif x (i + 1)) (x.length - (i + 2)) (i + 2); omega
  · omega
section
variable {x : List Int} (hx : ∀ v, v ∈ x → numOK v) (hl : x.length ≤ 4096)
include hx hl
omit hl in
theorem num_get {i : Nat} (hi : i < x.length) : get? x (i : Int) = some (x.getD i 0) ∧ numOK (x.getD i 0) := by
  obtain ⟨a, ha, ha'⟩ := get_lt (xs := x) hi
  have : x.getD i 0 = a := by rw [List.getD_eq_getElem?_getD, ha']; rfl
  rw [this]
  exact ⟨ha, hx a (List.mem_of_getElem? ha')⟩
omit hl in
theorem dif_w {i j : Nat} (hi : i < x.length) (hj : j < x.length) : w64 (x.getD i 0 - x.getD j 0) = x.getD i 0 - x.getD j 0 := by
  have h1 := (num_get hx hi).2
  have h2 := (num_get hx hj).2
  unfold numOK at h1 h2
  exact w64_id (by omega) (by omega)
theorem q_extImpl (i : Nat) (hi : i + 1 < x.length) : ∀ (f n : Nat), 2 ≤ n → i + n + f = x.length → loopP (p_impl_runLen_l0 x (i : Int) (x.getD (i + 1) 0) (x.getD i 0)) (n : Int) = some (.out ((n + ext x (dif x (i + 1)) f (i + n) : Nat) : Int)) := by
  intro f
  induction f with
  | zero =>
    intro n hn hf
    have hw : w64 ((i : Int) + (n : Int)) = ((i + n : Nat) : Int) := by rw [w64_id (by omega) (by omega)]; omega
    refine loopP_out ?_
    simp only [p_impl_runLen_l0]
    rw [hw, if_f (by simp; omega)]
    rfl
  | succ f ih =>
    intro n hn hf
    have hw : w64 ((i : Int) + (n : Int)) = ((i + n : Nat) : Int) := by rw [w64_id (by omega) (by omega)]; omega
    have hw2 : w64 (((i + n : Nat) : Int) - 1) = ((i + n - 1 : Nat) : Int) := w64_pred (by omega) (by omega)
    have g1 := (num_get hx (i := i + n) (by omega)).1
    have g2 := (num_get hx (i := i + n - 1) (by omega)).1
    have d1 := dif_w hx (i := i + n) (j := i + n - 1) (by omega) (by omega)
    have d2 := dif_w hx (i := i + 1) (j := i) (by omega) (by omega)
    have hst : ∀ r, (if decide (x.getD (i + n) 0 - x.getD (i + n - 1) 0 = x.getD (i + 1) 0 - x.getD i 0) = true then some (Lp.go ((n + 1 : Nat) : Int)) else some (Lp.out (n : Int))) = r → p_impl_runLen_l0 x (i : Int) (x.getD (i + 1) 0) (x.getD i 0) (n : Int) = r := by
      rintro _ rfl
      simp only [p_impl_runLen_l0]
      rw [hw, if_t (by simp; omega), hw2, g1, Option.bind_some, g2, Option.bind_some, d1, d2, w64_succ (by omega)]
    unfold ext
    have hdd : dif x (i + n) = x.getD (i + n) 0 - x.getD (i + n - 1) 0 := rfl
    have hd1 : dif x (i + 1) = x.getD (i + 1) 0 - x.getD i 0 := rfl
    by_cases h : dif x (i + n) = dif x (i + 1)
    · rw [if_pos h]
      rw [hdd, hd1] at h
      rw [loopP_go (hst _ (if_pos (decide_eq_true h))), ih (n + 1) (by omega) (by omega)]
      congr 2
      rw [show i + (n + 1) = i + n + 1 from by omega]
      congr 1
      omega
    · rw [if_neg h]
      rw [hdd, hd1] at h
      rw [loopP_out (hst _ (if_neg (by simpa using h)))]
      rfl
theorem q_runLen {i : Nat} (hi : i < x.length) : p_impl_runLen x (i : Int) = some (rl x i : Int) := by
  unfold p_impl_runLen rl
  rw [w64_succ (by omega)]
  by_cases h : i + 1 < x.length
  · rw [if_f (by simp; omega), if_pos h, (num_get hx h).1, Option.bind_some, (num_get hx hi).1, Option.bind_some]
    rw [show (2 : Int) = ((2 : Nat) : Int) from rfl, q_extImpl hx hl i h (x.length - (i + 2)) 2 (by omega) (by omega)]
    rfl
  · rw [if_t (by simp; omega), if_neg h]; rfl
theorem q_extSpec (i : Nat) (hi : i + 1 < x.length) : ∀ (f j : Nat), i + 2 ≤ j → j + f = x.length → loopP (p_spec_l01PutRuns_l1 x (i : Int)) (j : Int) = some (.out ((j + ext x (dif x (i + 1)) f j : Nat) : Int)) := by
  intro f
  induction f with
  | zero =>
    intro j hj hf
    refine loopP_out ?_
    simp only [p_spec_l01PutRuns_l1]
    rw [if_f (by simp; omega)]
    rfl
  | succ f ih =>
    intro j hj hf
    have hw2 : w64 ((j : Int) - 1) = ((j - 1 : Nat) : Int) := w64_pred (by omega) (by omega)
    have g1 := (num_get hx (i := j) (by omega)).1
    have g2 := (num_get hx (i := j - 1) (by omega)).1
    have g3 := (num_get hx hi).1
    have g4 := (num_get hx (i := i) (by omega)).1
    have d1 := dif_w hx (i := j) (j := j - 1) (by omega) (by omega)
    have d2 := dif_w hx (i := i + 1) (j := i) (by omega) (by omega)
    have hst : ∀ r, (if decide (x.getD j 0 - x.getD (j - 1) 0 = x.getD (i + 1) 0 - x.getD i 0) = true then some (Lp.go ((j + 1 : Nat) : Int)) else some (Lp.out (j : Int))) = r → p_spec_l01PutRuns_l1 x (i : Int) (j : Int) = r := by
      rintro _ rfl
      simp only [p_spec_l01PutRuns_l1]
      rw [if_t (by simp; omega), w64_succ (show i < 9223372036854775807 by omega), if_f (by simp; omega), hw2, g1, Option.bind_some, g2, Option.bind_some, g3, Option.bind_some, g4, Option.bind_some, d1, d2, w64_succ (by omega)]
    unfold ext
    have hdd : dif x j = x.getD j 0 - x.getD (j - 1) 0 := rfl
    have hd1 : dif x (i + 1) = x.getD (i + 1) 0 - x.getD i 0 := rfl
    by_cases h : dif x j = dif x (i + 1)
    · rw [if_pos h]
      rw [hdd, hd1] at h
      rw [loopP_go (hst _ (if_pos (decide_eq_true h))), ih (j + 1) (by omega) (by omega)]
      congr 2
      congr 1
      omega
    · rw [if_neg h]
      rw [hdd, hd1] at h
      rw [loopP_out (hst _ (if_neg (by simpa using h)))]
      rfl
theorem q_runSpec {i : Nat} (hi : i < x.length) : loopP (p_spec_l01PutRuns_l1 x (i : Int)) (w64 ((i : Int) + 1)) = some (.out ((i + rl x i : Nat) : Int)) := by
  unfold rl
  rw [w64_succ (by omega)]
  by_cases h : i + 1 < x.length
  · rw [if_pos h]
    have hst : p_spec_l01PutRuns_l1 x (i : Int) ((i + 1 : Nat) : Int) = some (.go ((i + 2 : Nat) : Int)) := by
      simp only [p_spec_l01PutRuns_l1]
      rw [if_t (by simp; omega), w64_succ (by omega), if_t (by simp), w64_succ (by omega)]
    rw [loopP_go hst, q_extSpec hx hl i h (x.length - (i + 2)) (i + 2) (by omega) (by omega)]
    congr 3
    omega
  · rw [if_neg h]
    refine loopP_out ?_
    simp only [p_spec_l01PutRuns_l1]
    rw [if_f (by simp; omega)]

/-- The sign in the lowest bit. -/
def zigN (d : Int) : Nat := if d < 0 then (-2 * d - 1).toNat else (2 * d).toNat
omit hx hl in
theorem q_zig {d : Int} (h0 : -1152921504606846975 ≤ d) (h1 : d ≤ 1152921504606846975) : p_impl_zig d = some (zigN d : Int) ∧ p_spec_l01Signed d = some (encN (zigN d)) ∧ zigN d < 4611686018427387904 := by
  unfold p_impl_zig p_spec_l01Signed zigN
  by_cases h : d < 0
  · have e1 : w64 (-2 * d) = -2 * d := w64_id (by omega) (by omega)
    have e2 : w64 (-2 * d - 1) = ((-2 * d - 1).toNat : Int) := by rw [w64_id (by omega) (by omega)]; omega
    rw [if_t (by simpa using h), if_t (by simpa using h), e1, e2, if_pos h, q_l01Put (by omega)]
    exact ⟨rfl, rfl, by omega⟩
  · have e2 : w64 (2 * d) = ((2 * d).toNat : Int) := by rw [w64_id (by omega) (by omega)]; omega
    rw [if_f (by simpa using h), if_f (by simpa using h), e2, if_neg h, q_l01Put (by omega)]
    exact ⟨rfl, rfl, by omega⟩

/-- What is written for the run that begins at i. -/
def runB (x : List Int) (i : Nat) : List U8 := encN (x.getD i 0).toNat ++ (encN (rl x i) ++ if 2 ≤ rl x i then encN (zigN (x.getD (i + 1) 0 - x.getD i 0)) else [])
theorem runB_len {i : Nat} (hi : i < x.length) : (runB x i).length ≤ 27 := by
  unfold runB
  have h1 := (num_get hx hi).2
  have h2 := rl_le x i hi
  unfold numOK at h1
  have e1 := encN_len9 (v := (x.getD i 0).toNat) (by omega)
  have e2 := encN_len9 (v := rl x i) (by omega)
  split
  · rename_i h
    have h3 := (num_get hx (i := i + 1) (by omega)).2
    unfold numOK at h3
    have e3 := encN_len9 (v := zigN (x.getD (i + 1) 0 - x.getD i 0)) (by have := (q_zig (d := x.getD (i + 1) 0 - x.getD i 0) (by omega) (by omega)).2.2; omega)
    simp only [List.length_append]
    omega
  · simp only [List.length_append, List.length_nil]
    omega
theorem q_runStep {i : Nat} (hi : i < x.length) (s : List U8) (hs : s.length ≤ 200000) :
    p_spec_l01PutRuns_l2 x (s, (i : Int)) = some (.go (s ++ runB x i, ((i + rl x i : Nat) : Int))) ∧ p_impl_appendRuns_l0 x (s, (i : Int)) = some (.go (s ++ runB x i, ((i + rl x i : Nat) : Int))) := by
  have g1 := (num_get hx hi).1
  have h1 := (num_get hx hi).2
  have h2 := rl_le x i hi
  unfold numOK at h1
  have e1 := encN_len9 (v := (x.getD i 0).toNat) (by omega)
  have e2 := encN_len9 (v := rl x i) (by omega)
  have hv : x.getD i 0 = ((x.getD i 0).toNat : Int) := by omega
  have hsub : w64 (((i + rl x i : Nat) : Int) - (i : Int)) = (rl x i : Int) := by rw [w64_id (by omega) (by omega)]; omega
  have hadd : w64 ((i : Int) + (rl x i : Int)) = ((i + rl x i : Nat) : Int) := by rw [w64_id (by omega) (by omega)]; omega
  have a1 : app? 1 s (encN (x.getD i 0).toNat) = some (s ++ encN (x.getD i 0).toNat) := app_list (by omega)
  have a2 : app? 1 (s ++ encN (x.getD i 0).toNat) (encN (rl x i)) = some (s ++ encN (x.getD i 0).toNat ++ encN (rl x i)) := app_list (by rw [List.length_append]; omega)
  have b1 : p_impl_appendInt s (x.getD i 0) = some (s ++ encN (x.getD i 0).toNat) := by
    conv => lhs; rw [hv]
    exact q_appendInt (by omega) (by omega)
  have b2 : p_impl_appendInt (s ++ encN (x.getD i 0).toNat) (rl x i : Int) = some (s ++ encN (x.getD i 0).toNat ++ encN (rl x i)) := q_appendInt (by omega) (by rw [List.length_append]; omega)
  have p1 : p_spec_l01Put (x.getD i 0) = some (encN (x.getD i 0).toNat) := by
    conv => lhs; rw [hv]
    exact q_l01Put (by omega)
  have p2 : p_spec_l01Put (rl x i : Int) = some (encN (rl x i)) := q_l01Put (by omega)
  simp only [p_spec_l01PutRuns_l2, p_impl_appendRuns_l0]
  rw [if_t (by simpa using hi), if_t (by simpa using hi), q_runSpec hx hl hi, q_runLen hx hl hi, g1]
  simp only [Option.bind_some, hsub, p1, p2, a1, a2, b1, b2, hadd]
  unfold runB
  by_cases h : 2 ≤ rl x i
  · have g3 := (num_get hx (i := i + 1) (by omega)).1
    have h3 := (num_get hx (i := i + 1) (by omega)).2
    unfold numOK at h3
    have hd := dif_w hx (i := i + 1) (j := i) (by omega) (by omega)
    obtain ⟨z1, z2, z3⟩ := q_zig (d := x.getD (i + 1) 0 - x.getD i 0) (by omega) (by omega)
    have e3 := encN_len9 (v := zigN (x.getD (i + 1) 0 - x.getD i 0)) (by omega)
    rw [if_t (by simp; omega), if_t (by simp; omega), w64_succ (by omega), g3, if_pos h]
    simp only [Option.bind_some, hd, z1, z2]
    rw [app_list (by simp only [List.length_append]; omega), q_appendInt (by omega) (by simp only [List.length_append]; omega)]
    simp only [Option.bind_some, List.append_assoc]
    constructor <;> first | rfl | trivial
  · rw [if_f (by simp; omega), if_f (by simp; omega), if_neg h, List.append_nil, ← List.append_assoc]
    constructor <;> first | rfl | trivial
/-- What is written from i on. -/
def runsB (x : List Int) : Nat → Nat → List U8
  | 0, _ => []
  | f + 1, i => if i < x.length then runB x i ++ runsB x f (i + rl x i) else []
omit hx hl in
theorem runsB_pos {f i : Nat} (h : i < x.length) : runsB x (f + 1) i = runB x i ++ runsB x f (i + rl x i) := if_pos h
theorem q_runsLoop : ∀ (f i : Nat) (s : List U8), i ≤ x.length → x.length ≤ i + f → s.length + 27 * (x.length - i) ≤ 150000 →
    ∃ j, loopP (p_spec_l01PutRuns_l2 x) (s, (i : Int)) = some (.out (s ++ runsB x f i, j)) ∧ loopP (p_impl_appendRuns_l0 x) (s, (i : Int)) = some (.out (s ++ runsB x f i, j)) := by
  intro f
  induction f with
  | zero =>
    intro i s h1 h2 h3
    refine ⟨(i : Int), loopP_out ?_, loopP_out ?_⟩
    · simp only [p_spec_l01PutRuns_l2]
      rw [if_f (by simp; omega)]
      simp [runsB]
    · simp only [p_impl_appendRuns_l0]
      rw [if_f (by simp; omega)]
      simp [runsB]
  | succ f ih =>
    intro i s h1 h2 h3
    by_cases hi : i < x.length
    · have hb := runB_len hx hl hi
      have hp := rl_pos x i
      have hle := rl_le x i hi
      obtain ⟨q1, q2⟩ := q_runStep hx hl hi s (by omega)
      obtain ⟨j, r1, r2⟩ := ih (i + rl x i) (s ++ runB x i) hle (by omega) (by rw [List.length_append]; omega)
      refine ⟨j, ?_, ?_⟩
      · rw [loopP_go q1, r1]
        rw [runsB_pos hi, List.append_assoc]
      · rw [loopP_go q2, r2]
        rw [runsB_pos hi, List.append_assoc]
    · refine ⟨(i : Int), loopP_out ?_, loopP_out ?_⟩
      · simp only [p_spec_l01PutRuns_l2]
        rw [if_f (by simp; omega)]
        simp [runsB, hi]
      · simp only [p_impl_appendRuns_l0]
        rw [if_f (by simp; omega)]
        simp [runsB, hi]
/-- What is written for a list of numbers. -/
def encRuns (x : List Int) : List U8 := encN x.length ++ runsB x x.length 0
theorem q_putRuns : p_spec_l01PutRuns x = some (encRuns x) := by
  unfold p_spec_l01PutRuns encRuns
  have h1 := encN_len9 (v := x.length) (by omega)
  rw [q_l01Put (by omega), Option.bind_some]
  obtain ⟨j, r1, r2⟩ := q_runsLoop hx hl x.length 0 (encN x.length) (by omega) (by omega) (by omega)
  rw [show (0 : Int) = ((0 : Nat) : Int) from rfl, r1]; rfl
theorem q_appendRuns {b : List U8} (hb : b.length ≤ 10000) : p_impl_appendRuns b x = some (b ++ encRuns x) := by
  unfold p_impl_appendRuns encRuns
  have h1 := encN_len9 (v := x.length) (by omega)
  rw [q_appendInt (by omega) (by omega), Option.bind_some]
  obtain ⟨j, r1, r2⟩ := q_runsLoop hx hl x.length 0 (b ++ encN x.length) (by omega) (by omega) (by rw [List.length_append]; omega)
  rw [show (0 : Int) = ((0 : Nat) : Int) from rfl, r2, List.append_assoc]; rfl
end

/-- A number of seven bits a byte, at most k bytes more: its value and where it ends. -/
def decN (x : List U8) : Nat → Nat → Option (Nat × Nat)
  | 0, _ => none
  | k + 1, i => match x[i]? with
    | none => none
    | some c => if k = 0 ∧ 63 < c.v then none else if c.v < 128 then (if k < 8 ∧ c.v = 0 then none else some (c.v.toNat, i + 1)) else (decN x k (i + 1)).map fun p => (c.v.toNat % 128 + 128 * p.1, p.2)
theorem decN_next {x : List U8} : ∀ {k i w nx : Nat}, decN x k i = some (w, nx) → i < nx ∧ nx ≤ x.length
  | 0, i, w, nx, h => by simp [decN] at h
  | k + 1, i, w, nx, h => by
    unfold decN at h
    cases hc : x[i]? with
    | none => rw [hc] at h; cases h
    | some c =>
      have hi := (List.getElem?_eq_some_iff.1 hc).1
      rw [hc] at h
      dsimp only at h
      split at h
      · cases h
      · split at h
        · split at h
          · cases h
          · cases h; omega
        · obtain ⟨p, hp, h⟩ := Option.map_eq_some_iff.1 h
          cases h
          have := decN_next (w := p.1) (nx := p.2) hp
          omega
theorem decN_bound {x : List U8} (hx : ∀ a, a ∈ x → 0 ≤ a.v ∧ a.v ≤ 255) : ∀ {k i w nx : Nat}, decN x (k + 1) i = some (w, nx) → w < 64 * 128 ^ k
  | 0, i, w, nx, h => by
    unfold decN at h
    cases hc : x[i]? with
    | none => rw [hc] at h; cases h
    | some c =>
      have hb := hx c (List.mem_of_getElem? hc)
      rw [hc] at h
      dsimp only at h
      split at h
      · cases h
      · split at h
        · split at h
          · cases h
          · cases h; simp; omega
        · simp [decN] at h
  | k + 1, i, w, nx, h => by
    unfold decN at h
    cases hc : x[i]? with
    | none => rw [hc] at h; cases h
    | some c =>
      have hb := hx c (List.mem_of_getElem? hc)
      have hp : 0 < 128 ^ k := Nat.pow_pos (by decide)
      rw [hc] at h
      dsimp only at h
      rw [Nat.pow_succ]
      split at h
      · cases h
      · split at h
        · split at h
          · cases h
          · cases h; omega
        · obtain ⟨p, hp, h⟩ := Option.map_eq_some_iff.1 h
          cases h
          have := decN_bound hx (w := p.1) (nx := p.2) hp
          omega
theorem q_getLoop {x : List U8} (hx : ∀ a, a ∈ x → 0 ≤ a.v ∧ a.v ≤ 255) (hl : x.length ≤ 1048576) (at_ : Nat) (ha : at_ ≤ x.length) : ∀ (k n v : Nat), n + k = 8 → v < 128 ^ n →
    (∀ w nx, decN x (k + 1) (at_ + n) = some (w, nx) → loopP (p_spec_l01Get_l0 x (at_ : Int)) ((v : Int), ((128 ^ n : Nat) : Int), (n : Int)) = some (.ret ⟨((v + 128 ^ n * w : Nat) : Int), (nx : Int), true⟩)) ∧
    (decN x (k + 1) (at_ + n) = none → ∃ e, loopP (p_spec_l01Get_l0 x (at_ : Int)) ((v : Int), ((128 ^ n : Nat) : Int), (n : Int)) = some e ∧ ((∃ a b, e = .ret ⟨a, b, false⟩) ∨ ∃ s, e = .out s)) := by
  intro k
  induction k with
  | zero => 
    intro n v hn hv
    obtain rfl : n = 8 := by omega
    have hw1 : w64 ((at_ : Int) + ((8 : Nat) : Int)) = ((at_ + 8 : Nat) : Int) := by rw [w64_id (by omega) (by omega)]; omega
    unfold decN
    cases hc : x[at_ + 8]? with
    | none =>
      have hlen := List.getElem?_eq_none_iff.1 hc
      refine ⟨fun w nx h => by simp at h, fun _ => ⟨_, loopP_out (s' := ((v : Int), ((128 ^ 8 : Nat) : Int), ((8 : Nat) : Int))) ?_, .inr ⟨_, rfl⟩⟩⟩
      simp only [p_spec_l01Get_l0]
      rw [if_t (by simp), hw1, if_f (by simp; omega)]
    | some c =>
      dsimp only
      have hb := hx c (List.mem_of_getElem? hc)
      have hlen := (List.getElem?_eq_some_iff.1 hc).1
      obtain ⟨c', hg, hg'⟩ := get_lt (xs := x) (i := at_ + 8) hlen
      rw [hc] at hg'; cases hg'
      have hcv : w64 c.v = c.v := w64_id (by omega) (by omega)
      by_cases h63 : 63 < c.v
      · rw [if_pos ⟨rfl, h63⟩]
        refine ⟨fun w nx h => (by cases h), fun _ => ⟨_, loopP_ret (r := ⟨0, 0, false⟩) ?_, .inl ⟨_, _, rfl⟩⟩⟩
        simp only [p_spec_l01Get_l0]
        rw [if_t (by simp), hw1, if_t (by simp; omega), hg, Option.bind_some, hcv, if_t (by simp), if_t (by simp; omega)]
      · rw [if_neg (by omega), if_pos (by omega)]
        have ht : Int.tmod c.v 128 = c.v := Int.tmod_eq_of_lt (by omega) (by omega)
        have hm1 : w64 (c.v * ((128 ^ 8 : Nat) : Int)) = c.v * ((128 ^ 8 : Nat) : Int) := w64_id (by simp; omega) (by simp; omega)
        have hvb : (v : Int) < 72057594037927936 := by have : v < 72057594037927936 := by simpa using hv
                                                       omega
        have hm2 : w64 ((v : Int) + c.v * ((128 ^ 8 : Nat) : Int)) = ((v + 128 ^ 8 * c.v.toNat : Nat) : Int) := by rw [w64_id (by simp; omega) (by simp; omega)]; simp; omega
        have hm3 : w64 (((at_ + 8 : Nat) : Int) + 1) = ((at_ + 8 + 1 : Nat) : Int) := w64_succ (by omega)
        have hst : p_spec_l01Get_l0 x (at_ : Int) ((v : Int), ((128 ^ 8 : Nat) : Int), ((8 : Nat) : Int)) = some (.ret ⟨((v + 128 ^ 8 * c.v.toNat : Nat) : Int), ((at_ + 8 + 1 : Nat) : Int), decide (0 < c.v)⟩) := by
          simp only [p_spec_l01Get_l0]
          rw [if_t (by simp), hw1, if_t (by simp; omega), hg, Option.bind_some, hcv, if_t (by simp), if_f (by simp; omega), if_t (by simp; omega), if_f (by simp), ht, hm1, hm2, hm3]
        by_cases h0 : c.v = 0
        · rw [if_pos ⟨by omega, h0⟩]
          have : decide (0 < c.v) = false := by simp; omega
          rw [this] at hst
          exact ⟨fun w nx h => (by cases h), fun _ => ⟨_, loopP_ret hst, .inl ⟨_, _, rfl⟩⟩⟩
        · rw [if_neg (by omega)]
          have : decide (0 < c.v) = true := by simp; omega
          rw [this] at hst
          refine ⟨fun w nx h => ?_, fun h => (by cases h)⟩
          cases h
          exact loopP_ret hst
  | succ k ih =>
    intro n v hn hv
    have hn8 : n < 8 := by omega
    have hpb : 128 ^ n ≤ 562949953421312 := by
      have : 128 ^ n ≤ 128 ^ 7 := Nat.pow_le_pow_right (by decide) (by omega)
      simpa using this
    have hpp : 0 < 128 ^ n := Nat.pow_pos (by decide)
    have hw1 : w64 ((at_ : Int) + (n : Int)) = ((at_ + n : Nat) : Int) := by rw [w64_id (by omega) (by omega)]; omega
    unfold decN
    cases hc : x[at_ + n]? with
    | none =>
      have hlen := List.getElem?_eq_none_iff.1 hc
      refine ⟨fun w nx h => by simp at h, fun _ => ⟨_, loopP_out (s' := ((v : Int), ((128 ^ n : Nat) : Int), (n : Int))) ?_, .inr ⟨_, rfl⟩⟩⟩
      simp only [p_spec_l01Get_l0]
      rw [if_t (by simp; omega), hw1, if_f (by simp; omega)]
    | some c =>
      dsimp only
      have hb := hx c (List.mem_of_getElem? hc)
      have hlen := (List.getElem?_eq_some_iff.1 hc).1
      obtain ⟨c', hg, hg'⟩ := get_lt (xs := x) (i := at_ + n) hlen
      rw [hc] at hg'; cases hg'
      have hcv : w64 c.v = c.v := w64_id (by omega) (by omega)
      rw [if_neg (by omega)]
      have ht : Int.tmod c.v 128 = ((c.v.toNat % 128 : Nat) : Int) := by rw [Int.tmod_eq_emod_of_nonneg (by omega)]; omega
      have hcm : c.v.toNat % 128 < 128 := Nat.mod_lt _ (by decide)
      have hmul : (c.v.toNat % 128) * 128 ^ n ≤ 127 * 128 ^ n := Nat.mul_le_mul_right _ (by omega)
      have hm1 : w64 (((c.v.toNat % 128 : Nat) : Int) * ((128 ^ n : Nat) : Int)) = (((c.v.toNat % 128) * 128 ^ n : Nat) : Int) := by
        rw [← Int.natCast_mul, w64_id (by omega) (by omega)]
      have hm2 : w64 ((v : Int) + (((c.v.toNat % 128) * 128 ^ n : Nat) : Int)) = ((v + 128 ^ n * (c.v.toNat % 128) : Nat) : Int) := by
        have e := Nat.mul_comm (128 ^ n) (c.v.toNat % 128)
        have hz := Nat.zero_le (c.v.toNat % 128 * 128 ^ n)
        rw [e, ← Int.natCast_add]
        exact w64_id (by omega) (by omega)
      have hm3 : w64 (((at_ + n : Nat) : Int) + 1) = ((at_ + n + 1 : Nat) : Int) := w64_succ (by omega)
      by_cases h128 : c.v < 128
      · rw [if_pos h128]
        have hst : p_spec_l01Get_l0 x (at_ : Int) ((v : Int), ((128 ^ n : Nat) : Int), (n : Int)) = some (.ret ⟨((v + 128 ^ n * (c.v.toNat % 128) : Nat) : Int), ((at_ + n + 1 : Nat) : Int), decide (n = 0 ∨ 0 < c.v)⟩) := by
          simp only [p_spec_l01Get_l0]
          rw [if_t (by simp; omega), hw1, if_t (by simp; omega), hg, Option.bind_some, hcv, if_f (by simp; omega), if_t (by simp; omega), ht, hm1, hm2, hm3]
          by_cases h0 : n = 0
          · rw [if_t (by simp; omega)]; simp [h0]
          · rw [if_f (by simp; omega)]; simp [h0]
        by_cases h0 : k + 1 < 8 ∧ c.v = 0
        · rw [if_pos h0]
          have : decide (n = 0 ∨ 0 < c.v) = false := by simp; omega
          rw [this] at hst
          exact ⟨fun w nx h => (by cases h), fun _ => ⟨_, loopP_ret hst, .inl ⟨_, _, rfl⟩⟩⟩
        · rw [if_neg h0]
          have : decide (n = 0 ∨ 0 < c.v) = true := by simp; omega
          rw [this] at hst
          refine ⟨fun w nx h => ?_, fun h => (by cases h)⟩
          cases h
          rw [show c.v.toNat % 128 = c.v.toNat from by omega] at hst
          exact loopP_ret hst
      · rw [if_neg h128]
        have hu : w64 (((128 ^ n : Nat) : Int) * 128) = ((128 ^ (n + 1) : Nat) : Int) := by
          rw [w64_id (by omega) (by omega), Nat.pow_succ, Int.natCast_mul]; rfl
        have hst : p_spec_l01Get_l0 x (at_ : Int) ((v : Int), ((128 ^ n : Nat) : Int), (n : Int)) = some (.go (((v + 128 ^ n * (c.v.toNat % 128) : Nat) : Int), ((128 ^ (n + 1) : Nat) : Int), ((n + 1 : Nat) : Int))) := by
          simp only [p_spec_l01Get_l0]
          rw [if_t (by simp; omega), hw1, if_t (by simp; omega), hg, Option.bind_some, hcv, if_f (by simp; omega), if_f (by simp; omega), if_t (by simp; omega), ht, hm1, hm2, hu, w64_succ (by omega)]
        have hv' : v + 128 ^ n * (c.v.toNat % 128) < 128 ^ (n + 1) := by
          rw [Nat.pow_succ]
          have : 128 ^ n * (c.v.toNat % 128) ≤ 128 ^ n * 127 := Nat.mul_le_mul_left _ (by omega)
          omega
        obtain ⟨i1, i2⟩ := ih (n + 1) _ (by omega) hv'
        rw [loopP_go hst]
        constructor
        · intro w nx h
          obtain ⟨p, hp, h⟩ := Option.map_eq_some_iff.1 h
          cases h
          rw [i1 p.1 p.2 hp, Nat.pow_succ, Nat.mul_add, Nat.mul_assoc, Nat.add_assoc]
        · intro h
          exact i2 (Option.map_eq_none_iff.1 h)
theorem q_get {x : List U8} (hx : ∀ a, a ∈ x → 0 ≤ a.v ∧ a.v ≤ 255) (hl : x.length ≤ 1048576) (at_ : Nat) (ha : at_ ≤ x.length) :
    (∀ w nx, decN x 9 at_ = some (w, nx) → p_spec_l01Get x (at_ : Int) = some ⟨(w : Int), (nx : Int), true⟩) ∧ (decN x 9 at_ = none → ∃ a b, p_spec_l01Get x (at_ : Int) = some ⟨a, b, false⟩) := by
  obtain ⟨h1, h2⟩ := q_getLoop hx hl at_ ha 8 0 0 rfl (by decide)
  unfold p_spec_l01Get
  constructor
  · intro w nx h
    have := h1 w nx h
    simp only [Nat.pow_zero, Nat.one_mul, Nat.zero_add] at this
    rw [show ((0 : Int), (1 : Int), (0 : Int)) = (((0 : Nat) : Int), ((1 : Nat) : Int), ((0 : Nat) : Int)) from rfl, this]; rfl
  · intro h
    obtain ⟨e, h3, h4⟩ := h2 h
    rw [show ((0 : Int), (1 : Int), (0 : Int)) = (((0 : Nat) : Int), ((128 ^ 0 : Nat) : Int), ((0 : Nat) : Int)) from rfl, h3]
    rcases h4 with ⟨a, b, rfl⟩ | ⟨⟨a, b, c⟩, rfl⟩
    · exact ⟨a, b, rfl⟩
    · exact ⟨0, 0, rfl⟩

theorem q_numLoop {r : TReader} (hx : ∀ a, a ∈ r.b → 0 ≤ a.v ∧ a.v ≤ 255) (hl : r.b.length ≤ 1048576) (hbad : r.bad = false) : ∀ (k n v i : Nat), n + k = 8 → v < 128 ^ n →
    (∀ w nx, decN r.b (k + 1) i = some (w, nx) → loopP (p_impl_reader_num_l0 r) ((i : Int), (v : Int), ((7 * n : Nat) : Int)) = some (.ret ⟨((v + 128 ^ n * w : Nat) : Int), ⟨r.b, (nx : Int), false⟩⟩)) ∧
    (decN r.b (k + 1) i = none → ∃ r', loopP (p_impl_reader_num_l0 r) ((i : Int), (v : Int), ((7 * n : Nat) : Int)) = some (.ret ⟨0, r'⟩) ∧ r'.bad = true ∧ r'.b = r.b) := by
  intro k
  induction k with
  | zero => 
    intro n v i hn hv
    obtain rfl : n = 8 := by omega
    unfold decN
    cases hc : r.b[i]? with
    | none =>
      have hlen := List.getElem?_eq_none_iff.1 hc
      refine ⟨fun w nx h => by simp at h, fun _ => ⟨⟨r.b, i, true⟩, loopP_ret ?_, rfl, rfl⟩⟩
      simp only [p_impl_reader_num_l0]
      rw [if_f hbad, if_t (by simp; omega)]
    | some c =>
      dsimp only
      have hb := hx c (List.mem_of_getElem? hc)
      have hlen := (List.getElem?_eq_some_iff.1 hc).1
      obtain ⟨c', hg, hg'⟩ := get_lt (xs := r.b) (i := i) hlen
      rw [hc] at hg'; cases hg'
      have hi1 : w64 ((i : Int) + 1) = ((i + 1 : Nat) : Int) := w64_succ (by omega)
      by_cases h63 : 63 < c.v
      · rw [if_pos ⟨rfl, h63⟩]
        refine ⟨fun w nx h => (by cases h), fun _ => ⟨⟨r.b, ((i + 1 : Nat) : Int), true⟩, loopP_ret ?_, rfl, rfl⟩⟩
        simp only [p_impl_reader_num_l0]
        rw [if_f hbad, if_f (by simp; omega), if_f (by simp), hg, Option.bind_some, if_t (by simp), if_t (by simp; omega), hi1]
      · rw [if_neg (by omega), if_pos (by omega)]
        have hand : IntKind.wrap .u64 (andI .u8 c.v 127) = ((c.v.toNat : Nat) : Int) := by
          rw [and127_u8 (by omega) (by omega), wrap_u64_id (by omega) (by omega)]; omega
        have hcn : c.v.toNat ≤ 63 := by omega
        have hvb : v < 2 ^ 56 := by simpa using hv
        have hsh : shl? .u64 ((c.v.toNat : Nat) : Int) ((7 * 8 : Nat) : Int) = some ((c.v.toNat * 2 ^ 56 : Nat) : Int) := shl_u64 (y := c.v.toNat) (i := 56) (by omega) (by omega)
        have hor : orI .u64 (v : Int) ((c.v.toNat * 2 ^ 56 : Nat) : Int) = ((v + c.v.toNat * 2 ^ 56 : Nat) : Int) := or_u64 hvb (by omega)
        have hwv : w64 ((v + c.v.toNat * 2 ^ 56 : Nat) : Int) = ((v + 128 ^ 8 * c.v.toNat : Nat) : Int) := by
          rw [w64_id (by omega) (by omega)]
          congr 1
          rw [Nat.mul_comm]
        by_cases h0 : c.v = 0
        · rw [if_pos ⟨by omega, h0⟩]
          refine ⟨fun w nx h => (by cases h), fun _ => ⟨⟨r.b, ((i + 1 : Nat) : Int), true⟩, loopP_ret ?_, rfl, rfl⟩⟩
          simp only [p_impl_reader_num_l0]
          rw [if_f hbad, if_f (by simp; omega), if_f (by simp), hg, Option.bind_some, if_t (by simp), if_f (by simp; omega), hand, hsh, Option.bind_some, if_t (by simp; omega), if_t (by simp [h0]), if_t (by simp), hi1]
        · rw [if_neg (by omega)]
          refine ⟨fun w nx h => ?_, fun h => (by cases h)⟩
          cases h
          refine loopP_ret ?_
          simp only [p_impl_reader_num_l0]
          rw [if_f hbad, if_f (by simp; omega), if_f (by simp), hg, Option.bind_some, if_t (by simp), if_f (by simp; omega), hand, hsh, Option.bind_some, if_t (by simp; omega), if_f (by simp [h0]), hi1, hor, hwv, hbad]
  | succ k ih =>
    intro n v i hn hv
    have hn8 : n < 8 := by omega
    have hpb : 128 ^ n ≤ 562949953421312 := by
      have : 128 ^ n ≤ 128 ^ 7 := Nat.pow_le_pow_right (by decide) (by omega)
      simpa using this
    have hpp : 0 < 128 ^ n := Nat.pow_pos (by decide)
    have hp2 : 2 ^ (7 * n) = 128 ^ n := by rw [Nat.pow_mul]
    unfold decN
    cases hc : r.b[i]? with
    | none =>
      have hlen := List.getElem?_eq_none_iff.1 hc
      refine ⟨fun w nx h => by simp at h, fun _ => ⟨⟨r.b, i, true⟩, loopP_ret ?_, rfl, rfl⟩⟩
      simp only [p_impl_reader_num_l0]
      rw [if_f hbad, if_t (by simp; omega)]
    | some c =>
      dsimp only
      have hb := hx c (List.mem_of_getElem? hc)
      have hlen := (List.getElem?_eq_some_iff.1 hc).1
      obtain ⟨c', hg, hg'⟩ := get_lt (xs := r.b) (i := i) hlen
      rw [hc] at hg'; cases hg'
      have hi1 : w64 ((i : Int) + 1) = ((i + 1 : Nat) : Int) := w64_succ (by omega)
      rw [if_neg (by omega)]
      have hand : IntKind.wrap .u64 (andI .u8 c.v 127) = ((c.v.toNat % 128 : Nat) : Int) := by
        rw [and127_u8 (by omega) (by omega), wrap_u64_id (by omega) (by omega)]; omega
      have hcm : c.v.toNat % 128 < 128 := Nat.mod_lt _ (by decide)
      have hmul : (c.v.toNat % 128) * 128 ^ n ≤ 127 * 128 ^ n := Nat.mul_le_mul_right _ (by omega)
      have hsh : shl? .u64 ((c.v.toNat % 128 : Nat) : Int) ((7 * n : Nat) : Int) = some ((c.v.toNat % 128 * 2 ^ (7 * n) : Nat) : Int) := shl_u64 (by omega) (by rw [hp2]; omega)
      have hor : orI .u64 (v : Int) ((c.v.toNat % 128 * 2 ^ (7 * n) : Nat) : Int) = ((v + 128 ^ n * (c.v.toNat % 128) : Nat) : Int) := by
        rw [or_u64 (by rw [hp2]; exact hv) (by rw [hp2]; omega), hp2, Nat.mul_comm]
      have hmul2 : 128 ^ n * (c.v.toNat % 128) ≤ 127 * 128 ^ n := by rw [Nat.mul_comm]; exact hmul
      have hwv : w64 ((v + 128 ^ n * (c.v.toNat % 128) : Nat) : Int) = ((v + 128 ^ n * (c.v.toNat % 128) : Nat) : Int) := w64_id (by omega) (by omega)
      by_cases h128 : c.v < 128
      · rw [if_pos h128]
        by_cases h0 : k + 1 < 8 ∧ c.v = 0
        · rw [if_pos h0]
          refine ⟨fun w nx h => (by cases h), fun _ => ⟨⟨r.b, ((i + 1 : Nat) : Int), true⟩, loopP_ret ?_, rfl, rfl⟩⟩
          simp only [p_impl_reader_num_l0]
          rw [if_f hbad, if_f (by simp; omega), if_f (by simp; omega), hg, Option.bind_some, if_f (by simp; omega), hand, hsh, Option.bind_some, if_t (by simp; omega), if_t (by simp; omega), if_t (by simp; omega), hi1]
        · rw [if_neg h0]
          refine ⟨fun w nx h => ?_, fun h => (by cases h)⟩
          cases h
          refine loopP_ret ?_
          simp only [p_impl_reader_num_l0]
          rw [if_f hbad, if_f (by simp; omega), if_f (by simp; omega), hg, Option.bind_some, if_f (by simp; omega), hand, hsh, Option.bind_some, if_t (by simp; omega)]
          rw [hor, hwv, hi1, hbad, show c.v.toNat % 128 = c.v.toNat from by omega]
          by_cases h0' : c.v = 0
          · rw [if_t (by simp; omega), if_f (by simp; omega)]
          · rw [if_f (by simp; omega)]
      · rw [if_neg h128]
        have h7 : IntKind.wrap .u64 (((7 * n : Nat) : Int) + 7) = ((7 * (n + 1) : Nat) : Int) := by rw [wrap_u64_id (by omega) (by omega)]; omega
        have hst : p_impl_reader_num_l0 r ((i : Int), (v : Int), ((7 * n : Nat) : Int)) = some (.go (((i + 1 : Nat) : Int), ((v + 128 ^ n * (c.v.toNat % 128) : Nat) : Int), ((7 * (n + 1) : Nat) : Int))) := by
          simp only [p_impl_reader_num_l0]
          rw [if_f hbad, if_f (by simp; omega), if_f (by simp; omega), hg, Option.bind_some, if_f (by simp; omega), hand, hsh, Option.bind_some, if_f (by simp; omega), hor, hi1, h7]
        have hv' : v + 128 ^ n * (c.v.toNat % 128) < 128 ^ (n + 1) := by
          rw [Nat.pow_succ]
          have : 128 ^ n * (c.v.toNat % 128) ≤ 128 ^ n * 127 := Nat.mul_le_mul_left _ (by omega)
          omega
        obtain ⟨i1, i2⟩ := ih (n + 1) _ (i + 1) (by omega) hv'
        rw [loopP_go hst]
        constructor
        · intro w nx h
          obtain ⟨p, hp, h⟩ := Option.map_eq_some_iff.1 h
          cases h
          rw [i1 p.1 p.2 hp, Nat.pow_succ, Nat.mul_add, Nat.mul_assoc, Nat.add_assoc]
        · intro h
          exact i2 (Option.map_eq_none_iff.1 h)
theorem q_num {r : TReader} (hx : ∀ a, a ∈ r.b → 0 ≤ a.v ∧ a.v ≤ 255) (hl : r.b.length ≤ 1048576) (hbad : r.bad = false) {i : Nat} (hi : r.at_ = (i : Int)) :
    (∀ w nx, decN r.b 9 i = some (w, nx) → p_impl_reader_num r = some ⟨(w : Int), ⟨r.b, (nx : Int), false⟩⟩) ∧ (decN r.b 9 i = none → ∃ r', p_impl_reader_num r = some ⟨0, r'⟩ ∧ r'.bad = true ∧ r'.b = r.b) := by
  obtain ⟨h1, h2⟩ := q_numLoop hx hl hbad 8 0 0 i rfl (by decide)
  unfold p_impl_reader_num
  rw [hi]
  constructor
  · intro w nx h
    have := h1 w nx h
    simp only [Nat.pow_zero, Nat.one_mul, Nat.zero_add] at this
    rw [show ((i : Int), (0 : Int), (0 : Int)) = ((i : Int), ((0 : Nat) : Int), ((7 * 0 : Nat) : Int)) from rfl, this]; rfl
  · intro h
    obtain ⟨r', h3, h4⟩ := h2 h
    exact ⟨r', by rw [show ((i : Int), (0 : Int), (0 : Int)) = ((i : Int), ((0 : Nat) : Int), ((7 * 0 : Nat) : Int)) from rfl, h3]; rfl, h4⟩

theorem q_eqInts (x : List Int) (hx : x.length < 9223372036854775807) : p_laws_eqIntS x x = some true := by
  unfold p_laws_eqIntS
  rw [if_pos (by simp)]
  have e : p_laws_eqIntS_l0 x x = eqStep x x fun a b => some (decide (a = b)) := by
    funext s
    unfold p_laws_eqIntS_l0 eqStep
    simp only [Option.bind_some]
  rw [e]
  obtain ⟨i, h⟩ := eq_loop (x := x) (g := fun a b => some (decide (a = b))) (fun a _ => by simp) hx
  rw [h]; rfl
abbrev rdr (x : List U8) (i : Nat) : TReader := ⟨x, (i : Int), false⟩
theorem badNumI {r : TReader} (h : r.bad = true) : p_impl_reader_num r = some ⟨0, r⟩ := by
  unfold p_impl_reader_num
  rw [loopP_out (s' := (r.at_, 0, 0)) (by simp only [p_impl_reader_num_l0]; rw [if_pos h])]
  rfl
theorem badNumS {r : TReader} (h : r.bad = true) : p_spec_l01Reader_num r = some ⟨0, r⟩ := by
  unfold p_spec_l01Reader_num
  rw [if_pos h]
section
variable {x : List U8} (hx : ∀ a, a ∈ x → 0 ≤ a.v ∧ a.v ≤ 255) (hl : x.length ≤ 1048576)
include hx hl
/-- One number: both read it, or both fail. -/
theorem num_both {i : Nat} (hi : i ≤ x.length) : (∃ w nx : Nat, nx ≤ x.length ∧ w < 4611686018427387904 ∧ p_impl_reader_num (rdr x i) = some ⟨(w : Int), rdr x nx⟩ ∧ p_spec_l01Reader_num (rdr x i) = some ⟨(w : Int), rdr x nx⟩) ∨
    ∃ r r' : TReader, p_impl_reader_num (rdr x i) = some ⟨0, r⟩ ∧ r.bad = true ∧ p_spec_l01Reader_num (rdr x i) = some ⟨0, r'⟩ ∧ r'.bad = true := by
  obtain ⟨a1, a2⟩ := q_num (r := rdr x i) hx hl rfl (i := i) rfl
  obtain ⟨b1, b2⟩ := q_get hx hl i hi
  cases hd : decN x 9 i with
  | some p =>
    obtain ⟨w, nx⟩ := p
    have hw := decN_bound hx hd
    refine .inl ⟨w, nx, (decN_next hd).2, by simpa using hw, a1 w nx hd, ?_⟩
    unfold p_spec_l01Reader_num
    rw [if_neg (by simp), b1 w nx hd]
    rfl
  | none =>
    obtain ⟨r, c1, c2, _⟩ := a2 hd
    obtain ⟨u, v, c3⟩ := b2 hd
    refine .inr ⟨r, ⟨x, (i : Int), true⟩, c1, c2, ?_, rfl⟩
    unfold p_spec_l01Reader_num
    rw [if_neg (by simp), c3]
    rfl
end
theorem and1_i64 {n : Nat} (h1 : n < 4611686018427387904) : andI .i64 (n : Int) 1 = ((n % 2 : Nat) : Int) := by
  have e1 : (BitVec.ofInt 64 (n : Int)).toNat = n := toNat_ofInt (by omega)
  have e2 : (BitVec.ofInt 64 (1 : Int)).toNat = 1 := toNat_ofInt (n := 1) (by omega)
  have e : (BitVec.ofInt 64 (n : Int) &&& BitVec.ofInt 64 1).toNat = n % 2 := by
    rw [BitVec.toNat_and, e1, e2]
    exact Nat.and_two_pow_sub_one_eq_mod n 1
  unfold andI
  rw [show IntKind.bits .i64 = 64 from rfl, e, w64_eq, w64_id (by omega) (by omega)]
/-- The step of a run. -/
def stepN (w : Nat) : Int := if w % 2 = 1 then -(((w + 1) / 2 : Nat) : Int) else ((w / 2 : Nat) : Int)
theorem q_zagN {w : Nat} (h : w < 4611686018427387904) : p_impl_zag (w : Int) = some (stepN w) ∧ halfS (w : Int) = stepN w := by
  have t1 : Int.tmod (w : Int) 2 = ((w % 2 : Nat) : Int) := by rw [Int.tmod_eq_emod_of_nonneg (by omega)]; omega
  have t2 : w64 (Int.tdiv (w : Int) 2) = ((w / 2 : Nat) : Int) := by rw [Int.tdiv_eq_ediv_of_nonneg (by omega), w64_id (by omega) (by omega)]; omega
  have t3 : w64 ((w : Int) + 1) = ((w + 1 : Nat) : Int) := by rw [w64_id (by omega) (by omega)]; omega
  have t4 : Int.tdiv ((w + 1 : Nat) : Int) 2 = (((w + 1) / 2 : Nat) : Int) := by rw [Int.tdiv_eq_ediv_of_nonneg (by omega)]; omega
  constructor
  · unfold p_impl_zag stepN
    rw [and1_i64 h]
    by_cases e : w % 2 = 1
    · rw [if_pos e, if_t (by rw [e]; rfl), t3, t4, w64_id (n := (((w + 1) / 2 : Nat) : Int)) (by omega) (by omega), w64_id (by omega) (by omega), Int.zero_sub]
    · rw [if_neg e, if_f (by simp; omega), t2]
  · unfold halfS stepN
    rw [t1]
    by_cases e : w % 2 = 1
    · rw [if_pos e, if_pos (by rw [e]; rfl), t3, Int.zero_sub, w64_id (n := -((w + 1 : Nat) : Int)) (by omega) (by omega), Int.neg_tdiv, t4, w64_id (by omega) (by omega)]
    · rw [if_neg e, if_neg (by omega), t2]
theorem stepN_le {w : Nat} (h : w < 4611686018427387904) : -2305843009213693953 ≤ stepN w ∧ stepN w ≤ 2305843009213693953 := by
  unfold stepN
  split <;> omega
/-- A run: both lay it down, or both fail. -/
theorem run_both (r : TReader) (hr : r.bad = false) (d : Int) (hd : -2305843009213693953 ≤ d ∧ d ≤ 2305843009213693953) : ∀ (m : Nat) (s : List Int) (v j k : Int), numOK v → (∀ a, a ∈ s → numOK a) → s.length + m + 1 ≤ 4096 → 0 ≤ j → k = j + m → k ≤ 4096 →
    (∃ s' v' k' v'' j', loopP (p_spec_l01Reader_runs_l2 r d) (s, v, ((m + 1 : Nat) : Int)) = some (.out (s', v', k')) ∧ loopP (p_impl_reader_runs_l2 r d k) (s ++ [v], v, j) = some (.out (s', v'', j')) ∧ s'.length = s.length + m + 1 ∧ ∀ a, a ∈ s' → numOK a) ∨
    ∃ l, loopP (p_spec_l01Reader_runs_l2 r d) (s, v, ((m + 1 : Nat) : Int)) = some (.ret ⟨l, badR r⟩) ∧ loopP (p_impl_reader_runs_l2 r d k) (s ++ [v], v, j) = some (.ret ⟨[], badR r⟩)
  | 0, s, v, j, k, hv, hs, hl, hj, hk, hj2 => by
    have hv' := hv
    unfold numOK at hv'
    refine .inl ⟨s ++ [v], w64 (v + d), 0, v, j, ?_, ?_, by simp, ?_⟩
    · rw [loopP_go (s' := (s ++ [v], w64 (v + d), 0)) (by
        simp only [p_spec_l01Reader_runs_l2]
        rw [if_pos (by omega), if_pos (by omega), if_neg (by omega)]
        rfl)]
      exact loopP_out (by simp only [p_spec_l01Reader_runs_l2]; rw [if_neg (by omega)])
    · exact loopP_out (by simp only [p_impl_reader_runs_l2]; rw [if_neg (by omega)])
    · intro a ha
      rcases List.mem_append.1 ha with h | h
      · exact hs a h
      · rw [List.mem_singleton.1 h]; exact hv
  | m + 1, s, v, j, k, hv, hs, hl, hj, hk, hj2 => by
    have hv' := hv
    unfold numOK at hv'
    have hw : w64 (v + d) = v + d := w64_id (by omega) (by omega)
    have hs2 : ∀ a, a ∈ s ++ [v] → numOK a := by
      intro a ha
      rcases List.mem_append.1 ha with h | h
      · exact hs a h
      · rw [List.mem_singleton.1 h]; exact hv
    by_cases hb : v + d < 0 ∨ 1152921504606846975 < v + d
    · refine .inr ⟨s ++ [v], ?_, ?_⟩
      · exact loopP_ret (by
          simp only [p_spec_l01Reader_runs_l2, hw]
          rw [if_pos (by omega), if_pos (by omega), if_pos ⟨by omega, hb⟩])
      · exact loopP_ret (by
          simp only [p_impl_reader_runs_l2, hw]
          rw [if_pos (by omega), if_pos (.inr hb)])
    · have hv2 : numOK (v + d) := by unfold numOK; omega
      have e1 : loopP (p_spec_l01Reader_runs_l2 r d) (s, v, ((m + 1 + 1 : Nat) : Int)) = loopP (p_spec_l01Reader_runs_l2 r d) (s ++ [v], v + d, ((m + 1 : Nat) : Int)) := loopP_go (by
        simp only [p_spec_l01Reader_runs_l2, hw]
        rw [if_pos (by omega), if_pos (by omega), if_neg (fun h => hb h.2), w64_id (by omega) (by omega)]
        rw [show ((m + 1 + 1 : Nat) : Int) - 1 = ((m + 1 : Nat) : Int) by omega])
      have e2 : loopP (p_impl_reader_runs_l2 r d k) (s ++ [v], v, j) = loopP (p_impl_reader_runs_l2 r d k) (s ++ [v] ++ [v + d], v + d, j + 1) := loopP_go (by
        simp only [p_impl_reader_runs_l2, hw]
        rw [if_pos (by omega), if_neg (by rw [hr]; rintro (h | h); cases h; exact hb h), if_pos (by simp; omega), w64_id (n := j + 1) (by omega) (by omega)])
      rw [e1, e2]
      rcases run_both r hr d hd m (s ++ [v]) (v + d) (j + 1) k hv2 hs2 (by simp; omega) (by omega) (by omega) (by omega) with ⟨s', v', k', v'', j', h1, h2, h3, h4⟩ | h
      · exact .inl ⟨s', v', k', v'', j', h1, h2, by rw [h3]; simp; omega, h4⟩
      · exact .inr h
/-- A run that stands still. -/
theorem run_still (r : TReader) : ∀ (m : Nat) (s : List Int) (v : Int), numOK v → s.length + m ≤ 4096 → ∃ s' k', loopP (p_spec_l01Reader_runs_l2 r 0) (s, v, (m : Int)) = some (.out (s', v, k'))
  | 0, s, v, hv, hl => ⟨s, _, loopP_out (by simp only [p_spec_l01Reader_runs_l2]; rw [if_neg (by omega)])⟩
  | m + 1, s, v, hv, hl => by
    have hv' := hv
    unfold numOK at hv'
    have hw : w64 (v + 0) = v := by rw [Int.add_zero, w64_id (by omega) (by omega)]
    have e1 : loopP (p_spec_l01Reader_runs_l2 r 0) (s, v, ((m + 1 : Nat) : Int)) = loopP (p_spec_l01Reader_runs_l2 r 0) (s ++ [v], v, (m : Int)) := loopP_go (by
      simp only [p_spec_l01Reader_runs_l2, hw]
      rw [if_pos (by omega), if_pos (by omega), if_neg (by omega), w64_id (by omega) (by omega)]
      rw [show ((m + 1 : Nat) : Int) - 1 = (m : Int) by omega])
    obtain ⟨s', k', h⟩ := run_still r m (s ++ [v]) v hv (by simp; omega)
    exact ⟨s', k', by rw [e1]; exact h⟩
def FailI (e : Ex (List Int × TReader) (T2 (List Int) TReader)) : Prop := ∃ q, e = .ret ⟨[], q⟩ ∧ q.bad = true
def FailS (e : Ex (List Int × TReader) (T2 (List Int) TReader)) : Prop := (∃ l q, e = .ret ⟨l, q⟩ ∧ q.bad = true) ∨ ∃ l q, e = .out (l, q) ∧ q.bad = true
section
variable {x : List U8} (hx : ∀ a, a ∈ x → 0 ≤ a.v ∧ a.v ≤ 255) (hl : x.length ≤ 1048576)
include hx hl
theorem runs_loop (n : Nat) (hn : n ≤ 4096) : ∀ (m : Nat) (s : List Int) (i : Nat), n - s.length = m → s.length ≤ n → i ≤ x.length → (∀ a, a ∈ s → numOK a) →
    ∃ ei es, loopP (p_impl_reader_runs_l0 (n : Int)) (s, rdr x i) = some ei ∧ loopP (p_spec_l01Reader_runs_l0 (n : Int)) (s, rdr x i) = some es ∧
      ((∃ s' i', ei = .out (s', rdr x i') ∧ es = .out (s', rdr x i') ∧ i' ≤ x.length ∧ s'.length ≤ 4096 ∧ ∀ a, a ∈ s' → numOK a) ∨ (FailI ei ∧ FailS es)) := by
  intro m
  induction m using Nat.strongRecOn with
  | ind m ih =>
    intro s i hm hsn hi hs
    by_cases h1 : (s.length : Int) < (n : Int)
    case neg =>
      refine ⟨.out (s, rdr x i), .out (s, rdr x i), loopP_out (by simp only [p_impl_reader_runs_l0]; rw [if_neg h1]), loopP_out (by simp only [p_spec_l01Reader_runs_l0]; rw [if_neg h1]), .inl ⟨s, i, rfl, rfl, hi, by omega, hs⟩⟩
    have sI : p_impl_reader_runs_l0 (n : Int) (s, rdr x i) = (p_impl_reader_num (rdr x i)).bind fun q1 => (p_impl_reader_num q1.b).bind fun q2 =>
        if q2.b.bad = true ∨ 1152921504606846975 < q1.a ∨ q2.a < 1 ∨ (n : Int) - s.length < q2.a then some (.ret ⟨[], badR q2.b⟩)
        else if q2.a = 1 then some (.go (s ++ [q1.a], q2.b))
        else (p_impl_reader_num q2.b).bind fun q3 => (p_impl_zag q3.a).bind fun d => (loopP (p_impl_reader_runs_l2 q3.b d q2.a) (s ++ [q1.a], q1.a, 1)).map (goOn q3.b) := by
      simp only [p_impl_reader_runs_l0]
      rw [if_pos h1, if_pos (by omega)]
    have sS : p_spec_l01Reader_runs_l0 (n : Int) (s, rdr x i) = (p_spec_l01Reader_num (rdr x i)).bind fun q1 => (p_spec_l01Reader_num q1.b).bind fun q2 =>
        if q2.b.bad = true ∨ q2.a < 1 ∨ (n : Int) - s.length < q2.a ∨ 1152921504606846975 < q1.a then some (.ret ⟨s, badR q2.b⟩)
        else if 1 < q2.a then (p_spec_l01Reader_num q2.b).bind fun q3 => (loopP (p_spec_l01Reader_runs_l2 q3.b (halfS q3.a)) (s, q1.a, q2.a)).map (goOn q3.b)
        else (loopP (p_spec_l01Reader_runs_l2 q2.b 0) (s, q1.a, q2.a)).map (goOn q2.b) := by
      simp only [p_spec_l01Reader_runs_l0]
      rw [if_pos h1, if_neg (by simp), if_pos (by omega)]
    have fails : ∀ (ri rs : TReader), ri.bad = true → rs.bad = true → p_impl_reader_runs_l0 (n : Int) (s, rdr x i) = some (.ret ⟨[], ri⟩) → (∃ l, p_spec_l01Reader_runs_l0 (n : Int) (s, rdr x i) = some (.ret ⟨l, rs⟩)) →
        ∃ ei es, loopP (p_impl_reader_runs_l0 (n : Int)) (s, rdr x i) = some ei ∧ loopP (p_spec_l01Reader_runs_l0 (n : Int)) (s, rdr x i) = some es ∧
      ((∃ s' i', ei = .out (s', rdr x i') ∧ es = .out (s', rdr x i') ∧ i' ≤ x.length ∧ s'.length ≤ 4096 ∧ ∀ a, a ∈ s' → numOK a) ∨ (FailI ei ∧ FailS es)) := by
      rintro ri rs hri hrs e1 ⟨l, e2⟩
      exact ⟨_, _, loopP_ret e1, loopP_ret e2, .inr ⟨⟨ri, rfl, hri⟩, .inl ⟨l, rs, rfl, hrs⟩⟩⟩
    rcases num_both hx hl hi with ⟨w1, n1, a1, a2, a3, a4⟩ | ⟨r, r', a1, a2, a3, a4⟩
    case inr =>
      refine fails (badR r) (badR r') rfl rfl ?_ ⟨s, ?_⟩
      · rw [sI, a1, Option.bind_some, badNumI a2, Option.bind_some, if_pos (.inl a2)]
      · rw [sS, a3, Option.bind_some, badNumS a4, Option.bind_some, if_pos (.inl a4)]
    rcases num_both hx hl a1 with ⟨w2, n2, b1, b2, b3, b4⟩ | ⟨r, r', b1, b2, b3, b4⟩
    case inr =>
      refine fails (badR r) (badR r') rfl rfl ?_ ⟨s, ?_⟩
      · rw [sI, a3, Option.bind_some, b1, Option.bind_some, if_pos (.inl b2)]
      · rw [sS, a4, Option.bind_some, b3, Option.bind_some, if_pos (.inl b4)]
    by_cases c : (1152921504606846975 : Int) < (w1 : Int) ∨ (w2 : Int) < 1 ∨ (n : Int) - s.length < (w2 : Int)
    · refine fails (badR (rdr x n2)) (badR (rdr x n2)) rfl rfl ?_ ⟨s, ?_⟩
      · rw [sI, a3, Option.bind_some, b3, Option.bind_some, if_pos (.inr c)]
      · rw [sS, a4, Option.bind_some, b4, Option.bind_some, if_pos (by
          rcases c with c | c | c
          · exact .inr (.inr (.inr c))
          · exact .inr (.inl c)
          · exact .inr (.inr (.inl c)))]
    have hw1 : numOK (w1 : Int) := by unfold numOK; omega
    have cI : ¬ ((rdr x n2).bad = true ∨ (1152921504606846975 : Int) < (w1 : Int) ∨ (w2 : Int) < 1 ∨ (n : Int) - s.length < (w2 : Int)) := by
      rintro (h | h)
      · cases h
      · exact c h
    have cS : ¬ ((rdr x n2).bad = true ∨ (w2 : Int) < 1 ∨ (n : Int) - s.length < (w2 : Int) ∨ (1152921504606846975 : Int) < (w1 : Int)) := by
      rintro (h | h | h | h)
      · cases h
      · exact c (.inr (.inl h))
      · exact c (.inr (.inr h))
      · exact c (.inl h)
    have go : ∀ (s' : List Int) (i' : Nat), s.length < s'.length → s'.length ≤ n → i' ≤ x.length → (∀ a, a ∈ s' → numOK a) → p_impl_reader_runs_l0 (n : Int) (s, rdr x i) = some (.go (s', rdr x i')) → p_spec_l01Reader_runs_l0 (n : Int) (s, rdr x i) = some (.go (s', rdr x i')) →
        ∃ ei es, loopP (p_impl_reader_runs_l0 (n : Int)) (s, rdr x i) = some ei ∧ loopP (p_spec_l01Reader_runs_l0 (n : Int)) (s, rdr x i) = some es ∧
      ((∃ s' i', ei = .out (s', rdr x i') ∧ es = .out (s', rdr x i') ∧ i' ≤ x.length ∧ s'.length ≤ 4096 ∧ ∀ a, a ∈ s' → numOK a) ∨ (FailI ei ∧ FailS es)) := by
      intro s' i' g1 g2 g3 g4 e1 e2
      rw [loopP_go e1, loopP_go e2]
      exact ih (n - s'.length) (by omega) s' i' rfl g2 g3 g4
    by_cases d1 : (w2 : Int) = 1
    · refine go (s ++ [(w1 : Int)]) n2 (by simp) (by simp; omega) b1 (fun a ha => ?_) ?_ ?_
      · rcases List.mem_append.1 ha with h | h
        · exact hs a h
        · rw [List.mem_singleton.1 h]; exact hw1
      · rw [sI, a3, Option.bind_some, b3, Option.bind_some, if_neg cI, if_pos d1]
      · rw [sS, a4, Option.bind_some, b4, Option.bind_some, if_neg cS, if_neg (by simp only; omega)]
        rcases run_both (rdr x n2) rfl 0 (by omega) 0 s (w1 : Int) 1 1 hw1 hs (by omega) (by omega) (by omega) (by omega) with ⟨s', v', k', v'', j', h1, h2, h3, h4⟩ | ⟨l, h1, h2⟩
        · have e : s' = s ++ [(w1 : Int)] := by
            rw [loopP_out (s' := (s ++ [(w1 : Int)], (w1 : Int), 1)) (by simp only [p_impl_reader_runs_l2]; rw [if_neg (by omega)])] at h2
            cases h2
            rfl
          simp only [d1]
          rw [show (1 : Int) = ((0 + 1 : Nat) : Int) from rfl, h1, e]
          rfl
        · rw [loopP_out (s' := (s ++ [(w1 : Int)], (w1 : Int), 1)) (by simp only [p_impl_reader_runs_l2]; rw [if_neg (by omega)])] at h2
          cases h2
    · obtain ⟨k, rfl⟩ : ∃ k, w2 = k + 1 := ⟨w2 - 1, by omega⟩
      have d2 : (1 : Int) < ((k + 1 : Nat) : Int) := by omega
      rcases num_both hx hl b1 with ⟨w3, n3, f1, f2, f3, f4⟩ | ⟨r, r', f1, f2, f3, f4⟩
      · obtain ⟨z1, z2⟩ := q_zagN f2
        have eI : p_impl_reader_runs_l0 (n : Int) (s, rdr x i) = (loopP (p_impl_reader_runs_l2 (rdr x n3) (stepN w3) ((k + 1 : Nat) : Int)) (s ++ [(w1 : Int)], (w1 : Int), 1)).map (goOn (rdr x n3)) := by
          rw [sI, a3, Option.bind_some, b3, Option.bind_some, if_neg cI, if_neg d1, f3, Option.bind_some, z1, Option.bind_some]
        have eS : p_spec_l01Reader_runs_l0 (n : Int) (s, rdr x i) = (loopP (p_spec_l01Reader_runs_l2 (rdr x n3) (stepN w3)) (s, (w1 : Int), ((k + 1 : Nat) : Int))).map (goOn (rdr x n3)) := by
          rw [sS, a4, Option.bind_some, b4, Option.bind_some, if_neg cS, if_pos d2, f4, Option.bind_some, z2]
        rcases run_both (rdr x n3) rfl (stepN w3) (stepN_le f2) k s (w1 : Int) 1 ((k + 1 : Nat) : Int) hw1 hs (by omega) (by omega) (by omega) (by omega) with ⟨s', v', k', v'', j', h1, h2, h3, h4⟩ | ⟨l, h1, h2⟩
        · exact go s' n3 (by omega) (by omega) f1 h4 (by rw [eI, h2]; rfl) (by rw [eS, h1]; rfl)
        · exact fails (badR (rdr x n3)) (badR (rdr x n3)) rfl rfl (by rw [eI, h2]; rfl) ⟨l, by rw [eS, h1]; rfl⟩
      · have z0 : p_impl_zag 0 = some (stepN 0) := (q_zagN (w := 0) (by decide)).1
        have z1 : halfS 0 = 0 := (q_zagN (w := 0) (by decide)).2
        obtain ⟨s', k', h⟩ := run_still r' (k + 1) s (w1 : Int) hw1 (by omega)
        have eI : p_impl_reader_runs_l0 (n : Int) (s, rdr x i) = some (.ret ⟨[], badR r⟩) := by
          rw [sI, a3, Option.bind_some, b3, Option.bind_some, if_neg cI, if_neg d1, f1, Option.bind_some, z0, Option.bind_some, loopP_ret (r := ⟨[], badR r⟩) (by simp only [p_impl_reader_runs_l2]; rw [if_pos d2, if_pos (.inl f2)])]
          rfl
        have eS : p_spec_l01Reader_runs_l0 (n : Int) (s, rdr x i) = some (.go (s', r')) := by
          rw [sS, a4, Option.bind_some, b4, Option.bind_some, if_neg cS, if_pos d2, f3, Option.bind_some, z1, h]
          rfl
        refine ⟨_, .out (s', r'), loopP_ret eI, ?_, .inr ⟨⟨badR r, rfl, rfl⟩, .inr ⟨s', r', rfl, f4⟩⟩⟩
        rw [loopP_go eS]
        refine loopP_out ?_
        simp only [p_spec_l01Reader_runs_l0]
        by_cases hlt : (s'.length : Int) < (n : Int)
        · rw [if_pos hlt, if_pos f4]
        · rw [if_neg hlt]
theorem get_same : ∃ r, p_spec_GetRuns x = some r ∧ p_impl_GetRuns x = some r ∧ r.a.length ≤ 4096 := by
  have hnl : ¬ 1048576 < x.length := by omega
  unfold p_spec_GetRuns p_impl_GetRuns
  rw [if_neg hnl, if_neg hnl]
  unfold p_spec_l01Reader_runs p_impl_reader_runs p_spec_l01Reader_count
  have z0 : (0 : Int) = ((0 : Nat) : Int) := rfl
  have fail : ∀ (A B : Option (T2 (List Int) TReader)), (∃ l q, A = some ⟨l, q⟩ ∧ q.bad = true) → (∃ l q, B = some ⟨l, q⟩ ∧ q.bad = true) →
      ∃ r, (A.bind fun q => if q.b.bad = true ∨ q.b.at_ ≠ (x.length : Int) then some (T2.mk ([] : List Int) (3 : Int)) else (p_spec_l01PutRuns q.a).bind fun b => if strOfNums (nums b) = strOfNums (nums x) then some ⟨q.a, 0⟩ else some ⟨[], 3⟩) = some r ∧ (B.bind fun q => if q.b.bad = true ∨ q.b.at_ ≠ (x.length : Int) then some (T2.mk ([] : List Int) (3 : Int)) else some ⟨q.a, 0⟩) = some r ∧ r.a.length ≤ 4096 := by
    rintro _ _ ⟨l, q, rfl, hq⟩ ⟨l', q', rfl, hq'⟩
    exact ⟨⟨[], 3⟩, by rw [Option.bind_some, if_pos (.inl hq)], by rw [Option.bind_some, if_pos (.inl hq')], by simp⟩
  rcases num_both hx hl (i := 0) (Nat.zero_le _) with ⟨w, n0, a1, a2, a3, a4⟩ | ⟨r, r', a1, a2, a3, a4⟩
  case inr =>
    have a1 : p_impl_reader_num ⟨x, 0, false⟩ = some ⟨0, r⟩ := a1
    have a3 : p_spec_l01Reader_num ⟨x, 0, false⟩ = some ⟨0, r'⟩ := a3
    refine fail _ _ ⟨[], r', ?_, a4⟩ ⟨[], badR r, ?_, rfl⟩
    · rw [a3, Option.bind_some, if_f (by simp), Option.bind_some, loopP_out (s' := ([], r')) (by simp only [p_spec_l01Reader_runs_l0]; rw [if_neg (by simp)])]
      rfl
    · rw [a1, Option.bind_some, if_pos (.inl a2)]
  have a3 : p_impl_reader_num ⟨x, 0, false⟩ = some ⟨(w : Int), rdr x n0⟩ := a3
  have a4 : p_spec_l01Reader_num ⟨x, 0, false⟩ = some ⟨(w : Int), rdr x n0⟩ := a4
  by_cases hw : 4096 < w
  · refine fail _ _ ⟨[], badR (rdr x n0), ?_, rfl⟩ ⟨[], badR (rdr x n0), ?_, rfl⟩
    · rw [a4, Option.bind_some, if_t (by simp; omega), Option.bind_some, loopP_out (s' := ([], badR (rdr x n0))) (by simp only [p_spec_l01Reader_runs_l0]; rw [if_neg (by simp)]; rfl)]
      rfl
    · rw [a3, Option.bind_some, if_pos (.inr (by simp only; omega))]
  obtain ⟨ei, es, l1, l2, h⟩ := runs_loop hx hl w (by omega) w [] n0 (by simp) (by simp) a1 (by simp)
  rw [a3, a4, Option.bind_some, Option.bind_some, if_f (by simp; omega), Option.bind_some, if_neg (by rintro (h | h); cases h; simp only at h; omega), l1, l2, Option.bind_some, Option.bind_some]
  rcases h with ⟨s', i', rfl, rfl, hi, hsl, hs⟩ | ⟨⟨q, rfl, hq⟩, hS⟩
  · simp only
    have hpr := q_putRuns hs hsl
    have har := q_appendRuns hs hsl (b := []) (by simp)
    rw [List.nil_append] at har
    have hcut : cut? x 0 (i' : Int) = some (x.take i') := by
      unfold cut?
      rw [if_pos ⟨by omega, by omega, by omega⟩]
      simp
    rw [har, Option.bind_some, hcut, Option.bind_some, Option.bind_some, hpr]
    by_cases he : i' = x.length
    · subst he
      rw [List.take_length]
      simp only
      rw [if_neg (by simp), Option.bind_some]
      by_cases hq : strOfNums (nums (encRuns s')) = strOfNums (nums x)
      · rw [if_pos hq, if_pos hq, Option.bind_some]
        simp only
        rw [if_neg (by simp)]
        exact ⟨_, rfl, rfl, hsl⟩
      · rw [if_neg hq, if_neg hq, Option.bind_some]
        simp only
        rw [if_pos (.inl rfl)]
        exact ⟨_, rfl, rfl, by simp⟩
    · have he' : (i' : Int) ≠ (x.length : Int) := by omega
      simp only
      rw [if_pos (.inr he')]
      refine ⟨⟨[], 3⟩, rfl, ?_, by simp⟩
      by_cases hq : strOfNums (nums (encRuns s')) = strOfNums (nums (x.take i'))
      · rw [if_pos hq, Option.bind_some]
        simp only
        rw [if_pos (.inr he')]
      · rw [if_neg hq, Option.bind_some]
        simp only
        rw [if_pos (.inl rfl)]
  · refine fail _ _ ?_ ⟨[], q, rfl, hq⟩
    rcases hS with ⟨l, q, rfl, hq⟩ | ⟨l, q, rfl, hq⟩
    · exact ⟨l, q, rfl, hq⟩
    · exact ⟨l, q, rfl, hq⟩
end
theorem plain_GetRuns (x : List U8) (hx : x.length * 1 ≤ reachBytes ∧ ∀ a, a ∈ x → (0 ≤ a.v ∧ a.v ≤ 255)) : p_laws_FnExactGetRuns x = some true := by
  unfold p_laws_FnExactGetRuns
  have hx1 := hx.1
  rw [reach_eq] at hx1
  by_cases h1 : 1048576 < x.length
  · rw [if_t (by simp; omega)]
  rw [if_f (by simp; omega)]
  obtain ⟨r, h3, h4, hr1⟩ := get_same hx.2 (by omega)
  obtain ⟨x', h5, _⟩ := q_markByteS x 1 (by omega) (by omega)
  obtain ⟨y, g1, g2, g3⟩ := q_markIntS r.a 1 (by omega) (by omega)
  have g7 := q_heldIntS y 1 (by omega) (by omega) (by rw [g2]; exact g3)
  rw [g2] at g7
  have hn : ¬ (1 + (x.length : Int) < 0) := by omega
  have hn2 : ¬ (1 + (r.a.length : Int) < 0) := by omega
  simp only [h3, h4, h5, g1, g7, q_toByteS x (by omega), q_eqByteS x (by omega), q_eqInts r.a (by omega), Option.bind_some, decide_true, if_true, decide_eq_true_eq, hn, hn2, if_false]
end Go.AM
