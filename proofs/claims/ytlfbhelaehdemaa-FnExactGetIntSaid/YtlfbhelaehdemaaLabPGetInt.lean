/- The plain law of GetInt. No condition. -/
import Derived.Test.YtlfbhelaehdemaaLabGGetInt
import Derived.Test.YtlfbhelaehdemaaLabL2
set_option linter.unusedVariables false
set_option linter.unusedSimpArgs false
namespace Go.AM

theorem q_toByteS (x : List U8) (hx : x.length ≤ 281474976710656) : p_laws_toByteS x = some x := by
  unfold p_laws_toByteS
  rw [show (1 : Int) = ((1 : Nat) : Int) from rfl, mkL_ok (by omega) (by omega), Option.bind_some]
  have e : p_laws_toByteS_l0 x = copyStep x some := rfl
  rw [e]
  obtain ⟨i, h⟩ := copy_loop (ρ := List U8) (x := x) (v := List.replicate x.length (U8.mk 0)) (f := some) (fun _ _ => rfl) (by simp) (by omega)
  rw [h]; rfl
theorem q_eqByteS (x : List U8) (hx : x.length ≤ 281474976710656) : p_laws_eqByteS x x = some true := by
  unfold p_laws_eqByteS
  rw [if_pos (by simp)]
  have e : p_laws_eqByteS_l0 x x = eqStep x x fun a b => some (decide (a.v = b.v)) := by
    funext s
    unfold p_laws_eqByteS_l0 eqStep
    simp only [Option.bind_some]
  rw [e]
  obtain ⟨i, h⟩ := eq_loop (x := x) (g := fun a b => some (decide (a.v = b.v))) (fun a _ => by simp) (by omega)
  rw [h]; rfl

/-- A number of seven bits a byte, at most k bytes more: its value and where it ends. -/
def decN (x : List U8) : Nat → Nat → Option (Nat × Nat)
  | 0, _ => none
  | k + 1, i => match x[i]? with
    | none => none
    | some c => if k = 0 ∧ 63 < c.v then none else if c.v < 128 then (if k < 8 ∧ c.v = 0 then none else some (c.v.toNat, i + 1)) else (decN x k (i + 1)).map fun p => (c.v.toNat % 128 + 128 * p.1, p.2)
theorem decN_next {x : List U8} : ∀ {k i w nx : Nat}, decN x k i = some (w, nx) → i < nx ∧ nx ≤ x.length
  | 0, i, w, nx, h => by simp [decN] at h
  | k + 1, i, w, nx, h => by
    unfold decN at h
    cases hc : x[i]? with
    | none => rw [hc] at h; cases h
    | some c =>
      have hi := (List.getElem?_eq_some_iff.1 hc).1
      rw [hc] at h
      dsimp only at h
      split at h
      · cases h
      · split at h
        · split at h
          · cases h
          · cases h; omega
        · obtain ⟨p, hp, h⟩ := Option.map_eq_some_iff.1 h
          cases h
          have := decN_next (w := p.1) (nx := p.2) hp
          omega
theorem decN_bound {x : List U8} (hx : ∀ a, a ∈ x → 0 ≤ a.v ∧ a.v ≤ 255) : ∀ {k i w nx : Nat}, decN x (k + 1) i = some (w, nx) → w < 64 * 128 ^ k
  | 0, i, w, nx, h => by
    unfold decN at h
    cases hc : x[i]? with
    | none => rw [hc] at h; cases h
    | some c =>
      have hb := hx c (List.mem_of_getElem? hc)
      rw [hc] at h
      dsimp only at h
      split at h
      · cases h
      · split at h
        · split at h
          · cases h
          · cases h; simp; omega
        · simp [decN] at h
  | k + 1, i, w, nx, h => by
    unfold decN at h
    cases hc : x[i]? with
    | none => rw [hc] at h; cases h
    | some c =>
      have hb := hx c (List.mem_of_getElem? hc)
      have hp : 0 < 128 ^ k := Nat.pow_pos (by decide)
      rw [hc] at h
      dsimp only at h
      rw [Nat.pow_succ]
      split at h
      · cases h
      · split at h
        · split at h
          · cases h
          · cases h; omega
        · obtain ⟨p, hp, h⟩ := Option.map_eq_some_iff.1 h
          cases h
          have := decN_bound hx (w := p.1) (nx := p.2) hp
          omega
theorem acc_bound {n k v w : Nat} (hn : n + k = 8) (hv : v < 128 ^ n) (hw : w < 64 * 128 ^ k) : v + 128 ^ n * w < 4611686018427387904 := by
  have e : 128 ^ n * (64 * 128 ^ k) = 4611686018427387904 := by
    rw [Nat.mul_left_comm, ← Nat.pow_add, hn]
  have h1 : 128 ^ n * (w + 1) ≤ 128 ^ n * (64 * 128 ^ k) := Nat.mul_le_mul_left _ (by omega)
  rw [e, Nat.mul_add, Nat.mul_one] at h1
  omega
theorem pow_bound {n k : Nat} (hn : n + k = 8) : 128 ^ n ≤ 72057594037927936 := by
  have : 128 ^ n ≤ 128 ^ 8 := Nat.pow_le_pow_right (by decide) (by omega)
  simpa using this
theorem q_getLoop {x : List U8} (hx : ∀ a, a ∈ x → 0 ≤ a.v ∧ a.v ≤ 255) (hl : x.length ≤ 1048576) (at_ : Nat) (ha : at_ ≤ x.length) : ∀ (k n v : Nat), n + k = 8 → v < 128 ^ n →
    (∀ w nx, decN x (k + 1) (at_ + n) = some (w, nx) → loopP (p_spec_l01Get_l0 x (at_ : Int)) ((v : Int), ((128 ^ n : Nat) : Int), (n : Int)) = some (.ret ⟨((v + 128 ^ n * w : Nat) : Int), (nx : Int), true⟩)) ∧
    (decN x (k + 1) (at_ + n) = none → ∃ e, loopP (p_spec_l01Get_l0 x (at_ : Int)) ((v : Int), ((128 ^ n : Nat) : Int), (n : Int)) = some e ∧ ((∃ a b, e = .ret ⟨a, b, false⟩) ∨ ∃ s, e = .out s)) := by
  intro k
  induction k with
  | zero => 
    intro n v hn hv
    obtain rfl : n = 8 := by omega
    have hw1 : w64 ((at_ : Int) + ((8 : Nat) : Int)) = ((at_ + 8 : Nat) : Int) := by rw [w64_id (by omega) (by omega)]; omega
    unfold decN
    cases hc : x[at_ + 8]? with
    | none =>
      have hlen := List.getElem?_eq_none_iff.1 hc
      refine ⟨fun w nx h => by simp at h, fun _ => ⟨_, loopP_out (s' := ((v : Int), ((128 ^ 8 : Nat) : Int), ((8 : Nat) : Int))) ?_, .inr ⟨_, rfl⟩⟩⟩
      simp only [p_spec_l01Get_l0]
      rw [if_t (by simp), hw1, if_f (by simp; omega)]
    | some c =>
      dsimp only
      have hb := hx c (List.mem_of_getElem? hc)
      have hlen := (List.getElem?_eq_some_iff.1 hc).1
      obtain ⟨c', hg, hg'⟩ := get_lt (xs := x) (i := at_ + 8) hlen
      rw [hc] at hg'; cases hg'
      have hcv : w64 c.v = c.v := w64_id (by omega) (by omega)
      by_cases h63 : 63 < c.v
      · rw [if_pos ⟨rfl, h63⟩]
        refine ⟨fun w nx h => (by cases h), fun _ => ⟨_, loopP_ret (r := ⟨0, 0, false⟩) ?_, .inl ⟨_, _, rfl⟩⟩⟩
        simp only [p_spec_l01Get_l0]
        rw [if_t (by simp), hw1, if_t (by simp; omega), hg, Option.bind_some, hcv, if_t (by simp), if_t (by simp; omega)]
      · rw [if_neg (by omega), if_pos (by omega)]
        have ht : Int.tmod c.v 128 = c.v := Int.tmod_eq_of_lt (by omega) (by omega)
        have hm1 : w64 (c.v * ((128 ^ 8 : Nat) : Int)) = c.v * ((128 ^ 8 : Nat) : Int) := w64_id (by simp; omega) (by simp; omega)
        have hvb : (v : Int) < 72057594037927936 := by have : v < 72057594037927936 := by simpa using hv
                                                       omega
        have hm2 : w64 ((v : Int) + c.v * ((128 ^ 8 : Nat) : Int)) = ((v + 128 ^ 8 * c.v.toNat : Nat) : Int) := by rw [w64_id (by simp; omega) (by simp; omega)]; simp; omega
        have hm3 : w64 (((at_ + 8 : Nat) : Int) + 1) = ((at_ + 8 + 1 : Nat) : Int) := w64_succ (by omega)
        have hst : p_spec_l01Get_l0 x (at_ : Int) ((v : Int), ((128 ^ 8 : Nat) : Int), ((8 : Nat) : Int)) = some (.ret ⟨((v + 128 ^ 8 * c.v.toNat : Nat) : Int), ((at_ + 8 + 1 : Nat) : Int), decide (0 < c.v)⟩) := by
          simp only [p_spec_l01Get_l0]
          rw [if_t (by simp), hw1, if_t (by simp; omega), hg, Option.bind_some, hcv, if_t (by simp), if_f (by simp; omega), if_t (by simp; omega), if_f (by simp), ht, hm1, hm2, hm3]
        by_cases h0 : c.v = 0
        · rw [if_pos ⟨by omega, h0⟩]
          have : decide (0 < c.v) = false := by simp; omega
          rw [this] at hst
          exact ⟨fun w nx h => (by cases h), fun _ => ⟨_, loopP_ret hst, .inl ⟨_, _, rfl⟩⟩⟩
        · rw [if_neg (by omega)]
          have : decide (0 < c.v) = true := by simp; omega
          rw [this] at hst
          refine ⟨fun w nx h => ?_, fun h => (by cases h)⟩
          cases h
          exact loopP_ret hst
  | succ k ih =>
    intro n v hn hv
    have hn8 : n < 8 := by omega
    have hpb : 128 ^ n ≤ 562949953421312 := by
      have : 128 ^ n ≤ 128 ^ 7 := Nat.pow_le_pow_right (by decide) (by omega)
      simpa using this
    have hpp : 0 < 128 ^ n := Nat.pow_pos (by decide)
    have hw1 : w64 ((at_ : Int) + (n : Int)) = ((at_ + n : Nat) : Int) := by rw [w64_id (by omega) (by omega)]; omega
    unfold decN
    cases hc : x[at_ + n]? with
    | none =>
      have hlen := List.getElem?_eq_none_iff.1 hc
      refine ⟨fun w nx h => by simp at h, fun _ => ⟨_, loopP_out (s' := ((v : Int), ((128 ^ n : Nat) : Int), (n : Int))) ?_, .inr ⟨_, rfl⟩⟩⟩
      simp only [p_spec_l01Get_l0]
      rw [if_t (by simp; omega), hw1, if_f (by simp; omega)]
    | some c =>
      dsimp only
      have hb := hx c (List.mem_of_getElem? hc)
      have hlen := (List.getElem?_eq_some_iff.1 hc).1
      obtain ⟨c', hg, hg'⟩ := get_lt (xs := x) (i := at_ + n) hlen
      rw [hc] at hg'; cases hg'
      have hcv : w64 c.v = c.v := w64_id (by omega) (by omega)
      rw [if_neg (by omega)]
      have ht : Int.tmod c.v 128 = ((c.v.toNat % 128 : Nat) : Int) := by rw [Int.tmod_eq_emod_of_nonneg (by omega)]; omega
      have hcm : c.v.toNat % 128 < 128 := Nat.mod_lt _ (by decide)
      have hmul : (c.v.toNat % 128) * 128 ^ n ≤ 127 * 128 ^ n := Nat.mul_le_mul_right _ (by omega)
      have hm1 : w64 (((c.v.toNat % 128 : Nat) : Int) * ((128 ^ n : Nat) : Int)) = (((c.v.toNat % 128) * 128 ^ n : Nat) : Int) := by
        rw [← Int.natCast_mul, w64_id (by omega) (by omega)]
      have hm2 : w64 ((v : Int) + (((c.v.toNat % 128) * 128 ^ n : Nat) : Int)) = ((v + 128 ^ n * (c.v.toNat % 128) : Nat) : Int) := by
        have e := Nat.mul_comm (128 ^ n) (c.v.toNat % 128)
        have hz := Nat.zero_le (c.v.toNat % 128 * 128 ^ n)
        rw [e, ← Int.natCast_add]
        exact w64_id (by omega) (by omega)
      have hm3 : w64 (((at_ + n : Nat) : Int) + 1) = ((at_ + n + 1 : Nat) : Int) := w64_succ (by omega)
      by_cases h128 : c.v < 128
      · rw [if_pos h128]
        have hst : p_spec_l01Get_l0 x (at_ : Int) ((v : Int), ((128 ^ n : Nat) : Int), (n : Int)) = some (.ret ⟨((v + 128 ^ n * (c.v.toNat % 128) : Nat) : Int), ((at_ + n + 1 : Nat) : Int), decide (n = 0 ∨ 0 < c.v)⟩) := by
          simp only [p_spec_l01Get_l0]
          rw [if_t (by simp; omega), hw1, if_t (by simp; omega), hg, Option.bind_some, hcv, if_f (by simp; omega), if_t (by simp; omega), ht, hm1, hm2, hm3]
          by_cases h0 : n = 0
          · rw [if_t (by simp; omega)]; simp [h0]
          · rw [if_f (by simp; omega)]; simp [h0]
        by_cases h0 : k + 1 < 8 ∧ c.v = 0
        · rw [if_pos h0]
          have : decide (n = 0 ∨ 0 < c.v) = false := by simp; omega
          rw [this] at hst
          exact ⟨fun w nx h => (by cases h), fun _ => ⟨_, loopP_ret hst, .inl ⟨_, _, rfl⟩⟩⟩
        · rw [if_neg h0]
          have : decide (n = 0 ∨ 0 < c.v) = true := by simp; omega
          rw [this] at hst
          refine ⟨fun w nx h => ?_, fun h => (by cases h)⟩
          cases h
          rw [show c.v.toNat % 128 = c.v.toNat from by omega] at hst
          exact loopP_ret hst
      · rw [if_neg h128]
        have hu : w64 (((128 ^ n : Nat) : Int) * 128) = ((128 ^ (n + 1) : Nat) : Int) := by
          rw [w64_id (by omega) (by omega), Nat.pow_succ, Int.natCast_mul]; rfl
        have hst : p_spec_l01Get_l0 x (at_ : Int) ((v : Int), ((128 ^ n : Nat) : Int), (n : Int)) = some (.go (((v + 128 ^ n * (c.v.toNat % 128) : Nat) : Int), ((128 ^ (n + 1) : Nat) : Int), ((n + 1 : Nat) : Int))) := by
          simp only [p_spec_l01Get_l0]
          rw [if_t (by simp; omega), hw1, if_t (by simp; omega), hg, Option.bind_some, hcv, if_f (by simp; omega), if_f (by simp; omega), if_t (by simp; omega), ht, hm1, hm2, hu, w64_succ (by omega)]
        have hv' : v + 128 ^ n * (c.v.toNat % 128) < 128 ^ (n + 1) := by
          rw [Nat.pow_succ]
          have : 128 ^ n * (c.v.toNat % 128) ≤ 128 ^ n * 127 := Nat.mul_le_mul_left _ (by omega)
          omega
        obtain ⟨i1, i2⟩ := ih (n + 1) _ (by omega) hv'
        rw [loopP_go hst]
        constructor
        · intro w nx h
          obtain ⟨p, hp, h⟩ := Option.map_eq_some_iff.1 h
          cases h
          rw [i1 p.1 p.2 hp, Nat.pow_succ, Nat.mul_add, Nat.mul_assoc, Nat.add_assoc]
        · intro h
          exact i2 (Option.map_eq_none_iff.1 h)
theorem q_get {x : List U8} (hx : ∀ a, a ∈ x → 0 ≤ a.v ∧ a.v ≤ 255) (hl : x.length ≤ 1048576) (at_ : Nat) (ha : at_ ≤ x.length) :
    (∀ w nx, decN x 9 at_ = some (w, nx) → p_spec_l01Get x (at_ : Int) = some ⟨(w : Int), (nx : Int), true⟩) ∧ (decN x 9 at_ = none → ∃ a b, p_spec_l01Get x (at_ : Int) = some ⟨a, b, false⟩) := by
  obtain ⟨h1, h2⟩ := q_getLoop hx hl at_ ha 8 0 0 rfl (by decide)
  unfold p_spec_l01Get
  constructor
  · intro w nx h
    have := h1 w nx h
    simp only [Nat.pow_zero, Nat.one_mul, Nat.zero_add] at this
    rw [show ((0 : Int), (1 : Int), (0 : Int)) = (((0 : Nat) : Int), ((1 : Nat) : Int), ((0 : Nat) : Int)) from rfl, this]; rfl
  · intro h
    obtain ⟨e, h3, h4⟩ := h2 h
    rw [show ((0 : Int), (1 : Int), (0 : Int)) = (((0 : Nat) : Int), ((128 ^ 0 : Nat) : Int), ((0 : Nat) : Int)) from rfl, h3]
    rcases h4 with ⟨a, b, rfl⟩ | ⟨⟨a, b, c⟩, rfl⟩
    · exact ⟨a, b, rfl⟩
    · exact ⟨0, 0, rfl⟩

theorem q_numLoop {r : TReader} (hx : ∀ a, a ∈ r.b → 0 ≤ a.v ∧ a.v ≤ 255) (hl : r.b.length ≤ 1048576) (hbad : r.bad = false) : ∀ (k n v i : Nat), n + k = 8 → v < 128 ^ n →
    (∀ w nx, decN r.b (k + 1) i = some (w, nx) → loopP (p_impl_reader_num_l0 r) ((i : Int), (v : Int), ((7 * n : Nat) : Int)) = some (.ret ⟨((v + 128 ^ n * w : Nat) : Int), ⟨r.b, (nx : Int), false⟩⟩)) ∧
    (decN r.b (k + 1) i = none → ∃ r', loopP (p_impl_reader_num_l0 r) ((i : Int), (v : Int), ((7 * n : Nat) : Int)) = some (.ret ⟨0, r'⟩) ∧ r'.bad = true ∧ r'.b = r.b) := by
  intro k
  induction k with
  | zero => 
    intro n v i hn hv
    obtain rfl : n = 8 := by omega
    unfold decN
    cases hc : r.b[i]? with
    | none =>
      have hlen := List.getElem?_eq_none_iff.1 hc
      refine ⟨fun w nx h => by simp at h, fun _ => ⟨⟨r.b, i, true⟩, loopP_ret ?_, rfl, rfl⟩⟩
      simp only [p_impl_reader_num_l0]
      rw [if_f hbad, if_t (by simp; omega)]
    | some c =>
      dsimp only
      have hb := hx c (List.mem_of_getElem? hc)
      have hlen := (List.getElem?_eq_some_iff.1 hc).1
      obtain ⟨c', hg, hg'⟩ := get_lt (xs := r.b) (i := i) hlen
      rw [hc] at hg'; cases hg'
      have hi1 : w64 ((i : Int) + 1) = ((i + 1 : Nat) : Int) := w64_succ (by omega)
      by_cases h63 : 63 < c.v
      · rw [if_pos ⟨rfl, h63⟩]
        refine ⟨fun w nx h => (by cases h), fun _ => ⟨⟨r.b, ((i + 1 : Nat) : Int), true⟩, loopP_ret ?_, rfl, rfl⟩⟩
        simp only [p_impl_reader_num_l0]
        rw [if_f hbad, if_f (by simp; omega), if_f (by simp), hg, Option.bind_some, if_t (by simp), if_t (by simp; omega), hi1]
      · rw [if_neg (by omega), if_pos (by omega)]
        have hand : IntKind.wrap .u64 (andI .u8 c.v 127) = ((c.v.toNat : Nat) : Int) := by
          rw [and127_u8 (by omega) (by omega), wrap_u64_id (by omega) (by omega)]; omega
        have hcn : c.v.toNat ≤ 63 := by omega
        have hvb : v < 2 ^ 56 := by simpa using hv
        have hsh : shl? .u64 ((c.v.toNat : Nat) : Int) ((7 * 8 : Nat) : Int) = some ((c.v.toNat * 2 ^ 56 : Nat) : Int) := shl_u64 (y := c.v.toNat) (i := 56) (by omega) (by omega)
        have hor : orI .u64 (v : Int) ((c.v.toNat * 2 ^ 56 : Nat) : Int) = ((v + c.v.toNat * 2 ^ 56 : Nat) : Int) := or_u64 hvb (by omega)
        have hwv : w64 ((v + c.v.toNat * 2 ^ 56 : Nat) : Int) = ((v + 128 ^ 8 * c.v.toNat : Nat) : Int) := by
          rw [w64_id (by omega) (by omega)]
          congr 1
          rw [Nat.mul_comm]
        by_cases h0 : c.v = 0
        · rw [if_pos ⟨by omega, h0⟩]
          refine ⟨fun w nx h => (by cases h), fun _ => ⟨⟨r.b, ((i + 1 : Nat) : Int), true⟩, loopP_ret ?_, rfl, rfl⟩⟩
          simp only [p_impl_reader_num_l0]
          rw [if_f hbad, if_f (by simp; omega), if_f (by simp), hg, Option.bind_some, if_t (by simp), if_f (by simp; omega), hand, hsh, Option.bind_some, if_t (by simp; omega), if_t (by simp [h0]), if_t (by simp), hi1]
        · rw [if_neg (by omega)]
          refine ⟨fun w nx h => ?_, fun h => (by cases h)⟩
          cases h
          refine loopP_ret ?_
          simp only [p_impl_reader_num_l0]
          rw [if_f hbad, if_f (by simp; omega), if_f (by simp), hg, Option.bind_some, if_t (by simp), if_f (by simp; omega), hand, hsh, Option.bind_some, if_t (by simp; omega), if_f (by simp [h0]), hi1, hor, hwv, hbad]
  | succ k ih =>
    intro n v i hn hv
    have hn8 : n < 8 := by omega
    have hpb : 128 ^ n ≤ 562949953421312 := by
      have : 128 ^ n ≤ 128 ^ 7 := Nat.pow_le_pow_right (by decide) (by omega)
      simpa using this
    have hpp : 0 < 128 ^ n := Nat.pow_pos (by decide)
    have hp2 : 2 ^ (7 * n) = 128 ^ n := by rw [Nat.pow_mul]
    unfold decN
    cases hc : r.b[i]? with
    | none =>
      have hlen := List.getElem?_eq_none_iff.1 hc
      refine ⟨fun w nx h => by simp at h, fun _ => ⟨⟨r.b, i, true⟩, loopP_ret ?_, rfl, rfl⟩⟩
      simp only [p_impl_reader_num_l0]
      rw [if_f hbad, if_t (by simp; omega)]
    | some c =>
      dsimp only
      have hb := hx c (List.mem_of_getElem? hc)
      have hlen := (List.getElem?_eq_some_iff.1 hc).1
      obtain ⟨c', hg, hg'⟩ := get_lt (xs := r.b) (i := i) hlen
      rw [hc] at hg'; cases hg'
      have hi1 : w64 ((i : Int) + 1) = ((i + 1 : Nat) : Int) := w64_succ (by omega)
      rw [if_neg (by omega)]
      have hand : IntKind.wrap .u64 (andI .u8 c.v 127) = ((c.v.toNat % 128 : Nat) : Int) := by
        rw [and127_u8 (by omega) (by omega), wrap_u64_id (by omega) (by omega)]; omega
      have hcm : c.v.toNat % 128 < 128 := Nat.mod_lt _ (by decide)
      have hmul : (c.v.toNat % 128) * 128 ^ n ≤ 127 * 128 ^ n := Nat.mul_le_mul_right _ (by omega)
      have hsh : shl? .u64 ((c.v.toNat % 128 : Nat) : Int) ((7 * n : Nat) : Int) = some ((c.v.toNat % 128 * 2 ^ (7 * n) : Nat) : Int) := shl_u64 (by omega) (by rw [hp2]; omega)
      have hor : orI .u64 (v : Int) ((c.v.toNat % 128 * 2 ^ (7 * n) : Nat) : Int) = ((v + 128 ^ n * (c.v.toNat % 128) : Nat) : Int) := by
        rw [or_u64 (by rw [hp2]; exact hv) (by rw [hp2]; omega), hp2, Nat.mul_comm]
      have hmul2 : 128 ^ n * (c.v.toNat % 128) ≤ 127 * 128 ^ n := by rw [Nat.mul_comm]; exact hmul
      have hwv : w64 ((v + 128 ^ n * (c.v.toNat % 128) : Nat) : Int) = ((v + 128 ^ n * (c.v.toNat % 128) : Nat) : Int) := w64_id (by omega) (by omega)
      by_cases h128 : c.v < 128
      · rw [if_pos h128]
        by_cases h0 : k + 1 < 8 ∧ c.v = 0
        · rw [if_pos h0]
          refine ⟨fun w nx h => (by cases h), fun _ => ⟨⟨r.b, ((i + 1 : Nat) : Int), true⟩, loopP_ret ?_, rfl, rfl⟩⟩
          simp only [p_impl_reader_num_l0]
          rw [if_f hbad, if_f (by simp; omega), if_f (by simp; omega), hg, Option.bind_some, if_f (by simp; omega), hand, hsh, Option.bind_some, if_t (by simp; omega), if_t (by simp; omega), if_t (by simp; omega), hi1]
        · rw [if_neg h0]
          refine ⟨fun w nx h => ?_, fun h => (by cases h)⟩
          cases h
          refine loopP_ret ?_
          simp only [p_impl_reader_num_l0]
          rw [if_f hbad, if_f (by simp; omega), if_f (by simp; omega), hg, Option.bind_some, if_f (by simp; omega), hand, hsh, Option.bind_some, if_t (by simp; omega)]
          rw [hor, hwv, hi1, hbad, show c.v.toNat % 128 = c.v.toNat from by omega]
          by_cases h0' : c.v = 0
          · rw [if_t (by simp; omega), if_f (by simp; omega)]
          · rw [if_f (by simp; omega)]
      · rw [if_neg h128]
        have h7 : IntKind.wrap .u64 (((7 * n : Nat) : Int) + 7) = ((7 * (n + 1) : Nat) : Int) := by rw [wrap_u64_id (by omega) (by omega)]; omega
        have hst : p_impl_reader_num_l0 r ((i : Int), (v : Int), ((7 * n : Nat) : Int)) = some (.go (((i + 1 : Nat) : Int), ((v + 128 ^ n * (c.v.toNat % 128) : Nat) : Int), ((7 * (n + 1) : Nat) : Int))) := by
          simp only [p_impl_reader_num_l0]
          rw [if_f hbad, if_f (by simp; omega), if_f (by simp; omega), hg, Option.bind_some, if_f (by simp; omega), hand, hsh, Option.bind_some, if_f (by simp; omega), hor, hi1, h7]
        have hv' : v + 128 ^ n * (c.v.toNat % 128) < 128 ^ (n + 1) := by
          rw [Nat.pow_succ]
          have : 128 ^ n * (c.v.toNat % 128) ≤ 128 ^ n * 127 := Nat.mul_le_mul_left _ (by omega)
          omega
        obtain ⟨i1, i2⟩ := ih (n + 1) _ (i + 1) (by omega) hv'
        rw [loopP_go hst]
        constructor
        · intro w nx h
          obtain ⟨p, hp, h⟩ := Option.map_eq_some_iff.1 h
          cases h
          rw [i1 p.1 p.2 hp, Nat.pow_succ, Nat.mul_add, Nat.mul_assoc, Nat.add_assoc]
        · intro h
          exact i2 (Option.map_eq_none_iff.1 h)
theorem q_num {r : TReader} (hx : ∀ a, a ∈ r.b → 0 ≤ a.v ∧ a.v ≤ 255) (hl : r.b.length ≤ 1048576) (hbad : r.bad = false) {i : Nat} (hi : r.at_ = (i : Int)) :
    (∀ w nx, decN r.b 9 i = some (w, nx) → p_impl_reader_num r = some ⟨(w : Int), ⟨r.b, (nx : Int), false⟩⟩) ∧ (decN r.b 9 i = none → ∃ r', p_impl_reader_num r = some ⟨0, r'⟩ ∧ r'.bad = true ∧ r'.b = r.b) := by
  obtain ⟨h1, h2⟩ := q_numLoop hx hl hbad 8 0 0 i rfl (by decide)
  unfold p_impl_reader_num
  rw [hi]
  constructor
  · intro w nx h
    have := h1 w nx h
    simp only [Nat.pow_zero, Nat.one_mul, Nat.zero_add] at this
    rw [show ((i : Int), (0 : Int), (0 : Int)) = ((i : Int), ((0 : Nat) : Int), ((7 * 0 : Nat) : Int)) from rfl, this]; rfl
  · intro h
    obtain ⟨r', h3, h4⟩ := h2 h
    exact ⟨r', by rw [show ((i : Int), (0 : Int), (0 : Int)) = ((i : Int), ((0 : Nat) : Int), ((7 * 0 : Nat) : Int)) from rfl, h3]; rfl, h4⟩

theorem q_GetInt (x : List U8) (a : Int) (hx : ∀ a, a ∈ x → 0 ≤ a.v ∧ a.v ≤ 255) : ∃ r, p_spec_GetInt x a = some r ∧ p_impl_GetInt x a = some r := by
  unfold p_spec_GetInt p_impl_GetInt
  by_cases h1 : (1048576 : Int) < (x.length : Int)
  · simp only [h1, decide_true, if_true]; exact ⟨_, rfl, rfl⟩
  · by_cases h2 : a < 0
    · simp only [h1, h2, decide_true, decide_false, if_true, if_false, Bool.false_eq_true]; exact ⟨_, rfl, rfl⟩
    · by_cases h3 : (x.length : Int) < a
      · simp only [h1, h2, h3, decide_true, decide_false, if_true, if_false, Bool.false_eq_true]; exact ⟨_, rfl, rfl⟩
      · simp only [h1, h2, h3, decide_true, decide_false, if_true, if_false, Bool.false_eq_true]
        obtain ⟨i, rfl⟩ := Int.eq_ofNat_of_zero_le (Int.not_lt.1 h2)
        obtain ⟨g1, g2⟩ := q_get hx (by omega) i (by omega)
        obtain ⟨n1, n2⟩ := q_num (r := ⟨x, (i : Int), false⟩) hx (by show x.length ≤ _; omega) rfl (i := i) rfl
        cases h : decN x 9 i with
        | none =>
          obtain ⟨u, v, e1⟩ := g2 h
          obtain ⟨r', e2, e3, _⟩ := n2 h
          rw [e1, e2]
          simp only [Option.bind_some, e3, if_true]
          exact ⟨_, rfl, rfl⟩
        | some p =>
          rw [g1 p.1 p.2 h, n1 p.1 p.2 h]
          simp only [Option.bind_some, if_true]
          exact ⟨_, rfl, rfl⟩
theorem plain_GetInt (x : List U8) (a : Int) (hx : x.length * 1 ≤ reachBytes ∧ ∀ a, a ∈ x → (0 ≤ a.v ∧ a.v ≤ 255)) (ha : InI64 a) : p_laws_FnExactGetInt x a = some true := by
  unfold p_laws_FnExactGetInt
  by_cases h1 : (1048576 : Int) < (x.length : Int)
  · rw [if_pos (decide_eq_true h1)]
  · rw [if_neg (by simpa using h1), q_toByteS x (by omega), Option.bind_some]
    obtain ⟨r, e1, e2⟩ := q_GetInt x a hx.2
    rw [e1, Option.bind_some, e2, Option.bind_some, if_pos (by simp), if_pos (by simp), if_pos (by simp), q_eqByteS x (by omega)]
    rfl
end Go.AM
