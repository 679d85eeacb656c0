/- The law FnExactPutInt holds: the program's PutInt and the reference's tell the same bytes of every number. No condition. -/
import Derived.Test.YtlfbhelaehdemaaPFnExactPutIntx2
namespace Go.Proofs.Ytlfbhelaehdemaa.Pure
open Go.RowKit Go.Proofs.Ytlfbhelaehdemaa.PFnExactPutInt Go.Proofs.YtlfbhelaehdemaaW.PrintWords Go.Proofs.YtlfbhelaehdemaaW.PrintLast

theorem wrap_small {i : Int} (h0 : -9223372036854775808 ≤ i) (h : i < 9223372036854775808) : wrap64 i = i := by
  unfold wrap64; omega

theorem rd_at (xs : List Int) (i : Nat) (h : i < xs.length) : rd xs (i : Int) = xs[i] := by
  simp [rd, List.getD_eq_getElem?_getD, h]

/-- Seven bits at a time, the least first. -/
def put7 : Nat → Nat → List Int
  | 0, _ => []
  | j + 1, v => if v < 128 then [(v : Int)] else ((128 + v % 128 : Nat) : Int) :: put7 j (v / 128)

theorem put7_len : ∀ (j v : Nat), (put7 j v).length ≤ j
  | 0, _ => by simp [put7]
  | j + 1, v => by
    simp only [put7]
    split
    · simp
    · have := put7_len j (v / 128)
      simp
      omega

theorem div_pow {v j : Nat} (hv : v < 128 ^ (j + 2)) : v / 128 < 128 ^ (j + 1) := by
  rw [Nat.div_lt_iff_lt_mul (by omega)]
  rw [Nat.pow_succ] at hv
  exact hv

theorem spec_put (j : Nat) : ∀ (k v : Nat), v < 128 ^ (j + 1) → v < 9223372036854775808 → j < k → j < 100 → spec_l01Put.f k (v : Int) = some (put7 (j + 1) v) := by
  induction j with
  | zero =>
    intro k v hv _ hk _
    obtain ⟨k, rfl⟩ : ∃ m, k = m + 1 := ⟨k - 1, by omega⟩
    have hv : v < 128 := by simpa using hv
    simp only [spec_l01Put.f, put7]
    rw [if_pos (by omega), if_pos hv, Int.emod_eq_of_lt (by omega) (by omega)]
  | succ j ih =>
    intro k v hv hb hk hj
    obtain ⟨k, rfl⟩ : ∃ m, k = m + 1 := ⟨k - 1, by omega⟩
    rw [put7]
    simp only [spec_l01Put.f]
    by_cases h : v < 128
    · rw [if_pos (by omega), if_pos h, Int.emod_eq_of_lt (by omega) (by omega)]
    · rw [if_neg (by omega), if_neg h]
      have e1 : Int.tdiv (v : Int) 128 = ((v / 128 : Nat) : Int) := by
        rw [Int.tdiv_eq_ediv_of_nonneg (by omega)]; omega
      have e2 : Int.tmod (v : Int) 128 = ((v % 128 : Nat) : Int) := by
        rw [Int.tmod_eq_emod_of_nonneg (by omega)]; omega
      rw [e1, e2, wrap_small (i := ((v / 128 : Nat) : Int)) (by omega) (by omega), wrap_small (by omega) (by omega)]
      rw [ih k (v / 128) (div_pow hv) (by omega) (by omega) (by omega)]
      simp only [Option.bind_some]
      have hl := put7_len (j + 1) (v / 128)
      rw [if_pos (by simp; omega)]
      simp only [List.singleton_append, Option.some.injEq, List.cons.injEq, and_true]
      omega

theorem impl_put (j : Nat) : ∀ (k v : Nat) (acc : List Int), v < 128 ^ (j + 1) → v < 9223372036854775808 → j < k → acc.length + j < 1000 → impl_appendInt.l0 k acc (v : Int) = some (acc ++ put7 (j + 1) v) := by
  induction j with
  | zero =>
    intro k v acc hv _ hk ha
    obtain ⟨k, rfl⟩ : ∃ m, k = m + 1 := ⟨k - 1, by omega⟩
    have hv : v < 128 := by simpa using hv
    simp only [impl_appendInt.l0, put7]
    rw [if_neg (by omega), if_pos (by omega), if_pos hv, Int.emod_eq_of_lt (by omega) (by omega)]
  | succ j ih =>
    intro k v acc hv hb hk ha
    obtain ⟨k, rfl⟩ : ∃ m, k = m + 1 := ⟨k - 1, by omega⟩
    rw [put7]
    simp only [impl_appendInt.l0]
    by_cases h : v < 128
    · rw [if_neg (by omega), if_pos (by omega), if_pos h, Int.emod_eq_of_lt (by omega) (by omega)]
    · rw [if_pos (by omega), if_pos (by omega), if_neg h]
      have e0 : (v : Int) / 128 = ((v / 128 : Nat) : Int) := by omega
      rw [e0, ih k (v / 128) _ (div_pow hv) (by omega) (by omega) (by simp; omega)]
      have e1 : Go.bits .and .i64 (v : Int) 127 = ((v % 128 : Nat) : Int) := by
        have := bits_mask .i64 63 (by decide) (fun n h0 h1 => by rw [IntKind.wrap_i64]; omega) 7 (by omega) (v : Int) (by omega) (by omega)
        have e : ((2 : Int) ^ 7 - 1) = 127 := by decide
        rw [e] at this
        rw [this]
        omega
      have e2 : Go.bits .or .u8 (((v % 128 : Nat) : Int)) 128 = ((128 + v % 128 : Nat) : Int) := by
        have h1 := (bits_nat .u8 8 (by decide) (fun n h0 h1 => wraps_u8 n h0 h1) (v % 128) 128 (by omega) (by omega)).2
        have h2 := (Nat.two_pow_add_eq_or_of_lt (i := 7) (b := v % 128) (by omega) 1)
        have : (((128 : Nat)) : Int) = 128 := rfl
        rw [this] at h1
        rw [h1, Nat.or_comm]
        have h3 : (2 : Nat) ^ 7 * 1 = 128 := by decide
        rw [h3] at h2
        rw [h2]
      rw [e1, Int.emod_eq_of_lt (a := ((v % 128 : Nat) : Int)) (by omega) (by omega), e2]
      simp

theorem eq_loop (xs : List Int) (hn : xs.length ≤ 1000) (d : Nat) : ∀ (k i : Nat), i + d = xs.length → d < k → laws_eqByteS.l0 k xs xs (i : Int) = some true := by
  induction d with
  | zero =>
    intro k i hd hk
    obtain ⟨k, rfl⟩ : ∃ m, k = m + 1 := ⟨k - 1, by omega⟩
    simp only [laws_eqByteS.l0]
    rw [if_neg (by omega)]
  | succ d ih =>
    intro k i hd hk
    obtain ⟨k, rfl⟩ : ∃ m, k = m + 1 := ⟨k - 1, by omega⟩
    simp only [laws_eqByteS.l0]
    rw [if_pos (by omega), if_pos (by omega), if_pos (by omega), if_pos trivial, wrap_small (by omega) (by omega)]
    exact ih k (i + 1) (by omega) (by omega)

theorem eq_all (xs : List Int) (hn : xs.length ≤ 1000) (k : Nat) (hk : xs.length < k) : laws_eqByteS.f k xs xs = some true := by
  unfold laws_eqByteS.f
  rw [if_pos rfl]
  exact eq_loop xs hn xs.length k 0 (by omega) hk

theorem mark_loop (n : Nat) (hn : n ≤ 1000) (d : Nat) : ∀ (k i : Nat) (ys : List Int), ys.length = n → i + d = n → d < k → (∀ j, j < i → ys[j]? = some (((1 + j : Nat) : Int) % 256)) →
    ∃ zs, laws_markByteS.l0 k ys ((1 + i : Nat) : Int) (i : Int) = some (((1 + n : Nat) : Int), zs) ∧ zs.length = n ∧ ∀ j, j < n → zs[j]? = some (((1 + j : Nat) : Int) % 256) := by
  induction d with
  | zero =>
    intro k i ys hl hd hk hy
    obtain ⟨k, rfl⟩ : ∃ m, k = m + 1 := ⟨k - 1, by omega⟩
    simp only [laws_markByteS.l0]
    rw [if_neg (by omega)]
    obtain rfl : i = n := by omega
    exact ⟨ys, rfl, hl, hy⟩
  | succ d ih =>
    intro k i ys hl hd hk hy
    obtain ⟨k, rfl⟩ : ∃ m, k = m + 1 := ⟨k - 1, by omega⟩
    simp only [laws_markByteS.l0]
    rw [if_pos (by omega), if_pos (by omega), wrap_small (i := ((1 + i : Nat) : Int) + 1) (by omega) (by omega), wrap_small (i := (i : Int) + 1) (by omega) (by omega)]
    have := ih k (i + 1) (ys.set ((i : Int)).toNat (((1 + i : Nat) : Int) % 256)) (by simpa using hl) (by omega) (by omega) (by
      intro j hj
      rw [Int.toNat_natCast]
      by_cases e : i = j
      · subst e
        rw [List.getElem?_set_self (by omega)]
      · rw [List.getElem?_set_ne e]
        exact hy j (by omega))
    have e1 : ((1 + (i + 1) : Nat) : Int) = ((1 + i : Nat) : Int) + 1 := by omega
    have e2 : ((i + 1 : Nat) : Int) = (i : Int) + 1 := by omega
    rw [e1, e2] at this
    exact this

theorem held_loop (zs : List Int) (n : Nat) (hl : zs.length = n) (hn : n ≤ 1000) (hz : ∀ j, j < n → zs[j]? = some (((1 + j : Nat) : Int) % 256)) (d : Nat) : ∀ (k i : Nat), i + d = n → d < k →
    laws_heldByteS.l0 k zs ((1 + i : Nat) : Int) (i : Int) = some ((1 + n : Nat) : Int) := by
  induction d with
  | zero =>
    intro k i hd hk
    obtain ⟨k, rfl⟩ : ∃ m, k = m + 1 := ⟨k - 1, by omega⟩
    simp only [laws_heldByteS.l0]
    rw [if_neg (by omega)]
    obtain rfl : i = n := by omega
    rfl
  | succ d ih =>
    intro k i hd hk
    obtain ⟨k, rfl⟩ : ∃ m, k = m + 1 := ⟨k - 1, by omega⟩
    simp only [laws_heldByteS.l0]
    have hr : rd zs (i : Int) = ((1 + i : Nat) : Int) % 256 := by
      rw [rd_at zs i (by omega)]
      have := hz i (by omega)
      rw [List.getElem?_eq_getElem (by omega)] at this
      exact Option.some.inj this
    rw [if_pos (by omega), if_pos (by omega), if_pos hr, wrap_small (i := ((1 + i : Nat) : Int) + 1) (by omega) (by omega), wrap_small (i := (i : Int) + 1) (by omega) (by omega)]
    have := ih k (i + 1) (by omega) (by omega)
    have e1 : ((1 + (i + 1) : Nat) : Int) = ((1 + i : Nat) : Int) + 1 := by omega
    have e2 : ((i + 1 : Nat) : Int) = (i : Int) + 1 := by omega
    rw [e1, e2] at this
    exact this

/-- From the two results on. -/
theorem rest_true (a : Int) (xs : List Int) (c : Int) (hx : xs.length ≤ 1000) (hi' : impl_PutInt.f 1999 a = some (xs, c)) : laws_FnExactPutInt.j0 2000 a xs c xs (c != c) = some true := by
  obtain ⟨zs, h1, h2, h3⟩ := mark_loop xs.length hx xs.length 1999 0 xs rfl (by omega) (by omega) (by intro j hj; omega)
  have h4 := held_loop zs xs.length h2 hx h3 xs.length 1999 0 (by omega) (by omega)
  have h5 := held_loop zs xs.length h2 hx h3 xs.length 1998 0 (by omega) (by omega)
  have n1 : ((1 + 0 : Nat) : Int) = 1 := rfl
  have n0 : ((0 : Nat) : Int) = 0 := rfl
  rw [n1, n0] at h1 h4 h5
  have h1' : laws_markByteS.f 1999 xs 1 = some (((1 + xs.length : Nat) : Int), zs) := h1
  have h4' : laws_heldByteS.f 1999 zs 1 = some ((1 + xs.length : Nat) : Int) := h4
  have h5' : laws_heldByteS.f 1998 zs 1 = some ((1 + xs.length : Nat) : Int) := h5
  rw [show (2000 : Nat) = 1998 + 1 + 1 from rfl, laws_FnExactPutInt.j0]
  rw [if_neg (by simp), show (1998 + 1 : Nat) = 1999 from rfl, h1']
  simp only [Option.bind_some]
  rw [h4']
  simp only [Option.bind_some]
  rw [if_neg (by omega), if_pos trivial, hi']
  simp only [Option.bind_some]
  rw [eq_all xs hx 1999 (by omega)]
  simp only [Option.bind_some, if_true]
  rw [show (1999 : Nat) = 1998 + 1 from rfl, laws_FnExactPutInt.j1, if_neg (by simp), h5']
  simp only [Option.bind_some]
  rw [if_neg (by omega), if_pos trivial]

theorem FnExactPutInt : laws_FnExactPutInt.Pure := by
  intro a hwf
  refine ⟨2000, ?_⟩
  unfold laws_FnExactPutInt.f
  by_cases hr : 0 ≤ a ∧ a ≤ 4611686018427387903
  · obtain ⟨v, rfl⟩ := Int.eq_ofNat_of_zero_le hr.1
    have hv : v < 128 ^ (9 + 1) := by
      have : v ≤ 4611686018427387903 := by omega
      exact Nat.lt_of_le_of_lt this (by decide)
    have hb : v < 9223372036854775808 := by omega
    have hs : spec_PutInt.f 2000 (v : Int) = some (put7 10 v, 0) := by
      unfold spec_PutInt.f spec_l01Num.f
      rw [if_pos (by omega)]
      simp only [Option.bind_some, decide_eq_true hr.2, if_true]
      rw [spec_put 9 2000 v hv hb (by omega) (by omega)]
      rfl
    have hi : ∀ k, 10 ≤ k → impl_PutInt.f k (v : Int) = some (put7 10 v, 0) := by
      intro k hk
      unfold impl_PutInt.f
      rw [if_neg (by omega), if_neg (by omega)]
      have := impl_put 9 k v [] hv hb (by omega) (by simp)
      unfold impl_appendInt.f
      rw [this]
      rfl
    have hl := put7_len 10 v
    rw [hs, hi 2000 (by omega)]
    simp only [Option.bind_some]
    rw [eq_all _ (by omega) 2000 (by omega)]
    simp only [Option.bind_some, if_true]
    exact rest_true _ _ _ (by omega) (hi 1999 (by omega))
  · have hs : spec_PutInt.f 2000 a = some ([], 4) := by
      unfold spec_PutInt.f spec_l01Num.f
      by_cases h0 : a ≥ 0
      · rw [if_pos h0]
        have : ¬ a ≤ 4611686018427387903 := fun h => hr ⟨h0, h⟩
        simp [this]
      · rw [if_neg h0]
        simp
    have hi : ∀ k, impl_PutInt.f k a = some ([], 4) := by
      intro k
      unfold impl_PutInt.f
      by_cases h0 : a < 0
      · rw [if_pos h0]
      · rw [if_neg h0, if_pos (by omega)]
    rw [hs, hi]
    simp only [Option.bind_some]
    rw [eq_all _ (by simp) 2000 (by simp)]
    simp only [Option.bind_some, if_true]
    exact rest_true _ _ _ (by simp) (hi _)

end Go.Proofs.Ytlfbhelaehdemaa.Pure
