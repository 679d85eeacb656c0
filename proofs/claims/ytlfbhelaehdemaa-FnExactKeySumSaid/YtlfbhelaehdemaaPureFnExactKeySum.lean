/- The law FnExactKeySum holds: the program's KeySum and the reference's tell the same bytes of every key and text. No condition. -/
import Derived.Test.YtlfbhelaehdemaaPFnExactKeySumx3
namespace Go.Proofs.Ytlfbhelaehdemaa.Pure
open Go.RowKit Go.Proofs.Ytlfbhelaehdemaa.PFnExactKeySum Go.Proofs.YtlfbhelaehdemaaW.PrintWords Go.Proofs.YtlfbhelaehdemaaW.PrintLast

theorem wrap_small {i : Int} (h0 : -9223372036854775808 ≤ i) (h : i < 9223372036854775808) : wrap64 i = i := by
  unfold wrap64; omega

theorem rd_at (xs : List Int) (i : Nat) (h : i < xs.length) : rd xs (i : Int) = xs[i] := by
  simp [rd, List.getD_eq_getElem?_getD, h]

theorem toByteS_loop (xs : List Int) (hn : xs.length ≤ 1048576) (d : Nat) : ∀ (k i : Nat), i + d = xs.length → d < k →
    laws_toByteS.l0 k xs (xs.take i ++ List.replicate d 0) (i : Int) = some xs := by
  induction d with
  | zero =>
    intro k i hd hk
    obtain ⟨k, rfl⟩ : ∃ m, k = m + 1 := ⟨k - 1, by omega⟩
    simp only [laws_toByteS.l0]
    rw [if_neg (by omega)]
    simp [List.take_of_length_le (show xs.length ≤ i by omega)]
  | succ d ih =>
    intro k i hd hk
    obtain ⟨k, rfl⟩ : ∃ m, k = m + 1 := ⟨k - 1, by omega⟩
    simp only [laws_toByteS.l0]
    rw [if_pos (by omega), if_pos (by omega), if_pos (by simp; omega), wrap_small (by omega) (by omega)]
    have hi : i < xs.length := by omega
    have e : (xs.take i ++ List.replicate (d + 1) 0).set ((i : Int)).toNat (rd xs i) = xs.take (i + 1) ++ List.replicate d 0 := by
      rw [rd_at xs i hi, Int.toNat_natCast, List.set_append_right _ _ (by simp; omega), List.take_succ_eq_append_getElem hi, List.append_assoc]
      have : i - (xs.take i).length = 0 := by simp; omega
      rw [this, List.replicate_succ]
      rfl
    rw [e]
    exact ih k (i + 1) (by omega) (by omega)

theorem toByteS_all (xs : List Int) (hn : xs.length ≤ 1048576) (k : Nat) (hk : xs.length < k) : laws_toByteS.f k xs = some xs := by
  unfold laws_toByteS.f
  rw [if_pos (by omega), if_pos (by omega)]
  have := toByteS_loop xs hn xs.length k 0 (by omega) hk
  simpa using this

theorem eq_loop (xs : List Int) (hn : xs.length ≤ 1048576) (d : Nat) : ∀ (k i : Nat), i + d = xs.length → d < k → laws_eqByteS.l0 k xs xs (i : Int) = some true := by
  induction d with
  | zero =>
    intro k i hd hk
    obtain ⟨k, rfl⟩ : ∃ m, k = m + 1 := ⟨k - 1, by omega⟩
    simp only [laws_eqByteS.l0]
    rw [if_neg (by omega)]
  | succ d ih =>
    intro k i hd hk
    obtain ⟨k, rfl⟩ : ∃ m, k = m + 1 := ⟨k - 1, by omega⟩
    simp only [laws_eqByteS.l0]
    rw [if_pos (by omega), if_pos (by omega), if_pos (by omega), if_pos trivial, wrap_small (by omega) (by omega)]
    exact ih k (i + 1) (by omega) (by omega)

theorem eq_all (xs : List Int) (hn : xs.length ≤ 1048576) (k : Nat) (hk : xs.length < k) : laws_eqByteS.f k xs xs = some true := by
  unfold laws_eqByteS.f
  rw [if_pos rfl]
  exact eq_loop xs hn xs.length k 0 (by omega) hk

theorem mark_loop (m n : Nat) (hm : m ≤ 2097152) (hn : n ≤ 1048576) (d : Nat) : ∀ (k i : Nat) (ys : List Int), ys.length = n → i + d = n → d < k → (∀ j, j < i → ys[j]? = some (((m + j : Nat) : Int) % 256)) →
    ∃ zs, laws_markByteS.l0 k ys ((m + i : Nat) : Int) (i : Int) = some (((m + n : Nat) : Int), zs) ∧ zs.length = n ∧ ∀ j, j < n → zs[j]? = some (((m + j : Nat) : Int) % 256) := by
  induction d with
  | zero =>
    intro k i ys hl hd hk hy
    obtain ⟨k, rfl⟩ : ∃ m, k = m + 1 := ⟨k - 1, by omega⟩
    simp only [laws_markByteS.l0]
    rw [if_neg (by omega)]
    obtain rfl : i = n := by omega
    exact ⟨ys, rfl, hl, hy⟩
  | succ d ih =>
    intro k i ys hl hd hk hy
    obtain ⟨k, rfl⟩ : ∃ m, k = m + 1 := ⟨k - 1, by omega⟩
    simp only [laws_markByteS.l0]
    rw [if_pos (by omega), if_pos (by omega), wrap_small (i := ((m + i : Nat) : Int) + 1) (by omega) (by omega), wrap_small (i := (i : Int) + 1) (by omega) (by omega)]
    have := ih k (i + 1) (ys.set ((i : Int)).toNat (((m + i : Nat) : Int) % 256)) (by simpa using hl) (by omega) (by omega) (by
      intro j hj
      rw [Int.toNat_natCast]
      by_cases e : i = j
      · subst e
        rw [List.getElem?_set_self (by omega)]
      · rw [List.getElem?_set_ne e]
        exact hy j (by omega))
    have e1 : ((m + (i + 1) : Nat) : Int) = ((m + i : Nat) : Int) + 1 := by omega
    have e2 : ((i + 1 : Nat) : Int) = (i : Int) + 1 := by omega
    rw [e1, e2] at this
    exact this

theorem mark_all (m : Nat) (hm : m ≤ 2097152) (xs : List Int) (hn : xs.length ≤ 1048576) (k : Nat) (hk : xs.length < k) :
    ∃ zs, laws_markByteS.f k xs (m : Int) = some (((m + xs.length : Nat) : Int), zs) ∧ zs.length = xs.length ∧ ∀ j, j < xs.length → zs[j]? = some (((m + j : Nat) : Int) % 256) := by
  have := mark_loop m xs.length hm hn xs.length k 0 xs rfl (by omega) hk (by intro j hj; omega)
  simpa [laws_markByteS.f] using this

theorem held_loop (zs : List Int) (n : Nat) (hl : zs.length = n) (hn : n ≤ 1048576) (hz : ∀ j, j < n → zs[j]? = some (((1 + j : Nat) : Int) % 256)) (d : Nat) : ∀ (k i : Nat), i + d = n → d < k →
    laws_heldByteS.l0 k zs ((1 + i : Nat) : Int) (i : Int) = some ((1 + n : Nat) : Int) := by
  induction d with
  | zero =>
    intro k i hd hk
    obtain ⟨k, rfl⟩ : ∃ m, k = m + 1 := ⟨k - 1, by omega⟩
    simp only [laws_heldByteS.l0]
    rw [if_neg (by omega)]
    obtain rfl : i = n := by omega
    rfl
  | succ d ih =>
    intro k i hd hk
    obtain ⟨k, rfl⟩ : ∃ m, k = m + 1 := ⟨k - 1, by omega⟩
    simp only [laws_heldByteS.l0]
    have hr : rd zs (i : Int) = ((1 + i : Nat) : Int) % 256 := by
      rw [rd_at zs i (by omega)]
      have := hz i (by omega)
      rw [List.getElem?_eq_getElem (by omega)] at this
      exact Option.some.inj this
    rw [if_pos (by omega), if_pos (by omega), if_pos hr, wrap_small (i := ((1 + i : Nat) : Int) + 1) (by omega) (by omega), wrap_small (i := (i : Int) + 1) (by omega) (by omega)]
    have := ih k (i + 1) (by omega) (by omega)
    have e1 : ((1 + (i + 1) : Nat) : Int) = ((1 + i : Nat) : Int) + 1 := by omega
    have e2 : ((i + 1 : Nat) : Int) = (i : Int) + 1 := by omega
    rw [e1, e2] at this
    exact this

theorem xor_kind (k : IntKind) (a b : Nat) (ha : a < 2 ^ k.bits) (hb : b < 2 ^ k.bits) : Go.bits .xor k a b = k.wrap ((a ^^^ b : Nat) : Int) := by
  have ha' : a % 2 ^ k.bits = a := Nat.mod_eq_of_lt ha
  have hb' : b % 2 ^ k.bits = b := Nat.mod_eq_of_lt hb
  simp only [Go.bits, BitVec.ofInt_natCast, BitVec.toNat_xor, BitVec.toNat_ofNat, ha', hb']

theorem xor_both (a b : Nat) (ha : a < 4294967296) (hb : b < 4294967296) :
    Go.bits .xor .i64 a b = ((a ^^^ b : Nat) : Int) ∧ Go.bits .xor .u32 a b = ((a ^^^ b : Nat) : Int) ∧ a ^^^ b < 4294967296 := by
  have hx : a ^^^ b < 2 ^ 32 := Nat.xor_lt_two_pow (by simpa using ha) (by simpa using hb)
  have hx' : a ^^^ b < 4294967296 := by simpa using hx
  have p64 : 2 ^ IntKind.i64.bits = 18446744073709551616 := rfl
  have p32 : 2 ^ IntKind.u32.bits = 4294967296 := rfl
  refine ⟨?_, ?_, hx'⟩
  · rw [xor_kind .i64 a b (by rw [p64]; omega) (by rw [p64]; omega), IntKind.wrap_i64]
    omega
  · rw [xor_kind .u32 a b (by rw [p32]; omega) (by rw [p32]; omega), IntKind.wrap_u32]
    omega

def stepH (h : Nat) (c : Int) : Nat := (h ^^^ c.toNat) * 16777619 % 4294967296
def sumH (h : Nat) (xs : List Int) : Nat := xs.foldl stepH h
theorem sumH_lt (xs : List Int) : ∀ h, h < 4294967296 → sumH h xs < 4294967296 := by
  induction xs with
  | nil => intro h hh; exact hh
  | cons x xs ih => intro h hh; exact ih _ (Nat.mod_lt _ (by omega))
theorem sumH_append (h : Nat) (xs ys : List Int) : sumH h (xs ++ ys) = sumH (sumH h xs) ys := List.foldl_append

abbrev Bytes (xs : List Int) : Prop := ∀ x ∈ xs, 0 ≤ x ∧ x < 256

theorem sum_loops (xs : List Int) (hn : xs.length ≤ 2097152) (hb : Bytes xs) (d : Nat) : ∀ (k i : Nat) (h : Nat), h < 4294967296 → i + d = xs.length → d < k →
    spec_Sum32.l0 k xs (h : Int) (i : Int) = some ((sumH h (xs.drop i) : Nat) : Int) ∧ impl_sumOn.l0 k (h : Int) xs (xs.length : Int) (i : Int) = some ((sumH h (xs.drop i) : Nat) : Int) := by
  induction d with
  | zero =>
    intro k i h hh hd hk
    obtain ⟨k, rfl⟩ : ∃ m, k = m + 1 := ⟨k - 1, by omega⟩
    have e : xs.drop i = [] := List.drop_eq_nil_of_le (by omega)
    rw [e]
    refine ⟨?_, ?_⟩
    · simp only [spec_Sum32.l0]; rw [if_neg (by omega)]; rfl
    · simp only [impl_sumOn.l0]; rw [if_neg (by omega)]; rfl
  | succ d ih =>
    intro k i h hh hd hk
    obtain ⟨k, rfl⟩ : ∃ m, k = m + 1 := ⟨k - 1, by omega⟩
    have hi : i < xs.length := by omega
    have hx := hb xs[i] (List.getElem_mem hi)
    obtain ⟨c, hc⟩ := Int.eq_ofNat_of_zero_le hx.1
    have hc256 : c < 256 := by omega
    obtain ⟨e1, e2, e3⟩ := xor_both h c hh (by omega)
    simp only [spec_Sum32.l0, impl_sumOn.l0]
    rw [if_pos (by omega), if_pos (by omega), if_pos (by omega), if_pos (by omega), if_pos (by omega)]
    rw [rd_at xs i hi, hc, wrap_small (i := (c : Int)) (by omega) (by omega), e1, wrap_small (i := (i : Int) + 1) (by omega) (by omega)]
    rw [wrap_small (by omega) (by omega)]
    rw [Int.emod_eq_of_lt (a := (c : Int)) (by omega) (by omega), e2]
    have em : Int.tmod (((h ^^^ c : Nat) : Int) * 16777619) 4294967296 = (((h ^^^ c) * 16777619 % 4294967296 : Nat) : Int) := by
      rw [Int.tmod_eq_emod_of_nonneg (by omega)]; omega
    have em2 : (((h ^^^ c : Nat) : Int) * 16777619) % 4294967296 = (((h ^^^ c) * 16777619 % 4294967296 : Nat) : Int) := by omega
    rw [em, em2]
    have := ih k (i + 1) ((h ^^^ c) * 16777619 % 4294967296) (by omega) (by omega) (by omega)
    have ed : xs.drop i = xs[i] :: xs.drop (i + 1) := List.drop_eq_getElem_cons hi
    have es : sumH h (xs.drop i) = sumH ((h ^^^ c) * 16777619 % 4294967296) (xs.drop (i + 1)) := by
      rw [ed]
      show sumH (stepH h xs[i]) _ = _
      rw [hc]
      rfl
    rw [es]
    simpa using this

theorem spec_sum (xs : List Int) (hn : xs.length ≤ 1048576) (hb : Bytes xs) (k : Nat) (hk : xs.length < k) : spec_Sum32.f k xs = some ((sumH 2166136261 xs : Nat) : Int) := by
  unfold spec_Sum32.f
  rw [if_neg (by omega)]
  have := (sum_loops xs (by omega) hb xs.length k 0 2166136261 (by omega) (by omega) hk).1
  simpa using this

theorem impl_sum (h : Nat) (hh : h < 4294967296) (xs : List Int) (hn : xs.length ≤ 1048576) (hb : Bytes xs) (k : Nat) (hk : xs.length < k) : impl_sumOn.f k (h : Int) xs = some ((sumH h xs : Nat) : Int) := by
  unfold impl_sumOn.f
  have := (sum_loops xs (by omega) hb xs.length k 0 h hh (by omega) hk).2
  simpa using this

def four (r : Nat) : List Int := [((r / 16777216 % 256 : Nat) : Int), ((r / 65536 % 256 : Nat) : Int), ((r / 256 % 256 : Nat) : Int), ((r % 256 : Nat) : Int)]
theorem four_bytes (r : Nat) : Bytes (four r) := by
  intro x hx
  simp only [four, List.mem_cons, List.not_mem_nil, or_false] at hx
  omega
theorem four_spec (r : Nat) (hr : r < 4294967296) : spec_l01Four.f (r : Int) = some (four r) := by
  unfold spec_l01Four.f four
  have t1 : Int.tdiv (r : Int) 16777216 = ((r / 16777216 : Nat) : Int) := by rw [Int.tdiv_eq_ediv_of_nonneg (by omega)]; omega
  have t2 : Int.tdiv (r : Int) 65536 = ((r / 65536 : Nat) : Int) := by rw [Int.tdiv_eq_ediv_of_nonneg (by omega)]; omega
  have t3 : Int.tdiv (r : Int) 256 = ((r / 256 : Nat) : Int) := by rw [Int.tdiv_eq_ediv_of_nonneg (by omega)]; omega
  rw [t1, t2, t3, wrap_small (by omega) (by omega), wrap_small (by omega) (by omega), wrap_small (by omega) (by omega)]
  rw [Int.tmod_eq_emod_of_nonneg (by omega), Int.tmod_eq_emod_of_nonneg (by omega), Int.tmod_eq_emod_of_nonneg (by omega)]
  simp only [Option.some.injEq, List.cons.injEq, and_true]
  omega
theorem four_impl (r : Nat) (hr : r < 4294967296) (l : List Int) (hl : l.length ≤ 8) : impl_append4.f l (wrap64 (r : Int)) = some (l ++ four r) := by
  unfold impl_append4.f four
  rw [wrap_small (by omega) (by omega)]
  simp only [Option.bind_some, List.length_cons, List.length_nil]
  rw [if_pos (by omega)]
  simp only [Option.some.injEq, List.append_cancel_left_eq, List.cons.injEq, and_true]
  omega
theorem join_spec (a b c : List Int) (h : a.length + b.length + c.length ≤ 4194304) : spec_l01Join.f a b c = some (a ++ b ++ c) := by
  unfold spec_l01Join.f
  simp only [Option.bind_some, List.nil_append, List.length_nil]
  rw [if_pos (by omega), if_pos (by omega), if_pos (by simp; omega)]

theorem bytes3 {a b c : List Int} (ha : Bytes a) (hb : Bytes b) (hc : Bytes c) : Bytes (a ++ b ++ c) := by
  intro x hx
  simp only [List.mem_append] at hx
  rcases hx with (hx | hx) | hx
  · exact ha x hx
  · exact hb x hx
  · exact hc x hx

theorem both (a b : List Int) (ha : a.length ≤ 1048576) (hb : b.length ≤ 1048576) (ba : Bytes a) (bb : Bytes b) : ∃ xs c, xs.length ≤ 8 ∧ ∀ k, 1048586 ≤ k → spec_KeySum.f k a b = some (xs, c) ∧ impl_KeySum.f k a b = some (xs, c) := by
  by_cases h1 : a.length < 1 ∨ 64 < a.length
  · refine ⟨[], 4, by simp, ?_⟩
    intro k hk
    obtain ⟨k, rfl⟩ : ∃ m, k = m + 2 := ⟨k - 2, by omega⟩
    unfold spec_KeySum.f impl_KeySum.f
    rw [if_neg (by omega), if_neg (by omega), decide_eq_false (by omega : ¬ (b.length : Int) > 1048576)]
    simp only [spec_KeySum.j0, impl_KeySum.j0, Bool.false_eq_true, if_false]
    by_cases h2 : (a.length : Int) < 1
    · rw [if_pos h2, if_pos h2]
      simp [spec_KeySum.j1, impl_KeySum.j1]
    · rw [if_neg h2, if_neg h2, decide_eq_true (by omega : (a.length : Int) > 64)]
      simp [spec_KeySum.j1, impl_KeySum.j1]
  · have h1' : 1 ≤ a.length ∧ a.length ≤ 64 := by omega
    by_cases h2 : 1048576 < 2 * a.length + b.length ∨ 1048576 < 4 + a.length + b.length
    · refine ⟨[], 2, by simp, ?_⟩
      intro k hk
      obtain ⟨k, rfl⟩ : ∃ m, k = m + 3 := ⟨k - 3, by omega⟩
      unfold spec_KeySum.f impl_KeySum.f
      rw [if_neg (by omega), if_neg (by omega), decide_eq_false (by omega : ¬ (b.length : Int) > 1048576)]
      simp only [spec_KeySum.j0, impl_KeySum.j0, Bool.false_eq_true, if_false]
      rw [if_neg (by omega), if_neg (by omega), decide_eq_false (by omega : ¬ (a.length : Int) > 64)]
      simp only [spec_KeySum.j1, impl_KeySum.j1, Bool.false_eq_true, if_false]
      rw [wrap_small (i := 2 * (a.length : Int)) (by omega) (by omega), wrap_small (i := (b.length : Int) + 2 * (a.length : Int)) (by omega) (by omega), wrap_small (i := (b.length : Int) + (a.length : Int)) (by omega) (by omega), wrap_small (i := (b.length : Int) + (a.length : Int) + 4) (by omega) (by omega),
        wrap_small (i := 2 * (a.length : Int) + (b.length : Int)) (by omega) (by omega), wrap_small (i := 4 + (a.length : Int)) (by omega) (by omega), wrap_small (i := 4 + (a.length : Int) + (b.length : Int)) (by omega) (by omega)]
      by_cases h3 : (b.length : Int) + 2 * (a.length : Int) > 1048576
      · rw [if_pos h3, if_pos (by omega)]
        simp [spec_KeySum.j2, impl_KeySum.j2]
      · rw [if_neg h3, if_neg (by omega), decide_eq_true (by omega : (b.length : Int) + (a.length : Int) + 4 > 1048576), decide_eq_true (by omega : 4 + (a.length : Int) + (b.length : Int) > 1048576)]
        simp [spec_KeySum.j2, impl_KeySum.j2]
    · have h2' : 2 * a.length + b.length ≤ 1048576 ∧ 4 + a.length + b.length ≤ 1048576 := by omega
      have l1 := sumH_lt a 2166136261 (by omega)
      have l2 := sumH_lt b _ l1
      have l3 := sumH_lt a _ l2
      have m1 := sumH_lt (four (sumH (sumH (sumH 2166136261 a) b) a)) 2166136261 (by omega)
      have m2 := sumH_lt a _ m1
      have m3 := sumH_lt b _ m2
      refine ⟨four (sumH (sumH (sumH 2166136261 a) b) a) ++ four (sumH (sumH (sumH 2166136261 (four (sumH (sumH (sumH 2166136261 a) b) a))) a) b), 0, by simp [four], ?_⟩
      intro k hk
      obtain ⟨k, rfl⟩ : ∃ m, k = m + 3 := ⟨k - 3, by omega⟩
      have hf : ∀ r, (four r).length = 4 := fun _ => rfl
      unfold spec_KeySum.f impl_KeySum.f
      rw [if_neg (by omega), if_neg (by omega), decide_eq_false (by omega : ¬ (b.length : Int) > 1048576)]
      simp only [spec_KeySum.j0, impl_KeySum.j0, Bool.false_eq_true, if_false]
      rw [if_neg (by omega), if_neg (by omega), decide_eq_false (by omega : ¬ (a.length : Int) > 64)]
      simp only [spec_KeySum.j1, impl_KeySum.j1, Bool.false_eq_true, if_false]
      rw [wrap_small (i := 2 * (a.length : Int)) (by omega) (by omega), wrap_small (i := (b.length : Int) + 2 * (a.length : Int)) (by omega) (by omega), wrap_small (i := (b.length : Int) + (a.length : Int)) (by omega) (by omega), wrap_small (i := (b.length : Int) + (a.length : Int) + 4) (by omega) (by omega),
        wrap_small (i := 2 * (a.length : Int) + (b.length : Int)) (by omega) (by omega), wrap_small (i := 4 + (a.length : Int)) (by omega) (by omega), wrap_small (i := 4 + (a.length : Int) + (b.length : Int)) (by omega) (by omega)]
      rw [if_neg (by omega), if_neg (by omega), decide_eq_false (by omega : ¬ (b.length : Int) + (a.length : Int) + 4 > 1048576), decide_eq_false (by omega : ¬ 4 + (a.length : Int) + (b.length : Int) > 1048576)]
      simp only [spec_KeySum.j2, impl_KeySum.j2, Bool.false_eq_true, if_false]
      refine ⟨?_, ?_⟩
      · rw [join_spec a b a (by omega)]
        simp only [Option.bind_some]
        rw [spec_sum _ (by simp; omega) (bytes3 ba bb ba) k (by simp; omega)]
        simp only [Option.bind_some]
        rw [sumH_append, sumH_append, four_spec _ l3]
        simp only [Option.bind_some]
        rw [join_spec _ a b (by rw [hf]; omega)]
        simp only [Option.bind_some]
        rw [spec_sum _ (by simp [hf]; omega) (bytes3 (four_bytes _) ba bb) k (by simp [hf]; omega)]
        simp only [Option.bind_some]
        rw [sumH_append, sumH_append, four_spec _ m3]
        simp only [Option.bind_some]
        rw [if_pos (by simp [hf])]
      · have i1 := impl_sum 2166136261 (by omega) a (by omega) ba k (by omega)
        have e : ((2166136261 : Nat) : Int) = 2166136261 := rfl
        rw [e] at i1
        rw [i1]
        simp only [Option.bind_some]
        rw [impl_sum _ l1 b (by omega) bb k (by omega)]
        simp only [Option.bind_some]
        rw [impl_sum _ l2 a (by omega) ba k (by omega)]
        simp only [Option.bind_some]
        rw [four_impl _ l3 [] (by simp)]
        simp only [Option.bind_some, List.nil_append]
        have i2 := impl_sum 2166136261 (by omega) (four (sumH (sumH (sumH 2166136261 a) b) a)) (by rw [hf]; omega) (four_bytes _) k (by rw [hf]; omega)
        rw [e] at i2
        rw [i2]
        simp only [Option.bind_some]
        rw [impl_sum _ m1 a (by omega) ba k (by omega)]
        simp only [Option.bind_some]
        rw [impl_sum _ m2 b (by omega) bb k (by omega)]
        simp only [Option.bind_some]
        rw [four_impl _ m3 _ (by rw [hf]; omega)]
        rfl

theorem FnExactKeySum : laws_FnExactKeySum.Pure := by
  intro a b _ ha hwa _ hb hwb
  refine ⟨1048600, ?_⟩
  unfold laws_FnExactKeySum.f
  by_cases h1 : (a.length : Int) > 1048576
  · rw [if_pos h1]
  rw [if_neg h1]
  by_cases h2 : (b.length : Int) > 1048576
  · rw [if_pos h2]
  rw [if_neg h2]
  have bytes : ∀ xs : List Int, (∀ x ∈ xs, (Lit.int .u8 x).wf = true) → Bytes xs := by
    intro xs hx x hm
    have := hx x hm
    simp [Lit.wf, IntKind.min, IntKind.max, IntKind.bits, IntKind.signed] at this
    omega
  have na : a.length ≤ 1048576 := by omega
  have nb : b.length ≤ 1048576 := by omega
  obtain ⟨xs, c, hl, hbo⟩ := both a b na nb (bytes a hwa) (bytes b hwb)
  have ta : ∀ k, 1048590 ≤ k → laws_toByteS.f k a = some a := fun k hk => toByteS_all a na k (by omega)
  have tb : ∀ k, 1048590 ≤ k → laws_toByteS.f k b = some b := fun k hk => toByteS_all b nb k (by omega)
  rw [ta _ (by omega), tb _ (by omega)]
  simp only [Option.bind_some]
  rw [(hbo _ (by omega)).1, (hbo _ (by omega)).2]
  simp only [Option.bind_some]
  rw [eq_all xs (by omega) _ (by omega)]
  simp only [Option.bind_some, if_true]
  obtain ⟨za, ma, _, _⟩ := mark_all 1 (by omega) a na 1048599 (by omega)
  obtain ⟨zb, mb, _, _⟩ := mark_all (1 + a.length) (by omega) b nb 1048599 (by omega)
  obtain ⟨zx, mx, lx, hx⟩ := mark_all 1 (by omega) xs (by omega) 1048598 (by omega)
  have n1 : ((1 : Nat) : Int) = 1 := rfl
  rw [n1] at ma mx
  have held : ∀ k, 1048590 ≤ k → laws_heldByteS.f k zx 1 = some ((1 + xs.length : Nat) : Int) := by
    intro k hk
    have := held_loop zx xs.length lx (by omega) hx xs.length k 0 (by omega) (by omega)
    simpa [laws_heldByteS.f] using this
  rw [show (1048600 : Nat) = 1048599 + 1 from rfl, laws_FnExactKeySum.j0, if_neg (by simp), ta _ (by omega)]
  simp only [Option.bind_some]
  rw [eq_all a na _ (by omega)]
  simp only [Option.bind_some, if_true]
  rw [tb _ (by omega)]
  simp only [Option.bind_some]
  rw [eq_all b nb _ (by omega)]
  simp only [Option.bind_some, if_true]
  rw [ma]
  simp only [Option.bind_some]
  rw [mb]
  simp only [Option.bind_some]
  rw [if_neg (by omega), eq_all xs (by omega) _ (by omega)]
  simp only [Option.bind_some, if_true]
  rw [show (1048599 : Nat) = 1048598 + 1 from rfl, laws_FnExactKeySum.j1, if_neg (by simp), mx]
  simp only [Option.bind_some]
  rw [held _ (by omega)]
  simp only [Option.bind_some]
  rw [if_neg (by omega), if_pos trivial, ta _ (by omega), tb _ (by omega)]
  simp only [Option.bind_some]
  rw [(hbo _ (by omega)).2]
  simp only [Option.bind_some]
  rw [eq_all xs (by omega) _ (by omega)]
  simp only [Option.bind_some, if_true]
  rw [show (1048598 : Nat) = 1048597 + 1 from rfl, laws_FnExactKeySum.j2, if_neg (by simp), held _ (by omega)]
  simp only [Option.bind_some]
  rw [if_neg (by omega), if_pos trivial]

end Go.Proofs.Ytlfbhelaehdemaa.Pure
