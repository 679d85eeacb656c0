/- The law FnExactSum32 holds: the program's Sum32 and the reference's tell the same number of every list of bytes. No condition. -/
import Derived.Test.YtlfbhelaehdemaaPFnExactSum32x1
namespace Go.Proofs.Ytlfbhelaehdemaa.Pure
open Go.RowKit Go.Proofs.Ytlfbhelaehdemaa.PFnExactSum32 Go.Proofs.YtlfbhelaehdemaaW.PrintWords Go.Proofs.YtlfbhelaehdemaaW.PrintLast

theorem wrap_small {i : Int} (h0 : -9223372036854775808 ≤ i) (h : i < 9223372036854775808) : wrap64 i = i := by
  unfold wrap64; omega

theorem rd_at (xs : List Int) (i : Nat) (h : i < xs.length) : rd xs (i : Int) = xs[i] := by
  simp [rd, List.getD_eq_getElem?_getD, h]

theorem toByteS_loop (xs : List Int) (hn : xs.length ≤ 140737488351232) (d : Nat) : ∀ (k i : Nat), i + d = xs.length → d < k →
    laws_toByteS.l0 k xs (xs.take i ++ List.replicate d 0) (i : Int) = some xs := by
  induction d with
  | zero =>
    intro k i hd hk
    obtain ⟨k, rfl⟩ : ∃ m, k = m + 1 := ⟨k - 1, by omega⟩
    simp only [laws_toByteS.l0]
    rw [if_neg (by omega)]
    simp [List.take_of_length_le (show xs.length ≤ i by omega)]
  | succ d ih =>
    intro k i hd hk
    obtain ⟨k, rfl⟩ : ∃ m, k = m + 1 := ⟨k - 1, by omega⟩
    simp only [laws_toByteS.l0]
    rw [if_pos (by omega), if_pos (by omega), if_pos (by simp; omega), wrap_small (by omega) (by omega)]
    have hi : i < xs.length := by omega
    have e : (xs.take i ++ List.replicate (d + 1) 0).set ((i : Int)).toNat (rd xs i) = xs.take (i + 1) ++ List.replicate d 0 := by
      rw [rd_at xs i hi, Int.toNat_natCast, List.set_append_right _ _ (by simp; omega), List.take_succ_eq_append_getElem hi, List.append_assoc]
      have : i - (xs.take i).length = 0 := by simp; omega
      rw [this, List.replicate_succ]
      rfl
    rw [e]
    exact ih k (i + 1) (by omega) (by omega)

theorem toByteS_all (xs : List Int) (hn : xs.length ≤ 140737488351232) (k : Nat) (hk : xs.length < k) : laws_toByteS.f k xs = some xs := by
  unfold laws_toByteS.f
  rw [if_pos (by omega), if_pos (by omega)]
  have := toByteS_loop xs hn xs.length k 0 (by omega) hk
  simpa using this

theorem eqByteS_loop (xs : List Int) (hn : xs.length ≤ 140737488351232) (d : Nat) : ∀ (k i : Nat), i + d = xs.length → d < k →
    laws_eqByteS.l0 k xs xs (i : Int) = some true := by
  induction d with
  | zero =>
    intro k i hd hk
    obtain ⟨k, rfl⟩ : ∃ m, k = m + 1 := ⟨k - 1, by omega⟩
    simp only [laws_eqByteS.l0]
    rw [if_neg (by omega)]
  | succ d ih =>
    intro k i hd hk
    obtain ⟨k, rfl⟩ : ∃ m, k = m + 1 := ⟨k - 1, by omega⟩
    simp only [laws_eqByteS.l0]
    rw [if_pos (by omega), if_pos (by omega), if_pos (by omega), if_pos trivial, wrap_small (by omega) (by omega)]
    exact ih k (i + 1) (by omega) (by omega)

theorem eqByteS_all (xs : List Int) (hn : xs.length ≤ 140737488351232) (k : Nat) (hk : xs.length < k) : laws_eqByteS.f k xs xs = some true := by
  unfold laws_eqByteS.f
  rw [if_pos rfl]
  exact eqByteS_loop xs hn xs.length k 0 (by omega) hk

theorem xor_kind (k : IntKind) (a b : Nat) (ha : a < 2 ^ k.bits) (hb : b < 2 ^ k.bits) : Go.bits .xor k a b = k.wrap ((a ^^^ b : Nat) : Int) := by
  have ha' : a % 2 ^ k.bits = a := Nat.mod_eq_of_lt ha
  have hb' : b % 2 ^ k.bits = b := Nat.mod_eq_of_lt hb
  simp only [Go.bits, BitVec.ofInt_natCast, BitVec.toNat_xor, BitVec.toNat_ofNat, ha', hb']

theorem xor_both (a b : Nat) (ha : a < 4294967296) (hb : b < 4294967296) :
    Go.bits .xor .i64 a b = ((a ^^^ b : Nat) : Int) ∧ Go.bits .xor .u32 a b = ((a ^^^ b : Nat) : Int) ∧ a ^^^ b < 4294967296 := by
  have hx : a ^^^ b < 2 ^ 32 := Nat.xor_lt_two_pow (by simpa using ha) (by simpa using hb)
  have hx' : a ^^^ b < 4294967296 := by simpa using hx
  have p64 : 2 ^ IntKind.i64.bits = 18446744073709551616 := rfl
  have p32 : 2 ^ IntKind.u32.bits = 4294967296 := rfl
  refine ⟨?_, ?_, hx'⟩
  · rw [xor_kind .i64 a b (by rw [p64]; omega) (by rw [p64]; omega), IntKind.wrap_i64]
    omega
  · rw [xor_kind .u32 a b (by rw [p32]; omega) (by rw [p32]; omega), IntKind.wrap_u32]
    omega

theorem sum_loop (xs : List Int) (hn : xs.length ≤ 140737488351232) (hb : ∀ x ∈ xs, 0 ≤ x ∧ x < 256) (d : Nat) : ∀ (k i : Nat) (h : Nat), h < 4294967296 → i + d = xs.length → d < k →
    ∃ r : Nat, r < 4294967296 ∧ spec_Sum32.l0 k xs (h : Int) (i : Int) = some (r : Int) ∧ impl_sumOn.l0 k (h : Int) xs (xs.length : Int) (i : Int) = some (r : Int) := by
  induction d with
  | zero =>
    intro k i h hh hd hk
    obtain ⟨k, rfl⟩ : ∃ m, k = m + 1 := ⟨k - 1, by omega⟩
    refine ⟨h, hh, ?_, ?_⟩
    · simp only [spec_Sum32.l0]; rw [if_neg (by omega)]
    · simp only [impl_sumOn.l0]; rw [if_neg (by omega)]
  | succ d ih =>
    intro k i h hh hd hk
    obtain ⟨k, rfl⟩ : ∃ m, k = m + 1 := ⟨k - 1, by omega⟩
    have hi : i < xs.length := by omega
    have hx := hb xs[i] (List.getElem_mem hi)
    obtain ⟨c, hc⟩ := Int.eq_ofNat_of_zero_le hx.1
    have hc256 : c < 256 := by omega
    obtain ⟨e1, e2, e3⟩ := xor_both h c hh (by omega)
    simp only [spec_Sum32.l0, impl_sumOn.l0]
    rw [if_pos (by omega), if_pos (by omega), if_pos (by omega), if_pos (by omega), if_pos (by omega)]
    rw [rd_at xs i hi, hc, wrap_small (i := (c : Int)) (by omega) (by omega), e1, wrap_small (i := (i : Int) + 1) (by omega) (by omega)]
    rw [wrap_small (by omega) (by omega)]
    rw [Int.emod_eq_of_lt (a := (c : Int)) (by omega) (by omega), e2]
    have em : Int.tmod (((h ^^^ c : Nat) : Int) * 16777619) 4294967296 = (((h ^^^ c) * 16777619 % 4294967296 : Nat) : Int) := by
      rw [Int.tmod_eq_emod_of_nonneg (by omega)]; omega
    have em2 : (((h ^^^ c : Nat) : Int) * 16777619) % 4294967296 = (((h ^^^ c) * 16777619 % 4294967296 : Nat) : Int) := by omega
    rw [em, em2]
    have := ih k (i + 1) ((h ^^^ c) * 16777619 % 4294967296) (by omega) (by omega) (by omega)
    simpa using this

theorem FnExactSum32 : laws_FnExactSum32.Pure := by
  intro xs _ hlen hwf
  have hn : xs.length ≤ 140737488351232 := by omega
  have hb : ∀ x ∈ xs, 0 ≤ x ∧ x < 256 := by
    intro x hx
    have := hwf x hx
    simp [Lit.wf, IntKind.min, IntKind.max, IntKind.bits, IntKind.signed] at this
    omega
  refine ⟨xs.length + 1, ?_⟩
  unfold laws_FnExactSum32.f
  by_cases h : (xs.length : Int) > 1048576
  · rw [if_pos h]
  · rw [if_neg h, toByteS_all xs hn _ (by omega)]
    simp only [Option.bind_some]
    obtain ⟨r, hr, h1, h2⟩ := sum_loop xs hn hb xs.length (xs.length + 1) 0 2166136261 (by omega) (by omega) (by omega)
    have h1' : spec_Sum32.f (xs.length + 1) xs = some (r : Int) := by
      unfold spec_Sum32.f; rw [if_neg h]; exact h1
    have h2' : impl_Sum32.f (xs.length + 1) xs = some (r : Int) := by
      unfold impl_Sum32.f impl_sumOn.f
      rw [if_neg h]
      have h2'' := h2
      rw [show ((0 : Nat) : Int) = 0 from rfl, show ((2166136261 : Nat) : Int) = 2166136261 from rfl] at h2''
      rw [h2'']
      simp only [Option.bind_some]
      rw [wrap_small (by omega) (by omega)]
    rw [h1', h2']
    simp only [Option.bind_some]
    rw [if_pos trivial, eqByteS_all xs hn _ (by omega)]
    simp

end Go.Proofs.Ytlfbhelaehdemaa.Pure
