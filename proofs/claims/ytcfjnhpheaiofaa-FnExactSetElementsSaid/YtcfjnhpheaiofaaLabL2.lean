/- Bits of whole numbers, plainly. No condition. -/
import Derived.Test.YtcfjnhpheaiofaaLabL1
import Derived.Laws.BitsLemmas
import Derived.Laws.Bits64
set_option linter.unusedVariables false
set_option linter.unusedSimpArgs false
namespace Go.AM

theorem wrap_u8_id {n : Int} (h0 : 0 ≤ n) (h1 : n ≤ 255) : IntKind.wrap .u8 n = n := by rw [IntKind.wrap_u8]; omega
theorem wrap_u64_id {n : Int} (h0 : 0 ≤ n) (h1 : n ≤ 18446744073709551615) : IntKind.wrap .u64 n = n := by rw [IntKind.wrap_u64]; omega

theorem toNat_ofInt {w n : Nat} (h : n < 2 ^ w) : (BitVec.ofInt w (n : Int)).toNat = n := by
  rw [BitVec.toNat_ofInt]
  have : ((n : Int) % ((2 ^ w : Nat) : Int)).toNat = n % 2 ^ w := by
    rw [← Int.natCast_emod, Int.toNat_natCast]
  rw [this, Nat.mod_eq_of_lt h]

/-- The lowest seven bits. -/
theorem and127_u8 {c : Int} (h0 : 0 ≤ c) (h1 : c ≤ 255) : andI .u8 c 127 = c % 128 := by
  obtain ⟨n, rfl⟩ := Int.eq_ofNat_of_zero_le h0
  have e1 : (BitVec.ofInt 8 (n : Int)).toNat = n := toNat_ofInt (by omega)
  have e2 : (BitVec.ofInt 8 (127 : Int)).toNat = 127 := toNat_ofInt (n := 127) (by omega)
  have e : (BitVec.ofInt 8 (n : Int) &&& BitVec.ofInt 8 127).toNat = n % 128 := by
    rw [BitVec.toNat_and, e1, e2]
    exact Nat.and_two_pow_sub_one_eq_mod n 7
  unfold andI
  rw [show IntKind.bits .u8 = 8 from rfl, e, wrap_u8_id (by omega) (by omega)]
  omega
theorem and127_i64 {c : Int} (h0 : 0 ≤ c) (h1 : c ≤ 9223372036854775807) : andI .i64 c 127 = c % 128 := by
  obtain ⟨n, rfl⟩ := Int.eq_ofNat_of_zero_le h0
  have e1 : (BitVec.ofInt 64 (n : Int)).toNat = n := toNat_ofInt (by omega)
  have e2 : (BitVec.ofInt 64 (127 : Int)).toNat = 127 := toNat_ofInt (n := 127) (by omega)
  have e : (BitVec.ofInt 64 (n : Int) &&& BitVec.ofInt 64 127).toNat = n % 128 := by
    rw [BitVec.toNat_and, e1, e2]
    exact Nat.and_two_pow_sub_one_eq_mod n 7
  unfold andI
  rw [show IntKind.bits .i64 = 64 from rfl, e, w64_eq, w64_id (by omega) (by omega)]
  omega
/-- What stands above beside what stands below. -/
theorem or_add {w v y i : Nat} (hv : v < 2 ^ i) (hy : y * 2 ^ i + v < 2 ^ w) : (BitVec.ofInt w (v : Int) ||| BitVec.ofInt w ((y * 2 ^ i : Nat) : Int)).toNat = v + y * 2 ^ i := by
  rw [BitVec.toNat_or, toNat_ofInt (by omega), toNat_ofInt (by omega), Nat.or_comm, Nat.mul_comm, ← Nat.two_pow_add_eq_or_of_lt hv]
  omega
theorem or128_u8 {c : Int} (h0 : 0 ≤ c) (h1 : c ≤ 127) : orI .u8 c 128 = c + 128 := by
  obtain ⟨n, rfl⟩ := Int.eq_ofNat_of_zero_le h0
  have e := or_add (w := 8) (v := n) (y := 1) (i := 7) (by omega) (by omega)
  unfold orI
  rw [show IntKind.bits .u8 = 8 from rfl, show (128 : Int) = ((1 * 2 ^ 7 : Nat) : Int) from rfl, e, wrap_u8_id (by omega) (by omega)]
  omega
theorem or_u64 {v y i : Nat} (hv : v < 2 ^ i) (hy : y * 2 ^ i + v < 18446744073709551616) : orI .u64 (v : Int) ((y * 2 ^ i : Nat) : Int) = ((v + y * 2 ^ i : Nat) : Int) := by
  unfold orI
  rw [show IntKind.bits .u64 = 64 from rfl, or_add hv (by omega), wrap_u64_id (by omega) (by omega)]
theorem shl_u64 {y i : Nat} (hi : i ≤ 64) (hy : y * 2 ^ i < 18446744073709551616) : shl? .u64 (y : Int) (i : Int) = some ((y * 2 ^ i : Nat) : Int) := by
  unfold shl?
  have hb : IntKind.bits .u64 = 64 := rfl
  rw [if_pos (by omega), Int.toNat_natCast, hb, Nat.min_eq_left hi]
  have : ((y : Int) * 2 ^ i) = ((y * 2 ^ i : Nat) : Int) := by
    rw [Int.natCast_mul, Int.natCast_pow]; rfl
  rw [this, wrap_u64_id (by omega) (by omega)]
theorem shr7 {v : Int} (h : 0 ≤ v) : shr? .i64 v 7 = some (v / 128) := by
  unfold shr?
  have hb : IntKind.bits .i64 = 64 := rfl
  rw [if_pos (by omega), hb, show min (Int.toNat 7) 64 = 7 from rfl, Int.fdiv_eq_ediv_of_nonneg _ (by omega)]
  rfl
end Go.AM
