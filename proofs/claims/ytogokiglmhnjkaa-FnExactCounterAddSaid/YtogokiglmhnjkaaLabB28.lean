/- Rules of the walk over typed data. No condition. -/
import Derived.Test.YtogokiglmhnjkaaLabD1
set_option linter.unusedVariables false
set_option linter.unusedSimpArgs false
namespace Go.AM
open Pic (enc dec dec_enc dec_sub)
open PicA (encA decA decA_encA decA_sub)

/-- An element by its place. -/
def get? {α : Type} (xs : List α) (n : Int) : Option α := if 0 ≤ n then xs[n.toNat]? else none

theorem get_some {α : Type} {xs : List α} {n : Int} {x : α} (h : get? xs n = some x) : 0 ≤ n ∧ n < xs.length ∧ xs[n.toNat]? = some x := by
  unfold get? at h
  split at h
  · rename_i h0
    have := (List.getElem?_eq_some_iff.1 h).1
    exact ⟨h0, by omega, h⟩
  · cases h

theorem get_nat {α : Type} {xs : List α} {n : Nat} : get? xs (n : Int) = xs[n]? := by simp [get?]
theorem get_at {α : Type} {xs : List α} {n : Nat} (h : n < xs.length) : get? xs (n : Int) = some xs[n] := by rw [get_nat]; exact List.getElem?_eq_getElem h
theorem get_out {α : Type} {xs : List α} {n : Int} (h : n < 0 ∨ (xs.length : Int) ≤ n) : get? xs n = none := by
  unfold get?
  split
  · exact List.getElem?_eq_none (by omega)
  · rfl

/-- A whole number of 64 bits. -/
def w64 (n : Int) : Int := IntKind.i64.wrap n
theorem w64_eq {n : Int} : IntKind.i64.wrap n = w64 n := rfl
theorem w64_id {n : Int} (h0 : -9223372036854775808 ≤ n) (h1 : n ≤ 9223372036854775807) : w64 n = n := wrap_s h0 (by omega)

section
variable {h : Heap} {n : Nat}
theorem isNil_nil : isNil (.i (.s (.slice none 0 0))) = true := rfl
theorem isNil_int {k : IntKind} {n : Int} : isNil (.i (.s (.int k n))) = false := rfl
theorem isNil_bool {b : Bool} : isNil (.i (.s (.bool b))) = false := rfl
theorem isNil_str {s : ByteArray} : isNil (.i (.s (.string s))) = false := rfl
theorem isNil_sl {z : Nat} {xs : List I} : isNil (.i (.sl z xs)) = false := rfl
theorem isNil_ip {xs : List I} : isNil (.i (.ip xs)) = false := rfl
theorem isNil_im {ks xs : List I} : isNil (.i (.im ks xs)) = false := rfl
theorem isNil_hsl {b g o z len : Nat} {ag : Bool} : isNil (.hsl b g o z ag len) = false := rfl
theorem isNil_ptr {b g o : Nat} : isNil (.ptr b g o) = false := rfl
theorem isNil_mp {b : Nat} : isNil (.mp b) = false := rfl
theorem isNil_clo {f : Nat} {cs : List V} : isNil (.clo f cs) = false := rfl
theorem isNilV_nil : isNilV (.slice none 0 0) = true := rfl
theorem isNilV_int {k : IntKind} {n : Int} : isNilV (.int k n) = false := rfl
theorem isNilV_bool {b : Bool} : isNilV (.bool b) = false := rfl
theorem isNilV_str {s : ByteArray} : isNilV (.string s) = false := rfl
theorem isNilV_ptr {a : Option Addr} : isNilV (.pointer a) = false := rfl
theorem isNilV_map {a : Option Nat} : isNilV (.map a) = false := rfl

variable {α β : Type} [Pic α] [Pic β] {xs : List α} {x : α}
/-- An element of a list that is read alone. -/
theorem idx_pic {z : Nat} {n : Int} : stepIdxS z h n (.i (.sl z (xs.map enc))) = (get? xs n).map fun x => .i (.ip (enc x).cells) := by
  rw [idx_sl]
  unfold get?
  split
  · rw [List.getElem?_map, Option.map_map]; rfl
  · rfl
theorem scals_nil : ([] : List V).mapM scal = some [] := rfl
theorem scals_cons {v : Value} {cs : List V} : (V.i (.s v) :: cs).mapM scal = (cs.mapM scal).map (v :: ·) := by
  rw [List.mapM_cons]
  show (some v >>= fun y => _) = _
  simp only [Option.bind_eq_bind, Option.bind_some]
  cases cs.mapM scal <;> rfl
theorem scalsV_agg {cs : List V} : scalsV (.agg cs) = cs.mapM scal := rfl
theorem fits_nil : fitsL [] [] = true := rfl
theorem fits_cons {k : SK} {ks : List SK} {v : Value} {vs : List Value} : fitsL (k :: ks) (v :: vs) = (k.fits v && fitsL ks vs) := rfl
theorem fits_int {n : Int} : SK.fits (.int .i64) (.int .i64 n) = true := rfl
theorem fits_str {s : ByteArray} : SK.fits .str (.string s) = true := rfl
theorem fits_bool {b : Bool} : SK.fits .bool (.bool b) = true := rfl

/-- The length of a list, own or not. -/
theorem lenS_pic {z : Nat} : lenS (.i (.sl z (xs.map enc))) = some xs.length := by simp [lenS]

theorem fillT_nil {t : Nat → V} {cs : List V} : fillT t cs [] = some cs := rfl
theorem fillT_cons {t : Nat → V} {cs : List V} {off size : Nat} {x : Operand} {rest : List (Nat × Nat × Operand)} : fillT t cs ((off, size, x) :: rest) = if (ev t x).cells.all V.one = true ∧ (ev t x).cells.length = size ∧ off + size ≤ cs.length then fillT t (splice cs off (ev t x).cells) rest else none := rfl

/-- Typed functions on pictures. -/
theorem FA_def {γ : Type} [PicA γ] {g : γ → Option β} {is : List I} : FA g is = (decA is).bind fun a => (g a).map enc := rfl
theorem decA_one {i : I} : (decA [i] : Option α) = dec i := rfl
theorem decA_two {γ : Type} [PicA γ] {i j : I} {is : List I} : (decA (i :: j :: is) : Option (α × γ)) = (dec i).bind fun a => (decA (j :: is)).map fun b => (a, b) := rfl
theorem dec_int {n : Int} : (dec (.s (.int .i64 n)) : Option Int) = some n := rfl
theorem dec_bool {n : Bool} : (dec (.s (.bool n)) : Option Bool) = some n := rfl
theorem dec_str {n : ByteArray} : (dec (.s (.string n)) : Option ByteArray) = some n := rfl
theorem dec_u8 {n : Int} : (dec (.s (.int .u8 n)) : Option U8) = some ⟨n⟩ := rfl
theorem dec_sl : (dec (.sl (Pic.z α) (xs.map enc)) : Option (List α)) = some xs := dec_enc xs
theorem dec_sl1 {z : Nat} (hz : z = Pic.z α) : (dec (.sl z (xs.map enc)) : Option (List α)) = some xs := by subst hz; exact dec_enc xs
theorem dec_nil : (dec (.s (.slice none 0 0)) : Option (List α)) = some [] := rfl
theorem dec_sl0 {z : Nat} : (dec (.sl z []) : Option (List α)) = some [] := by
  show decSl (.sl z []) = _
  simp [decSl, decL]
end

theorem bind_eq {α β : Type} {o : Option α} {f : α → Option β} {r : β} (h : o.bind f = some r) : ∃ x, o = some x ∧ f x = some r := Option.bind_eq_some_iff.1 h
end Go.AM
