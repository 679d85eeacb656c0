/- Typed contracts of functions that change nothing. No condition. -/
import Derived.Test.YtogokiglmhnjkaaLabB24
import Derived.Laws.BitsLemmas
set_option linter.unusedVariables false
set_option linter.unusedSimpArgs false
namespace Go.AM

/-- Types that have a picture. -/
class Pic (α : Type) where
  z : Nat
  ag : Bool
  enc : α → I
  dec : I → Option α
  dec_enc : ∀ a, dec (enc a) = some a
  dec_sub : ∀ x a, dec x = some a → Sub x (enc a)
  len : ∀ a, (enc a).cells.length = z
  pos : 0 < z
  one : ag = true ∨ z = 1
  row : ∀ a, if ag then enc a = .agg (enc a).cells else (enc a).cells = [enc a]
open Pic (enc dec dec_enc dec_sub)

def decInt : I → Option Int
  | .s (.int .i64 n) => some n
  | _ => none
def decBool : I → Option Bool
  | .s (.bool b) => some b
  | _ => none
def decStr : I → Option ByteArray
  | .s (.string s) => some s
  | _ => none

instance : Pic Int where
  z := 1
  ag := false
  len _ := rfl
  pos := by decide
  one := .inr rfl
  row _ := rfl
  enc n := iN n
  dec := decInt
  dec_enc _ := rfl
  dec_sub x a h := by
    unfold decInt at h
    split at h <;> cases h
    exact .refl _
instance : Pic Bool where
  z := 1
  ag := false
  len _ := rfl
  pos := by decide
  one := .inr rfl
  row _ := rfl
  enc n := iB n
  dec := decBool
  dec_enc _ := rfl
  dec_sub x a h := by
    unfold decBool at h
    split at h <;> cases h
    exact .refl _
instance : Pic ByteArray where
  z := 1
  ag := false
  len _ := rfl
  pos := by decide
  one := .inr rfl
  row _ := rfl
  enc n := iS n
  dec := decStr
  dec_enc _ := rfl
  dec_sub x a h := by
    unfold decStr at h
    split at h <;> cases h
    exact .refl _

def decL {α : Type} [Pic α] : List I → Option (List α)
  | [] => some []
  | x :: xs => (dec x).bind fun a => (decL xs).map fun l => a :: l

theorem decL_enc {α : Type} [Pic α] : ∀ (l : List α), decL (l.map enc) = some l
  | [] => rfl
  | a :: l => by simp [decL, dec_enc, decL_enc l]

theorem decL_sub {α : Type} [Pic α] : ∀ (xs : List I) (l : List α), decL xs = some l → SubL xs (l.map enc)
  | [], l, h => by simp [decL] at h; subst h; exact .nil
  | x :: xs, l, h => by
    simp only [decL] at h
    obtain ⟨a, h1, h⟩ := Option.bind_eq_some_iff.1 h
    obtain ⟨l', h2, rfl⟩ := Option.map_eq_some_iff.1 h
    exact .cons (dec_sub x a h1) (decL_sub xs l' h2)

def decSl {α : Type} [Pic α] : I → Option (List α)
  | .sl z xs => if z = Pic.z α ∨ xs = [] then decL xs else none
  | .s (.slice none 0 0) => some []
  | _ => none

instance {α : Type} [Pic α] : Pic (List α) where
  z := 1
  ag := false
  len _ := rfl
  pos := by decide
  one := .inr rfl
  row _ := rfl
  enc l := .sl (Pic.z α) (l.map enc)
  dec := decSl
  dec_enc l := by simp [decSl, decL_enc]
  dec_sub x l h := by
    unfold decSl at h
    split at h
    · split at h
      · rename_i hz
        rcases hz with rfl | rfl
        · exact .sl (decL_sub _ l h)
        · simp [decL] at h
          subst h
          exact .empty _ _
      · cases h
    · cases h
      exact .nil _
    · cases h

/-- A byte. -/
structure U8 where
  v : Int
  deriving DecidableEq
def decU8 : I → Option U8
  | .s (.int .u8 n) => some ⟨n⟩
  | _ => none
instance : Pic U8 where
  z := 1
  ag := false
  len _ := rfl
  pos := by decide
  one := .inr rfl
  row _ := rfl
  enc u := .s (.int .u8 u.v)
  dec := decU8
  dec_enc _ := rfl
  dec_sub x a h := by
    unfold decU8 at h
    split at h <;> cases h
    exact .refl _
theorem enc_u8 {u : U8} : enc u = .s (.int .u8 u.v) := rfl
theorem z_u8 : Pic.z U8 = 1 := rfl

class PicA (α : Type) where
  encA : α → List I
  decA : List I → Option α
  decA_encA : ∀ a, decA (encA a) = some a
  decA_sub : ∀ xs a, decA xs = some a → SubL xs (encA a)
open PicA (encA decA decA_encA decA_sub)

def dec1 {α : Type} [Pic α] : List I → Option α
  | [x] => dec x
  | _ => none
instance {α : Type} [Pic α] : PicA α where
  encA a := [enc a]
  decA := dec1
  decA_encA a := by simp [dec1, dec_enc]
  decA_sub xs a h := by
    unfold dec1 at h
    split at h
    · exact .cons (dec_sub _ _ h) .nil
    · cases h
def dec2 {α β : Type} [Pic α] [PicA β] : List I → Option (α × β)
  | x :: xs => (dec x).bind fun a => (decA xs).map fun b => (a, b)
  | _ => none
instance {α β : Type} [Pic α] [PicA β] : PicA (α × β) where
  encA p := enc p.1 :: encA p.2
  decA := dec2
  decA_encA a := by simp [dec2, dec_enc, decA_encA]
  decA_sub xs a h := by
    unfold dec2 at h
    split at h
    · obtain ⟨p, h1, h⟩ := Option.bind_eq_some_iff.1 h
      obtain ⟨q, h2, rfl⟩ := Option.map_eq_some_iff.1 h
      exact .cons (dec_sub _ _ h1) (decA_sub _ _ h2)
    · cases h

/-- A typed function, on pictures. -/
def FA {α β : Type} [PicA α] [Pic β] (g : α → Option β) : List I → Option I := fun xs => (decA xs).bind fun a => (g a).map enc

/-- What comes back shows that picture. -/
def Shows (fresh : Bool) (r : I) (v : V) (H : Heap) : Prop := ∃ r', snap 9 fresh H v = some r' ∧ Sub r' r

theorem pure_typed {P : Program} {env : Env} {pur : Nat → Bool} {md : Modes} {f : FuncId} {fresh : Bool} {A : AFn} {α β : Type} [PicA α] [Pic β] {g : α → Option β} (hE : EnvOK P env) (hpur : ∀ f, pur f = true → PurEnv env f) (hcall : callable P f = true) (hc : compFn P pur md f = some A)
    (h : ∀ a b, g a = some b → R P env A ((encA a).map ofI) [] (Shows fresh (enc b))) : PureOK P f fresh (FA g) := by
  classical
  refine ⟨hcall, ?_⟩
  intro args r hF Y w xs hY hl
  obtain ⟨a, h1, hF⟩ := Option.bind_eq_some_iff.1 hF
  obtain ⟨b, h2, rfl⟩ := Option.map_eq_some_iff.1 hF
  obtain ⟨⟨v, H'⟩, h3, r', h4, h5⟩ := h a b h2
  simp only at h4
  have hone : PureOK P f fresh (fun ys => if ys = encA a then some r' else none) := by
    refine pure_of_fn hE hpur hcall hc ?_
    intro ys q hq
    split at hq
    · rename_i e
      subst e
      cases hq
      exact ⟨v, H', h3, h4⟩
    · cases hq
  refine (hone.2 (encA a) r' (if_pos rfl) Y w xs hY (RL.sub (decA_sub _ _ h1) hl)).mono ?_
  rintro e w' ⟨x, rfl, hB, hr⟩
  exact ⟨x, rfl, hB, RI.sub h5 hr⟩

theorem icells_s {x : Value} : I.cells (.s x) = [.s x] := rfl
theorem icells_agg {cs : List I} : I.cells (.agg cs) = cs := rfl
theorem icells_sl {z : Nat} {cs : List I} : I.cells (.sl z cs) = [.sl z cs] := rfl
theorem icells_ip {cs : List I} : I.cells (.ip cs) = [.ip cs] := rfl
theorem icells_im {ks cs : List I} : I.cells (.im ks cs) = [.im ks cs] := rfl
theorem z_int : Pic.z Int = 1 := rfl
theorem z_bool : Pic.z Bool = 1 := rfl
theorem z_str : Pic.z ByteArray = 1 := rfl
theorem z_list {α : Type} [Pic α] : Pic.z (List α) = 1 := rfl
theorem enc_int {n : Int} : enc n = iN n := rfl
theorem enc_bool {n : Bool} : enc n = iB n := rfl
theorem enc_str {n : ByteArray} : enc n = iS n := rfl
theorem enc_list {α : Type} [Pic α] {l : List α} : enc l = .sl (Pic.z α) (l.map enc) := rfl
theorem encA_1 {α : Type} [Pic α] {a : α} : encA a = [enc a] := rfl
theorem encA_2 {α β : Type} [Pic α] [PicA β] {p : α × β} : encA p = enc p.1 :: encA p.2 := rfl
theorem mkRows_one {len : Nat} {xs : List I} : mkRows 1 false len xs = some (.sl 1 xs) := by simp [mkRows]
theorem snapA_map {α : Type} {n : Nat} {f : Bool} {h : Heap} {φ : α → V} {ψ : α → I} (hφ : ∀ a, snap n f h (φ a) = some (ψ a)) : ∀ (l : List α), snapA n f h (l.map φ) = some (l.map ψ)
  | [] => rfl
  | a :: l => by rw [List.map_cons, snapA_cons, hφ, snapA_map hφ l]; rfl
theorem wrap_s {n : Int} (h0 : -9223372036854775808 ≤ n) (h1 : n < 9223372036854775808) : IntKind.i64.wrap n = n := by
  rw [IntKind.wrap_i64]; omega
theorem Shows.of_s {fresh : Bool} {x : Value} {H : Heap} : Shows fresh (.s x) (.i (.s x)) H := ⟨_, snap_s, .refl _⟩
theorem Shows.of_i {x : I} {H : Heap} : Shows false x (.i x) H := ⟨x, snap_i, .refl x⟩

end Go.AM
