/- Plain operations on lists, and the rules of own lists. No condition. -/
import Derived.Test.YtogokiglmhnjkaaLabD2
set_option linter.unusedVariables false
set_option linter.unusedSimpArgs false
namespace Go.AM
open Pic (enc dec dec_enc dec_sub)
open PicA (encA decA decA_encA decA_sub)

/-- A new list of n equal elements. -/
def mkL {α : Type} (l : Int) (y : Int) (c : Int) (zero : α) : Option (List α) := if 0 ≤ l ∧ l ≤ c ∧ c * y ≤ 281474976710656 ∧ c ≤ 9223372036854775807 then some (List.replicate l.toNat zero) else none

/-- A list with more behind it. -/
def app? {α : Type} (y : Nat) (xs ys : List α) : Option (List α) := if ys.length = 0 ∨ (xs.length + ys.length) * y ≤ 140737488355328 then some (xs ++ ys) else none

theorem mkL_some {α : Type} {l y c : Int} {zero : α} {v : List α} (h : mkL l y c zero = some v) : (0 ≤ l ∧ l ≤ c ∧ c * y ≤ 281474976710656 ∧ c ≤ 9223372036854775807) ∧ v = List.replicate l.toNat zero ∧ v.length = l.toNat := by
  unfold mkL at h
  split at h
  · cases h; exact ⟨by assumption, rfl, by simp⟩
  · cases h
theorem app_some {α : Type} {y : Nat} {xs ys v : List α} (h : app? y xs ys = some v) : (ys.length = 0 ∨ (xs.length + ys.length) * y ≤ 140737488355328) ∧ v = xs ++ ys ∧ v.length = xs.length + ys.length := by
  unfold app? at h
  split at h
  · cases h; exact ⟨by assumption, rfl, by simp⟩
  · cases h

/-- The pictures' cells, one behind the other. -/
def pics {α : Type} [Pic α] (xs : List α) : List I := xs.flatMap fun x => (enc x).cells

theorem ag_int : Pic.ag Int = false := rfl
theorem ag_u8 : Pic.ag U8 = false := rfl
theorem ag_bool : Pic.ag Bool = false := rfl
theorem ag_str : Pic.ag ByteArray = false := rfl

/-- Cells are of one cell each. -/
class OneC (α : Type) [Pic α] : Prop where
  ones : ∀ x : α, (cellsV x).all V.one = true
/-- Cells are scalars. -/
class FlatC (α : Type) [Pic α] : Prop where
  flats : ∀ x : α, (enc x).cells.all flat = true
instance : OneC Int := ⟨fun _ => rfl⟩
instance : OneC U8 := ⟨fun _ => rfl⟩
instance : OneC Bool := ⟨fun _ => rfl⟩
instance : OneC ByteArray := ⟨fun _ => rfl⟩
instance {α : Type} [Pic α] : OneC (List α) := ⟨fun _ => rfl⟩
instance : FlatC Int := ⟨fun _ => rfl⟩
instance : FlatC U8 := ⟨fun _ => rfl⟩
instance : FlatC Bool := ⟨fun _ => rfl⟩
instance : FlatC ByteArray := ⟨fun _ => rfl⟩
instance : OneC TStamp := ⟨fun _ => rfl⟩
instance : OneC TVec := ⟨fun _ => rfl⟩
instance : OneC TReg := ⟨fun _ => rfl⟩
instance : OneC TEntry := ⟨fun _ => rfl⟩
instance : OneC TMulti := ⟨fun _ => rfl⟩
instance : OneC TCounter := ⟨fun _ => rfl⟩
instance : OneC TLOp := ⟨fun _ => rfl⟩
instance : OneC TMark := ⟨fun _ => rfl⟩
instance : OneC TMove := ⟨fun _ => rfl⟩
instance : OneC TNode := ⟨fun _ => rfl⟩
instance : OneC TOp := ⟨fun _ => rfl⟩
instance : OneC TCell := ⟨fun _ => rfl⟩
instance : OneC TSketch := ⟨fun _ => rfl⟩
instance : OneC TStep := ⟨fun _ => rfl⟩
instance : OneC TPair := ⟨fun _ => rfl⟩
instance : OneC TSpan := ⟨fun _ => rfl⟩
instance : OneC TLCell := ⟨fun _ => rfl⟩
instance : FlatC TStamp := ⟨fun _ => rfl⟩
instance : FlatC TReg := ⟨fun _ => rfl⟩
instance : FlatC TEntry := ⟨fun _ => rfl⟩
instance : FlatC TLOp := ⟨fun _ => rfl⟩
instance : FlatC TMark := ⟨fun _ => rfl⟩
instance : FlatC TMove := ⟨fun _ => rfl⟩
instance : FlatC TNode := ⟨fun _ => rfl⟩
instance : FlatC TCell := ⟨fun _ => rfl⟩
instance : FlatC TStep := ⟨fun _ => rfl⟩
instance : FlatC TPair := ⟨fun _ => rfl⟩
instance : FlatC TLCell := ⟨fun _ => rfl⟩

section
variable {α β : Type} [Pic α] [Pic β] {h : Heap} {xs ys : List α} {x y : α} {n : Nat}

theorem gc_ge {l : Heap} {b g : Nat} (hb : h.length ≤ b) : getCells (h ++ l) b g = getCells l (b - h.length) g := by
  unfold getCells; rw [List.getElem?_append_right hb]
theorem set_ge {l : Heap} {b : Nat} {s : Slot} (hb : h.length ≤ b) : (h ++ l).set b s = h ++ l.set (b - h.length) s := List.set_append_right _ _ hb
theorem take_rows (hn : (rows xs).length ≤ n) : (rows xs).take n = rows xs := List.take_of_length_le hn
theorem mkRows_eq {z : Nat} {ag : Bool} {m : Nat} (hz : z = Pic.z α) (ha : ag = Pic.ag α) (hm : m = xs.length) : mkRows z ag m (pics xs) = some (.sl z (xs.map enc)) := by
  subst hz ha hm; exact mkRows_rows
theorem ite_sl {c : Prop} [Decidable c] {z : Nat} (hc : c → xs.length = 0) : (if c then some (I.sl z []) else some (I.sl z (xs.map enc))) = some (I.sl z (xs.map enc)) := by
  split
  · rename_i h
    have := List.eq_nil_of_length_eq_zero (hc h)
    subst this; rfl
  · rfl
theorem rows_rep {k : Nat} {zs : List V} (hz : cellsV x = zs) : (List.replicate k zs).flatten = rows (List.replicate k x) := by
  subst hz
  unfold rows
  rw [List.flatMap_replicate]
theorem dec_slz {z : Nat} (hz : z = Pic.z α) : (dec (.sl z (xs.map enc)) : Option (List α)) = some xs := by subst hz; exact dec_enc xs
theorem cellsV_int {n : Int} : cellsV n = [.i (iN n)] := rfl
theorem cellsV_bool {n : Bool} : cellsV n = [.i (iB n)] := rfl
theorem cellsV_str {n : ByteArray} : cellsV n = [.i (iS n)] := rfl
theorem cellsV_u8 {n : U8} : cellsV n = [.i (.s (.int .u8 n.v))] := rfl
theorem cellsV_list {l : List α} : cellsV l = [.i (.sl (Pic.z α) (l.map enc))] := rfl
theorem ones_rows [OneC α] : (rows xs).all V.one = true := by
  unfold rows
  rw [List.all_flatMap]
  exact List.all_eq_true.2 fun x _ => OneC.ones x
theorem snapA_rowsF {f : Bool} [FlatC α] : ∀ {xs : List α}, snapA (n + 1) f h (rows xs) = some (pics xs)
  | [] => by rw [rows_nil, snapA_nil]; rfl
  | x :: xs => by
    rw [rows_cons, snapA_append, snapA_rowsF (xs := xs)]
    have : ∀ (l : List I), l.all flat = true → snapA (n + 1) f h (l.map .i) = some l := by
      intro l
      induction l with
      | nil => intro _; rfl
      | cons a l ih =>
        intro ha
        simp only [List.all_cons, Bool.and_eq_true] at ha
        rw [List.map_cons, snapA_cons, ih ha.2]
        simp [snap, ha.1]
    rw [show cellsV x = (enc x).cells.map .i from rfl, this _ (FlatC.flats x)]
    rfl
theorem snapA_rowsN {xs : List α} : snapA (n + 1) false h (rows xs) = some (pics xs) := snapA_rows rfl
theorem snapA_rows' {f : Bool} (hf : f = false) {xs : List α} : snapA (n + 1) f h (rows xs) = some (xs.flatMap fun x => (enc x).cells) := snapA_rows hf
end

/-- What a return must leave. -/
def RJ {β : Type} [Pic β] (res : List ARes) (fresh : Bool) (b : β) (t : Nat → V) (h : Heap) : Prop := ∃ v, retV ⟨t, h⟩ res = some v ∧ Tells fresh b v h
theorem retK_RJ {β : Type} [Pic β] {res : List ARes} {fresh : Bool} {b : β} {t : Nat → V} {h : Heap} : @retK res ⟨Tells fresh b⟩ .ret t h = RJ res fresh b t h := rfl
theorem RJ_eq {β : Type} [Pic β] {res : List ARes} {fresh : Bool} {b : β} {t : Nat → V} {h : Heap} : RJ res fresh b t h = @WO _ (retV ⟨t, h⟩ res) ⟨fun v => Tells fresh b v h⟩ := rfl
theorem zs : type_of% ((And.intro (And.intro (And.intro (And.intro (And.intro @z_int @z_bool) (And.intro @z_str (And.intro @z_u8 @ag_int))) (And.intro (And.intro @ag_u8 @ag_bool) (And.intro @ag_str (And.intro @z_TStamp @z_TVec)))) (And.intro (And.intro (And.intro @z_TReg @z_TEntry) (And.intro @z_TMulti (And.intro @z_TCounter @z_TLOp))) (And.intro (And.intro @z_TMark (And.intro @z_TMove @z_TNode)) (And.intro @z_TOp (And.intro @z_TCell @z_TSketch))))) (And.intro (And.intro (And.intro (And.intro @z_TStep @z_TPair) (And.intro @z_TSpan (And.intro @z_TLCell @ag_TStamp))) (And.intro (And.intro @ag_TVec @ag_TReg) (And.intro @ag_TEntry (And.intro @ag_TMulti @ag_TCounter)))) (And.intro (And.intro (And.intro @ag_TLOp @ag_TMark) (And.intro @ag_TMove (And.intro @ag_TNode @ag_TOp))) (And.intro (And.intro @ag_TCell (And.intro @ag_TSketch @ag_TStep)) (And.intro @ag_TPair (And.intro @ag_TSpan @ag_TLCell))))))) := (And.intro (And.intro (And.intro (And.intro (And.intro @z_int @z_bool) (And.intro @z_str (And.intro @z_u8 @ag_int))) (And.intro (And.intro @ag_u8 @ag_bool) (And.intro @ag_str (And.intro @z_TStamp @z_TVec)))) (And.intro (And.intro (And.intro @z_TReg @z_TEntry) (And.intro @z_TMulti (And.intro @z_TCounter @z_TLOp))) (And.intro (And.intro @z_TMark (And.intro @z_TMove @z_TNode)) (And.intro @z_TOp (And.intro @z_TCell @z_TSketch))))) (And.intro (And.intro (And.intro (And.intro @z_TStep @z_TPair) (And.intro @z_TSpan (And.intro @z_TLCell @ag_TStamp))) (And.intro (And.intro @ag_TVec @ag_TReg) (And.intro @ag_TEntry (And.intro @ag_TMulti @ag_TCounter)))) (And.intro (And.intro (And.intro @ag_TLOp @ag_TMark) (And.intro @ag_TMove (And.intro @ag_TNode @ag_TOp))) (And.intro (And.intro @ag_TCell (And.intro @ag_TSketch @ag_TStep)) (And.intro @ag_TPair (And.intro @ag_TSpan @ag_TLCell))))))
end Go.AM
