/- Calls that hand over or write: cuts of the walk. No condition. -/
import Derived.Test.YtogokiglmhnjkaaLabB31
set_option linter.unusedVariables false
set_option linter.unusedSimpArgs false
namespace Go.AM
open Pic (enc dec dec_enc dec_sub)
open PicA (encA decA decA_encA decA_sub)

/-- Blocks outside B are as they were. -/
structure Keep (B : List Nat) (h h' : Heap) : Prop where
  len : h.length ≤ h'.length
  at_ : ∀ b, b < h.length → b ∉ B → h'[b]? = h[b]?

section
variable {B : List Nat} {h h' h1 : Heap} {b g : Nat}
theorem keep_refl : Keep B h h := ⟨Nat.le_refl _, fun _ _ _ => rfl⟩
theorem keep_set {s : Slot} (hb : b ∈ B ∨ h.length ≤ b) (hk : Keep B h h1) : Keep B h (h1.set b s) := by
  refine ⟨by rw [List.length_set]; exact hk.len, fun c hc hn => ?_⟩
  rw [List.getElem?_set_ne]
  · exact hk.at_ c hc hn
  · rintro rfl
    rcases hb with hb | hb
    · exact hn hb
    · omega
theorem keep_app {l : Heap} (hk : Keep B h h1) : Keep B h (h1 ++ l) := by
  refine ⟨by rw [List.length_append]; have := hk.len; omega, fun c hc hn => ?_⟩
  rw [List.getElem?_append_left (by have := hk.len; omega)]
  exact hk.at_ c hc hn
theorem keep_trans {C : List Nat} (hk : Keep B h h1) (hk' : Keep C h1 h') (hc : ∀ b, b ∈ C → b ∈ B ∨ h.length ≤ b) : Keep B h h' := by
  refine ⟨Nat.le_trans hk.len hk'.len, fun c hlt hn => ?_⟩
  rw [hk'.at_ c (Nat.lt_of_lt_of_le hlt hk.len) (fun hm => (hc c hm).elim hn (by omega))]
  exact hk.at_ c hlt hn
theorem keep_get (hk : Keep B h h') (hlt : b < h.length) (hb : b ∉ B) : getCells h' b g = getCells h b g := getCells_congr (hk.at_ b hlt hb)
theorem keep_lt (hk : Keep B h h') (hlt : b < h.length) : b < h'.length := Nat.lt_of_lt_of_le hlt hk.len
end

theorem T2_a {α β : Type} {a : α} {b : β} : (T2.mk a b).a = a := rfl
theorem T2_b {α β : Type} {a : α} {b : β} : (T2.mk a b).b = b := rfl

section
variable {h : Heap} {b g off z z' y len n : Nat} {ag ag' : Bool} {ys : List V} {α : Type} [Pic α] {xs : List α}
theorem src_hsl : srcCells h (.hsl b g off z ag len) = (getCells h b g).map fun cs => (cs.drop off).take (len * z) := rfl
theorem lenV_hsl : lenV (.hsl b g off z ag len) = some len := rfl
theorem lenV_pic : lenV (.i (.sl z (xs.map enc))) = some xs.length := by simp [lenV]
theorem app_hsl : stepAppend none z ag y h ys n (.hsl b g off z' ag' len) = if (z' = z ∨ z' = 0) ∧ off = 0 then (getCells h b g).bind fun cs =>
      if n = 0 then some (.hsl b g 0 z ag len, h)
      else if (len + n) * y ≤ 140737488355328 then
        if len * z = g then some (.hsl b (g + n * z) 0 z ag (len + n), h.set b (.cells (cs ++ ys)))
        else (newSlot none (h.set b .dead) (.cells (cs.take (len * z) ++ ys))).map fun p => (.hsl p.1 ((len + n) * z) 0 z ag (len + n), p.2)
      else none
    else none := rfl
theorem app_nil : stepAppend none z ag y h ys n (.i (.s (.slice none 0 0))) = if n = 0 then some (.i (.s (.slice none 0 0)), h)
    else if n * y ≤ 140737488355328 then some (.hsl h.length (n * z) 0 z ag n, h ++ [.cells ys]) else none := by
  simp only [stepAppend]
  split
  · rfl
  · split
    · rfl
    · rfl
end

/-- A return, whatever is asked of it. -/
def RK {β : Type} (res : List ARes) (K : β → V → Heap → Prop) (b : β) (t : Nat → V) (h : Heap) : Prop := ∃ v, retV ⟨t, h⟩ res = some v ∧ K b v h
theorem retK_RK {β : Type} {res : List ARes} {K : β → V → Heap → Prop} {b : β} {t : Nat → V} {h : Heap} : @retK res ⟨K b⟩ .ret t h = RK res K b t h := rfl
theorem RK_eq {β : Type} {res : List ARes} {K : β → V → Heap → Prop} {b : β} {t : Nat → V} {h : Heap} : RK res K b t h = @WO _ (retV ⟨t, h⟩ res) ⟨fun v => K b v h⟩ := rfl

/-- A call by its contract, with what is known of the heap. -/
theorem call_f {G : Fun} {args : List V} {h : Heap} {K : V × Heap → Prop} (F : Heap → Prop) (Post : Heap → V → Heap → Prop) (hF : F h)
    (hc : ∀ h, F h → ∃ p, G none args h = some p ∧ Post h p.1 p.2) (hK : ∀ h v h', F h → Post h v h' → K (v, h')) : @WO _ (G none args h) ⟨K⟩ := by
  obtain ⟨⟨v, h'⟩, h1, h2⟩ := hc h hF
  exact ⟨(v, h'), h1, hK h v h' hF h2⟩

section
variable {α : Type} [Pic α] {P : Program} {env : Env} {A : AFn} {h H2 : Heap} {xs : List α}

theorem len_rows {b g : Nat} (hc : getCells h b g = some (rows xs)) : g = xs.length * Pic.z α := by rw [← rows_len]; exact (getCells_len hc).symm
theorem good_rows [FlatC α] : (rows xs).all V.good = true := by
  rw [rows_eq]
  refine all_good_i ?_
  rw [List.all_flatMap]
  exact List.all_eq_true.2 fun x _ => FlatC.flats x
theorem shift_rows [FlatC α] {n : Nat} : (rows xs).map (V.shift n) = rows xs := by
  rw [rows_eq, List.map_map]
  rfl
/-- What was made lies behind the caller's heap as it lay. -/
theorem moved_rows [FlatC α] {b g : Nat} (hc : getCells H2 b g = some (rows xs)) : getCells (h ++ H2.map (Slot.move h.length)) (b + h.length) g = some (rows xs) := by
  unfold getCells at hc ⊢
  rw [moved_at rfl]
  cases hb : H2[b]? with
  | none => rw [hb] at hc; cases hc
  | some s =>
    rw [hb] at hc
    cases s with
    | cells ds =>
      simp only at hc
      split at hc
      · rename_i hl
        cases hc
        simp only [Option.map_some, Slot.move, good_rows, if_true, shift_rows]
        rw [if_pos hl]
      · cases hc
    | virt =>
      simp only at hc
      split at hc
      · rename_i hl
        simp only [Option.map_some, Slot.move, hl, if_true]
        exact hc
      · cases hc
    | _ => cases hc
theorem own_call {as : List I} {args : List V} {v : V} (has : snapA 9 false h args = some as) (hr : runFn P env A (as.map ofI) [] = some (v, H2)) (hh : v.handed = true) :
    ownFn P env A none args h = some (v.shift h.length, h ++ H2.map (Slot.move h.length)) := by
  unfold ownFn
  have has' : args.mapM (snap 9 false h) = some as := has
  rw [has', Option.bind_some, hr, Option.bind_some, if_pos hh]
theorem moved_lt {b g : Nat} {cs : List V} (hc : getCells H2 b g = some cs) : h.length ≤ b + h.length ∧ b + h.length < (h ++ H2.map (Slot.move h.length)).length := by
  have := gc_lt hc
  refine ⟨by omega, ?_⟩
  rw [List.length_append, List.length_map]
  omega
theorem keep_moved : Keep [] h (h ++ H2.map (Slot.move h.length)) := ⟨by simp, fun b hb _ => List.getElem?_append_left hb⟩
end
end Go.AM
