/- Lists of typed data as the cells of blocks and as pictures. No condition. -/
import Derived.Test.YtogokiglmhnjkaaLabB26
set_option linter.unusedVariables false
set_option linter.unusedSimpArgs false
namespace Go.AM
open Pic (enc dec dec_enc dec_sub)

section
variable {α : Type} [Pic α] {xs ys : List α} {x y : α} {n k m : Nat} {h : Heap}

/-- The cells of one. -/
def cellsV (x : α) : List V := (enc x).cells.map .i

def rows (xs : List α) : List V := xs.flatMap cellsV

theorem cellsV_len : (cellsV x).length = Pic.z α := by simp [cellsV, Pic.len]
theorem rows_nil : rows ([] : List α) = [] := rfl
theorem rows_cons : rows (x :: xs) = cellsV x ++ rows xs := rfl
theorem rows_append : rows (xs ++ ys) = rows xs ++ rows ys := List.flatMap_append
theorem rows_one : rows [x] = cellsV x := by simp [rows]
theorem rows_len : ∀ {xs : List α}, (rows xs).length = xs.length * Pic.z α
  | [] => by simp [rows]
  | x :: xs => by rw [rows_cons, List.length_append, cellsV_len, rows_len (xs := xs), List.length_cons, Nat.add_mul]; omega

theorem rows_drop : ∀ (n : Nat) (xs : List α), (rows xs).drop (n * Pic.z α) = rows (xs.drop n)
  | 0, xs => by simp
  | n + 1, [] => by simp [rows]
  | n + 1, x :: xs => by
    rw [rows_cons, Nat.add_mul, Nat.one_mul, Nat.add_comm, ← List.drop_drop, List.drop_left' cellsV_len, rows_drop n xs]
    rfl
theorem rows_take : ∀ (n : Nat) (xs : List α), (rows xs).take (n * Pic.z α) = rows (xs.take n)
  | 0, xs => by simp [rows]
  | n + 1, [] => by simp [rows]
  | n + 1, x :: xs => by
    have hl : (cellsV x).length = Pic.z α := cellsV_len
    rw [rows_cons, List.take_append, List.take_of_length_le (by rw [hl, Nat.add_mul]; omega), hl, show (n + 1) * Pic.z α - Pic.z α = n * Pic.z α from by rw [Nat.add_mul]; omega, rows_take n xs]
    rfl

theorem rows_get (hx : xs[n]? = some x) : ((rows xs).drop (n * Pic.z α)).take (Pic.z α) = cellsV x := by
  rw [rows_drop]
  obtain ⟨hlt, rfl⟩ := List.getElem?_eq_some_iff.1 hx
  rw [List.drop_eq_getElem_cons hlt, rows_cons, List.take_left' cellsV_len]

theorem rows_get_off (hx : xs[n]? = some x) (hkm : k + m ≤ Pic.z α) : ((rows xs).drop (n * Pic.z α + k)).take m = ((cellsV x).drop k).take m := by
  rw [← rows_get hx, ← List.drop_drop, List.drop_take, List.take_take, Nat.min_eq_left (by omega)]

theorem rows_lt (hx : xs[n]? = some x) : n * Pic.z α + Pic.z α ≤ (rows xs).length := by
  have hlt := (List.getElem?_eq_some_iff.1 hx).1
  rw [rows_len]
  have : (n + 1) * Pic.z α ≤ xs.length * Pic.z α := Nat.mul_le_mul_right _ hlt
  rw [Nat.add_mul] at this
  omega

theorem rows_set_off {ys : List V} (hx : xs[n]? = some x) (hk : k + ys.length ≤ Pic.z α) (hy : cellsV y = splice (cellsV x) k ys) : splice (rows xs) (n * Pic.z α + k) ys = rows (xs.set n y) := by
  have hlt := (List.getElem?_eq_some_iff.1 hx).1
  have he : xs = xs.take n ++ x :: xs.drop (n + 1) := by
    obtain ⟨_, rfl⟩ := List.getElem?_eq_some_iff.1 hx
    rw [← List.drop_eq_getElem_cons hlt, List.take_append_drop]
  have hset : xs.set n y = xs.take n ++ y :: xs.drop (n + 1) := by
    rw [List.set_eq_take_append_cons_drop, if_pos hlt]
  have hl : (rows (xs.take n)).length = n * Pic.z α := by rw [rows_len, List.length_take, Nat.min_eq_left (by omega)]
  have hc : (cellsV x).length = Pic.z α := cellsV_len
  rw [hset]
  conv => lhs; rw [he]
  rw [rows_append, rows_append, rows_cons, rows_cons, hy]
  unfold splice
  rw [List.take_append, hl, show n * Pic.z α + k - n * Pic.z α = k from by omega, List.take_of_length_le (by rw [hl]; omega), List.take_append_of_le_length (by rw [hc]; omega)]
  rw [show n * Pic.z α + k + ys.length = n * Pic.z α + (k + ys.length) from by omega, List.drop_append, hl, List.drop_of_length_le (by rw [hl]; omega), show n * Pic.z α + (k + ys.length) - n * Pic.z α = k + ys.length from by omega, List.drop_append_of_le_length (by rw [hc]; omega)]
  simp [List.append_assoc]

theorem rows_set (hx : xs[n]? = some x) : splice (rows xs) (n * Pic.z α) (cellsV y) = rows (xs.set n y) := by
  have := rows_set_off (y := y) (ys := cellsV y) (k := 0) hx (by rw [cellsV_len]; omega) (by
    unfold splice
    rw [List.take_zero, List.nil_append, Nat.zero_add, List.drop_of_length_le (by rw [cellsV_len, cellsV_len]; exact Nat.le_refl _), List.append_nil])
  simpa using this

theorem cellsV_ones (hone : ∀ c, c ∈ (enc x).cells → (V.i c).one = true) : (cellsV x).all V.one = true := by
  unfold cellsV
  rw [List.all_map]
  exact List.all_eq_true.2 hone

theorem src_pic {z : Nat} : srcCells h (.i (.sl z (xs.map enc))) = some (rows xs) := by
  simp only [srcCells, rows, cellsV]
  congr 1
  induction xs with
  | nil => rfl
  | cons x xs ih => simp only [List.map_cons, List.flatMap_cons, List.map_append, ih]; rfl

theorem src_own {b g z : Nat} {ag : Bool} {len : Nat} (hc : getCells h b g = some (rows xs)) (hl : len * z = (rows xs).length) : srcCells h (.hsl b g 0 z ag len) = some (rows xs) := by
  simp only [srcCells, hc, Option.map_some, List.drop_zero]
  rw [List.take_of_length_le (by omega)]

theorem chunks_rows : ∀ (xs : List α), (∀ x : α, enc x = .agg (enc x).cells) → AM.chunks (Pic.z α) xs.length (xs.flatMap fun x => (enc x).cells) = xs.map enc
  | [], _ => rfl
  | x :: xs, he => by
    rw [List.length_cons, List.flatMap_cons, AM.chunks, List.take_left' (Pic.len x), List.drop_left' (Pic.len x), chunks_rows xs he, List.map_cons, ← he x]

theorem snapA_rows {f : Bool} (hf : f = false) : ∀ {xs : List α}, snapA (n + 1) f h (rows xs) = some (xs.flatMap fun x => (enc x).cells)
  | [] => by rw [rows_nil, snapA_nil]; rfl
  | x :: xs => by
    subst hf
    rw [rows_cons, snapA_append, snapA_rows rfl (xs := xs), show snapA (n + 1) false h (cellsV x) = some (enc x).cells from snapA_pics]
    rfl

theorem mkRows_rows : mkRows (Pic.z α) (Pic.ag α) xs.length (xs.flatMap fun x => (enc x).cells) = some (.sl (Pic.z α) (xs.map enc)) := by
  unfold mkRows
  cases hag : Pic.ag α with
  | true =>
    have he : ∀ x : α, enc x = .agg (enc x).cells := fun x => by have := Pic.row x; rw [hag] at this; exact this
    rw [if_pos rfl, chunks_rows xs he]
  | false =>
    have he : ∀ x : α, (enc x).cells = [enc x] := fun x => by have := Pic.row x; rw [hag] at this; exact this
    have hz : Pic.z α = 1 := by
      rcases Pic.one (α := α) with h | h
      · rw [hag] at h; cases h
      · exact h
    rw [if_neg (by simp)]
    have : (xs.flatMap fun x => (enc x).cells) = xs.map enc := by
      induction xs with
      | nil => rfl
      | cons x xs ih =>
        rw [List.flatMap_cons, he x, List.map_cons, ih]
        rfl
    rw [if_pos hz, this, hz]

/-- What an own list shows. -/
theorem snap_rows {b g z len : Nat} {ag : Bool} (hc : getCells h b g = some (rows xs)) (hz : z = Pic.z α) (ha : ag = Pic.ag α) (hl : len = xs.length) : snap (n + 2) false h (.hsl b g 0 z ag len) = some (.sl z (xs.map enc)) := by
  subst hz ha hl
  rw [snap_hsl]
  by_cases h0 : xs.length = 0
  · rw [if_pos h0]
    obtain rfl := List.eq_nil_of_length_eq_zero h0
    rfl
  · rw [if_neg h0, hc, Option.bind_some, List.drop_zero, List.take_of_length_le (by rw [rows_len]; exact Nat.le_refl _), snapA_rows rfl, Option.bind_some, mkRows_rows]

theorem snapF_i {x : I} : snapF (n + 1) h (.i x) = if flat x = true then some (x, []) else none := rfl
theorem snapF_agg {cs : List V} : snapF (n + 1) h (.agg cs) = (snapFL (snapF n h) cs).map fun p => (.agg p.1, p.2) := rfl
theorem snapF_tup {cs : List V} : snapF (n + 1) h (.tup cs) = (snapFL (snapF n h) cs).map fun p => (.tup p.1, p.2) := rfl
theorem snapF_hsl {b g off z len : Nat} {ag : Bool} : snapF (n + 1) h (.hsl b g off z ag len) = if len = 0 then some (.sl z [], []) else if off = 0 ∧ len * z = g then
        (getCells h b g).bind fun cs => if cs.all V.good = true then (snapFL (snapF n h) cs).bind fun p => (mkRows z ag len p.1).map fun r => (r, b :: p.2) else none else none := rfl
theorem snapFL_nil {f : V → Option (I × List Nat)} : snapFL f [] = some ([], []) := rfl
theorem snapFL_cons {f : V → Option (I × List Nat)} {v : V} {vs : List V} : snapFL f (v :: vs) = (f v).bind fun p => (snapFL f vs).map fun q => (p.1 :: q.1, p.2 ++ q.2) := rfl

theorem snapFL_flat : ∀ {l : List I}, l.all flat = true → snapFL (snapF (n + 1) h) (l.map .i) = some (l, [])
  | [], _ => rfl
  | x :: l, hf => by
    simp only [List.all_cons, Bool.and_eq_true] at hf
    simp only [List.map_cons, snapFL_cons, snapF_i, hf.1, if_true, Option.bind_some, snapFL_flat hf.2, Option.map_some, List.nil_append]

theorem rows_eq : rows xs = (xs.flatMap fun x => (enc x).cells).map .i := by
  induction xs with
  | nil => rfl
  | cons x xs ih => rw [rows_cons, List.flatMap_cons, List.map_append, ih]; rfl

/-- An own list of flat data is what may be handed over. -/
theorem snapF_rows {b g z len : Nat} {ag : Bool} (hflat : ∀ x : α, (enc x).cells.all flat = true) (hc : getCells h b g = some (rows xs)) (hz : z = Pic.z α) (ha : ag = Pic.ag α) (hl : len = xs.length) :
    snapF (n + 2) h (.hsl b g 0 z ag len) = some (.sl z (xs.map enc), if xs.length = 0 then [] else [b]) := by
  subst hz ha hl
  have hfl : (xs.flatMap fun x => (enc x).cells).all flat = true := by
    rw [List.all_flatMap]
    exact List.all_eq_true.2 fun x _ => hflat x
  have hg : (rows xs).all V.good = true := by
    rw [rows_eq]; exact all_good_i hfl
  have hgl : xs.length * Pic.z α = g := by rw [← rows_len]; exact getCells_len hc
  rw [snapF_hsl]
  by_cases h0 : xs.length = 0
  · rw [if_pos h0, if_pos h0]
    obtain rfl := List.eq_nil_of_length_eq_zero h0
    rfl
  · rw [if_neg h0, if_neg h0, if_pos ⟨rfl, hgl⟩, hc, Option.bind_some, if_pos hg, rows_eq, snapFL_flat hfl, Option.bind_some, mkRows_rows]
    rfl

end
end Go.AM
