/- Lists whose elements hold a list of their own, every one in a block of its own. No condition. -/
import Derived.Test.YtogokiglmhnjkaaLabB35
set_option linter.unusedVariables false
set_option linter.unusedSimpArgs false
namespace Go.AM
open Pic (enc dec dec_enc dec_sub)
open PicA (encA decA decA_encA decA_sub)

/-- A row with one list of numbers in it. -/
class NestC (α : Type) [Pic α] where
  kid : α → List Int
  rowN : Nat → α → List V
  len_row : ∀ g x, (rowN g x).length = Pic.z α
  ag : Pic.ag α = true
  snap_row : ∀ {h : Heap} {g x n}, getCells h g (kid x).length = some (rows (kid x)) → snapA (n + 3) false h (rowN g x) = some (enc x).cells
  good_row : ∀ g x, (rowN g x).all V.good = true
  one_row : ∀ g x, (rowN g x).all V.one = true
  shift_row : ∀ g x n, (rowN g x).map (V.shift n) = rowN (g + n) x
open NestC (kid rowN)

instance : NestC TOp where
  kid x := x.deps.counts
  rowN g x := [.i (iN x.actor), .i (iN x.seq), .i (iN x.time), .hsl g x.deps.counts.length 0 1 false x.deps.counts.length, .i (iN x.kind), .i (iN x.obj), .i (iN x.n), .i (iN x.undo), .i (iN x.at_.time), .i (iN x.at_.actor), .i (iS x.key), .i (iS x.text)]
  len_row _ _ := rfl
  ag := rfl
  snap_row {h g x n} hk := by
    have := snap_rows (n := n + 1) (z := 1) (len := x.deps.counts.length) (ag := false) hk rfl rfl rfl
    simp only [snapA_cons, snapA_nil, snap_i, this, Option.bind_some, Option.map_some]
    rfl
  good_row _ _ := rfl
  one_row _ _ := rfl
  shift_row _ _ _ := rfl

section
variable {α : Type} [Pic α] [NestC α] {h h' H2 : Heap} {b lo hi n : Nat} {gs : List Nat} {x : α} {xs : List α} {v : V}

def rowsN : List Nat → List α → List V
  | g :: gs, x :: xs => rowN g x ++ rowsN gs xs
  | _, _ => []

theorem rowsN_len : ∀ {gs : List Nat} {xs : List α}, gs.length = xs.length → (rowsN gs xs).length = xs.length * Pic.z α
  | [], [], _ => by simp [rowsN]
  | g :: gs, x :: xs, h => by
    simp only [List.length_cons, Nat.add_right_cancel_iff] at h
    rw [rowsN, List.length_append, NestC.len_row, rowsN_len h, List.length_cons, Nat.add_mul]
    omega
  | [], _ :: _, h => by simp at h
  | _ :: _, [], h => by simp at h

theorem rowsN_append : ∀ {gs gs' : List Nat} {xs xs' : List α}, gs.length = xs.length → rowsN (gs ++ gs') (xs ++ xs') = rowsN gs xs ++ rowsN gs' xs'
  | [], gs', [], xs', _ => by cases gs' <;> cases xs' <;> simp [rowsN]
  | g :: gs, gs', x :: xs, xs', h => by
    simp only [List.length_cons, Nat.add_right_cancel_iff] at h
    rw [List.cons_append, List.cons_append, rowsN, rowsN_append h, rowsN, List.append_assoc]
  | [], _, _ :: _, _, h => by simp at h
  | _ :: _, _, [], _, h => by simp at h

theorem rowsN_good : ∀ {gs : List Nat} {xs : List α}, (rowsN gs xs).all V.good = true
  | [], [] => rfl
  | g :: gs, x :: xs => by rw [rowsN, List.all_append, NestC.good_row, rowsN_good]; rfl
  | [], _ :: _ => rfl
  | _ :: _, [] => rfl

theorem rowsN_shift : ∀ {gs : List Nat} {xs : List α}, (rowsN gs xs).map (V.shift n) = rowsN (gs.map (· + n)) xs
  | [], [] => rfl
  | g :: gs, x :: xs => by rw [rowsN, List.map_append, NestC.shift_row, rowsN_shift, List.map_cons, rowsN]
  | [], _ :: _ => rfl
  | _ :: _, [] => rfl

/-- The list lies in block b, its elements' lists in gs, all of them in [lo, hi). -/
structure Nest (h : Heap) (lo hi b : Nat) (gs : List Nat) (xs : List α) : Prop where
  len : gs.length = xs.length
  row : getCells h b (xs.length * Pic.z α) = some (rowsN gs xs)
  kids : ∀ (i : Nat) (g : Nat) (x : α), gs[i]? = some g → xs[i]? = some x → getCells h g (kid x).length = some (rows (kid x))
  nd : (b :: gs).Nodup
  bd : ∀ g, g ∈ b :: gs → lo ≤ g ∧ g < hi
  top : hi ≤ h.length

def NestV (h : Heap) (lo hi : Nat) (v : V) (xs : List α) : Prop := ∃ b gs, v = .hsl b (xs.length * Pic.z α) 0 (Pic.z α) true xs.length ∧ Nest h lo hi b gs xs

theorem snapA_rowsN' : ∀ {gs : List Nat} {xs : List α}, gs.length = xs.length → (∀ (i : Nat) (g : Nat) (x : α), gs[i]? = some g → xs[i]? = some x → getCells h g (kid x).length = some (rows (kid x))) →
    snapA (n + 3) false h (rowsN gs xs) = some (xs.flatMap fun x => (enc x).cells)
  | [], [], _, _ => rfl
  | g :: gs, x :: xs, hl, hk => by
    simp only [List.length_cons, Nat.add_right_cancel_iff] at hl
    rw [rowsN, snapA_append, NestC.snap_row (hk 0 g x rfl rfl), snapA_rowsN' hl (fun i g x h1 h2 => hk (i + 1) g x h1 h2)]
    rfl
  | [], _ :: _, h, _ => by simp at h
  | _ :: _, [], h, _ => by simp at h

theorem snap_nest (hv : NestV h lo hi v xs) : snap (n + 4) false h v = some (.sl (Pic.z α) (xs.map enc)) := by
  obtain ⟨b, gs, rfl, hn⟩ := hv
  rw [snap_hsl]
  by_cases h0 : xs.length = 0
  · rw [if_pos h0]
    obtain rfl := List.eq_nil_of_length_eq_zero h0
    rfl
  · rw [if_neg h0, hn.row, Option.bind_some, List.drop_zero, List.take_of_length_le (by rw [rowsN_len hn.len]; exact Nat.le_refl _), snapA_rowsN' hn.len hn.kids, Option.bind_some]
    have := mkRows_rows (xs := xs)
    rw [NestC.ag] at this
    exact this

theorem nest_lt (hv : NestV h lo hi v xs) : lo < hi ∧ hi ≤ h.length := by
  obtain ⟨b, gs, rfl, hn⟩ := hv
  have := hn.bd b (by simp)
  exact ⟨by omega, hn.top⟩

theorem nest_lenS (hv : NestV h lo hi v xs) : lenS v = some xs.length := by
  obtain ⟨b, gs, rfl, hn⟩ := hv
  rfl

/-- Blocks outside [lo, hi) are as they were. -/
structure KeepI (lo hi : Nat) (h h' : Heap) : Prop where
  len : h.length ≤ h'.length
  at_ : ∀ b, b < h.length → b < lo ∨ hi ≤ b → h'[b]? = h[b]?

theorem nest_same (hv : NestV h lo hi v xs) (hl : h.length ≤ h'.length) (hk : ∀ b, lo ≤ b → b < hi → h'[b]? = h[b]?) : NestV h' lo hi v xs := by
  obtain ⟨b, gs, rfl, hn⟩ := hv
  refine ⟨b, gs, rfl, hn.len, ?_, ?_, hn.nd, hn.bd, Nat.le_trans hn.top hl⟩
  · have := hn.bd b (by simp)
    rw [getCells_congr (hk b this.1 this.2)]
    exact hn.row
  · intro i g x h1 h2
    have := hn.bd g (List.mem_cons_of_mem _ (List.mem_of_getElem? h1))
    rw [getCells_congr (hk g this.1 this.2)]
    exact hn.kids i g x h1 h2

theorem nest_keep {B : List Nat} (hv : NestV h lo hi v xs) (hk : Keep B h h') (hB : ∀ b, b ∈ B → b < lo ∨ hi ≤ b) : NestV h' lo hi v xs :=
  nest_same hv hk.len fun b h1 h2 => hk.at_ b (by have := (nest_lt hv).2; omega) fun hm => by have := hB b hm; omega

theorem nest_keepI {l2 h2 : Nat} (hv : NestV h lo hi v xs) (hk : KeepI l2 h2 h h') (hd : hi ≤ l2 ∨ h2 ≤ lo) : NestV h' lo hi v xs :=
  nest_same hv hk.len fun b h1 h2 => hk.at_ b (by have := (nest_lt hv).2; omega) (by omega)

theorem keepI_get {l2 h2 g : Nat} (hk : KeepI l2 h2 h h') (hlt : b < h.length) (hb : b < l2 ∨ h2 ≤ b) : getCells h' b g = getCells h b g := getCells_congr (hk.at_ b hlt hb)
theorem keepI_lt {l2 h2 : Nat} (hk : KeepI l2 h2 h h') (hlt : b < h.length) : b < h'.length := Nat.lt_of_lt_of_le hlt hk.len

theorem moved_cells {cs : List V} (hg : cs.all V.good = true) {g : Nat} (hc : getCells H2 b g = some cs) : getCells (h ++ H2.map (Slot.move h.length)) (b + h.length) g = some (cs.map (V.shift h.length)) := by
  unfold getCells at hc ⊢
  rw [moved_at rfl]
  cases hb : H2[b]? with
  | none => rw [hb] at hc; cases hc
  | some s =>
    rw [hb] at hc
    cases s with
    | cells ds =>
      simp only at hc
      split at hc
      · rename_i hl
        cases hc
        simp only [Option.map_some, Slot.move, hg, if_true, List.length_map]
        rw [if_pos hl]
      · cases hc
    | virt =>
      simp only at hc
      split at hc
      · rename_i hl
        cases hc
        simp only [Option.map_some, Slot.move, hl, if_true, List.map_nil]
      · cases hc
    | _ => cases hc

theorem nest_moved (hv : NestV H2 lo hi v xs) : NestV (h ++ H2.map (Slot.move h.length)) (lo + h.length) (hi + h.length) (v.shift h.length) xs := by
  obtain ⟨b, gs, rfl, hn⟩ := hv
  refine ⟨b + h.length, gs.map (· + h.length), rfl, by rw [List.length_map]; exact hn.len, ?_, ?_, ?_, ?_, ?_⟩
  · rw [moved_cells rowsN_good hn.row, rowsN_shift]
  · intro i g x h1 h2
    rw [List.getElem?_map] at h1
    obtain ⟨g', h3, rfl⟩ := Option.map_eq_some_iff.1 h1
    exact moved_rows (hn.kids i g' x h3 h2)
  · have := hn.nd
    rw [show (b + h.length) :: gs.map (· + h.length) = (b :: gs).map (· + h.length) from rfl]
    exact List.pairwise_map.2 (List.Pairwise.imp (fun hne he => hne (Nat.add_right_cancel he)) this)
  · intro g hg
    rw [show (b + h.length) :: gs.map (· + h.length) = (b :: gs).map (· + h.length) from rfl] at hg
    obtain ⟨g', h1, rfl⟩ := List.mem_map.1 hg
    have := hn.bd g' h1
    omega
  · rw [List.length_append, List.length_map]
    have := hn.top
    omega

theorem nest_handed (hv : NestV h lo hi v xs) : v.good = true := by
  obtain ⟨b, gs, rfl, hn⟩ := hv
  rfl

theorem nest_ext {l : Heap} (hv : NestV h lo hi v xs) : NestV (h ++ l) lo hi v xs :=
  nest_same hv (by simp) fun b _ h2 => List.getElem?_append_left (by have := (nest_lt hv).2; omega)

theorem nest_set {c : Nat} {s : Slot} (hv : NestV h lo hi v xs) (hc : c < lo ∨ hi ≤ c) : NestV (h.set c s) lo hi v xs :=
  nest_same hv (by simp) fun b h1 h2 => List.getElem?_set_ne (by omega)

theorem nest_wide {lo' hi' : Nat} (hv : NestV h lo hi v xs) (h1 : lo' ≤ lo) (h2 : hi ≤ hi') (h3 : hi' ≤ h.length) : NestV h lo' hi' v xs := by
  obtain ⟨b, gs, rfl, hn⟩ := hv
  exact ⟨b, gs, rfl, hn.len, hn.row, hn.kids, hn.nd, fun g hg => by have := hn.bd g hg; omega, h3⟩

theorem nest_virt {h : Heap} (hc : getCells h b 0 = some []) (h1 : lo ≤ b) (h2 : b < hi) (h3 : hi ≤ h.length) : NestV h lo hi (.hsl b 0 0 (Pic.z α) true 0) ([] : List α) :=
  ⟨b, [], by simp, rfl, by simpa [rowsN] using hc, fun i g x hg => by simp at hg, by simp, fun g hg => by simp at hg; omega, h3⟩

theorem cells_lt {g : Nat} {cs : List V} (hc : getCells h b g = some cs) : b < h.length := gc_lt hc

theorem set_cells {c : Nat} {cs ds : List V} (hc : getCells h b c = some cs) (hl : ds.length = n) : getCells (h.set b (.cells ds)) b n = some ds := by
  unfold getCells
  rw [List.getElem?_set_self (gc_lt hc)]
  simp only [hl, if_true]

/-- One element more, its list in block g. -/
theorem app_nest {y g : Nat} {zs : List α} {K : V × Heap → Prop} (hv : NestV h lo hi v xs) (hz : app? y xs [x] = some zs) (hg : getCells h g (kid x).length = some (rows (kid x))) (hgt : hi ≤ g)
    (hK : ∀ v' h', KeepI lo hi h h' → NestV h' lo (g + 1) v' zs → K (v', h')) : @WO _ (stepAppend none (Pic.z α) true y h (rowN g x) 1 v) ⟨K⟩ := by
  obtain ⟨hk1, rfl, hk2⟩ := app_some hz
  obtain ⟨b, gs, rfl, hn⟩ := hv
  have hb := hn.bd b (by simp)
  have hbl := gc_lt hn.row
  have hglt := gc_lt hg
  have hgb : g ≠ b := by omega
  refine ⟨(.hsl b (xs.length * Pic.z α + 1 * Pic.z α) 0 (Pic.z α) true (xs.length + 1), h.set b (.cells (rowsN gs xs ++ rowN g x))), ?_, ?_⟩
  · rw [app_hsl, if_pos ⟨.inl rfl, rfl⟩, hn.row, Option.bind_some, if_neg (by decide), if_pos (by simp at hk1; omega), if_pos rfl]
  · refine hK _ _ ⟨by simp, fun c hc hlo => List.getElem?_set_ne (by omega)⟩ ⟨b, gs ++ [g], ?_, ?_, ?_, ?_, ?_, ?_, ?_⟩
    · simp only [List.length_append, List.length_cons, List.length_nil, Nat.zero_add, Nat.add_mul, Nat.one_mul]
    · simp [hn.len]
    · rw [rowsN_append hn.len, set_cells hn.row]
      · simp [rowsN]
      · rw [List.length_append, rowsN_len hn.len, NestC.len_row]
        simp [Nat.add_mul]
    · intro i g' x' h1 h2
      have hne : g' ≠ b := by
        rcases Nat.lt_or_ge i gs.length with hi' | hi'
        · rw [List.getElem?_append_left hi'] at h1
          have := hn.nd
          intro e
          subst e
          exact (List.nodup_cons.1 this).1 (List.mem_of_getElem? h1)
        · rw [List.getElem?_append_right hi'] at h1
          have : i - gs.length = 0 := by
            rcases Nat.eq_zero_or_pos (i - gs.length) with h0 | h0
            · exact h0
            · rw [List.getElem?_eq_none (by simp; omega)] at h1; cases h1
          rw [this] at h1
          simp at h1
          omega
      rw [getCells_congr (List.getElem?_set_ne (Ne.symm hne))]
      rcases Nat.lt_or_ge i gs.length with hi' | hi'
      · rw [List.getElem?_append_left hi'] at h1
        rw [List.getElem?_append_left (by rw [← hn.len]; exact hi')] at h2
        exact hn.kids i g' x' h1 h2
      · rw [List.getElem?_append_right hi'] at h1
        rw [List.getElem?_append_right (by rw [← hn.len]; exact hi')] at h2
        have : i - gs.length = 0 := by
          rcases Nat.eq_zero_or_pos (i - gs.length) with h0 | h0
          · exact h0
          · rw [List.getElem?_eq_none (by simp; omega)] at h1; cases h1
        rw [this] at h1
        rw [← hn.len, this] at h2
        simp at h1 h2
        subst h1 h2
        exact hg
    · have hnd := hn.nd
      rw [List.nodup_cons] at hnd ⊢
      refine ⟨by simp only [List.mem_append, List.mem_singleton, not_or]; exact ⟨hnd.1, Ne.symm hgb⟩, ?_⟩
      rw [List.nodup_append]
      refine ⟨hnd.2, by simp, fun a ha c hc => ?_⟩
      have := hn.bd a (List.mem_cons_of_mem _ ha)
      simp at hc
      omega
    · intro g' hg'
      simp only [List.mem_cons, List.mem_append, List.not_mem_nil, or_false] at hg'
      have : g' = g ∨ g' ∈ b :: gs := by
        rcases hg' with h1 | h1 | h1
        · exact .inr (by simp [h1])
        · exact .inr (List.mem_cons_of_mem _ h1)
        · exact .inl h1
      rcases this with rfl | h1
      · omega
      · have := hn.bd g' h1
        omega
    · rw [List.length_set]
      omega

/-- The same, with what is known of the heap held together. -/
theorem app_nest_f {y g : Nat} {zs : List α} {K : V × Heap → Prop} (F : Heap → Prop) (hF : F h) (hv : ∀ h, F h → NestV h lo hi v xs) (hz : app? y xs [x] = some zs) (hg : ∀ h, F h → getCells h g (kid x).length = some (rows (kid x))) (hgt : hi ≤ g)
    (hK : ∀ h v' h', F h → KeepI lo hi h h' → NestV h' lo (g + 1) v' zs → K (v', h')) : @WO _ (stepAppend none (Pic.z α) true y h (rowN g x) 1 v) ⟨K⟩ :=
  app_nest (hv h hF) hz (hg h hF) hgt fun v' h' => hK h v' h' hF

end

section
variable {α : Type} [Pic α] [NestC α] {h h' H2 : Heap} {b lo hi n k : Nat} {gs : List Nat} {x : α} {xs : List α} {v : V} {z0 : List V}

def ZR (z0 : List V) (n : Nat) : List V := (List.replicate n z0).flatten
theorem ZR_succ : ZR z0 (n + 1) = z0 ++ ZR z0 n := by simp [ZR, List.replicate_succ]
theorem ZR_len : (ZR z0 n).length = n * z0.length := by simp [ZR]

/-- A list whose first elements are laid, and k empty ones behind them. -/
structure NestZ (z0 : List V) (k : Nat) (h : Heap) (b : Nat) (gs : List Nat) (xs : List α) : Prop where
  len : gs.length = xs.length
  row : getCells h b ((xs.length + k) * Pic.z α) = some (rowsN gs xs ++ ZR z0 k)
  kids : ∀ (i : Nat) (g : Nat) (x : α), gs[i]? = some g → xs[i]? = some x → getCells h g (kid x).length = some (rows (kid x))
  nd : gs.Nodup
  bd : ∀ g, g ∈ gs → b < g ∧ g < h.length

def NZ (z0 : List V) (k : Nat) (h : Heap) (b : Nat) (xs : List α) : Prop := ∃ gs, NestZ z0 k h b gs xs

theorem nz_row (hv : NZ z0 k h b xs) : ∃ gs : List Nat, gs.length = xs.length ∧ getCells h b ((xs.length + k) * Pic.z α) = some (rowsN gs xs ++ ZR z0 k) := by
  obtain ⟨gs, hn⟩ := hv
  exact ⟨gs, hn.len, hn.row⟩

theorem nz_lt (hv : NZ z0 k h b xs) : b < h.length := by
  obtain ⟨gs, hn⟩ := hv
  exact gc_lt hn.row

theorem nz_same (hv : NZ z0 k h b xs) (hl : h.length ≤ h'.length) (hk : ∀ c, b ≤ c → c < h.length → h'[c]? = h[c]?) : NZ z0 k h' b xs := by
  obtain ⟨gs, hn⟩ := hv
  refine ⟨gs, hn.len, ?_, ?_, hn.nd, fun g hg => by have := hn.bd g hg; omega⟩
  · rw [getCells_congr (hk b (Nat.le_refl _) (gc_lt hn.row))]
    exact hn.row
  · intro i g x h1 h2
    have := hn.bd g (List.mem_of_getElem? h1)
    rw [getCells_congr (hk g (by omega) this.2)]
    exact hn.kids i g x h1 h2

theorem nz_keep (hv : NZ z0 k h b xs) (hk : Keep [] h h') : NZ z0 k h' b xs := nz_same hv hk.len fun c _ h2 => hk.at_ c h2 (by simp)

theorem nz_new (hl : z0.length = Pic.z α) (hc : getCells h b (n * Pic.z α) = some (ZR z0 n)) : NZ z0 n h b ([] : List α) :=
  ⟨[], rfl, by simpa [rowsN] using hc, fun i g x hg => by simp at hg, by simp, by simp⟩

/-- One element is laid. -/
theorem nz_put {g : Nat} (hl : z0.length = Pic.z α) (hv : NestZ z0 (k + 1) h b gs xs) (hg : getCells h g (kid x).length = some (rows (kid x))) (hgb : b < g) (hgs : g ∉ gs) {cs : List V}
    (hcs : cs = List.take (xs.length * Pic.z α) (rowsN gs xs ++ ZR z0 (k + 1)) ++ (rowN g x ++ List.drop (xs.length * Pic.z α + Pic.z α) (rowsN gs xs ++ ZR z0 (k + 1)))) : NZ z0 k (h.set b (.cells cs)) b (xs ++ [x]) := by
  have hlen := rowsN_len hv.len
  have e : cs = rowsN (gs ++ [g]) (xs ++ [x]) ++ ZR z0 k := by
    rw [hcs, rowsN_append hv.len, List.take_append_of_le_length (by omega), List.take_of_length_le (by omega), ← List.drop_drop, List.drop_left' hlen, ZR_succ, List.drop_left' hl]
    simp [rowsN]
  have hbl := gc_lt hv.row
  have hgl := gc_lt hg
  refine ⟨gs ++ [g], ?_, ?_, ?_, ?_, ?_⟩
  · simp [hv.len]
  · rw [e, set_cells hv.row]
    rw [List.length_append, rowsN_len (by simp [hv.len]), ZR_len, hl, Nat.add_mul]
  · intro i g' x' h1 h2
    rcases Nat.lt_or_ge i gs.length with hi' | hi'
    · rw [List.getElem?_append_left hi'] at h1
      rw [List.getElem?_append_left (by rw [← hv.len]; exact hi')] at h2
      have := hv.bd g' (List.mem_of_getElem? h1)
      rw [getCells_congr (List.getElem?_set_ne (by omega))]
      exact hv.kids i g' x' h1 h2
    · rw [List.getElem?_append_right hi'] at h1
      rw [List.getElem?_append_right (by rw [← hv.len]; exact hi')] at h2
      have : i - gs.length = 0 := by
        rcases Nat.eq_zero_or_pos (i - gs.length) with h0 | h0
        · exact h0
        · rw [List.getElem?_eq_none (by simp; omega)] at h1; cases h1
      rw [this] at h1
      rw [← hv.len, this] at h2
      simp at h1 h2
      subst h1 h2
      rw [getCells_congr (List.getElem?_set_ne (by omega))]
      exact hg
  · rw [List.nodup_append]
    refine ⟨hv.nd, by simp, fun a ha c hc => ?_⟩
    simp at hc
    rintro rfl
    subst hc
    exact hgs ha
  · intro g' hg'
    rw [List.length_set]
    rcases List.mem_append.1 hg' with h1 | h1
    · exact hv.bd g' h1
    · simp at h1
      subst h1
      exact ⟨hgb, hgl⟩

theorem nz_done (hv : NZ z0 0 h b xs) : NestV h b h.length (.hsl b (xs.length * Pic.z α) 0 (Pic.z α) true xs.length) xs := by
  obtain ⟨gs, hn⟩ := hv
  have := gc_lt hn.row
  refine ⟨b, gs, rfl, hn.len, ?_, hn.kids, ?_, ?_, Nat.le_refl _⟩
  · have h1 := hn.row
    simpa [ZR] using h1
  · rw [List.nodup_cons]
    exact ⟨fun hm => by have := hn.bd b hm; omega, hn.nd⟩
  · intro g hg
    rcases List.mem_cons.1 hg with rfl | h1
    · omega
    · have := hn.bd g h1
      omega
end

theorem loopP_outQ {σ ρ : Type} {step : σ → Option (Lp σ ρ)} {Q : σ → Prop} {s o : σ} (hp : loopP step s = some (.out o)) (hq : ∀ s o, step s = some (.out o) → Q o) : Q o := by
  obtain ⟨n, hn⟩ := loopP_n hp
  clear hp
  induction n generalizing s with
  | zero => simp [loopN] at hn
  | succ n ih =>
    rw [loopN] at hn
    obtain ⟨p, h1, hn⟩ := Option.bind_eq_some_iff.1 hn
    cases p with
    | go s' => exact ih hn
    | out s' => cases hn; exact hq _ _ h1
    | ret r => cases hn

section
variable {α : Type} [Pic α] [NestC α] {h H2 : Heap} {lo hi : Nat} {xs : List α} {v : V}
theorem nest_hand (hv : NestV h lo hi v xs) : v.handed = true := by
  obtain ⟨b, gs, rfl, hn⟩ := hv
  rfl
theorem nest_movedO (hv : NestV H2 0 H2.length v xs) : NestV (h ++ H2.map (Slot.move h.length)) h.length (h ++ H2.map (Slot.move h.length)).length (v.shift h.length) xs := by
  have := nest_moved (h := h) hv
  rw [List.length_append, List.length_map, Nat.add_comm h.length]
  rwa [Nat.zero_add] at this
theorem nest_tells (hv : NestV h lo hi v xs) : Tells false xs v h := by
  unfold Tells
  rw [snap_nest (n := 5) hv, Option.bind_some]
  exact dec_enc xs
end

section
variable {α : Type} [Pic α] [NestC α] {h h' : Heap} {lo hi b : Nat} {gs : List Nat} {x y : α} {xs ys : List α}

theorem get_mid {β : Type} {xs ys : List β} {x y : β} {i : Nat} (hi : i ≠ xs.length) : (xs ++ x :: ys)[i]? = (xs ++ y :: ys)[i]? := by
  rcases Nat.lt_or_ge i xs.length with h1 | h1
  · rw [List.getElem?_append_left h1, List.getElem?_append_left h1]
  · rw [List.getElem?_append_right h1, List.getElem?_append_right h1]
    obtain ⟨k, hk⟩ : ∃ k, i - xs.length = k + 1 := ⟨i - xs.length - 1, by omega⟩
    rw [hk, List.getElem?_cons_succ, List.getElem?_cons_succ]

/-- One row of a list, open. -/
theorem nest_open (hn : Nest h lo hi b gs (xs ++ x :: ys)) : ∃ (A B : List V) (g : Nat), A.length = xs.length * Pic.z α ∧ B.length = ys.length * Pic.z α ∧
    getCells h b ((xs.length + (ys.length + 1)) * Pic.z α) = some (A ++ (rowN g x ++ B)) ∧ getCells h g (kid x).length = some (rows (kid x)) ∧ lo ≤ g ∧ g < hi ∧ g ≠ b ∧ lo ≤ b ∧ b < hi ∧ hi ≤ h.length ∧
    ∀ (h' : Heap) (y : α), h.length ≤ h'.length → (∀ c, c < h.length → c ≠ b → c ≠ g → h'[c]? = h[c]?) → getCells h' b ((xs.length + (ys.length + 1)) * Pic.z α) = some (A ++ (rowN g y ++ B)) →
      getCells h' g (kid y).length = some (rows (kid y)) → Nest h' lo hi b gs (xs ++ y :: ys) := by
  have hl := hn.len
  simp only [List.length_append, List.length_cons] at hl
  obtain ⟨g1, gs', rfl, h1⟩ : ∃ g1 gs', gs = g1 ++ gs' ∧ g1.length = xs.length := ⟨gs.take xs.length, gs.drop xs.length, (List.take_append_drop _ _).symm, by simp; omega⟩
  cases gs' with
  | nil => simp at hl; omega
  | cons g g2 =>
    have h2 : g2.length = ys.length := by simp at hl; omega
    have hrow := hn.row
    rw [rowsN_append h1, rowsN, List.length_append, List.length_cons] at hrow
    have hnd := hn.nd
    have hg := hn.bd g (by simp)
    have hb := hn.bd b (by simp)
    have hgat : (g1 ++ g :: g2)[xs.length]? = some g := by rw [List.getElem?_append_right (by omega), h1, Nat.sub_self]; rfl
    have hgb : g ≠ b := fun e => (List.nodup_cons.1 hnd).1 (by rw [← e]; simp)
    refine ⟨rowsN g1 xs, rowsN g2 ys, g, rowsN_len h1, rowsN_len h2, hrow, hn.kids xs.length g x hgat (by rw [List.getElem?_append_right (Nat.le_refl _), Nat.sub_self]; rfl), hg.1, hg.2, hgb, hb.1, hb.2, hn.top, ?_⟩
    intro h' y hlen hk hr' hg'
    refine ⟨by simp only [List.length_append, List.length_cons]; omega, ?_, ?_, hnd, hn.bd, Nat.le_trans hn.top hlen⟩
    · rw [rowsN_append h1, rowsN, List.length_append, List.length_cons]
      exact hr'
    · intro i g' x' e1 e2
      by_cases hi' : i = xs.length
      · subst hi'
        rw [hgat] at e1
        rw [List.getElem?_append_right (Nat.le_refl _), Nat.sub_self] at e2
        simp at e1 e2
        subst e1 e2
        exact hg'
      · rw [get_mid (y := x) hi'] at e2
        have hm : g' ∈ g1 ++ g :: g2 := List.mem_of_getElem? e1
        have hne : g' ≠ g := by
          rintro rfl
          exact hi' ((List.getElem?_inj (List.getElem?_eq_some_iff.1 e1).1 (List.nodup_cons.1 hnd).2).1 (e1.trans hgat.symm))
        have hnb : g' ≠ b := fun e => (List.nodup_cons.1 hnd).1 (by rw [← e]; exact hm)
        have := hn.bd g' (List.mem_cons_of_mem _ hm)
        have := hn.top
        rw [getCells_congr (hk g' (by omega) hnb hne)]
        exact hn.kids i g' x' e1 e2

theorem take_at {A L : List V} {a k : Nat} (ha : A.length = a) : List.take (a + k) (A ++ L) = A ++ List.take k L := by
  subst ha
  rw [List.take_append, List.take_of_length_le (Nat.le_add_right _ _), Nat.add_sub_cancel_left]
theorem take_at0 {A L : List V} {a : Nat} (ha : A.length = a) : List.take a (A ++ L) = A := by
  subst ha
  exact List.take_left
theorem drop_at {A L : List V} {a k : Nat} (ha : A.length = a) : List.drop (a + k) (A ++ L) = List.drop k L := by
  subst ha
  rw [← List.drop_drop, List.drop_left]
theorem drop_at0 {A L : List V} {a : Nat} (ha : A.length = a) : List.drop a (A ++ L) = L := by
  subst ha
  exact List.drop_left
theorem drop_at2 {A L : List V} {a k m : Nat} (ha : A.length = a) : List.drop (a + k + m) (A ++ L) = List.drop (k + m) L := by
  rw [Nat.add_assoc]
  exact drop_at ha
end

theorem take_at2 {A L : List V} {a k m : Nat} (ha : A.length = a) : List.take (a + k + m) (A ++ L) = A ++ List.take (k + m) L := by
  rw [Nat.add_assoc]
  exact take_at ha
theorem drop_at3 {A L : List V} {a k m n : Nat} (ha : A.length = a) : List.drop (a + k + m + n) (A ++ L) = List.drop (k + m + n) L := by
  rw [Nat.add_assoc a, Nat.add_assoc]
  exact drop_at ha
theorem keepI_refl {lo hi : Nat} {h : Heap} : KeepI lo hi h h := ⟨Nat.le_refl _, fun _ _ _ => rfl⟩
theorem keepI_set {lo hi b : Nat} {h h1 : Heap} {s : Slot} (hb : lo ≤ b ∧ b < hi) (hk : KeepI lo hi h h1) : KeepI lo hi h (h1.set b s) :=
  ⟨by rw [List.length_set]; exact hk.len, fun c hc hn => by rw [List.getElem?_set_ne (by omega)]; exact hk.at_ c hc hn⟩
theorem keepI_trans {lo hi : Nat} {h h1 h2 : Heap} (hk : KeepI lo hi h h1) (hk2 : KeepI lo hi h1 h2) : KeepI lo hi h h2 :=
  ⟨Nat.le_trans hk.len hk2.len, fun c hc hn => by rw [hk2.at_ c (Nat.lt_of_lt_of_le hc hk.len) hn]; exact hk.at_ c hc hn⟩
end Go.AM
