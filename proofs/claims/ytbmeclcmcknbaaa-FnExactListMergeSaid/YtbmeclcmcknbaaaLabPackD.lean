/- Several texts of the abstract machine in one. No condition. -/
import Derived.Test.YtbmeclcmcknbaaaLabPackC
import Derived.Laws.BitsLemmas
import Derived.Laws.Bits64
import Derived.Sort.AssemblyPlain
import Derived.Sort.Walk7
set_option linter.unusedVariables false
set_option linter.unusedSimpArgs false
namespace Go.AM
open Pic (enc dec dec_enc dec_sub)
open PicA (encA decA decA_encA decA_sub)

open Classical in
/-- What a function comes to with as much fuel as it takes. -/
noncomputable def fixP {β : Type} (F : Nat → Option β) : Option β := if h : ∃ n, (F n).isSome = true then F h.choose else none

theorem fixP_some {β : Type} {F : Nat → Option β} {b : β} (h : fixP F = some b) : ∃ n, F n = some b := by
  unfold fixP at h
  split at h
  · exact ⟨_, h⟩
  · cases h

/-- If more fuel never turns what has come. -/
theorem fixP_eq {β : Type} {F : Nat → Option β} {b : β} {n : Nat} (hm : ∀ n m b c, F n = some b → F m = some c → b = c) (h : F n = some b) : fixP F = some b := by
  have hex : ∃ n, (F n).isSome = true := ⟨n, by rw [h]; rfl⟩
  unfold fixP
  rw [dif_pos hex]
  obtain ⟨c, hc⟩ := Option.isSome_iff_exists.1 hex.choose_spec
  rw [hc, hm _ _ _ _ hc h]

open Classical in
/-- A function by its runs with any fuel, the one that is asked for if there is one. -/
noncomputable def unionF (F : Nat → Fun) (Q : List V → Heap → V × Heap → Prop) : Fun := fun slot args h =>
  if hx : ∃ p, (∃ n, F n slot args h = some p) ∧ Q args h p then some hx.choose else none

theorem unionF_some {F : Nat → Fun} {Q : List V → Heap → V × Heap → Prop} {slot : Option Nat} {args : List V} {h : Heap} {p : V × Heap} (hp : unionF F Q slot args h = some p) : (∃ n, F n slot args h = some p) ∧ Q args h p := by
  unfold unionF at hp
  split at hp
  · rename_i hx
    cases hp
    exact hx.choose_spec
  · cases hp

theorem unionF_has {F : Nat → Fun} {Q : List V → Heap → V × Heap → Prop} {slot : Option Nat} {args : List V} {h : Heap} {p : V × Heap} {n : Nat} (hp : F n slot args h = some p) (hq : Q args h p) : ∃ p, unionF F Q slot args h = some p ∧ Q args h p := by
  have hx : ∃ p, (∃ n, F n slot args h = some p) ∧ Q args h p := ⟨p, ⟨n, hp⟩, hq⟩
  refine ⟨hx.choose, ?_, hx.choose_spec.2⟩
  unfold unionF
  rw [dif_pos hx]

theorem unionF_ok {P : Program} {f : FuncId} {F : Nat → Fun} {Q : List V → Heap → V × Heap → Prop} (h : ∀ n, FunOK P f (F n)) : FunOK P f (unionF F Q) := by
  intro slot args H v H' hg
  obtain ⟨⟨n, hn⟩, _⟩ := unionF_some hg
  exact h n slot args H v H' hn

theorem encA_inj {α : Type} [PicA α] {x y : α} (h : encA x = encA y) : x = y := by
  have := congrArg (decA (α := α)) h
  rw [decA_encA, decA_encA] at this
  exact Option.some.inj this
end Go.AM

set_option linter.unusedVariables false
set_option linter.unusedSimpArgs false
namespace Go.AM
open Pic (enc dec dec_enc dec_sub)
open PicA (encA decA decA_encA decA_sub)

/-- A row with one list of numbers in it. -/
class NestC (α : Type) [Pic α] where
  kid : α → List Int
  rowN : Nat → α → List V
  len_row : ∀ g x, (rowN g x).length = Pic.z α
  ag : Pic.ag α = true
  snap_row : ∀ {h : Heap} {g x n}, getCells h g (kid x).length = some (rows (kid x)) → snapA (n + 3) false h (rowN g x) = some (enc x).cells
  good_row : ∀ g x, (rowN g x).all V.good = true
  one_row : ∀ g x, (rowN g x).all V.one = true
  shift_row : ∀ g x n, (rowN g x).map (V.shift n) = rowN (g + n) x
open NestC (kid rowN)

instance : NestC TOp where
  kid x := x.deps.counts
  rowN g x := [.i (iN x.actor), .i (iN x.seq), .i (iN x.time), .hsl g x.deps.counts.length 0 1 false x.deps.counts.length, .i (iN x.kind), .i (iN x.obj), .i (iN x.n), .i (iN x.undo), .i (iN x.at_.time), .i (iN x.at_.actor), .i (iS x.key), .i (iS x.text)]
  len_row _ _ := rfl
  ag := rfl
  snap_row {h g x n} hk := by
    have := snap_rows (n := n + 1) (z := 1) (len := x.deps.counts.length) (ag := false) hk rfl rfl rfl
    simp only [snapA_cons, snapA_nil, snap_i, this, Option.bind_some, Option.map_some]
    rfl
  good_row _ _ := rfl
  one_row _ _ := rfl
  shift_row _ _ _ := rfl

section
variable {α : Type} [Pic α] [NestC α] {h h' H2 : Heap} {b lo hi n : Nat} {gs : List Nat} {x : α} {xs : List α} {v : V}

def rowsN : List Nat → List α → List V
  | g :: gs, x :: xs => rowN g x ++ rowsN gs xs
  | _, _ => []

theorem rowsN_len : ∀ {gs : List Nat} {xs : List α}, gs.length = xs.length → (rowsN gs xs).length = xs.length * Pic.z α
  | [], [], _ => by simp [rowsN]
  | g :: gs, x :: xs, h => by
    simp only [List.length_cons, Nat.add_right_cancel_iff] at h
    rw [rowsN, List.length_append, NestC.len_row, rowsN_len h, List.length_cons, Nat.add_mul]
    omega
  | [], _ :: _, h => by simp at h
  | _ :: _, [], h => by simp at h

theorem rowsN_append : ∀ {gs gs' : List Nat} {xs xs' : List α}, gs.length = xs.length → rowsN (gs ++ gs') (xs ++ xs') = rowsN gs xs ++ rowsN gs' xs'
  | [], gs', [], xs', _ => by cases gs' <;> cases xs' <;> simp [rowsN]
  | g :: gs, gs', x :: xs, xs', h => by
    simp only [List.length_cons, Nat.add_right_cancel_iff] at h
    rw [List.cons_append, List.cons_append, rowsN, rowsN_append h, rowsN, List.append_assoc]
  | [], _, _ :: _, _, h => by simp at h
  | _ :: _, _, [], _, h => by simp at h

theorem rowsN_good : ∀ {gs : List Nat} {xs : List α}, (rowsN gs xs).all V.good = true
  | [], [] => rfl
  | g :: gs, x :: xs => by rw [rowsN, List.all_append, NestC.good_row, rowsN_good]; rfl
  | [], _ :: _ => rfl
  | _ :: _, [] => rfl

theorem rowsN_shift : ∀ {gs : List Nat} {xs : List α}, (rowsN gs xs).map (V.shift n) = rowsN (gs.map (· + n)) xs
  | [], [] => rfl
  | g :: gs, x :: xs => by rw [rowsN, List.map_append, NestC.shift_row, rowsN_shift, List.map_cons, rowsN]
  | [], _ :: _ => rfl
  | _ :: _, [] => rfl

/-- The list lies in block b, its elements' lists in gs, all of them in [lo, hi). -/
structure Nest (h : Heap) (lo hi b : Nat) (gs : List Nat) (xs : List α) : Prop where
  len : gs.length = xs.length
  row : getCells h b (xs.length * Pic.z α) = some (rowsN gs xs)
  kids : ∀ (i : Nat) (g : Nat) (x : α), gs[i]? = some g → xs[i]? = some x → getCells h g (kid x).length = some (rows (kid x))
  nd : (b :: gs).Nodup
  bd : ∀ g, g ∈ b :: gs → lo ≤ g ∧ g < hi
  top : hi ≤ h.length

def NestV (h : Heap) (lo hi : Nat) (v : V) (xs : List α) : Prop := ∃ b gs, v = .hsl b (xs.length * Pic.z α) 0 (Pic.z α) true xs.length ∧ Nest h lo hi b gs xs

theorem snapA_rowsN' : ∀ {gs : List Nat} {xs : List α}, gs.length = xs.length → (∀ (i : Nat) (g : Nat) (x : α), gs[i]? = some g → xs[i]? = some x → getCells h g (kid x).length = some (rows (kid x))) →
    snapA (n + 3) false h (rowsN gs xs) = some (xs.flatMap fun x => (enc x).cells)
  | [], [], _, _ => rfl
  | g :: gs, x :: xs, hl, hk => by
    simp only [List.length_cons, Nat.add_right_cancel_iff] at hl
    rw [rowsN, snapA_append, NestC.snap_row (hk 0 g x rfl rfl), snapA_rowsN' hl (fun i g x h1 h2 => hk (i + 1) g x h1 h2)]
    rfl
  | [], _ :: _, h, _ => by simp at h
  | _ :: _, [], h, _ => by simp at h

theorem snap_nest (hv : NestV h lo hi v xs) : snap (n + 4) false h v = some (.sl (Pic.z α) (xs.map enc)) := by
  obtain ⟨b, gs, rfl, hn⟩ := hv
  rw [snap_hsl]
  by_cases h0 : xs.length = 0
  · rw [if_pos h0]
    obtain rfl := List.eq_nil_of_length_eq_zero h0
    rfl
  · rw [if_neg h0, hn.row, Option.bind_some, List.drop_zero, List.take_of_length_le (by rw [rowsN_len hn.len]; exact Nat.le_refl _), snapA_rowsN' hn.len hn.kids, Option.bind_some]
    have := mkRows_rows (xs := xs)
    rw [NestC.ag] at this
    exact this

theorem nest_lt (hv : NestV h lo hi v xs) : lo < hi ∧ hi ≤ h.length := by
  obtain ⟨b, gs, rfl, hn⟩ := hv
  have := hn.bd b (by simp)
  exact ⟨by omega, hn.top⟩

theorem nest_lenS (hv : NestV h lo hi v xs) : lenS v = some xs.length := by
  obtain ⟨b, gs, rfl, hn⟩ := hv
  rfl

/-- Blocks outside [lo, hi) are as they were. -/
structure KeepI (lo hi : Nat) (h h' : Heap) : Prop where
  len : h.length ≤ h'.length
  at_ : ∀ b, b < h.length → b < lo ∨ hi ≤ b → h'[b]? = h[b]?

theorem nest_same (hv : NestV h lo hi v xs) (hl : h.length ≤ h'.length) (hk : ∀ b, lo ≤ b → b < hi → h'[b]? = h[b]?) : NestV h' lo hi v xs := by
  obtain ⟨b, gs, rfl, hn⟩ := hv
  refine ⟨b, gs, rfl, hn.len, ?_, ?_, hn.nd, hn.bd, Nat.le_trans hn.top hl⟩
  · have := hn.bd b (by simp)
    rw [getCells_congr (hk b this.1 this.2)]
    exact hn.row
  · intro i g x h1 h2
    have := hn.bd g (List.mem_cons_of_mem _ (List.mem_of_getElem? h1))
    rw [getCells_congr (hk g this.1 this.2)]
    exact hn.kids i g x h1 h2

theorem nest_keep {B : List Nat} (hv : NestV h lo hi v xs) (hk : Keep B h h') (hB : ∀ b, b ∈ B → b < lo ∨ hi ≤ b) : NestV h' lo hi v xs :=
  nest_same hv hk.len fun b h1 h2 => hk.at_ b (by have := (nest_lt hv).2; omega) fun hm => by have := hB b hm; omega

theorem nest_keepI {l2 h2 : Nat} (hv : NestV h lo hi v xs) (hk : KeepI l2 h2 h h') (hd : hi ≤ l2 ∨ h2 ≤ lo) : NestV h' lo hi v xs :=
  nest_same hv hk.len fun b h1 h2 => hk.at_ b (by have := (nest_lt hv).2; omega) (by omega)

theorem keepI_get {l2 h2 g : Nat} (hk : KeepI l2 h2 h h') (hlt : b < h.length) (hb : b < l2 ∨ h2 ≤ b) : getCells h' b g = getCells h b g := getCells_congr (hk.at_ b hlt hb)
theorem keepI_lt {l2 h2 : Nat} (hk : KeepI l2 h2 h h') (hlt : b < h.length) : b < h'.length := Nat.lt_of_lt_of_le hlt hk.len

theorem moved_cells {cs : List V} (hg : cs.all V.good = true) {g : Nat} (hc : getCells H2 b g = some cs) : getCells (h ++ H2.map (Slot.move h.length)) (b + h.length) g = some (cs.map (V.shift h.length)) := by
  unfold getCells at hc ⊢
  rw [moved_at rfl]
  cases hb : H2[b]? with
  | none => rw [hb] at hc; cases hc
  | some s =>
    rw [hb] at hc
    cases s with
    | cells ds =>
      simp only at hc
      split at hc
      · rename_i hl
        cases hc
        simp only [Option.map_some, Slot.move, hg, if_true, List.length_map]
        rw [if_pos hl]
      · cases hc
    | virt =>
      simp only at hc
      split at hc
      · rename_i hl
        cases hc
        simp only [Option.map_some, Slot.move, hl, if_true, List.map_nil]
      · cases hc
    | _ => cases hc

theorem nest_moved (hv : NestV H2 lo hi v xs) : NestV (h ++ H2.map (Slot.move h.length)) (lo + h.length) (hi + h.length) (v.shift h.length) xs := by
  obtain ⟨b, gs, rfl, hn⟩ := hv
  refine ⟨b + h.length, gs.map (· + h.length), rfl, by rw [List.length_map]; exact hn.len, ?_, ?_, ?_, ?_, ?_⟩
  · rw [moved_cells rowsN_good hn.row, rowsN_shift]
  · intro i g x h1 h2
    rw [List.getElem?_map] at h1
    obtain ⟨g', h3, rfl⟩ := Option.map_eq_some_iff.1 h1
    exact moved_rows (hn.kids i g' x h3 h2)
  · have := hn.nd
    rw [show (b + h.length) :: gs.map (· + h.length) = (b :: gs).map (· + h.length) from rfl]
    exact List.pairwise_map.2 (List.Pairwise.imp (fun hne he => hne (Nat.add_right_cancel he)) this)
  · intro g hg
    rw [show (b + h.length) :: gs.map (· + h.length) = (b :: gs).map (· + h.length) from rfl] at hg
    obtain ⟨g', h1, rfl⟩ := List.mem_map.1 hg
    have := hn.bd g' h1
    omega
  · rw [List.length_append, List.length_map]
    have := hn.top
    omega

theorem nest_handed (hv : NestV h lo hi v xs) : v.good = true := by
  obtain ⟨b, gs, rfl, hn⟩ := hv
  rfl

theorem nest_ext {l : Heap} (hv : NestV h lo hi v xs) : NestV (h ++ l) lo hi v xs :=
  nest_same hv (by simp) fun b _ h2 => List.getElem?_append_left (by have := (nest_lt hv).2; omega)

theorem nest_set {c : Nat} {s : Slot} (hv : NestV h lo hi v xs) (hc : c < lo ∨ hi ≤ c) : NestV (h.set c s) lo hi v xs :=
  nest_same hv (by simp) fun b h1 h2 => List.getElem?_set_ne (by omega)

theorem nest_wide {lo' hi' : Nat} (hv : NestV h lo hi v xs) (h1 : lo' ≤ lo) (h2 : hi ≤ hi') (h3 : hi' ≤ h.length) : NestV h lo' hi' v xs := by
  obtain ⟨b, gs, rfl, hn⟩ := hv
  exact ⟨b, gs, rfl, hn.len, hn.row, hn.kids, hn.nd, fun g hg => by have := hn.bd g hg; omega, h3⟩

theorem nest_virt {h : Heap} (hc : getCells h b 0 = some []) (h1 : lo ≤ b) (h2 : b < hi) (h3 : hi ≤ h.length) : NestV h lo hi (.hsl b 0 0 (Pic.z α) true 0) ([] : List α) :=
  ⟨b, [], by simp, rfl, by simpa [rowsN] using hc, fun i g x hg => by simp at hg, by simp, fun g hg => by simp at hg; omega, h3⟩

theorem cells_lt {g : Nat} {cs : List V} (hc : getCells h b g = some cs) : b < h.length := gc_lt hc

theorem set_cells {c : Nat} {cs ds : List V} (hc : getCells h b c = some cs) (hl : ds.length = n) : getCells (h.set b (.cells ds)) b n = some ds := by
  unfold getCells
  rw [List.getElem?_set_self (gc_lt hc)]
  simp only [hl, if_true]

/-- One element more, its list in block g. -/
theorem app_nest {y g : Nat} {zs : List α} {K : V × Heap → Prop} (hv : NestV h lo hi v xs) (hz : app? y xs [x] = some zs) (hg : getCells h g (kid x).length = some (rows (kid x))) (hgt : hi ≤ g)
    (hK : ∀ v' h', KeepI lo hi h h' → NestV h' lo (g + 1) v' zs → K (v', h')) : @WO _ (stepAppend none (Pic.z α) true y h (rowN g x) 1 v) ⟨K⟩ := by
  obtain ⟨hk1, rfl, hk2⟩ := app_some hz
  obtain ⟨b, gs, rfl, hn⟩ := hv
  have hb := hn.bd b (by simp)
  have hbl := gc_lt hn.row
  have hglt := gc_lt hg
  have hgb : g ≠ b := by omega
  refine ⟨(.hsl b (xs.length * Pic.z α + 1 * Pic.z α) 0 (Pic.z α) true (xs.length + 1), h.set b (.cells (rowsN gs xs ++ rowN g x))), ?_, ?_⟩
  · rw [app_hsl, if_pos ⟨.inl rfl, rfl⟩, hn.row, Option.bind_some, if_neg (by decide), if_pos (by simp at hk1; omega), if_pos rfl]
  · refine hK _ _ ⟨by simp, fun c hc hlo => List.getElem?_set_ne (by omega)⟩ ⟨b, gs ++ [g], ?_, ?_, ?_, ?_, ?_, ?_, ?_⟩
    · simp only [List.length_append, List.length_cons, List.length_nil, Nat.zero_add, Nat.add_mul, Nat.one_mul]
    · simp [hn.len]
    · rw [rowsN_append hn.len, set_cells hn.row]
      · simp [rowsN]
      · rw [List.length_append, rowsN_len hn.len, NestC.len_row]
        simp [Nat.add_mul]
    · intro i g' x' h1 h2
      have hne : g' ≠ b := by
        rcases Nat.lt_or_ge i gs.length with hi' | hi'
        · rw [List.getElem?_append_left hi'] at h1
          have := hn.nd
          intro e
          subst e
          exact (List.nodup_cons.1 this).1 (List.mem_of_getElem? h1)
        · rw [List.getElem?_append_right hi'] at h1
          have : i - gs.length = 0 := by
            rcases Nat.eq_zero_or_pos (i - gs.length) with h0 | h0
            · exact h0
            · rw [List.getElem?_eq_none (by simp; omega)] at h1; cases h1
          rw [this] at h1
          simp at h1
          omega
      rw [getCells_congr (List.getElem?_set_ne (Ne.symm hne))]
      rcases Nat.lt_or_ge i gs.length with hi' | hi'
      · rw [List.getElem?_append_left hi'] at h1
        rw [List.getElem?_append_left (by rw [← hn.len]; exact hi')] at h2
        exact hn.kids i g' x' h1 h2
      · rw [List.getElem?_append_right hi'] at h1
        rw [List.getElem?_append_right (by rw [← hn.len]; exact hi')] at h2
        have : i - gs.length = 0 := by
          rcases Nat.eq_zero_or_pos (i - gs.length) with h0 | h0
          · exact h0
          · rw [List.getElem?_eq_none (by simp; omega)] at h1; cases h1
        rw [this] at h1
        rw [← hn.len, this] at h2
        simp at h1 h2
        subst h1 h2
        exact hg
    · have hnd := hn.nd
      rw [List.nodup_cons] at hnd ⊢
      refine ⟨by simp only [List.mem_append, List.mem_singleton, not_or]; exact ⟨hnd.1, Ne.symm hgb⟩, ?_⟩
      rw [List.nodup_append]
      refine ⟨hnd.2, by simp, fun a ha c hc => ?_⟩
      have := hn.bd a (List.mem_cons_of_mem _ ha)
      simp at hc
      omega
    · intro g' hg'
      simp only [List.mem_cons, List.mem_append, List.not_mem_nil, or_false] at hg'
      have : g' = g ∨ g' ∈ b :: gs := by
        rcases hg' with h1 | h1 | h1
        · exact .inr (by simp [h1])
        · exact .inr (List.mem_cons_of_mem _ h1)
        · exact .inl h1
      rcases this with rfl | h1
      · omega
      · have := hn.bd g' h1
        omega
    · rw [List.length_set]
      omega

/-- The same, with what is known of the heap held together. -/
theorem app_nest_f {y g : Nat} {zs : List α} {K : V × Heap → Prop} (F : Heap → Prop) (hF : F h) (hv : ∀ h, F h → NestV h lo hi v xs) (hz : app? y xs [x] = some zs) (hg : ∀ h, F h → getCells h g (kid x).length = some (rows (kid x))) (hgt : hi ≤ g)
    (hK : ∀ h v' h', F h → KeepI lo hi h h' → NestV h' lo (g + 1) v' zs → K (v', h')) : @WO _ (stepAppend none (Pic.z α) true y h (rowN g x) 1 v) ⟨K⟩ :=
  app_nest (hv h hF) hz (hg h hF) hgt fun v' h' => hK h v' h' hF

end

section
variable {α : Type} [Pic α] [NestC α] {h h' H2 : Heap} {b lo hi n k : Nat} {gs : List Nat} {x : α} {xs : List α} {v : V} {z0 : List V}

def ZR (z0 : List V) (n : Nat) : List V := (List.replicate n z0).flatten
theorem ZR_succ : ZR z0 (n + 1) = z0 ++ ZR z0 n := by simp [ZR, List.replicate_succ]
theorem ZR_len : (ZR z0 n).length = n * z0.length := by simp [ZR]

/-- A list whose first elements are laid, and k empty ones behind them. -/
structure NestZ (z0 : List V) (k : Nat) (h : Heap) (b : Nat) (gs : List Nat) (xs : List α) : Prop where
  len : gs.length = xs.length
  row : getCells h b ((xs.length + k) * Pic.z α) = some (rowsN gs xs ++ ZR z0 k)
  kids : ∀ (i : Nat) (g : Nat) (x : α), gs[i]? = some g → xs[i]? = some x → getCells h g (kid x).length = some (rows (kid x))
  nd : gs.Nodup
  bd : ∀ g, g ∈ gs → b < g ∧ g < h.length

def NZ (z0 : List V) (k : Nat) (h : Heap) (b : Nat) (xs : List α) : Prop := ∃ gs, NestZ z0 k h b gs xs

theorem nz_row (hv : NZ z0 k h b xs) : ∃ gs : List Nat, gs.length = xs.length ∧ getCells h b ((xs.length + k) * Pic.z α) = some (rowsN gs xs ++ ZR z0 k) := by
  obtain ⟨gs, hn⟩ := hv
  exact ⟨gs, hn.len, hn.row⟩

theorem nz_lt (hv : NZ z0 k h b xs) : b < h.length := by
  obtain ⟨gs, hn⟩ := hv
  exact gc_lt hn.row

theorem nz_same (hv : NZ z0 k h b xs) (hl : h.length ≤ h'.length) (hk : ∀ c, b ≤ c → c < h.length → h'[c]? = h[c]?) : NZ z0 k h' b xs := by
  obtain ⟨gs, hn⟩ := hv
  refine ⟨gs, hn.len, ?_, ?_, hn.nd, fun g hg => by have := hn.bd g hg; omega⟩
  · rw [getCells_congr (hk b (Nat.le_refl _) (gc_lt hn.row))]
    exact hn.row
  · intro i g x h1 h2
    have := hn.bd g (List.mem_of_getElem? h1)
    rw [getCells_congr (hk g (by omega) this.2)]
    exact hn.kids i g x h1 h2

theorem nz_keep (hv : NZ z0 k h b xs) (hk : Keep [] h h') : NZ z0 k h' b xs := nz_same hv hk.len fun c _ h2 => hk.at_ c h2 (by simp)

theorem nz_new (hl : z0.length = Pic.z α) (hc : getCells h b (n * Pic.z α) = some (ZR z0 n)) : NZ z0 n h b ([] : List α) :=
  ⟨[], rfl, by simpa [rowsN] using hc, fun i g x hg => by simp at hg, by simp, by simp⟩

/-- One element is laid. -/
theorem nz_put {g : Nat} (hl : z0.length = Pic.z α) (hv : NestZ z0 (k + 1) h b gs xs) (hg : getCells h g (kid x).length = some (rows (kid x))) (hgb : b < g) (hgs : g ∉ gs) {cs : List V}
    (hcs : cs = List.take (xs.length * Pic.z α) (rowsN gs xs ++ ZR z0 (k + 1)) ++ (rowN g x ++ List.drop (xs.length * Pic.z α + Pic.z α) (rowsN gs xs ++ ZR z0 (k + 1)))) : NZ z0 k (h.set b (.cells cs)) b (xs ++ [x]) := by
  have hlen := rowsN_len hv.len
  have e : cs = rowsN (gs ++ [g]) (xs ++ [x]) ++ ZR z0 k := by
    rw [hcs, rowsN_append hv.len, List.take_append_of_le_length (by omega), List.take_of_length_le (by omega), ← List.drop_drop, List.drop_left' hlen, ZR_succ, List.drop_left' hl]
    simp [rowsN]
  have hbl := gc_lt hv.row
  have hgl := gc_lt hg
  refine ⟨gs ++ [g], ?_, ?_, ?_, ?_, ?_⟩
  · simp [hv.len]
  · rw [e, set_cells hv.row]
    rw [List.length_append, rowsN_len (by simp [hv.len]), ZR_len, hl, Nat.add_mul]
  · intro i g' x' h1 h2
    rcases Nat.lt_or_ge i gs.length with hi' | hi'
    · rw [List.getElem?_append_left hi'] at h1
      rw [List.getElem?_append_left (by rw [← hv.len]; exact hi')] at h2
      have := hv.bd g' (List.mem_of_getElem? h1)
      rw [getCells_congr (List.getElem?_set_ne (by omega))]
      exact hv.kids i g' x' h1 h2
    · rw [List.getElem?_append_right hi'] at h1
      rw [List.getElem?_append_right (by rw [← hv.len]; exact hi')] at h2
      have : i - gs.length = 0 := by
        rcases Nat.eq_zero_or_pos (i - gs.length) with h0 | h0
        · exact h0
        · rw [List.getElem?_eq_none (by simp; omega)] at h1; cases h1
      rw [this] at h1
      rw [← hv.len, this] at h2
      simp at h1 h2
      subst h1 h2
      rw [getCells_congr (List.getElem?_set_ne (by omega))]
      exact hg
  · rw [List.nodup_append]
    refine ⟨hv.nd, by simp, fun a ha c hc => ?_⟩
    simp at hc
    rintro rfl
    subst hc
    exact hgs ha
  · intro g' hg'
    rw [List.length_set]
    rcases List.mem_append.1 hg' with h1 | h1
    · exact hv.bd g' h1
    · simp at h1
      subst h1
      exact ⟨hgb, hgl⟩

theorem nz_done (hv : NZ z0 0 h b xs) : NestV h b h.length (.hsl b (xs.length * Pic.z α) 0 (Pic.z α) true xs.length) xs := by
  obtain ⟨gs, hn⟩ := hv
  have := gc_lt hn.row
  refine ⟨b, gs, rfl, hn.len, ?_, hn.kids, ?_, ?_, Nat.le_refl _⟩
  · have h1 := hn.row
    simpa [ZR] using h1
  · rw [List.nodup_cons]
    exact ⟨fun hm => by have := hn.bd b hm; omega, hn.nd⟩
  · intro g hg
    rcases List.mem_cons.1 hg with rfl | h1
    · omega
    · have := hn.bd g h1
      omega
end

theorem loopP_outQ {σ ρ : Type} {step : σ → Option (Lp σ ρ)} {Q : σ → Prop} {s o : σ} (hp : loopP step s = some (.out o)) (hq : ∀ s o, step s = some (.out o) → Q o) : Q o := by
  obtain ⟨n, hn⟩ := loopP_n hp
  clear hp
  induction n generalizing s with
  | zero => simp [loopN] at hn
  | succ n ih =>
    rw [loopN] at hn
    obtain ⟨p, h1, hn⟩ := Option.bind_eq_some_iff.1 hn
    cases p with
    | go s' => exact ih hn
    | out s' => cases hn; exact hq _ _ h1
    | ret r => cases hn

section
variable {α : Type} [Pic α] [NestC α] {h H2 : Heap} {lo hi : Nat} {xs : List α} {v : V}
theorem nest_hand (hv : NestV h lo hi v xs) : v.handed = true := by
  obtain ⟨b, gs, rfl, hn⟩ := hv
  rfl
theorem nest_movedO (hv : NestV H2 0 H2.length v xs) : NestV (h ++ H2.map (Slot.move h.length)) h.length (h ++ H2.map (Slot.move h.length)).length (v.shift h.length) xs := by
  have := nest_moved (h := h) hv
  rw [List.length_append, List.length_map, Nat.add_comm h.length]
  rwa [Nat.zero_add] at this
theorem nest_tells (hv : NestV h lo hi v xs) : Tells false xs v h := by
  unfold Tells
  rw [snap_nest (n := 5) hv, Option.bind_some]
  exact dec_enc xs
end

section
variable {α : Type} [Pic α] [NestC α] {h h' : Heap} {lo hi b : Nat} {gs : List Nat} {x y : α} {xs ys : List α}

theorem get_mid {β : Type} {xs ys : List β} {x y : β} {i : Nat} (hi : i ≠ xs.length) : (xs ++ x :: ys)[i]? = (xs ++ y :: ys)[i]? := by
  rcases Nat.lt_or_ge i xs.length with h1 | h1
  · rw [List.getElem?_append_left h1, List.getElem?_append_left h1]
  · rw [List.getElem?_append_right h1, List.getElem?_append_right h1]
    obtain ⟨k, hk⟩ : ∃ k, i - xs.length = k + 1 := ⟨i - xs.length - 1, by omega⟩
    rw [hk, List.getElem?_cons_succ, List.getElem?_cons_succ]

/-- One row of a list, open. -/
theorem nest_open (hn : Nest h lo hi b gs (xs ++ x :: ys)) : ∃ (A B : List V) (g : Nat), A.length = xs.length * Pic.z α ∧ B.length = ys.length * Pic.z α ∧
    getCells h b ((xs.length + (ys.length + 1)) * Pic.z α) = some (A ++ (rowN g x ++ B)) ∧ getCells h g (kid x).length = some (rows (kid x)) ∧ lo ≤ g ∧ g < hi ∧ g ≠ b ∧ lo ≤ b ∧ b < hi ∧ hi ≤ h.length ∧
    ∀ (h' : Heap) (y : α), h.length ≤ h'.length → (∀ c, c < h.length → c ≠ b → c ≠ g → h'[c]? = h[c]?) → getCells h' b ((xs.length + (ys.length + 1)) * Pic.z α) = some (A ++ (rowN g y ++ B)) →
      getCells h' g (kid y).length = some (rows (kid y)) → Nest h' lo hi b gs (xs ++ y :: ys) := by
  have hl := hn.len
  simp only [List.length_append, List.length_cons] at hl
  obtain ⟨g1, gs', rfl, h1⟩ : ∃ g1 gs', gs = g1 ++ gs' ∧ g1.length = xs.length := ⟨gs.take xs.length, gs.drop xs.length, (List.take_append_drop _ _).symm, by simp; omega⟩
  cases gs' with
  | nil => simp at hl; omega
  | cons g g2 =>
    have h2 : g2.length = ys.length := by simp at hl; omega
    have hrow := hn.row
    rw [rowsN_append h1, rowsN, List.length_append, List.length_cons] at hrow
    have hnd := hn.nd
    have hg := hn.bd g (by simp)
    have hb := hn.bd b (by simp)
    have hgat : (g1 ++ g :: g2)[xs.length]? = some g := by rw [List.getElem?_append_right (by omega), h1, Nat.sub_self]; rfl
    have hgb : g ≠ b := fun e => (List.nodup_cons.1 hnd).1 (by rw [← e]; simp)
    refine ⟨rowsN g1 xs, rowsN g2 ys, g, rowsN_len h1, rowsN_len h2, hrow, hn.kids xs.length g x hgat (by rw [List.getElem?_append_right (Nat.le_refl _), Nat.sub_self]; rfl), hg.1, hg.2, hgb, hb.1, hb.2, hn.top, ?_⟩
    intro h' y hlen hk hr' hg'
    refine ⟨by simp only [List.length_append, List.length_cons]; omega, ?_, ?_, hnd, hn.bd, Nat.le_trans hn.top hlen⟩
    · rw [rowsN_append h1, rowsN, List.length_append, List.length_cons]
      exact hr'
    · intro i g' x' e1 e2
      by_cases hi' : i = xs.length
      · subst hi'
        rw [hgat] at e1
        rw [List.getElem?_append_right (Nat.le_refl _), Nat.sub_self] at e2
        simp at e1 e2
        subst e1 e2
        exact hg'
      · rw [get_mid (y := x) hi'] at e2
        have hm : g' ∈ g1 ++ g :: g2 := List.mem_of_getElem? e1
        have hne : g' ≠ g := by
          rintro rfl
          exact hi' ((List.getElem?_inj (List.getElem?_eq_some_iff.1 e1).1 (List.nodup_cons.1 hnd).2).1 (e1.trans hgat.symm))
        have hnb : g' ≠ b := fun e => (List.nodup_cons.1 hnd).1 (by rw [← e]; exact hm)
        have := hn.bd g' (List.mem_cons_of_mem _ hm)
        have := hn.top
        rw [getCells_congr (hk g' (by omega) hnb hne)]
        exact hn.kids i g' x' e1 e2

theorem take_at {A L : List V} {a k : Nat} (ha : A.length = a) : List.take (a + k) (A ++ L) = A ++ List.take k L := by
  subst ha
  rw [List.take_append, List.take_of_length_le (Nat.le_add_right _ _), Nat.add_sub_cancel_left]
theorem take_at0 {A L : List V} {a : Nat} (ha : A.length = a) : List.take a (A ++ L) = A := by
  subst ha
  exact List.take_left
theorem drop_at {A L : List V} {a k : Nat} (ha : A.length = a) : List.drop (a + k) (A ++ L) = List.drop k L := by
  subst ha
  rw [← List.drop_drop, List.drop_left]
theorem drop_at0 {A L : List V} {a : Nat} (ha : A.length = a) : List.drop a (A ++ L) = L := by
  subst ha
  exact List.drop_left
theorem drop_at2 {A L : List V} {a k m : Nat} (ha : A.length = a) : List.drop (a + k + m) (A ++ L) = List.drop (k + m) L := by
  rw [Nat.add_assoc]
  exact drop_at ha
end

theorem take_at2 {A L : List V} {a k m : Nat} (ha : A.length = a) : List.take (a + k + m) (A ++ L) = A ++ List.take (k + m) L := by
  rw [Nat.add_assoc]
  exact take_at ha
theorem drop_at3 {A L : List V} {a k m n : Nat} (ha : A.length = a) : List.drop (a + k + m + n) (A ++ L) = List.drop (k + m + n) L := by
  rw [Nat.add_assoc a, Nat.add_assoc]
  exact drop_at ha
theorem keepI_refl {lo hi : Nat} {h : Heap} : KeepI lo hi h h := ⟨Nat.le_refl _, fun _ _ _ => rfl⟩
theorem keepI_set {lo hi b : Nat} {h h1 : Heap} {s : Slot} (hb : lo ≤ b ∧ b < hi) (hk : KeepI lo hi h h1) : KeepI lo hi h (h1.set b s) :=
  ⟨by rw [List.length_set]; exact hk.len, fun c hc hn => by rw [List.getElem?_set_ne (by omega)]; exact hk.at_ c hc hn⟩
theorem keepI_trans {lo hi : Nat} {h h1 h2 : Heap} (hk : KeepI lo hi h h1) (hk2 : KeepI lo hi h1 h2) : KeepI lo hi h h2 :=
  ⟨Nat.le_trans hk.len hk2.len, fun c hc hn => by rw [hk2.at_ c (Nat.lt_of_lt_of_le hc hk.len) hn]; exact hk.at_ c hc hn⟩
end Go.AM

set_option linter.unusedVariables false
set_option linter.unusedSimpArgs false
namespace Go.AM
open Pic (enc dec dec_enc dec_sub)
open PicA (encA decA decA_encA decA_sub)

structure TBook where
  of_ : List (List TOp)
  kind : List Int
  size : Int
  top : TStamp
  h1 : of_.length = 16
  h2 : kind.length = 101

def TBook.nums (k : TBook) : List Int := k.kind ++ [k.size, k.top.time, k.top.actor]
def bookC (k : TBook) : List I := k.of_.map enc ++ k.nums.map enc

theorem nums_len' {k : TBook} : k.nums.length = 104 := by simp [TBook.nums, k.h2]
theorem bookC_len {k : TBook} : (bookC k).length = 120 := by simp [bookC, nums_len', k.h1]

def mkBook (o : List (List TOp)) (ns : List Int) : Option TBook :=
  match ns.drop 101 with
  | [n, a, b] => if h : o.length = 16 ∧ (ns.take 101).length = 101 then some ⟨o, ns.take 101, n, ⟨a, b⟩, h.1, h.2⟩ else none
  | _ => none

theorem mkBook_nums {k : TBook} : mkBook k.of_ k.nums = some k := by
  obtain ⟨o, ks, n, ⟨a, b⟩, h1, h2⟩ := k
  have e1 : (ks ++ [n, a, b]).take 101 = ks := List.take_left' h2
  have e2 : (ks ++ [n, a, b]).drop 101 = [n, a, b] := List.drop_left' h2
  show mkBook o (ks ++ [n, a, b]) = _
  unfold mkBook
  rw [e2]
  dsimp only
  rw [dif_pos ⟨h1, by rw [e1]; exact h2⟩]
  simp only [e1]

theorem mkBook_eq {o : List (List TOp)} {ns : List Int} {k : TBook} (h : mkBook o ns = some k) : k.of_ = o ∧ k.nums = ns := by
  unfold mkBook at h
  split at h
  · rename_i n a b e
    split at h
    · cases h
      refine ⟨rfl, ?_⟩
      simp only [TBook.nums]
      rw [← e]
      exact List.take_append_drop _ _
    · cases h
  · cases h

def decBk (cs : List I) : Option TBook := (decL (cs.take 16)).bind fun o => (decL (cs.drop 16)).bind fun ns => mkBook o ns

def decOB : I → Option (Option TBook)
  | .s (.pointer none) => some none
  | .ip cs => (decBk cs).map some
  | _ => none

theorem decBk_enc {k : TBook} : decBk (bookC k) = some k := by
  unfold decBk bookC
  rw [List.take_left' (by rw [List.length_map]; exact k.h1), List.drop_left' (by rw [List.length_map]; exact k.h1), decL_enc, Option.bind_some, decL_enc, Option.bind_some, mkBook_nums]

def encOB : Option TBook → I
  | none => .s (.pointer none)
  | some k => .ip (bookC k)

instance : Pic (Option TBook) where
  z := 1
  ag := false
  enc := encOB
  dec := decOB
  dec_enc x := by cases x <;> simp [encOB, decOB, decBk_enc]
  len x := by cases x <;> rfl
  pos := by decide
  one := .inr rfl
  row x := by cases x <;> rfl
  dec_sub x a h := by
    unfold decOB at h
    split at h
    · cases h; exact .refl _
    · rename_i cs
      obtain ⟨k, h1, rfl⟩ := Option.map_eq_some_iff.1 h
      unfold decBk at h1
      obtain ⟨o, h2, h1⟩ := Option.bind_eq_some_iff.1 h1
      obtain ⟨ns, h3, h1⟩ := Option.bind_eq_some_iff.1 h1
      obtain ⟨rfl, rfl⟩ := mkBook_eq h1
      have := (decL_sub _ _ h2).append (decL_sub _ _ h3)
      rw [List.take_append_drop] at this
      exact .ip this
    · cases h

theorem enc_ob {k : TBook} : enc (some k) = .ip (bookC k) := rfl
theorem enc_on : enc (none : Option TBook) = .s (.pointer none) := rfl
theorem dec_ob {k : TBook} : (dec (.ip (bookC k)) : Option (Option TBook)) = some (some k) := dec_enc (some k)
theorem dec_on : (dec (.s (.pointer none)) : Option (Option TBook)) = some none := rfl
theorem ofI_ob {x : Option TBook} : ofI (enc x) = .i (enc x) := by cases x <;> rfl
theorem cells_ob {x : Option TBook} : V.cells (.i (enc x)) = [.i (enc x)] := by cases x <;> rfl

def TBook.setOf (k : TBook) (i : Nat) (xs : List TOp) : TBook := ⟨k.of_.set i xs, k.kind, k.size, k.top, by rw [List.length_set]; exact k.h1, k.h2⟩
def TBook.setKind (k : TBook) (i : Nat) (n : Int) : TBook := ⟨k.of_, k.kind.set i n, k.size, k.top, k.h1, by rw [List.length_set]; exact k.h2⟩
def TBook.setSize (k : TBook) (n : Int) : TBook := ⟨k.of_, k.kind, n, k.top, k.h1, k.h2⟩
def TBook.setTop (k : TBook) (s : TStamp) : TBook := ⟨k.of_, k.kind, k.size, s, k.h1, k.h2⟩
def book0 : TBook := ⟨List.replicate 16 [], List.replicate 101 0, 0, ⟨0, 0⟩, rfl, rfl⟩

theorem idxA_ptr {z k b g o : Nat} : stepIdxA z k (.ptr b g o) = some (.ptr b g (o + k * z)) := rfl
theorem idxA_ip {z k : Nat} {cs : List I} : stepIdxA z k (.i (.ip cs)) = if k * z < cs.length then some (.i (.ip (cs.drop (k * z)))) else none := rfl

/-- A list in a block of its own, or none yet. -/
def OwnL (h : Heap) (v : V) (xs : List TOp) : Prop :=
  (v = .i (.s (.slice none 0 0)) ∧ xs = []) ∨ ∃ c, v = .hsl c (xs.length * 12) 0 12 true xs.length ∧ getCells h c (xs.length * 12) = some (rows xs)

def BR (k : TBook) : List V := k.nums.map fun n => .i (iN n)
theorem BR_len {k : TBook} : (BR k).length = 104 := by simp [BR, nums_len']

structure BookV (h : Heap) (b : Nat) (k : TBook) (vs : List V) : Prop where
  len : vs.length = 16
  row : getCells h b 120 = some (vs ++ BR k)
  own : ∀ (i : Nat) (v : V) (xs : List TOp), vs[i]? = some v → k.of_[i]? = some xs → OwnL h v xs
  ne : ∀ (i c g o z : Nat) (ag : Bool) (n : Nat), vs[i]? = some (.hsl c g o z ag n) → c ≠ b
  nd : ∀ (i j c g g' : Nat) (o o' z z' : Nat) (ag ag' : Bool) (n n' : Nat), vs[i]? = some (.hsl c g o z ag n) → vs[j]? = some (.hsl c g' o' z' ag' n') → i = j

def BookAt (h : Heap) (b : Nat) (k : TBook) : Prop := ∃ vs, BookV h b k vs

section
variable {h h' : Heap} {b n : Nat} {k : TBook} {vs : List V} {v : V} {xs : List TOp}

theorem ownL_lenS (ho : OwnL h v xs) : lenS v = some xs.length := by
  rcases ho with ⟨rfl, rfl⟩ | ⟨c, rfl, _⟩ <;> rfl
theorem ownL_idx {x : TOp} {i : Int} (ho : OwnL h v xs) (hx : get? xs i = some x) : ∃ c, v = .hsl c (xs.length * 12) 0 12 true xs.length ∧ getCells h c (xs.length * 12) = some (rows xs) := by
  rcases ho with ⟨rfl, rfl⟩ | ho
  · have := (get_some hx).2.2
    simp at this
  · exact ho
theorem ownL_same (ho : OwnL h v xs) (hk : ∀ c, c < h.length → h'[c]? = h[c]?) : OwnL h' v xs := by
  rcases ho with ho | ⟨c, rfl, hc⟩
  · exact .inl ho
  · exact .inr ⟨c, rfl, by rw [getCells_congr (hk c (gc_lt hc))]; exact hc⟩
theorem ownL_snap (ho : OwnL h v xs) : ∃ y, snap (n + 2) false h v = some y ∧ (dec y : Option (List TOp)) = some xs := by
  rcases ho with ⟨rfl, rfl⟩ | ⟨c, rfl, hc⟩
  · exact ⟨_, snap_i, rfl⟩
  · exact ⟨_, snap_rows hc rfl rfl rfl, dec_enc xs⟩

theorem bookV_same (hv : BookV h b k vs) (hk : ∀ c, c < h.length → h'[c]? = h[c]?) : BookV h' b k vs :=
  ⟨hv.len, by rw [getCells_congr (hk b (gc_lt hv.row))]; exact hv.row, fun i v xs h1 h2 => ownL_same (hv.own i v xs h1 h2) hk, hv.ne, hv.nd⟩
theorem book_ext {l : Heap} (hv : BookAt h b k) : BookAt (h ++ l) b k := by
  obtain ⟨vs, hv⟩ := hv
  exact ⟨vs, bookV_same hv fun c hc => List.getElem?_append_left hc⟩
theorem book_keep (hv : BookAt h b k) (hk : Keep [] h h') : BookAt h' b k := by
  obtain ⟨vs, hv⟩ := hv
  exact ⟨vs, bookV_same hv fun c hc => hk.at_ c hc (by simp)⟩
theorem book_lt (hv : BookAt h b k) : b < h.length := by
  obtain ⟨vs, hv⟩ := hv
  exact gc_lt hv.row
theorem book_new (hc : getCells h b 120 = some (List.replicate 16 (.i (.s (.slice none 0 0))) ++ BR book0)) : BookAt h b book0 := by
  refine ⟨_, by simp, hc, fun i v xs h1 h2 => .inl ?_, fun i c g o z ag n h1 => ?_, fun i j c g g' o o' z z' ag ag' n n' h1 => ?_⟩
  · have := List.mem_of_getElem? h1
    have h3 := List.mem_of_getElem? h2
    simp [book0] at this h3
    exact ⟨this, h3⟩
  · have := List.mem_of_getElem? h1
    simp at this
  · have := List.mem_of_getElem? h1
    simp at this

theorem snapA_own : ∀ {vs : List V} {xss : List (List TOp)}, vs.length = xss.length → (∀ (i : Nat) (v : V) (xs : List TOp), vs[i]? = some v → xss[i]? = some xs → OwnL h v xs) →
    ∃ ys, snapA (n + 2) false h vs = some ys ∧ decL ys = some xss ∧ ys.length = vs.length
  | [], [], _, _ => ⟨[], rfl, rfl, rfl⟩
  | v :: vs, xs :: xss, hl, ho => by
    obtain ⟨y, h1, h2⟩ := ownL_snap (n := n) (ho 0 v xs rfl rfl)
    obtain ⟨ys, h3, h4, h5⟩ := snapA_own (vs := vs) (xss := xss) (by simpa using hl) fun i v xs h1 h2 => ho (i + 1) v xs h1 h2
    refine ⟨y :: ys, ?_, ?_, by simp [h5]⟩
    · rw [snapA_cons, h1, Option.bind_some, h3]; rfl
    · simp only [decL, h2, Option.bind_some, h4, Option.map_some]
  | [], _ :: _, h, _ => by simp at h
  | _ :: _, [], h, _ => by simp at h

theorem snap_book (hv : BookAt h b k) : ∃ y, snap (n + 3) false h (.ptr b 120 0) = some y ∧ (dec y : Option (Option TBook)) = some (some k) := by
  obtain ⟨vs, hv⟩ := hv
  obtain ⟨ys, h1, h2, h3⟩ := snapA_own (n := n) (h := h) (vs := vs) (xss := k.of_) (by rw [hv.len, k.h1]) hv.own
  have h4 : snapA (n + 2) false h (BR k) = some (k.nums.map enc) := by
    have : BR k = (k.nums.map enc).map V.i := by simp only [BR, List.map_map]; rfl
    rw [this]
    exact snapA_pics
  have hl : 0 < (vs ++ BR k).length := by rw [List.length_append, hv.len]; omega
  refine ⟨.ip (ys ++ k.nums.map enc), ?_, ?_⟩
  · rw [snap_ptr, hv.row, Option.bind_some, if_pos hl, List.drop_zero, snapA_append, h1, Option.bind_some, h4]
    rfl
  · show decOB _ = _
    have e1 : (ys ++ k.nums.map enc).take 16 = ys := List.take_left' (by rw [h3, hv.len])
    have e2 : (ys ++ k.nums.map enc).drop 16 = k.nums.map enc := List.drop_left' (by rw [h3, hv.len])
    simp only [decOB, decBk, e1, e2, h2, decL_enc, Option.bind_some, mkBook_nums, Option.map_some]

-- what is read and what is written
theorem ld_of {R : List V} {i : Nat} (hi : vs[i]? = some v) : List.take 1 (List.drop i (vs ++ R)) = [v] := by
  obtain ⟨hlt, he⟩ := List.getElem?_eq_some_iff.1 hi
  rw [List.drop_append_of_le_length (by omega), List.drop_eq_getElem_cons hlt, he]
  rfl
theorem ld_kind {i : Nat} {x : Int} (hl : vs.length = 16) (hi : k.kind[i]? = some x) : List.take 1 (List.drop (16 + i) (vs ++ BR k)) = [.i (.s (.int .i64 x))] := by
  rw [drop_at hl]
  obtain ⟨hlt, he⟩ := List.getElem?_eq_some_iff.1 hi
  have : (BR k)[i]? = some (.i (iN x)) := by
    unfold BR TBook.nums
    rw [List.getElem?_map, List.getElem?_append_left hlt, hi]
    rfl
  have := ld_of (R := []) this
  simpa using this
theorem ld_size (hl : vs.length = 16) : List.take 1 (List.drop 117 (vs ++ BR k)) = [.i (.s (.int .i64 k.size))] := by
  rw [show 117 = 16 + 101 from rfl, drop_at hl]
  have : (BR k)[101]? = some (.i (iN k.size)) := by
    simp [BR, TBook.nums, List.getElem?_append_right (show k.kind.length ≤ 101 by rw [k.h2]; exact Nat.le_refl _), k.h2]
  have := ld_of (R := []) this
  simpa using this
theorem BR_top : List.drop 102 (BR k) = [.i (.s (.int .i64 k.top.time)), .i (.s (.int .i64 k.top.actor))] := by
  have : (k.nums).drop 102 = [k.top.time, k.top.actor] := by
    unfold TBook.nums
    rw [show 102 = 101 + 1 from rfl, ← List.drop_drop, List.drop_left' k.h2]
    rfl
  unfold BR
  rw [← List.map_drop, this]
  rfl
theorem ld_top (hl : vs.length = 16) : List.take 2 (List.drop 118 (vs ++ BR k)) = [.i (.s (.int .i64 k.top.time)), .i (.s (.int .i64 k.top.actor))] := by
  rw [show 118 = 16 + 102 from rfl, drop_at hl, BR_top]
  rfl
theorem set_split {α : Type} {xs : List α} {i : Nat} {y : α} (hi : i < xs.length) : List.take i xs ++ y :: List.drop (i + 1) xs = xs.set i y := by
  rw [List.set_eq_take_append_cons_drop, if_pos hi]
theorem st_of {R : List V} {i : Nat} (hi : i < vs.length) : List.take i (vs ++ R) ++ v :: List.drop (i + 1) (vs ++ R) = vs.set i v ++ R := by
  rw [set_split (by rw [List.length_append]; omega), List.set_append_left _ _ hi]
theorem st_kind {i : Nat} {x : Int} (hl : vs.length = 16) (hi : i < 101) : List.take (16 + i) (vs ++ BR k) ++ .i (.s (.int .i64 x)) :: List.drop (16 + i + 1) (vs ++ BR k) = vs ++ BR (k.setKind i x) := by
  rw [set_split (by rw [List.length_append, BR_len]; omega), List.set_append_right _ _ (by omega), hl, Nat.add_sub_cancel_left]
  congr 1
  simp only [BR, TBook.nums, TBook.setKind]
  rw [← List.set_append_left _ _ (by rw [k.h2]; exact hi), List.map_set]
theorem st_size {x : Int} (hl : vs.length = 16) : List.take 117 (vs ++ BR k) ++ .i (.s (.int .i64 x)) :: List.drop 118 (vs ++ BR k) = vs ++ BR (k.setSize x) := by
  rw [set_split (i := 117) (by rw [List.length_append, BR_len]; omega), List.set_append_right _ _ (by omega), hl]
  congr 1
  simp only [BR, TBook.nums, TBook.setSize]
  have : (k.kind ++ [x, k.top.time, k.top.actor]) = (k.kind ++ [k.size, k.top.time, k.top.actor]).set 101 x := by
    rw [List.set_append_right _ _ (by rw [k.h2]; exact Nat.le_refl _), k.h2]
    rfl
  rw [this, List.map_set]
theorem st_top {s : TStamp} (hl : vs.length = 16) : List.take 118 (vs ++ BR k) ++ .i (.s (.int .i64 s.time)) :: .i (.s (.int .i64 s.actor)) :: List.drop 120 (vs ++ BR k) = vs ++ BR (k.setTop s) := by
  rw [show 118 = 16 + 102 from rfl, show 120 = 16 + 104 from rfl, take_at hl, drop_at hl, List.append_assoc]
  congr 1
  have e : List.drop 104 (BR k) = [] := List.drop_eq_nil_of_le (by rw [BR_len]; exact Nat.le_refl _)
  rw [e]
  have e2 : BR (k.setTop s) = List.take 102 (BR (k.setTop s)) ++ List.drop 102 (BR (k.setTop s)) := (List.take_append_drop _ _).symm
  rw [e2, BR_top]
  congr 1
  simp only [BR, TBook.nums, TBook.setTop, ← List.map_take]
  congr 1
  rw [show 102 = 101 + 1 from rfl, ← k.h2, List.take_length_add_append, List.take_length_add_append]
  rfl

theorem book_put {k' : TBook} {i c' : Nat} {v' : V} {ys : List TOp} (hv : BookV h b k vs) (hvi : vs[i]? = some v) (hx : k.of_[i]? = some xs) (hk' : k'.of_ = k.of_.set i ys)
    (hkeep : ∀ c, c < h.length → c ≠ b → (∀ g o z ag n, v ≠ .hsl c g o z ag n) → h'[c]? = h[c]?)
    (hrow : getCells h' b 120 = some (vs.set i v' ++ BR k')) (hv' : v' = .hsl c' (ys.length * 12) 0 12 true ys.length) (hown : getCells h' c' (ys.length * 12) = some (rows ys))
    (hc' : h.length ≤ c' ∨ ∃ g o z ag n, v = .hsl c' g o z ag n) : BookV h' b k' (vs.set i v') := by
  have hil := (List.getElem?_eq_some_iff.1 hvi).1
  have hil2 := (List.getElem?_eq_some_iff.1 hx).1
  have hat : ∀ j u, (vs.set i v')[j]? = some u → (j = i ∧ u = v') ∨ (j ≠ i ∧ vs[j]? = some u) := by
    intro j u hj
    by_cases e : j = i
    · subst e
      rw [List.getElem?_set_self hil] at hj
      exact .inl ⟨rfl, (Option.some.inj hj).symm⟩
    · rw [List.getElem?_set_ne (Ne.symm e)] at hj
      exact .inr ⟨e, hj⟩
  have hlt : ∀ (j c g o z : Nat) (ag : Bool) (n : Nat), vs[j]? = some (V.hsl c g o z ag n) → c < h.length := by
    intro j c g o z ag n hj
    have hjl := (List.getElem?_eq_some_iff.1 hj).1
    have hjk : j < k.of_.length := by rw [k.h1]; have := hv.len; omega
    have : k.of_[j]? = some k.of_[j] := List.getElem?_eq_getElem hjk
    rcases hv.own j _ _ hj this with ⟨e, _⟩ | ⟨c2, e, hg⟩
    · cases e
    · cases e
      exact gc_lt hg
  refine ⟨by rw [List.length_set]; exact hv.len, hrow, ?_, ?_, ?_⟩
  · intro j u xs' h1 h2
    rw [hk'] at h2
    rcases hat j u h1 with ⟨rfl, rfl⟩ | ⟨e, h1⟩
    · rw [List.getElem?_set_self hil2] at h2
      cases h2
      exact .inr ⟨c', hv', hown⟩
    · rw [List.getElem?_set_ne (Ne.symm e)] at h2
      rcases hv.own j u xs' h1 h2 with h3 | ⟨c2, rfl, hg⟩
      · exact .inl h3
      · refine .inr ⟨c2, rfl, ?_⟩
        rw [getCells_congr (hkeep c2 (gc_lt hg) (hv.ne _ _ _ _ _ _ _ h1) fun g o z ag n he => e ?_)]
        · exact hg
        · subst he
          exact hv.nd _ _ _ _ _ _ _ _ _ _ _ _ _ h1 hvi
  · intro j c g o z ag n h1
    rcases hat j _ h1 with ⟨rfl, e⟩ | ⟨e, h1⟩
    · rw [hv'] at e
      cases e
      rcases hc' with hc' | ⟨g, o, z, ag, n, rfl⟩
      · have := gc_lt hv.row
        omega
      · exact hv.ne _ _ _ _ _ _ _ hvi
    · exact hv.ne _ _ _ _ _ _ _ h1
  · intro j l c g g' o o' z z' ag ag' n n' h1 h2
    rcases hat j _ h1 with ⟨rfl, e1⟩ | ⟨e1, j1⟩ <;> rcases hat l _ h2 with ⟨rfl, e2⟩ | ⟨e2, j2⟩
    · rfl
    · rw [hv'] at e1
      cases e1
      rcases hc' with hc' | ⟨g, o, z, ag, n, rfl⟩
      · have := hlt _ _ _ _ _ _ _ j2
        omega
      · exact hv.nd _ _ _ _ _ _ _ _ _ _ _ _ _ hvi j2
    · rw [hv'] at e2
      cases e2
      rcases hc' with hc' | ⟨g2, o2, z2, ag2, n2, hvv⟩
      · have := hlt _ _ _ _ _ _ _ j1
        omega
      · subst hvv
        exact hv.nd _ _ _ _ _ _ _ _ _ _ _ _ _ j1 hvi
    · exact hv.nd _ _ _ _ _ _ _ _ _ _ _ _ _ j1 j2
end

theorem at_app {h l : Heap} : (h ++ l)[h.length]? = l[0]? := by rw [List.getElem?_append_right (Nat.le_refl _), Nat.sub_self]
theorem at_app_set {h l : Heap} {c : Nat} {s : Slot} : (h.set c s ++ l)[h.length]? = l[0]? := by rw [List.getElem?_append_right (by simp), List.length_set, Nat.sub_self]
theorem ev_ptr {t : Nat → V} : ev t (.const (.pointer none)) = .i (.s (.pointer none)) := rfl
theorem retV_nil {st : St} : retV st [] = some (.tup []) := rfl
theorem ip_of {k : TBook} {i : Int} {xs : List TOp} (h : get? k.of_ i = some xs) : List.take 1 (List.drop i.toNat (bookC k)) = [.sl 12 (xs.map enc)] := by
  obtain ⟨hlt, he⟩ := List.getElem?_eq_some_iff.1 (get_some h).2.2
  unfold bookC
  rw [List.drop_append_of_le_length (by rw [List.length_map]; omega), List.drop_eq_getElem_cons (by rw [List.length_map]; exact hlt), List.getElem_map, he]
  rfl
theorem ip_kind {k : TBook} {i x : Int} (h : get? k.kind i = some x) : List.take 1 (List.drop i.toNat (List.drop 16 (bookC k))) = [.s (.int .i64 x)] := by
  obtain ⟨hlt, he⟩ := List.getElem?_eq_some_iff.1 (get_some h).2.2
  unfold bookC TBook.nums
  rw [List.drop_left' (by rw [List.length_map]; exact k.h1), List.map_append, List.drop_append_of_le_length (by rw [List.length_map]; omega), List.drop_eq_getElem_cons (by rw [List.length_map]; exact hlt), List.getElem_map, he]
  rfl
theorem ip_len {k : TBook} {i : Int} {n : Nat} (h : i.toNat + n < 120) : 1 ≤ (List.drop i.toNat (List.drop n (bookC k))).length := by
  rw [List.length_drop, List.length_drop, bookC_len]
  omega
theorem ip_len0 {k : TBook} {i : Int} (h : i.toNat < 120) : 1 ≤ (List.drop i.toNat (bookC k)).length := by
  rw [List.length_drop, bookC_len]
  omega
/-- Block c is none of the book's at block b. -/
structure Free (h : Heap) (c b : Nat) : Prop where
  ne : c ≠ b
  no : ∀ cs, getCells h b 120 = some cs → ∀ (i g o z : Nat) (ag : Bool) (n : Nat), cs[i]? ≠ some (.hsl c g o z ag n)
theorem free_same {h h' : Heap} {b c : Nat} (hf : Free h c b) (hb : h'[b]? = h[b]?) : Free h' c b := ⟨hf.ne, fun cs hc => hf.no cs (by rw [← getCells_congr hb]; exact hc)⟩
theorem free_ext {h l : Heap} {b c : Nat} (hf : Free h c b) (hb : b < h.length) : Free (h ++ l) c b := free_same hf (List.getElem?_append_left hb)
theorem free_set {h : Heap} {b c d : Nat} {s : Slot} (hf : Free h c b) (hd : d ≠ b) : Free (h.set d s) c b := free_same hf (List.getElem?_set_ne hd)
theorem free_keep {h h' : Heap} {b c : Nat} (hf : Free h c b) (hk : Keep [] h h') (hb : b < h.length) : Free h' c b := free_same hf (hk.at_ b hb (by simp))
theorem free_new {h : Heap} {b c : Nat} {k : TBook} (hc : getCells h b 120 = some (List.replicate 16 (.i (.s (.slice none 0 0))) ++ BR k)) (hne : c ≠ b) : Free h c b := by
  refine ⟨hne, fun cs h1 i g o z ag n h2 => ?_⟩
  rw [hc] at h1
  cases h1
  have := List.mem_of_getElem? h2
  simp [BR] at this
theorem free_put {h h' : Heap} {b c c' i : Nat} {vs : List V} {k k' : TBook} {v' : V} {g o z : Nat} {ag : Bool} {n : Nat} (hf : Free h c b) (hrow : getCells h b 120 = some (vs ++ BR k)) (hrow' : getCells h' b 120 = some (vs.set i v' ++ BR k')) (hv' : v' = .hsl c' g o z ag n) (hne : c ≠ c') : Free h' c b := by
  refine ⟨hf.ne, fun cs h1 j g' o' z' ag' n' h2 => ?_⟩
  rw [hrow'] at h1
  cases h1
  have hm := List.mem_of_getElem? h2
  rcases List.mem_append.1 hm with h3 | h3
  · rcases List.mem_or_eq_of_mem_set h3 with h4 | h4
    · obtain ⟨j2, h5⟩ := List.mem_iff_getElem?.1 h4
      have hl := (List.getElem?_eq_some_iff.1 h5).1
      exact hf.no _ hrow j2 g' o' z' ag' n' (by rw [List.getElem?_append_left hl]; exact h5)
    · rw [hv'] at h4
      cases h4
      exact hne rfl
  · simp [BR] at h3
theorem free_fresh {h : Heap} {b c : Nat} {k : TBook} (hv : BookAt h b k) (hc : h.length ≤ c) : Free h c b := by
  have hb := book_lt hv
  obtain ⟨vs, hv⟩ := hv
  refine ⟨by omega, fun cs h1 i g o z ag n h2 => ?_⟩
  rw [hv.row] at h1
  cases h1
  rcases Nat.lt_or_ge i vs.length with hl | hl
  · rw [List.getElem?_append_left hl] at h2
    have hik : i < k.of_.length := by rw [k.h1]; have := hv.len; omega
    rcases hv.own i _ _ h2 (List.getElem?_eq_getElem hik) with ⟨e, _⟩ | ⟨c2, e, hg⟩
    · cases e
    · cases e
      have := gc_lt hg
      omega
  · rw [List.getElem?_append_right hl] at h2
    have := List.mem_of_getElem? h2
    simp [BR] at this
theorem free_get {h h' : Heap} {c g : Nat} (hk : h'[c]? = h[c]?) : getCells h' c g = getCells h c g := getCells_congr hk
section
variable {P : Program} {env : Env} {t : Nat → V} {h : Heap} {K : V → Heap → Prop}
theorem S_idxV {n z : Nat} {ag : Bool} {x i : Operand} : @S P env ⟨(.idxV n z ag x i)⟩ t h ⟨K⟩ = @WO _ (intV (ev t i)) ⟨fun k => (0 ≤ k ∧ k < n ∧ (ev t x).cells.length = n * z ∧ isAggV (ev t x) = true) ∧ @WO _ (rowV ag (((ev t x).cells.drop (k.toNat * z)).take z)) ⟨fun v => K v h⟩⟩ := by
  simp only [S, stepOp, ev_eq, WO_map, WO_bind, WO_ite_none]
  repeat (first | (refine WO_ext fun _ => ?_) | simp only [S, stepOp, ev_eq, WO_map, WO_bind, WO_ite_none])
end
/-- The kinds as cells of a value. -/
def KA (k : TBook) : List V := k.kind.map fun n => .i (.s (.int .i64 n))
theorem KA_len {k : TBook} : (KA k).length = 101 := by unfold KA; rw [List.length_map]; exact k.h2
theorem ip_kinds {k : TBook} : List.map V.i (List.take 101 (List.drop 16 (bookC k))) = KA k := by
  unfold bookC TBook.nums KA
  rw [List.drop_left' (by rw [List.length_map]; exact k.h1), List.map_append, List.take_left' (by rw [List.length_map]; exact k.h2), List.map_map]
  rfl
theorem ip_kinds_len {k : TBook} : 101 ≤ (List.drop 16 (bookC k)).length := by
  rw [List.length_drop, bookC_len]
  omega
theorem KA_at {k : TBook} {i x : Int} (h : get? k.kind i = some x) : List.take 1 (List.drop i.toNat (KA k)) = [.i (.s (.int .i64 x))] := by
  obtain ⟨hlt, he⟩ := List.getElem?_eq_some_iff.1 (get_some h).2.2
  unfold KA
  rw [List.drop_eq_getElem_cons (by rw [List.length_map]; exact hlt), List.getElem_map, he]
  rfl
/-! Rules for an operation's twelve cells, at one stroke. -/
theorem opc_virtC (b : Nat) : virtC [(0, false), (0, false), (0, false), (1, false), (0, false), (0, false), (0, false), (0, false), (0, false), (0, false), (0, false), (0, false)] b [(.int .i64 0), (.int .i64 0), (.int .i64 0), (.slice .none 0 0), (.int .i64 0), (.int .i64 0), (.int .i64 0), (.int .i64 0), (.int .i64 0), (.int .i64 0), (.string ⟨#[]⟩), (.string ⟨#[]⟩)] = [.i (.s (.int .i64 0)), .i (.s (.int .i64 0)), .i (.s (.int .i64 0)), .hsl b 0 0 1 false 0, .i (.s (.int .i64 0)), .i (.s (.int .i64 0)), .i (.s (.int .i64 0)), .i (.s (.int .i64 0)), .i (.s (.int .i64 0)), .i (.s (.int .i64 0)), .i (.s (.string ⟨#[]⟩)), .i (.s (.string ⟨#[]⟩))] := rfl
theorem opc_nilsOf : nilsOf [(.int .i64 0), (.int .i64 0), (.int .i64 0), (.slice .none 0 0), (.int .i64 0), (.int .i64 0), (.int .i64 0), (.int .i64 0), (.int .i64 0), (.int .i64 0), (.string ⟨#[]⟩), (.string ⟨#[]⟩)] = 1 := rfl
theorem opc_virtV (n : Nat) (a b c : Int) (d : List I) (e f g i j k : Int) (l m : ByteArray) : virtV [(0, false), (0, false), (0, false), (1, false), (0, false), (0, false), (0, false), (0, false), (0, false), (0, false), (0, false), (0, false)] n [.i (.s (.int .i64 a)), .i (.s (.int .i64 b)), .i (.s (.int .i64 c)), .i (.sl 1 d), .i (.s (.int .i64 e)), .i (.s (.int .i64 f)), .i (.s (.int .i64 g)), .i (.s (.int .i64 i)), .i (.s (.int .i64 j)), .i (.s (.int .i64 k)), .i (.s (.string l)), .i (.s (.string m))] = [.i (.s (.int .i64 a)), .i (.s (.int .i64 b)), .i (.s (.int .i64 c)), .i (.sl 1 d), .i (.s (.int .i64 e)), .i (.s (.int .i64 f)), .i (.s (.int .i64 g)), .i (.s (.int .i64 i)), .i (.s (.int .i64 j)), .i (.s (.int .i64 k)), .i (.s (.string l)), .i (.s (.string m))] := rfl
theorem opc_nilsV (a b c : Int) (d : List I) (e f g i j k : Int) (l m : ByteArray) : nilsV [.i (.s (.int .i64 a)), .i (.s (.int .i64 b)), .i (.s (.int .i64 c)), .i (.sl 1 d), .i (.s (.int .i64 e)), .i (.s (.int .i64 f)), .i (.s (.int .i64 g)), .i (.s (.int .i64 i)), .i (.s (.int .i64 j)), .i (.s (.int .i64 k)), .i (.s (.string l)), .i (.s (.string m))] = 0 := rfl
theorem opc_one (a b c : Int) (d : List I) (e f g i j k : Int) (l m : ByteArray) : List.all [.i (.s (.int .i64 a)), .i (.s (.int .i64 b)), .i (.s (.int .i64 c)), .i (.sl 1 d), .i (.s (.int .i64 e)), .i (.s (.int .i64 f)), .i (.s (.int .i64 g)), .i (.s (.int .i64 i)), .i (.s (.int .i64 j)), .i (.s (.int .i64 k)), .i (.s (.string l)), .i (.s (.string m))] V.one = true := rfl
theorem opc_splice (c0 c1 c2 c3 c4 c5 c6 c7 c8 c9 c10 c11 y0 y1 y2 y3 y4 y5 y6 y7 y8 y9 y10 y11 : V) : splice [c0, c1, c2, c3, c4, c5, c6, c7, c8, c9, c10, c11] 0 [y0, y1, y2, y3, y4, y5, y6, y7, y8, y9, y10, y11] = [y0, y1, y2, y3, y4, y5, y6, y7, y8, y9, y10, y11] := rfl
theorem opc_virtVw (n : Nat) (a b c : Int) (d n2 n3 : Nat) (e f g i j k : Int) (l m : ByteArray) : virtV [(0, false), (0, false), (0, false), (1, false), (0, false), (0, false), (0, false), (0, false), (0, false), (0, false), (0, false), (0, false)] n [.i (.s (.int .i64 a)), .i (.s (.int .i64 b)), .i (.s (.int .i64 c)), .hsl d n2 0 1 false n3, .i (.s (.int .i64 e)), .i (.s (.int .i64 f)), .i (.s (.int .i64 g)), .i (.s (.int .i64 i)), .i (.s (.int .i64 j)), .i (.s (.int .i64 k)), .i (.s (.string l)), .i (.s (.string m))] = [.i (.s (.int .i64 a)), .i (.s (.int .i64 b)), .i (.s (.int .i64 c)), .hsl d n2 0 1 false n3, .i (.s (.int .i64 e)), .i (.s (.int .i64 f)), .i (.s (.int .i64 g)), .i (.s (.int .i64 i)), .i (.s (.int .i64 j)), .i (.s (.int .i64 k)), .i (.s (.string l)), .i (.s (.string m))] := rfl
theorem opc_nilsVw (a b c : Int) (d n2 n3 : Nat) (e f g i j k : Int) (l m : ByteArray) : nilsV [.i (.s (.int .i64 a)), .i (.s (.int .i64 b)), .i (.s (.int .i64 c)), .hsl d n2 0 1 false n3, .i (.s (.int .i64 e)), .i (.s (.int .i64 f)), .i (.s (.int .i64 g)), .i (.s (.int .i64 i)), .i (.s (.int .i64 j)), .i (.s (.int .i64 k)), .i (.s (.string l)), .i (.s (.string m))] = 0 := rfl
theorem opc_onew (a b c : Int) (d n2 n3 : Nat) (e f g i j k : Int) (l m : ByteArray) : List.all [.i (.s (.int .i64 a)), .i (.s (.int .i64 b)), .i (.s (.int .i64 c)), .hsl d n2 0 1 false n3, .i (.s (.int .i64 e)), .i (.s (.int .i64 f)), .i (.s (.int .i64 g)), .i (.s (.int .i64 i)), .i (.s (.int .i64 j)), .i (.s (.int .i64 k)), .i (.s (.string l)), .i (.s (.string m))] V.one = true := rfl
theorem ofI1_ob {x : Option TBook} : ofI1 (enc x) = .i (enc x) := by cases x <;> rfl
theorem dec_obx {x : Option TBook} : (Pic.dec (Pic.enc x) : Option (Option TBook)) = some x := Pic.dec_enc x
/-- Short names in the code of functions. -/
def qS (d : Nat) (x : AOp) : AOper := ⟨some d, x, none, [], none⟩
def ic (n : Int) : Operand := .const (.int .i64 n)
theorem W_qS {P : Program} {env : Env} {t : Nat → V} {h : Heap} {Q : Post} {d : Nat} {op : AOp} {l : List AOper} : @W P env ⟨(.ops (qS d op :: l))⟩ t h ⟨Q⟩ = @S P env ⟨op⟩ t h ⟨fun v h' => @W P env ⟨(.ops l)⟩ (put t (some d) v) h' ⟨Q⟩⟩ := W_op
theorem ic_eq {n : Int} : ic n = .const (.int .i64 n) := rfl
theorem tn (n : Nat) : Int.toNat (no_index (OfNat.ofNat n)) = n := rfl
theorem opc : type_of% (And.intro (And.intro (And.intro @opc_virtC @opc_nilsOf) (And.intro @opc_virtV @opc_nilsV)) (And.intro (And.intro @opc_one @opc_splice) (And.intro @opc_virtVw (And.intro @opc_nilsVw @opc_onew)))) := (And.intro (And.intro (And.intro @opc_virtC @opc_nilsOf) (And.intro @opc_virtV @opc_nilsV)) (And.intro (And.intro @opc_one @opc_splice) (And.intro @opc_virtVw (And.intro @opc_nilsVw @opc_onew))))
theorem gx : type_of% (And.intro (And.intro (And.intro (And.intro @gs @idxA_ptr) (And.intro @idxA_ip (And.intro @retV_nil @at_app))) (And.intro (And.intro @at_app_set @enc_ob) (And.intro @enc_on (And.intro @dec_ob @dec_on)))) (And.intro (And.intro (And.intro @ofI_ob @cells_ob) (And.intro @bookC_len (And.intro @ev_ptr @ofI1_ob))) (And.intro (And.intro @dec_obx @S_idxV) (And.intro @tn (And.intro @W_qS @ic_eq))))) := (And.intro (And.intro (And.intro (And.intro @gs @idxA_ptr) (And.intro @idxA_ip (And.intro @retV_nil @at_app))) (And.intro (And.intro @at_app_set @enc_ob) (And.intro @enc_on (And.intro @dec_ob @dec_on)))) (And.intro (And.intro (And.intro @ofI_ob @cells_ob) (And.intro @bookC_len (And.intro @ev_ptr @ofI1_ob))) (And.intro (And.intro @dec_obx @S_idxV) (And.intro @tn (And.intro @W_qS @ic_eq)))))
theorem ls : type_of% (And.intro (And.intro @List.length_set.{0} (And.intro @List.length_append.{0} @List.length_cons.{0})) (And.intro @List.length_nil.{0} (And.intro @rows_len @zs))) := (And.intro (And.intro @List.length_set.{0} (And.intro @List.length_append.{0} @List.length_cons.{0})) (And.intro @List.length_nil.{0} (And.intro @rows_len @zs)))
end Go.AM

set_option linter.unusedVariables false
namespace Go.AM
open Pic (enc dec dec_enc dec_sub)
open PicA (encA decA decA_encA decA_sub)

theorem at_ge {h l : Heap} {b : Nat} (hb : h.length ≤ b) : (h ++ l)[b]? = l[b - h.length]? := List.getElem?_append_right hb
theorem at_left {h l : Heap} {b : Nat} (hb : b < h.length) : (h ++ l)[b]? = h[b]? := List.getElem?_append_left hb
theorem at_set_ne {h : Heap} {b c : Nat} {s : Slot} (hb : c ≠ b) : (h.set c s)[b]? = h[b]? := List.getElem?_set_ne hb
theorem at_set_eq {h : Heap} {b : Nat} {s : Slot} (hb : b < h.length) : (h.set b s)[b]? = some s := List.getElem?_set_self hb
theorem free_lt {h : Heap} {b : Nat} {s : Slot} (hb : h[b]? = some s) : b < h.length := (List.getElem?_eq_some_iff.1 hb).1
theorem free_keep2 {h h' : Heap} {B : List Nat} {b : Nat} {s : Slot} (hk : Keep B h h') (hb : h[b]? = some s) (hn : b ∉ B) : h'[b]? = some s := (hk.at_ b (free_lt hb) hn).trans hb
theorem W_qR {P : Program} {env : Env} {t : Nat → V} {h : Heap} {Q : Post} {b0 d : Nat} {op : AOp} {l : List AOper} : @WR P env b0 ⟨(qS d op :: l)⟩ t h ⟨Q⟩ = @S P env ⟨op⟩ t h ⟨fun v h' => @WR P env b0 ⟨l⟩ (put t (some d) v) h' ⟨Q⟩⟩ := WR_op
theorem gm0 : type_of% (And.intro (And.intro (And.intro (And.intro @gx @W_opsR) (And.intro @WR_nil @WR_op)) (And.intro (And.intro @WR_ops @WR_opa) (And.intro @W_qR (And.intro @SS_alloc @SS_makeMap)))) (And.intro (And.intro (And.intro @SS_makeSl @S_makeMap) (And.intro @S_lookup (And.intro @S_mapSet @S_del))) (And.intro (And.intro @S_mlen @at_ge) (And.intro @at_left (And.intro @at_set_ne @at_set_eq))))) := (And.intro (And.intro (And.intro (And.intro @gx @W_opsR) (And.intro @WR_nil @WR_op)) (And.intro (And.intro @WR_ops @WR_opa) (And.intro @W_qR (And.intro @SS_alloc @SS_makeMap)))) (And.intro (And.intro (And.intro @SS_makeSl @S_makeMap) (And.intro @S_lookup (And.intro @S_mapSet @S_del))) (And.intro (And.intro @S_mlen @at_ge) (And.intro @at_left (And.intro @at_set_ne @at_set_eq)))))
theorem gm : type_of% (And.intro (And.intro @gm0 @S_mapEntry) @S_entryStore) := And.intro (And.intro @gm0 @S_mapEntry) @S_entryStore
end Go.AM

set_option linter.unusedVariables false
set_option linter.unusedSimpArgs false
namespace Go.AM

section
variable {σ ρ α : Type}

/-- A loop that counts. -/
theorem loop_count {step : σ → Option (Lp σ ρ)} (n : Nat) (I : Nat → σ → Prop) (Q : Ex σ ρ → Prop)
    (hs : ∀ i s, i < n → I i s → (∃ s', step s = some (.go s') ∧ I (i + 1) s') ∨ (∃ s', step s = some (.out s') ∧ Q (.out s')) ∨ (∃ r, step s = some (.ret r) ∧ Q (.ret r)))
    (he : ∀ s, I n s → (∃ s', step s = some (.out s') ∧ Q (.out s')) ∨ (∃ r, step s = some (.ret r) ∧ Q (.ret r))) {s : σ} (h0 : I 0 s) : ∃ e, loopP step s = some e ∧ Q e := by
  have key : ∀ (k i : Nat) (s : σ), i + k = n → I i s → ∃ e, loopP step s = some e ∧ Q e := by
    intro k
    induction k with
    | zero =>
      intro i s hk hi
      obtain rfl : i = n := by omega
      rcases he s hi with ⟨s', h1, h2⟩ | ⟨r, h1, h2⟩
      · exact ⟨_, loopP_out h1, h2⟩
      · exact ⟨_, loopP_ret h1, h2⟩
    | succ k ih =>
      intro i s hk hi
      rcases hs i s (by omega) hi with ⟨s', h1, h2⟩ | ⟨s', h1, h2⟩ | ⟨r, h1, h2⟩
      · obtain ⟨e, h3, h4⟩ := ih (i + 1) s' (by omega) h2
        exact ⟨e, by rw [loopP_go h1]; exact h3, h4⟩
      · exact ⟨_, loopP_out h1, h2⟩
      · exact ⟨_, loopP_ret h1, h2⟩
  exact key n 0 s (by omega) h0

theorem w64_succ {i : Nat} (h : i < 9223372036854775807) : w64 ((i : Int) + 1) = ((i + 1 : Nat) : Int) := by
  rw [w64_id (by omega) (by omega)]; omega
theorem get_lt {xs : List α} {i : Nat} (h : i < xs.length) : ∃ x, get? xs (i : Int) = some x ∧ xs[i]? = some x := ⟨xs[i], get_at h, List.getElem?_eq_getElem h⟩

/-- A copy of a list, element by element. -/
def copyStep (x : List α) (f : α → Option α) : List α × Int → Option (Lp (List α × Int) ρ)
  | (s1, s2) =>
    if (decide (s2 < (x.length : Int))) = true then
      (get? x s2).bind fun v4 =>
      (f v4).bind fun v5 =>
      (get? s1 s2).bind fun v6 =>
      some (.go ((s1.set s2.toNat v5), w64 (s2 + 1)))
    else
      some (.out (s1, s2))

theorem copy_loop {x v : List α} {f : α → Option α} (hf : ∀ a, a ∈ x → f a = some a) (hl : v.length = x.length) (hn : x.length < 9223372036854775807) : ∃ i, loopP (copyStep (ρ := ρ) x f) (v, 0) = some (.out (x, i)) := by
  obtain ⟨e, h1, i, rfl⟩ := loop_count (step := copyStep (ρ := ρ) x f) x.length (fun i s => s.2 = (i : Int) ∧ s.1.length = x.length ∧ ∀ j, j < i → s.1[j]? = x[j]?) (fun e => ∃ i, e = .out (x, i)) (by
      rintro i ⟨s1, s2⟩ hi ⟨h1, h2, h3⟩
      simp only at h1 h2 h3
      subst h1
      left
      obtain ⟨a, ha, ha'⟩ := get_lt (xs := x) hi
      obtain ⟨b, hb, hb'⟩ := get_lt (xs := s1) (i := i) (by omega)
      have hd : decide ((i : Int) < (x.length : Int)) = true := by simpa using hi
      refine ⟨(s1.set i a, ((i + 1 : Nat) : Int)), ?_, rfl, by simpa using h2, ?_⟩
      · simp only [copyStep]
        rw [if_t hd, ha, Option.bind_some, hf a (List.mem_of_getElem? ha'), Option.bind_some, hb, Option.bind_some, w64_succ (by omega), Int.toNat_natCast]
      · intro j hj
        simp only [List.getElem?_set]
        by_cases e : i = j
        · subst e
          rw [if_pos rfl, if_pos (by omega)]; exact ha'.symm
        · rw [if_neg e]; exact h3 j (by omega))
    (by
      rintro ⟨s1, s2⟩ ⟨h1, h2, h3⟩
      simp only at h1 h2 h3
      subst h1
      left
      have hd : decide ((x.length : Int) < (x.length : Int)) = false := by simp
      refine ⟨(s1, (x.length : Int)), ?_, x.length, ?_⟩
      · simp only [copyStep]
        rw [if_f hd]
      · have : s1 = x := by
          apply List.ext_getElem?
          intro j
          by_cases hj : j < x.length
          · exact h3 j hj
          · rw [List.getElem?_eq_none (by omega), List.getElem?_eq_none (by omega)]
        rw [this]) (s := (v, 0)) ⟨rfl, hl, fun j hj => by omega⟩
  exact ⟨i, h1⟩

/-- Two equal lists, element by element. -/
def eqStep (x y : List α) (g : α → α → Option Bool) : Int → Option (Lp Int Bool)
  | s1 =>
    if (decide (s1 < (x.length : Int))) = true then
      (get? x s1).bind fun v3 =>
      (get? y s1).bind fun v4 =>
      (g v3 v4).bind fun v5 =>
      if (v5) = true then
        some (.go (w64 (s1 + 1)))
      else
        some (.ret false)
    else
      some (.out s1)

theorem eq_loop {x : List α} {g : α → α → Option Bool} (hg : ∀ a, a ∈ x → g a a = some true) (hn : x.length < 9223372036854775807) : ∃ i, loopP (eqStep x x g) 0 = some (.out i) := by
  obtain ⟨e, h1, i, rfl⟩ := loop_count (step := eqStep x x g) x.length (fun i s => s = (i : Int)) (fun e => ∃ i, e = .out i) (by
      rintro i _ hi rfl
      left
      obtain ⟨a, ha, ha'⟩ := get_lt (xs := x) hi
      have hd : decide ((i : Int) < (x.length : Int)) = true := by simpa using hi
      refine ⟨((i + 1 : Nat) : Int), ?_, rfl⟩
      simp only [eqStep]
      rw [if_t hd, ha, Option.bind_some, Option.bind_some, hg a (List.mem_of_getElem? ha'), Option.bind_some, if_pos rfl, w64_succ (by omega)])
    (by
      rintro _ rfl
      left
      have hd : decide ((x.length : Int) < (x.length : Int)) = false := by simp
      refine ⟨(x.length : Int), ?_, x.length, rfl⟩
      simp only [eqStep]
      rw [if_f hd]) (s := 0) rfl
  exact ⟨i, h1⟩

theorem mkL_ok {l y : Nat} {z : α} (h : l * y ≤ 281474976710656) (h' : l ≤ 9223372036854775807) : mkL (l : Int) (y : Int) (l : Int) z = some (List.replicate l z) := by
  unfold mkL
  have h1 : ((l * y : Nat) : Int) ≤ 281474976710656 := by omega
  rw [Int.natCast_mul] at h1
  rw [if_pos ⟨by omega, by omega, h1, by omega⟩, Int.toNat_natCast]
end
end Go.AM
namespace Go.AM
theorem w64_def {n : Int} : w64 n = (n + 9223372036854775808) % 18446744073709551616 - 9223372036854775808 := by
  unfold w64; rw [IntKind.wrap_i64]
theorem w64_sub_l {a c : Int} : w64 (w64 a - c) = w64 (a - c) := by simp only [w64_def]; omega
theorem w64_add_l {a c : Int} : w64 (w64 a + c) = w64 (a + c) := by simp only [w64_def]; omega
theorem w64_add_r {a c : Int} : w64 (a + w64 c) = w64 (a + c) := by simp only [w64_def]; omega
theorem w64_sub_r {a c : Int} : w64 (a - w64 c) = w64 (a - c) := by simp only [w64_def]; omega
end Go.AM

set_option linter.unusedVariables false
set_option linter.unusedSimpArgs false
namespace Go.AM

theorem wrap_u8_id {n : Int} (h0 : 0 ≤ n) (h1 : n ≤ 255) : IntKind.wrap .u8 n = n := by rw [IntKind.wrap_u8]; omega
theorem wrap_u64_id {n : Int} (h0 : 0 ≤ n) (h1 : n ≤ 18446744073709551615) : IntKind.wrap .u64 n = n := by rw [IntKind.wrap_u64]; omega

theorem toNat_ofInt {w n : Nat} (h : n < 2 ^ w) : (BitVec.ofInt w (n : Int)).toNat = n := by
  rw [BitVec.toNat_ofInt]
  have : ((n : Int) % ((2 ^ w : Nat) : Int)).toNat = n % 2 ^ w := by
    rw [← Int.natCast_emod, Int.toNat_natCast]
  rw [this, Nat.mod_eq_of_lt h]

/-- The lowest seven bits. -/
theorem and127_u8 {c : Int} (h0 : 0 ≤ c) (h1 : c ≤ 255) : andI .u8 c 127 = c % 128 := by
  obtain ⟨n, rfl⟩ := Int.eq_ofNat_of_zero_le h0
  have e1 : (BitVec.ofInt 8 (n : Int)).toNat = n := toNat_ofInt (by omega)
  have e2 : (BitVec.ofInt 8 (127 : Int)).toNat = 127 := toNat_ofInt (n := 127) (by omega)
  have e : (BitVec.ofInt 8 (n : Int) &&& BitVec.ofInt 8 127).toNat = n % 128 := by
    rw [BitVec.toNat_and, e1, e2]
    exact Nat.and_two_pow_sub_one_eq_mod n 7
  unfold andI
  rw [show IntKind.bits .u8 = 8 from rfl, e, wrap_u8_id (by omega) (by omega)]
  omega
theorem and127_i64 {c : Int} (h0 : 0 ≤ c) (h1 : c ≤ 9223372036854775807) : andI .i64 c 127 = c % 128 := by
  obtain ⟨n, rfl⟩ := Int.eq_ofNat_of_zero_le h0
  have e1 : (BitVec.ofInt 64 (n : Int)).toNat = n := toNat_ofInt (by omega)
  have e2 : (BitVec.ofInt 64 (127 : Int)).toNat = 127 := toNat_ofInt (n := 127) (by omega)
  have e : (BitVec.ofInt 64 (n : Int) &&& BitVec.ofInt 64 127).toNat = n % 128 := by
    rw [BitVec.toNat_and, e1, e2]
    exact Nat.and_two_pow_sub_one_eq_mod n 7
  unfold andI
  rw [show IntKind.bits .i64 = 64 from rfl, e, w64_eq, w64_id (by omega) (by omega)]
  omega
/-- What stands above beside what stands below. -/
theorem or_add {w v y i : Nat} (hv : v < 2 ^ i) (hy : y * 2 ^ i + v < 2 ^ w) : (BitVec.ofInt w (v : Int) ||| BitVec.ofInt w ((y * 2 ^ i : Nat) : Int)).toNat = v + y * 2 ^ i := by
  rw [BitVec.toNat_or, toNat_ofInt (by omega), toNat_ofInt (by omega), Nat.or_comm, Nat.mul_comm, ← Nat.two_pow_add_eq_or_of_lt hv]
  omega
theorem or128_u8 {c : Int} (h0 : 0 ≤ c) (h1 : c ≤ 127) : orI .u8 c 128 = c + 128 := by
  obtain ⟨n, rfl⟩ := Int.eq_ofNat_of_zero_le h0
  have e := or_add (w := 8) (v := n) (y := 1) (i := 7) (by omega) (by omega)
  unfold orI
  rw [show IntKind.bits .u8 = 8 from rfl, show (128 : Int) = ((1 * 2 ^ 7 : Nat) : Int) from rfl, e, wrap_u8_id (by omega) (by omega)]
  omega
theorem or_u64 {v y i : Nat} (hv : v < 2 ^ i) (hy : y * 2 ^ i + v < 18446744073709551616) : orI .u64 (v : Int) ((y * 2 ^ i : Nat) : Int) = ((v + y * 2 ^ i : Nat) : Int) := by
  unfold orI
  rw [show IntKind.bits .u64 = 64 from rfl, or_add hv (by omega), wrap_u64_id (by omega) (by omega)]
theorem shl_u64 {y i : Nat} (hi : i ≤ 64) (hy : y * 2 ^ i < 18446744073709551616) : shl? .u64 (y : Int) (i : Int) = some ((y * 2 ^ i : Nat) : Int) := by
  unfold shl?
  have hb : IntKind.bits .u64 = 64 := rfl
  rw [if_pos (by omega), Int.toNat_natCast, hb, Nat.min_eq_left hi]
  have : ((y : Int) * 2 ^ i) = ((y * 2 ^ i : Nat) : Int) := by
    rw [Int.natCast_mul, Int.natCast_pow]; rfl
  rw [this, wrap_u64_id (by omega) (by omega)]
theorem shr7 {v : Int} (h : 0 ≤ v) : shr? .i64 v 7 = some (v / 128) := by
  unfold shr?
  have hb : IntKind.bits .i64 = 64 := rfl
  rw [if_pos (by omega), hb, show min (Int.toNat 7) 64 = 7 from rfl, Int.fdiv_eq_ediv_of_nonneg _ (by omega)]
  rfl
end Go.AM

set_option linter.unusedVariables false
set_option linter.unusedSimpArgs false
namespace Go.AM

section
variable {σ ρ α : Type}

/-- A loop that asks the same of each number below n. -/
theorem all_loop {step : Int → Option (Lp Int Bool)} (n : Nat) (good : Nat → Prop)
    (h : ∀ i, i < n → (good i ∧ step (i : Int) = some (.go ((i + 1 : Nat) : Int))) ∨ (¬ good i ∧ step (i : Int) = some (.ret false))) (he : step (n : Int) = some (.out (n : Int))) :
    (loopP step 0 = some (.out (n : Int)) ∧ ∀ i, i < n → good i) ∨ (loopP step 0 = some (.ret false) ∧ ∃ i, i < n ∧ ¬ good i) := by
  obtain ⟨e, h1, h2⟩ := loop_count (step := step) n (fun i s => s = (i : Int) ∧ ∀ j, j < i → good j) (fun e => (e = .out (n : Int) ∧ ∀ i, i < n → good i) ∨ (e = .ret false ∧ ∃ i, i < n ∧ ¬ good i)) (by
    rintro i _ hi ⟨rfl, hg⟩
    rcases h i hi with ⟨g, hs⟩ | ⟨g, hs⟩
    · refine .inl ⟨_, hs, rfl, fun j hj => ?_⟩
      by_cases e : j = i
      · subst e; exact g
      · exact hg j (by omega)
    · exact .inr (.inr ⟨_, hs, .inr ⟨rfl, i, hi, g⟩⟩))
    (by
    rintro _ ⟨rfl, hg⟩
    exact .inl ⟨_, he, .inl ⟨rfl, hg⟩⟩) (s := 0) ⟨rfl, fun j hj => by omega⟩
  rcases h2 with ⟨rfl, h2⟩ | ⟨rfl, h2⟩
  · exact .inl ⟨h1, h2⟩
  · exact .inr ⟨h1, h2⟩

theorem take_next {x : List α} {i : Nat} {a : α} (h : x[i]? = some a) : x.take (i + 1) = x.take i ++ [a] := by
  rw [List.take_add_one, h]; rfl

theorem app_one {y : Nat} {xs : List α} {a : α} (h : (xs.length + 1) * y ≤ 140737488355328) : app? y xs [a] = some (xs ++ [a]) := by
  unfold app?
  rw [if_pos (by right; simpa using h)]
theorem app_list {y : Nat} {xs ys : List α} (h : (xs.length + ys.length) * y ≤ 140737488355328) : app? y xs ys = some (xs ++ ys) := by
  unfold app?
  rw [if_pos (by right; exact h)]
theorem w64_pred {i : Nat} (h : 0 < i) (h' : i < 9223372036854775807) : w64 ((i : Int) - 1) = ((i - 1 : Nat) : Int) := by
  rw [w64_id (by omega) (by omega)]; omega
end
end Go.AM

set_option linter.unusedVariables false
set_option linter.unusedSimpArgs false
namespace Go.AM

def ofs (L : List TOp) (a : Int) : List TOp := L.filter fun o => decide (o.actor = a)
def thing (o : TOp) : Int := if o.kind = 3 then 2 else o.kind
def lastThing (L : List TOp) (ob : Int) : Int := L.foldl (fun t o => if o.obj = ob then thing o else t) 0

theorem ofs_snoc {P : List TOp} {o : TOp} {a : Int} : ofs (P ++ [o]) a = if o.actor = a then ofs P a ++ [o] else ofs P a := by
  unfold ofs
  rw [List.filter_append]
  by_cases h : o.actor = a <;> simp [h]
theorem lastThing_snoc {P : List TOp} {o : TOp} {ob : Int} : lastThing (P ++ [o]) ob = if o.obj = ob then thing o else lastThing P ob := by
  unfold lastThing
  rw [List.foldl_append]
  rfl
theorem ofs_len {L : List TOp} {a : Int} : (ofs L a).length ≤ L.length := List.length_filter_le _ _
theorem ofs_actor {L : List TOp} {a : Int} {o : TOp} (h : o ∈ ofs L a) : o.actor = a := by
  unfold ofs at h
  simpa using (List.mem_filter.1 h).2

section
variable {ok : TOp → Prop} {L P Q : List TOp} {o p : TOp}

def Step (ok : TOp → Prop) (P : List TOp) (o : TOp) : Prop := ok o ∧ (∀ p, p ∈ P → p.actor ≤ o.actor) ∧ o.seq = (ofs P o.actor).length + 1

inductive G (ok : TOp → Prop) : List TOp → Prop
  | nil : G ok []
  | snoc {P : List TOp} {o : TOp} : G ok P → Step ok P o → G ok (P ++ [o])

theorem G_snoc : G ok (P ++ [o]) ↔ G ok P ∧ Step ok P o := by
  constructor
  · intro h
    generalize e : P ++ [o] = L at h
    cases h with
    | nil => simp at e
    | snoc h1 h2 =>
      obtain ⟨rfl, e2⟩ := List.append_inj' e rfl
      cases e2
      exact ⟨h1, h2⟩
  · rintro ⟨h1, h2⟩
    exact .snoc h1 h2

theorem G_last (h : G ok (Q ++ [p])) : (∀ q, q ∈ Q ++ [p] → q.actor ≤ p.actor) ∧ p.seq = (ofs (Q ++ [p]) p.actor).length := by
  obtain ⟨h1, h2, h3, h4⟩ := G_snoc.1 h
  refine ⟨?_, ?_⟩
  · intro q hq
    rcases List.mem_append.1 hq with h | h
    · exact h3 q h
    · simp at h
      subst h
      exact Int.le_refl _
  · rw [ofs_snoc, if_pos rfl, h4]
    simp

theorem G_take (h : G ok L) (i : Nat) : G ok (L.take i) := by
  induction h with
  | nil => simpa using G.nil
  | snoc h1 h2 ih =>
    rename_i P o
    by_cases hi : i ≤ P.length
    · rw [List.take_append_of_le_length hi]
      exact ih
    · rw [List.take_of_length_le (by simp; omega)]
      exact .snoc h1 h2

theorem G_iff : G ok L ↔ ∀ i o, L[i]? = some o → Step ok (L.take i) o := by
  constructor
  · intro h i o hi
    have := G_take h (i + 1)
    rw [take_next hi] at this
    exact (G_snoc.1 this).2
  · intro h
    have key : ∀ n, n ≤ L.length → G ok (L.take n) := by
      intro n
      induction n with
      | zero => intro _; simpa using G.nil
      | succ n ih =>
        intro hn
        have hl : n < L.length := hn
        have e : L[n]? = some L[n] := List.getElem?_eq_getElem hl
        rw [take_next e]
        exact .snoc (ih (by omega)) (h n _ e)
    have := key L.length (Nat.le_refl _)
    rwa [List.take_length] at this

theorem G_ok (h : G ok L) (ho : o ∈ L) : ok o := by
  obtain ⟨i, hi⟩ := List.mem_iff_getElem?.1 ho
  exact (G_iff.1 h i o hi).1

/-- A valid log lies actor by actor. -/
theorem G_split (h : G ok L) (a : Int) : ∃ A B, L = A ++ (ofs L a ++ B) ∧ (∀ x, x ∈ A → x.actor < a) ∧ ∀ x, x ∈ B → a < x.actor := by
  induction h with
  | nil => exact ⟨[], [], rfl, by simp, by simp⟩
  | snoc h1 h2 ih =>
    rename_i P o
    obtain ⟨A, B, e, hA, hB⟩ := ih
    obtain ⟨_, hle, _⟩ := h2
    have hBm : ∀ x, x ∈ B → x.actor ≤ o.actor := fun x hx => hle x (by rw [e]; simp [hx])
    rcases Int.lt_trichotomy o.actor a with hlt | heq | hgt
    · have e1 : ofs P a = [] := by
        rw [List.eq_nil_iff_forall_not_mem]
        intro x hx
        have h3 := ofs_actor hx
        have h4 := hle x (List.mem_filter.1 hx).1
        omega
      have e2 : B = [] := by
        rw [List.eq_nil_iff_forall_not_mem]
        intro x hx
        have h3 := hB x hx
        have h4 := hBm x hx
        omega
      refine ⟨A ++ [o], [], ?_, ?_, by simp⟩
      · rw [ofs_snoc, if_neg (by omega), e1]
        rw [e1, e2] at e
        simp at e
        simp [e]
      · intro x hx
        rcases List.mem_append.1 hx with h | h
        · exact hA x h
        · simp at h; subst h; exact hlt
    · have e2 : B = [] := by
        rw [List.eq_nil_iff_forall_not_mem]
        intro x hx
        have h3 := hB x hx
        have h4 := hBm x hx
        omega
      refine ⟨A, [], ?_, hA, by simp⟩
      rw [ofs_snoc, if_pos heq]
      conv => lhs; rw [e, e2]
      simp
    · refine ⟨A, B ++ [o], ?_, hA, ?_⟩
      · rw [ofs_snoc, if_neg (by omega)]
        conv => lhs; rw [e]
        simp
      · intro x hx
        rcases List.mem_append.1 hx with h | h
        · exact hB x h
        · simp at h; subst h; exact hgt

def KS (P : List TOp) (o : TOp) : Prop := lastThing P o.obj = 0 ∨ lastThing P o.obj = thing o
def KK (L : List TOp) : Prop := ∀ (i : Nat) (o : TOp), L[i]? = some o → KS (L.take i) o
def less (p o : TOp) : Prop := p.time < o.time ∨ (p.time = o.time ∧ p.actor < o.actor)
def CA (L : List TOp) (o : TOp) (a : Nat) : Prop := ∀ n, o.deps.counts[a]? = some n → n ≤ ((ofs L (a : Int)).length : Int) ∧ (0 < n → ∀ p, (ofs L (a : Int))[(n - 1).toNat]? = some p → less p o)
def CC (L : List TOp) : Prop := ∀ (i : Nat) (o : TOp), L[i]? = some o → ∀ a : Nat, a < 16 → CA L o a
def Valid (ok : TOp → Prop) (L : List TOp) : Prop := L.length ≤ 1024 ∧ G ok L ∧ KK L ∧ CC L

/-- What the program's book tells of a log. -/
structure Rep (k : TBook) (L : List TOp) : Prop where
  of_ : ∀ a : Nat, a < 16 → k.of_[a]? = some (ofs L (a : Int))
  kind : ∀ b : Nat, b < 101 → k.kind[b]? = some (lastThing L (b : Int))
end

section
variable {ok : TOp → Prop} {L P Q : List TOp} {o p : TOp}

theorem step_first : Step ok [] o ↔ ok o ∧ o.seq = 1 := by
  unfold Step
  simp [ofs]

theorem step_le (h : G ok (Q ++ [p])) : Step ok (Q ++ [p]) o ↔ ok o ∧ p.actor ≤ o.actor ∧ o.seq = (ofs (Q ++ [p]) o.actor).length + 1 := by
  unfold Step
  constructor
  · rintro ⟨h1, h2, h3⟩
    exact ⟨h1, h2 p (by simp), h3⟩
  · rintro ⟨h1, h2, h3⟩
    exact ⟨h1, fun q hq => Int.le_trans ((G_last h).1 q hq) h2, h3⟩

theorem step_next (h : G ok (Q ++ [p])) : Step ok (Q ++ [p]) o ↔ ok o ∧ ((o.actor = p.actor ∧ o.seq = p.seq + 1) ∨ (p.actor < o.actor ∧ o.seq = 1)) := by
  rw [step_le h]
  obtain ⟨h1, h2⟩ := G_last h
  rcases Int.lt_trichotomy o.actor p.actor with hlt | heq | hgt
  · constructor
    · rintro ⟨_, h3, _⟩; omega
    · rintro ⟨_, h3⟩; omega
  · rw [heq, ← h2]
    constructor
    · rintro ⟨h3, _, h4⟩; exact ⟨h3, .inl ⟨rfl, h4⟩⟩
    · rintro ⟨h3, h4⟩; exact ⟨h3, by omega, by omega⟩
  · have e : ofs (Q ++ [p]) o.actor = [] := by
      rw [List.eq_nil_iff_forall_not_mem]
      intro x hx
      have h3 := ofs_actor hx
      have h4 := h1 x (List.mem_filter.1 hx).1
      omega
    rw [e]
    constructor
    · rintro ⟨h3, _, h4⟩; exact ⟨h3, .inr ⟨hgt, by simpa using h4⟩⟩
    · rintro ⟨h3, h4⟩; exact ⟨h3, by omega, by simp; omega⟩

/-- The list ahead of a place, by its last element. -/
theorem take_last {i : Nat} (h : 0 < i) (hp : L[i - 1]? = some p) : L.take i = L.take (i - 1) ++ [p] := by
  have := take_next hp
  rwa [show i - 1 + 1 = i by omega] at this
end
end Go.AM

set_option linter.unusedVariables false
set_option linter.unusedSimpArgs false
namespace Go.AM
open Go.Sort

/-- What a call of a function value comes to. -/
def dynV (env : Env) (f : V) (args : List V) (h : Heap) : Option (V × Heap) := match f with
  | .clo g caps => env (2 * g) none (args ++ caps) h
  | _ => none

theorem S_dynV {P : Program} {env : Env} {t : Nat → V} {h : Heap} {K : V → Heap → Prop} {f : Operand} {args : List Operand} : @S P env ⟨(.dyn f args)⟩ t h ⟨K⟩ = @WO _ (dynV env (ev t f) (args.map (ev t)) h) ⟨fun p => K p.1 p.2⟩ := by
  simp only [S, stepOp, evs_eq, ev_eq, dynV]
  split
  · rename_i he; rw [he]
  · rename_i he
    split
    · rename_i he2; exact (he _ _ he2).elim
    · rfl

/-- The blocks from n on stay as they are; others may come behind them. -/
structure KeepS (n : Nat) (H H' : Heap) : Prop where
  le : H.length ≤ H'.length
  at_ : ∀ b, n ≤ b → b < H.length → H'[b]? = H[b]?

theorem KeepS.refl (n : Nat) (H : Heap) : KeepS n H H := ⟨Nat.le_refl _, fun _ _ _ => rfl⟩
theorem KeepS.trans {n : Nat} {H H1 H2 : Heap} (a : KeepS n H H1) (b : KeepS n H1 H2) : KeepS n H H2 :=
  ⟨Nat.le_trans a.le b.le, fun x h1 h2 => (b.at_ x h1 (Nat.lt_of_lt_of_le h2 a.le)).trans (a.at_ x h1 h2)⟩
theorem KeepS.app (n : Nat) (H L : Heap) : KeepS n H (H ++ L) := ⟨by simp, fun b _ h => List.getElem?_append_left h⟩
theorem KeepS.set (n : Nat) (H : Heap) {C : Nat} {s : Slot} {H' : Heap} (a : KeepS n H H') (hc : H.length ≤ C) : KeepS n H (H'.set C s) :=
  ⟨by rw [List.length_set]; exact a.le, fun b h1 h2 => by rw [List.getElem?_set_ne (by omega)]; exact a.at_ b h1 h2⟩

/-- The order, the two functions, and what says that the heap holds a row. -/
structure LS (env : Env) (α : Type) [Inhabited α] where
  less : V
  swap : V
  lt : α → α → Bool
  n : Nat
  sz : Nat
  Lh : Heap → Array α → Prop
  low : ∀ {H A}, Lh H A → n ≤ H.length
  size : ∀ {H A}, Lh H A → A.size = sz
  big : sz < 4611686018427387904
  oneL : less.one = true
  oneS : swap.one = true
  nilL : isNil less = false
  nilS : isNil swap = false
  same : ∀ {H H' A}, Lh H A → H.length ≤ H'.length → (∀ b, b < n → H'[b]? = H[b]?) → Lh H' A
  lessW : ∀ {H A}, Lh H A → ∀ i j : Nat, i < sz → j < sz → dynV env less [.i (.s (.int .i64 (i : Int))), .i (.s (.int .i64 (j : Int)))] H = some (.i (.s (.bool (lt A[i]! A[j]!))), H)
  swapW : ∀ {H A}, Lh H A → ∀ i j : Nat, i < sz → j < sz → ∃ H', dynV env swap [.i (.s (.int .i64 (i : Int))), .i (.s (.int .i64 (j : Int)))] H = some (.tup [], H') ∧ Lh H' (swp A i j) ∧ KeepS n H H'

variable {P : Program} {env : Env} {α : Type} [Inhabited α]

/-- What the functions of the sort say: the row is turned, the blocks of those who call stay. -/
structure PostS (L : LS env α) (H : Heap) (A : Array α) (v0 : V) (v : V) (H' : Heap) : Prop where
  val : v = v0
  lh : L.Lh H' A
  keep : KeepS L.n H H'

/-- A walk's heap: the two functions in a block of its own. -/
structure Fr (L : LS env α) (H : Heap) (B : Nat) (h : Heap) (A : Array α) : Prop where
  lh : L.Lh h A
  keep : KeepS L.n H h
  box : h[B]? = some (.cells [L.less, L.swap])
  low : L.n ≤ B
  new : H.length ≤ B

theorem Fr.lt {L : LS env α} {H h : Heap} {B : Nat} {A : Array α} (f : Fr L H B h A) : B < h.length := (List.getElem?_eq_some_iff.1 f.box).1

theorem Fr.start {L : LS env α} {H : Heap} {A : Array α} (hL : L.Lh H A) : Fr L H H.length (H ++ [.cells [L.less, L.swap]]) A where
  lh := L.same hL (by simp) (fun b hb => List.getElem?_append_left (Nat.lt_of_lt_of_le hb (L.low hL)))
  keep := KeepS.app _ _ _
  box := by simp
  low := L.low hL
  new := Nat.le_refl _

theorem Fr.next {L : LS env α} {H h h' : Heap} {B : Nat} {A A' : Array α} (f : Fr L H B h A) (hl : L.Lh h' A') (hk : KeepS L.n h h') : Fr L H B h' A' :=
  ⟨hl, f.keep.trans hk, (hk.at_ B f.low f.lt).trans f.box, f.low, f.new⟩

theorem Fr.lessN {L : LS env α} {H h : Heap} {B : Nat} {A : Array α} (f : Fr L H B h A) (i j : Nat) (hi : i < L.sz) (hj : j < L.sz) : dynV env L.less [.i (.s (.int .i64 (i : Int))), .i (.s (.int .i64 (j : Int)))] h = some (.i (.s (.bool (L.lt A[i]! A[j]!))), h) := L.lessW f.lh i j hi hj

theorem Fr.swapN {L : LS env α} {H h : Heap} {B : Nat} {A : Array α} (f : Fr L H B h A) (i j : Nat) (hi : i < L.sz) (hj : j < L.sz) : ∃ h', dynV env L.swap [.i (.s (.int .i64 (i : Int))), .i (.s (.int .i64 (j : Int)))] h = some (.tup [], h') ∧ Fr L H B h' (swp A i j) := by
  obtain ⟨h', h1, h2, h3⟩ := L.swapW f.lh i j hi hj
  exact ⟨h', h1, f.next h2 h3⟩

/-- Loads out of the box. -/
theorem Fr.cellsB {L : LS env α} {H h : Heap} {B : Nat} {A : Array α} (f : Fr L H B h A) : getCells h B 2 = some [L.less, L.swap] := by
  unfold getCells
  rw [f.box]
  simp
theorem Fr.ldL {L : LS env α} {H h : Heap} {B : Nat} {A : Array α} (f : Fr L H B h A) : stepLoad 1 false h (.ptr B 2 0) = some L.less := by
  simp [stepLoad, f.cellsB, rowV]
theorem Fr.ldS {L : LS env α} {H h : Heap} {B : Nat} {A : Array α} (f : Fr L H B h A) : stepLoad 1 false h (.ptr B 2 1) = some L.swap := by
  simp [stepLoad, f.cellsB, rowV]

/-- A loop, the rest of the walk being out of sight. -/
theorem W_loopK {c : ACode} {t : Nat → V} {h : Heap} {Q : Post} (Inv : Nat → (Nat → V) → Heap → Prop) (n : Nat) (h0 : Inv n t h)
    (hr : ∀ (K : Post) (n : Nat) (t : Nat → V) (h : Heap), (∀ m t' h', m < n → Inv m t' h' → K .normal t' h') → (∀ e t' h', e ≠ .normal → Q e t' h' → K e t' h') → Inv n t h → @W P env ⟨c⟩ t h ⟨K⟩) : @W P env ⟨(.loop c)⟩ t h ⟨Q⟩ := by
  refine W_loop Inv n h0 fun n t h hI => ?_
  refine hr _ n t h ?_ ?_ hI
  · intro m t' h' hm hI; exact ⟨m, hm, hI⟩
  · intro e t' h' he hq
    cases e with
    | normal => exact absurd rfl he
    | exit id => exact hq
    | ret => exact hq

theorem w64_nat {n : Nat} (h : n < 9223372036854775808) : w64 (n : Int) = (n : Int) := w64_id (by omega) (by omega)
theorem nI_add {a b : Nat} : (a : Int) + (b : Int) = ((a + b : Nat) : Int) := by omega
theorem nI_one {a : Nat} : (a : Int) + 1 = ((a + 1 : Nat) : Int) := by omega
theorem nI_two {a : Nat} : 2 * (a : Int) = ((2 * a : Nat) : Int) := by omega
theorem nI_sub1 {a : Nat} (h : 1 ≤ a) : (a : Int) - 1 = ((a - 1 : Nat) : Int) := by omega
theorem nI_sub {a b : Nat} (h : b ≤ a) : (a : Int) - (b : Int) = ((a - b : Nat) : Int) := by omega

/-- A call of another of the sort's functions. -/
def CallS (env : Env) (c : Nat) (args : List V) (h : Heap) (K : V → Heap → Prop) : Prop := ∃ v h', env c none args h = some (v, h') ∧ K v h'
abbrev nV (n : Nat) : V := .i (.s (.int .i64 (n : Int)))
theorem gw : type_of% (And.intro gm (And.intro @S_dynV (And.intro @w64_nat (And.intro @w64_id (And.intro @nI_add (And.intro @nI_one (And.intro @nI_two (And.intro @nI_sub1 (And.intro @nI_sub (And.intro @Int.ofNat_lt @Int.ofNat_le)))))))))) := (And.intro gm (And.intro @S_dynV (And.intro @w64_nat (And.intro @w64_id (And.intro @nI_add (And.intro @nI_one (And.intro @nI_two (And.intro @nI_sub1 (And.intro @nI_sub (And.intro @Int.ofNat_lt @Int.ofNat_le))))))))))
end Go.AM

set_option linter.unusedVariables false
set_option linter.unusedSimpArgs false
set_option maxRecDepth 20000
namespace Go.AM
open Go.Sort
variable {P : Program} {env : Env} {α : Type} [Inhabited α]

def c_sort_insertionSort_func : AFn := ⟨35, (.seq (.ops [(qS 3 (.box (.tmp 0)))]) (.seq (.ops [(qS 8 (.mv (.tmp 1))), (qS 9 (.pu (.n (.ar .add)) [(.tmp 8), (ic 1)])), (qS 6 (.mv (.tmp 9)))]) (.block 0 (.loop (.seq (.seq (.ops [(qS 10 (.mv (.tmp 6))), (qS 11 (.mv (.tmp 2))), (qS 12 (.pu (.n (.ar .lss)) [(.tmp 10), (.tmp 11)]))]) (.cond (.tmp 12) .skip (.exit 0))) (.seq (.block 1 (.seq (.ops [(qS 15 (.mv (.tmp 6))), (qS 7 (.mv (.tmp 15)))]) (.block 2 (.loop (.seq (.seq (.ops [(qS 16 (.mv (.tmp 7))), (qS 17 (.mv (.tmp 1))), (qS 18 (.pu (.n (.ar .gtr)) [(.tmp 16), (.tmp 17)])), (qS 19 (.mv (.tmp 18))), ⟨(.some 20), (.fieldA 0 (.tmp 3)), (.some (19, true)), [], .none⟩, ⟨(.some 21), (.load 1 false (.tmp 20)), (.some (19, true)), [], .none⟩, ⟨(.some 22), (.mv (.tmp 7)), (.some (19, true)), [], .none⟩, ⟨(.some 23), (.mv (.tmp 7)), (.some (19, true)), [], .none⟩, ⟨(.some 24), (.pu (.n (.ar .sub)) [(.tmp 23), (ic 1)]), (.some (19, true)), [], .none⟩, ⟨(.some 25), (.dyn (.tmp 21) [(.tmp 22), (.tmp 24)]), (.some (19, true)), [], .none⟩, (qS 26 (.pick (.tmp 19) (.tmp 25) (.const (.bool false))))]) (.cond (.tmp 26) .skip (.exit 2))) (.seq (.block 3 (.ops [(qS 29 (.fieldA 1 (.tmp 3))), (qS 30 (.load 1 false (.tmp 29))), (qS 31 (.mv (.tmp 7))), (qS 32 (.mv (.tmp 7))), (qS 33 (.pu (.n (.ar .sub)) [(.tmp 32), (ic 1)])), (qS 34 (.dyn (.tmp 30) [(.tmp 31), (.tmp 33)]))])) (.ops [(qS 27 (.mv (.tmp 7))), (qS 28 (.pu (.n (.ar .sub)) [(.tmp 27), (ic 1)])), (qS 7 (.mv (.tmp 28)))]))))))) (.ops [(qS 13 (.mv (.tmp 6))), (qS 14 (.pu (.n (.ar .add)) [(.tmp 13), (ic 1)])), (qS 6 (.mv (.tmp 14)))]))))))), []⟩

theorem W_insertionSort {L : LS env α} {H : Heap} {A : Array α} (hL : L.Lh H A) (a b : Nat) (hb : b ≤ L.sz) (ha : a ≤ L.sz) :
    R P env c_sort_insertionSort_func [.agg [L.less, L.swap], nV a, nV b] H (PostS L H (insertionSort L.lt A a b) (.tup [])) := by
  have big := L.big
  refine R_of (by simp [c_sort_insertionSort_func]) ?_
  unfold c_sort_insertionSort_func
  have f0 := Fr.start hL
  simp (maxSteps := 2000000) (disch := omega) only [gw, Nat.reduceAdd, Nat.reduceMul, L.oneL, L.oneS]
  generalize H ++ [.cells [L.less, L.swap]] = h0 at f0 ⊢
  generalize H.length = B at f0 ⊢
  obtain ⟨R0, hR0⟩ : ∃ R0, R0 = insertionSort L.lt A a b := ⟨_, rfl⟩
  rw [← hR0]
  refine W_loopK (fun n t h => ∃ i A', n = b - i ∧ t 1 = nV a ∧ t 2 = nV b ∧ t 3 = .ptr B 2 0 ∧ t 6 = nV i ∧ a < i ∧ i ≤ L.sz + 1 ∧ Fr L H B h A' ∧ R0 = insOuter L.lt a b i A') (b - (a + 1)) ⟨a + 1, A, rfl, rfl, rfl, rfl, rfl, by omega, by omega, f0, hR0⟩ ?_
  clear f0 hR0 hL
  rintro K n t h hn hx ⟨i, A', rfl, h1, h2, h3, h6, hai, hi, f, hR⟩
  by_cases hib : i < b
  · rw [insOuter, if_pos hib] at hR
    simp (maxSteps := 2000000) (disch := omega) only [gw, Nat.reduceAdd, Nat.reduceMul, h1, h2, h3, h6, hib]
    refine W_loopK (fun n t h => ∃ j A2, j = n ∧ t 1 = nV a ∧ t 2 = nV b ∧ t 3 = .ptr B 2 0 ∧ t 6 = nV i ∧ t 7 = nV j ∧ j ≤ i ∧ Fr L H B h A2 ∧ insInner L.lt a i A' = insInner L.lt a j A2) i ⟨i, A', rfl, h1, h2, h3, h6, rfl, Nat.le_refl _, f, rfl⟩ ?_
    clear f h1 h2 h3 h6
    clear t h
    rintro K2 n t h hn2 hx2 ⟨j, A2, rfl, h1, h2, h3, h6, h7, hji, f, hI⟩
    have hnx : ∀ t' h', t' 1 = nV a → t' 2 = nV b → t' 3 = .ptr B 2 0 → t' 6 = nV (i + 1) → Fr L H B h' (insInner L.lt a i A') → K .normal t' h' := fun t' h' g1 g2 g3 g6 g => hn _ _ _ (by omega) ⟨i + 1, _, rfl, g1, g2, g3, g6, by omega, by omega, g, hR⟩
    clear hn hx
    by_cases haj : a < j
    · obtain ⟨k, rfl⟩ : ∃ k, j = k + 1 := ⟨j - 1, by omega⟩
      have hl := f.lessN (k + 1) k (by omega) (by omega)
      obtain ⟨h', hs, f'⟩ := f.swapN (k + 1) k (by omega) (by omega)
      by_cases hlt : L.lt A2[k + 1]! A2[k]! = true
      · rw [insInner, if_pos (by simp [haj, hlt])] at hI
        rw [hlt] at hl
        simp (maxSteps := 2000000) (disch := omega) only [gw, Nat.reduceAdd, Nat.reduceMul, h1, h2, h3, h6, h7, haj, f.ldL, f.ldS, hl, hs, Nat.add_sub_cancel]
        exact hn2 _ _ _ (by omega) ⟨k, _, rfl, h1, h2, h3, h6, rfl, by omega, f', hI⟩
      · rw [insInner, if_neg (by simp [hlt])] at hI
        rw [Bool.not_eq_true] at hlt
        rw [hlt] at hl
        simp (maxSteps := 2000000) (disch := omega) only [gw, Nat.reduceAdd, Nat.reduceMul, h1, h2, h3, h6, h7, haj, f.ldL, f.ldS, hl, Nat.add_sub_cancel]
        refine hx2 _ _ _ (by simp) ?_
        simp (maxSteps := 2000000) (disch := omega) only [gw, Nat.reduceAdd, Nat.reduceMul, h1, h2, h3, h6, h7]
        rw [hI] at hnx
        exact hnx _ _ h1 h2 h3 rfl f
    · have hI2 : insInner L.lt a j A2 = A2 := by
        cases j with
        | zero => rfl
        | succ k => rw [insInner, if_neg (by simp [haj])]
      rw [hI2] at hI
      simp (maxSteps := 2000000) (disch := omega) only [gw, Nat.reduceAdd, Nat.reduceMul, h1, h2, h3, h6, h7, haj]
      refine hx2 _ _ _ (by simp) ?_
      simp (maxSteps := 2000000) (disch := omega) only [gw, Nat.reduceAdd, Nat.reduceMul, h1, h2, h3, h6, h7]
      rw [hI] at hnx
      exact hnx _ _ h1 h2 h3 rfl f
  · rw [insOuter, if_neg hib] at hR
    simp (maxSteps := 2000000) (disch := omega) only [gw, Nat.reduceAdd, Nat.reduceMul, h1, h2, h3, h6, hib]
    refine hx _ _ _ (by simp) ?_
    subst hR
    simp (maxSteps := 2000000) (disch := omega) only [gw, Nat.reduceAdd, Nat.reduceMul]
    exact ⟨rfl, f.lh, f.keep⟩

def c_sort_siftDown_func : AFn := ⟨55, (.seq (.ops [(qS 4 (.box (.tmp 0)))]) (.seq (.ops [(qS 10 (.mv (.tmp 1))), (qS 8 (.mv (.tmp 10)))]) (.block 0 (.loop (.block 1 (.seq (.ops [(qS 11 (.mv (.tmp 8))), (qS 12 (.pu (.n (.ar .mul)) [(ic 2), (.tmp 11)])), (qS 13 (.pu (.n (.ar .add)) [(.tmp 12), (ic 1)])), (qS 9 (.mv (.tmp 13)))]) (.seq (.seq (.ops [(qS 14 (.mv (.tmp 9))), (qS 15 (.mv (.tmp 2))), (qS 16 (.pu (.n (.ar .geq)) [(.tmp 14), (.tmp 15)]))]) (.cond (.tmp 16) (.exit 0) .skip)) (.seq (.seq (.ops [(qS 17 (.mv (.tmp 9))), (qS 18 (.pu (.n (.ar .add)) [(.tmp 17), (ic 1)])), (qS 19 (.mv (.tmp 2))), (qS 20 (.pu (.n (.ar .lss)) [(.tmp 18), (.tmp 19)])), (qS 21 (.mv (.tmp 20))), ⟨(.some 22), (.fieldA 0 (.tmp 4)), (.some (21, true)), [], .none⟩, ⟨(.some 23), (.load 1 false (.tmp 22)), (.some (21, true)), [], .none⟩, ⟨(.some 24), (.mv (.tmp 3)), (.some (21, true)), [], .none⟩, ⟨(.some 25), (.mv (.tmp 9)), (.some (21, true)), [], .none⟩, ⟨(.some 26), (.pu (.n (.ar .add)) [(.tmp 24), (.tmp 25)]), (.some (21, true)), [], .none⟩, ⟨(.some 27), (.mv (.tmp 3)), (.some (21, true)), [], .none⟩, ⟨(.some 28), (.mv (.tmp 9)), (.some (21, true)), [], .none⟩, ⟨(.some 29), (.pu (.n (.ar .add)) [(.tmp 27), (.tmp 28)]), (.some (21, true)), [], .none⟩, ⟨(.some 30), (.pu (.n (.ar .add)) [(.tmp 29), (ic 1)]), (.some (21, true)), [], .none⟩, ⟨(.some 31), (.dyn (.tmp 23) [(.tmp 26), (.tmp 30)]), (.some (21, true)), [], .none⟩, (qS 32 (.pick (.tmp 21) (.tmp 31) (.const (.bool false))))]) (.cond (.tmp 32) (.ops [(qS 33 (.mv (.tmp 9))), (qS 34 (.pu (.n (.ar .add)) [(.tmp 33), (ic 1)])), (qS 9 (.mv (.tmp 34)))]) .skip)) (.seq (.seq (.ops [(qS 35 (.fieldA 0 (.tmp 4))), (qS 36 (.load 1 false (.tmp 35))), (qS 37 (.mv (.tmp 3))), (qS 38 (.mv (.tmp 8))), (qS 39 (.pu (.n (.ar .add)) [(.tmp 37), (.tmp 38)])), (qS 40 (.mv (.tmp 3))), (qS 41 (.mv (.tmp 9))), (qS 42 (.pu (.n (.ar .add)) [(.tmp 40), (.tmp 41)])), (qS 43 (.dyn (.tmp 36) [(.tmp 39), (.tmp 42)])), (qS 44 (.pu (.n (.un .not)) [(.tmp 43)]))]) (.cond (.tmp 44) .ret .skip)) (.seq (.ops [(qS 45 (.fieldA 1 (.tmp 4))), (qS 46 (.load 1 false (.tmp 45))), (qS 47 (.mv (.tmp 3))), (qS 48 (.mv (.tmp 8))), (qS 49 (.pu (.n (.ar .add)) [(.tmp 47), (.tmp 48)])), (qS 50 (.mv (.tmp 3))), (qS 51 (.mv (.tmp 9))), (qS 52 (.pu (.n (.ar .add)) [(.tmp 50), (.tmp 51)])), (qS 53 (.dyn (.tmp 46) [(.tmp 49), (.tmp 52)]))]) (.ops [(qS 54 (.mv (.tmp 9))), (qS 8 (.mv (.tmp 54)))]))))))))))), []⟩

theorem W_siftDown {L : LS env α} {H : Heap} {A : Array α} (hL : L.Lh H A) (lo hi first : Nat) (hb : first + hi ≤ L.sz) (hlo : lo ≤ L.sz) :
    R P env c_sort_siftDown_func [.agg [L.less, L.swap], nV lo, nV hi, nV first] H (PostS L H (siftDown L.lt hi first lo A) (.tup [])) := by
  have big := L.big
  refine R_of (by simp [c_sort_siftDown_func]) ?_
  unfold c_sort_siftDown_func
  have f0 := Fr.start hL
  simp (maxSteps := 2000000) (disch := omega) only [gw, Nat.reduceAdd, Nat.reduceMul, L.oneL, L.oneS]
  generalize H ++ [.cells [L.less, L.swap]] = h0 at f0 ⊢
  generalize H.length = B at f0 ⊢
  obtain ⟨R0, hR0⟩ : ∃ R0, R0 = siftDown L.lt hi first lo A := ⟨_, rfl⟩
  rw [← hR0]
  refine W_loopK (fun n t h => ∃ r A', n = L.sz - r ∧ t 2 = nV hi ∧ t 3 = nV first ∧ t 4 = .ptr B 2 0 ∧ t 8 = nV r ∧ r ≤ L.sz ∧ Fr L H B h A' ∧ R0 = siftDown L.lt hi first r A') (L.sz - lo) ⟨lo, A, rfl, rfl, rfl, rfl, rfl, hlo, f0, hR0⟩ ?_
  clear f0 hR0 hL
  rintro K n t h hn hx ⟨r, A', rfl, h2, h3, h4, h8, hr, f, hR⟩
  rw [siftDown] at hR
  have hret : ∀ t' h', R0 = A' → h' = h → K .ret t' h' := by
    rintro t' h' e rfl
    refine hx _ _ _ (by simp) ?_
    subst e
    simp (maxSteps := 2000000) (disch := omega) only [gw, Nat.reduceAdd, Nat.reduceMul]
    exact ⟨rfl, f.lh, f.keep⟩
  by_cases h1 : 2 * r + 1 ≥ hi
  · rw [dif_pos h1] at hR
    simp (maxSteps := 2000000) (disch := omega) only [gw, Nat.reduceAdd, Nat.reduceMul, h2, h3, h4, h8, ge_iff_le.1 h1]
    refine hx _ _ _ (by simp) ?_
    subst hR
    simp (maxSteps := 2000000) (disch := omega) only [gw, Nat.reduceAdd, Nat.reduceMul]
    exact ⟨rfl, f.lh, f.keep⟩
  · rw [dif_neg h1] at hR
    have h1' : ¬ hi ≤ 2 * r + 1 := h1
    by_cases h5 : 2 * r + 1 + 1 < hi
    · have hl := f.lessN (first + (2 * r + 1)) (first + (2 * r + 1) + 1) (by omega) (by omega)
      by_cases hlt : L.lt A'[first + (2 * r + 1)]! A'[first + (2 * r + 1) + 1]! = true
      · rw [if_pos (by simp [h5, hlt])] at hR
        rw [hlt] at hl
        have hl2 := f.lessN (first + r) (first + (2 * r + 1 + 1)) (by omega) (by omega)
        obtain ⟨h', hs, f'⟩ := f.swapN (first + r) (first + (2 * r + 1 + 1)) (by omega) (by omega)
        by_cases hlt2 : L.lt A'[first + r]! A'[first + (2 * r + 2)]! = true
        · rw [if_neg (by simp [hlt2]), dif_pos h5] at hR
          rw [show 2 * r + 1 + 1 = 2 * r + 2 from rfl, hlt2] at hl2
          simp (maxSteps := 2000000) (disch := omega) only [gw, Nat.reduceAdd, Nat.reduceMul, h2, h3, h4, h8, h1', h5, f.ldL, f.ldS, hl, hl2, hs]
          exact hn _ _ _ (by omega) ⟨2 * r + 2, _, rfl, h2, h3, h4, rfl, by omega, f', hR⟩
        · rw [if_pos (by simp [hlt2])] at hR
          rw [Bool.not_eq_true] at hlt2
          rw [show 2 * r + 1 + 1 = 2 * r + 2 from rfl, hlt2] at hl2
          simp (maxSteps := 2000000) (disch := omega) only [gw, Nat.reduceAdd, Nat.reduceMul, h2, h3, h4, h8, h1', h5, f.ldL, f.ldS, hl, hl2]
          exact hret _ _ hR rfl
      · rw [if_neg (by simp [hlt])] at hR
        rw [Bool.not_eq_true] at hlt
        rw [hlt] at hl
        have hl2 := f.lessN (first + r) (first + (2 * r + 1)) (by omega) (by omega)
        obtain ⟨h', hs, f'⟩ := f.swapN (first + r) (first + (2 * r + 1)) (by omega) (by omega)
        by_cases hlt2 : L.lt A'[first + r]! A'[first + (2 * r + 1)]! = true
        · rw [if_neg (by simp [hlt2])] at hR
          rw [hlt2] at hl2
          simp (maxSteps := 2000000) (disch := omega) only [gw, Nat.reduceAdd, Nat.reduceMul, h2, h3, h4, h8, h1', h5, f.ldL, f.ldS, hl, hl2, hs]
          exact hn _ _ _ (by omega) ⟨2 * r + 1, _, rfl, h2, h3, h4, rfl, by omega, f', hR⟩
        · rw [if_pos (by simp [hlt2])] at hR
          rw [Bool.not_eq_true] at hlt2
          rw [hlt2] at hl2
          simp (maxSteps := 2000000) (disch := omega) only [gw, Nat.reduceAdd, Nat.reduceMul, h2, h3, h4, h8, h1', h5, f.ldL, f.ldS, hl, hl2]
          exact hret _ _ hR rfl
    · rw [if_neg (by simp [h5])] at hR
      have hl2 := f.lessN (first + r) (first + (2 * r + 1)) (by omega) (by omega)
      obtain ⟨h', hs, f'⟩ := f.swapN (first + r) (first + (2 * r + 1)) (by omega) (by omega)
      by_cases hlt2 : L.lt A'[first + r]! A'[first + (2 * r + 1)]! = true
      · rw [if_neg (by simp [hlt2])] at hR
        rw [hlt2] at hl2
        simp (maxSteps := 2000000) (disch := omega) only [gw, Nat.reduceAdd, Nat.reduceMul, h2, h3, h4, h8, h1', h5, f.ldL, f.ldS, hl2, hs]
        exact hn _ _ _ (by omega) ⟨2 * r + 1, _, rfl, h2, h3, h4, rfl, by omega, f', hR⟩
      · rw [if_pos (by simp [hlt2])] at hR
        rw [Bool.not_eq_true] at hlt2
        rw [hlt2] at hl2
        simp (maxSteps := 2000000) (disch := omega) only [gw, Nat.reduceAdd, Nat.reduceMul, h2, h3, h4, h8, h1', h5, f.ldL, f.ldS, hl2]
        exact hret _ _ hR rfl

def c_sort_reverseRange_func : AFn := ⟨23, (.seq (.ops [(qS 3 (.box (.tmp 0)))]) (.seq (.ops [(qS 8 (.mv (.tmp 1))), (qS 6 (.mv (.tmp 8)))]) (.seq (.ops [(qS 9 (.mv (.tmp 2))), (qS 10 (.pu (.n (.ar .sub)) [(.tmp 9), (ic 1)])), (qS 7 (.mv (.tmp 10)))]) (.block 0 (.loop (.seq (.seq (.ops [(qS 11 (.mv (.tmp 6))), (qS 12 (.mv (.tmp 7))), (qS 13 (.pu (.n (.ar .lss)) [(.tmp 11), (.tmp 12)]))]) (.cond (.tmp 13) .skip (.exit 0))) (.block 1 (.seq (.ops [(qS 14 (.fieldA 1 (.tmp 3))), (qS 15 (.load 1 false (.tmp 14))), (qS 16 (.mv (.tmp 6))), (qS 17 (.mv (.tmp 7))), (qS 18 (.dyn (.tmp 15) [(.tmp 16), (.tmp 17)]))]) (.seq (.ops [(qS 19 (.mv (.tmp 6))), (qS 20 (.pu (.n (.ar .add)) [(.tmp 19), (ic 1)])), (qS 6 (.mv (.tmp 20)))]) (.ops [(qS 21 (.mv (.tmp 7))), (qS 22 (.pu (.n (.ar .sub)) [(.tmp 21), (ic 1)])), (qS 7 (.mv (.tmp 22)))])))))))))), []⟩

theorem W_reverseRange {L : LS env α} {H : Heap} {A : Array α} (hL : L.Lh H A) (a b : Nat) (hb : b ≤ L.sz) (hab : a < b) :
    R P env c_sort_reverseRange_func [.agg [L.less, L.swap], nV a, nV b] H (PostS L H (reverseRange A a b) (.tup [])) := by
  have big := L.big
  refine R_of (by simp [c_sort_reverseRange_func]) ?_
  unfold c_sort_reverseRange_func
  have f0 := Fr.start hL
  simp (maxSteps := 2000000) (disch := omega) only [gw, Nat.reduceAdd, Nat.reduceMul, L.oneL, L.oneS]
  generalize H ++ [.cells [L.less, L.swap]] = h0 at f0 ⊢
  generalize H.length = B at f0 ⊢
  obtain ⟨R0, hR0⟩ : ∃ R0, R0 = reverseRange A a b := ⟨_, rfl⟩
  rw [← hR0]
  refine W_loopK (fun n t h => ∃ i j A', n = j - i ∧ t 3 = .ptr B 2 0 ∧ t 6 = nV i ∧ t 7 = nV j ∧ i ≤ L.sz ∧ j < L.sz ∧ Fr L H B h A' ∧ R0 = reverseLoop i j A') (b - 1 - a) ⟨a, b - 1, A, rfl, rfl, rfl, rfl, by omega, by omega, f0, hR0⟩ ?_
  clear f0 hR0 hL
  rintro K n t h hn hx ⟨i, j, A', rfl, h3, h6, h7, hi, hj, f, hR⟩
  rw [reverseLoop] at hR
  by_cases hij : i < j
  · rw [if_pos hij] at hR
    obtain ⟨h', hs, f'⟩ := f.swapN i j (by omega) (by omega)
    simp (maxSteps := 2000000) (disch := omega) only [gw, Nat.reduceAdd, Nat.reduceMul, h3, h6, h7, hij, f.ldS, hs]
    exact hn _ _ _ (by omega) ⟨i + 1, j - 1, _, rfl, h3, rfl, rfl, by omega, by omega, f', hR⟩
  · rw [if_neg hij] at hR
    simp (maxSteps := 2000000) (disch := omega) only [gw, Nat.reduceAdd, Nat.reduceMul, h3, h6, h7, hij]
    refine hx _ _ _ (by simp) ?_
    subst hR
    simp (maxSteps := 2000000) (disch := omega) only [gw, Nat.reduceAdd, Nat.reduceMul]
    exact ⟨rfl, f.lh, f.keep⟩
end Go.AM

set_option linter.unusedVariables false
set_option linter.unusedSimpArgs false
set_option maxRecDepth 20000
namespace Go.AM
open Go.Sort
variable {P : Program} {env : Env} {α : Type} [Inhabited α]

theorem Fr.ldB {L : LS env α} {H h : Heap} {B : Nat} {A : Array α} (f : Fr L H B h A) : stepLoad 2 true h (.ptr B 2 0) = some (.agg [L.less, L.swap]) := by
  simp [stepLoad, f.cellsB, rowV]
theorem nI_div2 {a : Nat} : Int.tdiv (a : Int) 2 = ((a / 2 : Nat) : Int) := rfl
theorem nI_div4 {a : Nat} : Int.tdiv (a : Int) 4 = ((a / 4 : Nat) : Int) := rfl
theorem nI_div8 {a : Nat} : Int.tdiv (a : Int) 8 = ((a / 8 : Nat) : Int) := rfl
theorem PostS.next {L : LS env α} {H h h' : Heap} {B : Nat} {A A' : Array α} {v0 v : V} (f : Fr L H B h A) (p : PostS L h A' v0 v h') : Fr L H B h' A' := f.next p.lh p.keep

theorem d01 : decide ((0 : Int) ≤ -1) = false := rfl

/-- A call of a function of the sort that gives no value. -/
def CS (L : LS env α) (c : Nat) (args : List V) (H : Heap) (A' : Array α) (v0 : V) : Prop := ∃ h', env c none args H = some (v0, h') ∧ L.Lh h' A' ∧ KeepS L.n H h'

theorem CS.of {L : LS env α} {c : Nat} {args : List V} {H : Heap} {A' : Array α} {v0 : V} {F : AFn} (he : ∀ H, env c none args H = runIn P env F none args H) (h : R P env F args H (PostS L H A' v0)) : CS L c args H A' v0 := by
  obtain ⟨⟨v, h'⟩, h1, h2⟩ := h
  have p : PostS L H A' v0 v h' := h2
  refine ⟨h', ?_, p.lh, p.keep⟩
  rw [he]
  exact h1.trans (by rw [p.val])

def c_sort_heapSort_func (f_sort_siftDown_func : Nat) : AFn := ⟨45, (.seq (.ops [(qS 3 (.box (.tmp 0)))]) (.seq (.ops [(qS 11 (.mv (.tmp 1))), (qS 6 (.mv (.tmp 11)))]) (.seq (.ops [(qS 7 (.mv (ic 0)))]) (.seq (.ops [(qS 12 (.mv (.tmp 2))), (qS 13 (.mv (.tmp 1))), (qS 14 (.pu (.n (.ar .sub)) [(.tmp 12), (.tmp 13)])), (qS 8 (.mv (.tmp 14)))]) (.seq (.seq (.ops [(qS 15 (.mv (.tmp 8))), (qS 16 (.pu (.n (.ar .sub)) [(.tmp 15), (ic 1)])), (qS 17 (.pu (.n (.ar .quo)) [(.tmp 16), (ic 2)])), (qS 9 (.mv (.tmp 17)))]) (.block 0 (.loop (.seq (.seq (.ops [(qS 18 (.mv (.tmp 9))), (qS 19 (.pu (.n (.ar .geq)) [(.tmp 18), (ic 0)]))]) (.cond (.tmp 19) .skip (.exit 0))) (.seq (.block 1 (.ops [(qS 22 (.load 2 true (.tmp 3))), (qS 23 (.mv (.tmp 9))), (qS 24 (.mv (.tmp 8))), (qS 25 (.mv (.tmp 6))), (qS 26 (.call (2 * f_sort_siftDown_func + 1) [(.tmp 22), (.tmp 23), (.tmp 24), (.tmp 25)]))])) (.ops [(qS 20 (.mv (.tmp 9))), (qS 21 (.pu (.n (.ar .sub)) [(.tmp 20), (ic 1)])), (qS 9 (.mv (.tmp 21)))])))))) (.seq (.ops [(qS 27 (.mv (.tmp 8))), (qS 28 (.pu (.n (.ar .sub)) [(.tmp 27), (ic 1)])), (qS 10 (.mv (.tmp 28)))]) (.block 2 (.loop (.seq (.seq (.ops [(qS 29 (.mv (.tmp 10))), (qS 30 (.pu (.n (.ar .geq)) [(.tmp 29), (ic 0)]))]) (.cond (.tmp 30) .skip (.exit 2))) (.seq (.block 3 (.seq (.ops [(qS 33 (.fieldA 1 (.tmp 3))), (qS 34 (.load 1 false (.tmp 33))), (qS 35 (.mv (.tmp 6))), (qS 36 (.mv (.tmp 6))), (qS 37 (.mv (.tmp 10))), (qS 38 (.pu (.n (.ar .add)) [(.tmp 36), (.tmp 37)])), (qS 39 (.dyn (.tmp 34) [(.tmp 35), (.tmp 38)]))]) (.ops [(qS 40 (.load 2 true (.tmp 3))), (qS 41 (.mv (.tmp 7))), (qS 42 (.mv (.tmp 10))), (qS 43 (.mv (.tmp 6))), (qS 44 (.call (2 * f_sort_siftDown_func + 1) [(.tmp 40), (.tmp 41), (.tmp 42), (.tmp 43)]))]))) (.ops [(qS 31 (.mv (.tmp 10))), (qS 32 (.pu (.n (.ar .sub)) [(.tmp 31), (ic 1)])), (qS 10 (.mv (.tmp 32)))]))))))))))), []⟩

theorem W_heapSort {L : LS env α} {fS : Nat} (kd : ∀ {H A}, L.Lh H A → ∀ lo hi first : Nat, first + hi ≤ L.sz → lo ≤ L.sz → CS L (2 * fS + 1) [.agg [L.less, L.swap], nV lo, nV hi, nV first] H (siftDown L.lt hi first lo A) (.tup []))
    {H : Heap} {A : Array α} (hL : L.Lh H A) (a b : Nat) (hb : b ≤ L.sz) (hab : a + 2 ≤ b) :
    R P env (c_sort_heapSort_func fS) [.agg [L.less, L.swap], nV a, nV b] H (PostS L H (heapSort L.lt A a b) (.tup [])) := by
  have big := L.big
  refine R_of (by simp [c_sort_heapSort_func]) ?_
  unfold c_sort_heapSort_func
  have f0 := Fr.start hL
  simp (maxSteps := 2000000) (disch := omega) only [gw, Nat.reduceAdd, Nat.reduceMul, L.oneL, L.oneS, nI_div2]
  generalize H ++ [.cells [L.less, L.swap]] = h0 at f0 ⊢
  generalize H.length = B at f0 ⊢
  obtain ⟨R0, hR0⟩ : ∃ R0, R0 = heapSort L.lt A a b := ⟨_, rfl⟩
  rw [← hR0]
  unfold heapSort at hR0
  obtain ⟨m, hm⟩ : ∃ m, m = b - a := ⟨_, rfl⟩
  rw [← hm] at hR0 ⊢
  refine W_loopK (fun n t h => ∃ k A' z, k = n ∧ t 3 = .ptr B 2 0 ∧ t 6 = nV a ∧ t 7 = nV 0 ∧ t 8 = nV m ∧ t 9 = .i (.s (.int .i64 z)) ∧ z = (k : Int) - 1 ∧ k ≤ m ∧ Fr L H B h A' ∧ R0 = heapPop L.lt a m (heapBuild L.lt m a k A')) ((m - 1) / 2 + 1) ⟨_, A, _, rfl, rfl, rfl, rfl, rfl, rfl, by omega, by omega, f0, hR0⟩ ?_
  clear f0 hR0 hL
  rintro K n t h hn hx ⟨k, A', z, rfl, h3, h6, h7, h8, h9, hz, hk, f, hR⟩
  cases k with
  | succ k =>
    have hz2 : z = (k : Int) := by omega
    have hz0 : (0 : Int) ≤ (k : Int) := by omega
    subst hz2
    obtain ⟨h', hc, l2, k2⟩ := kd f.lh k m a (by omega) (by omega)
    simp (maxSteps := 2000000) (disch := omega) only [gw, Nat.reduceAdd, Nat.reduceMul, h3, h6, h7, h8, h9, hz0, f.ldB, hc]
    exact hn _ _ _ (by omega) ⟨k, _, _, rfl, h3, h6, h7, h8, rfl, rfl, by omega, f.next l2 k2, hR⟩
  | zero =>
    have hz2 : z = -1 := by omega
    subst hz2
    simp (maxSteps := 2000000) (disch := omega) only [gw, Nat.reduceAdd, Nat.reduceMul, h3, h6, h7, h8, h9, d01]
    refine hx _ _ _ (by simp) ?_
    simp (maxSteps := 2000000) (disch := omega) only [gw, Nat.reduceAdd, Nat.reduceMul, h3, h6, h7, h8, h9]
    clear hn hx
    refine W_loopK (fun n t h => ∃ k A' z, k = n ∧ t 3 = .ptr B 2 0 ∧ t 6 = nV a ∧ t 7 = nV 0 ∧ t 10 = .i (.s (.int .i64 z)) ∧ z = (k : Int) - 1 ∧ k ≤ m ∧ Fr L H B h A' ∧ R0 = heapPop L.lt a k A') m ⟨m, A', _, rfl, h3, h6, h7, rfl, by omega, by omega, f, hR⟩ ?_
    clear f hR h3 h6 h7 h8 h9 hz hk t h
    rintro K2 n t h hn hx ⟨k, A2, z, rfl, h3, h6, h7, h10, hz, hk, f, hR⟩
    cases k with
    | succ k =>
      have hz2 : z = (k : Int) := by omega
      have hz0 : (0 : Int) ≤ (k : Int) := by omega
      subst hz2
      obtain ⟨h1, hs, f1⟩ := f.swapN a (a + k) (by omega) (by omega)
      obtain ⟨h', hc, l2, k2⟩ := kd f1.lh 0 k a (by omega) (by omega)
      simp (maxSteps := 2000000) (disch := omega) only [gw, Nat.reduceAdd, Nat.reduceMul, h3, h6, h7, h10, hz0, f.ldS, hs, f1.ldB, hc]
      exact hn _ _ _ (by omega) ⟨k, _, _, rfl, h3, h6, h7, rfl, rfl, by omega, f1.next l2 k2, hR⟩
    | zero =>
      have hz2 : z = -1 := by omega
      subst hz2
      simp (maxSteps := 2000000) (disch := omega) only [gw, Nat.reduceAdd, Nat.reduceMul, h3, h6, h7, h10, d01]
      refine hx _ _ _ (by simp) ?_
      subst hR
      simp (maxSteps := 2000000) (disch := omega) only [gw, Nat.reduceAdd, Nat.reduceMul]
      exact ⟨rfl, f.lh, f.keep⟩
end Go.AM

set_option linter.unusedVariables false
set_option linter.unusedSimpArgs false
set_option maxRecDepth 20000
namespace Go.AM
open Go.Sort
variable {P : Program} {env : Env} {α : Type} [Inhabited α]

theorem scanE2 {L : LS env α} {Q : Post} {H h : Heap} {B : Nat} {A : Array α} {t : Nat → V} (f : Fr L H B h A) {a i j : Nat} (g1 : t 1 = nV a) (g4 : t 4 = .ptr B 2 0) (gi : t 9 = nV i) (gj : t 10 = nV j) (ha : a < L.sz) (hj : j < L.sz)
    (hQ : ∀ t', t' 1 = nV a → t' 4 = .ptr B 2 0 → t' 9 = nV (scanUp (fun x => !L.lt A[a]! x) A j i) → t' 10 = nV j → Q (.exit 2) t' h) : @W P env ⟨(.loop (.seq (.seq (.ops [(qS 20 (.mv (.tmp 9))), (qS 21 (.mv (.tmp 10))), (qS 22 (.pu (.n (.ar .leq)) [(.tmp 20), (.tmp 21)])), (qS 23 (.mv (.tmp 22))), ⟨(.some 24), (.fieldA 0 (.tmp 4)), (.some (23, true)), [], .none⟩, ⟨(.some 25), (.load 1 false (.tmp 24)), (.some (23, true)), [], .none⟩, ⟨(.some 26), (.mv (.tmp 1)), (.some (23, true)), [], .none⟩, ⟨(.some 27), (.mv (.tmp 9)), (.some (23, true)), [], .none⟩, ⟨(.some 28), (.dyn (.tmp 25) [(.tmp 26), (.tmp 27)]), (.some (23, true)), [], .none⟩, ⟨(.some 29), (.pu (.n (.un .not)) [(.tmp 28)]), (.some (23, true)), [], .none⟩, (qS 30 (.pick (.tmp 23) (.tmp 29) (.const (.bool false))))]) (.cond (.tmp 30) .skip (.exit 2))) (.block 3 (.ops [(qS 31 (.mv (.tmp 9))), (qS 32 (.pu (.n (.ar .add)) [(.tmp 31), (ic 1)])), (qS 9 (.mv (.tmp 32)))]))))⟩ t h ⟨Q⟩ := by
  have big := L.big
  obtain ⟨S, hS⟩ : ∃ S, S = scanUp (fun x => !L.lt A[a]! x) A j i := ⟨_, rfl⟩
  rw [← hS] at hQ
  refine W_loopK (fun n t h' => ∃ i', n = j + 1 - i' ∧ h' = h ∧ t 1 = nV a ∧ t 4 = .ptr B 2 0 ∧ t 9 = nV i' ∧ t 10 = nV j ∧ S = scanUp (fun x => !L.lt A[a]! x) A j i') (j + 1 - i) ⟨i, rfl, rfl, g1, g4, gi, gj, hS⟩ ?_
  clear g1 g4 gi gj hS
  rintro K n t h' hn hx ⟨i', rfl, rfl, g1, g4, gi, gj, hS⟩
  rw [scanUp] at hS
  by_cases hij : i' ≤ j
  · have hl := f.lessN a i' (by omega) (by omega)
    by_cases hp : L.lt A[a]! A[i']! = true
    · rw [hp] at hl
      rw [if_neg (by simp [hp])] at hS
      simp (maxSteps := 2000000) (disch := omega) only [gw, Nat.reduceAdd, Nat.reduceMul, g1, g4, gi, gj, hij, f.ldL, hl]
      exact hx _ _ _ (by simp) (hQ _ g1 g4 (by rw [hS]; exact gi) gj)
    · rw [Bool.not_eq_true] at hp
      rw [hp] at hl
      rw [if_pos (by simp [hij, hp])] at hS
      simp (maxSteps := 2000000) (disch := omega) only [gw, Nat.reduceAdd, Nat.reduceMul, g1, g4, gi, gj, hij, f.ldL, hl]
      exact hn _ _ _ (by omega) ⟨i' + 1, rfl, rfl, g1, g4, rfl, gj, hS⟩
  · rw [if_neg (by simp [hij])] at hS
    simp (maxSteps := 2000000) (disch := omega) only [gw, Nat.reduceAdd, Nat.reduceMul, g1, g4, gi, gj, hij]
    exact hx _ _ _ (by simp) (hQ _ g1 g4 (by rw [hS]; exact gi) gj)

theorem scanE4 {L : LS env α} {Q : Post} {H h : Heap} {B : Nat} {A : Array α} {t : Nat → V} (f : Fr L H B h A) {a i j : Nat} (g1 : t 1 = nV a) (g4 : t 4 = .ptr B 2 0) (gi : t 9 = nV i) (gj : t 10 = nV j) (ha : a < L.sz) (hj : j < L.sz) (hi : 1 ≤ i) (hi2 : i ≤ L.sz)
    (hQ : ∀ t', t' 1 = nV a → t' 4 = .ptr B 2 0 → t' 9 = nV i → t' 10 = nV (scanDown (fun x => L.lt A[a]! x) A i j) → Q (.exit 4) t' h) : @W P env ⟨(.loop (.seq (.seq (.ops [(qS 33 (.mv (.tmp 9))), (qS 34 (.mv (.tmp 10))), (qS 35 (.pu (.n (.ar .leq)) [(.tmp 33), (.tmp 34)])), (qS 36 (.mv (.tmp 35))), ⟨(.some 37), (.fieldA 0 (.tmp 4)), (.some (36, true)), [], .none⟩, ⟨(.some 38), (.load 1 false (.tmp 37)), (.some (36, true)), [], .none⟩, ⟨(.some 39), (.mv (.tmp 1)), (.some (36, true)), [], .none⟩, ⟨(.some 40), (.mv (.tmp 10)), (.some (36, true)), [], .none⟩, ⟨(.some 41), (.dyn (.tmp 38) [(.tmp 39), (.tmp 40)]), (.some (36, true)), [], .none⟩, (qS 42 (.pick (.tmp 36) (.tmp 41) (.const (.bool false))))]) (.cond (.tmp 42) .skip (.exit 4))) (.block 5 (.ops [(qS 43 (.mv (.tmp 10))), (qS 44 (.pu (.n (.ar .sub)) [(.tmp 43), (ic 1)])), (qS 10 (.mv (.tmp 44)))]))))⟩ t h ⟨Q⟩ := by
  have big := L.big
  obtain ⟨S, hS⟩ : ∃ S, S = scanDown (fun x => L.lt A[a]! x) A i j := ⟨_, rfl⟩
  rw [← hS] at hQ
  refine W_loopK (fun n t h' => ∃ j', j' = n ∧ h' = h ∧ t 1 = nV a ∧ t 4 = .ptr B 2 0 ∧ t 9 = nV i ∧ t 10 = nV j' ∧ j' < L.sz ∧ S = scanDown (fun x => L.lt A[a]! x) A i j') j ⟨j, rfl, rfl, g1, g4, gi, gj, hj, hS⟩ ?_
  clear g1 g4 gi gj hS hj
  rintro K n t h' hn hx ⟨j', rfl, rfl, g1, g4, gi, gj, hj, hS⟩
  by_cases hij : i ≤ j'
  · obtain ⟨k, rfl⟩ : ∃ k, j' = k + 1 := ⟨j' - 1, by omega⟩
    rw [scanDown] at hS
    have hl := f.lessN a (k + 1) (by omega) (by omega)
    by_cases hp : L.lt A[a]! A[(k + 1)]! = true
    · rw [hp] at hl
      rw [if_pos (by simp [hij, hp])] at hS
      simp (maxSteps := 2000000) (disch := omega) only [gw, Nat.reduceAdd, Nat.reduceMul, g1, g4, gi, gj, hij, f.ldL, hl, Nat.add_sub_cancel]
      exact hn _ _ _ (by omega) ⟨k, rfl, rfl, g1, g4, gi, rfl, by omega, hS⟩
    · rw [Bool.not_eq_true] at hp
      rw [hp] at hl
      rw [if_neg (by simp [hp])] at hS
      simp (maxSteps := 2000000) (disch := omega) only [gw, Nat.reduceAdd, Nat.reduceMul, g1, g4, gi, gj, hij, f.ldL, hl, Nat.add_sub_cancel]
      exact hx _ _ _ (by simp) (hQ _ g1 g4 gi (by rw [hS]; exact gj))
  · have hS2 : S = j' := by
      rw [hS]
      cases j' with
      | zero => rfl
      | succ k => rw [scanDown, if_neg (by simp [hij])]
    simp (maxSteps := 2000000) (disch := omega) only [gw, Nat.reduceAdd, Nat.reduceMul, g1, g4, gi, gj, hij]
    exact hx _ _ _ (by simp) (hQ _ g1 g4 gi (by rw [hS2]; exact gj))

theorem scanP0 {L : LS env α} {Q : Post} {H h : Heap} {B : Nat} {A : Array α} {t : Nat → V} (f : Fr L H B h A) {a i j : Nat} (g1 : t 1 = nV a) (g4 : t 4 = .ptr B 2 0) (gi : t 10 = nV i) (gj : t 11 = nV j) (ha : a < L.sz) (hj : j < L.sz)
    (hQ : ∀ t', t' 1 = nV a → t' 4 = .ptr B 2 0 → t' 10 = nV (scanUp (fun x => L.lt x A[a]!) A j i) → t' 11 = nV j → Q (.exit 0) t' h) : @W P env ⟨(.loop (.seq (.seq (.ops [(qS 21 (.mv (.tmp 10))), (qS 22 (.mv (.tmp 11))), (qS 23 (.pu (.n (.ar .leq)) [(.tmp 21), (.tmp 22)])), (qS 24 (.mv (.tmp 23))), ⟨(.some 25), (.fieldA 0 (.tmp 4)), (.some (24, true)), [], .none⟩, ⟨(.some 26), (.load 1 false (.tmp 25)), (.some (24, true)), [], .none⟩, ⟨(.some 27), (.mv (.tmp 10)), (.some (24, true)), [], .none⟩, ⟨(.some 28), (.mv (.tmp 1)), (.some (24, true)), [], .none⟩, ⟨(.some 29), (.dyn (.tmp 26) [(.tmp 27), (.tmp 28)]), (.some (24, true)), [], .none⟩, (qS 30 (.pick (.tmp 24) (.tmp 29) (.const (.bool false))))]) (.cond (.tmp 30) .skip (.exit 0))) (.block 1 (.ops [(qS 31 (.mv (.tmp 10))), (qS 32 (.pu (.n (.ar .add)) [(.tmp 31), (ic 1)])), (qS 10 (.mv (.tmp 32)))]))))⟩ t h ⟨Q⟩ := by
  have big := L.big
  obtain ⟨S, hS⟩ : ∃ S, S = scanUp (fun x => L.lt x A[a]!) A j i := ⟨_, rfl⟩
  rw [← hS] at hQ
  refine W_loopK (fun n t h' => ∃ i', n = j + 1 - i' ∧ h' = h ∧ t 1 = nV a ∧ t 4 = .ptr B 2 0 ∧ t 10 = nV i' ∧ t 11 = nV j ∧ S = scanUp (fun x => L.lt x A[a]!) A j i') (j + 1 - i) ⟨i, rfl, rfl, g1, g4, gi, gj, hS⟩ ?_
  clear g1 g4 gi gj hS
  rintro K n t h' hn hx ⟨i', rfl, rfl, g1, g4, gi, gj, hS⟩
  rw [scanUp] at hS
  by_cases hij : i' ≤ j
  · have hl := f.lessN i' a (by omega) (by omega)
    by_cases hp : L.lt A[i']! A[a]! = true
    · rw [hp] at hl
      rw [if_pos (by simp [hij, hp])] at hS
      simp (maxSteps := 2000000) (disch := omega) only [gw, Nat.reduceAdd, Nat.reduceMul, g1, g4, gi, gj, hij, f.ldL, hl]
      exact hn _ _ _ (by omega) ⟨i' + 1, rfl, rfl, g1, g4, rfl, gj, hS⟩
    · rw [Bool.not_eq_true] at hp
      rw [hp] at hl
      rw [if_neg (by simp [hp])] at hS
      simp (maxSteps := 2000000) (disch := omega) only [gw, Nat.reduceAdd, Nat.reduceMul, g1, g4, gi, gj, hij, f.ldL, hl]
      exact hx _ _ _ (by simp) (hQ _ g1 g4 (by rw [hS]; exact gi) gj)
  · rw [if_neg (by simp [hij])] at hS
    simp (maxSteps := 2000000) (disch := omega) only [gw, Nat.reduceAdd, Nat.reduceMul, g1, g4, gi, gj, hij]
    exact hx _ _ _ (by simp) (hQ _ g1 g4 (by rw [hS]; exact gi) gj)

theorem scanP2 {L : LS env α} {Q : Post} {H h : Heap} {B : Nat} {A : Array α} {t : Nat → V} (f : Fr L H B h A) {a i j : Nat} (g1 : t 1 = nV a) (g4 : t 4 = .ptr B 2 0) (gi : t 10 = nV i) (gj : t 11 = nV j) (ha : a < L.sz) (hj : j < L.sz) (hi : 1 ≤ i) (hi2 : i ≤ L.sz)
    (hQ : ∀ t', t' 1 = nV a → t' 4 = .ptr B 2 0 → t' 10 = nV i → t' 11 = nV (scanDown (fun x => !L.lt x A[a]!) A i j) → Q (.exit 2) t' h) : @W P env ⟨(.loop (.seq (.seq (.ops [(qS 33 (.mv (.tmp 10))), (qS 34 (.mv (.tmp 11))), (qS 35 (.pu (.n (.ar .leq)) [(.tmp 33), (.tmp 34)])), (qS 36 (.mv (.tmp 35))), ⟨(.some 37), (.fieldA 0 (.tmp 4)), (.some (36, true)), [], .none⟩, ⟨(.some 38), (.load 1 false (.tmp 37)), (.some (36, true)), [], .none⟩, ⟨(.some 39), (.mv (.tmp 11)), (.some (36, true)), [], .none⟩, ⟨(.some 40), (.mv (.tmp 1)), (.some (36, true)), [], .none⟩, ⟨(.some 41), (.dyn (.tmp 38) [(.tmp 39), (.tmp 40)]), (.some (36, true)), [], .none⟩, ⟨(.some 42), (.pu (.n (.un .not)) [(.tmp 41)]), (.some (36, true)), [], .none⟩, (qS 43 (.pick (.tmp 36) (.tmp 42) (.const (.bool false))))]) (.cond (.tmp 43) .skip (.exit 2))) (.block 3 (.ops [(qS 44 (.mv (.tmp 11))), (qS 45 (.pu (.n (.ar .sub)) [(.tmp 44), (ic 1)])), (qS 11 (.mv (.tmp 45)))]))))⟩ t h ⟨Q⟩ := by
  have big := L.big
  obtain ⟨S, hS⟩ : ∃ S, S = scanDown (fun x => !L.lt x A[a]!) A i j := ⟨_, rfl⟩
  rw [← hS] at hQ
  refine W_loopK (fun n t h' => ∃ j', j' = n ∧ h' = h ∧ t 1 = nV a ∧ t 4 = .ptr B 2 0 ∧ t 10 = nV i ∧ t 11 = nV j' ∧ j' < L.sz ∧ S = scanDown (fun x => !L.lt x A[a]!) A i j') j ⟨j, rfl, rfl, g1, g4, gi, gj, hj, hS⟩ ?_
  clear g1 g4 gi gj hS hj
  rintro K n t h' hn hx ⟨j', rfl, rfl, g1, g4, gi, gj, hj, hS⟩
  by_cases hij : i ≤ j'
  · obtain ⟨k, rfl⟩ : ∃ k, j' = k + 1 := ⟨j' - 1, by omega⟩
    rw [scanDown] at hS
    have hl := f.lessN (k + 1) a (by omega) (by omega)
    by_cases hp : L.lt A[(k + 1)]! A[a]! = true
    · rw [hp] at hl
      rw [if_neg (by simp [hp])] at hS
      simp (maxSteps := 2000000) (disch := omega) only [gw, Nat.reduceAdd, Nat.reduceMul, g1, g4, gi, gj, hij, f.ldL, hl, Nat.add_sub_cancel]
      exact hx _ _ _ (by simp) (hQ _ g1 g4 gi (by rw [hS]; exact gj))
    · rw [Bool.not_eq_true] at hp
      rw [hp] at hl
      rw [if_pos (by simp [hij, hp])] at hS
      simp (maxSteps := 2000000) (disch := omega) only [gw, Nat.reduceAdd, Nat.reduceMul, g1, g4, gi, gj, hij, f.ldL, hl, Nat.add_sub_cancel]
      exact hn _ _ _ (by omega) ⟨k, rfl, rfl, g1, g4, gi, rfl, by omega, hS⟩
  · have hS2 : S = j' := by
      rw [hS]
      cases j' with
      | zero => rfl
      | succ k => rw [scanDown, if_neg (by simp [hij])]
    simp (maxSteps := 2000000) (disch := omega) only [gw, Nat.reduceAdd, Nat.reduceMul, g1, g4, gi, gj, hij]
    exact hx _ _ _ (by simp) (hQ _ g1 g4 gi (by rw [hS2]; exact gj))

theorem scanP6 {L : LS env α} {Q : Post} {H h : Heap} {B : Nat} {A : Array α} {t : Nat → V} (f : Fr L H B h A) {a i j : Nat} (g1 : t 1 = nV a) (g4 : t 4 = .ptr B 2 0) (gi : t 10 = nV i) (gj : t 11 = nV j) (ha : a < L.sz) (hj : j < L.sz)
    (hQ : ∀ t', t' 1 = nV a → t' 4 = .ptr B 2 0 → t' 10 = nV (scanUp (fun x => L.lt x A[a]!) A j i) → t' 11 = nV j → Q (.exit 6) t' h) : @W P env ⟨(.loop (.seq (.seq (.ops [(qS 64 (.mv (.tmp 10))), (qS 65 (.mv (.tmp 11))), (qS 66 (.pu (.n (.ar .leq)) [(.tmp 64), (.tmp 65)])), (qS 67 (.mv (.tmp 66))), ⟨(.some 68), (.fieldA 0 (.tmp 4)), (.some (67, true)), [], .none⟩, ⟨(.some 69), (.load 1 false (.tmp 68)), (.some (67, true)), [], .none⟩, ⟨(.some 70), (.mv (.tmp 10)), (.some (67, true)), [], .none⟩, ⟨(.some 71), (.mv (.tmp 1)), (.some (67, true)), [], .none⟩, ⟨(.some 72), (.dyn (.tmp 69) [(.tmp 70), (.tmp 71)]), (.some (67, true)), [], .none⟩, (qS 73 (.pick (.tmp 67) (.tmp 72) (.const (.bool false))))]) (.cond (.tmp 73) .skip (.exit 6))) (.block 7 (.ops [(qS 74 (.mv (.tmp 10))), (qS 75 (.pu (.n (.ar .add)) [(.tmp 74), (ic 1)])), (qS 10 (.mv (.tmp 75)))]))))⟩ t h ⟨Q⟩ := by
  have big := L.big
  obtain ⟨S, hS⟩ : ∃ S, S = scanUp (fun x => L.lt x A[a]!) A j i := ⟨_, rfl⟩
  rw [← hS] at hQ
  refine W_loopK (fun n t h' => ∃ i', n = j + 1 - i' ∧ h' = h ∧ t 1 = nV a ∧ t 4 = .ptr B 2 0 ∧ t 10 = nV i' ∧ t 11 = nV j ∧ S = scanUp (fun x => L.lt x A[a]!) A j i') (j + 1 - i) ⟨i, rfl, rfl, g1, g4, gi, gj, hS⟩ ?_
  clear g1 g4 gi gj hS
  rintro K n t h' hn hx ⟨i', rfl, rfl, g1, g4, gi, gj, hS⟩
  rw [scanUp] at hS
  by_cases hij : i' ≤ j
  · have hl := f.lessN i' a (by omega) (by omega)
    by_cases hp : L.lt A[i']! A[a]! = true
    · rw [hp] at hl
      rw [if_pos (by simp [hij, hp])] at hS
      simp (maxSteps := 2000000) (disch := omega) only [gw, Nat.reduceAdd, Nat.reduceMul, g1, g4, gi, gj, hij, f.ldL, hl]
      exact hn _ _ _ (by omega) ⟨i' + 1, rfl, rfl, g1, g4, rfl, gj, hS⟩
    · rw [Bool.not_eq_true] at hp
      rw [hp] at hl
      rw [if_neg (by simp [hp])] at hS
      simp (maxSteps := 2000000) (disch := omega) only [gw, Nat.reduceAdd, Nat.reduceMul, g1, g4, gi, gj, hij, f.ldL, hl]
      exact hx _ _ _ (by simp) (hQ _ g1 g4 (by rw [hS]; exact gi) gj)
  · rw [if_neg (by simp [hij])] at hS
    simp (maxSteps := 2000000) (disch := omega) only [gw, Nat.reduceAdd, Nat.reduceMul, g1, g4, gi, gj, hij]
    exact hx _ _ _ (by simp) (hQ _ g1 g4 (by rw [hS]; exact gi) gj)

theorem scanP8 {L : LS env α} {Q : Post} {H h : Heap} {B : Nat} {A : Array α} {t : Nat → V} (f : Fr L H B h A) {a i j : Nat} (g1 : t 1 = nV a) (g4 : t 4 = .ptr B 2 0) (gi : t 10 = nV i) (gj : t 11 = nV j) (ha : a < L.sz) (hj : j < L.sz) (hi : 1 ≤ i) (hi2 : i ≤ L.sz)
    (hQ : ∀ t', t' 1 = nV a → t' 4 = .ptr B 2 0 → t' 10 = nV i → t' 11 = nV (scanDown (fun x => !L.lt x A[a]!) A i j) → Q (.exit 8) t' h) : @W P env ⟨(.loop (.seq (.seq (.ops [(qS 76 (.mv (.tmp 10))), (qS 77 (.mv (.tmp 11))), (qS 78 (.pu (.n (.ar .leq)) [(.tmp 76), (.tmp 77)])), (qS 79 (.mv (.tmp 78))), ⟨(.some 80), (.fieldA 0 (.tmp 4)), (.some (79, true)), [], .none⟩, ⟨(.some 81), (.load 1 false (.tmp 80)), (.some (79, true)), [], .none⟩, ⟨(.some 82), (.mv (.tmp 11)), (.some (79, true)), [], .none⟩, ⟨(.some 83), (.mv (.tmp 1)), (.some (79, true)), [], .none⟩, ⟨(.some 84), (.dyn (.tmp 81) [(.tmp 82), (.tmp 83)]), (.some (79, true)), [], .none⟩, ⟨(.some 85), (.pu (.n (.un .not)) [(.tmp 84)]), (.some (79, true)), [], .none⟩, (qS 86 (.pick (.tmp 79) (.tmp 85) (.const (.bool false))))]) (.cond (.tmp 86) .skip (.exit 8))) (.block 9 (.ops [(qS 87 (.mv (.tmp 11))), (qS 88 (.pu (.n (.ar .sub)) [(.tmp 87), (ic 1)])), (qS 11 (.mv (.tmp 88)))]))))⟩ t h ⟨Q⟩ := by
  have big := L.big
  obtain ⟨S, hS⟩ : ∃ S, S = scanDown (fun x => !L.lt x A[a]!) A i j := ⟨_, rfl⟩
  rw [← hS] at hQ
  refine W_loopK (fun n t h' => ∃ j', j' = n ∧ h' = h ∧ t 1 = nV a ∧ t 4 = .ptr B 2 0 ∧ t 10 = nV i ∧ t 11 = nV j' ∧ j' < L.sz ∧ S = scanDown (fun x => !L.lt x A[a]!) A i j') j ⟨j, rfl, rfl, g1, g4, gi, gj, hj, hS⟩ ?_
  clear g1 g4 gi gj hS hj
  rintro K n t h' hn hx ⟨j', rfl, rfl, g1, g4, gi, gj, hj, hS⟩
  by_cases hij : i ≤ j'
  · obtain ⟨k, rfl⟩ : ∃ k, j' = k + 1 := ⟨j' - 1, by omega⟩
    rw [scanDown] at hS
    have hl := f.lessN (k + 1) a (by omega) (by omega)
    by_cases hp : L.lt A[(k + 1)]! A[a]! = true
    · rw [hp] at hl
      rw [if_neg (by simp [hp])] at hS
      simp (maxSteps := 2000000) (disch := omega) only [gw, Nat.reduceAdd, Nat.reduceMul, g1, g4, gi, gj, hij, f.ldL, hl, Nat.add_sub_cancel]
      exact hx _ _ _ (by simp) (hQ _ g1 g4 gi (by rw [hS]; exact gj))
    · rw [Bool.not_eq_true] at hp
      rw [hp] at hl
      rw [if_pos (by simp [hij, hp])] at hS
      simp (maxSteps := 2000000) (disch := omega) only [gw, Nat.reduceAdd, Nat.reduceMul, g1, g4, gi, gj, hij, f.ldL, hl, Nat.add_sub_cancel]
      exact hn _ _ _ (by omega) ⟨k, rfl, rfl, g1, g4, gi, rfl, by omega, hS⟩
  · have hS2 : S = j' := by
      rw [hS]
      cases j' with
      | zero => rfl
      | succ k => rw [scanDown, if_neg (by simp [hij])]
    simp (maxSteps := 2000000) (disch := omega) only [gw, Nat.reduceAdd, Nat.reduceMul, g1, g4, gi, gj, hij]
    exact hx _ _ _ (by simp) (hQ _ g1 g4 gi (by rw [hS2]; exact gj))

end Go.AM

set_option linter.unusedVariables false
set_option linter.unusedSimpArgs false
set_option maxRecDepth 20000
namespace Go.AM
open Go.Sort
variable {P : Program} {env : Env} {α : Type} [Inhabited α]

theorem scanUp_max (p : α → Bool) (d : Array α) {i j n : Nat} (hi : i ≤ n) (hj : j < n) : scanUp p d j i ≤ n := by
  by_cases h : i ≤ j + 1
  · have := (scanUp_spec p d j _ i rfl).2.1 h
    omega
  · rw [scanUp, if_neg (by simp; omega)]
    exact hi

theorem loopE0 {L : LS env α} {Q : Post} {H h : Heap} {B : Nat} {A : Array α} {t : Nat → V} (f : Fr L H B h A) {a i j : Nat} (g1 : t 1 = nV a) (g4 : t 4 = .ptr B 2 0) (gi : t 9 = nV i) (gj : t 10 = nV j) (ha : a < L.sz) (hj : j < L.sz) (hi : 1 ≤ i) (hi2 : i ≤ L.sz)
    (hQ : ∀ t' h', t' 1 = nV a → t' 4 = .ptr B 2 0 → t' 9 = nV (partEqLoop L.lt a i j A).1 → Fr L H B h' (partEqLoop L.lt a i j A).2 → Q (.exit 0) t' h') : @W P env ⟨(.loop (.block 1 (.seq (.block 2 (.loop (.seq (.seq (.ops [(qS 20 (.mv (.tmp 9))), (qS 21 (.mv (.tmp 10))), (qS 22 (.pu (.n (.ar .leq)) [(.tmp 20), (.tmp 21)])), (qS 23 (.mv (.tmp 22))), ⟨(.some 24), (.fieldA 0 (.tmp 4)), (.some (23, true)), [], .none⟩, ⟨(.some 25), (.load 1 false (.tmp 24)), (.some (23, true)), [], .none⟩, ⟨(.some 26), (.mv (.tmp 1)), (.some (23, true)), [], .none⟩, ⟨(.some 27), (.mv (.tmp 9)), (.some (23, true)), [], .none⟩, ⟨(.some 28), (.dyn (.tmp 25) [(.tmp 26), (.tmp 27)]), (.some (23, true)), [], .none⟩, ⟨(.some 29), (.pu (.n (.un .not)) [(.tmp 28)]), (.some (23, true)), [], .none⟩, (qS 30 (.pick (.tmp 23) (.tmp 29) (.const (.bool false))))]) (.cond (.tmp 30) .skip (.exit 2))) (.block 3 (.ops [(qS 31 (.mv (.tmp 9))), (qS 32 (.pu (.n (.ar .add)) [(.tmp 31), (ic 1)])), (qS 9 (.mv (.tmp 32)))]))))) (.seq (.block 4 (.loop (.seq (.seq (.ops [(qS 33 (.mv (.tmp 9))), (qS 34 (.mv (.tmp 10))), (qS 35 (.pu (.n (.ar .leq)) [(.tmp 33), (.tmp 34)])), (qS 36 (.mv (.tmp 35))), ⟨(.some 37), (.fieldA 0 (.tmp 4)), (.some (36, true)), [], .none⟩, ⟨(.some 38), (.load 1 false (.tmp 37)), (.some (36, true)), [], .none⟩, ⟨(.some 39), (.mv (.tmp 1)), (.some (36, true)), [], .none⟩, ⟨(.some 40), (.mv (.tmp 10)), (.some (36, true)), [], .none⟩, ⟨(.some 41), (.dyn (.tmp 38) [(.tmp 39), (.tmp 40)]), (.some (36, true)), [], .none⟩, (qS 42 (.pick (.tmp 36) (.tmp 41) (.const (.bool false))))]) (.cond (.tmp 42) .skip (.exit 4))) (.block 5 (.ops [(qS 43 (.mv (.tmp 10))), (qS 44 (.pu (.n (.ar .sub)) [(.tmp 43), (ic 1)])), (qS 10 (.mv (.tmp 44)))]))))) (.seq (.seq (.ops [(qS 45 (.mv (.tmp 9))), (qS 46 (.mv (.tmp 10))), (qS 47 (.pu (.n (.ar .gtr)) [(.tmp 45), (.tmp 46)]))]) (.cond (.tmp 47) (.exit 0) .skip)) (.seq (.ops [(qS 48 (.fieldA 1 (.tmp 4))), (qS 49 (.load 1 false (.tmp 48))), (qS 50 (.mv (.tmp 9))), (qS 51 (.mv (.tmp 10))), (qS 52 (.dyn (.tmp 49) [(.tmp 50), (.tmp 51)]))]) (.seq (.ops [(qS 53 (.mv (.tmp 9))), (qS 54 (.pu (.n (.ar .add)) [(.tmp 53), (ic 1)])), (qS 9 (.mv (.tmp 54)))]) (.ops [(qS 55 (.mv (.tmp 10))), (qS 56 (.pu (.n (.ar .sub)) [(.tmp 55), (ic 1)])), (qS 10 (.mv (.tmp 56)))]))))))))⟩ t h ⟨Q⟩ := by
  have big := L.big
  obtain ⟨S, hS⟩ : ∃ S, S = partEqLoop L.lt a i j A := ⟨_, rfl⟩
  rw [← hS] at hQ
  refine W_loopK (fun n t h => ∃ i j A', n = j + 1 - i ∧ t 1 = nV a ∧ t 4 = .ptr B 2 0 ∧ t 9 = nV i ∧ t 10 = nV j ∧ j < L.sz ∧ 1 ≤ i ∧ i ≤ L.sz ∧ Fr L H B h A' ∧ S = partEqLoop L.lt a i j A') (j + 1 - i) ⟨i, j, A, rfl, g1, g4, gi, gj, hj, hi, hi2, f, hS⟩ ?_
  clear g1 g4 gi gj hS hj hi hi2 f
  rintro K n t h hn hx ⟨i, j, A', rfl, g1, g4, gi, gj, hj, hi, hi2, f, hS⟩
  simp (maxSteps := 2000000) (disch := omega) only [gw, Nat.reduceAdd, Nat.reduceMul, g1]
  refine scanE2 f g1 g4 gi gj ha hj ?_
  clear g1 g4 gi gj
  clear t
  intro t g1 g4 gi gj
  have b1 := scanUp_ge (fun x => !L.lt A'[a]! x) A' j i
  have b2 := scanUp_max (fun x => !L.lt A'[a]! x) A' hi2 hj
  rw [partEqLoop_eq] at hS
  generalize scanUp (fun x => !L.lt A'[a]! x) A' j i = i2 at hS gi b1 b2
  simp (maxSteps := 2000000) (disch := omega) only [gw, Nat.reduceAdd, Nat.reduceMul, g1, g4, gi, gj]
  refine scanE4 f g1 g4 gi gj ha hj (by omega) b2 ?_
  clear g1 g4 gi gj
  clear t
  intro t g1 g4 gi gj
  have b3 := scanDown_le (fun x => L.lt A'[a]! x) A' i2 j
  generalize scanDown (fun x => L.lt A'[a]! x) A' i2 j = j2 at hS gj b3
  by_cases hc : i2 > j2
  · rw [if_pos hc] at hS
    simp (maxSteps := 2000000) (disch := omega) only [gw, Nat.reduceAdd, Nat.reduceMul, g1, g4, gi, gj, gt_iff_lt.1 hc]
    refine hx _ _ _ (by simp) (hQ _ _ g1 g4 (by rw [hS]; exact gi) (by rw [hS]; exact f))
  · rw [if_neg hc] at hS
    have hc' : ¬ j2 < i2 := hc
    obtain ⟨h', hs, f'⟩ := f.swapN i2 j2 (by omega) (by omega)
    simp (maxSteps := 2000000) (disch := omega) only [gw, Nat.reduceAdd, Nat.reduceMul, g1, g4, gi, gj, hc', f.ldS, hs]
    exact hn _ _ _ (by omega) ⟨i2 + 1, j2 - 1, _, rfl, g1, g4, rfl, rfl, by omega, by omega, by omega, f', hS⟩

def c_sort_partitionEqual_func : AFn := ⟨58, (.seq (.ops [(qS 4 (.box (.tmp 0))), (qS 8 (.mv (ic 0)))]) (.seq (.ops [(qS 11 (.fieldA 1 (.tmp 4))), (qS 12 (.load 1 false (.tmp 11))), (qS 13 (.mv (.tmp 1))), (qS 14 (.mv (.tmp 3))), (qS 15 (.dyn (.tmp 12) [(.tmp 13), (.tmp 14)]))]) (.seq (.ops [(qS 16 (.mv (.tmp 1))), (qS 17 (.pu (.n (.ar .add)) [(.tmp 16), (ic 1)])), (qS 18 (.mv (.tmp 2))), (qS 19 (.pu (.n (.ar .sub)) [(.tmp 18), (ic 1)])), (qS 9 (.mv (.tmp 17))), (qS 10 (.mv (.tmp 19)))]) (.seq (.block 0 (.loop (.block 1 (.seq (.block 2 (.loop (.seq (.seq (.ops [(qS 20 (.mv (.tmp 9))), (qS 21 (.mv (.tmp 10))), (qS 22 (.pu (.n (.ar .leq)) [(.tmp 20), (.tmp 21)])), (qS 23 (.mv (.tmp 22))), ⟨(.some 24), (.fieldA 0 (.tmp 4)), (.some (23, true)), [], .none⟩, ⟨(.some 25), (.load 1 false (.tmp 24)), (.some (23, true)), [], .none⟩, ⟨(.some 26), (.mv (.tmp 1)), (.some (23, true)), [], .none⟩, ⟨(.some 27), (.mv (.tmp 9)), (.some (23, true)), [], .none⟩, ⟨(.some 28), (.dyn (.tmp 25) [(.tmp 26), (.tmp 27)]), (.some (23, true)), [], .none⟩, ⟨(.some 29), (.pu (.n (.un .not)) [(.tmp 28)]), (.some (23, true)), [], .none⟩, (qS 30 (.pick (.tmp 23) (.tmp 29) (.const (.bool false))))]) (.cond (.tmp 30) .skip (.exit 2))) (.block 3 (.ops [(qS 31 (.mv (.tmp 9))), (qS 32 (.pu (.n (.ar .add)) [(.tmp 31), (ic 1)])), (qS 9 (.mv (.tmp 32)))]))))) (.seq (.block 4 (.loop (.seq (.seq (.ops [(qS 33 (.mv (.tmp 9))), (qS 34 (.mv (.tmp 10))), (qS 35 (.pu (.n (.ar .leq)) [(.tmp 33), (.tmp 34)])), (qS 36 (.mv (.tmp 35))), ⟨(.some 37), (.fieldA 0 (.tmp 4)), (.some (36, true)), [], .none⟩, ⟨(.some 38), (.load 1 false (.tmp 37)), (.some (36, true)), [], .none⟩, ⟨(.some 39), (.mv (.tmp 1)), (.some (36, true)), [], .none⟩, ⟨(.some 40), (.mv (.tmp 10)), (.some (36, true)), [], .none⟩, ⟨(.some 41), (.dyn (.tmp 38) [(.tmp 39), (.tmp 40)]), (.some (36, true)), [], .none⟩, (qS 42 (.pick (.tmp 36) (.tmp 41) (.const (.bool false))))]) (.cond (.tmp 42) .skip (.exit 4))) (.block 5 (.ops [(qS 43 (.mv (.tmp 10))), (qS 44 (.pu (.n (.ar .sub)) [(.tmp 43), (ic 1)])), (qS 10 (.mv (.tmp 44)))]))))) (.seq (.seq (.ops [(qS 45 (.mv (.tmp 9))), (qS 46 (.mv (.tmp 10))), (qS 47 (.pu (.n (.ar .gtr)) [(.tmp 45), (.tmp 46)]))]) (.cond (.tmp 47) (.exit 0) .skip)) (.seq (.ops [(qS 48 (.fieldA 1 (.tmp 4))), (qS 49 (.load 1 false (.tmp 48))), (qS 50 (.mv (.tmp 9))), (qS 51 (.mv (.tmp 10))), (qS 52 (.dyn (.tmp 49) [(.tmp 50), (.tmp 51)]))]) (.seq (.ops [(qS 53 (.mv (.tmp 9))), (qS 54 (.pu (.n (.ar .add)) [(.tmp 53), (ic 1)])), (qS 9 (.mv (.tmp 54)))]) (.ops [(qS 55 (.mv (.tmp 10))), (qS 56 (.pu (.n (.ar .sub)) [(.tmp 55), (ic 1)])), (qS 10 (.mv (.tmp 56)))]))))))))) (.seq (.ops [(qS 57 (.mv (.tmp 9))), (qS 8 (.mv (.tmp 57)))]) .ret))))), [(.tmp 8)]⟩

theorem W_partitionEqual {L : LS env α} {H : Heap} {A : Array α} (hL : L.Lh H A) (a b p : Nat) (hb : b ≤ L.sz) (hab : a < b) (hp : p < b) :
    R P env c_sort_partitionEqual_func [.agg [L.less, L.swap], nV a, nV b, nV p] H (PostS L H (partitionEqual L.lt A a b p).2 (nV (partitionEqual L.lt A a b p).1)) := by
  have big := L.big
  refine R_of (by simp [c_sort_partitionEqual_func]) ?_
  unfold c_sort_partitionEqual_func
  have f0 := Fr.start hL
  obtain ⟨h1, hs, f1⟩ := f0.swapN a p (by omega) (by omega)
  simp (maxSteps := 2000000) (disch := omega) only [gw, Nat.reduceAdd, Nat.reduceMul, L.oneL, L.oneS, f0.ldS, hs]
  generalize H.length = B at f0 f1 ⊢
  refine loopE0 f1 rfl rfl rfl rfl (by omega) (by omega) (by omega) (by omega) ?_
  intro t h g1 g4 g9 f
  simp (maxSteps := 2000000) (disch := omega) only [gw, Nat.reduceAdd, Nat.reduceMul, g9]
  exact ⟨rfl, f.lh, f.keep⟩

theorem loopP4 {L : LS env α} {Q : Post} {H h : Heap} {B : Nat} {A : Array α} {t : Nat → V} (f : Fr L H B h A) {a i j : Nat} (g1 : t 1 = nV a) (g4 : t 4 = .ptr B 2 0) (gi : t 10 = nV i) (gj : t 11 = nV j) (ha : a < L.sz) (hj : j < L.sz) (hi : 1 ≤ i) (hi2 : i ≤ L.sz)
    (hQ : ∀ t' h', t' 1 = nV a → t' 4 = .ptr B 2 0 → t' 11 = nV (partLoop L.lt a i j A).1 → (partLoop L.lt a i j A).1 < L.sz → Fr L H B h' (partLoop L.lt a i j A).2 → Q (.exit 4) t' h') : @W P env ⟨(.loop (.block 5 (.seq (.block 6 (.loop (.seq (.seq (.ops [(qS 64 (.mv (.tmp 10))), (qS 65 (.mv (.tmp 11))), (qS 66 (.pu (.n (.ar .leq)) [(.tmp 64), (.tmp 65)])), (qS 67 (.mv (.tmp 66))), ⟨(.some 68), (.fieldA 0 (.tmp 4)), (.some (67, true)), [], .none⟩, ⟨(.some 69), (.load 1 false (.tmp 68)), (.some (67, true)), [], .none⟩, ⟨(.some 70), (.mv (.tmp 10)), (.some (67, true)), [], .none⟩, ⟨(.some 71), (.mv (.tmp 1)), (.some (67, true)), [], .none⟩, ⟨(.some 72), (.dyn (.tmp 69) [(.tmp 70), (.tmp 71)]), (.some (67, true)), [], .none⟩, (qS 73 (.pick (.tmp 67) (.tmp 72) (.const (.bool false))))]) (.cond (.tmp 73) .skip (.exit 6))) (.block 7 (.ops [(qS 74 (.mv (.tmp 10))), (qS 75 (.pu (.n (.ar .add)) [(.tmp 74), (ic 1)])), (qS 10 (.mv (.tmp 75)))]))))) (.seq (.block 8 (.loop (.seq (.seq (.ops [(qS 76 (.mv (.tmp 10))), (qS 77 (.mv (.tmp 11))), (qS 78 (.pu (.n (.ar .leq)) [(.tmp 76), (.tmp 77)])), (qS 79 (.mv (.tmp 78))), ⟨(.some 80), (.fieldA 0 (.tmp 4)), (.some (79, true)), [], .none⟩, ⟨(.some 81), (.load 1 false (.tmp 80)), (.some (79, true)), [], .none⟩, ⟨(.some 82), (.mv (.tmp 11)), (.some (79, true)), [], .none⟩, ⟨(.some 83), (.mv (.tmp 1)), (.some (79, true)), [], .none⟩, ⟨(.some 84), (.dyn (.tmp 81) [(.tmp 82), (.tmp 83)]), (.some (79, true)), [], .none⟩, ⟨(.some 85), (.pu (.n (.un .not)) [(.tmp 84)]), (.some (79, true)), [], .none⟩, (qS 86 (.pick (.tmp 79) (.tmp 85) (.const (.bool false))))]) (.cond (.tmp 86) .skip (.exit 8))) (.block 9 (.ops [(qS 87 (.mv (.tmp 11))), (qS 88 (.pu (.n (.ar .sub)) [(.tmp 87), (ic 1)])), (qS 11 (.mv (.tmp 88)))]))))) (.seq (.seq (.ops [(qS 89 (.mv (.tmp 10))), (qS 90 (.mv (.tmp 11))), (qS 91 (.pu (.n (.ar .gtr)) [(.tmp 89), (.tmp 90)]))]) (.cond (.tmp 91) (.exit 4) .skip)) (.seq (.ops [(qS 92 (.fieldA 1 (.tmp 4))), (qS 93 (.load 1 false (.tmp 92))), (qS 94 (.mv (.tmp 10))), (qS 95 (.mv (.tmp 11))), (qS 96 (.dyn (.tmp 93) [(.tmp 94), (.tmp 95)]))]) (.seq (.ops [(qS 97 (.mv (.tmp 10))), (qS 98 (.pu (.n (.ar .add)) [(.tmp 97), (ic 1)])), (qS 10 (.mv (.tmp 98)))]) (.ops [(qS 99 (.mv (.tmp 11))), (qS 100 (.pu (.n (.ar .sub)) [(.tmp 99), (ic 1)])), (qS 11 (.mv (.tmp 100)))]))))))))⟩ t h ⟨Q⟩ := by
  have big := L.big
  obtain ⟨S, hS⟩ : ∃ S, S = partLoop L.lt a i j A := ⟨_, rfl⟩
  rw [← hS] at hQ
  refine W_loopK (fun n t h => ∃ i j A', n = j + 1 - i ∧ t 1 = nV a ∧ t 4 = .ptr B 2 0 ∧ t 10 = nV i ∧ t 11 = nV j ∧ j < L.sz ∧ 1 ≤ i ∧ i ≤ L.sz ∧ Fr L H B h A' ∧ S = partLoop L.lt a i j A') (j + 1 - i) ⟨i, j, A, rfl, g1, g4, gi, gj, hj, hi, hi2, f, hS⟩ ?_
  clear g1 g4 gi gj hS hj hi hi2 f
  rintro K n t h hn hx ⟨i, j, A', rfl, g1, g4, gi, gj, hj, hi, hi2, f, hS⟩
  simp (maxSteps := 2000000) (disch := omega) only [gw, Nat.reduceAdd, Nat.reduceMul, g1]
  refine scanP6 f g1 g4 gi gj ha hj ?_
  clear g1 g4 gi gj
  clear t
  intro t g1 g4 gi gj
  have b1 := scanUp_ge (fun x => L.lt x A'[a]!) A' j i
  have b2 := scanUp_max (fun x => L.lt x A'[a]!) A' hi2 hj
  rw [partLoop_eq] at hS
  generalize scanUp (fun x => L.lt x A'[a]!) A' j i = i2 at hS gi b1 b2
  simp (maxSteps := 2000000) (disch := omega) only [gw, Nat.reduceAdd, Nat.reduceMul, g1, g4, gi, gj]
  refine scanP8 f g1 g4 gi gj ha hj (by omega) b2 ?_
  clear g1 g4 gi gj
  clear t
  intro t g1 g4 gi gj
  have b3 := scanDown_le (fun x => !L.lt x A'[a]!) A' i2 j
  generalize scanDown (fun x => !L.lt x A'[a]!) A' i2 j = j2 at hS gj b3
  by_cases hc : i2 > j2
  · rw [if_pos hc] at hS
    simp (maxSteps := 2000000) (disch := omega) only [gw, Nat.reduceAdd, Nat.reduceMul, g1, g4, gi, gj, gt_iff_lt.1 hc]
    refine hx _ _ _ (by simp) (hQ _ _ g1 g4 (by rw [hS]; exact gj) (by rw [hS]; show j2 < _; omega) (by rw [hS]; exact f))
  · rw [if_neg hc] at hS
    have hc' : ¬ j2 < i2 := hc
    obtain ⟨h', hs, f'⟩ := f.swapN i2 j2 (by omega) (by omega)
    simp (maxSteps := 2000000) (disch := omega) only [gw, Nat.reduceAdd, Nat.reduceMul, g1, g4, gi, gj, hc', f.ldS, hs]
    exact hn _ _ _ (by omega) ⟨i2 + 1, j2 - 1, _, rfl, g1, g4, rfl, rfl, by omega, by omega, by omega, f', hS⟩

def c_sort_partition_func : AFn := ⟨107, (.seq (.ops [(qS 4 (.box (.tmp 0))), (qS 8 (.mv (ic 0))), (qS 9 (.mv (.const (.bool false))))]) (.seq (.ops [(qS 12 (.fieldA 1 (.tmp 4))), (qS 13 (.load 1 false (.tmp 12))), (qS 14 (.mv (.tmp 1))), (qS 15 (.mv (.tmp 3))), (qS 16 (.dyn (.tmp 13) [(.tmp 14), (.tmp 15)]))]) (.seq (.ops [(qS 17 (.mv (.tmp 1))), (qS 18 (.pu (.n (.ar .add)) [(.tmp 17), (ic 1)])), (qS 19 (.mv (.tmp 2))), (qS 20 (.pu (.n (.ar .sub)) [(.tmp 19), (ic 1)])), (qS 10 (.mv (.tmp 18))), (qS 11 (.mv (.tmp 20)))]) (.seq (.block 0 (.loop (.seq (.seq (.ops [(qS 21 (.mv (.tmp 10))), (qS 22 (.mv (.tmp 11))), (qS 23 (.pu (.n (.ar .leq)) [(.tmp 21), (.tmp 22)])), (qS 24 (.mv (.tmp 23))), ⟨(.some 25), (.fieldA 0 (.tmp 4)), (.some (24, true)), [], .none⟩, ⟨(.some 26), (.load 1 false (.tmp 25)), (.some (24, true)), [], .none⟩, ⟨(.some 27), (.mv (.tmp 10)), (.some (24, true)), [], .none⟩, ⟨(.some 28), (.mv (.tmp 1)), (.some (24, true)), [], .none⟩, ⟨(.some 29), (.dyn (.tmp 26) [(.tmp 27), (.tmp 28)]), (.some (24, true)), [], .none⟩, (qS 30 (.pick (.tmp 24) (.tmp 29) (.const (.bool false))))]) (.cond (.tmp 30) .skip (.exit 0))) (.block 1 (.ops [(qS 31 (.mv (.tmp 10))), (qS 32 (.pu (.n (.ar .add)) [(.tmp 31), (ic 1)])), (qS 10 (.mv (.tmp 32)))]))))) (.seq (.block 2 (.loop (.seq (.seq (.ops [(qS 33 (.mv (.tmp 10))), (qS 34 (.mv (.tmp 11))), (qS 35 (.pu (.n (.ar .leq)) [(.tmp 33), (.tmp 34)])), (qS 36 (.mv (.tmp 35))), ⟨(.some 37), (.fieldA 0 (.tmp 4)), (.some (36, true)), [], .none⟩, ⟨(.some 38), (.load 1 false (.tmp 37)), (.some (36, true)), [], .none⟩, ⟨(.some 39), (.mv (.tmp 11)), (.some (36, true)), [], .none⟩, ⟨(.some 40), (.mv (.tmp 1)), (.some (36, true)), [], .none⟩, ⟨(.some 41), (.dyn (.tmp 38) [(.tmp 39), (.tmp 40)]), (.some (36, true)), [], .none⟩, ⟨(.some 42), (.pu (.n (.un .not)) [(.tmp 41)]), (.some (36, true)), [], .none⟩, (qS 43 (.pick (.tmp 36) (.tmp 42) (.const (.bool false))))]) (.cond (.tmp 43) .skip (.exit 2))) (.block 3 (.ops [(qS 44 (.mv (.tmp 11))), (qS 45 (.pu (.n (.ar .sub)) [(.tmp 44), (ic 1)])), (qS 11 (.mv (.tmp 45)))]))))) (.seq (.seq (.ops [(qS 46 (.mv (.tmp 10))), (qS 47 (.mv (.tmp 11))), (qS 48 (.pu (.n (.ar .gtr)) [(.tmp 46), (.tmp 47)]))]) (.cond (.tmp 48) (.seq (.ops [(qS 49 (.fieldA 1 (.tmp 4))), (qS 50 (.load 1 false (.tmp 49))), (qS 51 (.mv (.tmp 11))), (qS 52 (.mv (.tmp 1))), (qS 53 (.dyn (.tmp 50) [(.tmp 51), (.tmp 52)]))]) (.seq (.ops [(qS 54 (.mv (.tmp 11))), (qS 8 (.mv (.tmp 54))), (qS 9 (.mv (.const (.bool true))))]) .ret)) .skip)) (.seq (.ops [(qS 55 (.fieldA 1 (.tmp 4))), (qS 56 (.load 1 false (.tmp 55))), (qS 57 (.mv (.tmp 10))), (qS 58 (.mv (.tmp 11))), (qS 59 (.dyn (.tmp 56) [(.tmp 57), (.tmp 58)]))]) (.seq (.ops [(qS 60 (.mv (.tmp 10))), (qS 61 (.pu (.n (.ar .add)) [(.tmp 60), (ic 1)])), (qS 10 (.mv (.tmp 61)))]) (.seq (.ops [(qS 62 (.mv (.tmp 11))), (qS 63 (.pu (.n (.ar .sub)) [(.tmp 62), (ic 1)])), (qS 11 (.mv (.tmp 63)))]) (.seq (.block 4 (.loop (.block 5 (.seq (.block 6 (.loop (.seq (.seq (.ops [(qS 64 (.mv (.tmp 10))), (qS 65 (.mv (.tmp 11))), (qS 66 (.pu (.n (.ar .leq)) [(.tmp 64), (.tmp 65)])), (qS 67 (.mv (.tmp 66))), ⟨(.some 68), (.fieldA 0 (.tmp 4)), (.some (67, true)), [], .none⟩, ⟨(.some 69), (.load 1 false (.tmp 68)), (.some (67, true)), [], .none⟩, ⟨(.some 70), (.mv (.tmp 10)), (.some (67, true)), [], .none⟩, ⟨(.some 71), (.mv (.tmp 1)), (.some (67, true)), [], .none⟩, ⟨(.some 72), (.dyn (.tmp 69) [(.tmp 70), (.tmp 71)]), (.some (67, true)), [], .none⟩, (qS 73 (.pick (.tmp 67) (.tmp 72) (.const (.bool false))))]) (.cond (.tmp 73) .skip (.exit 6))) (.block 7 (.ops [(qS 74 (.mv (.tmp 10))), (qS 75 (.pu (.n (.ar .add)) [(.tmp 74), (ic 1)])), (qS 10 (.mv (.tmp 75)))]))))) (.seq (.block 8 (.loop (.seq (.seq (.ops [(qS 76 (.mv (.tmp 10))), (qS 77 (.mv (.tmp 11))), (qS 78 (.pu (.n (.ar .leq)) [(.tmp 76), (.tmp 77)])), (qS 79 (.mv (.tmp 78))), ⟨(.some 80), (.fieldA 0 (.tmp 4)), (.some (79, true)), [], .none⟩, ⟨(.some 81), (.load 1 false (.tmp 80)), (.some (79, true)), [], .none⟩, ⟨(.some 82), (.mv (.tmp 11)), (.some (79, true)), [], .none⟩, ⟨(.some 83), (.mv (.tmp 1)), (.some (79, true)), [], .none⟩, ⟨(.some 84), (.dyn (.tmp 81) [(.tmp 82), (.tmp 83)]), (.some (79, true)), [], .none⟩, ⟨(.some 85), (.pu (.n (.un .not)) [(.tmp 84)]), (.some (79, true)), [], .none⟩, (qS 86 (.pick (.tmp 79) (.tmp 85) (.const (.bool false))))]) (.cond (.tmp 86) .skip (.exit 8))) (.block 9 (.ops [(qS 87 (.mv (.tmp 11))), (qS 88 (.pu (.n (.ar .sub)) [(.tmp 87), (ic 1)])), (qS 11 (.mv (.tmp 88)))]))))) (.seq (.seq (.ops [(qS 89 (.mv (.tmp 10))), (qS 90 (.mv (.tmp 11))), (qS 91 (.pu (.n (.ar .gtr)) [(.tmp 89), (.tmp 90)]))]) (.cond (.tmp 91) (.exit 4) .skip)) (.seq (.ops [(qS 92 (.fieldA 1 (.tmp 4))), (qS 93 (.load 1 false (.tmp 92))), (qS 94 (.mv (.tmp 10))), (qS 95 (.mv (.tmp 11))), (qS 96 (.dyn (.tmp 93) [(.tmp 94), (.tmp 95)]))]) (.seq (.ops [(qS 97 (.mv (.tmp 10))), (qS 98 (.pu (.n (.ar .add)) [(.tmp 97), (ic 1)])), (qS 10 (.mv (.tmp 98)))]) (.ops [(qS 99 (.mv (.tmp 11))), (qS 100 (.pu (.n (.ar .sub)) [(.tmp 99), (ic 1)])), (qS 11 (.mv (.tmp 100)))]))))))))) (.seq (.ops [(qS 101 (.fieldA 1 (.tmp 4))), (qS 102 (.load 1 false (.tmp 101))), (qS 103 (.mv (.tmp 11))), (qS 104 (.mv (.tmp 1))), (qS 105 (.dyn (.tmp 102) [(.tmp 103), (.tmp 104)]))]) (.seq (.ops [(qS 106 (.mv (.tmp 11))), (qS 8 (.mv (.tmp 106))), (qS 9 (.mv (.const (.bool false))))]) .ret)))))))))))), [(.tmp 8), (.tmp 9)]⟩

theorem W_partition {L : LS env α} {H : Heap} {A : Array α} (hL : L.Lh H A) (a b p : Nat) (hb : b ≤ L.sz) (hab : a < b) (hp : p < b) :
    R P env c_sort_partition_func [.agg [L.less, L.swap], nV a, nV b, nV p] H (PostS L H (partition L.lt A a b p).2.2 (.tup [nV (partition L.lt A a b p).1, .i (.s (.bool (partition L.lt A a b p).2.1))])) := by
  have big := L.big
  refine R_of (by simp [c_sort_partition_func]) ?_
  unfold c_sort_partition_func
  have f0 := Fr.start hL
  obtain ⟨h1, hs, f1⟩ := f0.swapN a p (by omega) (by omega)
  obtain ⟨S, hS⟩ : ∃ S, S = partition L.lt A a b p := ⟨_, rfl⟩
  rw [← hS]
  simp (maxSteps := 2000000) (disch := omega) only [gw, Nat.reduceAdd, Nat.reduceMul, L.oneL, L.oneS, f0.ldS, hs]
  generalize H.length = B at f0 f1 ⊢
  unfold partition at hS
  simp only [] at hS
  clear f0 hs
  generalize swp A a p = A1 at f1 hS
  refine scanP0 f1 rfl rfl rfl rfl (by omega) (by omega) ?_
  intro t g1 g4 gi gj
  have b1 := scanUp_ge (fun x => L.lt x A1[a]!) A1 (b - 1) (a + 1)
  have b2 := scanUp_max (fun x => L.lt x A1[a]!) A1 (i := a + 1) (j := b - 1) (n := L.sz) (by omega) (by omega)
  generalize scanUp (fun x => L.lt x A1[a]!) A1 (b - 1) (a + 1) = i2 at hS gi b1 b2
  simp (maxSteps := 2000000) (disch := omega) only [gw, Nat.reduceAdd, Nat.reduceMul, g1, g4, gi, gj]
  refine scanP2 f1 g1 g4 gi gj (by omega) (by omega) (by omega) b2 ?_
  clear g1 g4 gi gj
  clear t
  intro t g1 g4 gi gj
  have b3 := scanDown_le (fun x => !L.lt x A1[a]!) A1 i2 (b - 1)
  generalize scanDown (fun x => !L.lt x A1[a]!) A1 i2 (b - 1) = j2 at hS gj b3
  by_cases hc : i2 > j2
  · rw [if_pos hc] at hS
    obtain ⟨h', hs, f'⟩ := f1.swapN j2 a (by omega) (by omega)
    subst hS
    simp (maxSteps := 2000000) (disch := omega) only [gw, Nat.reduceAdd, Nat.reduceMul, g1, g4, gi, gj, gt_iff_lt.1 hc, f1.ldS, hs]
    exact ⟨rfl, f'.lh, f'.keep⟩
  · rw [if_neg hc] at hS
    have hc' : ¬ j2 < i2 := hc
    obtain ⟨h', hs, f'⟩ := f1.swapN i2 j2 (by omega) (by omega)
    simp (maxSteps := 2000000) (disch := omega) only [gw, Nat.reduceAdd, Nat.reduceMul, g1, g4, gi, gj, hc', f1.ldS, hs]
    refine loopP4 (i := i2 + 1) (j := j2 - 1) f' g1 g4 rfl rfl (by omega) (by omega) (by omega) (by omega) ?_
    clear hs g4
    clear g1 gi gj
    clear t
    intro t h2 g1 g4 gj hj f2
    obtain ⟨h3, hs, f3⟩ := f2.swapN _ a hj (by omega)
    subst hS
    simp (maxSteps := 2000000) (disch := omega) only [gw, Nat.reduceAdd, Nat.reduceMul, g1, g4, gj, f2.ldS, hs]
    exact ⟨rfl, f3.lh, f3.keep⟩
end Go.AM

set_option linter.unusedVariables false
set_option linter.unusedSimpArgs false
set_option maxRecDepth 20000
namespace Go.AM
open Go.Sort
variable {P : Program} {env : Env} {α : Type} [Inhabited α]

theorem d10 : decide ((1 : Int) ≤ 0) = false := rfl
theorem d55 : decide ((5 : Int) < 5) = false := rfl

theorem scanI2 {L : LS env α} {Q : Post} {H h : Heap} {B : Nat} {A : Array α} {t : Nat → V} (f : Fr L H B h A) {a b i : Nat} {v8 : V} (g1 : t 1 = nV a) (g2 : t 2 = nV b) (g3 : t 3 = .ptr B 2 0) (g7 : t 7 = nV i) (g8 : t 8 = v8) (hb : b ≤ L.sz) (hi : 1 ≤ i)
    (hQ : ∀ t', t' 1 = nV a → t' 2 = nV b → t' 3 = .ptr B 2 0 → t' 7 = nV (scanSorted L.lt A b i) → t' 8 = v8 → Q (.exit 2) t' h) : @W P env ⟨(.loop (.seq (.seq (.ops [(qS 17 (.mv (.tmp 7))), (qS 18 (.mv (.tmp 2))), (qS 19 (.pu (.n (.ar .lss)) [(.tmp 17), (.tmp 18)])), (qS 20 (.mv (.tmp 19))), ⟨(.some 21), (.fieldA 0 (.tmp 3)), (.some (20, true)), [], .none⟩, ⟨(.some 22), (.load 1 false (.tmp 21)), (.some (20, true)), [], .none⟩, ⟨(.some 23), (.mv (.tmp 7)), (.some (20, true)), [], .none⟩, ⟨(.some 24), (.mv (.tmp 7)), (.some (20, true)), [], .none⟩, ⟨(.some 25), (.pu (.n (.ar .sub)) [(.tmp 24), (ic 1)]), (.some (20, true)), [], .none⟩, ⟨(.some 26), (.dyn (.tmp 22) [(.tmp 23), (.tmp 25)]), (.some (20, true)), [], .none⟩, ⟨(.some 27), (.pu (.n (.un .not)) [(.tmp 26)]), (.some (20, true)), [], .none⟩, (qS 28 (.pick (.tmp 20) (.tmp 27) (.const (.bool false))))]) (.cond (.tmp 28) .skip (.exit 2))) (.block 3 (.ops [(qS 29 (.mv (.tmp 7))), (qS 30 (.pu (.n (.ar .add)) [(.tmp 29), (ic 1)])), (qS 7 (.mv (.tmp 30)))]))))⟩ t h ⟨Q⟩ := by
  have big := L.big
  obtain ⟨S, hS⟩ : ∃ S, S = scanSorted L.lt A b i := ⟨_, rfl⟩
  rw [← hS] at hQ
  refine W_loopK (fun n t h' => ∃ i, n = b - i ∧ h' = h ∧ t 1 = nV a ∧ t 2 = nV b ∧ t 3 = .ptr B 2 0 ∧ t 7 = nV i ∧ t 8 = v8 ∧ 1 ≤ i ∧ S = scanSorted L.lt A b i) (b - i) ⟨i, rfl, rfl, g1, g2, g3, g7, g8, hi, hS⟩ ?_
  clear g1 g2 g3 g7 g8 hS hi
  rintro K n t h' hn hx ⟨i, rfl, rfl, g1, g2, g3, g7, g8, hi, hS⟩
  rw [scanSorted] at hS
  by_cases hib : i < b
  · have hl := f.lessN i (i - 1) (by omega) (by omega)
    by_cases hp : L.lt A[i]! A[i - 1]! = true
    · rw [hp] at hl
      rw [if_neg (by simp [hp])] at hS
      simp (maxSteps := 2000000) (disch := omega) only [gw, Nat.reduceAdd, Nat.reduceMul, g1, g2, g3, g7, hib, f.ldL, hl]
      exact hx _ _ _ (by simp) (hQ _ g1 g2 g3 (by rw [hS]; exact g7) g8)
    · rw [Bool.not_eq_true] at hp
      rw [hp] at hl
      rw [if_pos (by simp [hib, hp])] at hS
      simp (maxSteps := 2000000) (disch := omega) only [gw, Nat.reduceAdd, Nat.reduceMul, g1, g2, g3, g7, hib, f.ldL, hl]
      exact hn _ _ _ (by omega) ⟨i + 1, rfl, rfl, g1, g2, g3, rfl, g8, by omega, hS⟩
  · rw [if_neg (by simp [hib])] at hS
    simp (maxSteps := 2000000) (disch := omega) only [gw, Nat.reduceAdd, Nat.reduceMul, g1, g2, g3, g7, hib]
    exact hx _ _ _ (by simp) (hQ _ g1 g2 g3 (by rw [hS]; exact g7) g8)

theorem loopI4 {L : LS env α} {Q : Post} {H h : Heap} {B : Nat} {A : Array α} {t : Nat → V} (f : Fr L H B h A) {a b j : Nat} {v7 v8 : V} (g1 : t 1 = nV a) (g2 : t 2 = nV b) (g3 : t 3 = .ptr B 2 0) (g7 : t 7 = v7) (g8 : t 8 = v8) (g9 : t 9 = nV j) (hj : j < L.sz)
    (hQ : ∀ t' h', t' 1 = nV a → t' 2 = nV b → t' 3 = .ptr B 2 0 → t' 7 = v7 → t' 8 = v8 → Fr L H B h' (shiftDown L.lt j A) → Q (.exit 4) t' h') : @W P env ⟨(.loop (.seq (.seq (.ops [(qS 50 (.mv (.tmp 9))), (qS 51 (.pu (.n (.ar .geq)) [(.tmp 50), (ic 1)]))]) (.cond (.tmp 51) .skip (.exit 4))) (.seq (.block 5 (.seq (.seq (.ops [(qS 54 (.fieldA 0 (.tmp 3))), (qS 55 (.load 1 false (.tmp 54))), (qS 56 (.mv (.tmp 9))), (qS 57 (.mv (.tmp 9))), (qS 58 (.pu (.n (.ar .sub)) [(.tmp 57), (ic 1)])), (qS 59 (.dyn (.tmp 55) [(.tmp 56), (.tmp 58)])), (qS 60 (.pu (.n (.un .not)) [(.tmp 59)]))]) (.cond (.tmp 60) (.exit 4) .skip)) (.ops [(qS 61 (.fieldA 1 (.tmp 3))), (qS 62 (.load 1 false (.tmp 61))), (qS 63 (.mv (.tmp 9))), (qS 64 (.mv (.tmp 9))), (qS 65 (.pu (.n (.ar .sub)) [(.tmp 64), (ic 1)])), (qS 66 (.dyn (.tmp 62) [(.tmp 63), (.tmp 65)]))]))) (.ops [(qS 52 (.mv (.tmp 9))), (qS 53 (.pu (.n (.ar .sub)) [(.tmp 52), (ic 1)])), (qS 9 (.mv (.tmp 53)))]))))⟩ t h ⟨Q⟩ := by
  have big := L.big
  obtain ⟨S, hS⟩ : ∃ S, S = shiftDown L.lt j A := ⟨_, rfl⟩
  rw [← hS] at hQ
  refine W_loopK (fun n t h => ∃ j A, j = n ∧ t 1 = nV a ∧ t 2 = nV b ∧ t 3 = .ptr B 2 0 ∧ t 7 = v7 ∧ t 8 = v8 ∧ t 9 = nV j ∧ j < L.sz ∧ Fr L H B h A ∧ S = shiftDown L.lt j A) j ⟨j, A, rfl, g1, g2, g3, g7, g8, g9, hj, f, hS⟩ ?_
  clear g1 g2 g3 g7 g8 g9 hS hj f
  rintro K n t h hn hx ⟨j, A, rfl, g1, g2, g3, g7, g8, g9, hj, f, hS⟩
  cases j with
  | zero =>
    simp (maxSteps := 2000000) (disch := omega) only [gw, Nat.reduceAdd, Nat.reduceMul, g1, g2, g3, g7, g9, d10]
    exact hx _ _ _ (by simp) (hQ _ _ g1 g2 g3 g7 g8 (by rw [hS]; exact f))
  | succ k =>
    have h1 : (1 : Int) ≤ ((k + 1 : Nat) : Int) := by omega
    rw [shiftDown] at hS
    have hl := f.lessN (k + 1) k (by omega) (by omega)
    obtain ⟨h', hs, f'⟩ := f.swapN (k + 1) k (by omega) (by omega)
    by_cases hp : L.lt A[k + 1]! A[k]! = true
    · rw [hp] at hl
      rw [if_neg (by simp [hp])] at hS
      simp (maxSteps := 2000000) (disch := omega) only [gw, Nat.reduceAdd, Nat.reduceMul, g1, g2, g3, g7, g9, h1, f.ldL, f.ldS, hl, hs, Nat.add_sub_cancel]
      exact hn _ _ _ (by omega) ⟨k, _, rfl, g1, g2, g3, g7, g8, rfl, by omega, f', hS⟩
    · rw [Bool.not_eq_true] at hp
      rw [hp] at hl
      rw [if_pos (by simp [hp])] at hS
      simp (maxSteps := 2000000) (disch := omega) only [gw, Nat.reduceAdd, Nat.reduceMul, g1, g2, g3, g7, g9, h1, f.ldL, hl, Nat.add_sub_cancel]
      exact hx _ _ _ (by simp) (hQ _ _ g1 g2 g3 g7 g8 (by rw [hS]; exact f))

theorem loopI6 {L : LS env α} {Q : Post} {H h : Heap} {B : Nat} {A : Array α} {t : Nat → V} (f : Fr L H B h A) {a b j : Nat} {v7 v8 : V} (g1 : t 1 = nV a) (g2 : t 2 = nV b) (g3 : t 3 = .ptr B 2 0) (g7 : t 7 = v7) (g8 : t 8 = v8) (g9 : t 10 = nV j) (hj : 1 ≤ j) (hb : b ≤ L.sz)
    (hQ : ∀ t' h', t' 1 = nV a → t' 2 = nV b → t' 3 = .ptr B 2 0 → t' 7 = v7 → t' 8 = v8 → Fr L H B h' (shiftUp L.lt b j A) → Q (.exit 6) t' h') : @W P env ⟨(.loop (.seq (.seq (.ops [(qS 73 (.mv (.tmp 10))), (qS 74 (.mv (.tmp 2))), (qS 75 (.pu (.n (.ar .lss)) [(.tmp 73), (.tmp 74)]))]) (.cond (.tmp 75) .skip (.exit 6))) (.seq (.block 7 (.seq (.seq (.ops [(qS 78 (.fieldA 0 (.tmp 3))), (qS 79 (.load 1 false (.tmp 78))), (qS 80 (.mv (.tmp 10))), (qS 81 (.mv (.tmp 10))), (qS 82 (.pu (.n (.ar .sub)) [(.tmp 81), (ic 1)])), (qS 83 (.dyn (.tmp 79) [(.tmp 80), (.tmp 82)])), (qS 84 (.pu (.n (.un .not)) [(.tmp 83)]))]) (.cond (.tmp 84) (.exit 6) .skip)) (.ops [(qS 85 (.fieldA 1 (.tmp 3))), (qS 86 (.load 1 false (.tmp 85))), (qS 87 (.mv (.tmp 10))), (qS 88 (.mv (.tmp 10))), (qS 89 (.pu (.n (.ar .sub)) [(.tmp 88), (ic 1)])), (qS 90 (.dyn (.tmp 86) [(.tmp 87), (.tmp 89)]))]))) (.ops [(qS 76 (.mv (.tmp 10))), (qS 77 (.pu (.n (.ar .add)) [(.tmp 76), (ic 1)])), (qS 10 (.mv (.tmp 77)))]))))⟩ t h ⟨Q⟩ := by
  have big := L.big
  obtain ⟨S, hS⟩ : ∃ S, S = shiftUp L.lt b j A := ⟨_, rfl⟩
  rw [← hS] at hQ
  refine W_loopK (fun n t h => ∃ j A, n = b - j ∧ t 1 = nV a ∧ t 2 = nV b ∧ t 3 = .ptr B 2 0 ∧ t 7 = v7 ∧ t 8 = v8 ∧ t 10 = nV j ∧ 1 ≤ j ∧ Fr L H B h A ∧ S = shiftUp L.lt b j A) (b - j) ⟨j, A, rfl, g1, g2, g3, g7, g8, g9, hj, f, hS⟩ ?_
  clear g1 g2 g3 g7 g8 g9 hS hj f
  rintro K n t h hn hx ⟨j, A, rfl, g1, g2, g3, g7, g8, g9, hj, f, hS⟩
  rw [shiftUp] at hS
  by_cases hjb : j < b
  · rw [if_pos hjb] at hS
    have hl := f.lessN j (j - 1) (by omega) (by omega)
    obtain ⟨h', hs, f'⟩ := f.swapN j (j - 1) (by omega) (by omega)
    by_cases hp : L.lt A[j]! A[j - 1]! = true
    · rw [hp] at hl
      rw [if_neg (by simp [hp])] at hS
      simp (maxSteps := 2000000) (disch := omega) only [gw, Nat.reduceAdd, Nat.reduceMul, g1, g2, g3, g7, g9, hjb, f.ldL, f.ldS, hl, hs]
      exact hn _ _ _ (by omega) ⟨j + 1, _, rfl, g1, g2, g3, g7, g8, rfl, by omega, f', hS⟩
    · rw [Bool.not_eq_true] at hp
      rw [hp] at hl
      rw [if_pos (by simp [hp])] at hS
      simp (maxSteps := 2000000) (disch := omega) only [gw, Nat.reduceAdd, Nat.reduceMul, g1, g2, g3, g7, g9, hjb, f.ldL, hl]
      exact hx _ _ _ (by simp) (hQ _ _ g1 g2 g3 g7 g8 (by rw [hS]; exact f))
  · rw [if_neg hjb] at hS
    simp (maxSteps := 2000000) (disch := omega) only [gw, Nat.reduceAdd, Nat.reduceMul, g1, g2, g3, g7, g9, hjb]
    exact hx _ _ _ (by simp) (hQ _ _ g1 g2 g3 g7 g8 (by rw [hS]; exact f))

def c_sort_partialInsertionSort_func : AFn := ⟨91, (.seq (.ops [(qS 3 (.box (.tmp 0))), (qS 6 (.mv (.const (.bool false))))]) (.seq (.ops [(qS 11 (.mv (.tmp 1))), (qS 12 (.pu (.n (.ar .add)) [(.tmp 11), (ic 1)])), (qS 7 (.mv (.tmp 12)))]) (.seq (.seq (.ops [(qS 8 (.mv (ic 0)))]) (.block 0 (.loop (.seq (.seq (.ops [(qS 13 (.mv (.tmp 8))), (qS 14 (.pu (.n (.ar .lss)) [(.tmp 13), (ic 5)]))]) (.cond (.tmp 14) .skip (.exit 0))) (.seq (.block 1 (.seq (.block 2 (.loop (.seq (.seq (.ops [(qS 17 (.mv (.tmp 7))), (qS 18 (.mv (.tmp 2))), (qS 19 (.pu (.n (.ar .lss)) [(.tmp 17), (.tmp 18)])), (qS 20 (.mv (.tmp 19))), ⟨(.some 21), (.fieldA 0 (.tmp 3)), (.some (20, true)), [], .none⟩, ⟨(.some 22), (.load 1 false (.tmp 21)), (.some (20, true)), [], .none⟩, ⟨(.some 23), (.mv (.tmp 7)), (.some (20, true)), [], .none⟩, ⟨(.some 24), (.mv (.tmp 7)), (.some (20, true)), [], .none⟩, ⟨(.some 25), (.pu (.n (.ar .sub)) [(.tmp 24), (ic 1)]), (.some (20, true)), [], .none⟩, ⟨(.some 26), (.dyn (.tmp 22) [(.tmp 23), (.tmp 25)]), (.some (20, true)), [], .none⟩, ⟨(.some 27), (.pu (.n (.un .not)) [(.tmp 26)]), (.some (20, true)), [], .none⟩, (qS 28 (.pick (.tmp 20) (.tmp 27) (.const (.bool false))))]) (.cond (.tmp 28) .skip (.exit 2))) (.block 3 (.ops [(qS 29 (.mv (.tmp 7))), (qS 30 (.pu (.n (.ar .add)) [(.tmp 29), (ic 1)])), (qS 7 (.mv (.tmp 30)))]))))) (.seq (.seq (.ops [(qS 31 (.mv (.tmp 7))), (qS 32 (.mv (.tmp 2))), (qS 33 (.pu (.n (.ar .eql)) [(.tmp 31), (.tmp 32)]))]) (.cond (.tmp 33) (.seq (.ops [(qS 6 (.mv (.const (.bool true))))]) .ret) .skip)) (.seq (.seq (.ops [(qS 34 (.mv (.tmp 2))), (qS 35 (.mv (.tmp 1))), (qS 36 (.pu (.n (.ar .sub)) [(.tmp 34), (.tmp 35)])), (qS 37 (.pu (.n (.ar .lss)) [(.tmp 36), (ic 50)]))]) (.cond (.tmp 37) (.seq (.ops [(qS 6 (.mv (.const (.bool false))))]) .ret) .skip)) (.seq (.ops [(qS 38 (.fieldA 1 (.tmp 3))), (qS 39 (.load 1 false (.tmp 38))), (qS 40 (.mv (.tmp 7))), (qS 41 (.mv (.tmp 7))), (qS 42 (.pu (.n (.ar .sub)) [(.tmp 41), (ic 1)])), (qS 43 (.dyn (.tmp 39) [(.tmp 40), (.tmp 42)]))]) (.seq (.seq (.ops [(qS 44 (.mv (.tmp 7))), (qS 45 (.mv (.tmp 1))), (qS 46 (.pu (.n (.ar .sub)) [(.tmp 44), (.tmp 45)])), (qS 47 (.pu (.n (.ar .geq)) [(.tmp 46), (ic 2)]))]) (.cond (.tmp 47) (.seq (.ops [(qS 48 (.mv (.tmp 7))), (qS 49 (.pu (.n (.ar .sub)) [(.tmp 48), (ic 1)])), (qS 9 (.mv (.tmp 49)))]) (.block 4 (.loop (.seq (.seq (.ops [(qS 50 (.mv (.tmp 9))), (qS 51 (.pu (.n (.ar .geq)) [(.tmp 50), (ic 1)]))]) (.cond (.tmp 51) .skip (.exit 4))) (.seq (.block 5 (.seq (.seq (.ops [(qS 54 (.fieldA 0 (.tmp 3))), (qS 55 (.load 1 false (.tmp 54))), (qS 56 (.mv (.tmp 9))), (qS 57 (.mv (.tmp 9))), (qS 58 (.pu (.n (.ar .sub)) [(.tmp 57), (ic 1)])), (qS 59 (.dyn (.tmp 55) [(.tmp 56), (.tmp 58)])), (qS 60 (.pu (.n (.un .not)) [(.tmp 59)]))]) (.cond (.tmp 60) (.exit 4) .skip)) (.ops [(qS 61 (.fieldA 1 (.tmp 3))), (qS 62 (.load 1 false (.tmp 61))), (qS 63 (.mv (.tmp 9))), (qS 64 (.mv (.tmp 9))), (qS 65 (.pu (.n (.ar .sub)) [(.tmp 64), (ic 1)])), (qS 66 (.dyn (.tmp 62) [(.tmp 63), (.tmp 65)]))]))) (.ops [(qS 52 (.mv (.tmp 9))), (qS 53 (.pu (.n (.ar .sub)) [(.tmp 52), (ic 1)])), (qS 9 (.mv (.tmp 53)))])))))) .skip)) (.seq (.ops [(qS 67 (.mv (.tmp 2))), (qS 68 (.mv (.tmp 7))), (qS 69 (.pu (.n (.ar .sub)) [(.tmp 67), (.tmp 68)])), (qS 70 (.pu (.n (.ar .geq)) [(.tmp 69), (ic 2)]))]) (.cond (.tmp 70) (.seq (.ops [(qS 71 (.mv (.tmp 7))), (qS 72 (.pu (.n (.ar .add)) [(.tmp 71), (ic 1)])), (qS 10 (.mv (.tmp 72)))]) (.block 6 (.loop (.seq (.seq (.ops [(qS 73 (.mv (.tmp 10))), (qS 74 (.mv (.tmp 2))), (qS 75 (.pu (.n (.ar .lss)) [(.tmp 73), (.tmp 74)]))]) (.cond (.tmp 75) .skip (.exit 6))) (.seq (.block 7 (.seq (.seq (.ops [(qS 78 (.fieldA 0 (.tmp 3))), (qS 79 (.load 1 false (.tmp 78))), (qS 80 (.mv (.tmp 10))), (qS 81 (.mv (.tmp 10))), (qS 82 (.pu (.n (.ar .sub)) [(.tmp 81), (ic 1)])), (qS 83 (.dyn (.tmp 79) [(.tmp 80), (.tmp 82)])), (qS 84 (.pu (.n (.un .not)) [(.tmp 83)]))]) (.cond (.tmp 84) (.exit 6) .skip)) (.ops [(qS 85 (.fieldA 1 (.tmp 3))), (qS 86 (.load 1 false (.tmp 85))), (qS 87 (.mv (.tmp 10))), (qS 88 (.mv (.tmp 10))), (qS 89 (.pu (.n (.ar .sub)) [(.tmp 88), (ic 1)])), (qS 90 (.dyn (.tmp 86) [(.tmp 87), (.tmp 89)]))]))) (.ops [(qS 76 (.mv (.tmp 10))), (qS 77 (.pu (.n (.ar .add)) [(.tmp 76), (ic 1)])), (qS 10 (.mv (.tmp 77)))])))))) .skip)))))))) (.ops [(qS 15 (.mv (.tmp 8))), (qS 16 (.pu (.n (.ar .add)) [(.tmp 15), (ic 1)])), (qS 8 (.mv (.tmp 16)))])))))) (.seq (.ops [(qS 6 (.mv (.const (.bool false))))]) .ret)))), [(.tmp 6)]⟩

theorem scanSorted_le (lt : α → α → Bool) (d : Array α) (b : Nat) : ∀ (n i : Nat), b - i = n → i ≤ scanSorted lt d b i ∧ (i ≤ b → scanSorted lt d b i ≤ b)
  | 0, i, h => by
    rw [scanSorted, if_neg (by simp; omega)]
    exact ⟨Nat.le_refl _, fun h => h⟩
  | n + 1, i, h => by
    rw [scanSorted]
    split
    · have := scanSorted_le lt d b n (i + 1) (by omega)
      exact ⟨by omega, fun _ => this.2 (by omega)⟩
    · exact ⟨Nat.le_refl _, fun h => h⟩

theorem W_partialInsertionSort {L : LS env α} {H : Heap} {A : Array α} (hL : L.Lh H A) (a b : Nat) (hb : b ≤ L.sz) (hab : a < b) :
    R P env c_sort_partialInsertionSort_func [.agg [L.less, L.swap], nV a, nV b] H (PostS L H (partialInsertionSort L.lt A a b).1 (.i (.s (.bool (partialInsertionSort L.lt A a b).2)))) := by
  have big := L.big
  refine R_of (by simp [c_sort_partialInsertionSort_func]) ?_
  unfold c_sort_partialInsertionSort_func
  have f0 := Fr.start hL
  obtain ⟨S, hS⟩ : ∃ S, S = partialInsertionSort L.lt A a b := ⟨_, rfl⟩
  rw [← hS]
  simp (maxSteps := 2000000) (disch := omega) only [gw, Nat.reduceAdd, Nat.reduceMul, L.oneL, L.oneS]
  generalize H ++ [.cells [L.less, L.swap]] = h0 at f0 ⊢
  generalize H.length = B at f0 ⊢
  refine W_loopK (fun n t h => ∃ s i A', s = n ∧ t 1 = nV a ∧ t 2 = nV b ∧ t 3 = .ptr B 2 0 ∧ t 7 = nV i ∧ t 8 = nV (5 - s) ∧ s ≤ 5 ∧ a < i ∧ i ≤ b ∧ Fr L H B h A' ∧ S = partialIns L.lt a b s i A') 5 ⟨5, a + 1, A, rfl, rfl, rfl, rfl, rfl, rfl, by omega, by omega, by omega, f0, hS⟩ ?_
  clear f0 hS hL
  rintro K n t h hn hx ⟨s, i, A', rfl, g1, g2, g3, g7, g8, hs, hi, hi2, f, hS⟩
  have hret : ∀ (b : Bool) t' h' A2, t' 6 = .i (.s (.bool b)) → Fr L H B h' A2 → S = (A2, b) → K .ret t' h' := by
    intro b t' h' A2 g6 f2 e
    refine hx _ _ _ (by simp) ?_
    subst e
    simp (maxSteps := 2000000) (disch := omega) only [gw, Nat.reduceAdd, Nat.reduceMul, g6]
    exact ⟨rfl, f2.lh, f2.keep⟩
  cases s with
  | zero =>
    simp (maxSteps := 2000000) (disch := omega) only [gw, Nat.reduceAdd, Nat.reduceMul, g1, g2, g3, g7, g8, d55]
    refine hx _ _ _ (by simp) ?_
    rw [partialIns] at hS
    subst hS
    simp (maxSteps := 2000000) (disch := omega) only [gw, Nat.reduceAdd, Nat.reduceMul]
    exact ⟨rfl, f.lh, f.keep⟩
  | succ s =>
    have g8' : t 8 = nV (4 - s) := by rw [g8, show 5 - (s + 1) = 4 - s by omega]
    have h5 : (4 - s) < 5 := by omega
    have h5' : ((4 - s : Nat) : Int) < 5 := by omega
    rw [partialIns] at hS
    simp only [] at hS
    have hnext : ∀ t' h' A2 i2, t' 1 = nV a → t' 2 = nV b → t' 3 = .ptr B 2 0 → t' 7 = nV i2 → t' 8 = nV (4 - s + 1) → a < i2 → i2 ≤ b → Fr L H B h' A2 → S = partialIns L.lt a b s i2 A2 → K .normal t' h' := fun t' h' A2 i2 q1 q2 q3 q7 q8 q9 q10 q11 q12 =>
      hn _ _ _ (by omega) ⟨s, i2, A2, rfl, q1, q2, q3, q7, by rw [q8, show 4 - s + 1 = 5 - s by omega], by omega, q9, q10, q11, q12⟩
    clear hn
    clear hx g8
    simp (maxSteps := 2000000) (disch := omega) only [gw, Nat.reduceAdd, Nat.reduceMul, g1, g2, g3, g7, g8', h5']
    refine scanI2 f g1 g2 g3 g7 g8' hb (by omega) ?_
    clear g1 g2 g3 g7 g8'
    clear t
    intro t g1 g2 g3 g7 g8
    obtain ⟨b1, b2⟩ := scanSorted_le L.lt A' b _ i rfl
    replace b2 := b2 hi2
    generalize scanSorted L.lt A' b i = i2 at hS g7 b1 b2
    by_cases e1 : i2 = b
    · rw [if_pos e1] at hS
      have e1' : (i2 : Int) = (b : Int) := by omega
      simp (maxSteps := 2000000) (disch := omega) only [gw, Nat.reduceAdd, Nat.reduceMul, g1, g2, g3, g7, g8, e1']
      exact hret _ _ _ _ rfl f hS
    · rw [if_neg e1] at hS
      have e1' : ¬ (i2 : Int) = (b : Int) := by omega
      by_cases e2 : b - a < 50
      · rw [if_pos e2] at hS
        have e2' : ((b - a : Nat) : Int) < 50 := by omega
        simp (maxSteps := 2000000) (disch := omega) only [gw, Nat.reduceAdd, Nat.reduceMul, g1, g2, g3, g7, g8, e1', e2']
        exact hret _ _ _ _ rfl f hS
      · rw [if_neg e2] at hS
        have e2' : ¬ ((b - a : Nat) : Int) < 50 := by omega
        obtain ⟨h1, hw, f1⟩ := f.swapN i2 (i2 - 1) (by omega) (by omega)
        by_cases e4 : i2 - a ≥ 2
        · rw [if_pos e4] at hS
          have e4' : (2 : Int) ≤ ((i2 - a : Nat) : Int) := by omega
          simp (maxSteps := 2000000) (disch := omega) only [gw, Nat.reduceAdd, Nat.reduceMul, g1, g2, g3, g7, g8, e1', e2', f.ldS, hw, e4']
          refine loopI4 f1 g1 g2 g3 g7 g8 rfl (by omega) ?_
          clear g1 g2 g3 g7 g8 f hw f1
          clear t
          intro t h g1 g2 g3 g7 g8 f
          by_cases e3 : b - i2 ≥ 2
          · rw [if_pos e3] at hS
            have e3' : (2 : Int) ≤ ((b - i2 : Nat) : Int) := by omega
            simp (maxSteps := 2000000) (disch := omega) only [gw, Nat.reduceAdd, Nat.reduceMul, g1, g2, g3, g7, g8, e3']
            refine loopI6 f g1 g2 g3 g7 g8 rfl (by omega) hb ?_
            clear g1 g2 g3 g7 g8
            clear t
            intro t h g1 g2 g3 g7 g8 f
            simp (maxSteps := 2000000) (disch := omega) only [gw, Nat.reduceAdd, Nat.reduceMul, g1, g2, g3, g7, g8]
            exact hnext _ _ _ _ g1 g2 g3 g7 rfl (by omega) b2 f hS
          · rw [if_neg e3] at hS
            have e3' : ¬ (2 : Int) ≤ ((b - i2 : Nat) : Int) := by omega
            simp (maxSteps := 2000000) (disch := omega) only [gw, Nat.reduceAdd, Nat.reduceMul, g1, g2, g3, g7, g8, e3']
            exact hnext _ _ _ _ g1 g2 g3 g7 rfl (by omega) b2 f hS
        · rw [if_neg e4] at hS
          have e4' : ¬ (2 : Int) ≤ ((i2 - a : Nat) : Int) := by omega
          by_cases e3 : b - i2 ≥ 2
          · rw [if_pos e3] at hS
            have e3' : (2 : Int) ≤ ((b - i2 : Nat) : Int) := by omega
            simp (maxSteps := 2000000) (disch := omega) only [gw, Nat.reduceAdd, Nat.reduceMul, g1, g2, g3, g7, g8, e3', e1', e2', f.ldS, hw, e4']
            refine loopI6 f1 g1 g2 g3 g7 g8 rfl (by omega) hb ?_
            clear g1 g2 g3 g7 g8
            clear t
            intro t h g1 g2 g3 g7 g8 f
            simp (maxSteps := 2000000) (disch := omega) only [gw, Nat.reduceAdd, Nat.reduceMul, g1, g2, g3, g7, g8]
            exact hnext _ _ _ _ g1 g2 g3 g7 rfl (by omega) b2 f hS
          · rw [if_neg e3] at hS
            have e3' : ¬ (2 : Int) ≤ ((b - i2 : Nat) : Int) := by omega
            simp (maxSteps := 2000000) (disch := omega) only [gw, Nat.reduceAdd, Nat.reduceMul, g1, g2, g3, g7, g8, e3', e1', e2', f.ldS, hw, e4']
            exact hnext _ _ _ _ g1 g2 g3 g7 rfl (by omega) b2 f1 hS
end Go.AM

set_option linter.unusedVariables false
set_option linter.unusedSimpArgs false
set_option maxRecDepth 20000
namespace Go.AM
open Go.Sort
variable {P : Program} {env : Env} {α : Type} [Inhabited α]

/-- The blocks from n on stay as they are, all but one. -/
structure KeepP (n C : Nat) (H H' : Heap) : Prop where
  le : H.length ≤ H'.length
  at_ : ∀ b, n ≤ b → b < H.length → b ≠ C → H'[b]? = H[b]?
theorem KeepP.trans {n C : Nat} {H H1 H2 : Heap} (a : KeepP n C H H1) (b : KeepP n C H1 H2) : KeepP n C H H2 :=
  ⟨Nat.le_trans a.le b.le, fun x h1 h2 h3 => (b.at_ x h1 (Nat.lt_of_lt_of_le h2 a.le) h3).trans (a.at_ x h1 h2 h3)⟩

/-- A function of the sort that counts swaps in a cell and leaves the row. -/
structure PostP (L : LS env α) (C s : Nat) (H : Heap) (A : Array α) (v0 : V) (v : V) (H' : Heap) : Prop where
  val : v = v0
  lh : L.Lh H' A
  keep : KeepP L.n C H H'
  cell : H'[C]? = some (.cells [nV s])

def CP (L : LS env α) (c : Nat) (args : List V) (C s : Nat) (H : Heap) (A : Array α) (v0 : V) : Prop := ∃ h', env c none args H = some (v0, h') ∧ L.Lh h' A ∧ KeepP L.n C H h' ∧ h'[C]? = some (.cells [nV s])

theorem CP.of {L : LS env α} {c C s : Nat} {args : List V} {H : Heap} {A : Array α} {v0 : V} {F : AFn} (he : ∀ H, env c none args H = runIn P env F none args H) (h : R P env F args H (PostP L C s H A v0)) : CP L c args C s H A v0 := by
  obtain ⟨⟨v, h'⟩, h1, h2⟩ := h
  have p : PostP L C s H A v0 v h' := h2
  refine ⟨h', ?_, p.lh, p.keep, p.cell⟩
  rw [he]
  exact h1.trans (by rw [p.val])

theorem cellN {h : Heap} {C : Nat} {x : V} (hc : h[C]? = some (.cells [x])) : getCells h C 1 = some [x] := by
  unfold getCells
  rw [hc]
  simp
theorem ldN {h : Heap} {C : Nat} {x : V} (hc : h[C]? = some (.cells [x])) : stepLoad 1 false h (.ptr C 1 0) = some x := by
  simp [stepLoad, cellN hc, rowV]
theorem stN {h : Heap} {C : Nat} {x y : V} (hy : y.one = true) (hc : h[C]? = some (.cells [x])) : stepStoreC 1 h [y] (.ptr C 1 0) = some (h.set C (.cells [y])) := by
  simp [stepStoreC, cellN hc, hy, splice]

def c_sort_order2_func : AFn := ⟨24, (.seq (.ops [(qS 4 (.box (.tmp 0))), (qS 8 (.mv (ic 0))), (qS 9 (.mv (ic 0)))]) (.seq (.seq (.ops [(qS 10 (.fieldA 0 (.tmp 4))), (qS 11 (.load 1 false (.tmp 10))), (qS 12 (.mv (.tmp 2))), (qS 13 (.mv (.tmp 1))), (qS 14 (.dyn (.tmp 11) [(.tmp 12), (.tmp 13)]))]) (.cond (.tmp 14) (.seq (.ops [(qS 15 (.mv (.tmp 3))), (qS 16 (.nilChk (.tmp 15))), (qS 17 (.load 1 false (.tmp 16))), (qS 18 (.pu (.n (.ar .add)) [(.tmp 17), (ic 1)])), (qS 19 (.nilChk (.tmp 15))), ⟨.none, (.storeV [(0, false)] 1 (.tmp 19) (.tmp 18)), .none, [], .none⟩]) (.seq (.ops [(qS 20 (.mv (.tmp 2))), (qS 21 (.mv (.tmp 1))), (qS 8 (.mv (.tmp 20))), (qS 9 (.mv (.tmp 21)))]) .ret)) .skip)) (.seq (.ops [(qS 22 (.mv (.tmp 1))), (qS 23 (.mv (.tmp 2))), (qS 8 (.mv (.tmp 22))), (qS 9 (.mv (.tmp 23)))]) .ret))), [(.tmp 8), (.tmp 9)]⟩

theorem W_order2 {L : LS env α} {H : Heap} {A : Array α} (hL : L.Lh H A) (a b C s : Nat) (ha : a < L.sz) (hb : b < L.sz) (hn : L.n ≤ C) (hC : H[C]? = some (.cells [nV s])) (hs : s < 100) :
    R P env c_sort_order2_func [.agg [L.less, L.swap], nV a, nV b, .ptr C 1 0] H (PostP L C (order2 L.lt A a b s).2.2 H A (.tup [nV (order2 L.lt A a b s).1, nV (order2 L.lt A a b s).2.1])) := by
  have big := L.big
  refine R_of (by simp [c_sort_order2_func]) ?_
  unfold c_sort_order2_func
  have f0 := Fr.start hL
  have hlt : C < H.length := (List.getElem?_eq_some_iff.1 hC).1
  have hC2 : (H ++ [.cells [L.less, L.swap]])[C]? = some (.cells [nV s]) := by rw [List.getElem?_append_left hlt]; exact hC
  have hl := f0.lessN b a hb ha
  have ld := ldN hC2
  have st : stepStoreC 1 (H ++ [.cells [L.less, L.swap]]) [nV (s + 1)] (.ptr C 1 0) = _ := stN rfl hC2
  have l0 := f0.ldL
  have len : (H ++ [Slot.cells [L.less, L.swap]]).length = H.length + 1 := by simp
  have kp := f0.keep
  obtain ⟨S, hS⟩ : ∃ S, S = order2 L.lt A a b s := ⟨_, rfl⟩
  rw [← hS]
  unfold order2 at hS
  simp (maxSteps := 2000000) (disch := omega) only [gw, Nat.reduceAdd, Nat.reduceMul, L.oneL, L.oneS]
  have lh := f0.lh
  clear f0
  generalize H ++ [Slot.cells [L.less, L.swap]] = h0 at hC2 hl ld st l0 kp lh len ⊢
  by_cases hp : L.lt A[b]! A[a]! = true
  · rw [if_pos hp] at hS
    rw [hp] at hl
    subst hS
    simp (maxSteps := 2000000) (disch := omega) only [gw, Nat.reduceAdd, Nat.reduceMul, l0, hl, ld, st]
    refine ⟨rfl, L.same lh (by simp) (fun x hx => List.getElem?_set_ne (by omega)), ⟨by rw [List.length_set]; exact kp.le, fun x h1 h2 h3 => ?_⟩, ?_⟩
    · rw [List.getElem?_set_ne (fun e => h3 e.symm)]; exact kp.at_ x h1 h2
    · exact List.getElem?_set_self (by omega)
  · rw [if_neg hp] at hS
    rw [Bool.not_eq_true] at hp
    rw [hp] at hl
    subst hS
    simp (maxSteps := 2000000) (disch := omega) only [gw, Nat.reduceAdd, Nat.reduceMul, l0, hl, ld, st]
    exact ⟨rfl, lh, ⟨kp.le, fun x h1 h2 _ => kp.at_ x h1 h2⟩, hC2⟩

/-- A walk's heap, with a cell that counts. -/
structure FrP (L : LS env α) (H : Heap) (B C : Nat) (h : Heap) (A : Array α) (s : Nat) : Prop where
  lh : L.Lh h A
  keep : KeepP L.n C H h
  box : h[B]? = some (.cells [L.less, L.swap])
  cell : h[C]? = some (.cells [nV s])
  low : L.n ≤ B
  lowC : L.n ≤ C
  ne : B ≠ C

theorem FrP.start {L : LS env α} {H : Heap} {A : Array α} {C s : Nat} (hL : L.Lh H A) (hn : L.n ≤ C) (hC : H[C]? = some (.cells [nV s])) : FrP L H H.length C (H ++ [.cells [L.less, L.swap]]) A s where
  lh := L.same hL (by simp) (fun b hb => List.getElem?_append_left (Nat.lt_of_lt_of_le hb (L.low hL)))
  keep := ⟨by simp, fun b _ h _ => List.getElem?_append_left h⟩
  box := by simp
  cell := by rw [List.getElem?_append_left (List.getElem?_eq_some_iff.1 hC).1]; exact hC
  low := L.low hL
  lowC := hn
  ne := by have := (List.getElem?_eq_some_iff.1 hC).1; omega
theorem FrP.lt {L : LS env α} {H h : Heap} {B C s : Nat} {A : Array α} (f : FrP L H B C h A s) : B < h.length := (List.getElem?_eq_some_iff.1 f.box).1
theorem FrP.next {L : LS env α} {H h h' : Heap} {B C s s' : Nat} {A : Array α} (f : FrP L H B C h A s) (l : L.Lh h' A) (k : KeepP L.n C h h') (c : h'[C]? = some (.cells [nV s'])) : FrP L H B C h' A s' :=
  ⟨l, f.keep.trans k, (k.at_ B f.low f.lt f.ne).trans f.box, c, f.low, f.lowC, f.ne⟩
theorem FrP.ldB {L : LS env α} {H h : Heap} {B C s : Nat} {A : Array α} (f : FrP L H B C h A s) : stepLoad 2 true h (.ptr B 2 0) = some (.agg [L.less, L.swap]) := by
  have : getCells h B 2 = some [L.less, L.swap] := by unfold getCells; rw [f.box]; simp
  simp [stepLoad, this, rowV]

theorem order2_lt {lt : α → α → Bool} {A : Array α} {a b s n : Nat} (ha : a < n) (hb : b < n) : (order2 lt A a b s).1 < n ∧ (order2 lt A a b s).2.1 < n ∧ (order2 lt A a b s).2.2 ≤ s + 1 := by
  unfold order2
  split
  · exact ⟨hb, ha, Nat.le_refl _⟩
  · exact ⟨ha, hb, Nat.le_succ _⟩
theorem median_lt {lt : α → α → Bool} {A : Array α} {a b c s n : Nat} (ha : a < n) (hb : b < n) (hc : c < n) : (median lt A a b c s).1 < n ∧ (median lt A a b c s).2 ≤ s + 3 := by
  unfold median
  obtain ⟨a1, a2, a3⟩ := order2_lt (lt := lt) (A := A) (s := s) ha hb
  obtain ⟨b1, b2, b3⟩ := order2_lt (lt := lt) (A := A) (s := (order2 lt A a b s).2.2) a2 hc
  obtain ⟨c1, c2, c3⟩ := order2_lt (lt := lt) (A := A) (s := (order2 lt A (order2 lt A a b s).2.1 c (order2 lt A a b s).2.2).2.2) a1 b1
  exact ⟨c2, by simp only; omega⟩

def c_sort_median_func (f_sort_order2_func : Nat) : AFn := ⟨36, (.seq (.ops [(qS 5 (.box (.tmp 0))), (qS 10 (.mv (ic 0)))]) (.seq (.ops [(qS 12 (.load 2 true (.tmp 5))), (qS 13 (.mv (.tmp 1))), (qS 14 (.mv (.tmp 2))), (qS 15 (.mv (.tmp 4))), (qS 16 (.call (2 * f_sort_order2_func + 1) [(.tmp 12), (.tmp 13), (.tmp 14), (.tmp 15)])), (qS 11 (.mv (.tmp 16))), (qS 17 (.extract 0 (.tmp 11))), (qS 18 (.extract 1 (.tmp 11))), (qS 1 (.mv (.tmp 17))), (qS 2 (.mv (.tmp 18)))]) (.seq (.ops [(qS 20 (.load 2 true (.tmp 5))), (qS 21 (.mv (.tmp 2))), (qS 22 (.mv (.tmp 3))), (qS 23 (.mv (.tmp 4))), (qS 24 (.call (2 * f_sort_order2_func + 1) [(.tmp 20), (.tmp 21), (.tmp 22), (.tmp 23)])), (qS 19 (.mv (.tmp 24))), (qS 25 (.extract 0 (.tmp 19))), (qS 26 (.extract 1 (.tmp 19))), (qS 2 (.mv (.tmp 25))), (qS 3 (.mv (.tmp 26)))]) (.seq (.ops [(qS 28 (.load 2 true (.tmp 5))), (qS 29 (.mv (.tmp 1))), (qS 30 (.mv (.tmp 2))), (qS 31 (.mv (.tmp 4))), (qS 32 (.call (2 * f_sort_order2_func + 1) [(.tmp 28), (.tmp 29), (.tmp 30), (.tmp 31)])), (qS 27 (.mv (.tmp 32))), (qS 33 (.extract 0 (.tmp 27))), (qS 34 (.extract 1 (.tmp 27))), (qS 1 (.mv (.tmp 33))), (qS 2 (.mv (.tmp 34)))]) (.seq (.ops [(qS 35 (.mv (.tmp 2))), (qS 10 (.mv (.tmp 35)))]) .ret))))), [(.tmp 10)]⟩

theorem W_median {L : LS env α} {fO : Nat} {H : Heap} {A : Array α} {C : Nat} (ko : ∀ {H : Heap}, L.Lh H A → ∀ a b s : Nat, a < L.sz → b < L.sz → H[C]? = some (.cells [nV s]) → s < 100 →
      CP L (2 * fO + 1) [.agg [L.less, L.swap], nV a, nV b, .ptr C 1 0] C (order2 L.lt A a b s).2.2 H A (.tup [nV (order2 L.lt A a b s).1, nV (order2 L.lt A a b s).2.1]))
    (hL : L.Lh H A) (a b c s : Nat) (ha : a < L.sz) (hb : b < L.sz) (hc : c < L.sz) (hn : L.n ≤ C) (hC : H[C]? = some (.cells [nV s])) (hs : s < 50) :
    R P env (c_sort_median_func fO) [.agg [L.less, L.swap], nV a, nV b, nV c, .ptr C 1 0] H (PostP L C (median L.lt A a b c s).2 H A (nV (median L.lt A a b c s).1)) := by
  have big := L.big
  refine R_of (by simp [c_sort_median_func]) ?_
  unfold c_sort_median_func
  have f0 := FrP.start hL hn hC
  obtain ⟨S, hS⟩ : ∃ S, S = median L.lt A a b c s := ⟨_, rfl⟩
  rw [← hS]
  unfold median at hS
  simp only [] at hS
  obtain ⟨a1, a2, a3⟩ := order2_lt (lt := L.lt) (A := A) (s := s) ha hb
  obtain ⟨h1, c1, l1, k1, d1⟩ := ko f0.lh a b s ha hb f0.cell (by omega)
  have f1 := f0.next l1 k1 d1
  generalize order2 L.lt A a b s = r1 at *
  obtain ⟨b1, b2, b3⟩ := order2_lt (lt := L.lt) (A := A) (s := r1.2.2) a2 hc
  obtain ⟨h2, c2, l2, k2, d2⟩ := ko f1.lh r1.2.1 c r1.2.2 a2 hc f1.cell (by omega)
  have f2 := f1.next l2 k2 d2
  generalize order2 L.lt A r1.2.1 c r1.2.2 = r2 at *
  obtain ⟨h3, c3, l3, k3, d3⟩ := ko f2.lh r1.1 r2.1 r2.2.2 a1 b1 f2.cell (by omega)
  have f3 := f2.next l3 k3 d3
  generalize order2 L.lt A r1.1 r2.1 r2.2.2 = r3 at *
  subst hS
  have q0 := f0.ldB
  have q1 := f1.ldB
  have q2 := f2.ldB
  simp (maxSteps := 2000000) (disch := omega) only [gw, Nat.reduceAdd, Nat.reduceMul, L.oneL, L.oneS, q0, c1, q1, c2, q2, c3]
  exact ⟨rfl, f3.lh, f3.keep, f3.cell⟩

def c_sort_medianAdjacent_func (f_sort_median_func : Nat) : AFn := ⟨15, (.seq (.ops [(qS 3 (.box (.tmp 0))), (qS 6 (.mv (ic 0)))]) (.seq (.ops [(qS 7 (.load 2 true (.tmp 3))), (qS 8 (.mv (.tmp 1))), (qS 9 (.pu (.n (.ar .sub)) [(.tmp 8), (ic 1)])), (qS 10 (.mv (.tmp 1))), (qS 11 (.mv (.tmp 1))), (qS 12 (.pu (.n (.ar .add)) [(.tmp 11), (ic 1)])), (qS 13 (.mv (.tmp 2))), (qS 14 (.call (2 * f_sort_median_func + 1) [(.tmp 7), (.tmp 9), (.tmp 10), (.tmp 12), (.tmp 13)])), (qS 6 (.mv (.tmp 14)))]) .ret)), [(.tmp 6)]⟩

theorem W_medianAdjacent {L : LS env α} {fM : Nat} {H : Heap} {A : Array α} {C : Nat} (km : ∀ {H : Heap}, L.Lh H A → ∀ a b c s : Nat, a < L.sz → b < L.sz → c < L.sz → H[C]? = some (.cells [nV s]) → s < 50 →
      CP L (2 * fM + 1) [.agg [L.less, L.swap], nV a, nV b, nV c, .ptr C 1 0] C (median L.lt A a b c s).2 H A (nV (median L.lt A a b c s).1))
    (hL : L.Lh H A) (a s : Nat) (ha : a + 1 < L.sz) (h1 : 1 ≤ a) (hn : L.n ≤ C) (hC : H[C]? = some (.cells [nV s])) (hs : s < 50) :
    R P env (c_sort_medianAdjacent_func fM) [.agg [L.less, L.swap], nV a, .ptr C 1 0] H (PostP L C (medianAdjacent L.lt A a s).2 H A (nV (medianAdjacent L.lt A a s).1)) := by
  have big := L.big
  refine R_of (by simp [c_sort_medianAdjacent_func]) ?_
  unfold c_sort_medianAdjacent_func
  have f0 := FrP.start hL hn hC
  unfold medianAdjacent
  obtain ⟨h1, c1, l1, k1, d1⟩ := km f0.lh (a - 1) a (a + 1) s (by omega) (by omega) (by omega) f0.cell (by omega)
  have f1 := f0.next l1 k1 d1
  have q0 := f0.ldB
  simp (maxSteps := 2000000) (disch := omega) only [gw, Nat.reduceAdd, Nat.reduceMul, L.oneL, L.oneS, q0, c1]
  exact ⟨rfl, f1.lh, f1.keep, f1.cell⟩
end Go.AM

set_option linter.unusedVariables false
set_option linter.unusedSimpArgs false
set_option maxRecDepth 20000
namespace Go.AM
open Go.Sort
variable {P : Program} {env : Env} {α : Type} [Inhabited α]

def hintN : Hint → Nat
  | .unknown => 0
  | .increasing => 1
  | .decreasing => 2

/-- A walk's heap: the two functions, and a cell of its own. -/
structure FrC (L : LS env α) (H : Heap) (B C : Nat) (h : Heap) (A : Array α) (s : Nat) : Prop where
  lh : L.Lh h A
  keep : KeepS L.n H h
  box : h[B]? = some (.cells [L.less, L.swap])
  cell : h[C]? = some (.cells [nV s])
  low : L.n ≤ B
  lowC : L.n ≤ C
  new : H.length ≤ C
  ne : B ≠ C

theorem FrC.start {L : LS env α} {H : Heap} {A : Array α} (hL : L.Lh H A) (s : Nat) : FrC L H H.length (H.length + 1) (H ++ [.cells [L.less, L.swap], .cells [nV s]]) A s where
  lh := L.same hL (by simp) (fun b hb => List.getElem?_append_left (Nat.lt_of_lt_of_le hb (L.low hL)))
  keep := KeepS.app _ _ _
  box := by simp
  cell := by rw [List.getElem?_append_right (by omega)]; simp
  low := L.low hL
  lowC := Nat.le_succ_of_le (L.low hL)
  new := Nat.le_succ _
  ne := by omega
theorem FrC.lt {L : LS env α} {H h : Heap} {B C s : Nat} {A : Array α} (f : FrC L H B C h A s) : B < h.length := (List.getElem?_eq_some_iff.1 f.box).1
theorem FrC.next {L : LS env α} {H h h' : Heap} {B C s s' : Nat} {A : Array α} (f : FrC L H B C h A s) (l : L.Lh h' A) (k : KeepP L.n C h h') (c : h'[C]? = some (.cells [nV s'])) : FrC L H B C h' A s' where
  lh := l
  keep := ⟨Nat.le_trans f.keep.le k.le, fun b h1 h2 => (k.at_ b h1 (Nat.lt_of_lt_of_le h2 f.keep.le) (by have := f.new; omega)).trans (f.keep.at_ b h1 h2)⟩
  box := (k.at_ B f.low f.lt f.ne).trans f.box
  cell := c
  low := f.low
  lowC := f.lowC
  new := f.new
  ne := f.ne
theorem FrC.ldB {L : LS env α} {H h : Heap} {B C s : Nat} {A : Array α} (f : FrC L H B C h A s) : stepLoad 2 true h (.ptr B 2 0) = some (.agg [L.less, L.swap]) := by
  have : getCells h B 2 = some [L.less, L.swap] := by unfold getCells; rw [f.box]; simp
  simp [stepLoad, this, rowV]

theorem nI_mul1 {a : Nat} : (a : Int) * 1 = ((a * 1 : Nat) : Int) := by omega
theorem nI_mul2 {a : Nat} : (a : Int) * 2 = ((a * 2 : Nat) : Int) := by omega
theorem nI_mul3 {a : Nat} : (a : Int) * 3 = ((a * 3 : Nat) : Int) := by omega

def c_sort_choosePivot_func (f_sort_medianAdjacent_func : Nat) (f_sort_median_func : Nat) : AFn := ⟨57, (.seq (.ops [(qS 3 (.box (.tmp 0))), (qS 6 (.mv (ic 0))), (qS 7 (.mv (ic 0)))]) (.seq (.ops [(qS 13 (.mv (.tmp 2))), (qS 14 (.mv (.tmp 1))), (qS 15 (.pu (.n (.ar .sub)) [(.tmp 13), (.tmp 14)])), (qS 8 (.mv (.tmp 15)))]) (.seq (.ops [(qS 9 (.allocV [(0, false)] [(.int .i64 0)]))]) (.seq (.ops [(qS 16 (.mv (.tmp 1))), (qS 17 (.mv (.tmp 8))), (qS 18 (.pu (.n (.ar .quo)) [(.tmp 17), (ic 4)])), (qS 19 (.pu (.n (.ar .mul)) [(.tmp 18), (ic 1)])), (qS 20 (.pu (.n (.ar .add)) [(.tmp 16), (.tmp 19)])), (qS 10 (.mv (.tmp 20)))]) (.seq (.ops [(qS 21 (.mv (.tmp 1))), (qS 22 (.mv (.tmp 8))), (qS 23 (.pu (.n (.ar .quo)) [(.tmp 22), (ic 4)])), (qS 24 (.pu (.n (.ar .mul)) [(.tmp 23), (ic 2)])), (qS 25 (.pu (.n (.ar .add)) [(.tmp 21), (.tmp 24)])), (qS 11 (.mv (.tmp 25)))]) (.seq (.ops [(qS 26 (.mv (.tmp 1))), (qS 27 (.mv (.tmp 8))), (qS 28 (.pu (.n (.ar .quo)) [(.tmp 27), (ic 4)])), (qS 29 (.pu (.n (.ar .mul)) [(.tmp 28), (ic 3)])), (qS 30 (.pu (.n (.ar .add)) [(.tmp 26), (.tmp 29)])), (qS 12 (.mv (.tmp 30)))]) (.seq (.seq (.ops [(qS 31 (.mv (.tmp 8))), (qS 32 (.pu (.n (.ar .geq)) [(.tmp 31), (ic 8)]))]) (.cond (.tmp 32) (.seq (.seq (.ops [(qS 33 (.mv (.tmp 8))), (qS 34 (.pu (.n (.ar .geq)) [(.tmp 33), (ic 50)]))]) (.cond (.tmp 34) (.seq (.ops [(qS 35 (.load 2 true (.tmp 3))), (qS 36 (.mv (.tmp 10))), (qS 37 (.call (2 * f_sort_medianAdjacent_func + 1) [(.tmp 35), (.tmp 36), (.tmp 9)])), (qS 10 (.mv (.tmp 37)))]) (.seq (.ops [(qS 38 (.load 2 true (.tmp 3))), (qS 39 (.mv (.tmp 11))), (qS 40 (.call (2 * f_sort_medianAdjacent_func + 1) [(.tmp 38), (.tmp 39), (.tmp 9)])), (qS 11 (.mv (.tmp 40)))]) (.ops [(qS 41 (.load 2 true (.tmp 3))), (qS 42 (.mv (.tmp 12))), (qS 43 (.call (2 * f_sort_medianAdjacent_func + 1) [(.tmp 41), (.tmp 42), (.tmp 9)])), (qS 12 (.mv (.tmp 43)))]))) .skip)) (.ops [(qS 44 (.load 2 true (.tmp 3))), (qS 45 (.mv (.tmp 10))), (qS 46 (.mv (.tmp 11))), (qS 47 (.mv (.tmp 12))), (qS 48 (.call (2 * f_sort_median_func + 1) [(.tmp 44), (.tmp 45), (.tmp 46), (.tmp 47), (.tmp 9)])), (qS 11 (.mv (.tmp 48)))])) .skip)) (.seq (.ops [(qS 49 (.load 1 false (.tmp 9)))]) (.block 0 (.seq (.ops [(qS 52 (.pu (.n (.ar .eql)) [(.tmp 49), (ic 0)])), (qS 51 (.mv (.tmp 52)))]) (.cond (.tmp 51) (.seq (.ops [(qS 53 (.mv (.tmp 11))), (qS 6 (.mv (.tmp 53))), (qS 7 (.mv (ic 1)))]) .ret) (.seq (.ops [(qS 55 (.pu (.n (.ar .eql)) [(.tmp 49), (ic 12)])), (qS 54 (.mv (.tmp 55)))]) (.cond (.tmp 54) (.seq (.ops [(qS 56 (.mv (.tmp 11))), (qS 6 (.mv (.tmp 56))), (qS 7 (.mv (ic 2)))]) .ret) (.seq (.ops [(qS 50 (.mv (.tmp 11))), (qS 6 (.mv (.tmp 50))), (qS 7 (.mv (ic 0)))]) .ret)))))))))))))), [(.tmp 6), (.tmp 7)]⟩

theorem W_choosePivot {L : LS env α} {fA fM : Nat}
    (ka : ∀ {H : Heap} {A : Array α}, L.Lh H A → ∀ a s C : Nat, a + 1 < L.sz → 1 ≤ a → L.n ≤ C → H[C]? = some (.cells [nV s]) → s < 50 → CP L (2 * fA + 1) [.agg [L.less, L.swap], nV a, .ptr C 1 0] C (medianAdjacent L.lt A a s).2 H A (nV (medianAdjacent L.lt A a s).1))
    (km : ∀ {H : Heap} {A : Array α}, L.Lh H A → ∀ a b c s C : Nat, a < L.sz → b < L.sz → c < L.sz → L.n ≤ C → H[C]? = some (.cells [nV s]) → s < 50 → CP L (2 * fM + 1) [.agg [L.less, L.swap], nV a, nV b, nV c, .ptr C 1 0] C (median L.lt A a b c s).2 H A (nV (median L.lt A a b c s).1))
    {H : Heap} {A : Array α} (hL : L.Lh H A) (a b : Nat) (hab : a < b) (hb : b ≤ L.sz) :
    R P env (c_sort_choosePivot_func fA fM) [.agg [L.less, L.swap], nV a, nV b] H (PostS L H A (.tup [nV (choosePivot L.lt A a b).1, nV (hintN (choosePivot L.lt A a b).2)])) := by
  have big := L.big
  refine R_of (by simp [c_sort_choosePivot_func]) ?_
  unfold c_sort_choosePivot_func
  have f0 : FrC L H H.length (H.length + 1) (H ++ [.cells [L.less, L.swap], .cells [.i (.s (.int .i64 0))]]) A 0 := FrC.start hL 0
  have q0 := f0.ldB
  obtain ⟨S, hS⟩ : ∃ S, S = choosePivot L.lt A a b := ⟨_, rfl⟩
  rw [← hS]
  unfold choosePivot at hS
  simp only [Nat.mul_one] at hS
  obtain ⟨l, hl⟩ : ∃ l, l = b - a := ⟨_, rfl⟩
  rw [← hl] at hS
  obtain ⟨q, hq⟩ : ∃ q, q = l / 4 := ⟨_, rfl⟩
  rw [← hq] at hS
  by_cases e8 : l ≥ 8
  · rw [if_pos e8] at hS
    have e8' : (8 : Int) ≤ (l : Int) := by omega
    by_cases e5 : l ≥ 50
    · rw [if_pos e5] at hS
      have e5' : (50 : Int) ≤ (l : Int) := by omega
      have mi := median_lt (lt := L.lt) (A := A) (s := 0) (n := L.sz) (a := a + q - 1) (b := a + q) (c := a + q + 1) (by omega) (by omega) (by omega)
      have e1 : medianAdjacent L.lt A (a + q) 0 = median L.lt A (a + q - 1) (a + q) (a + q + 1) 0 := rfl
      rw [← e1] at mi
      obtain ⟨h1, c1, l1, k1, d1⟩ := ka f0.lh (a + q) 0 _ (by omega) (by omega) f0.lowC f0.cell (by omega)
      have f1 := f0.next l1 k1 d1
      clear e1
      generalize medianAdjacent L.lt A (a + q) 0 = r1 at *
      have mj := median_lt (lt := L.lt) (A := A) (s := r1.2) (n := L.sz) (a := a + q * 2 - 1) (b := a + q * 2) (c := a + q * 2 + 1) (by omega) (by omega) (by omega)
      have e1 : medianAdjacent L.lt A (a + q * 2) r1.2 = median L.lt A (a + q * 2 - 1) (a + q * 2) (a + q * 2 + 1) r1.2 := rfl
      rw [← e1] at mj
      obtain ⟨h2, c2, l2, k2, d2⟩ := ka f1.lh (a + q * 2) r1.2 _ (by omega) (by omega) f1.lowC f1.cell (by omega)
      have f2 := f1.next l2 k2 d2
      clear e1
      generalize medianAdjacent L.lt A (a + q * 2) r1.2 = r2 at *
      have mk := median_lt (lt := L.lt) (A := A) (s := r2.2) (n := L.sz) (a := a + q * 3 - 1) (b := a + q * 3) (c := a + q * 3 + 1) (by omega) (by omega) (by omega)
      have e1 : medianAdjacent L.lt A (a + q * 3) r2.2 = median L.lt A (a + q * 3 - 1) (a + q * 3) (a + q * 3 + 1) r2.2 := rfl
      rw [← e1] at mk
      obtain ⟨h3, c3, l3, k3, d3⟩ := ka f2.lh (a + q * 3) r2.2 _ (by omega) (by omega) f2.lowC f2.cell (by omega)
      have f3 := f2.next l3 k3 d3
      clear e1
      generalize medianAdjacent L.lt A (a + q * 3) r2.2 = r3 at *
      have mr := median_lt (lt := L.lt) (A := A) (s := r3.2) (n := L.sz) mi.1 mj.1 mk.1
      obtain ⟨h4, c4, l4, k4, d4⟩ := km f3.lh r1.1 r2.1 r3.1 r3.2 _ mi.1 mj.1 mk.1 f3.lowC f3.cell (by omega)
      have f4 := f3.next l4 k4 d4
      generalize median L.lt A r1.1 r2.1 r3.1 r3.2 = r at *
      have q1 := f1.ldB
      have q2 := f2.ldB
      have q3 := f3.ldB
      have ld := ldN f4.cell
      by_cases z0 : r.2 = 0
      · rw [if_pos z0] at hS
        have z0' : (r.2 : Int) = 0 := by omega
        subst hS
        simp (maxSteps := 2000000) (disch := omega) only [gw, Nat.reduceAdd, Nat.reduceMul, L.oneL, L.oneS, ← hl, nI_div4, nI_mul1, nI_mul2, nI_mul3, ← hq, e8', e5', q0, c1, q1, c2, q2, c3, q3, c4, ld, z0']
        exact ⟨rfl, f4.lh, f4.keep⟩
      · rw [if_neg z0] at hS
        have z0' : ¬ (r.2 : Int) = 0 := by omega
        by_cases z2 : r.2 = 12
        · rw [if_pos z2] at hS
          have z2' : (r.2 : Int) = 12 := by omega
          have z3' : ¬ (12 : Int) = 0 := by omega
          subst hS
          simp (maxSteps := 2000000) (disch := omega) only [gw, Nat.reduceAdd, Nat.reduceMul, L.oneL, L.oneS, ← hl, nI_div4, nI_mul1, nI_mul2, nI_mul3, ← hq, e8', e5', q0, c1, q1, c2, q2, c3, q3, c4, ld, z2', z3']
          exact ⟨rfl, f4.lh, f4.keep⟩
        · rw [if_neg z2] at hS
          have z2' : ¬ (r.2 : Int) = 12 := by omega
          subst hS
          simp (maxSteps := 2000000) (disch := omega) only [gw, Nat.reduceAdd, Nat.reduceMul, L.oneL, L.oneS, ← hl, nI_div4, nI_mul1, nI_mul2, nI_mul3, ← hq, e8', e5', q0, c1, q1, c2, q2, c3, q3, c4, ld, z0', z2']
          exact ⟨rfl, f4.lh, f4.keep⟩
    · rw [if_neg e5] at hS
      have e5' : ¬ (50 : Int) ≤ (l : Int) := by omega
      have mr := median_lt (lt := L.lt) (A := A) (s := 0) (n := L.sz) (a := a + q) (b := a + q * 2) (c := a + q * 3) (by omega) (by omega) (by omega)
      obtain ⟨h4, c4, l4, k4, d4⟩ := km f0.lh (a + q) (a + q * 2) (a + q * 3) 0 _ (by omega) (by omega) (by omega) f0.lowC f0.cell (by omega)
      have f4 := f0.next l4 k4 d4
      generalize median L.lt A (a + q) (a + q * 2) (a + q * 3) 0 = r at *
      have ld := ldN f4.cell
      by_cases z0 : r.2 = 0
      · rw [if_pos z0] at hS
        have z0' : (r.2 : Int) = 0 := by omega
        subst hS
        simp (maxSteps := 2000000) (disch := omega) only [gw, Nat.reduceAdd, Nat.reduceMul, L.oneL, L.oneS, ← hl, nI_div4, nI_mul1, nI_mul2, nI_mul3, ← hq, e8', e5', q0, c4, ld, z0']
        exact ⟨rfl, f4.lh, f4.keep⟩
      · rw [if_neg z0] at hS
        have z0' : ¬ (r.2 : Int) = 0 := by omega
        by_cases z2 : r.2 = 12
        · exfalso; omega
        · rw [if_neg z2] at hS
          have z2' : ¬ (r.2 : Int) = 12 := by omega
          subst hS
          simp (maxSteps := 2000000) (disch := omega) only [gw, Nat.reduceAdd, Nat.reduceMul, L.oneL, L.oneS, ← hl, nI_div4, nI_mul1, nI_mul2, nI_mul3, ← hq, e8', e5', q0, c4, ld, z0', z2']
          exact ⟨rfl, f4.lh, f4.keep⟩
  · rw [if_neg e8] at hS
    have e8' : ¬ (8 : Int) ≤ (l : Int) := by omega
    simp (maxSteps := 2000000) (disch := omega) only [gw, Nat.reduceAdd, Nat.reduceMul, L.oneL, L.oneS, ← hl, nI_div4, nI_mul1, nI_mul2, nI_mul3, ← hq, e8']
    subst hS
    exact ⟨rfl, f0.lh, f0.keep⟩
end Go.AM

set_option linter.unusedVariables false
set_option linter.unusedSimpArgs false
set_option maxRecDepth 20000
namespace Go.AM
open Go.Sort
open Go.Proofs (breakPatterns_eq bpRest bp_step)
variable {P : Program} {env : Env} {α : Type} [Inhabited α]

theorem ofI64 {a : Nat} (ha : a < 18446744073709551616) : (BitVec.ofInt 64 (a : Int)).toNat = a := by
  rw [BitVec.ofInt_natCast, BitVec.toNat_ofNat]
  exact Nat.mod_eq_of_lt ha
theorem wrapU {a : Nat} (ha : a < 18446744073709551616) : IntKind.u64.wrap (a : Int) = (a : Int) := by
  simp [IntKind.wrap, IntKind.bits, IntKind.signed]
  omega
theorem wrapU2 {a : Int} (h0 : 0 ≤ a) (h1 : a < 18446744073709551616) : IntKind.u64.wrap a = a := by
  simp [IntKind.wrap, IntKind.bits, IntKind.signed]
  omega
theorem andI_nat {a b : Nat} (ha : a < 18446744073709551616) (hb : b < 18446744073709551616) : andI .u64 (a : Int) (b : Int) = ((a &&& b : Nat) : Int) := by
  have h : a &&& b < 2 ^ 64 := Nat.and_lt_two_pow _ (by omega)
  show IntKind.u64.wrap ((BitVec.ofInt 64 (a : Int) &&& BitVec.ofInt 64 (b : Int)).toNat : Int) = _
  rw [BitVec.toNat_and, ofI64 ha, ofI64 hb, wrapU (by omega)]
theorem xorI_nat {a b : Nat} (ha : a < 18446744073709551616) (hb : b < 18446744073709551616) : xorI .u64 (a : Int) (b : Int) = ((a ^^^ b : Nat) : Int) := by
  have h : a ^^^ b < 2 ^ 64 := Nat.xor_lt_two_pow (by omega) (by omega)
  show IntKind.u64.wrap ((BitVec.ofInt 64 (a : Int) ^^^ BitVec.ofInt 64 (b : Int)).toNat : Int) = _
  rw [BitVec.toNat_xor, ofI64 ha, ofI64 hb, wrapU (by omega)]
theorem shlX13 {a : Nat} : shl? .u64 (a : Int) 13 = some (((a * 8192 % 18446744073709551616 : Nat) : Int)) := by
  simp [shl?, IntKind.wrap, IntKind.bits, IntKind.signed]
theorem shlX17 {a : Nat} : shl? .u64 (a : Int) 17 = some (((a * 131072 % 18446744073709551616 : Nat) : Int)) := by
  simp [shl?, IntKind.wrap, IntKind.bits, IntKind.signed]
theorem shrX7 {a : Nat} (ha : a < 18446744073709551616) : shr? .u64 (a : Int) 7 = some (((a / 128 : Nat) : Int)) := by
  simp [shr?, IntKind.wrap, IntKind.bits, IntKind.signed]
  exact Int.fdiv_eq_ediv_of_nonneg _ (by decide)
abbrev uV (n : Nat) : V := .i (.s (.int .u64 (n : Int)))

def c_sort_xorshift_Next : AFn := ⟨33, (.seq (.ops [(qS 2 (.mv (.const (.int .u64 0))))]) (.seq (.ops [(qS 3 (.mv (.tmp 0))), (qS 4 (.nilChk (.tmp 3))), (qS 5 (.load 1 false (.tmp 4))), (qS 6 (.mv (.tmp 0))), (qS 7 (.nilChk (.tmp 6))), (qS 8 (.load 1 false (.tmp 7))), (qS 9 (.pu (.n (.ar .shl)) [(.tmp 8), (.const (.int .u64 13))])), (qS 10 (.pu (.n (.ar .xor)) [(.tmp 5), (.tmp 9)])), (qS 11 (.nilChk (.tmp 3))), ⟨.none, (.store 1 (.tmp 11) (.tmp 10)), .none, [], .none⟩]) (.seq (.ops [(qS 12 (.mv (.tmp 0))), (qS 13 (.nilChk (.tmp 12))), (qS 14 (.load 1 false (.tmp 13))), (qS 15 (.mv (.tmp 0))), (qS 16 (.nilChk (.tmp 15))), (qS 17 (.load 1 false (.tmp 16))), (qS 18 (.pu (.n (.ar .shr)) [(.tmp 17), (.const (.int .u64 7))])), (qS 19 (.pu (.n (.ar .xor)) [(.tmp 14), (.tmp 18)])), (qS 20 (.nilChk (.tmp 12))), ⟨.none, (.store 1 (.tmp 20) (.tmp 19)), .none, [], .none⟩]) (.seq (.ops [(qS 21 (.mv (.tmp 0))), (qS 22 (.nilChk (.tmp 21))), (qS 23 (.load 1 false (.tmp 22))), (qS 24 (.mv (.tmp 0))), (qS 25 (.nilChk (.tmp 24))), (qS 26 (.load 1 false (.tmp 25))), (qS 27 (.pu (.n (.ar .shl)) [(.tmp 26), (.const (.int .u64 17))])), (qS 28 (.pu (.n (.ar .xor)) [(.tmp 23), (.tmp 27)])), (qS 29 (.nilChk (.tmp 21))), ⟨.none, (.store 1 (.tmp 29) (.tmp 28)), .none, [], .none⟩]) (.seq (.ops [(qS 30 (.mv (.tmp 0))), (qS 31 (.nilChk (.tmp 30))), (qS 32 (.load 1 false (.tmp 31))), (qS 2 (.mv (.tmp 32)))]) .ret))))), [(.tmp 2)]⟩

theorem W_Next {H : Heap} {C X : Nat} (hX : X < 18446744073709551616) (hC : H[C]? = some (.cells [uV X])) :
    R P env c_sort_xorshift_Next [.ptr C 1 0] H (fun v h' => v = uV (xorNextN X) ∧ h' = H.set C (.cells [uV (xorNextN X)])) := by
  refine R_of (by simp [c_sort_xorshift_Next]) ?_
  unfold c_sort_xorshift_Next
  have hlt : C < H.length := (List.getElem?_eq_some_iff.1 hC).1
  obtain ⟨a, hA⟩ : ∃ a : Nat, a = X ^^^ (X * 8192 % 18446744073709551616) := ⟨_, rfl⟩
  obtain ⟨b, hB⟩ : ∃ b : Nat, b = a ^^^ (a / 128) := ⟨_, rfl⟩
  obtain ⟨c, hc⟩ : ∃ c : Nat, c = b ^^^ (b * 131072 % 18446744073709551616) := ⟨_, rfl⟩
  have lA : a < 18446744073709551616 := by rw [hA]; exact Nat.xor_lt_two_pow (n := 64) (by omega) (by omega)
  have lB : b < 18446744073709551616 := by rw [hB]; exact Nat.xor_lt_two_pow (n := 64) (by omega) (by omega)
  have hv : xorNextN X = c := by unfold xorNextN; simp only []; rw [← hA, ← hB, ← hc]
  rw [hv]
  have x1 := xorI_nat (a := X) (b := X * 8192 % 18446744073709551616) hX (by omega)
  have x2 := xorI_nat (a := a) (b := a / 128) lA (by omega)
  have x3 := xorI_nat (a := b) (b := b * 131072 % 18446744073709551616) lB (by omega)
  rw [← hA] at x1
  rw [← hB] at x2
  rw [← hc] at x3
  have s7 := shrX7 lA
  have ld0 := ldN hC
  have e : ∀ x : V, (H.set C (.cells [x]))[C]? = some (.cells [x]) := fun x => List.getElem?_set_self hlt
  have ld : ∀ x : V, stepLoad 1 false (H.set C (.cells [x])) (.ptr C 1 0) = some x := fun x => ldN (e x)
  have st0 : ∀ y : V, y.one = true → stepStoreC 1 H [y] (.ptr C 1 0) = _ := fun y hy => stN hy hC
  have st : ∀ x y : V, y.one = true → stepStoreC 1 (H.set C (.cells [x])) [y] (.ptr C 1 0) = some (H.set C (.cells [y])) := fun x y hy => by
    rw [stN hy (e x), List.set_set]
  have st0' : ∀ n : Nat, stepStore 1 H (uV n) (.ptr C 1 0) = some (H.set C (.cells [uV n])) := fun n => st0 _ rfl
  have st' : ∀ (x : V) (n : Nat), stepStore 1 (H.set C (.cells [x])) (uV n) (.ptr C 1 0) = some (H.set C (.cells [uV n])) := fun x n => st x _ rfl
  simp (maxSteps := 2000000) (disch := omega) only [gw, Nat.reduceAdd, Nat.reduceMul, ld0, ld, st0', st', shlX13, shlX17, s7, x1, x2, x3]

/-- A walk's heap: the two functions, and a cell with a random number. -/
structure FrU (L : LS env α) (H : Heap) (B C : Nat) (h : Heap) (A : Array α) (R : Nat) : Prop where
  lh : L.Lh h A
  keep : KeepS L.n H h
  box : h[B]? = some (.cells [L.less, L.swap])
  cell : h[C]? = some (.cells [uV R])
  low : L.n ≤ B
  lowC : L.n ≤ C
  new : H.length ≤ C
  ne : B ≠ C

theorem FrU.start {L : LS env α} {H : Heap} {A : Array α} (hL : L.Lh H A) (R : Nat) : FrU L H H.length (H.length + 1) (H ++ [.cells [L.less, L.swap], .cells [uV R]]) A R where
  lh := L.same hL (by simp) (fun b hb => List.getElem?_append_left (Nat.lt_of_lt_of_le hb (L.low hL)))
  keep := KeepS.app _ _ _
  box := by simp
  cell := by rw [List.getElem?_append_right (by omega)]; simp
  low := L.low hL
  lowC := Nat.le_succ_of_le (L.low hL)
  new := Nat.le_succ _
  ne := by omega
theorem FrU.set {L : LS env α} {H h : Heap} {B C R : Nat} {A : Array α} (f : FrU L H B C h A R) (R' : Nat) : FrU L H B C (h.set C (.cells [uV R'])) A R' where
  lh := L.same f.lh (by simp) (fun x hx => List.getElem?_set_ne (by have := f.lowC; omega))
  keep := f.keep.set _ _ f.new
  box := by rw [List.getElem?_set_ne (fun e => f.ne e.symm)]; exact f.box
  cell := List.getElem?_set_self (List.getElem?_eq_some_iff.1 f.cell).1
  low := f.low
  lowC := f.lowC
  new := f.new
  ne := f.ne
theorem FrU.swapN {L : LS env α} {H h : Heap} {B C R : Nat} {A : Array α} (f : FrU L H B C h A R) (i j : Nat) (hi : i < L.sz) (hj : j < L.sz) : ∃ h', dynV env L.swap [.i (.s (.int .i64 (i : Int))), .i (.s (.int .i64 (j : Int)))] h = some (.tup [], h') ∧ FrU L H B C h' (swp A i j) R := by
  obtain ⟨h', h1, h2, h3⟩ := L.swapW f.lh i j hi hj
  exact ⟨h', h1, h2, f.keep.trans h3, (h3.at_ B f.low (List.getElem?_eq_some_iff.1 f.box).1).trans f.box, (h3.at_ C f.lowC (List.getElem?_eq_some_iff.1 f.cell).1).trans f.cell, f.low, f.lowC, f.new, f.ne⟩
theorem FrU.ldS {L : LS env α} {H h : Heap} {B C R : Nat} {A : Array α} (f : FrU L H B C h A R) : stepLoad 1 false h (.ptr B 2 1) = some L.swap := by
  have : getCells h B 2 = some [L.less, L.swap] := by unfold getCells; rw [f.box]; simp
  simp [stepLoad, this, rowV]

def c_sort_breakPatterns_func (f_sort_nextPowerOfTwo : Nat) (f_sort_xorshift_Next : Nat) : AFn := ⟨54, (.seq (.ops [(qS 3 (.box (.tmp 0)))]) (.seq (.ops [(qS 11 (.mv (.tmp 2))), (qS 12 (.mv (.tmp 1))), (qS 13 (.pu (.n (.ar .sub)) [(.tmp 11), (.tmp 12)])), (qS 6 (.mv (.tmp 13)))]) (.seq (.ops [(qS 14 (.mv (.tmp 6))), (qS 15 (.pu (.n (.ar .geq)) [(.tmp 14), (ic 8)]))]) (.cond (.tmp 15) (.seq (.ops [(qS 16 (.mv (.tmp 6))), (qS 17 (.pu (.n (.conv .u64)) [(.tmp 16)])), (qS 7 (.allocV [(0, false)] [(.int .u64 0)])), ⟨.none, (.storeV [(0, false)] 1 (.tmp 7) (.tmp 17)), .none, [], .none⟩]) (.seq (.ops [(qS 18 (.mv (.tmp 6))), (qS 19 (.call (2 * f_sort_nextPowerOfTwo) [(.tmp 18)])), (qS 8 (.mv (.tmp 19)))]) (.seq (.ops [(qS 20 (.mv (.tmp 1))), (qS 21 (.mv (.tmp 6))), (qS 22 (.pu (.n (.ar .quo)) [(.tmp 21), (ic 4)])), (qS 23 (.pu (.n (.ar .mul)) [(.tmp 22), (ic 2)])), (qS 24 (.pu (.n (.ar .add)) [(.tmp 20), (.tmp 23)])), (qS 25 (.pu (.n (.ar .sub)) [(.tmp 24), (ic 1)])), (qS 9 (.mv (.tmp 25)))]) (.block 0 (.loop (.seq (.seq (.ops [(qS 26 (.mv (.tmp 9))), (qS 27 (.mv (.tmp 1))), (qS 28 (.mv (.tmp 6))), (qS 29 (.pu (.n (.ar .quo)) [(.tmp 28), (ic 4)])), (qS 30 (.pu (.n (.ar .mul)) [(.tmp 29), (ic 2)])), (qS 31 (.pu (.n (.ar .add)) [(.tmp 27), (.tmp 30)])), (qS 32 (.pu (.n (.ar .add)) [(.tmp 31), (ic 1)])), (qS 33 (.pu (.n (.ar .leq)) [(.tmp 26), (.tmp 32)]))]) (.cond (.tmp 33) .skip (.exit 0))) (.seq (.block 1 (.seq (.ops [(qS 36 (.call (2 * f_sort_xorshift_Next + 1) [(.tmp 7)])), (qS 37 (.mv (.tmp 8))), (qS 38 (.pu (.n (.ar .sub)) [(.tmp 37), (.const (.int .u64 1))])), (qS 39 (.pu (.n (.ar .and)) [(.tmp 36), (.tmp 38)])), (qS 40 (.pu (.n (.conv .i64)) [(.tmp 39)])), (qS 10 (.mv (.tmp 40)))]) (.seq (.seq (.ops [(qS 41 (.mv (.tmp 10))), (qS 42 (.mv (.tmp 6))), (qS 43 (.pu (.n (.ar .geq)) [(.tmp 41), (.tmp 42)]))]) (.cond (.tmp 43) (.ops [(qS 44 (.mv (.tmp 10))), (qS 45 (.mv (.tmp 6))), (qS 46 (.pu (.n (.ar .sub)) [(.tmp 44), (.tmp 45)])), (qS 10 (.mv (.tmp 46)))]) .skip)) (.ops [(qS 47 (.fieldA 1 (.tmp 3))), (qS 48 (.load 1 false (.tmp 47))), (qS 49 (.mv (.tmp 9))), (qS 50 (.mv (.tmp 1))), (qS 51 (.mv (.tmp 10))), (qS 52 (.pu (.n (.ar .add)) [(.tmp 50), (.tmp 51)])), (qS 53 (.dyn (.tmp 48) [(.tmp 49), (.tmp 52)]))])))) (.ops [(qS 34 (.mv (.tmp 9))), (qS 35 (.pu (.n (.ar .add)) [(.tmp 34), (ic 1)])), (qS 9 (.mv (.tmp 35)))])))))))) .skip)))), []⟩

theorem W_breakPatterns {L : LS env α} {fN fX : Nat} (kn : ∀ (h : Heap) (l : Nat), l < 4611686018427387904 → env (2 * fN) none [nV l] h = some (uV (1 <<< bitsLen l), h))
    (kx : ∀ (h : Heap) (C X : Nat), X < 18446744073709551616 → h[C]? = some (.cells [uV X]) → env (2 * fX + 1) none [.ptr C 1 0] h = some (uV (xorNextN X), h.set C (.cells [uV (xorNextN X)])))
    {H : Heap} {A : Array α} (hL : L.Lh H A) (a b : Nat) (hab : a ≤ b) (hb : b ≤ L.sz) :
    R P env (c_sort_breakPatterns_func fN fX) [.agg [L.less, L.swap], nV a, nV b] H (PostS L H (breakPatterns A a b) (.tup [])) := by
  have big := L.big
  refine R_of (by simp [c_sort_breakPatterns_func]) ?_
  unfold c_sort_breakPatterns_func
  obtain ⟨l, hl⟩ : ∃ l, l = b - a := ⟨_, rfl⟩
  obtain ⟨S, hS⟩ : ∃ S, S = breakPatterns A a b := ⟨_, rfl⟩
  rw [← hS]
  by_cases h8 : 8 ≤ l
  · have h8' : (8 : Int) ≤ (l : Int) := by omega
    obtain rfl : b = a + l := by omega
    rw [breakPatterns_eq A a l h8] at hS
    obtain ⟨M, hM⟩ : ∃ M : Nat, M = 1 <<< bitsLen l := ⟨_, rfl⟩
    have hM1 : 1 ≤ M := by rw [hM, Nat.one_shiftLeft]; exact Nat.two_pow_pos _
    have hM2 : M ≤ 2 * l := by rw [hM, Nat.one_shiftLeft]; exact two_pow_bitsLen_le (by omega)
    have kn' := fun h => kn h l (by omega)
    rw [← hM] at hS
    simp only [← hM] at kn'
    clear hM kn
    have f0 := FrU.start hL l
    have st0 : stepStoreC 1 (H ++ [.cells [L.less, L.swap], .cells [.i (.s (.int .u64 0))]]) [uV l] (.ptr (H.length + 1) 1 0) = some (H ++ [.cells [L.less, L.swap], .cells [uV l]]) := by
      rw [stN (x := .i (.s (.int .u64 0))) rfl (by rw [List.getElem?_append_right (by omega)]; simp), List.set_append_right _ _ (by omega)]
      simp
    have wl := wrapU (a := l) (by omega)
    have wM := wrapU (a := M - 1) (by omega)
    obtain ⟨q, hq⟩ : ∃ q, q = l / 4 := ⟨_, rfl⟩
    rw [← hq] at hS
    have hRl : (UInt64.ofNat l).toNat = l := by simp; omega
    simp (maxSteps := 2000000) (disch := omega) only [gw, Nat.reduceAdd, Nat.reduceMul, L.oneL, L.oneS, ← hl, h8', wl, st0, kn', nI_div4, nI_mul2, ← hq]
    generalize H ++ [.cells [L.less, L.swap], .cells [uV l]] = h0 at f0 ⊢
    generalize H.length + 1 = C at f0 ⊢
    generalize H.length = B at f0 ⊢
    refine W_loopK (fun n t h => ∃ k r A', n = 3 - k ∧ k ≤ 3 ∧ t 1 = nV a ∧ t 3 = .ptr B 2 0 ∧ t 6 = nV l ∧ t 7 = .ptr C 1 0 ∧ t 8 = uV M ∧ t 9 = nV (a + q * 2 - 1 + k) ∧ FrU L H B C h A' r.toNat ∧ S = bpRest a l M (a + q * 2 - 1) (3 - k) k (r, A')) 3 ⟨0, UInt64.ofNat l, A, rfl, by omega, rfl, rfl, rfl, rfl, rfl, rfl, by rw [hRl]; exact f0, hS⟩ ?_
    clear f0 hS hL st0
    rintro K n t h hn hx ⟨k, r, A', rfl, hk, g1, g3, g6, g7, g8, g9, f, hS⟩
    by_cases hk3 : k < 3
    · have hle : a + q * 2 - 1 + k ≤ a + q * 2 + 1 := by omega
      have hR := xorNext_toNat r
      have lR := xorNextN_lt r.toNat r.toNat_lt
      have kx' := kx h C r.toNat r.toNat_lt f.cell
      have f1 := f.set (xorNextN r.toNat)
      obtain ⟨R', hR'⟩ : ∃ R', R' = xorNextN r.toNat := ⟨_, rfl⟩
      rw [← hR'] at hR lR kx' f1
      obtain ⟨O, hO⟩ : ∃ O, O = R' &&& (M - 1) := ⟨_, rfl⟩
      have lO : O ≤ M - 1 := by rw [hO]; exact Nat.and_le_right
      have eA : andI .u64 (R' : Int) ((M - 1 : Nat) : Int) = (O : Int) := by rw [andI_nat lR (by omega), hO]
      generalize h.set C (.cells [uV R']) = h1 at kx' f1
      by_cases hO2 : l ≤ O
      · rw [bp_step a l M _ k r A' (O - l) hk3 (by rw [hR, ← hO, if_pos hO2])] at hS
        obtain ⟨h2, hs, f2⟩ := f1.swapN (a + q * 2 - 1 + k) (a + (O - l)) (by omega) (by omega)
        rw [← hR] at f2
        simp (maxSteps := 2000000) (disch := omega) only [gw, Nat.reduceAdd, Nat.reduceMul, g1, g3, g6, g7, g8, g9, nI_div4, nI_mul2, ← hq, hle, kx', wM, eA, hO2, f1.ldS, hs]
        exact hn _ _ _ (by omega) ⟨k + 1, _, _, rfl, by omega, g1, g3, g6, g7, g8, rfl, f2, hS⟩
      · rw [bp_step a l M _ k r A' O hk3 (by rw [hR, ← hO, if_neg hO2])] at hS
        obtain ⟨h2, hs, f2⟩ := f1.swapN (a + q * 2 - 1 + k) (a + O) (by omega) (by omega)
        rw [← hR] at f2
        simp (maxSteps := 2000000) (disch := omega) only [gw, Nat.reduceAdd, Nat.reduceMul, g1, g3, g6, g7, g8, g9, nI_div4, nI_mul2, ← hq, hle, kx', wM, eA, hO2, f1.ldS, hs]
        exact hn _ _ _ (by omega) ⟨k + 1, _, _, rfl, by omega, g1, g3, g6, g7, g8, rfl, f2, hS⟩
    · have hle : ¬ a + q * 2 - 1 + k ≤ a + q * 2 + 1 := by omega
      obtain rfl : k = 3 := by omega
      simp (maxSteps := 2000000) (disch := omega) only [gw, Nat.reduceAdd, Nat.reduceMul, g1, g3, g6, g7, g8, g9, nI_div4, nI_mul2, ← hq, hle]
      refine hx _ _ _ (by simp) ?_
      subst hS
      simp (maxSteps := 2000000) (disch := omega) only [gw, Nat.reduceAdd, Nat.reduceMul]
      exact ⟨rfl, f.lh, f.keep⟩
  · have h8' : ¬ (8 : Int) ≤ (l : Int) := by omega
    have f0 := Fr.start hL
    have hv : breakPatterns A a b = A := by unfold breakPatterns; simp only []; rw [← hl, if_neg (by omega)]
    rw [hv] at hS
    subst hS
    simp (maxSteps := 2000000) (disch := omega) only [gw, Nat.reduceAdd, Nat.reduceMul, L.oneL, L.oneS, ← hl, h8']
    exact ⟨rfl, f0.lh, f0.keep⟩
end Go.AM
