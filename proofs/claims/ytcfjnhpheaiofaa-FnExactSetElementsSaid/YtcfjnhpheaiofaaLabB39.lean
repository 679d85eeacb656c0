/- sort.Strings on the abstract machine: a list of texts of the function's own is put in order where it lies. No condition. -/
import Derived.Test.YtcfjnhpheaiofaaLabB37
import Derived.Sort.OwnSorted
set_option linter.unusedVariables false
set_option linter.unusedSimpArgs false
namespace Go.AM
open Go.Sort Go.Proofs

def strsOf : List V → Option (List ByteArray)
  | [] => some []
  | .i (.s (.string s)) :: vs => (strsOf vs).map fun l => s :: l
  | _ => none
noncomputable def sortB (xs : List ByteArray) : List ByteArray := ((xs.map fun s => s.data.toList).mergeSort fun x y => decide (x ≤ y)).map fun l => ⟨l.toArray⟩
noncomputable def sortFn : Fun := fun _ args H => match args with
  | [.hsl b g 0 1 false len] => (getCells H b g).bind fun cs => (strsOf cs).bind fun xs =>
      if len = 0 ∧ g = 0 then some (.tup [], H)
      else if len = g ∧ 0 < len ∧ len < 4611686018427387904 then some (.tup [], H.set b (.cells ((sortB xs).map fun s => .i (.s (.string s))))) else none
  | _ => none

theorem sortB_len {xs : List ByteArray} : (sortB xs).length = xs.length := by
  unfold sortB
  rw [List.length_map, List.length_mergeSort, List.length_map]
theorem strs_len : ∀ {cs : List V} {xs : List ByteArray}, strsOf cs = some xs → xs.length = cs.length
  | [], xs, h => by cases h; rfl
  | c :: cs, xs, h => by
    unfold strsOf at h
    split at h
    · rename_i h1; cases h1
    · rename_i h1
      cases h1
      obtain ⟨l, h2, rfl⟩ := Option.map_eq_some_iff.1 h
      simp [strs_len h2]
    · cases h
theorem strs_rv {w : World} {base : Nat} {M : Nat → Prop} {H : Heap} {G : List Nat} : ∀ {cs : List V} {xs : List ByteArray} {vs : List Value}, strsOf cs = some xs → RVL w base M H G cs vs → vs = xs.map Value.string
  | [], xs, vs, h, hr => by cases h; cases hr; rfl
  | c :: cs, xs, vs, h, hr => by
    unfold strsOf at h
    split at h
    · rename_i h1; cases h1
    · rename_i h1
      cases h1
      obtain ⟨l, h2, rfl⟩ := Option.map_eq_some_iff.1 h
      cases hr with
      | cons a b =>
        rw [strs_rv h2 b]
        cases a with
        | i hi => cases hi; rfl
    · cases h
theorem rv_strs {w : World} {base : Nat} {M : Nat → Prop} {H : Heap} {G : List Nat} : ∀ (xs : List ByteArray), RVL w base M H G (xs.map fun s => .i (.s (.string s))) (xs.map Value.string)
  | [] => .nil
  | x :: xs => .cons (.i (.s rfl)) (rv_strs xs)

theorem rv_hsl {w : World} {base : Nat} {M : Nat → Prop} {H : Heap} {G : List Nat} {b g len : Nat} {x : Value} (h : RV w base M H G (.hsl b g 0 1 false len) x) :
    (∃ a cap, x = .slice (some a) len cap ∧ H[b]? ≠ some .virt ∧ ∀ cs, cellsAt H b g = some cs → HslAt w (G.getD b 0) g 0 1 len cap a) ∨ (x = .slice none 0 0 ∧ len = 0) := by
  cases h with
  | hsl _ hn _ _ hat => exact .inl ⟨_, _, rfl, hn, hat⟩
  | hnil _ _ => exact .inr ⟨rfl, rfl⟩

theorem sortFn_ok {P : Program} {f : FuncId} (hcall : callable P f = true)
    (hS1 : ∀ (blk off cap : Nat) (ss : List (List UInt8)) (w : World), Holds encStr w blk off ss.toArray → blk < w.heap.size → ss.length < 4611686018427387904 → Calls P f #[.slice (some ⟨blk, off, none⟩) ss.length cap] w fun e w' =>
      e = .returned (.tuple #[]) ∧ ∃ n os, w' = grow (putRow encStr (Sort.ahead w n) blk off (ss.mergeSort fun x y => decide (x ≤ y)).toArray) os)
    (hS0 : ∀ (p : Option Addr) (cap : Nat) (w : World), Calls P f #[.slice p 0 cap] w fun e w' => e = .returned (.tuple #[]) ∧ w' = w) : FunOK P f sortFn := by
  intro slot args H v H' hg
  refine ⟨hcall, ?_⟩
  unfold sortFn at hg
  split at hg
  case h_2 => cases hg
  rename_i b g len
  obtain ⟨cs, hcs, hg⟩ := Option.bind_eq_some_iff.1 hg
  obtain ⟨xs, hxs, hg⟩ := Option.bind_eq_some_iff.1 hg
  intro base X w G vs hS hl
  obtain ⟨x, rfl, hx⟩ : ∃ x, vs = #[x] ∧ RV w base (Mof X H G) H G (.hsl b g 0 1 false len) x := by
    generalize hvs : vs.toList = l at hl
    cases hl with
    | cons a r =>
      cases r
      exact ⟨_, by rw [← hvs], a⟩
  split at hg
  · rename_i h0
    simp only [Option.some.injEq, Prod.mk.injEq] at hg
    obtain ⟨rfl, rfl⟩ := hg
    obtain ⟨p, cap, rfl⟩ : ∃ p cap, x = .slice p 0 cap := by
      rcases rv_hsl hx with ⟨a, cap, rfl, _⟩ | ⟨rfl, _⟩
      · exact ⟨_, _, by rw [h0.1]⟩
      · exact ⟨_, _, rfl⟩
    refine (hS0 p cap w).mono ?_
    rintro e w' ⟨rfl, rfl⟩
    exact ⟨_, G, rfl, Ext.refl _ _ _, hS, .tup .nil⟩
  · split at hg
    · rename_i h0
      obtain ⟨hlg, hl0, hl1⟩ := h0
      simp only [Option.some.injEq, Prod.mk.injEq] at hg
      obtain ⟨rfl, rfl⟩ := hg
      rcases rv_hsl hx with ⟨a, cap, rfl, hn, hat⟩ | ⟨rfl, h0⟩
      · replace hcs := getCells_not hcs hn
        obtain ⟨arr, ty, g1, e1, e2, e3, e4, e5, e6⟩ := hS.at hcs
        have hA := (hat cs hcs).1 (.inl hl0)
        subst hA
        have hx2 := strs_rv hxs e4
        have hlen := strs_len hxs
        have hH : Holds encStr w (G.getD b 0) 0 (xs.map fun s => s.data.toList).toArray := holds_of_block e1 (by
          rw [List.length_map, hlen, hx2, List.map_map]
          rfl)
        have hblk : G.getD b 0 < w.heap.size := (Array.getElem?_eq_some_iff.1 e1).1
        have hC := hS1 (G.getD b 0) 0 cap (xs.map fun s => s.data.toList) w hH hblk (by rw [List.length_map]; omega)
        rw [List.length_map, hlen, ← e2, ← hlg] at hC
        refine hC.mono ?_
        rintro e w' ⟨rfl, n, os, rfl⟩
        generalize hts : ((xs.map fun s => s.data.toList).mergeSort fun x y => decide (x ≤ y)) = ts
        have htl : ts.length = xs.length := by rw [← hts, List.length_mergeSort, List.length_map]
        have hsB : (sortB xs).map Value.string = ts.map encStr := by
          unfold sortB
          rw [hts, List.map_map]
          rfl
        have hb1 := heap_sorted (n := n) (os := #[]) ts.toArray e1
        have hgr : ∀ w1 : World, grow w1 #[] = w1 := fun w1 => by unfold grow; simp
        rw [hgr] at hb1
        have hold : ∀ k', k' ≠ G.getD b 0 → (putRow encStr (Sort.ahead w n) (G.getD b 0) 0 ts.toArray).heap[k']? = w.heap[k']? := fun k' hk => by
          have : G.getD b 0 ≠ k' := fun e => hk e.symm
          simp only [putRow, mapBlock, Sort.ahead, Array.getElem?_modify]
          rw [if_neg this]
        obtain ⟨hE, hS'⟩ := change_ok (cs' := (sortB xs).map fun s => .i (.s (.string s))) hS e6 g1 e1 hb1 (by simp [putCells]) (by rw [List.length_map, sortB_len, hlen]; exact Nat.le_refl _) (by rw [List.length_map, sortB_len, hlen]; simpa [putCells] using e3) rfl rfl rfl (by simp [putRow, mapBlock, Sort.ahead]) hold (by
          rw [List.length_map, sortB_len, ← htl, take_putCells arr ts (by omega), ← hsB]
          exact rv_strs _) (by
          intro y hy
          obtain ⟨s, _, rfl⟩ := List.mem_map.1 hy
          rfl)
        have hk : ∀ k, k < (putRow encStr (Sort.ahead w n) (G.getD b 0) 0 ts.toArray).heap.size → (grow (putRow encStr (Sort.ahead w n) (G.getD b 0) 0 ts.toArray) os).heap[k]? = (putRow encStr (Sort.ahead w n) (G.getD b 0) 0 ts.toArray).heap[k]? := fun k hk => heap_grow_old _ _ hk
        have hE2 := Ext.quiet hS' (w' := grow (putRow encStr (Sort.ahead w n) (G.getD b 0) 0 ts.toArray) os) rfl rfl rfl (by simp [grow]) hk
        exact ⟨_, G, rfl, hE.trans hE2, hS'.quiet hE2 hk, .tup .nil⟩
      · omega
    · cases hg
theorem cut_rows {α : Type} [Pic α] {z : Nat} {xs v : List α} {lo hi : Int} (h : cut? xs lo hi = some v) (hz : z = Pic.z α) : ((rows xs).drop (lo.toNat * z)).take ((hi.toNat - lo.toNat) * z) = rows v := by
  obtain ⟨_, rfl, _⟩ := cut_some h
  rw [hz, rows_drop, rows_take]
end Go.AM
