/- How the model's own steps on memory run: loads, stores, new blocks. No condition. -/
import Derived.Test.YtogokiglmhnjkaaLabB4
set_option linter.unusedVariables false
set_option linter.unusedSimpArgs false
namespace Go.AM

theorem pureOf_run {α : Type} (P : Program) : ∀ (s : Sem α) (a : α), pureOf P s = some a → ∀ w, s.run P w = .ok a w
  | .pure x, a, h, w => by simp [pureOf] at h; subst h; rfl
  | .program k, a, h, w => by
    simp only [pureOf] at h
    simp only [Sem.run]
    exact pureOf_run P (k P) a h w
  | .mark m k, a, h, w => by
    simp only [pureOf] at h
    simp only [Sem.run]
    exact pureOf_run P k a h w
  | .load .., a, h, w => by simp [pureOf] at h
  | .store .., a, h, w => by simp [pureOf] at h
  | .new .., a, h, w => by simp [pureOf] at h
  | .shape .., a, h, w => by simp [pureOf] at h
  | .freeze .., a, h, w => by simp [pureOf] at h
  | .frozen .., a, h, w => by simp [pureOf] at h
  | .getObj .., a, h, w => by simp [pureOf] at h
  | .setObj .., a, h, w => by simp [pureOf] at h
  | .choose .., a, h, w => by simp [pureOf] at h
  | .sys .., a, h, w => by simp [pureOf] at h
  | .halt .., a, h, w => by simp [pureOf] at h

theorem pureOf_bind {α β : Type} (P : Program) (f : α → Sem β) : ∀ (s : Sem α), pureOf P (s >>= f) = (pureOf P s).bind fun a => pureOf P (f a)
  | .pure x => rfl
  | .program k => pureOf_bind P f (k P)
  | .mark m k => pureOf_bind P f k
  | .load .. => rfl
  | .store .. => rfl
  | .new .. => rfl
  | .shape .. => rfl
  | .freeze .. => rfl
  | .frozen .. => rfl
  | .getObj .. => rfl
  | .setObj .. => rfl
  | .choose .. => rfl
  | .sys .. => rfl
  | .halt .. => rfl

theorem add_add (a : Addr) (m n : Nat) (h : a.spot = none) : (a.add m).add n = a.add (m + n) := by
  obtain ⟨b, o, s⟩ := a
  simp at h; subst h
  simp [Addr.add_lit, Nat.add_assoc]

theorem Reads.spot {w : World} {a : Addr} {cs : List Value} (h : Reads w a cs) (hne : cs ≠ []) : a.spot = none := by
  have h0 := h 0 (List.length_pos_iff.2 hne)
  rw [Addr.add_zero'] at h0
  unfold World.cell? at h0
  split at h0
  · split at h0
    · cases h0
    · rename_i hs; simpa using hs
  · cases h0

theorem Reads.sub {w : World} {a : Addr} {cs : List Value} (h : Reads w a cs) (off n : Nat) (hn : off + n ≤ cs.length) (hp : 0 < n) : Reads w (a.add off) ((cs.drop off).take n) := by
  intro j hj
  have hs : a.spot = none := h.spot (by intro e; subst e; simp at hn; omega)
  simp at hj
  rw [add_add a off j hs, h (off + j) (by omega)]
  simp

theorem Reads.drop {w : World} {a : Addr} {cs : List Value} (h : Reads w a cs) (off : Nat) (hn : off < cs.length) : Reads w (a.add off) (cs.drop off) := by
  intro j hj
  have hs : a.spot = none := h.spot (by intro e; subst e; simp at hn)
  simp at hj
  rw [add_add a off j hs, h (off + j) (by omega)]
  simp

theorem run_loadCellsFrom (P : Program) (w : World) (a : Addr) : ∀ (n i : Nat) (acc : Array Value) (cs : List Value), cs.length = n → (∀ j, (h : j < cs.length) → w.cell? (a.add (i + j)) = some cs[j]) →
    (loadCellsFrom a i n acc).run P w = .ok (acc ++ cs.toArray) w
  | 0, i, acc, cs, hl, _ => by
    obtain rfl : cs = [] := List.eq_nil_of_length_eq_zero hl
    simp [loadCellsFrom]
  | n + 1, i, acc, [], hl, _ => by simp at hl
  | n + 1, i, acc, c :: cs, hl, hr => by
    have h0 := hr 0 (by simp)
    simp only [loadCellsFrom, Sem.run_bind, run_load]
    simp at h0
    rw [h0]
    simp only [Result.andThen_ok]
    rw [run_loadCellsFrom P w a n (i + 1) (acc.push c) cs (by simpa using hl)]
    · simp
    · intro j hj
      have := hr (j + 1) (by simpa using hj)
      simp at this
      rw [show i + 1 + j = i + (j + 1) from by omega]
      exact this

theorem run_loadCells (P : Program) (w : World) (a : Addr) (cs : List Value) (n : Nat) (hl : cs.length = n) (h : Reads w a cs) : (loadCells a n).run P w = .ok cs.toArray w := by
  unfold loadCells
  rw [run_loadCellsFrom P w a n 0 #[] cs hl (by intro j hj; rw [Nat.zero_add]; exact h j hj)]
  simp

theorem Reads.of_block {w : World} {k off n : Nat} {arr : Array Value} {t : TypeId} {fr : Nat × Nat} (h : w.heap[k]? = some (.cells arr t fr)) (hn : off + n ≤ arr.size) : Reads w ⟨k, off, none⟩ ((arr.toList.drop off).take n) := by
  intro j hj
  simp at hj
  rw [Addr.add_lit]
  unfold World.cell?
  simp [h]

theorem setCell_heap (w : World) (k off : Nat) (v : Value) (arr : Array Value) (t : TypeId) (fr : Nat × Nat) (h : w.heap[k]? = some (.cells arr t fr)) :
    (w.setCell ⟨k, off, none⟩ v).heap[k]? = some (.cells (arr.setIfInBounds off v) t fr) := by
  simp [World.setCell, Array.getElem?_modify, h]

theorem run_storeCells (P : Program) (k : Nat) (t : TypeId) (off : Nat) : ∀ (vs : List Value) (i : Nat) (w : World) (arr : Array Value), w.heap[k]? = some (.cells arr t (0, 0)) → off + i + vs.length ≤ arr.size → (∀ v ∈ vs, v.oneCell' = true) →
    ∃ w' arr', (storeCells ⟨k, off, none⟩ vs i).run P w = .ok () w' ∧ w'.os = w.os ∧ w'.tape = w.tape ∧ w'.output = w.output ∧ w'.heap.size = w.heap.size ∧ (∀ k', k' ≠ k → w'.heap[k']? = w.heap[k']?) ∧
      w'.heap[k]? = some (.cells arr' t (0, 0)) ∧ arr'.toList = arr.toList.take (off + i) ++ vs ++ arr.toList.drop (off + i + vs.length)
  | [], i, w, arr, h, hl, _ => ⟨w, arr, by simp [storeCells], rfl, rfl, rfl, rfl, fun _ _ => rfl, h, by simp⟩
  | v :: vs, i, w, arr, h, hl, hv => by
    have h1 : v.oneCell' = true := hv v (by simp)
    simp at hl
    have hlt : off + i < arr.size := by omega
    have hc : w.cell? ⟨k, off + i, none⟩ = some arr[off + i] := by
      unfold World.cell?; simp [h, hlt]
    have hf : w.frozen? ⟨k, off + i, none⟩ = false := by
      unfold World.frozen?; simp [h]
    have hset := setCell_heap w k (off + i) v arr t (0, 0) h
    obtain ⟨w', arr', e1, e2, e3, e4, e5, e6, e7, e8⟩ := run_storeCells P k t off vs (i + 1) (w.setCell ⟨k, off + i, none⟩ v) (arr.setIfInBounds (off + i) v) hset (by simp; omega) (fun u hu => hv u (by simp [hu]))
    refine ⟨w', arr', ?_, e2, e3, e4, by simpa using e5, ?_, e7, ?_⟩
    · simp only [storeCells, Sem.run_bind, Addr.add_lit]
      rw [run_store P w _ v .plain h1, hc]
      simp only [hf, Bool.false_eq_true, if_false, Result.andThen_ok]
      exact e1
    · intro k' hk'
      rw [e6 k' hk']
      exact Go.RowKit.Below.heap_setCell _ _ _ _ hk'
    · rw [e8]
      simp only [Array.toList_setIfInBounds]
      have hlt' : off + i < arr.toList.length := by simpa using hlt
      have hmin : (arr.toList.take (off + i)).length = off + i := by simp; omega
      rw [List.take_set, show off + (i + 1) = off + i + 1 from by omega, List.drop_set_of_lt (by omega)]
      rw [List.take_succ_eq_append_getElem hlt', List.set_append_right _ _ (by omega), hmin]
      simp [Nat.add_assoc, Nat.add_comm, Nat.add_left_comm]

end Go.AM
