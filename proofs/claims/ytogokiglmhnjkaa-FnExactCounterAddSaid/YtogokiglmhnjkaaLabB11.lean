/- More operations that make blocks or write: structs, literals, make, stores. No condition. -/
import Derived.Test.YtogokiglmhnjkaaLabB10
import Derived.Laws.BitsLemmas
set_option linter.unusedVariables false
set_option linter.unusedSimpArgs false
namespace Go.AM

section
variable {P : Program} {base : Nat} {X : Nat → Prop} {o : Oper} {a : Act} {w : World} {H H' : Heap} {G : List Nat} {v : V} {t : Nat → V}

theorem mapM_opt_length {α β : Type} {f : α → Option β} : ∀ {l : List α} {r : List β}, l.mapM f = some r → r.length = l.length
  | [], r, h => by simp at h; subst h; rfl
  | x :: l, r, h => by
    simp only [List.mapM_cons, Option.bind_eq_bind] at h
    obtain ⟨y, _, h⟩ := Option.bind_eq_some_iff.1 h
    obtain ⟨ys, h1, h2⟩ := Option.bind_eq_some_iff.1 h
    simp at h2
    subst h2
    simp [mapM_opt_length h1]

theorem run_places (w : World) : ∀ (l : List Field) (fs : List (Nat × Nat)), (l.mapM fun f => (szOf P f.type).map fun s => (f.offset, s)) = some fs →
    (l.mapM fun (f : Field) => (do pure (f.offset, ← sizeOf f.type) : Sem (Nat × Nat))).run P w = .ok fs w
  | [], fs, h => by simp at h; subst h; simp
  | f :: l, fs, h => by
    simp only [List.mapM_cons, Option.bind_eq_bind] at h
    obtain ⟨y, h1, h⟩ := Option.bind_eq_some_iff.1 h
    obtain ⟨ys, h2, h3⟩ := Option.bind_eq_some_iff.1 h
    simp at h3
    subst h3
    obtain ⟨s, hs, rfl⟩ := Option.map_eq_some_iff.1 h1
    simp only [List.mapM_cons, Sem.run_bind, run_szOf hs, Result.andThen_ok, Sem.run_pure]
    rw [run_places w l ys h2]
    rfl

theorem ok_buildStruct {ty : TypeId} {fields : Array Field} {parts : Array (Nat × Operand)} {zero : List Value} {fs : List (Nat × Nat)} {cs : List V} (hS : SimH base X w H G) (hT : TV w base (Mof X H G) H G t a.tmps)
    (ho : o.op = .build ty parts) (hu : P.underlying ty = some (.struct fields)) (hz : zeroOf P ty = some zero) (hfs : (fields.toList.mapM fun f => (szOf P f.type).map fun s => (f.offset, s)) = some fs)
    (hpl : parts.toList.all (fun p => (fs[p.1]?).isSome) = true) (hf : fillV ⟨t, H⟩ (ivs zero) (parts.toList.map fun p => match fs[p.1]? with | some q => (q.1, q.2, p.2) | none => (0, 0, p.2)) = some cs) :
    StepOK P base X o a w H G (.agg cs) H := by
  obtain ⟨h1, u, h2, h3⟩ := zeroOf_ok hz
  have hl := ivs_ok (w := w) (base := base) (X := X) (H := H) (G := G) h1
  rw [← h2] at hl
  obtain ⟨arr', e1, e2, e3, e4⟩ := fill_ok (fun i => fs[i]?) parts.toList _ _ u.cells cs hT rfl (fun p hp => List.all_eq_true.1 hpl p hp) (by rw [h2] at hl ⊢; exact hl) hf
  refine StepOK.value (x := .agg arr') hS ?_ (.agg e2)
  simp only [execOp, ho, Instr.build, Sem.run_bind, h3, Result.andThen_ok, run_underlying hu]
  rw [Array.mapM_eq_mapM_toList]
  simp only [Sem.run_map, run_places w _ _ hfs, Result.andThen_ok]
  have e5 : Instr.fill (fun x => fs.toArray[x]?) u.cells (parts.map fun p => (p.1, a.eval p.2)).toList = some arr' := by
    rw [← e1, Array.toList_map]
    congr 1
    funext i
    simp
  have e6 : (parts.map fun (x : Nat × Operand) => match x with | (i, x) => (i, a.eval x)) = parts.map fun p => (p.1, a.eval p.2) := rfl
  rw [e6, e5]
  rfl

theorem ok_buildArray {ty e : TypeId} {n z : Nat} {parts : Array (Nat × Operand)} {zero : List Value} {cs : List V} (hS : SimH base X w H G) (hT : TV w base (Mof X H G) H G t a.tmps)
    (ho : o.op = .build ty parts) (hu : P.underlying ty = some (.array n e)) (hz : zeroOf P ty = some zero) (hs : szOf P e = some z)
    (hf : fillV ⟨t, H⟩ (ivs zero) (parts.toList.map fun p => (p.1 * z, z, p.2)) = some cs) : StepOK P base X o a w H G (.agg cs) H := by
  obtain ⟨h1, u, h2, h3⟩ := zeroOf_ok hz
  have hl := ivs_ok (w := w) (base := base) (X := X) (H := H) (G := G) h1
  rw [← h2] at hl
  obtain ⟨arr', e1, e2, e3, e4⟩ := fill_ok (fun i => some (i * z, z)) parts.toList _ _ u.cells cs hT rfl (fun _ _ => rfl) (by rw [h2] at hl ⊢; exact hl) hf
  refine StepOK.value (x := .agg arr') hS ?_ (.agg e2)
  simp only [execOp, ho, Instr.build, Sem.run_bind, h3, Result.andThen_ok, run_underlying hu, run_szOf hs]
  have e6 : (parts.map fun (x : Nat × Operand) => match x with | (i, x) => (i, a.eval x)).toList = parts.toList.map fun p => (p.1, a.eval p.2) := by rw [Array.toList_map]
  rw [e6, e1]
  rfl

theorem rep_range (zero : Array Value) (hp : 0 < zero.size) : ∀ n, (List.range (n * zero.size)).map (fun i => zero[i % zero.size]!) = (List.replicate n zero.toList).flatten
  | 0 => by simp
  | n + 1 => by
    rw [Nat.add_mul, Nat.one_mul, List.range_add, List.map_append, rep_range zero hp n, List.replicate_succ', List.flatten_append, List.map_map]
    congr 1
    simp only [List.flatten_cons, List.flatten_nil, List.append_nil]
    apply List.ext_getElem
    · simp
    · intro i h1 h2
      simp at h1 h2 ⊢
      rw [Nat.mod_eq_of_lt h2]
      simp [h2]

theorem rep_range' (zero : Array Value) (hp : 0 < zero.size) (n : Nat) : ((Array.range (n * zero.size)).map (fun i => zero[i % zero.size]!)).toList = (List.replicate n zero.toList).flatten := by
  rw [Array.toList_map, Array.toList_range, rep_range zero hp n]

theorem ivs_rep (n : Nat) (zs : List Value) : (List.replicate n (ivs zs)).flatten = ivs ((List.replicate n zs).flatten) := by
  unfold ivs
  rw [List.map_flatten, List.map_replicate]

theorem rep_plain {zs : List Value} (h : zs.all plain = true) (n : Nat) : ((List.replicate n zs).flatten).all plain = true := by
  rw [List.all_flatten]
  simp only [List.all_eq_true]
  intro l hl
  rw [(List.mem_replicate.1 hl).2]
  exact List.all_eq_true.1 h

theorem rep_length (zs : List Value) (n : Nat) : ((List.replicate n zs).flatten).length = n * zs.length := by
  simp [List.length_flatten, List.map_replicate, List.sum_replicate_nat]

theorem ok_buildSl {slot : Option Nat} {ty e : TypeId} {n z : Nat} {ag : Bool} {parts : Array (Nat × Operand)} {zero : List Value} {cs : List V} {b : Nat} (hS : SimH base X w H G) (hT : TV w base (Mof X H G) H G t a.tmps)
    (ho : o.op = .buildSlice ty n parts) (hu : P.underlying ty = some (.slice e)) (hs : szOf P e = some z) (hz : zeroOf P e = some zero) (hzl : zero.length = z) (hzp : 0 < z) (hmax : n * z ≤ 16777216)
    (hf : fillV ⟨t, H⟩ ((List.replicate n (ivs zero)).flatten) (parts.toList.map fun p => (p.1 * z, z, p.2)) = some cs) (hn : newSlot slot H (.cells cs) = some (b, H')) :
    StepOK P base X o a w H G (.hsl b cs.length 0 z ag n) H' := by
  obtain ⟨h1, u, h2, h3⟩ := zeroOf_ok hz
  have husz : u.cells.size = z := by rw [← hzl, ← h2]; simp
  rw [ivs_rep] at hf
  have hrp := rep_plain h1 n
  have hl := ivs_ok (w := w) (base := base) (X := X) (H := H) (G := G) hrp
  have hone := plains_one hrp
  obtain ⟨zc, hzc, hzcl⟩ : ∃ zc : Array Value, ((n * z = 0 ∧ zc = #[]) ∨ (n * z ≠ 0 ∧ zc = u.cells)) ∧ ((Array.range (n * z)).map (fun i => zc[i % zc.size]!)).toList = (List.replicate n zero).flatten := by
    by_cases h0 : n * z = 0
    · refine ⟨#[], .inl ⟨h0, rfl⟩, ?_⟩
      have : n = 0 := by rcases Nat.mul_eq_zero.1 h0 with h | h <;> omega
      subst this
      simp
    · refine ⟨u.cells, .inr ⟨h0, rfl⟩, ?_⟩
      have := rep_range' u.cells (by omega) n
      rw [husz] at this
      rw [← h2, ← this, husz]
  obtain ⟨arr', e1, e2, e3, e4⟩ := fill_ok (fun i => some (i * z, z)) parts.toList _ _ ((Array.range (n * z)).map (fun i => zc[i % zc.size]!)) cs hT rfl (fun _ _ => rfl) (by rw [hzcl]; exact hl) hf
  have hal := e2.length
  have hcl : cs.length = n * z := by rw [e4]; simp only [ivs, List.length_map, rep_length, hzl]
  obtain ⟨G', hE, hS', hr, hg, hb⟩ := new_ok (arr := arr') e hS hn (by simp at hal; omega) (by rw [List.take_of_length_le (by omega)]; exact e2) (e3 hone)
  refine StepOK.value' (x := .slice (some ⟨w.heap.size, 0, none⟩) n n) ?_ hE hS' (.hsl hr (by rw [hb]; intro e; cases e) hzp (Nat.le_refl _) ?_)
  · simp only [execOp, ho, Instr.buildSlice, Sem.run_bind, run_underlying hu, Result.andThen_ok, run_szOf hs]
    rw [if_neg (by omega)]
    have e6 : (parts.map fun (x : Nat × Operand) => match x with | (i, x) => (i, a.eval x)).toList = parts.toList.map fun p => (p.1, a.eval p.2) := by rw [Array.toList_map]
    rcases hzc with ⟨z0, rfl⟩ | ⟨z0, rfl⟩
    · rw [if_pos z0]
      simp only [Sem.run_bind, Sem.run_pure, Result.andThen_ok]
      rw [e6, e1]
      simp only [newRow, Sem.run_bind, run_newObj, Result.andThen_ok, Sem.run_pure]
      rfl
    · rw [if_neg z0]
      simp only [Sem.run_bind, Sem.run_pure, Result.andThen_ok, h3]
      rw [e6, e1]
      simp only [newRow, Sem.run_bind, run_newObj, Result.andThen_ok, Sem.run_pure]
      rfl
  · intro cs' hc
    rw [hg]
    simp at hal
    exact ⟨fun _ => rfl, by omega, arr'.size, by omega, by unfold blockSize; rw [heap_push_new]⟩

theorem ok_makeSl {slot : Option Nat} {ty e : TypeId} {z y : Nat} {ag : Bool} {zero : List Value} {lo co : Operand} {l c : Int} {b : Nat} (hS : SimH base X w H G) (hT : TV w base (Mof X H G) H G t a.tmps)
    (ho : o.op = .makeSlice ty lo co) (hu : P.underlying ty = some (.slice e)) (hs : szOf P e = some z) (hz : zeroOf P e = some zero) (hy : byOf P e = some y) (hzl : zero.length = z) (hzp : 0 < z) (hyp : 0 < y)
    (hl : intV (St.ev ⟨t, H⟩ lo) = some l) (hc : intV (St.ev ⟨t, H⟩ co) = some c) (h0 : 0 ≤ l) (h1 : l ≤ c) (h2 : c * y ≤ 281474976710656) (h3 : c ≤ 9223372036854775807)
    (hn : newSlot slot H (.cells ((List.replicate l.toNat (ivs zero)).flatten)) = some (b, H')) :
    StepOK P base X o a w H G (.hsl b (l.toNat * z) 0 z ag l.toNat) H' := by
  obtain ⟨g1, u, g2, g3⟩ := zeroOf_ok hz
  have husz : u.cells.size = z := by rw [← hzl, ← g2]; simp
  obtain ⟨kl, el⟩ := intV_ok (ev_ok (h := H) hT lo) hl
  obtain ⟨kc, ec⟩ := intV_ok (ev_ok (h := H) hT co) hc
  have wl : IntKind.i64.wrap l = l := by rw [Go.IntKind.wrap_i64]; omega
  have wc : IntKind.i64.wrap c = c := by rw [Go.IntKind.wrap_i64]; omega
  obtain ⟨inf, hi, hib⟩ := Option.map_eq_some_iff.1 hy
  rw [ivs_rep] at hn
  have hrp := rep_plain g1 l.toNat
  have hlen : (ivs ((List.replicate l.toNat zero).flatten)).length = l.toNat * z := by simp only [ivs, List.length_map, rep_length, hzl]
  obtain ⟨zc, hzc, hzcl⟩ : ∃ zc : Array Value, ((c.toNat * z = 0 ∧ zc = #[]) ∨ (c.toNat * z ≠ 0 ∧ zc = u.cells)) ∧ ((Array.range (c.toNat * z)).map (fun i => zc[i % zc.size]!)).toList = (List.replicate c.toNat zero).flatten := by
    by_cases hz0 : c.toNat * z = 0
    · refine ⟨#[], .inl ⟨hz0, rfl⟩, ?_⟩
      have : c.toNat = 0 := by rcases Nat.mul_eq_zero.1 hz0 with h | h <;> omega
      rw [this]
      simp
    · refine ⟨u.cells, .inr ⟨hz0, rfl⟩, ?_⟩
      have := rep_range' u.cells (by omega) c.toNat
      rw [husz] at this
      rw [← g2, ← this, husz]
  have hrep : (List.replicate c.toNat zero).flatten = (List.replicate l.toNat zero).flatten ++ (List.replicate (c.toNat - l.toNat) zero).flatten := by
    rw [← List.flatten_append, List.replicate_append_replicate]
    congr 2; omega
  have hasz : ((Array.range (c.toNat * z)).map (fun i => zc[i % zc.size]!)).size = c.toNat * z := by simp
  have hmul : l.toNat * z ≤ c.toNat * z := Nat.mul_le_mul_right _ (by omega)
  obtain ⟨G', hE, hS', hr, hg, hb⟩ := new_ok (arr := (Array.range (c.toNat * z)).map (fun i => zc[i % zc.size]!)) e hS hn (by omega) (by
    rw [hzcl, hrep, hlen, List.take_append_of_le_length (by rw [rep_length, hzl]; omega), List.take_of_length_le (by rw [rep_length, hzl]; omega)]
    exact ivs_ok hrp) (plains_one hrp)
  rw [hlen] at hr
  refine StepOK.value' (x := .slice (some ⟨w.heap.size, 0, none⟩) l.toNat c.toNat) ?_ hE hS' (.hsl hr (by rw [hb]; intro e; cases e) hzp (by omega) ?_)
  · simp only [execOp, ho, Instr.makeSlice, Sem.run_bind, run_underlying hu, Result.andThen_ok, el, ec, asInt, asIntOf, Sem.run_pure, typeInfo, run_program, hi, wl, wc, hib]
    have hn1 : decide (c < 0) = false := by simp; omega
    have hn2 : decide ((y : Int) * c > 2 ^ 48) = false := by
      rw [Int.mul_comm] at h2
      simp; omega
    have hn3 : decide (l < 0) = false := by simp; omega
    have hn4 : decide (l > c) = false := by simp; omega
    simp only [hn1, hn2, hn3, hn4, Bool.or_self, Bool.false_eq_true, if_false, Sem.run_bind, run_askRoom, Result.andThen_ok, run_szOf hs]
    rcases hzc with ⟨z0, rfl⟩ | ⟨z0, rfl⟩
    · rw [if_pos z0]
      simp only [Sem.run_bind, Sem.run_pure, Result.andThen_ok, newRow, run_newObj]
      rfl
    · rw [if_neg z0]
      simp only [Sem.run_bind, Sem.run_pure, Result.andThen_ok, g3, newRow, run_newObj]
      rfl
  · intro cs' hc'
    rw [hg]
    exact ⟨fun _ => rfl, by omega, c.toNat * z, by omega, by unfold blockSize; rw [heap_push_new]; simp only [hasz]⟩

end
end Go.AM
