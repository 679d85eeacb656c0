/- Structs and arrays of whole numbers, bools and strings: when two are the same. No condition. -/
import Derived.Test.YtogokiglmhnjkaaLabB7
import Derived.ChangeKeysEq
import Derived.Laws.StructEq
set_option linter.unusedVariables false
set_option linter.unusedSimpArgs false
namespace Go.AM

theorem fitsL_length : ∀ {ks : List SK} {vs : List Value}, fitsL ks vs = true → vs.length = ks.length
  | [], [], _ => rfl
  | [], _ :: _, h => by simp [fitsL] at h
  | _ :: _, [], h => by simp [fitsL] at h
  | k :: ks, v :: vs, h => by
    simp only [fitsL, Bool.and_eq_true] at h
    simp [fitsL_length h.2]

theorem fitsL_append : ∀ {ks ls : List SK} {vs : List Value}, fitsL (ks ++ ls) vs = true → fitsL ks (vs.take ks.length) = true ∧ fitsL ls (vs.drop ks.length) = true
  | [], ls, vs, h => by simpa using ⟨rfl, h⟩
  | k :: ks, ls, [], h => by simp [fitsL] at h
  | k :: ks, ls, v :: vs, h => by
    simp only [List.cons_append, fitsL, Bool.and_eq_true] at h
    have := fitsL_append h.2
    simp only [List.length_cons, List.take_succ_cons, List.drop_succ_cons, fitsL, h.1, this.1, this.2, Bool.and_self, and_self]

theorem eqL_append : ∀ {a b c d : List Value}, a.length = b.length → eqL (a ++ c) (b ++ d) = (eqL a b && eqL c d)
  | [], [], c, d, _ => by simp [eqL]
  | x :: a, y :: b, c, d, h => by
    simp at h
    simp [eqL, eqL_append h, Bool.and_assoc]
  | [], _ :: _, _, _, h => by simp at h
  | _ :: _, [], _, _, h => by simp at h

section
variable {P : Program} (w : World)

/-- x has these cells. -/
def HasCells (P : Program) (t : TypeId) (x : Value) (a : List Value) : Prop := (agOf P t = some true → x = .agg a.toArray) ∧ (agOf P t = some false → a = [x]) ∧ (agOf P t).isSome = true

theorem part_cells {t : TypeId} {xs : Array Value} {off n : Nat} (hz : szOf P t = some n) (hag : (agOf P t).isSome = true) (h1 : agOf P t = some false → n = 1) (hle : off + n ≤ xs.size) :
    ∃ x, (part t xs off).run P w = .ok x w ∧ HasCells P t x ((xs.toList.drop off).take n) := by
  unfold part
  cases hb : agOf P t with
  | none => rw [hb] at hag; cases hag
  | some b =>
    simp only [Sem.run_bind, run_agOf hb, Result.andThen_ok]
    cases b with
    | true =>
      refine ⟨.agg (xs.extract off (off + n)), by simp [Sem.run_bind, run_szOf hz], ?_, ?_, ?_⟩
      · intro _
        congr 1
        apply Array.ext'
        rw [Array.toList_extract]
        simp [List.extract]
      · intro h; rw [hb] at h; cases h
      · rw [hb]; rfl
    | false =>
      have hn := h1 hb
      subst hn
      have hlt : off < xs.size := by omega
      refine ⟨xs[off], by simp [hlt], ?_, ?_, by rw [hb]; rfl⟩
      · intro h; rw [hb] at h; cases h
      · intro _
        rw [List.drop_eq_getElem_cons (by simpa using hlt)]
        simp

theorem shape_one {d : Nat} {t : TypeId} {ks : List SK} (h : shapeAt P d t = some ks) : (agOf P t).isSome = true ∧ (agOf P t = some false → ks.length = 1) := by
  cases d with
  | zero => simp [shapeAt] at h
  | succ d =>
    unfold shapeAt at h
    unfold agOf
    split at h
    · rename_i hu; rw [hu]; cases h; exact ⟨rfl, fun _ => rfl⟩
    · rename_i hu; rw [hu]; cases h; exact ⟨rfl, fun _ => rfl⟩
    · rename_i hu; rw [hu]; cases h; exact ⟨rfl, fun _ => rfl⟩
    · rename_i hu; rw [hu]; exact ⟨rfl, fun h => by simp at h⟩
    · rename_i hu; rw [hu]; exact ⟨rfl, fun h => by simp at h⟩
    · cases h

theorem eqFields_run {d : Nat} {g : TypeId → Option (List SK)}
    (hg : ∀ t ks, g t = some ks → ((agOf P t).isSome = true ∧ (agOf P t = some false → ks.length = 1)) ∧ ∀ (a b : List Value) (x y : Value), fitsL ks a = true → fitsL ks b = true → HasCells P t x a → HasCells P t y b → (Op.equalIn d t x y).run P w = .ok (eqL a b) w) :
    ∀ (fs : List Field) (off : Nat) (ks : List SK) (xs ys : Array Value), shapeFs P g fs off = some ks → fitsL ks (xs.toList.drop off) = true → fitsL ks (ys.toList.drop off) = true →
      (Op.eqFields d xs ys fs).run P w = .ok (eqL (xs.toList.drop off) (ys.toList.drop off)) w
  | [], off, ks, xs, ys, h, h1, h2 => by
    simp [shapeFs] at h
    subst h
    cases hx : xs.toList.drop off with
    | cons _ _ => rw [hx] at h1; simp [fitsL] at h1
    | nil =>
      cases hy : ys.toList.drop off with
      | cons _ _ => rw [hy] at h2; simp [fitsL] at h2
      | nil => simp [Op.eqFields, eqL]
  | f :: fs, off, ks, xs, ys, h, h1, h2 => by
    unfold shapeFs at h
    split at h
    · rename_i hf
      obtain ⟨hn, rfl⟩ := hf
      obtain ⟨k1, hk, h⟩ := Option.bind_eq_some_iff.1 h
      split at h
      · rename_i hz
        obtain ⟨k2, hk2, rfl⟩ := Option.map_eq_some_iff.1 h
        obtain ⟨⟨g1, g2⟩, g3⟩ := hg _ _ hk
        obtain ⟨a1, a2⟩ := fitsL_append h1
        obtain ⟨b1, b2⟩ := fitsL_append h2
        have l1 := fitsL_length a1
        have l2 := fitsL_length b1
        simp only [List.length_take, List.length_drop, Array.length_toList] at l1 l2
        have hsz1 : f.offset + k1.length ≤ xs.size ∨ k1.length = 0 := by omega
        have hsz2 : f.offset + k1.length ≤ ys.size ∨ k1.length = 0 := by omega
        have hp : ∀ (zs : Array Value), (f.offset + k1.length ≤ zs.size ∨ k1.length = 0) → ∃ x, (part f.type zs f.offset).run P w = .ok x w ∧ HasCells P f.type x ((zs.toList.drop f.offset).take k1.length) := by
          intro zs hzs
          rcases hzs with hzs | hzs
          · exact part_cells w hz g1 g2 hzs
          · rw [hzs] at hz ⊢
            have hag : agOf P f.type = some true := by
              cases hb : agOf P f.type with
              | none => rw [hb] at g1; cases g1
              | some b =>
                cases b with
                | true => rfl
                | false => have := g2 hb; omega
            refine ⟨.agg #[], ?_, ?_, ?_, g1⟩
            · unfold part
              simp [Sem.run_bind, run_agOf hag, run_szOf hz, Nat.min_le_left]
            · intro _; simp
            · intro h; rw [hag] at h; cases h
        obtain ⟨x, px, cx⟩ := hp xs hsz1
        obtain ⟨y, py, cy⟩ := hp ys hsz2
        have he := g3 _ _ x y a1 b1 cx cy
        have hrec := eqFields_run hg fs (f.offset + k1.length) k2 xs ys hk2 (by rw [← List.drop_drop]; exact a2) (by rw [← List.drop_drop]; exact b2)
        have hsplit : eqL (xs.toList.drop f.offset) (ys.toList.drop f.offset) = (eqL ((xs.toList.drop f.offset).take k1.length) ((ys.toList.drop f.offset).take k1.length) && eqL (xs.toList.drop (f.offset + k1.length)) (ys.toList.drop (f.offset + k1.length))) := by
          rw [← List.drop_drop, ← List.drop_drop, ← eqL_append (by simp only [List.length_take, List.length_drop, Array.length_toList]; omega), List.take_append_drop, List.take_append_drop]
        rw [hsplit]
        simp only [Op.eqFields, hn, ne_eq, not_false_eq_true, if_true, Sem.run_bind, px, py, he, Result.andThen_ok]
        cases eqL ((xs.toList.drop f.offset).take k1.length) ((ys.toList.drop f.offset).take k1.length) with
        | false => simp
        | true => simpa using hrec
      · cases h
    · cases h

theorem eqItems_run {d : Nat} {e : TypeId} {ks : List SK} (hz : szOf P e = some ks.length) (hc : P.cellsOf e = ks.length) (hg1 : (agOf P e).isSome = true) (hg2 : agOf P e = some false → ks.length = 1)
    (hg : ∀ (a b : List Value) (x y : Value), fitsL ks a = true → fitsL ks b = true → HasCells P e x a → HasCells P e y b → (Op.equalIn d e x y).run P w = .ok (eqL a b) w) :
    ∀ (n i : Nat) (xs ys : Array Value), fitsL ((List.replicate n ks).flatten) (xs.toList.drop (i * ks.length)) = true → fitsL ((List.replicate n ks).flatten) (ys.toList.drop (i * ks.length)) = true →
      (Op.eqItems d e (P.cellsOf e) xs ys (List.range' i n)).run P w = .ok (eqL (xs.toList.drop (i * ks.length)) (ys.toList.drop (i * ks.length))) w
  | 0, i, xs, ys, h1, h2 => by
    cases hx : xs.toList.drop (i * ks.length) with
    | cons _ _ => rw [hx] at h1; simp [fitsL] at h1
    | nil =>
      cases hy : ys.toList.drop (i * ks.length) with
      | cons _ _ => rw [hy] at h2; simp [fitsL] at h2
      | nil => simp [Op.eqItems, eqL]
  | n + 1, i, xs, ys, h1, h2 => by
    rw [List.replicate_succ, List.flatten_cons] at h1 h2
    obtain ⟨a1, a2⟩ := fitsL_append h1
    obtain ⟨b1, b2⟩ := fitsL_append h2
    have l1 := fitsL_length a1
    have l2 := fitsL_length b1
    simp only [List.length_take, List.length_drop, Array.length_toList] at l1 l2
    have hp : ∀ (zs : Array Value), (i * ks.length + ks.length ≤ zs.size ∨ ks.length = 0) → ∃ x, (part e zs (i * ks.length)).run P w = .ok x w ∧ HasCells P e x ((zs.toList.drop (i * ks.length)).take ks.length) := by
      intro zs hzs
      rcases hzs with hzs | hzs
      · exact part_cells w hz hg1 hg2 hzs
      · have hag : agOf P e = some true := by
          cases hb : agOf P e with
          | none => rw [hb] at hg1; cases hg1
          | some b =>
            cases b with
            | true => rfl
            | false => have := hg2 hb; omega
        rw [hzs] at hz ⊢
        refine ⟨.agg #[], ?_, ?_, ?_, hg1⟩
        · unfold part
          simp [Sem.run_bind, run_agOf hag, run_szOf hz, Nat.min_le_left]
        · intro _; simp
        · intro h; rw [hag] at h; cases h
    obtain ⟨x, px, cx⟩ := hp xs (by omega)
    obtain ⟨y, py, cy⟩ := hp ys (by omega)
    have he := hg _ _ x y a1 b1 cx cy
    have hmul : (i + 1) * ks.length = i * ks.length + ks.length := by rw [Nat.add_mul, Nat.one_mul]
    have hrec := eqItems_run hz hc hg1 hg2 hg n (i + 1) xs ys (by rw [hmul, ← List.drop_drop]; exact a2) (by rw [hmul, ← List.drop_drop]; exact b2)
    have hsplit : eqL (xs.toList.drop (i * ks.length)) (ys.toList.drop (i * ks.length)) = (eqL ((xs.toList.drop (i * ks.length)).take ks.length) ((ys.toList.drop (i * ks.length)).take ks.length) && eqL (xs.toList.drop ((i + 1) * ks.length)) (ys.toList.drop ((i + 1) * ks.length))) := by
      rw [hmul, ← List.drop_drop, ← List.drop_drop, ← eqL_append (by simp only [List.length_take, List.length_drop, Array.length_toList]; omega), List.take_append_drop, List.take_append_drop]
    rw [hsplit, List.range'_succ]
    rw [hc] at hrec ⊢
    simp only [Op.eqItems, Sem.run_bind, px, py, he, Result.andThen_ok]
    cases eqL ((xs.toList.drop (i * ks.length)).take ks.length) ((ys.toList.drop (i * ks.length)).take ks.length) with
    | false => simp
    | true => simpa using hrec

theorem beq_bytes (a b : ByteArray) : (a.toList == b.toList) = decide (a = b) := by
  rw [← beq_toListBytes]
  by_cases e : a = b
  · subst e; simp [beq_toListBytes]
  · rw [decide_eq_false e, beq_toListBytes]
    apply beq_eq_false_iff_ne.2
    intro h
    apply e
    rw [ByteArray.toList_eq, ByteArray.toList_eq] at h
    apply ByteArray.ext
    exact Array.ext' h

theorem equalIn_run : ∀ (d e : Nat) (t : TypeId) (ks : List SK), shapeAt P d t = some ks → ∀ (a b : List Value) (x y : Value), fitsL ks a = true → fitsL ks b = true → HasCells P t x a → HasCells P t y b →
    (Op.equalIn (e + d) t x y).run P w = .ok (eqL a b) w
  | 0, e, t, ks, h => by simp [shapeAt] at h
  | d + 1, e, t, ks, h => by
    intro a b x y ha hb hx hy
    have ih := fun t ks h => equalIn_run d e t ks h
    have hone : ∀ {k : SK}, agOf P t = some false → ks = [k] → a = [x] ∧ b = [y] ∧ k.fits x = true ∧ k.fits y = true := by
      intro k hag hks
      have e1 := hx.2.1 hag
      have e2 := hy.2.1 hag
      subst hks
      rw [e1] at ha
      rw [e2] at hb
      simp only [fitsL, Bool.and_true] at ha hb
      exact ⟨e1, e2, ha, hb⟩
    rw [show e + (d + 1) = (e + d) + 1 from rfl]
    unfold shapeAt at h
    split at h
    · rename_i k hu
      cases h
      obtain ⟨rfl, rfl, f1, f2⟩ := hone (k := .int k) (by unfold agOf; rw [hu]) rfl
      cases x <;> simp only [SK.fits] at f1 <;> try cases f1
      cases y <;> simp only [SK.fits] at f2 <;> try cases f2
      obtain rfl := of_decide_eq_true f1
      obtain rfl := of_decide_eq_true f2
      rw [run_equalIn_int w (e + d) t _ _ _ _ hu]
      simp [eqL, eqV]
      first | done | rfl
    · rename_i hu
      cases h
      obtain ⟨rfl, rfl, f1, f2⟩ := hone (k := .bool) (by unfold agOf; rw [hu]) rfl
      cases x <;> simp only [SK.fits] at f1 <;> try cases f1
      cases y <;> simp only [SK.fits] at f2 <;> try cases f2
      rw [run_equalIn_bool w (e + d) t _ _ hu]
      simp [eqL, eqV]
    · rename_i hu
      cases h
      obtain ⟨rfl, rfl, f1, f2⟩ := hone (k := .str) (by unfold agOf; rw [hu]) rfl
      cases x <;> simp only [SK.fits] at f1 <;> try cases f1
      cases y <;> simp only [SK.fits] at f2 <;> try cases f2
      rw [run_equalIn_string w (e + d) t _ _ hu, beq_bytes]
      simp [eqL, eqV]
    · rename_i n el hu
      obtain ⟨k1, hk, h⟩ := Option.bind_eq_some_iff.1 h
      split at h
      · rename_i hz
        cases h
        have hag : agOf P t = some true := by unfold agOf; rw [hu]
        obtain rfl := hx.1 hag
        obtain rfl := hy.1 hag
        have hz' := hz
        unfold szOf at hz'
        obtain ⟨i, hi, hi2⟩ := Option.map_eq_some_iff.1 hz'
        have hcell : P.cellsOf el = k1.length := by simp [Program.cellsOf, hi, hi2]
        obtain ⟨s1, s2⟩ := shape_one hk
        rw [run_equalIn_array w (e + d) _ _ hu hi, List.range_eq_range']
        have := eqItems_run w hz hcell s1 s2 (ih el k1 hk) n 0 a.toArray b.toArray (by simpa using ha) (by simpa using hb)
        simpa using this
      · cases h
    · rename_i fs hu
      split at h
      · cases h
      · rename_i hst
        have hag : agOf P t = some true := by unfold agOf; rw [hu]
        obtain rfl := hx.1 hag
        obtain rfl := hy.1 hag
        have hfs : P.fieldsOf t = fs := by simp [Program.fieldsOf, hu]
        rw [run_equalIn_struct w (e + d) t _ _ (by rw [hfs]; exact hu) (by simpa using hst), hfs]
        have := eqFields_run w (d := e + d) (g := shapeAt P d) (fun t ks hk => ⟨shape_one hk, ih t ks hk⟩) fs.toList 0 ks a.toArray b.toArray h (by simpa using ha) (by simpa using hb)
        simpa using this
    · cases h

end
end Go.AM
