/- Maps in the model: what looking up a key comes to, where keys can be told apart by their cells. No condition. -/
import Derived.Test.YtogokiglmhnjkaaLabB7e
set_option linter.unusedVariables false
set_option linter.unusedSimpArgs false
namespace Go.AM

theorem beq_ba (s s' : ByteArray) : (s == s') = decide (s = s') := by
  rcases s with ⟨a⟩
  rcases s' with ⟨b⟩
  show (a == b) = _
  rw [Bool.eq_iff_iff]
  simp

section
variable {P : Program} (w : World) {t : TypeId} {ks : List SK}

/-- The keys of these entries have these cells. -/
def KeysOf (P : Program) (t : TypeId) (ks : List SK) : List MapEntry → List (List Value) → Prop
  | [], [] => True
  | e :: es, c :: cs => HasCells P t e.key c ∧ fitsL ks c = true ∧ KeysOf P t ks es cs
  | _, _ => False

theorem equal_run (h : shapeAt P 8 t = some ks) {a b : List Value} {x y : Value} (ha : fitsL ks a = true) (hb : fitsL ks b = true) (hx : HasCells P t x a) (hy : HasCells P t y b) : (Op.equal t x y).run P w = .ok (eqL a b) w :=
  equalIn_run w 8 9992 t ks h a b x y ha hb hx hy

theorem asking_run (h : shapeAt P 8 t = some ks) {a : List Value} {x : Value} (ha : fitsL ks a = true) (hx : HasCells P t x a) : ∀ (es : List MapEntry) (cs : List (List Value)) (i : Nat), KeysOf P t ks es cs →
    (Instr.findAsking t x es i).run P w = .ok ((hit a cs).bind fun j => (es[j]?).map fun e => (i + j, e.val)) w
  | [], [], i, _ => by simp [Instr.findAsking, hit]
  | [], _ :: _, _, hk => hk.elim
  | _ :: _, [], _, hk => hk.elim
  | e :: es, c :: cs, i, ⟨h1, h2, h3⟩ => by
    have ih := asking_run h ha hx es cs (i + 1) h3
    simp only [Instr.findAsking, Sem.run_bind, equal_run w h ha h2 hx h1, Result.andThen_ok, hit]
    cases hc : eqL a c with
    | true => simp
    | false =>
      simp only [Bool.false_eq_true, if_false]
      rw [ih]
      congr 1
      cases hit a cs with
      | none => rfl
      | some j => simp [Nat.add_assoc, Nat.add_comm 1 j]

/-- Where the kind can be seen at once the answer is the same. -/
theorem now_same (h : shapeAt P 8 t = some ks) {d : TypeDesc} (hd : P.underlying t = some d) {a : List Value} {x : Value} (ha : fitsL ks a = true) (hx : HasCells P t x a) : ∀ (es : List MapEntry) (cs : List (List Value)) (i : Nat), KeysOf P t ks es cs →
    Instr.findNow d x es i = none ∨ Instr.findNow d x es i = some ((hit a cs).bind fun j => (es[j]?).map fun e => (i + j, e.val))
  | [], [], i, _ => by simp [Instr.findNow, hit]
  | [], _ :: _, _, hk => hk.elim
  | _ :: _, [], _, hk => hk.elim
  | e :: es, c :: cs, i, ⟨h1, h2, h3⟩ => by
    have ih := now_same h hd ha hx es cs (i + 1) h3
    have hs : Instr.sameNow d x e.key = none ∨ Instr.sameNow d x e.key = some (eqL a c) := by
      cases hn : Instr.sameNow d x e.key with
      | none => exact .inl rfl
      | some b =>
        right
        have one : agOf P t = some false → a = [x] ∧ c = [e.key] := fun hag => ⟨hx.2.1 hag, h1.2.1 hag⟩
        cases d with
        | int k =>
          obtain ⟨rfl, rfl⟩ := one (by unfold agOf; rw [hd])
          generalize e.key = y at hn h1 h2
          cases x <;> cases y <;> simp only [Instr.sameNow] at hn <;> try cases hn
          split at hn
          · rename_i hk
            subst hk
            cases hn
            simp [eqL, eqV]
            first | done | rfl
          · cases hn
        | bool =>
          obtain ⟨rfl, rfl⟩ := one (by unfold agOf; rw [hd])
          generalize e.key = y at hn h1 h2
          cases x <;> cases y <;> simp only [Instr.sameNow] at hn <;> try cases hn
          simp [eqL, eqV]
        | string =>
          obtain ⟨rfl, rfl⟩ := one (by unfold agOf; rw [hd])
          generalize e.key = y at hn h1 h2
          cases x <;> cases y <;> simp only [Instr.sameNow] at hn <;> try cases hn
          simp [eqL, eqV]
          exact beq_ba _ _
        | _ => simp [Instr.sameNow] at hn
    unfold Instr.findNow
    rcases hs with hs | hs
    · rw [hs]
      exact .inl rfl
    · rw [hs]
      cases hc : eqL a c with
      | true =>
        right
        simp [hit, hc]
      | false =>
        simp only [hit, hc, Bool.false_eq_true, if_false]
        rcases ih with ih | ih
        · exact .inl ih
        · right
          rw [ih]
          congr 1
          cases hit a cs with
          | none => rfl
          | some j => simp [Nat.add_assoc, Nat.add_comm 1 j]

theorem findKey_run (h : shapeAt P 8 t = some ks) {d : TypeDesc} (hd : P.underlying t = some d) {a : List Value} {x : Value} (ha : fitsL ks a = true) (hx : HasCells P t x a) {es : List MapEntry} {cs : List (List Value)} (hk : KeysOf P t ks es cs) :
    (Instr.findKey t x es).run P w = .ok ((hit a cs).bind fun j => (es[j]?).map fun e => (j, e.val)) w := by
  have h1 := asking_run w h ha hx es cs 0 hk
  have h2 := now_same h hd ha hx es cs 0 hk
  simp only [Nat.zero_add] at h1 h2
  unfold Instr.findKey
  simp only [Sem.run_bind, run_underlying hd, Result.andThen_ok]
  rcases h2 with h2 | h2
  · rw [h2]
    exact h1
  · rw [h2]
    rfl

theorem basicT_one {d : Nat} {t : TypeId} {ks : List SK} (hb : basicT P t = true) (h : shapeAt P d t = some ks) : ks.length = 1 := by
  have := shape_one h
  refine this.2 ?_
  unfold basicT at hb
  unfold agOf
  split at hb
  · rename_i hu; rw [hu]
  · rename_i hu; rw [hu]
  · rename_i hu; rw [hu]
  · cases hb

theorem checkBasic_run {t : TypeId} (hb : basicT P t = true) (em : Bool) (n : Nat) (x : Value) : (Instr.checkKey em (n + 1) t x).run P w = .ok () w := by
  unfold basicT at hb
  unfold Instr.checkKey
  split at hb
  · rename_i hu
    simp only [Sem.run_bind, run_underlying hu, Result.andThen_ok]
    cases x <;> rfl
  · rename_i hu
    simp only [Sem.run_bind, run_underlying hu, Result.andThen_ok]
    cases x <;> rfl
  · rename_i hu
    simp only [Sem.run_bind, run_underlying hu, Result.andThen_ok]
    cases x <;> rfl
  · cases hb

theorem shapeFs_mem {g : TypeId → Option (List SK)} (hg : ∀ t k, basicT P t = true → g t = some k → k.length = 1) : ∀ {fs : List Field} {off : Nat} {ks : List SK}, shapeFs P g fs off = some ks → (fs.all fun f => basicT P f.type) = true →
    ∀ f, f ∈ fs → f.name ≠ "_" ∧ f.offset < off + ks.length ∧ szOf P f.type = some 1
  | [], _, _, _, _, f, hf => by cases hf
  | f0 :: fs, off, ks, h, hb, f, hf => by
    unfold shapeFs at h
    simp only [List.all_cons, Bool.and_eq_true] at hb
    split at h
    · rename_i hn
      obtain ⟨k1, h1, h⟩ := Option.bind_eq_some_iff.1 h
      split at h
      · rename_i hz
        obtain ⟨k2, h2, rfl⟩ := Option.map_eq_some_iff.1 h
        have e1 := hg _ _ hb.1 h1
        rcases List.mem_cons.1 hf with rfl | hf
        · rw [e1] at hz
          refine ⟨hn.1, ?_, hz⟩
          rw [List.length_append, hn.2]; omega
        · obtain ⟨a, b, c⟩ := shapeFs_mem hg h2 hb.2 f hf
          refine ⟨a, ?_, c⟩
          rw [List.length_append]; omega
      · cases h
    · cases h

theorem forIn_run {α : Type} {g : α → PUnit → Sem (ForInStep PUnit)} : ∀ (l : List α), (∀ x, x ∈ l → (g x ⟨⟩).run P w = .ok (.yield ⟨⟩) w) → (forIn l PUnit.unit g).run P w = .ok ⟨⟩ w
  | [], _ => by simp
  | x :: l, h => by
    simp only [List.forIn_cons, Sem.run_bind, h x (by simp), Result.andThen_ok]
    exact forIn_run l (fun y hy => h y (by simp [hy]))

theorem checkKey_run (h : shapeAt P 8 t = some ks) (hk : keyT P t = true) {a : List Value} {x : Value} (ha : fitsL ks a = true) (hx : HasCells P t x a) (em : Bool) : (Instr.checkKey em 10000 t x).run P w = .ok () w := by
  have hb : ∀ t, basicT P t = true → (Instr.checkKey em (9999 + 1) t x).run P w = .ok () w := fun t h => checkBasic_run w h em 9999 x
  unfold keyT at hk
  split at hk
  · rename_i hu; exact hb t (by unfold basicT; rw [hu])
  · rename_i hu; exact hb t (by unfold basicT; rw [hu])
  · rename_i hu; exact hb t (by unfold basicT; rw [hu])
  · rename_i fs hu
    have hag : agOf P t = some true := by unfold agOf; rw [hu]
    obtain rfl := hx.1 hag
    unfold shapeAt at h
    rw [hu] at h
    simp only at h
    split at h
    · cases h
    · have hm := shapeFs_mem (fun t k hb hk => basicT_one hb hk) h hk
      have hl := fitsL_length ha
      rw [show (10000 : Nat) = 9999 + 1 from rfl]
      unfold Instr.checkKey
      simp only [Sem.run_bind, run_underlying hu, Result.andThen_ok]
      rw [← Array.forIn_toList]
      rw [forIn_run (P := P) w _ ?_]
      · rfl
      intro f hf
      obtain ⟨m1, m2, m3⟩ := hm f hf
      have hbt := List.all_eq_true.1 hk f hf
      have hag2 : agOf P f.type = some false := by
        unfold basicT at hbt
        unfold agOf
        split at hbt
        · rename_i hu; rw [hu]
        · rename_i hu; rw [hu]
        · rename_i hu; rw [hu]
        · cases hbt
      obtain ⟨y, hy, _⟩ := part_cells w (xs := a.toArray) (off := f.offset) m3 (by rw [hag2]; rfl) (fun _ => rfl) (by simp; omega)
      simp only [if_pos m1, Sem.run_bind, hy, Result.andThen_ok, checkBasic_run w hbt em 9998 y, Sem.run_pure]
  · cases hk

theorem fits_plain {k : SK} {v : Value} (h : k.fits v = true) : plain v = true := by
  cases k <;> cases v <;> simp [SK.fits] at h <;> rfl

theorem fitsL_plain : ∀ {ks : List SK} {vs : List Value}, fitsL ks vs = true → vs.all plain = true
  | [], [], _ => rfl
  | [], _ :: _, h => by simp [fitsL] at h
  | _ :: _, [], h => by simp [fitsL] at h
  | k :: ks, v :: vs, h => by
    simp only [fitsL, Bool.and_eq_true] at h
    simp [fits_plain h.1, fitsL_plain h.2]

theorem eqV_eq {k : SK} {u v : Value} (hu : k.fits u = true) (hv : k.fits v = true) (h : eqV u v = true) : u = v := by
  cases k <;> cases u <;> cases v <;> simp [SK.fits, eqV] at hu hv h
  · subst hu; subst hv; subst h; rfl
  · subst h; rfl
  · subst h; rfl

theorem eqL_eq : ∀ {ks : List SK} {a b : List Value}, fitsL ks a = true → fitsL ks b = true → eqL a b = true → a = b
  | [], [], [], _, _, _ => rfl
  | [], _ :: _, _, h, _, _ => by simp [fitsL] at h
  | [], [], _ :: _, _, h, _ => by simp [fitsL] at h
  | _ :: _, [], _, h, _, _ => by simp [fitsL] at h
  | _ :: _, _ :: _, [], _, h, _ => by simp [fitsL] at h
  | k :: ks, u :: a, v :: b, h1, h2, h3 => by
    simp only [fitsL, Bool.and_eq_true] at h1 h2
    simp only [eqL, Bool.and_eq_true] at h3
    rw [eqV_eq h1.1 h2.1 h3.1, eqL_eq h1.2 h2.2 h3.2]

theorem HasCells.inj {a : List Value} {x y : Value} (hx : HasCells P t x a) (hy : HasCells P t y a) : x = y := by
  obtain ⟨h1, h2, h3⟩ := hx
  obtain ⟨g1, g2, g3⟩ := hy
  cases hag : agOf P t with
  | none => rw [hag] at h3; cases h3
  | some b =>
    cases b with
    | true => rw [h1 hag, g1 hag]
    | false =>
      have := (h2 hag).symm.trans (g2 hag)
      exact (List.cons.inj this).1

theorem same_fits {k : SK} {v : Value} (h : k.fits v = true) (n : Nat) : Instr.sameBits n v v = true := by
  cases k <;> cases v <;> simp [SK.fits] at h <;> simp [Instr.sameBits, beq_ba]

theorem same_fitsL : ∀ {ks : List SK} {vs : List Value}, fitsL ks vs = true → ∀ n, ∀ v, v ∈ vs → Instr.sameBits n v v = true
  | [], [], _, _, _, hv => by cases hv
  | [], _ :: _, h, _, _, _ => by simp [fitsL] at h
  | _ :: _, [], h, _, _, _ => by simp [fitsL] at h
  | k :: ks, u :: vs, h, n, v, hv => by
    simp only [fitsL, Bool.and_eq_true] at h
    rcases List.mem_cons.1 hv with rfl | hv
    · exact same_fits h.1 n
    · exact same_fitsL h.2 n v hv

theorem stays_run {a : List Value} {x : Value} (ha : fitsL ks a = true) (hx : HasCells P t x a) : (Instr.keyThatStays x x).run P w = .ok x w := by
  have hs : Instr.sameBits 10000 x x = true := by
    obtain ⟨h1, h2, h3⟩ := hx
    cases hag : agOf P t with
    | none => rw [hag] at h3; cases h3
    | some b =>
      cases b with
      | true =>
        rw [h1 hag]
        show Instr.sameBits (9999 + 1) _ _ = true
        simp only [Instr.sameBits, BEq.rfl, Bool.true_and, List.all_eq_true]
        intro p hp
        obtain ⟨i, hi⟩ := List.getElem?_of_mem hp
        rw [List.getElem?_zip_eq_some] at hi
        have e : p.1 = p.2 := by
          have := hi.1.symm.trans hi.2
          exact Option.some.inj this
        obtain ⟨u, v⟩ := p
        simp only at e
        subst e
        exact same_fitsL ha 9999 u (by have := List.mem_of_getElem? hi.1; simpa using this)
      | false =>
        have := h2 hag
        subst this
        exact same_fitsL ha 10000 x (by simp)
  unfold Instr.keyThatStays
  simp [hs]

theorem KeysOf.length : ∀ {es : List MapEntry} {cs : List (List Value)}, KeysOf P t ks es cs → cs.length = es.length
  | [], [], _ => rfl
  | [], _ :: _, h => h.elim
  | _ :: _, [], h => h.elim
  | e :: es, c :: cs, h => by simp [KeysOf.length h.2.2]

theorem KeysOf.get : ∀ {es : List MapEntry} {cs : List (List Value)} {i : Nat} {e : MapEntry} {c : List Value}, KeysOf P t ks es cs → es[i]? = some e → cs[i]? = some c → HasCells P t e.key c ∧ fitsL ks c = true
  | [], [], _, _, _, _, h, _ => by simp at h
  | [], _ :: _, _, _, _, h, _, _ => h.elim
  | _ :: _, [], _, _, _, h, _, _ => h.elim
  | e :: es, c :: cs, 0, _, _, h, h1, h2 => by
    simp at h1 h2
    subst h1; subst h2
    exact ⟨h.1, h.2.1⟩
  | e :: es, c :: cs, i + 1, _, _, h, h1, h2 => by
    simp at h1 h2
    exact KeysOf.get h.2.2 h1 h2

theorem hit_some : ∀ {cs : List (List Value)} {a : List Value} {j : Nat}, hit a cs = some j → ∃ c, cs[j]? = some c ∧ eqL a c = true
  | [], _, _, h => by simp [hit] at h
  | c :: cs, a, j, h => by
    unfold hit at h
    split at h
    · rename_i hc; cases h; exact ⟨c, by simp, hc⟩
    · obtain ⟨i, hi, rfl⟩ := Option.map_eq_some_iff.1 h
      obtain ⟨c', h1, h2⟩ := hit_some hi
      exact ⟨c', by simpa using h1, h2⟩

end
end Go.AM
