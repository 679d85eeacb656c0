/- Several texts of the abstract machine in one. No condition. -/
import Derived.Test.YtogokiglmhnjkaaLabPackA
import Derived.Orders
set_option linter.unusedVariables false
set_option linter.unusedSimpArgs false
namespace Go.AM

theorem beq_ba (s s' : ByteArray) : (s == s') = decide (s = s') := by
  rcases s with ⟨a⟩
  rcases s' with ⟨b⟩
  show (a == b) = _
  rw [Bool.eq_iff_iff]
  simp

section
variable {P : Program} (w : World) {t : TypeId} {ks : List SK}

/-- The keys of these entries have these cells. -/
def KeysOf (P : Program) (t : TypeId) (ks : List SK) : List MapEntry → List (List Value) → Prop
  | [], [] => True
  | e :: es, c :: cs => HasCells P t e.key c ∧ fitsL ks c = true ∧ KeysOf P t ks es cs
  | _, _ => False

theorem equal_run (h : shapeAt P 8 t = some ks) {a b : List Value} {x y : Value} (ha : fitsL ks a = true) (hb : fitsL ks b = true) (hx : HasCells P t x a) (hy : HasCells P t y b) : (Op.equal t x y).run P w = .ok (eqL a b) w :=
  equalIn_run w 8 9992 t ks h a b x y ha hb hx hy

theorem asking_run (h : shapeAt P 8 t = some ks) {a : List Value} {x : Value} (ha : fitsL ks a = true) (hx : HasCells P t x a) : ∀ (es : List MapEntry) (cs : List (List Value)) (i : Nat), KeysOf P t ks es cs →
    (Instr.findAsking t x es i).run P w = .ok ((hit a cs).bind fun j => (es[j]?).map fun e => (i + j, e.val)) w
  | [], [], i, _ => by simp [Instr.findAsking, hit]
  | [], _ :: _, _, hk => hk.elim
  | _ :: _, [], _, hk => hk.elim
  | e :: es, c :: cs, i, ⟨h1, h2, h3⟩ => by
    have ih := asking_run h ha hx es cs (i + 1) h3
    simp only [Instr.findAsking, Sem.run_bind, equal_run w h ha h2 hx h1, Result.andThen_ok, hit]
    cases hc : eqL a c with
    | true => simp
    | false =>
      simp only [Bool.false_eq_true, if_false]
      rw [ih]
      congr 1
      cases hit a cs with
      | none => rfl
      | some j => simp [Nat.add_assoc, Nat.add_comm 1 j]

/-- Where the kind can be seen at once the answer is the same. -/
theorem now_same (h : shapeAt P 8 t = some ks) {d : TypeDesc} (hd : P.underlying t = some d) {a : List Value} {x : Value} (ha : fitsL ks a = true) (hx : HasCells P t x a) : ∀ (es : List MapEntry) (cs : List (List Value)) (i : Nat), KeysOf P t ks es cs →
    Instr.findNow d x es i = none ∨ Instr.findNow d x es i = some ((hit a cs).bind fun j => (es[j]?).map fun e => (i + j, e.val))
  | [], [], i, _ => by simp [Instr.findNow, hit]
  | [], _ :: _, _, hk => hk.elim
  | _ :: _, [], _, hk => hk.elim
  | e :: es, c :: cs, i, ⟨h1, h2, h3⟩ => by
    have ih := now_same h hd ha hx es cs (i + 1) h3
    have hs : Instr.sameNow d x e.key = none ∨ Instr.sameNow d x e.key = some (eqL a c) := by
      cases hn : Instr.sameNow d x e.key with
      | none => exact .inl rfl
      | some b =>
        right
        have one : agOf P t = some false → a = [x] ∧ c = [e.key] := fun hag => ⟨hx.2.1 hag, h1.2.1 hag⟩
        cases d with
        | int k =>
          obtain ⟨rfl, rfl⟩ := one (by unfold agOf; rw [hd])
          generalize e.key = y at hn h1 h2
          cases x <;> cases y <;> simp only [Instr.sameNow] at hn <;> try cases hn
          split at hn
          · rename_i hk
            subst hk
            cases hn
            simp [eqL, eqV]
            first | done | rfl
          · cases hn
        | bool =>
          obtain ⟨rfl, rfl⟩ := one (by unfold agOf; rw [hd])
          generalize e.key = y at hn h1 h2
          cases x <;> cases y <;> simp only [Instr.sameNow] at hn <;> try cases hn
          simp [eqL, eqV]
        | string =>
          obtain ⟨rfl, rfl⟩ := one (by unfold agOf; rw [hd])
          generalize e.key = y at hn h1 h2
          cases x <;> cases y <;> simp only [Instr.sameNow] at hn <;> try cases hn
          simp [eqL, eqV]
          exact beq_ba _ _
        | _ => simp [Instr.sameNow] at hn
    unfold Instr.findNow
    rcases hs with hs | hs
    · rw [hs]
      exact .inl rfl
    · rw [hs]
      cases hc : eqL a c with
      | true =>
        right
        simp [hit, hc]
      | false =>
        simp only [hit, hc, Bool.false_eq_true, if_false]
        rcases ih with ih | ih
        · exact .inl ih
        · right
          rw [ih]
          congr 1
          cases hit a cs with
          | none => rfl
          | some j => simp [Nat.add_assoc, Nat.add_comm 1 j]

theorem findKey_run (h : shapeAt P 8 t = some ks) {d : TypeDesc} (hd : P.underlying t = some d) {a : List Value} {x : Value} (ha : fitsL ks a = true) (hx : HasCells P t x a) {es : List MapEntry} {cs : List (List Value)} (hk : KeysOf P t ks es cs) :
    (Instr.findKey t x es).run P w = .ok ((hit a cs).bind fun j => (es[j]?).map fun e => (j, e.val)) w := by
  have h1 := asking_run w h ha hx es cs 0 hk
  have h2 := now_same h hd ha hx es cs 0 hk
  simp only [Nat.zero_add] at h1 h2
  unfold Instr.findKey
  simp only [Sem.run_bind, run_underlying hd, Result.andThen_ok]
  rcases h2 with h2 | h2
  · rw [h2]
    exact h1
  · rw [h2]
    rfl

theorem basicT_one {d : Nat} {t : TypeId} {ks : List SK} (hb : basicT P t = true) (h : shapeAt P d t = some ks) : ks.length = 1 := by
  have := shape_one h
  refine this.2 ?_
  unfold basicT at hb
  unfold agOf
  split at hb
  · rename_i hu; rw [hu]
  · rename_i hu; rw [hu]
  · rename_i hu; rw [hu]
  · cases hb

theorem checkBasic_run {t : TypeId} (hb : basicT P t = true) (em : Bool) (n : Nat) (x : Value) : (Instr.checkKey em (n + 1) t x).run P w = .ok () w := by
  unfold basicT at hb
  unfold Instr.checkKey
  split at hb
  · rename_i hu
    simp only [Sem.run_bind, run_underlying hu, Result.andThen_ok]
    cases x <;> rfl
  · rename_i hu
    simp only [Sem.run_bind, run_underlying hu, Result.andThen_ok]
    cases x <;> rfl
  · rename_i hu
    simp only [Sem.run_bind, run_underlying hu, Result.andThen_ok]
    cases x <;> rfl
  · cases hb

theorem shapeFs_mem {g : TypeId → Option (List SK)} (hg : ∀ t k, basicT P t = true → g t = some k → k.length = 1) : ∀ {fs : List Field} {off : Nat} {ks : List SK}, shapeFs P g fs off = some ks → (fs.all fun f => basicT P f.type) = true →
    ∀ f, f ∈ fs → f.name ≠ "_" ∧ f.offset < off + ks.length ∧ szOf P f.type = some 1
  | [], _, _, _, _, f, hf => by cases hf
  | f0 :: fs, off, ks, h, hb, f, hf => by
    unfold shapeFs at h
    simp only [List.all_cons, Bool.and_eq_true] at hb
    split at h
    · rename_i hn
      obtain ⟨k1, h1, h⟩ := Option.bind_eq_some_iff.1 h
      split at h
      · rename_i hz
        obtain ⟨k2, h2, rfl⟩ := Option.map_eq_some_iff.1 h
        have e1 := hg _ _ hb.1 h1
        rcases List.mem_cons.1 hf with rfl | hf
        · rw [e1] at hz
          refine ⟨hn.1, ?_, hz⟩
          rw [List.length_append, hn.2]; omega
        · obtain ⟨a, b, c⟩ := shapeFs_mem hg h2 hb.2 f hf
          refine ⟨a, ?_, c⟩
          rw [List.length_append]; omega
      · cases h
    · cases h

theorem forIn_run {α : Type} {g : α → PUnit → Sem (ForInStep PUnit)} : ∀ (l : List α), (∀ x, x ∈ l → (g x ⟨⟩).run P w = .ok (.yield ⟨⟩) w) → (forIn l PUnit.unit g).run P w = .ok ⟨⟩ w
  | [], _ => by simp
  | x :: l, h => by
    simp only [List.forIn_cons, Sem.run_bind, h x (by simp), Result.andThen_ok]
    exact forIn_run l (fun y hy => h y (by simp [hy]))

theorem checkKey_run (h : shapeAt P 8 t = some ks) (hk : keyT P t = true) {a : List Value} {x : Value} (ha : fitsL ks a = true) (hx : HasCells P t x a) (em : Bool) : (Instr.checkKey em 10000 t x).run P w = .ok () w := by
  have hb : ∀ t, basicT P t = true → (Instr.checkKey em (9999 + 1) t x).run P w = .ok () w := fun t h => checkBasic_run w h em 9999 x
  unfold keyT at hk
  split at hk
  · rename_i hu; exact hb t (by unfold basicT; rw [hu])
  · rename_i hu; exact hb t (by unfold basicT; rw [hu])
  · rename_i hu; exact hb t (by unfold basicT; rw [hu])
  · rename_i fs hu
    have hag : agOf P t = some true := by unfold agOf; rw [hu]
    obtain rfl := hx.1 hag
    unfold shapeAt at h
    rw [hu] at h
    simp only at h
    split at h
    · cases h
    · have hm := shapeFs_mem (fun t k hb hk => basicT_one hb hk) h hk
      have hl := fitsL_length ha
      rw [show (10000 : Nat) = 9999 + 1 from rfl]
      unfold Instr.checkKey
      simp only [Sem.run_bind, run_underlying hu, Result.andThen_ok]
      rw [← Array.forIn_toList]
      rw [forIn_run (P := P) w _ ?_]
      · rfl
      intro f hf
      obtain ⟨m1, m2, m3⟩ := hm f hf
      have hbt := List.all_eq_true.1 hk f hf
      have hag2 : agOf P f.type = some false := by
        unfold basicT at hbt
        unfold agOf
        split at hbt
        · rename_i hu; rw [hu]
        · rename_i hu; rw [hu]
        · rename_i hu; rw [hu]
        · cases hbt
      obtain ⟨y, hy, _⟩ := part_cells w (xs := a.toArray) (off := f.offset) m3 (by rw [hag2]; rfl) (fun _ => rfl) (by simp; omega)
      simp only [if_pos m1, Sem.run_bind, hy, Result.andThen_ok, checkBasic_run w hbt em 9998 y, Sem.run_pure]
  · cases hk

theorem fits_plain {k : SK} {v : Value} (h : k.fits v = true) : plain v = true := by
  cases k <;> cases v <;> simp [SK.fits] at h <;> rfl

theorem fitsL_plain : ∀ {ks : List SK} {vs : List Value}, fitsL ks vs = true → vs.all plain = true
  | [], [], _ => rfl
  | [], _ :: _, h => by simp [fitsL] at h
  | _ :: _, [], h => by simp [fitsL] at h
  | k :: ks, v :: vs, h => by
    simp only [fitsL, Bool.and_eq_true] at h
    simp [fits_plain h.1, fitsL_plain h.2]

theorem eqV_eq {k : SK} {u v : Value} (hu : k.fits u = true) (hv : k.fits v = true) (h : eqV u v = true) : u = v := by
  cases k <;> cases u <;> cases v <;> simp [SK.fits, eqV] at hu hv h
  · subst hu; subst hv; subst h; rfl
  · subst h; rfl
  · subst h; rfl

theorem eqL_eq : ∀ {ks : List SK} {a b : List Value}, fitsL ks a = true → fitsL ks b = true → eqL a b = true → a = b
  | [], [], [], _, _, _ => rfl
  | [], _ :: _, _, h, _, _ => by simp [fitsL] at h
  | [], [], _ :: _, _, h, _ => by simp [fitsL] at h
  | _ :: _, [], _, h, _, _ => by simp [fitsL] at h
  | _ :: _, _ :: _, [], _, h, _ => by simp [fitsL] at h
  | k :: ks, u :: a, v :: b, h1, h2, h3 => by
    simp only [fitsL, Bool.and_eq_true] at h1 h2
    simp only [eqL, Bool.and_eq_true] at h3
    rw [eqV_eq h1.1 h2.1 h3.1, eqL_eq h1.2 h2.2 h3.2]

theorem HasCells.inj {a : List Value} {x y : Value} (hx : HasCells P t x a) (hy : HasCells P t y a) : x = y := by
  obtain ⟨h1, h2, h3⟩ := hx
  obtain ⟨g1, g2, g3⟩ := hy
  cases hag : agOf P t with
  | none => rw [hag] at h3; cases h3
  | some b =>
    cases b with
    | true => rw [h1 hag, g1 hag]
    | false =>
      have := (h2 hag).symm.trans (g2 hag)
      exact (List.cons.inj this).1

theorem same_fits {k : SK} {v : Value} (h : k.fits v = true) (n : Nat) : Instr.sameBits n v v = true := by
  cases k <;> cases v <;> simp [SK.fits] at h <;> simp [Instr.sameBits, beq_ba]

theorem same_fitsL : ∀ {ks : List SK} {vs : List Value}, fitsL ks vs = true → ∀ n, ∀ v, v ∈ vs → Instr.sameBits n v v = true
  | [], [], _, _, _, hv => by cases hv
  | [], _ :: _, h, _, _, _ => by simp [fitsL] at h
  | _ :: _, [], h, _, _, _ => by simp [fitsL] at h
  | k :: ks, u :: vs, h, n, v, hv => by
    simp only [fitsL, Bool.and_eq_true] at h
    rcases List.mem_cons.1 hv with rfl | hv
    · exact same_fits h.1 n
    · exact same_fitsL h.2 n v hv

theorem stays_run {a : List Value} {x : Value} (ha : fitsL ks a = true) (hx : HasCells P t x a) : (Instr.keyThatStays x x).run P w = .ok x w := by
  have hs : Instr.sameBits 10000 x x = true := by
    obtain ⟨h1, h2, h3⟩ := hx
    cases hag : agOf P t with
    | none => rw [hag] at h3; cases h3
    | some b =>
      cases b with
      | true =>
        rw [h1 hag]
        show Instr.sameBits (9999 + 1) _ _ = true
        simp only [Instr.sameBits, BEq.rfl, Bool.true_and, List.all_eq_true]
        intro p hp
        obtain ⟨i, hi⟩ := List.getElem?_of_mem hp
        rw [List.getElem?_zip_eq_some] at hi
        have e : p.1 = p.2 := by
          have := hi.1.symm.trans hi.2
          exact Option.some.inj this
        obtain ⟨u, v⟩ := p
        simp only at e
        subst e
        exact same_fitsL ha 9999 u (by have := List.mem_of_getElem? hi.1; simpa using this)
      | false =>
        have := h2 hag
        subst this
        exact same_fitsL ha 10000 x (by simp)
  unfold Instr.keyThatStays
  simp [hs]

theorem KeysOf.length : ∀ {es : List MapEntry} {cs : List (List Value)}, KeysOf P t ks es cs → cs.length = es.length
  | [], [], _ => rfl
  | [], _ :: _, h => h.elim
  | _ :: _, [], h => h.elim
  | e :: es, c :: cs, h => by simp [KeysOf.length h.2.2]

theorem KeysOf.get : ∀ {es : List MapEntry} {cs : List (List Value)} {i : Nat} {e : MapEntry} {c : List Value}, KeysOf P t ks es cs → es[i]? = some e → cs[i]? = some c → HasCells P t e.key c ∧ fitsL ks c = true
  | [], [], _, _, _, _, h, _ => by simp at h
  | [], _ :: _, _, _, _, h, _, _ => h.elim
  | _ :: _, [], _, _, _, h, _, _ => h.elim
  | e :: es, c :: cs, 0, _, _, h, h1, h2 => by
    simp at h1 h2
    subst h1; subst h2
    exact ⟨h.1, h.2.1⟩
  | e :: es, c :: cs, i + 1, _, _, h, h1, h2 => by
    simp at h1 h2
    exact KeysOf.get h.2.2 h1 h2

theorem hit_some : ∀ {cs : List (List Value)} {a : List Value} {j : Nat}, hit a cs = some j → ∃ c, cs[j]? = some c ∧ eqL a c = true
  | [], _, _, h => by simp [hit] at h
  | c :: cs, a, j, h => by
    unfold hit at h
    split at h
    · rename_i hc; cases h; exact ⟨c, by simp, hc⟩
    · obtain ⟨i, hi, rfl⟩ := Option.map_eq_some_iff.1 h
      obtain ⟨c', h1, h2⟩ := hit_some hi
      exact ⟨c', by simpa using h1, h2⟩

end
end Go.AM

set_option linter.unusedVariables false
set_option linter.unusedSimpArgs false
namespace Go.AM

section
variable {P : Program} {base : Nat} {X : Nat → Prop} {o : Oper} {a : Act} {w : World} {H H' : Heap} {G : List Nat} {v : V} {t : Nat → V}

theorem getObjM {r : Nat} {es : Array MapEntry} {clock : Nat} (hb : w.heap[r]? = some (.map es clock)) : (getObj r).run P w = .ok (.map es clock) w := by
  simp [getObj, Sem.run, hb]

theorem setObjM {r : Nat} {es : Array MapEntry} {clock : Nat} (o : Obj) (hb : w.heap[r]? = some (.map es clock)) : (setObj r o).run P w = .ok () { w with heap := w.heap.setIfInBounds r o } := by
  simp [setObj, Sem.run, hb]

theorem heap_setM {r : Nat} {o o' : Obj} (hb : w.heap[r]? = some o) : (w.heap.setIfInBounds r o')[r]? = some o' ∧ ∀ r', r' ≠ r → (w.heap.setIfInBounds r o')[r']? = w.heap[r']? := by
  have hlt : r < w.heap.size := (Array.getElem?_eq_some_iff.1 hb).1
  exact ⟨by simp [hlt], fun r' hne => by simp [Ne.symm hne]⟩

theorem scals_ok {cs : List V} {vs l : List Value} : RVL w base (Mof X H G) H G cs vs → cs.mapM scal = some l → vs = l := by
  intro h hm
  induction h using RVL.rec (motive_1 := fun _ _ _ => True) generalizing l with
  | nil => simp at hm; exact hm.symm
  | @cons x v xs vs a b _ ih =>
    simp only [List.mapM_cons, Option.bind_eq_bind] at hm
    obtain ⟨u, hu, hm⟩ := Option.bind_eq_some_iff.1 hm
    obtain ⟨us, h1, h2⟩ := Option.bind_eq_some_iff.1 hm
    simp at h2
    subst h2
    rw [ih h1]
    congr 1
    unfold scal at hu
    split at hu
    · cases hu
      cases a with
      | i hi => cases hi; rfl
    · cases hu
  | _ => trivial

theorem scalsV_ok {x : V} {v : Value} {l : List Value} (h : RV w base (Mof X H G) H G x v) (hs : scalsV x = some l) : v = .agg l.toArray := by
  unfold scalsV at hs
  split at hs
  · cases h with
    | agg hl =>
      have := scals_ok hl hs
      rw [← this]
  · cases h with
    | i hi =>
      cases hi with
      | agg hl =>
        have := RL.scal hl hs
        rw [← this]
  · cases hs

/-- What is known of a map's keys. -/
theorem keyOf_ok {kt : TypeId} {kg : Bool} {ks : List SK} (h : keyOf P kt = some (kg, ks)) : keyT P kt = true ∧ shapeAt P 8 kt = some ks ∧ agOf P kt = some kg := by
  unfold keyOf at h
  split at h
  · rename_i hk
    obtain ⟨k, h1, h⟩ := Option.bind_eq_some_iff.1 h
    obtain ⟨g, h2, h3⟩ := Option.map_eq_some_iff.1 h
    cases h3
    exact ⟨hk, h1, h2⟩
  · cases h

theorem keyOf_desc {kt : TypeId} {kg : Bool} {ks : List SK} (h : keyOf P kt = some (kg, ks)) : ∃ d, P.underlying kt = some d := by
  have := (keyOf_ok h).2.2
  unfold agOf at this
  cases hu : P.underlying kt with
  | none => rw [hu] at this; cases this
  | some d => exact ⟨d, rfl⟩

theorem keyV_ok {kt : TypeId} {kg : Bool} {x : V} {u : Value} {l : List Value} (hag : agOf P kt = some kg) (h : RV w base (Mof X H G) H G x u) (hk : keyV kg x = some l) : HasCells P kt u l := by
  unfold keyV at hk
  cases kg with
  | true =>
    simp only [if_true] at hk
    have := scalsV_ok h hk
    exact ⟨fun _ => this, (fun e => by rw [hag] at e; cases e), by rw [hag]; rfl⟩
  | false =>
    simp only [Bool.false_eq_true, if_false] at hk
    obtain ⟨y, hy, rfl⟩ := Option.map_eq_some_iff.1 hk
    refine ⟨(fun e => by rw [hag] at e; cases e), fun _ => ?_, by rw [hag]; rfl⟩
    unfold scal at hy
    split at hy
    · cases hy
      cases h with
      | i hi => cases hi; rfl
    · cases hy

theorem keyI_ok {M : Nat → Prop} {kt : TypeId} {kg : Bool} {x : I} {u : Value} {l : List Value} (hag : agOf P kt = some kg) (h : RI w M x u) (hk : keyI kg x = some l) : HasCells P kt u l := by
  unfold keyI at hk
  split at hk
  · split at hk
    · rename_i hb
      subst hb
      cases h with
      | agg hl =>
        have := RL.scal hl hk
        exact ⟨fun _ => by rw [← this], (fun e => by rw [hag] at e; cases e), by rw [hag]; rfl⟩
    · cases hk
  · split at hk
    · cases hk
    · rename_i hb
      simp only [Bool.not_eq_true] at hb
      subst hb
      cases hk
      cases h
      exact ⟨(fun e => by rw [hag] at e; cases e), fun _ => rfl, by rw [hag]; rfl⟩
  · cases hk

theorem keysI_ok {M : Nat → Prop} {kt : TypeId} {kg : Bool} {ks : List SK} (hag : agOf P kt = some kg) : ∀ {kl : List I} {es : List MapEntry} {cs : List (List Value)}, RL w M kl (es.map (·.key)) → keysI kg ks kl = some cs → KeysOf P kt ks es cs := by
  intro kl es cs hl hk
  unfold keysI at hk
  obtain ⟨h1, h2⟩ := Option.filter_eq_some_iff.1 hk
  clear hk
  induction kl generalizing es cs with
  | nil =>
    simp at h1; subst h1
    cases es with
    | nil => trivial
    | cons e es => cases hl
  | cons x kl ih =>
    simp only [List.mapM_cons, Option.bind_eq_bind] at h1
    obtain ⟨c, hc, h1⟩ := Option.bind_eq_some_iff.1 h1
    obtain ⟨cs', h3, h4⟩ := Option.bind_eq_some_iff.1 h1
    simp at h4
    subst h4
    cases es with
    | nil => cases hl
    | cons e es =>
      simp only [List.all_cons, Bool.and_eq_true] at h2
      cases hl with
      | cons a b => exact ⟨keyI_ok hag a hc, h2.1, ih b h3 h2.2⟩

theorem keyP_ok {M : Nat → Prop} {kt : TypeId} {kg : Bool} {ks : List SK} {u : Value} {l : List Value} (hag : agOf P kt = some kg) (hc : HasCells P kt u l) (hf : fitsL ks l = true) : RI w M (keyP kg l) u := by
  unfold keyP
  cases kg with
  | true =>
    simp only [if_true]
    rw [hc.1 hag]
    exact .agg (RL.of_plain _ (fitsL_plain hf))
  | false =>
    simp only [Bool.false_eq_true, if_false]
    have := hc.2.1 hag
    subst this
    have := fitsL_plain hf
    simp at this
    exact .s this

theorem map_at {x : V} {u : Value} {b : Nat} {kl : List I} {vl : List V} (hS : SimH base X w H G) (h : mapAt H x = some (b, kl, vl)) (hv : RV w base (Mof X H G) H G x u) :
    ∃ (k : Nat) (es : Array MapEntry) (clock : Nat), u = .map (some k) ∧ G[b]? = some k ∧ H[b]? = some (.map kl vl) ∧ w.heap[k]? = some (.map es clock) ∧ RL w (fun _ => True) kl (es.toList.map (·.key)) ∧
      RVL w base (Mof X H G) H G vl (es.toList.map (·.val)) ∧ es.toList.map (·.born) = List.range es.size ∧ clock = es.size := by
  unfold mapAt at h
  split at h
  · split at h
    · rename_i hb
      cases h
      obtain ⟨k, c1, c2, c3, c4, es, clock, c5, c6, c7, c8, c9⟩ := hS.block _ _ hb rfl
      cases hv with
      | mp hu hm =>
        have := hm _ _ hb
        rw [getD_of c1] at this
        subst this
        exact ⟨_, es, clock, rfl, c1, hb, c5, c6, c7, c8, c9⟩
    · cases h
  · cases h

theorem map_rd {x : V} {u : Value} {b : Nat} {kl : List I} {vl : List V} (hS : SimH base X w H G) (h : mapR H x = some (b, kl, vl)) (hv : RV w base (Mof X H G) H G x u) :
    ∃ (M : Nat → Prop) (k : Nat) (es : Array MapEntry) (clock : Nat), u = .map (some k) ∧ w.heap[k]? = some (.map es clock) ∧ RL w M kl (es.toList.map (·.key)) ∧ RVL w base (Mof X H G) H G vl (es.toList.map (·.val)) := by
  unfold mapR at h
  split at h
  · cases h
    cases hv with
    | i hi =>
      cases hi with
      | im h1 h2 h3 h4 => exact ⟨_, _, _, _, rfl, h2, h3, h4.toV⟩
  · obtain ⟨r, es, clock, e1, e2, e3, e4, e5, e6, e7, e8⟩ := map_at hS h hv
    exact ⟨_, r, es, clock, e1, e4, e5, e6⟩

/-- A map has other entries. -/
theorem mapch_ok {b k : Nat} {kl kl' : List I} {vl vl' : List V} {es es' : Array MapEntry} {clock clock' : Nat} (hS : SimH base X w H G) (hb : H[b]? = some (.map kl vl)) (hg : G[b]? = some k) (hw : w.heap[k]? = some (.map es clock))
    (hk : RL w (fun _ => True) kl' (es'.toList.map (·.key))) (hv : RVL w base (Mof X H G) H G vl' (es'.toList.map (·.val))) (hp : es'.toList.map (·.born) = List.range es'.size) (hc : clock' = es'.size) :
    Ext w H G { w with heap := w.heap.setIfInBounds k (.map es' clock') } (H.set b (.map kl' vl')) G ∧ SimH base X { w with heap := w.heap.setIfInBounds k (.map es' clock') } (H.set b (.map kl' vl')) G := by
  have hlt : b < H.length := (List.getElem?_eq_some_iff.1 hb).1
  have hset : (H.set b (.map kl' vl'))[b]? = some (.map kl' vl') := by simp [hlt]
  have hne : ∀ b', b' ≠ b → (H.set b (.map kl' vl'))[b']? = H[b']? := fun b' h => List.getElem?_set_ne (Ne.symm h)
  obtain ⟨g1, g2⟩ := heap_setM (o' := .map es' clock') hw
  have hE : Ext w H G { w with heap := w.heap.setIfInBounds k (.map es' clock') } (H.set b (.map kl' vl')) G :=
    Ext.change hS b _ _ k k hb rfl hg hne (fun _ _ => rfl) hset hg (.inl rfl) rfl rfl rfl rfl (by simp) (fun k1 _ h => g2 k1 h)
  refine ⟨hE, hS.upd b _ k (by simp [hS.len]) hne (fun _ _ => rfl) hset hE ?_ ?_⟩
  · intro b1 s1 k1 h1 h2 h3 h4
    refine g2 k1 ?_
    rintro rfl
    exact h1 (hS.inj b1 b s1 _ _ h2 h3 hb rfl h4 hg)
  · intro _
    obtain ⟨k2, c1, _, c3, _⟩ := hS.block b _ hb rfl
    rw [hg] at c1
    cases c1
    refine ⟨hg, by simpa using c3, .inl ⟨_, hb, rfl, hg⟩, es', clock', g1, ?_, hv.ext hE, hp, hc⟩
    exact RL.goes (w := w) (M := fun _ => True) (M' := fun _ => True) ⟨hE.size, fun _ _ hn => absurd trivial hn, fun _ _ hn => hn⟩ hk

theorem zeroV_ok {t : TypeId} {ag : Bool} {zs : List Value} (h : zeroV P t = some (ag, zs)) : ∃ u, (∀ w, (zeroValue t).run P w = .ok u w) ∧ ∀ v, rowV ag (ivs zs) = some v → RV w base (Mof X H G) H G v u := by
  unfold zeroV at h
  obtain ⟨u, h1, h⟩ := Option.bind_eq_some_iff.1 h
  obtain ⟨i, h5, h6⟩ := Option.bind_eq_some_iff.1 h1
  refine ⟨u, fun w => by simp [zeroValue, typeInfo, h5, h6], ?_⟩
  intro v hv
  split at h
  · split at h
    · rename_i hp
      cases h
      simp only [rowV, if_true, Option.some.injEq] at hv
      subst hv
      exact .agg (ivs_ok hp)
    · cases h
  · split at h
    · rename_i hp
      cases h
      simp [rowV, ivs] at hv
      subst hv
      exact .i (.s hp)
    · cases h

theorem ok_makeMap {slot : Option Nat} {ty : TypeId} {b : Nat} (hS : SimH base X w H G) (ho : o.op = .makeMap ty none) (hn : newSlot slot H (.map [] []) = some (b, H')) : StepOK P base X o a w H G (.mp b) H' := by
  obtain ⟨G', h1, h2, h3, h4, h5, h6⟩ := newSlot_at hS.len w.heap.size hn
  have hE : Ext w H G (w.alloc (.map #[] 0)) H' G' :=
    Ext.new hS b _ w.heap.size (.inl h1) h2 h3 h4 (fun _ => h5) (Nat.le_refl _) rfl rfl rfl (by simp) (fun k hk => heap_push_lt _ _ _ hk)
  refine StepOK.value' (x := .map (some w.heap.size)) (w' := w.alloc (.map #[] 0)) (G' := G') ?_ hE ?_ ?_
  · simp [execOp, ho, Instr.makeMap]
  · refine hS.upd b _ w.heap.size h6 h2 h3 h4 hE ?_ ?_
    · intro b1 s1 k1 hne hb1 hl1 hg1
      obtain ⟨k, c1, _, c3, _⟩ := hS.block b1 s1 hb1 hl1
      rw [c1] at hg1
      cases hg1
      exact heap_push_lt _ _ _ c3
    · intro _
      exact ⟨h5, by simp, .inr (Nat.le_refl _), #[], 0, heap_push_new _ _, .nil, .nil, rfl, rfl⟩
  · exact .mp ⟨_, h4, by intro e; cases e⟩ (fun ks vs _ => (getD_of h5).symm)

theorem hit_lt : ∀ {cs : List (List Value)} {l : List Value} {j : Nat}, hit l cs = some j → j < cs.length := by
  intro cs l j h
  obtain ⟨c, h1, _⟩ := hit_some h
  exact (List.getElem?_eq_some_iff.1 h1).1

theorem ok_lookup {mt kt e : TypeId} {kg ag ok : Bool} {ks : List SK} {zero : List Value} {m k : Operand} {q : Nat × List I × List V} {l : List Value} {cs : List (List Value)} (hS : SimH base X w H G) (hT : TV w base (Mof X H G) H G t a.tmps)
    (ho : o.op = .lookup mt m k ok) (hu : P.underlying mt = some (.map kt e)) (hk : keyOf P kt = some (kg, ks)) (hz : zeroV P e = some (ag, zero)) (hm : mapR H (St.ev ⟨t, H⟩ m) = some q) (hl : keyV kg (St.ev ⟨t, H⟩ k) = some l)
    (hc : keysI kg ks q.2.1 = some cs) (hf : fitsL ks l = true) (hv : lookV ag zero q.2.2 (hit l cs) = some v) :
    StepOK P base X o a w H G (if ok then .tup [v, .i (.s (.bool (hit l cs).isSome))] else v) H := by
  obtain ⟨b, kl, vl⟩ := q
  obtain ⟨M0, r, es, clock, e1, e4, e5, e6⟩ := map_rd hS hm (ev_ok (h := H) hT m)
  obtain ⟨k1, k2, k3⟩ := keyOf_ok hk
  obtain ⟨d, hd⟩ := keyOf_desc hk
  have hx := keyV_ok (P := P) k3 (ev_ok (h := H) hT k) hl
  have hks := keysI_ok (P := P) k3 e5 hc
  have hck := checkKey_run w k2 k1 hf hx es.isEmpty
  have hfk := findKey_run w k2 hd hf hx hks
  obtain ⟨z, hz1, hz2⟩ := zeroV_ok (w := w) (base := base) (X := X) (H := H) (G := G) hz
  have key : ∃ (u : Value), RV w base (Mof X H G) H G v u ∧ (Instr.lookup mt (a.eval m) (a.eval k) ok).run P w = .ok (if ok then .tuple #[u, .bool (hit l cs).isSome] else u) w := by
    cases hh : hit l cs with
    | none =>
      rw [hh] at hv hfk
      refine ⟨z, hz2 v hv, ?_⟩
      simp only [Option.bind_none] at hfk
      simp only [Instr.lookup, Sem.run_bind, run_underlying hu, Result.andThen_ok, e1, getObjM e4, hck, hfk, hz1, Sem.run_pure, Option.isSome_none]
    | some j =>
      have hj := hit_lt hh
      rw [hh] at hv hfk
      simp only [lookV] at hv
      obtain ⟨u, hu1, hu2⟩ := e6.get j v hv
      simp only [List.getElem?_map] at hu1
      obtain ⟨en, hen, hu1⟩ := Option.map_eq_some_iff.1 hu1
      refine ⟨u, hu2, ?_⟩
      simp only [Option.bind_some, hen, Option.map_some, hu1] at hfk
      simp only [Instr.lookup, Sem.run_bind, run_underlying hu, Result.andThen_ok, e1, getObjM e4, hck, hfk, Sem.run_pure, Option.isSome_some]
  obtain ⟨u, hu1, hu2⟩ := key
  refine StepOK.value (x := if ok then .tuple #[u, .bool (hit l cs).isSome] else u) hS ?_ ?_
  · simp only [execOp, ho, Sem.run_bind, hu2, Result.andThen_ok, Sem.run_pure]
  · cases ok with
    | true => exact .tup (.cons hu1 (.cons (.i (.s rfl)) .nil))
    | false => exact hu1

theorem map_modify (f : MapEntry → MapEntry) (es : Array MapEntry) (j : Nat) : (es.modify j f).toList = es.toList.modify j f := by
  simp

theorem ok_mapSet {mt kt e : TypeId} {kg : Bool} {ks : List SK} {m k x : Operand} {q : Nat × List I × List V} {l : List Value} {cs : List (List Value)} (hS : SimH base X w H G) (hT : TV w base (Mof X H G) H G t a.tmps)
    (ho : o.op = .mapUpdate mt m k x ∨ o.op = .insert mt m k x) (hu : P.underlying mt = some (.map kt e)) (hk : keyOf P kt = some (kg, ks)) (hm : mapAt H (St.ev ⟨t, H⟩ m) = some q) (hl : keyV kg (St.ev ⟨t, H⟩ k) = some l)
    (hc : keysI kg ks q.2.1 = some cs) (hf : fitsL ks l = true) :
    StepOK P base X o a w H G undefV (H.set q.1 (setM kg l (St.ev ⟨t, H⟩ x) q.2.1 q.2.2 (hit l cs))) := by
  obtain ⟨b, kl, vl⟩ := q
  obtain ⟨r, es, clock, e1, e2, e3, e4, e5, e6, e7, e8⟩ := map_at hS hm (ev_ok (h := H) hT m)
  obtain ⟨k1, k2, k3⟩ := keyOf_ok hk
  obtain ⟨d, hd⟩ := keyOf_desc hk
  have hx := keyV_ok (P := P) k3 (ev_ok (h := H) hT k) hl
  have hks := keysI_ok (P := P) k3 e5 hc
  have hck := checkKey_run w k2 k1 hf hx false
  have hfk := findKey_run w k2 hd hf hx hks
  have hxv := ev_ok (h := H) hT x
  have key : ∃ (es' : Array MapEntry) (clock' : Nat) (kl' : List I) (vl' : List V), setM kg l (St.ev ⟨t, H⟩ x) kl vl (hit l cs) = .map kl' vl' ∧ (Instr.mapUpdate mt (a.eval m) (a.eval k) (a.eval x)).run P w = .ok () { w with heap := w.heap.setIfInBounds r (.map es' clock') } ∧
      RL w (fun _ => True) kl' (es'.toList.map (·.key)) ∧ RVL w base (Mof X H G) H G vl' (es'.toList.map (·.val)) ∧ es'.toList.map (·.born) = List.range es'.size ∧ clock' = es'.size := by
    cases hh : hit l cs with
    | none =>
      rw [hh] at hfk
      simp only [Option.bind_none] at hfk
      refine ⟨es.push { key := a.eval k, val := a.eval x, born := clock }, clock + 1, _, _, rfl, ?_, ?_, ?_, ?_, ?_⟩
      · simp only [Instr.mapUpdate, Sem.run_bind, run_underlying hu, Result.andThen_ok, e1, getObjM e4, hck, hfk, setObjM _ e4]
      · rw [Array.toList_push, List.map_append]
        exact RL.append e5 (.cons (keyP_ok k3 hx hf) .nil)
      · rw [Array.toList_push, List.map_append]
        exact RVL.append e6 (.cons hxv .nil)
      · rw [Array.toList_push, List.map_append, e7, Array.size_push, List.range_succ, e8]
        rfl
      · rw [Array.size_push, e8]
    | some j =>
      obtain ⟨c, hc1, hc2⟩ := hit_some hh
      have hj := hit_lt hh
      rw [hks.length] at hj
      have hj' : j < es.size := by simpa using hj
      have hen : es.toList[j]? = some es[j] := by simp [hj']
      obtain ⟨g1, g2⟩ := hks.get hen hc1
      obtain rfl := eqL_eq hf g2 hc2
      have hke : es[j].key = a.eval k := HasCells.inj g1 hx
      rw [hh] at hfk
      simp only [Option.bind_some, hen, Option.map_some] at hfk
      refine ⟨es.modify j fun en => { en with key := a.eval k, val := a.eval x }, clock, _, _, rfl, ?_, ?_, ?_, ?_, ?_⟩
      · have hold : ((es[j]?).map (·.key)).getD (a.eval k) = a.eval k := by simp [hj', hke]
        simp only [Instr.mapUpdate, Sem.run_bind, run_underlying hu, Result.andThen_ok, e1, getObjM e4, hck, hfk, hold, stays_run w hf hx, setObjM _ e4]
      · have : (es.modify j fun en => { en with key := a.eval k, val := a.eval x }).toList.map (·.key) = es.toList.map (·.key) := by
          rw [map_modify]
          apply List.ext_getElem?
          intro i
          simp only [List.getElem?_map, List.getElem?_modify]
          by_cases hij : j = i
          · subst hij
            rw [hen]
            simp [hke]
          · simp [hij]
        rw [this]
        exact e5
      · have : (es.modify j fun en => { en with key := a.eval k, val := a.eval x }).toList.map (·.val) = (es.toList.map (·.val)).set j (a.eval x) := by
          rw [map_modify]
          apply List.ext_getElem?
          intro i
          simp only [List.getElem?_map, List.getElem?_modify, List.getElem?_set, List.length_map]
          by_cases hij : j = i
          · subst hij
            rw [hen]
            simp [hj']
          · simp [hij]
        rw [this]
        exact RVL.set j e6 hxv
      · have : (es.modify j fun en => { en with key := a.eval k, val := a.eval x }).toList.map (·.born) = es.toList.map (·.born) := by
          rw [map_modify]
          apply List.ext_getElem?
          intro i
          simp only [List.getElem?_map, List.getElem?_modify]
          by_cases hij : j = i
          · subst hij
            rw [hen]
            simp
          · simp [hij]
        rw [this, Array.size_modify]
        exact e7
      · rw [Array.size_modify]; exact e8
  obtain ⟨es', clock', kl', vl', f1, f2, f3, f4, f5, f6⟩ := key
  simp only [f1]
  obtain ⟨hE, hS'⟩ := mapch_ok hS e3 e2 e4 f3 f4 f5 f6
  intro next Q hn
  unfold Oper.wp
  have hrun : (execOp a.eval o).run P w = .ok .skip { w with heap := w.heap.setIfInBounds r (.map es' clock') } := by
    rcases ho with ho | ho <;> simp only [execOp, ho, Sem.run_bind, f2, Result.andThen_ok, Sem.run_pure]
  rw [hrun]
  exact hn undef _ G hE hS' RV.undef

theorem RL.eraseIdx {M : Nat → Prop} : ∀ {xs : List I} {vs : List Value} (j : Nat), RL w M xs vs → RL w M (xs.eraseIdx j) (vs.eraseIdx j)
  | _, _, _, .nil => .nil
  | _, _, 0, .cons _ b => b
  | _, _, j + 1, .cons a b => .cons a (RL.eraseIdx j b)

theorem RVL.eraseIdx {M : Nat → Prop} : ∀ {xs : List V} {vs : List Value} (j : Nat), RVL w base M H G xs vs → RVL w base M H G (xs.eraseIdx j) (vs.eraseIdx j)
  | _, _, _, .nil => .nil
  | _, _, 0, .cons _ b => b
  | _, _, j + 1, .cons a b => .cons a (RVL.eraseIdx j b)

theorem findIdx_range : ∀ (l : List MapEntry) (n j : Nat), l.map (·.born) = (List.range l.length).map (· + n) → j < l.length → l.findIdx? (fun e => (e.born : Int) == ((n + j : Nat) : Int)) = some j
  | [], n, j, _, h => absurd h (Nat.not_lt_zero _)
  | e :: l, n, j, h, hj => by
    rw [List.map_cons, List.length_cons, List.range_succ_eq_map, List.map_cons, List.map_map, List.cons.injEq] at h
    rw [List.findIdx?_cons]
    have he : e.born = n := by have := h.1; omega
    cases j with
    | zero => simp [he]
    | succ j =>
      have ih := findIdx_range l (n + 1) j (by rw [h.2]; apply List.map_congr_left; intro x _; simp; omega) (by rw [List.length_cons] at hj; omega)
      have hne : ((e.born : Int) == ((n + (j + 1) : Nat) : Int)) = false := by rw [he]; simp; omega
      rw [hne]
      have e2 : n + (j + 1) = n + 1 + j := by omega
      rw [e2, ih]
      rfl
theorem ok_mapEntry {mt kt e : TypeId} {kg : Bool} {ks : List SK} {z : Bool × List Value} {m k : Operand} {q : Nat × List I × List V} {l : List Value} {cs : List (List Value)} {v : V} (hS : SimH base X w H G) (hT : TV w base (Mof X H G) H G t a.tmps)
    (ho : o.op = .mapEntry mt m k) (hu : P.underlying mt = some (.map kt e)) (hk : keyOf P kt = some (kg, ks)) (hz : zeroV P e = some z) (hm : mapAt H (St.ev ⟨t, H⟩ m) = some q) (hl : keyV kg (St.ev ⟨t, H⟩ k) = some l)
    (hc : keysI kg ks q.2.1 = some cs) (hf : fitsL ks l = true) (hv : lookV z.1 z.2 q.2.2 (hit l cs) = some v) :
    StepOK P base X o a w H G (.tup [v, .i (.s (.int .i64 (entJ q.2.2.length (hit l cs) : Nat)))]) (H.set q.1 (entM kg l v q.2.1 q.2.2 (hit l cs))) := by
  obtain ⟨b, kl, vl⟩ := q
  obtain ⟨r, es, clock, e1, e2, e3, e4, e5, e6, e7, e8⟩ := map_at hS hm (ev_ok (h := H) hT m)
  obtain ⟨k1, k2, k3⟩ := keyOf_ok hk
  obtain ⟨d, hd⟩ := keyOf_desc hk
  have hx := keyV_ok (P := P) k3 (ev_ok (h := H) hT k) hl
  have hks := keysI_ok (P := P) k3 e5 hc
  have hck := checkKey_run w k2 k1 hf hx false
  have hfk := findKey_run w k2 hd hf hx hks
  have hsz : es.size = vl.length := by simpa using e6.length
  have key : ∃ (es' : Array MapEntry) (clock' : Nat) (kl' : List I) (vl' : List V) (u : Value), entM kg l v kl vl (hit l cs) = .map kl' vl' ∧ RV w base (Mof X H G) H G v u ∧
      (Instr.mapEntry mt (a.eval m) (a.eval k)).run P w = .ok (.tuple #[u, .int .i64 (entJ vl.length (hit l cs) : Nat)]) { w with heap := w.heap.setIfInBounds r (.map es' clock') } ∧
      RL w (fun _ => True) kl' (es'.toList.map (·.key)) ∧ RVL w base (Mof X H G) H G vl' (es'.toList.map (·.val)) ∧ es'.toList.map (·.born) = List.range es'.size ∧ clock' = es'.size := by
    cases hh : hit l cs with
    | none =>
      rw [hh] at hfk hv
      simp only [Option.bind_none] at hfk
      obtain ⟨u, hu1, hu2⟩ := zeroV_ok (w := w) (base := base) (X := X) (H := H) (G := G) hz
      have hvu := hu2 v hv
      refine ⟨es.push { key := a.eval k, val := u, born := clock }, clock + 1, _, _, u, rfl, hvu, ?_, ?_, ?_, ?_, ?_⟩
      · simp only [Instr.mapEntry, Sem.run_bind, run_underlying hu, Result.andThen_ok, e1, getObjM e4, hck, hfk, hu1, setObjM _ e4, Sem.run_pure, goInt, entJ, e8, hsz]
      · rw [Array.toList_push, List.map_append]
        exact RL.append e5 (.cons (keyP_ok k3 hx hf) .nil)
      · rw [Array.toList_push, List.map_append]
        exact RVL.append e6 (.cons hvu .nil)
      · rw [Array.toList_push, List.map_append, e7, Array.size_push, List.range_succ, e8]
        rfl
      · rw [Array.size_push, e8]
    | some j =>
      obtain ⟨c, hc1, hc2⟩ := hit_some hh
      have hj := hit_lt hh
      rw [hks.length] at hj
      have hj' : j < es.size := by simpa using hj
      have hen : es.toList[j]? = some es[j] := by simp [hj']
      obtain ⟨g1, g2⟩ := hks.get hen hc1
      obtain rfl := eqL_eq hf g2 hc2
      have hke : es[j].key = a.eval k := HasCells.inj g1 hx
      rw [hh] at hfk hv
      simp only [Option.bind_some, hen, Option.map_some] at hfk
      have hval : RV w base (Mof X H G) H G v es[j].val := by
        have hv' : vl[j]? = some v := hv
        obtain ⟨u0, hu0, hr⟩ := RVL.get e6 j v hv'
        have hu1 : (es.toList.map (·.val))[j]? = some es[j].val := by simp [hj']
        rw [hu1] at hu0
        cases hu0
        exact hr
      have hborn : es[j].born = j := by
        have h1 : (es.toList.map (·.born))[j]? = some es[j].born := by simp [hj']
        rw [e7, List.getElem?_range hj'] at h1
        exact (Option.some.inj h1).symm
      have hmk : ∀ f : MapEntry → MapEntry, (∀ x, (f x).val = x.val ∧ (f x).born = x.born) → (es.modify j f).toList.map (·.val) = es.toList.map (·.val) ∧ (es.modify j f).toList.map (·.born) = es.toList.map (·.born) := by
        intro f hf
        rw [map_modify]
        constructor <;>
        · apply List.ext_getElem?
          intro i
          simp only [List.getElem?_map, List.getElem?_modify]
          by_cases hij : j = i
          · subst hij
            rw [hen]
            simp [hf]
          · simp [hij]
      obtain ⟨q1, q2⟩ := hmk (fun en => { en with key := a.eval k }) (fun x => ⟨rfl, rfl⟩)
      refine ⟨es.modify j fun en => { en with key := a.eval k }, clock, _, _, es[j].val, rfl, hval, ?_, ?_, ?_, ?_, ?_⟩
      · have hold : ((es[j]?).map (·.key)).getD (a.eval k) = a.eval k := by simp [hj', hke]
        have hbo : ((es[j]?).map (fun x => (x.born : Int))).getD 0 = (j : Int) := by simp [hj', hborn]
        simp only [Instr.mapEntry, Sem.run_bind, run_underlying hu, Result.andThen_ok, e1, getObjM e4, hck, hfk, hold, stays_run w hf hx, setObjM _ e4, Sem.run_pure, hbo, goInt, entJ]
      · have : (es.modify j fun en => { en with key := a.eval k }).toList.map (·.key) = es.toList.map (·.key) := by
          rw [map_modify]
          apply List.ext_getElem?
          intro i
          simp only [List.getElem?_map, List.getElem?_modify]
          by_cases hij : j = i
          · subst hij
            rw [hen]
            simp [hke]
          · simp [hij]
        rw [this]
        exact e5
      · rw [q1]; exact e6
      · rw [q2, Array.size_modify]; exact e7
      · rw [Array.size_modify]; exact e8
  obtain ⟨es', clock', kl', vl', u, f1, fu, f2, f3, f4, f5, f6⟩ := key
  simp only [f1]
  obtain ⟨hE, hS'⟩ := mapch_ok hS e3 e2 e4 f3 f4 f5 f6
  refine StepOK.value' (x := .tuple #[u, .int .i64 (entJ vl.length (hit l cs) : Nat)]) ?_ hE hS' (.tup (.cons (fu.ext hE) (.cons (.i (.s rfl)) .nil)))
  simp only [execOp, ho, Sem.run_bind, f2, Result.andThen_ok, Sem.run_pure]

theorem ok_entryStore {mt : TypeId} {m s x : Operand} {q : Nat × List I × List V} {n : Int} (hS : SimH base X w H G) (hT : TV w base (Mof X H G) H G t a.tmps)
    (ho : o.op = .entryStore mt m s x) (hm : mapAt H (St.ev ⟨t, H⟩ m) = some q) (hn : intV (St.ev ⟨t, H⟩ s) = some n) (h0 : 0 ≤ n ∧ n < (q.2.2.length : Int)) :
    StepOK P base X o a w H G undefV (H.set q.1 (.map q.2.1 (q.2.2.set n.toNat (St.ev ⟨t, H⟩ x)))) := by
  obtain ⟨b, kl, vl⟩ := q
  obtain ⟨r, es, clock, e1, e2, e3, e4, e5, e6, e7, e8⟩ := map_at hS hm (ev_ok (h := H) hT m)
  obtain ⟨kd, hsv⟩ := intV_ok (ev_ok (h := H) hT s) hn
  have hxv := ev_ok (h := H) hT x
  have hsz : es.size = vl.length := by simpa using e6.length
  obtain ⟨j, rfl⟩ : ∃ j : Nat, n = (j : Int) := ⟨n.toNat, by omega⟩
  simp only at h0
  have hj' : j < es.size := by omega
  have hen : es.toList[j]? = some es[j] := by simp [hj']
  have hfi : es.findIdx? (fun e => (e.born : Int) == (j : Int)) = some j := by
    have h1 := findIdx_range es.toList 0 j (by rw [e7]; simp) (by simpa using hj')
    rw [Nat.zero_add] at h1
    cases es
    simpa using h1
  have hmk : (es.modify j fun en => { en with val := a.eval x }).toList.map (·.key) = es.toList.map (·.key) ∧ (es.modify j fun en => { en with val := a.eval x }).toList.map (·.born) = es.toList.map (·.born) := by
    rw [map_modify]
    constructor <;>
    · apply List.ext_getElem?
      intro i
      simp only [List.getElem?_map, List.getElem?_modify]
      by_cases hij : j = i
      · subst hij
        rw [hen]
        simp
      · simp [hij]
  have hvl : (es.modify j fun en => { en with val := a.eval x }).toList.map (·.val) = (es.toList.map (·.val)).set j (a.eval x) := by
    rw [map_modify]
    apply List.ext_getElem?
    intro i
    simp only [List.getElem?_map, List.getElem?_modify, List.getElem?_set, List.length_map]
    by_cases hij : j = i
    · subst hij
      rw [hen]
      simp [hj']
    · simp [hij]
  obtain ⟨hE, hS'⟩ := mapch_ok (kl' := kl) (vl' := vl.set j (St.ev ⟨t, H⟩ x)) (es' := es.modify j fun en => { en with val := a.eval x }) (clock' := clock) hS e3 e2 e4 (by rw [hmk.1]; exact e5) (by rw [hvl]; exact RVL.set j e6 hxv) (by rw [hmk.2, Array.size_modify]; exact e7) (by rw [Array.size_modify]; exact e8)
  intro next Q hnx
  unfold Oper.wp
  have hrun : (execOp a.eval o).run P w = .ok .skip { w with heap := w.heap.setIfInBounds r (.map (es.modify j fun en => { en with val := a.eval x }) clock) } := by
    simp only [execOp, ho, Sem.run_bind, Instr.entryStore, e1, getObjM e4, Result.andThen_ok, hsv, asInt, asIntOf, hfi, setObjM _ e4, Sem.run_pure]
  rw [hrun]
  exact hnx undef _ G hE hS' RV.undef

theorem ok_del {mt kt e : TypeId} {kg : Bool} {ks : List SK} {c : Call} {tl : TypeId} {m k : Operand} {q : Nat × List I × List V} {l : List Value} {cs : List (List Value)} (hS : SimH base X w H G) (hT : TV w base (Mof X H G) H G t a.tmps)
    (ho : o.op = .call c) (hcal : c.callee = .builtin .delete) (ha : c.args.toList = [m, k]) (hat : c.argTypes.toList = [mt, tl]) (hu : P.underlying mt = some (.map kt e)) (hk : keyOf P kt = some (kg, ks)) (hm : mapAt H (St.ev ⟨t, H⟩ m) = some q)
    (hl : keyV kg (St.ev ⟨t, H⟩ k) = some l) (hc : keysI kg ks q.2.1 = some cs) (hf : fitsL ks l = true) (hnone : hit l cs = none) :
    StepOK P base X o a w H G undefV (H.set q.1 (delM q.2.1 q.2.2 (hit l cs))) := by
  obtain ⟨b, kl, vl⟩ := q
  obtain ⟨r, es, clock, e1, e2, e3, e4, e5, e6, e7, e8⟩ := map_at hS hm (ev_ok (h := H) hT m)
  obtain ⟨k1, k2, k3⟩ := keyOf_ok hk
  obtain ⟨d, hd⟩ := keyOf_desc hk
  have hx := keyV_ok (P := P) k3 (ev_ok (h := H) hT k) hl
  have hks := keysI_ok (P := P) k3 e5 hc
  have hck := checkKey_run w k2 k1 hf hx es.isEmpty
  have hfk := findKey_run w k2 hd hf hx hks
  have ha' : c.args = #[m, k] := by apply Array.ext'; simpa using ha
  have hat' : c.argTypes = #[mt, tl] := by apply Array.ext'; simpa using hat
  have key : ∃ (es' : Array MapEntry) (kl' : List I) (vl' : List V), delM kl vl (hit l cs) = .map kl' vl' ∧ (Builtin.delete_ #[mt, tl] o.type #[a.eval m, a.eval k]).run P w = .ok (.tuple #[]) { w with heap := w.heap.setIfInBounds r (.map es' clock) } ∧
      RL w (fun _ => True) kl' (es'.toList.map (·.key)) ∧ RVL w base (Mof X H G) H G vl' (es'.toList.map (·.val)) ∧ es'.toList.map (·.born) = List.range es'.size ∧ clock = es'.size := by
    have h0 : (#[mt, tl] : Array TypeId)[0]? = some mt := rfl
    have h1 : (#[.map (some r), a.eval k] : Array Value)[0]? = some (.map (some r)) := rfl
    have h2 : (#[.map (some r), a.eval k] : Array Value)[1]? = some (a.eval k) := rfl
    cases hh : hit l cs with
    | none =>
      rw [hh] at hfk
      simp only [Option.bind_none] at hfk
      refine ⟨es, _, _, rfl, ?_, e5, e6, e7, e8⟩
      simp only [Builtin.delete_, e1, h0, h1, h2, Sem.run_bind, run_underlying hu, Result.andThen_ok, getObjM e4, hck, hfk, setObjM _ e4, Sem.run_pure]
    | some j => rw [hnone] at hh; cases hh
  obtain ⟨es', kl', vl', f1, f2, f3, f4, f5, f6⟩ := key
  simp only [f1]
  obtain ⟨hE, hS'⟩ := mapch_ok hS e3 e2 e4 f3 f4 f5 f6
  refine StepOK.value' (x := .tuple #[]) ?_ hE hS' RV.undef
  simp [execOp, ho, resolve, hcal, ha', hat', invoke, builtin, f2]

theorem ok_mlen {mt kt e : TypeId} {c : Call} {m : Operand} {q : Nat × List I × List V} (hS : SimH base X w H G) (hT : TV w base (Mof X H G) H G t a.tmps)
    (ho : o.op = .call c) (hcal : c.callee = .builtin .len) (ha : c.args.toList = [m]) (hat : c.argTypes.toList = [mt]) (hu : P.underlying mt = some (.map kt e)) (hm : mapR H (St.ev ⟨t, H⟩ m) = some q) :
    StepOK P base X o a w H G (.i (.s (.int .i64 (q.2.2.length : Nat)))) H := by
  obtain ⟨b, kl, vl⟩ := q
  obtain ⟨M0, r, es, clock, e1, e4, e5, e6⟩ := map_rd hS hm (ev_ok (h := H) hT m)
  have ha' : c.args = #[m] := by apply Array.ext'; simpa using ha
  have hat' : c.argTypes = #[mt] := by apply Array.ext'; simpa using hat
  have hlen : es.size = vl.length := by
    have := e6.length
    simpa using this
  refine StepOK.value (x := .int .i64 (es.size : Nat)) hS ?_ (.i (by rw [hlen]; exact .s rfl))
  have h0 : (#[mt] : Array TypeId)[0]? = some mt := rfl
  have h1 : (#[a.eval m] : Array Value)[0]? = some (a.eval m) := rfl
  simp [execOp, ho, resolve, hcal, ha', hat', invoke, builtin, Builtin.len_, h0, h1, run_underlying hu, e1, getObjM e4]
  rfl

end
end Go.AM

set_option linter.unusedVariables false
set_option linter.unusedSimpArgs false
namespace Go.AM

/-- What is owed of a function: on whatever heap it is called. -/
def FnOK (P : Program) (f : FuncId) (args : List V) (H : Heap) (v : V) (H' : Heap) : Prop :=
  ∀ (base : Nat) (X : Nat → Prop) (w : World) (G : List Nat) (xs : Array Value), SimH base X w H G → RVL w base (Mof X H G) H G args xs.toList →
    Calls P f xs w fun e w' => ∃ x G', e = .returned x ∧ Ext w H G w' H' G' ∧ SimH base X w' H' G' ∧ RV w' base (Mof X H' G') H' G' v x

/-- What is owed of a function that the model stands in for. -/
def ExtOK (P : Program) (f : FuncId) (args : List V) (H : Heap) (v : V) (H' : Heap) : Prop :=
  ∀ (base : Nat) (X : Nat → Prop) (w : World) (G : List Nat) (xs : Array Value), SimH base X w H G → RVL w base (Mof X H G) H G args xs.toList →
    ∃ x w' G', (callFunc f xs).run P w = .ok (.value x) w' ∧ Ext w H G w' H' G' ∧ SimH base X w' H' G' ∧ RV w' base (Mof X H' G') H' G' v x

def DoOK (P : Program) (f : FuncId) (args : List V) (H : Heap) (v : V) (H' : Heap) : Prop := (callable P f = true ∧ FnOK P f args H v H') ∨ ExtOK P f args H v H'

def EnvOK (P : Program) (env : Env) : Prop := ∀ f slot args H v H', env f slot args H = some (v, H') → DoOK P (f / 2) args H v H'

section
variable {P : Program} {base : Nat} {X : Nat → Prop} {o : Oper} {a : Act} {w : World} {H H' : Heap} {G : List Nat} {v : V} {t : Nat → V}

theorem run_callFunc {f : FuncId} (h : callable P f = true) (args : Array Value) (w : World) : (callFunc f args).run P w = .ok (.enter f args) w := by
  unfold callable at h
  split at h
  · rename_i fn hf
    simp at h
    obtain ⟨h1, h2⟩ := h
    have hb : fn.body.isNone = false := by
      cases hb : fn.body with
      | none => rw [hb] at h1; simp at h1
      | some c => rfl
    have hn : (fn.name == "runtime.NumGoroutine") = false := by simpa using h2
    unfold callFunc
    simp only [Sem.run_bind, run_program, Result.andThen_ok, hf, hn, hb, Bool.false_eq_true, if_false]
    rfl
  · cases h

theorem StepOK.enter {f : FuncId} {args : List V} {xs : Array Value} (hS : SimH base X w H G) (hr : (execOp a.eval o).run P w = .ok (.enter f xs) w) (hf : FnOK P f args H v H') (hl : RVL w base (Mof X H G) H G args xs.toList) :
    StepOK P base X o a w H G v H' := by
  intro next Q hn
  unfold Oper.wp
  rw [hr, Oper.upon_enter]
  refine (hf base X w G xs hS hl).mono ?_
  rintro e w' ⟨x, G', rfl, hE, hS', hv⟩
  exact hn x w' G' hE hS' hv

theorem StepOK.extern {f : FuncId} {args : List V} {xs : Array Value} (hS : SimH base X w H G) (hr : (execOp a.eval o).run P w = (callFunc f xs).run P w) (hf : ExtOK P f args H v H') (hl : RVL w base (Mof X H G) H G args xs.toList) :
    StepOK P base X o a w H G v H' := by
  intro next Q hn
  obtain ⟨x, w', G', h1, hE, hS', hv⟩ := hf base X w G xs hS hl
  unfold Oper.wp
  rw [hr, h1]
  exact hn x w' G' hE hS' hv

theorem ok_call {env : Env} {slot : Option Nat} {c : Call} {f : FuncId} (hS : SimH base X w H G) (hT : TV w base (Mof X H G) H G t a.tmps) (ho : o.op = .call c) (hc : c.callee = .value (.func f))
    (hE : EnvOK P env) {d : Nat} (hd : d / 2 = f) (hv : env d slot (c.args.toList.map (St.ev ⟨t, H⟩)) H = some (v, H')) : StepOK P base X o a w H G v H' := by
  have hl : RVL w base (Mof X H G) H G (c.args.toList.map (St.ev ⟨t, H⟩)) (c.args.map a.eval).toList := by
    have := evs_ok (h := H) hT c.args.toList
    simpa using this
  have hr : (execOp a.eval o).run P w = (callFunc f (c.args.map a.eval)).run P w := by
    simp only [execOp, ho, resolve, hc, Act.eval, Deferred.ofValue, invoke, Sem.run_bind, Sem.run_pure, Result.andThen_ok]
    simp [Act.eval]
  have h12 := hE d slot _ H v H' hv
  rw [hd] at h12
  rcases h12 with ⟨h1, h2⟩ | h2
  · exact StepOK.enter (f := f) (xs := c.args.map a.eval) hS (by rw [hr, run_callFunc h1]) h2 hl
  · exact StepOK.extern hS hr h2 hl

theorem ok_dyn {env : Env} {slot : Option Nat} {c : Call} {g : Operand} {f : FuncId} {caps : List V} (hS : SimH base X w H G) (hT : TV w base (Mof X H G) H G t a.tmps) (ho : o.op = .call c) (hc : c.callee = .value g)
    (hg : St.ev ⟨t, H⟩ g = .clo f caps) (hE : EnvOK P env) (hv : env (2 * f) slot (c.args.toList.map (St.ev ⟨t, H⟩) ++ caps) H = some (v, H')) : StepOK P base X o a w H G v H' := by
  have h12 := hE (2 * f) slot _ H v H' hv
  rw [show 2 * f / 2 = f from Nat.mul_div_cancel_left f (by decide)] at h12
  have hgv := ev_ok (h := H) hT g
  rw [hg] at hgv
  generalize hu : a.eval g = u at hgv
  cases hgv with
  | clo hl =>
    rename_i xs
    have hl2 : RVL w base (Mof X H G) H G (c.args.toList.map (St.ev ⟨t, H⟩) ++ caps) (c.args.map a.eval ++ xs).toList := by
      have := (evs_ok (h := H) hT c.args.toList).append hl
      simpa using this
    have hr : (execOp a.eval o).run P w = (callFunc f (c.args.map a.eval ++ xs)).run P w := by
      simp only [execOp, ho, resolve, hc, hu, Deferred.ofValue, invoke, Sem.run_bind, Sem.run_pure, Result.andThen_ok]
      simp
    rcases h12 with ⟨h1, h2⟩ | h2
    · exact StepOK.enter (f := f) (xs := c.args.map a.eval ++ xs) hS (by rw [hr, run_callFunc h1]) h2 hl2
    · exact StepOK.extern hS hr h2 hl2

theorem ok_aeq {op : BinOp} {ty yt : TypeId} {x y : Operand} {ks : List SK} {p q : List Value} {neg : Bool} (hS : SimH base X w H G) (hT : TV w base (Mof X H G) H G t a.tmps) (ho : o.op = .binOp op ty x y yt) (hk : eqShape P ty = some ks)
    (hop : (op = .eql ∧ neg = false) ∨ (op = .neq ∧ neg = true)) (hx : scalsV (St.ev ⟨t, H⟩ x) = some p) (hy : scalsV (St.ev ⟨t, H⟩ y) = some q) (hp : fitsL ks p = true) (hq : fitsL ks q = true) :
    StepOK P base X o a w H G (.i (.s (.bool (xor neg (eqL p q))))) H := by
  have h1 := scalsV_ok (ev_ok (h := H) hT x) hx
  have h2 := scalsV_ok (ev_ok (h := H) hT y) hy
  unfold eqShape at hk
  split at hk
  · rename_i hag
    split at hk
    · cases hk
    · rename_i hgd
      have he := equalIn_run w 8 9992 ty ks hk p q (.agg p.toArray) (.agg q.toArray) hp hq ⟨(fun _ => rfl), (fun h => by rw [hag] at h; cases h), (by rw [hag]; rfl)⟩ ⟨(fun _ => rfl), (fun h => by rw [hag] at h; cases h), (by rw [hag]; rfl)⟩
      have heq : (Op.equal ty (.agg p.toArray) (.agg q.toArray)).run P w = .ok (eqL p q) w := he
      refine StepOK.value (x := .bool (xor neg (eqL p q))) hS ?_ (.i (.s rfl))
      rcases hop with ⟨rfl, rfl⟩ | ⟨rfl, rfl⟩
      · simp only [execOp, ho, h1, h2, Sem.run_bind, run_eqGuard_agg w .eql ty x y p.toArray q.toArray (by simpa using hgd), Result.andThen_ok, binOp, heq, Sem.run_pure, Bool.false_bne, Bool.false_xor]
      · simp only [execOp, ho, h1, h2, Sem.run_bind, run_eqGuard_agg w .neq ty x y p.toArray q.toArray (by simpa using hgd), Result.andThen_ok, binOp, heq, Sem.run_pure, Bool.true_xor]
  · cases hk

theorem step_ok {env : Env} {slot : Option Nat} {aop : AOp} (hE : EnvOK P env) (hS : SimH base X w H G) (hT : TV w base (Mof X H G) H G t a.tmps) (hc : compOp P o = some aop) (hs : stepOp P env slot aop ⟨t, H⟩ = some (v, H')) :
    StepOK P base X o a w H G v H' := by
  unfold compOp at hc
  split at hc
  · -- move, assign
    rename_i x ho
    cases hc
    simp only [stepOp, Option.some.injEq, Prod.mk.injEq] at hs
    obtain ⟨rfl, rfl⟩ := hs
    exact ok_mv hS hT (.inl ho)
  · rename_i x ho
    cases hc
    simp only [stepOp, Option.some.injEq, Prod.mk.injEq] at hs
    obtain ⟨rfl, rfl⟩ := hs
    exact ok_mv hS hT (.inr ho)
  · -- pick
    rename_i c x y ho
    cases hc
    simp only [stepOp] at hs
    split at hs
    · rename_i b hcv
      simp only [Option.some.injEq, Prod.mk.injEq] at hs
      obtain ⟨rfl, rfl⟩ := hs
      exact ok_pick hS hT ho hcv
    · cases hs
  · -- alloc
    rename_i e ho
    obtain ⟨zero, hz, rfl⟩ := Option.map_eq_some_iff.1 hc
    simp only [stepOp] at hs
    obtain ⟨⟨b, h1⟩, hn, he⟩ := Option.map_eq_some_iff.1 hs
    simp only [Prod.mk.injEq] at he
    obtain ⟨rfl, rfl⟩ := he
    exact ok_alloc hS ho hz hn
  · -- box
    rename_i e x ho
    cases hc
    simp only [stepOp] at hs
    split at hs
    · rename_i hx
      obtain ⟨⟨b, h1⟩, hn, he⟩ := Option.map_eq_some_iff.1 hs
      simp only [Prod.mk.injEq] at he
      obtain ⟨rfl, rfl⟩ := he
      exact ok_box hS hT ho hx hn
    · cases hs
  · -- build
    rename_i ty parts ho
    split at hc
    · rename_i fields hu
      obtain ⟨zero, hz, hc⟩ := Option.bind_eq_some_iff.1 hc
      obtain ⟨fs, hfs, hc⟩ := Option.bind_eq_some_iff.1 hc
      split at hc
      · rename_i hpl
        cases hc
        simp only [stepOp] at hs
        obtain ⟨cs, hf, he⟩ := Option.map_eq_some_iff.1 hs
        simp only [Prod.mk.injEq] at he
        obtain ⟨rfl, rfl⟩ := he
        exact ok_buildStruct hS hT ho hu hz hfs hpl hf
      · cases hc
    · rename_i n e hu
      obtain ⟨zero, hz, hc⟩ := Option.bind_eq_some_iff.1 hc
      obtain ⟨z, hzz, rfl⟩ := Option.map_eq_some_iff.1 hc
      simp only [stepOp] at hs
      obtain ⟨cs, hf, he⟩ := Option.map_eq_some_iff.1 hs
      simp only [Prod.mk.injEq] at he
      obtain ⟨rfl, rfl⟩ := he
      exact ok_buildArray hS hT ho hu hz hzz hf
    · cases hc
  · -- buildSlice
    rename_i ty n parts ho
    split at hc
    · rename_i e hu
      obtain ⟨z, hz, hc⟩ := Option.bind_eq_some_iff.1 hc
      obtain ⟨ag, ha, hc⟩ := Option.bind_eq_some_iff.1 hc
      obtain ⟨zero, hzero, hc⟩ := Option.bind_eq_some_iff.1 hc
      split at hc
      · rename_i hcond
        cases hc
        simp only [stepOp] at hs
        obtain ⟨cs, hf, hs⟩ := Option.bind_eq_some_iff.1 hs
        obtain ⟨⟨b, h1⟩, hn, he⟩ := Option.map_eq_some_iff.1 hs
        simp only [Prod.mk.injEq] at he
        obtain ⟨rfl, rfl⟩ := he
        exact ok_buildSl hS hT ho hu hz hzero hcond.2.1 hcond.2.2 hcond.1 hf hn
      · cases hc
    · cases hc
  · -- load
    rename_i ty x ho
    obtain ⟨z, hz, hc⟩ := Option.bind_eq_some_iff.1 hc
    obtain ⟨ag, ha, rfl⟩ := Option.map_eq_some_iff.1 hc
    simp only [stepOp] at hs
    obtain ⟨u, hu, he⟩ := Option.map_eq_some_iff.1 hs
    simp only [Prod.mk.injEq] at he
    obtain ⟨rfl, rfl⟩ := he
    exact ok_load hS hT ho hz ha hu
  · -- store
    rename_i ty p x ho
    obtain ⟨z, hz, rfl⟩ := Option.map_eq_some_iff.1 hc
    simp only [stepOp] at hs
    obtain ⟨u, hu, he⟩ := Option.map_eq_some_iff.1 hs
    simp only [Prod.mk.injEq] at he
    obtain ⟨rfl, rfl⟩ := he
    exact ok_store hS hT ho hz hu
  · -- nilCheck
    rename_i x ho
    cases hc
    simp only [stepOp] at hs
    obtain ⟨u, hu, he⟩ := Option.map_eq_some_iff.1 hs
    simp only [Prod.mk.injEq] at he
    obtain ⟨rfl, rfl⟩ := he
    exact ok_nilChk hS hT ho hu
  · -- binOp
    rename_i op ty x y yt ho
    split at hc
    · rename_i ks hk
      cases hc
      simp only [stepOp] at hs
      obtain ⟨p, h1, hs⟩ := Option.bind_eq_some_iff.1 hs
      obtain ⟨q, h2, hs⟩ := Option.bind_eq_some_iff.1 hs
      split at hs
      · rename_i hcond
        simp only [Option.some.injEq, Prod.mk.injEq] at hs
        obtain ⟨rfl, rfl⟩ := hs
        exact ok_aeq hS hT ho hk (.inl ⟨rfl, rfl⟩) h1 h2 hcond.1 hcond.2
      · cases hs
    · rename_i ks hk
      cases hc
      simp only [stepOp] at hs
      obtain ⟨p, h1, hs⟩ := Option.bind_eq_some_iff.1 hs
      obtain ⟨q, h2, hs⟩ := Option.bind_eq_some_iff.1 hs
      split at hs
      · rename_i hcond
        simp only [Option.some.injEq, Prod.mk.injEq] at hs
        obtain ⟨rfl, rfl⟩ := hs
        exact ok_aeq hS hT ho hk (.inr ⟨rfl, rfl⟩) h1 h2 hcond.1 hcond.2
      · cases hs
    case h_4 => cases hc
    cases hc
    simp only [stepOp] at hs
    obtain ⟨vs, h1, hs⟩ := Option.bind_eq_some_iff.1 hs
    obtain ⟨u, h2, hs⟩ := Option.bind_eq_some_iff.1 hs
    obtain ⟨x', h3, he⟩ := Option.map_eq_some_iff.1 hs
    simp only [Prod.mk.injEq] at he
    obtain ⟨rfl, rfl⟩ := he
    have := evL_ok hT h1
    subst this
    exact ok_pure hS (by simp only [execOp, ho, Pu.run, List.map_cons, List.map_nil]) h2 h3
  · -- unOp
    rename_i op ty x ho
    cases hc
    simp only [stepOp] at hs
    obtain ⟨vs, h1, hs⟩ := Option.bind_eq_some_iff.1 hs
    obtain ⟨u, h2, hs⟩ := Option.bind_eq_some_iff.1 hs
    obtain ⟨x', h3, he⟩ := Option.map_eq_some_iff.1 hs
    simp only [Prod.mk.injEq] at he
    obtain ⟨rfl, rfl⟩ := he
    have := evL_ok hT h1
    subst this
    exact ok_pure hS (by simp only [execOp, ho, Pu.run, List.map_cons, List.map_nil]) h2 h3
  · -- convert
    rename_i s d x ho
    split at hc
    · rename_i e hus hud
      split at hc
      · rename_i hu8
        cases hc
        simp only [stepOp] at hs
        obtain ⟨ys, h1, hs⟩ := Option.bind_eq_some_iff.1 hs
        obtain ⟨n, h2, hs⟩ := Option.bind_eq_some_iff.1 hs
        obtain ⟨bs, h3, hs⟩ := Option.bind_eq_some_iff.1 hs
        split at hs
        · rename_i hl
          simp only [Option.some.injEq, Prod.mk.injEq] at hs
          obtain ⟨rfl, rfl⟩ := hs
          refine ok_b2s hS hT ho hus ?_ hud h1 h2 h3 hl
          unfold isU8 at hu8
          split at hu8
          · rename_i h; exact h
          · cases hu8
        · cases hs
      · cases hc
    · cases hc
      simp only [stepOp] at hs
      obtain ⟨vs, h1, hs⟩ := Option.bind_eq_some_iff.1 hs
      obtain ⟨u, h2, hs⟩ := Option.bind_eq_some_iff.1 hs
      obtain ⟨x', h3, he⟩ := Option.map_eq_some_iff.1 hs
      simp only [Prod.mk.injEq] at he
      obtain ⟨rfl, rfl⟩ := he
      have := evL_ok hT h1
      subst this
      exact ok_pure hS (by simp only [execOp, ho, Pu.run, List.map_cons, List.map_nil]) h2 h3
  · -- slice
    rename_i ty x lo hi ho
    split at hc
    · rename_i hu
      cases hc
      simp only [stepOp] at hs
      obtain ⟨vs, h1, hs⟩ := Option.bind_eq_some_iff.1 hs
      obtain ⟨u, h2, hs⟩ := Option.bind_eq_some_iff.1 hs
      obtain ⟨x', h3, he⟩ := Option.map_eq_some_iff.1 hs
      simp only [Prod.mk.injEq] at he
      obtain ⟨rfl, rfl⟩ := he
      have := evL_ok hT h1
      subst this
      refine ok_pure hS ?_ h2 h3
      cases lo <;> cases hi <;> simp only [execOp, ho, Pu.run, List.map_cons, List.map_nil, Option.isSome_none, Option.isSome_some, Option.toList_none, Option.toList_some, List.nil_append, List.append_nil, List.cons_append, Option.map_none, Option.map_some]
    · rename_i e hu
      obtain ⟨z, hz, rfl⟩ := Option.map_eq_some_iff.1 hc
      simp only [stepOp] at hs
      obtain ⟨u, hu2, he⟩ := Option.map_eq_some_iff.1 hs
      simp only [Prod.mk.injEq] at he
      obtain ⟨rfl, rfl⟩ := he
      exact ok_slice hS hT ho hu hz hu2
    · rename_i n e hu
      obtain ⟨z, hz, hc⟩ := Option.bind_eq_some_iff.1 hc
      obtain ⟨ag, ha, hc⟩ := Option.bind_eq_some_iff.1 hc
      split at hc
      · rename_i hzp
        cases hc
        simp only [stepOp] at hs
        obtain ⟨u, hu2, he⟩ := Option.map_eq_some_iff.1 hs
        simp only [Prod.mk.injEq] at he
        obtain ⟨rfl, rfl⟩ := he
        exact ok_sliceA hS hT ho hu hz hzp hu2
      · cases hc
    · cases hc
  · -- fieldAddr
    rename_i s x f ho
    split at hc
    · rename_i fields hu
      obtain ⟨fd, hf, hc⟩ := Option.bind_eq_some_iff.1 hc
      obtain ⟨z, hz, hc⟩ := Option.bind_eq_some_iff.1 hc
      split at hc
      · cases hc
      · rename_i hne
        cases hc
        simp only [stepOp] at hs
        obtain ⟨u, hu2, he⟩ := Option.map_eq_some_iff.1 hs
        simp only [Prod.mk.injEq] at he
        obtain ⟨rfl, rfl⟩ := he
        exact ok_fieldA hS hT ho hu hf hz hne hu2
    · cases hc
  · -- field
    rename_i s x f ho
    split at hc
    · rename_i fields hu
      obtain ⟨fd, hf, hc⟩ := Option.bind_eq_some_iff.1 hc
      obtain ⟨z, hz, hc⟩ := Option.bind_eq_some_iff.1 hc
      obtain ⟨ag, ha, rfl⟩ := Option.map_eq_some_iff.1 hc
      simp only [stepOp] at hs
      by_cases hcond : fd.offset + (if ag then z else 1) ≤ (St.ev ⟨t, H⟩ x).cells.length ∧ isAggV (St.ev ⟨t, H⟩ x) = true
      · rw [if_pos hcond] at hs
        obtain ⟨u, hu2, he⟩ := Option.map_eq_some_iff.1 hs
        simp only [Prod.mk.injEq] at he
        obtain ⟨rfl, rfl⟩ := he
        exact ok_field hS hT ho hu hf hz ha hcond.1 hcond.2 hu2
      · rw [if_neg hcond] at hs
        cases hs
    · cases hc
  · -- indexAddr
    rename_i ty x i ho
    split at hc
    · rename_i e hu
      obtain ⟨z, hz, rfl⟩ := Option.map_eq_some_iff.1 hc
      simp only [stepOp] at hs
      obtain ⟨n, hn, hs⟩ := Option.bind_eq_some_iff.1 hs
      obtain ⟨u, hu2, he⟩ := Option.map_eq_some_iff.1 hs
      simp only [Prod.mk.injEq] at he
      obtain ⟨rfl, rfl⟩ := he
      exact ok_idxS hS hT ho hu hz hn hu2
    · rename_i n e hu
      obtain ⟨z, hz, rfl⟩ := Option.map_eq_some_iff.1 hc
      simp only [stepOp] at hs
      obtain ⟨k, hk, hs⟩ := Option.bind_eq_some_iff.1 hs
      split at hs
      · rename_i hcond
        obtain ⟨u, hu2, he⟩ := Option.map_eq_some_iff.1 hs
        simp only [Prod.mk.injEq] at he
        obtain ⟨rfl, rfl⟩ := he
        exact ok_idxA hS hT ho hu hz hk hcond.1 hcond.2 hu2
      · cases hs
    · cases hc
  · -- index
    rename_i ty x i ho
    split at hc
    · rename_i n e hu
      obtain ⟨z, hz, hc⟩ := Option.bind_eq_some_iff.1 hc
      obtain ⟨ag, ha, hc⟩ := Option.bind_eq_some_iff.1 hc
      split at hc
      · rename_i hz1
        cases hc
        simp only [stepOp] at hs
        obtain ⟨k, hk, hs⟩ := Option.bind_eq_some_iff.1 hs
        split at hs
        · rename_i hcond
          obtain ⟨u, hu2, he⟩ := Option.map_eq_some_iff.1 hs
          simp only [Prod.mk.injEq] at he
          obtain ⟨rfl, rfl⟩ := he
          exact ok_idxV hS hT ho hu hz ha hz1 hk hcond.1 hcond.2.1 hcond.2.2.1 hcond.2.2.2 hu2
        · cases hs
      · cases hc
    · rename_i hu
      cases hc
      simp only [stepOp] at hs
      obtain ⟨vs, h1, hs⟩ := Option.bind_eq_some_iff.1 hs
      obtain ⟨u, h2, hs⟩ := Option.bind_eq_some_iff.1 hs
      obtain ⟨x', h3, he⟩ := Option.map_eq_some_iff.1 hs
      simp only [Prod.mk.injEq] at he
      obtain ⟨rfl, rfl⟩ := he
      have := evL_ok hT h1
      subst this
      exact ok_pure hS (by simp only [execOp, ho, Pu.run, List.map_cons, List.map_nil]) h2 h3
    · cases hc
  · -- extract
    rename_i x k ho
    cases hc
    simp only [stepOp] at hs
    obtain ⟨u, hu2, he⟩ := Option.map_eq_some_iff.1 hs
    simp only [Prod.mk.injEq] at he
    obtain ⟨rfl, rfl⟩ := he
    exact ok_extract hS hT ho hu2
  · -- makeSlice
    rename_i ty l c ho
    split at hc
    · rename_i e hu
      obtain ⟨z, hz, hc⟩ := Option.bind_eq_some_iff.1 hc
      obtain ⟨ag, ha, hc⟩ := Option.bind_eq_some_iff.1 hc
      obtain ⟨zero, hzero, hc⟩ := Option.bind_eq_some_iff.1 hc
      obtain ⟨y, hy, hc⟩ := Option.bind_eq_some_iff.1 hc
      split at hc
      · rename_i hcond
        cases hc
        simp only [stepOp] at hs
        obtain ⟨n, hn, hs⟩ := Option.bind_eq_some_iff.1 hs
        obtain ⟨m, hm, hs⟩ := Option.bind_eq_some_iff.1 hs
        split at hs
        · rename_i hc2
          obtain ⟨⟨b, h1⟩, hns, he⟩ := Option.map_eq_some_iff.1 hs
          simp only [Prod.mk.injEq] at he
          obtain ⟨rfl, rfl⟩ := he
          exact ok_makeSl hS hT ho hu hz hzero hy hcond.1 hcond.2.1 hcond.2.2 hn hm hc2.1 hc2.2.1 hc2.2.2.1 hc2.2.2.2 hns
        · cases hs
      · cases hc
    · cases hc
  · -- makeFunc
    rename_i f first caps ho
    split at hc
    · rename_i hf
      cases hc
      simp only [stepOp, Option.some.injEq, Prod.mk.injEq] at hs
      obtain ⟨rfl, rfl⟩ := hs
      exact ok_clo hS hT ho hf
    · cases hc
  · -- makeInterface
    rename_i ty x ho
    split at hc
    · cases hc
    · rename_i hi
      cases hc
      simp only [stepOp, Option.some.injEq, Prod.mk.injEq] at hs
      obtain ⟨rfl, rfl⟩ := hs
      exact ok_ifc hS hT ho (by simpa using hi)
  · -- call
    rename_i c ho
    unfold compCall at hc
    split at hc
    · rename_i b hcal
      split at hc
      · -- append
        rename_i s x t1 t2 ha hat
        split at hc
        · rename_i e hu
          obtain ⟨z, hz, hc⟩ := Option.bind_eq_some_iff.1 hc
          obtain ⟨ag, hag, hc⟩ := Option.bind_eq_some_iff.1 hc
          obtain ⟨y, hy, hc⟩ := Option.bind_eq_some_iff.1 hc
          split at hc
          · rename_i hcond
            cases hc
            simp only [stepOp] at hs
            obtain ⟨ys, h1, hs⟩ := Option.bind_eq_some_iff.1 hs
            obtain ⟨n, h2, hs⟩ := Option.bind_eq_some_iff.1 hs
            split at hs
            · rename_i hc2
              exact ok_append hS hT ho hcal ha hat ⟨hu, hz, hy, hcond.1, hcond.2.1, hcond.2.2.1, hcond.2.2.2.1, hcond.2.2.2.2⟩ h1 h2 hc2.1 hc2.2 hs
            · cases hs
          · cases hc
        · cases hc
      · -- len
        rename_i x ty ha hat
        split at hc
        · rename_i hu
          cases hc
          simp only [stepOp] at hs
          obtain ⟨vs, h1, hs⟩ := Option.bind_eq_some_iff.1 hs
          obtain ⟨u, h2, hs⟩ := Option.bind_eq_some_iff.1 hs
          obtain ⟨x', h3, he⟩ := Option.map_eq_some_iff.1 hs
          simp only [Prod.mk.injEq] at he
          obtain ⟨rfl, rfl⟩ := he
          have := evL_ok hT h1
          subst this
          have ha' : c.args = #[x] := by apply Array.ext'; simpa using ha
          exact ok_pure hS (by simp [execOp, ho, resolve, hcal, ha', invoke, builtin, Pu.run]) h2 h3
        · rename_i e hu
          cases hc
          simp only [stepOp] at hs
          obtain ⟨n, hn, he⟩ := Option.map_eq_some_iff.1 hs
          simp only [Prod.mk.injEq] at he
          obtain ⟨rfl, rfl⟩ := he
          exact ok_len hS hT ho hcal ha hat hu hn
        · rename_i kt e hu
          cases hc
          simp only [stepOp] at hs
          obtain ⟨q, hm, he⟩ := Option.map_eq_some_iff.1 hs
          simp only [Prod.mk.injEq] at he
          obtain ⟨rfl, rfl⟩ := he
          exact ok_mlen hS hT ho hcal ha hat hu hm
        · cases hc
      · -- max
        cases hc
        simp only [stepOp] at hs
        obtain ⟨vs, h1, hs⟩ := Option.bind_eq_some_iff.1 hs
        obtain ⟨u, h2, hs⟩ := Option.bind_eq_some_iff.1 hs
        obtain ⟨x', h3, he⟩ := Option.map_eq_some_iff.1 hs
        simp only [Prod.mk.injEq] at he
        obtain ⟨rfl, rfl⟩ := he
        have := evL_ok hT h1
        subst this
        have hmap : c.args.map a.eval = (c.args.toList.map a.eval).toArray := by apply Array.ext'; simp
        exact ok_pure hS (by simp [execOp, ho, resolve, hcal, invoke, builtin, Pu.run, hmap]) h2 h3
      · -- min
        cases hc
        simp only [stepOp] at hs
        obtain ⟨vs, h1, hs⟩ := Option.bind_eq_some_iff.1 hs
        obtain ⟨u, h2, hs⟩ := Option.bind_eq_some_iff.1 hs
        obtain ⟨x', h3, he⟩ := Option.map_eq_some_iff.1 hs
        simp only [Prod.mk.injEq] at he
        obtain ⟨rfl, rfl⟩ := he
        have := evL_ok hT h1
        subst this
        have hmap : c.args.map a.eval = (c.args.toList.map a.eval).toArray := by apply Array.ext'; simp
        exact ok_pure hS (by simp [execOp, ho, resolve, hcal, invoke, builtin, Pu.run, hmap]) h2 h3
      · -- delete
        rename_i m k mt tl ha hat
        split at hc
        · rename_i kt e hu
          obtain ⟨q, hq, rfl⟩ := Option.map_eq_some_iff.1 hc
          simp only [stepOp] at hs
          obtain ⟨p, hm, hs⟩ := Option.bind_eq_some_iff.1 hs
          obtain ⟨l, hl, hs⟩ := Option.bind_eq_some_iff.1 hs
          obtain ⟨cs, hcs, hs⟩ := Option.bind_eq_some_iff.1 hs
          split at hs
          · rename_i hf
            simp only [Option.some.injEq, Prod.mk.injEq] at hs
            obtain ⟨rfl, rfl⟩ := hs
            exact ok_del hS hT ho hcal ha hat hu hq hm hl hcs hf.1 hf.2
          · cases hs
        · cases hc
      · cases hc
    · rename_i f hcal
      split at hc
      · rename_i hf
        cases hc
        exact ok_call hS hT ho hcal hE (by simp only [FuncId] at *; omega) hs
      · cases hc
    · rename_i g hcal
      cases hc
      simp only [stepOp] at hs
      split at hs
      · rename_i f caps hg
        exact ok_dyn hS hT ho hcal hg hE hs
      · cases hs
    · cases hc
  · -- makeMap
    rename_i ty ho
    cases hc
    simp only [stepOp] at hs
    obtain ⟨⟨b, h1⟩, hn, he⟩ := Option.map_eq_some_iff.1 hs
    simp only [Prod.mk.injEq] at he
    obtain ⟨rfl, rfl⟩ := he
    exact ok_makeMap hS ho hn
  · -- lookup
    rename_i mt m k ok ho
    split at hc
    · rename_i kt e hu
      obtain ⟨q, hq, hc⟩ := Option.bind_eq_some_iff.1 hc
      obtain ⟨z, hz, rfl⟩ := Option.map_eq_some_iff.1 hc
      simp only [stepOp] at hs
      obtain ⟨p, hm, hs⟩ := Option.bind_eq_some_iff.1 hs
      obtain ⟨l, hl, hs⟩ := Option.bind_eq_some_iff.1 hs
      obtain ⟨cs, hcs, hs⟩ := Option.bind_eq_some_iff.1 hs
      split at hs
      · rename_i hf
        obtain ⟨u, hu2, hs⟩ := Option.map_eq_some_iff.1 hs
        simp only [Prod.mk.injEq] at hs
        obtain ⟨rfl, rfl⟩ := hs
        exact ok_lookup hS hT ho hu hq hz hm hl hcs hf hu2
      · cases hs
    · cases hc
  · -- mapUpdate
    rename_i mt m k x ho
    split at hc
    · rename_i kt e hu
      obtain ⟨q, hq, rfl⟩ := Option.map_eq_some_iff.1 hc
      simp only [stepOp] at hs
      obtain ⟨p, hm, hs⟩ := Option.bind_eq_some_iff.1 hs
      obtain ⟨l, hl, hs⟩ := Option.bind_eq_some_iff.1 hs
      obtain ⟨cs, hcs, hs⟩ := Option.bind_eq_some_iff.1 hs
      split at hs
      · rename_i hf
        simp only [Option.some.injEq, Prod.mk.injEq] at hs
        obtain ⟨rfl, rfl⟩ := hs
        exact ok_mapSet hS hT (.inl ho) hu hq hm hl hcs hf
      · cases hs
    · cases hc
  · rename_i mt m k x ho
    split at hc
    · rename_i kt e hu
      obtain ⟨q, hq, rfl⟩ := Option.map_eq_some_iff.1 hc
      simp only [stepOp] at hs
      obtain ⟨p, hm, hs⟩ := Option.bind_eq_some_iff.1 hs
      obtain ⟨l, hl, hs⟩ := Option.bind_eq_some_iff.1 hs
      obtain ⟨cs, hcs, hs⟩ := Option.bind_eq_some_iff.1 hs
      split at hs
      · rename_i hf
        simp only [Option.some.injEq, Prod.mk.injEq] at hs
        obtain ⟨rfl, rfl⟩ := hs
        exact ok_mapSet hS hT (.inr ho) hu hq hm hl hcs hf
      · cases hs
    · cases hc
  · -- mapEntry
    rename_i mt m k ho
    split at hc
    · rename_i kt e hu
      obtain ⟨q, hq, hc⟩ := Option.bind_eq_some_iff.1 hc
      obtain ⟨z, hz, rfl⟩ := Option.map_eq_some_iff.1 hc
      simp only [stepOp] at hs
      obtain ⟨p, hm, hs⟩ := Option.bind_eq_some_iff.1 hs
      obtain ⟨l, hl, hs⟩ := Option.bind_eq_some_iff.1 hs
      obtain ⟨cs, hcs, hs⟩ := Option.bind_eq_some_iff.1 hs
      split at hs
      · rename_i hf
        obtain ⟨u, hu2, hs⟩ := Option.map_eq_some_iff.1 hs
        simp only [Prod.mk.injEq] at hs
        obtain ⟨rfl, rfl⟩ := hs
        exact ok_mapEntry hS hT ho hu hq hz hm hl hcs hf hu2
      · cases hs
    · cases hc
  · -- entryStore
    rename_i mt m s x ho
    cases hc
    simp only [stepOp] at hs
    obtain ⟨p, hm, hs⟩ := Option.bind_eq_some_iff.1 hs
    obtain ⟨n, hn, hs⟩ := Option.bind_eq_some_iff.1 hs
    split at hs
    · rename_i hf
      simp only [Option.some.injEq, Prod.mk.injEq] at hs
      obtain ⟨rfl, rfl⟩ := hs
      exact ok_entryStore hS hT ho hm hn hf
    · cases hs
  · cases hc

end

/-- How slices in the cells of a type are laid: only a hint. -/
def slHint (P : Program) : Nat → TypeId → List (Nat × Bool)
  | 0, _ => []
  | n + 1, t => match P.underlying t with
    | some (.slice e) => [((szOf P e).getD 0, (agOf P e).getD false)]
    | some (.struct fs) => fs.toList.flatMap fun f => slHint P n f.type
    | some (.array k e) => (List.replicate k (slHint P n e)).flatten
    | _ => [(0, false)]
def hintOf (P : Program) (o : Oper) : List (Nat × Bool) := match o.op with
  | .alloc e => slHint P 8 e
  | .store t _ _ => slHint P 8 t
  | .assign _ => slHint P 8 o.type
  | .move _ => slHint P 8 o.type
  | .call c => c.argTypes.toList.map fun t => (slHint P 8 t).headD (0, false)
  | _ => []

def isNilC : Operand → Bool
  | .const v => isNilV v
  | _ => false

theorem isNilC_eq {x : Operand} (h : isNilC x = true) : x = .const (.slice none 0 0) := by
  cases x with
  | const v => obtain rfl := isNilV_eq h; rfl
  | _ => cases h

/-- In a region whose order is the text's: nil slices and new variables as the function's own, calls that hand over what they made. -/
def finOp (sq sa : Bool) (ht : List (Nat × Bool)) (own : Nat → Bool) : AOp → AOp
  | .mv x => match x with
    | .const v => if sq && isNilV v then .vnil (ht.headD (0, false)).1 (ht.headD (0, false)).2 else .mv (.const v)
    | x => .mv x
  | .alloc zero => if sq then .allocV ht zero else .alloc zero
  | .store z a x => if sq then .storeV ht z a x else .store z a x
  | .call c args => if own (c / 2) then (if sq && args.any isNilC then .callV (2 * (c / 2) + 1) ht args else .call (2 * (c / 2) + 1) args) else .call c args
  | .append z ag y s x => if sa && isNilC s then .appendV z ag y x else .append z ag y s x
  | op => op

section
variable {P : Program} {base : Nat} {X : Nat → Prop} {o : Oper} {a : Act} {w : World} {H H' : Heap} {G : List Nat} {v : V} {t : Nat → V}

theorem compOp_mv {x : Operand} (h : compOp P o = some (.mv x)) : o.op = .move x ∨ o.op = .assign x := by
  unfold compOp at h
  repeat' split at h
  all_goals first
    | (cases h; left; assumption)
    | (cases h; right; assumption)
    | (cases h; done)
    | (simp [Option.bind_eq_some_iff, Option.map_eq_some_iff] at h; done)
    | skip
  · exfalso
    unfold compCall at h
    repeat' split at h
    all_goals first
      | (cases h; done)
      | (simp [Option.bind_eq_some_iff, Option.map_eq_some_iff] at h; done)

theorem compOp_alloc {zero : List Value} (h : compOp P o = some (.alloc zero)) : ∃ e, o.op = .alloc e ∧ zeroOf P e = some zero := by
  unfold compOp at h
  repeat' split at h
  all_goals first
    | (rename_i e ho; obtain ⟨z, hz, h⟩ := Option.map_eq_some_iff.1 h; cases h; exact ⟨e, ho, hz⟩)
    | (cases h; done)
    | (simp [Option.bind_eq_some_iff, Option.map_eq_some_iff] at h; done)
    | skip
  · exfalso
    unfold compCall at h
    repeat' split at h
    all_goals first
      | (cases h; done)
      | (simp [Option.bind_eq_some_iff, Option.map_eq_some_iff] at h; done)

theorem compOp_call {c : Nat} {args : List Operand} (h : compOp P o = some (.call c args)) : ∃ cl f, o.op = .call cl ∧ cl.callee = .value (.func f) ∧ callable P f = true ∧ c = 2 * f ∧ args = cl.args.toList := by
  unfold compOp at h
  repeat' split at h
  all_goals first
    | (cases h; done)
    | (simp [Option.bind_eq_some_iff, Option.map_eq_some_iff] at h; done)
    | skip
  · rename_i cl ho
    unfold compCall at h
    repeat' split at h
    all_goals first
      | (cases h; done)
      | (simp [Option.bind_eq_some_iff, Option.map_eq_some_iff] at h; done)
      | skip
    · rename_i f hcal hf
      cases h
      exact ⟨cl, f, ho, hcal, hf, rfl, rfl⟩

theorem compOp_store {z : Nat} {p x : Operand} (h : compOp P o = some (.store z p x)) : ∃ ty, o.op = .store ty p x ∧ szOf P ty = some z := by
  unfold compOp at h
  repeat' split at h
  all_goals first
    | (rename_i ty a b ho; obtain ⟨z', hz, h⟩ := Option.map_eq_some_iff.1 h; cases h; exact ⟨ty, ho, hz⟩)
    | (cases h; done)
    | (simp [Option.bind_eq_some_iff, Option.map_eq_some_iff] at h; done)
    | skip
  · exfalso
    unfold compCall at h
    repeat' split at h
    all_goals first
      | (cases h; done)
      | (simp [Option.bind_eq_some_iff, Option.map_eq_some_iff] at h; done)

theorem compOp_append {z y : Nat} {ag : Bool} {s x : Operand} (h : compOp P o = some (.append z ag y s x)) : ∃ c t1 t2 e, o.op = .call c ∧ c.callee = .builtin .append ∧ c.args.toList = [s, x] ∧ c.argTypes.toList = [t1, t2] ∧ AppTy P t1 t2 e z y := by
  unfold compOp at h
  repeat' split at h
  all_goals first
    | (cases h; done)
    | (simp [Option.bind_eq_some_iff, Option.map_eq_some_iff] at h; done)
    | skip
  · rename_i cl ho
    unfold compCall at h
    split at h
    · rename_i b hcal
      split at h
      · rename_i s' x' t1 t2 ha hat
        split at h
        · rename_i e hu
          obtain ⟨z', hz, h⟩ := Option.bind_eq_some_iff.1 h
          obtain ⟨ag', hag, h⟩ := Option.bind_eq_some_iff.1 h
          obtain ⟨y', hy, h⟩ := Option.bind_eq_some_iff.1 h
          split at h
          · rename_i hcond
            cases h
            exact ⟨cl, t1, t2, e, ho, hcal, ha, hat, ⟨hu, hz, hy, hcond.1, hcond.2.1, hcond.2.2.1, hcond.2.2.2.1, hcond.2.2.2.2⟩⟩
          · cases h
        · cases h
      · split at h
        · cases h
        · cases h
        · cases h
        · cases h
      · cases h
      · cases h
      · split at h
        · obtain ⟨q, _, h⟩ := Option.map_eq_some_iff.1 h
          cases h
        · cases h
      · cases h
    · split at h <;> cases h
    · cases h
    · cases h

theorem ok_callV {env : Env} {slot : Option Nat} {c : Call} {f : FuncId} {ht : List (Nat × Bool)} (hS : SimH base X w H G) (hT : TV w base (Mof X H G) H G t a.tmps) (ho : o.op = .call c) (hc : c.callee = .value (.func f)) (hf : callable P f = true)
    (hE : EnvOK P env) {d : Nat} (hd : d / 2 = f) (hv : env d slot (virtV ht H.length (c.args.toList.map (St.ev ⟨t, H⟩))) (H ++ List.replicate (nilsV (c.args.toList.map (St.ev ⟨t, H⟩))) .virt) = some (v, H')) : StepOK P base X o a w H G v H' := by
  have h12 := hE d slot _ _ v H' hv
  rw [hd] at h12
  obtain ⟨G1, hX, hS1⟩ := virts_ok (nilsV (c.args.toList.map (St.ev ⟨t, H⟩))) hS
  have hl : RVL w base (Mof X (H ++ List.replicate (nilsV (c.args.toList.map (St.ev ⟨t, H⟩))) .virt) G1) (H ++ List.replicate (nilsV (c.args.toList.map (St.ev ⟨t, H⟩))) .virt) G1 (virtV ht H.length (c.args.toList.map (St.ev ⟨t, H⟩))) (c.args.map a.eval).toList := by
    refine virtV_ok _ _ ht H.length ?_ (by
      intro j hj
      rw [List.getElem?_append_right (by omega)]
      simp [hj])
    have := evs_ok (h := H) hT c.args.toList
    have := RVL.ext hX (by simpa using this)
    simpa using this
  have hr : (execOp a.eval o).run P w = (callFunc f (c.args.map a.eval)).run P w := by
    simp only [execOp, ho, resolve, hc, Act.eval, Deferred.ofValue, invoke, Sem.run_bind, Sem.run_pure, Result.andThen_ok]
    simp [Act.eval]
  have hstep : StepOK P base X o a w (H ++ List.replicate (nilsV (c.args.toList.map (St.ev ⟨t, H⟩))) .virt) G1 v H' := by
    rcases h12 with ⟨h1, h2⟩ | h2
    · exact StepOK.enter (f := f) (xs := c.args.map a.eval) hS1 (by rw [hr, run_callFunc h1]) h2 hl
    · exact StepOK.extern hS1 hr h2 hl
  intro next Q hn
  refine hstep next Q ?_
  intro x' w' G' hE' hS' hv'
  exact hn x' w' G' (hX.trans hE') hS' hv'

theorem normOp_keep {op : AOp} (h : ∀ p xs, normOp P op ≠ .pu p xs) : normOp P op = op := by
  cases op with
  | pu p xs =>
    exfalso
    cases hn : normPu P p with
    | some q => exact h (.n q) xs (by simp [normOp, hn])
    | none => exact h p xs (by simp [normOp, hn])
  | _ => rfl

theorem fin_ok {env : Env} {slot : Option Nat} {aop : AOp} {sq sa : Bool} {ht : List (Nat × Bool)} {own : Nat → Bool} (hslot : sq = true → slot = none) (hE : EnvOK P env) (hS : SimH base X w H G) (hT : TV w base (Mof X H G) H G t a.tmps) (hc : compOp P o = some aop)
    (hs : stepOp P env slot (finOp sq sa ht own (normOp P aop)) ⟨t, H⟩ = some (v, H')) : StepOK P base X o a w H G v H' := by
  have hold : ∀ op, op = normOp P aop → stepOp P env slot op ⟨t, H⟩ = some (v, H') → StepOK P base X o a w H G v H' := fun op e h => step_ok hE hS hT hc (normOp_ok (by rw [← e]; exact h))
  generalize hop : normOp P aop = op at hs
  unfold finOp at hs
  split at hs
  · rename_i x
    have := normOp_keep (P := P) (op := aop) (by rw [hop]; intro p xs e; cases e)
    rw [hop] at this
    rw [← this] at hc
    split at hs
    · rename_i u
      split at hs
      · rename_i hq
        simp only [Bool.and_eq_true] at hq
        obtain rfl := isNilV_eq hq.2
        simp only [stepOp] at hs
        obtain ⟨⟨b, h1⟩, hn, he⟩ := Option.map_eq_some_iff.1 hs
        simp only [Prod.mk.injEq] at he
        obtain ⟨rfl, rfl⟩ := he
        exact ok_vnil hS (compOp_mv hc) hn
      · exact hold _ hop.symm hs
    · exact hold _ hop.symm hs
  · rename_i zero
    have := normOp_keep (P := P) (op := aop) (by rw [hop]; intro p xs e; cases e)
    rw [hop] at this
    rw [← this] at hc
    split at hs
    · simp only [stepOp, Option.some.injEq, Prod.mk.injEq] at hs
      obtain ⟨rfl, rfl⟩ := hs
      obtain ⟨e, ho, hz⟩ := compOp_alloc hc
      exact ok_allocV hS ho hz
    · exact hold _ hop.symm hs
  · rename_i z p x
    have := normOp_keep (P := P) (op := aop) (by rw [hop]; intro p xs e; cases e)
    rw [hop] at this
    rw [← this] at hc
    split at hs
    · simp only [stepOp] at hs
      obtain ⟨h1, h2, he⟩ := Option.map_eq_some_iff.1 hs
      simp only [Prod.mk.injEq] at he
      obtain ⟨rfl, rfl⟩ := he
      obtain ⟨ty, ho, hz⟩ := compOp_store hc
      exact ok_storeV hS hT ho hz h2
    · exact hold _ hop.symm hs
  · rename_i c args
    have := normOp_keep (P := P) (op := aop) (by rw [hop]; intro p xs e; cases e)
    rw [hop] at this
    rw [← this] at hc
    split at hs
    · split at hs
      · simp only [stepOp] at hs
        obtain ⟨cl, f, ho, hcal, hf, rfl, rfl⟩ := compOp_call hc
        exact ok_callV hS hT ho hcal hf hE (by simp only [FuncId] at *; omega) hs
      · simp only [stepOp] at hs
        obtain ⟨cl, f, ho, hcal, hf, rfl, rfl⟩ := compOp_call hc
        exact ok_call hS hT ho hcal hE (by simp only [FuncId] at *; omega) hs
    · exact hold _ hop.symm hs
  · rename_i z ag y s x
    have := normOp_keep (P := P) (op := aop) (by rw [hop]; intro p xs e; cases e)
    rw [hop] at this
    rw [← this] at hc
    split at hs
    · rename_i hq
      simp only [Bool.and_eq_true] at hq
      obtain rfl := isNilC_eq hq.2
      simp only [stepOp] at hs
      obtain ⟨c, t1, t2, e, ho, hcal, ha, hat, hA⟩ := compOp_append hc
      obtain ⟨ys, h1, hs⟩ := Option.bind_eq_some_iff.1 hs
      obtain ⟨n, h2, hs⟩ := Option.bind_eq_some_iff.1 hs
      split at hs
      · rename_i hc2
        exact ok_appendV hS hT ho hcal ha hat hA h1 h2 hc2.1 hc2.2 hs
      · cases hs
    · exact hold _ hop.symm hs
  · exact hold _ hop.symm hs

end
end Go.AM

set_option linter.unusedVariables false
set_option linter.unusedSimpArgs false
namespace Go.AM

inductive ACode where
  | skip
  | ops (l : List AOper)
  | opsR (n : Nat) (l : List AOper)
  | seq (a b : ACode)
  | cond (c : Operand) (x y : ACode)
  | block (id : Nat) (c : ACode)
  | loop (c : ACode)
  | exit (id : Nat)
  | ret

inductive AExit where
  | normal
  | exit (id : Nat)
  | ret

def AExit.to : AExit → Exit
  | .normal => .normal
  | .exit id => .exit id
  | .ret => .ret

def put (t : Nat → V) (dst : Option Nat) (v : V) : Nat → V :=
  match dst with
  | some d => fun k => if k = d then v else t k
  | none => t

def wantedA (o : AOper) (t : Nat → V) : Option Bool :=
  match o.guard with
  | none => some true
  | some (d, want) => match t d with
    | .i (.s (.bool b)) => some (b == want)
    | .i (.tup []) => some false
    | _ => none

/-- The block that is kept free for what an operation makes. -/
def slotOf (bs : Option Nat) (o : AOper) : Option (Option Nat) :=
  match o.slot with
  | none => some none
  | some k => bs.map fun b => some (b + k)

/-- What an operation yields, guard and all. -/
def outA (P : Program) (env : Env) (bs : Option Nat) (o : AOper) (t : Nat → V) (h : Heap) : Option (V × Heap) :=
  (wantedA o t).bind fun b => if b then (slotOf bs o).bind fun slot => stepOp P env slot o.op ⟨t, h⟩ else some (undefV, h)

/-- What a value refers to has not turned. -/
def kept (h h' : Heap) : V → Prop
  | .ptr b _ _ => h'[b]? = h[b]?
  | .hsl b _ _ _ _ _ => h'[b]? = h[b]?
  | .i _ => True
  | _ => False

theorem kept_refl {h h' h2 : Heap} {v : V} (hk : kept h h' v) : kept h2 h2 v := by
  cases v <;> first | trivial | exact hk.elim | rfl

open Classical in
noncomputable def stepA (P : Program) (env : Env) (slot : Option Nat) (o : AOper) (st : St) : Option St :=
  (outA P env slot o st.t st.h).bind fun p => if ∀ x, x ∈ o.apart → kept st.h p.2 (st.ev x) then some ⟨put st.t o.dst p.1, p.2⟩ else none

def AOper.clear (o : AOper) : AOper := { o with apart := [] }

theorem stepA_some {P : Program} {env : Env} {slot : Option Nat} {o : AOper} {st st' : St} : stepA P env slot o st = some st' ↔
    ∃ p, outA P env slot o st.t st.h = some p ∧ (∀ x, x ∈ o.apart → kept st.h p.2 (st.ev x)) ∧ st' = ⟨put st.t o.dst p.1, p.2⟩ := by
  unfold stepA
  rw [Option.bind_eq_some_iff]
  constructor
  · rintro ⟨p, h1, h2⟩
    split at h2
    · rename_i hc; cases h2; exact ⟨p, h1, hc, rfl⟩
    · cases h2
  · rintro ⟨p, h1, hc, rfl⟩
    exact ⟨p, h1, by rw [if_pos hc]⟩

theorem outA_clear {P : Program} {env : Env} {slot : Option Nat} {o : AOper} {t : Nat → V} {h : Heap} : outA P env slot o.clear t h = outA P env slot o t h := rfl

theorem stepA_clear {P : Program} {env : Env} {slot : Option Nat} {o : AOper} {st st' : St} (h : stepA P env slot o st = some st') : stepA P env slot o.clear st = some st' := by
  obtain ⟨p, h1, h2, h3⟩ := stepA_some.1 h
  exact stepA_some.2 ⟨p, h1, by simp [AOper.clear], h3⟩

noncomputable def runOps (P : Program) (env : Env) (bs : Option Nat) : List AOper → St → Option St
  | [], st => some st
  | o :: l, st => (stepA P env bs o st).bind (runOps P env bs l)

def iterN (f : St → Option (AExit × St)) : Nat → St → Option (AExit × St)
  | 0, _ => none
  | n + 1, st => (f st).bind fun p => match p.1 with
    | .normal => iterN f n p.2
    | _ => some p

open Classical in
noncomputable def iterW (f : St → Option (AExit × St)) (st : St) : Option (AExit × St) :=
  if h : ∃ n, (iterN f n st).isSome = true then iterN f h.choose st else none

theorem iterW_n {f : St → Option (AExit × St)} {st : St} {r : AExit × St} (h : iterW f st = some r) : ∃ n, iterN f n st = some r := by
  unfold iterW at h
  split at h
  · exact ⟨_, h⟩
  · cases h

theorem iterN_mono {f : St → Option (AExit × St)} : ∀ {n : Nat} {st : St} {r : AExit × St}, iterN f n st = some r → iterN f (n + 1) st = some r
  | 0, _, _, h => by simp [iterN] at h
  | n + 1, st, r, h => by
    rw [iterN] at h ⊢
    obtain ⟨p, hp, h⟩ := Option.bind_eq_some_iff.1 h
    rw [hp]
    simp only [Option.bind_some]
    obtain ⟨e, s1⟩ := p
    cases e with
    | normal => exact iterN_mono h
    | exit id => exact h
    | ret => exact h

theorem iterN_le {f : St → Option (AExit × St)} {n m : Nat} {st : St} {r : AExit × St} (h : iterN f n st = some r) (hm : n ≤ m) : iterN f m st = some r := by
  induction hm with
  | refl => exact h
  | step _ ih => exact iterN_mono ih

theorem iterW_of {f : St → Option (AExit × St)} {n : Nat} {st : St} {r : AExit × St} (h : iterN f n st = some r) : iterW f st = some r := by
  have hex : ∃ n, (iterN f n st).isSome = true := ⟨n, by rw [h]; rfl⟩
  unfold iterW
  rw [dif_pos hex]
  obtain ⟨r', hr'⟩ := Option.isSome_iff_exists.1 hex.choose_spec
  rw [hr']
  have h1 := iterN_le h (Nat.le_max_left n hex.choose)
  have h2 := iterN_le hr' (Nat.le_max_right n hex.choose)
  rw [h1] at h2
  exact h2.symm

/-- One round more. -/
theorem iterW_step {f : St → Option (AExit × St)} {st st' : St} (h : f st = some (.normal, st')) {r : AExit × St} (hr : iterW f st' = some r) : iterW f st = some r := by
  obtain ⟨n, hn⟩ := iterW_n hr
  refine iterW_of (n := n + 1) ?_
  rw [iterN, h]
  exact hn

/-- The last round. -/
theorem iterW_exit {f : St → Option (AExit × St)} {st st' : St} {e : AExit} (h : f st = some (e, st')) (he : e ≠ .normal) : iterW f st = some (e, st') := by
  refine iterW_of (n := 1) ?_
  rw [iterN, h]
  cases e with
  | normal => exact absurd rfl he
  | exit id => rfl
  | ret => rfl

noncomputable def exec (P : Program) (env : Env) : ACode → St → Option (AExit × St)
  | .skip, st => some (.normal, st)
  | .ops l, st => (runOps P env none l st).map fun st => (.normal, st)
  | .opsR n l, st => (runOps P env (some st.h.length) l ⟨st.t, st.h ++ List.replicate n .free⟩).map fun st => (.normal, st)
  | .seq a b, st => (exec P env a st).bind fun p => match p.1 with
    | .normal => exec P env b p.2
    | e => some (e, p.2)
  | .cond c x y, st => match st.ev c with
    | .i (.s (.bool t)) => if t then exec P env x st else exec P env y st
    | _ => none
  | .block id c, st => (exec P env c st).map fun p => match p.1 with
    | .exit id' => if id' = id then (.normal, p.2) else (.exit id', p.2)
    | e => (e, p.2)
  | .loop c, st => iterW (exec P env c) st
  | .exit id, st => some (.exit id, st)
  | .ret, st => some (.ret, st)

/-- How a function is called: 0 as one that changes nothing, 1 as one that hands over what it made, 3 so where the order is the text's alone, 2 as it runs, 4 as 0, and those of mode 3 beside it too. -/
abbrev Modes := Nat → Nat

/-- A region that calls a function of mode 4: there all others but those of modes 1 and 2 change nothing. -/
def calmReg (m : Modes) (ops : Array Oper) : Bool := ops.any fun o => match o.op with
  | .call c => match c.callee with
    | .value (.func f) => m f == 4
    | _ => false
  | _ => false

/-- A region that appends more than once. -/
def manyApp (ops : Array Oper) : Bool := decide (2 ≤ ops.toList.countP fun o => match o.op with
  | .call c => match c.callee with
    | .builtin .append => true
    | _ => false
  | _ => false)

def compOper (P : Program) (m : Modes) (sq : Bool) (N : Nat) (ops : Array Oper) (o : Oper) : Option AOper :=
  if o.dst.all (· < N) = true then
    (compOp P o).bind fun aop =>
      match o.guard with
      | none => some ⟨o.dst, finOp sq (sq || manyApp ops) (hintOf P o) (fun f => m f == 2 || m f == 1 || (sq && m f == 3 && !calmReg m ops)) (normOp P aop), none, [], none⟩
      | some (j, want) => ((ops[j]?).bind (·.dst)).bind fun d => if d < N then some ⟨o.dst, finOp sq (sq || manyApp ops) (hintOf P o) (fun f => m f == 2 || m f == 1 || (sq && m f == 3 && !calmReg m ops)) (normOp P aop), some (d, want), [], none⟩ else none
  else none

end Go.AM

set_option linter.unusedVariables false
set_option linter.unusedSimpArgs false
namespace Go.AM

def Operand.tm : Operand → List Nat
  | .tmp k => [k]
  | _ => []

/-- The temporaries that an operation looks at. -/
def AOp.uses : AOp → List Nat
  | .mv x | .box x | .nilChk x | .fieldA _ x | .field _ _ _ x | .len x | .extract _ x | .b2s x | .ifc _ x | .load _ _ x | .mlen x => Operand.tm x
  | .pick c a b => Operand.tm c ++ Operand.tm a ++ Operand.tm b
  | .pu _ xs => xs.flatMap Operand.tm
  | .alloc _ | .allocV _ _ | .vnil _ _ | .makeMap => []
  | .build _ parts => parts.flatMap fun p => Operand.tm p.2.2
  | .buildSl _ _ _ _ parts => parts.flatMap fun p => Operand.tm p.2
  | .store _ a x | .storeV _ _ a x | .aeq _ _ a x => Operand.tm a ++ Operand.tm x
  | .idxS _ x i | .idxA _ _ x i | .idxV _ _ _ x i => Operand.tm x ++ Operand.tm i
  | .slice _ x lo hi | .sliceA _ _ _ x lo hi => Operand.tm x ++ (lo.toList ++ hi.toList).flatMap Operand.tm
  | .append _ _ _ s x => Operand.tm s ++ Operand.tm x
  | .makeSl _ _ _ _ l c => Operand.tm l ++ Operand.tm c
  | .clo _ caps => caps.flatMap Operand.tm
  | .lookup _ _ _ _ _ m k | .del _ _ m k | .mapEntry _ _ _ _ m k => Operand.tm m ++ Operand.tm k
  | .entryStore m s x => Operand.tm m ++ Operand.tm s ++ Operand.tm x
  | .mapSet _ _ m k x => Operand.tm m ++ Operand.tm k ++ Operand.tm x
  | .call _ args | .callV _ _ args => args.flatMap Operand.tm
  | .appendV _ _ _ x => Operand.tm x
  | .dyn f args => Operand.tm f ++ args.flatMap Operand.tm

def AOper.looks (o : AOper) : List Nat := o.op.uses ++ match o.guard with | some (d, _) => [d] | none => []
def AOper.watch (o : AOper) : List Nat := o.apart.flatMap Operand.tm

inductive Cls where
  | q | r | a | e
  | s (k : Nat)

/-- q: looks at nothing but its operands. r: reads memory. a: lays one block. e: any other. -/
def AOp.cls (pur : Nat → Bool) : AOp → Cls
  | .mv _ | .pick .. | .pu .. | .extract .. | .nilChk _ | .fieldA .. | .field .. | .idxA .. | .idxV .. | .build .. | .clo .. | .ifc .. | .len _ | .slice .. | .aeq .. => .q
  | .load .. | .idxS .. | .sliceA .. | .b2s _ | .lookup .. | .mlen _ => .r
  | .makeMap | .alloc _ | .box _ | .buildSl .. | .makeSl .. | .appendV .. => .a
  | .call f _ => if pur f then (if f % 2 == 0 then .r else .a) else .e
  | _ => .e

/-- Operations that lay one block. -/
def AOp.lays : AOp → Bool
  | .makeMap | .alloc _ | .box _ | .buildSl .. | .makeSl .. => true
  | _ => false

/-- The same of an operation in its place: s: lays its block where it is kept free. -/
def AOper.cls (pur : Nat → Bool) (o : AOper) : Cls :=
  match o.slot with
  | none => o.op.cls pur
  | some k => if o.op.lays then .s k else .e

def Cls.swap : Cls → Cls → Bool
  | .q, _ | _, .q | .r, .r | .r, .a | .r, .s _ | .a, .s _ => true
  | .s k, .s m => k != m
  | _, _ => false

/-- What a reading operation reads through. -/
def addrOf : AOp → Option Nat
  | .load _ _ (.tmp a) | .idxS _ (.tmp a) _ | .sliceA _ _ _ (.tmp a) _ _ | .b2s (.tmp a) => some a
  | _ => none

def Cls.ar : Cls → Cls → Bool
  | .a, .r | .s _, .r => true
  | _, _ => false

def Cls.isS : Cls → Bool
  | .s _ => true
  | _ => false

/-- It appends, in no place kept free. -/
def AOper.isApp (o : AOper) : Bool := match o.op, o.slot with
  | .append .., none => true
  | _, _ => false

def swapOK (pur : Nat → Bool) (x y : AOper) : Bool :=
  (Cls.swap (x.cls pur) (y.cls pur) || (Cls.ar (x.cls pur) (y.cls pur) && (addrOf y.op).isSome) || (x.isApp && (y.cls pur).isS)) && (!(y.cls pur).isS || x.apart.isEmpty) &&
  (match x.dst with | some d => !(y.looks).contains d && y.dst != some d | none => true) &&
  (match y.dst with | some d => !(x.looks ++ x.watch).contains d | none => true)


def Cls.isE : Cls → Bool
  | .e => true
  | _ => false
def Cls.isR : Cls → Bool
  | .r => true
  | _ => false
def Cls.isQ : Cls → Bool
  | .q => true
  | _ => false

/-- x ahead of y, y writes: x may come behind it too, for what it reads is not what y writes. -/
def watchOK (pur : Nat → Bool) (al : List AOper) (j i : Nat) (x y : AOper) : Bool :=
  (y.cls pur).isE && x.apart.isEmpty &&
  (match x.dst with | some d => !(y.looks).contains d && y.dst != some d | none => true) &&
  (match y.dst with | some d => !(x.looks).contains d | none => true) &&
  ((x.cls pur).isQ || ((x.cls pur).isR && match addrOf x.op with
    | some a => y.watch.contains a && (List.range i).all (fun k => k < j || match al[k]? with | some z => z.dst != some a | none => true)
    | none => false))

/-- What is there stays; what was kept free may have been filled. -/
def Up (h h2 : Heap) : Prop := ∀ (b : Nat) (s : Slot), h[b]? = some s → s ≠ Slot.free → h2[b]? = some s

/-- What is asked of a function whose place in a region is open: it changes nothing (even codes), or it lays blocks behind all others (odd ones). -/
def PurEnv (env : Env) (f : Nat) : Prop :=
  (f % 2 = 0 → ∀ slot args h v h', env f slot args h = some (v, h') → h' = h ∧ ∀ h2, Up h h2 → env f slot args h2 = some (v, h2)) ∧
  (f % 2 = 1 → ∀ slot args h v h', env f slot args h = some (v, h') → ∃ l, h' = h ++ l ∧ (∀ s, s ∈ l → s ≠ .free) ∧ ∀ h2, h2.length = h.length → Up h h2 → env f slot args h2 = some (v, h2 ++ l))

theorem Up.push {h : Heap} (s : Slot) : Up h (h ++ [s]) := by
  intro b s' hb _
  rw [List.getElem?_append_left (List.getElem?_eq_some_iff.1 hb).1]
  exact hb

theorem Up.append {h : Heap} (l : Heap) : Up h (h ++ l) := by
  intro b s' hb _
  rw [List.getElem?_append_left (List.getElem?_eq_some_iff.1 hb).1]
  exact hb

theorem Up.set {h : Heap} {b : Nat} (s : Slot) (hf : h[b]? = some .free) : Up h (h.set b s) := by
  intro b' s' hb hn
  by_cases e : b = b'
  · subst e
    rw [hf] at hb
    cases hb
    exact absurd rfl hn
  · rw [List.getElem?_set_ne e]
    exact hb

section
variable {P : Program} {env : Env} {pur : Nat → Bool} {t t' : Nat → V} {h h' : Heap}

theorem ev_congr {x : Operand} (hx : ∀ k, k ∈ Operand.tm x → t' k = t k) : St.ev ⟨t', h'⟩ x = St.ev ⟨t, h⟩ x := by
  cases x with
  | tmp k => exact hx k (by simp [Operand.tm])
  | _ => rfl

theorem evs_congr {xs : List Operand} (hx : ∀ k, k ∈ xs.flatMap Operand.tm → t' k = t k) : xs.map (St.ev ⟨t', h'⟩) = xs.map (St.ev ⟨t, h⟩) := by
  apply List.map_congr_left
  intro o ho
  exact ev_congr fun k hk => hx k (List.mem_flatMap.2 ⟨o, ho, hk⟩)

theorem fillV_congr : ∀ {parts : List (Nat × Nat × Operand)} {cs : List V}, (∀ k, k ∈ (parts.flatMap fun p => Operand.tm p.2.2) → t' k = t k) → fillV ⟨t', h'⟩ cs parts = fillV ⟨t, h⟩ cs parts
  | [], _, _ => rfl
  | (off, size, x) :: rest, cs, hx => by
    have e : St.ev ⟨t', h'⟩ x = St.ev ⟨t, h⟩ x := ev_congr fun k hk => hx k (by simp [hk])
    simp only [fillV, e]
    split
    · exact fillV_congr fun k hk => hx k (by simp only [List.flatMap_cons, List.mem_append]; exact .inr hk)
    · rfl

theorem bounds_congr {lo hi : Option Operand} (hx : ∀ k, k ∈ (lo.toList ++ hi.toList).flatMap Operand.tm → t' k = t k) : bounds ⟨t', h'⟩ lo hi = bounds ⟨t, h⟩ lo hi := by
  funext len
  have e1 : boundHi ⟨t', h'⟩ hi len = boundHi ⟨t, h⟩ hi len := by
    cases hi with
    | none => rfl
    | some o => simp only [boundHi]; rw [ev_congr fun k hk => hx k (by simp [hk])]
  have e2 : ∀ n, boundLo ⟨t', h'⟩ lo n = boundLo ⟨t, h⟩ lo n := by
    intro n
    cases lo with
    | none => rfl
    | some o => simp only [boundLo]; rw [ev_congr fun k hk => hx k (by simp [hk])]
  simp only [bounds, e1, e2]

theorem stepOp_congr {slot : Option Nat} {op : AOp} (hx : ∀ k, k ∈ op.uses → t' k = t k) : stepOp P env slot op ⟨t', h⟩ = stepOp P env slot op ⟨t, h⟩ := by
  cases op <;> simp only [AOp.uses, List.mem_append, or_imp, forall_and] at hx <;> simp only [stepOp]
  all_goals first
    | rfl
    | (rw [ev_congr (t' := t') (t := t) (h' := h) (h := h) hx]; done)
    | (rw [evs_congr (t' := t') (t := t) (h' := h) (h := h) hx]; done)
    | (rw [fillV_congr (t' := t') (t := t) (h' := h) (h := h) hx]; done)
    | (rw [ev_congr (t' := t') (t := t) (h' := h) (h := h) hx.1, ev_congr (t' := t') (t := t) (h' := h) (h := h) hx.2]; done)
    | (rw [ev_congr (t' := t') (t := t) (h' := h) (h := h) hx.1.1, ev_congr (t' := t') (t := t) (h' := h) (h := h) hx.1.2, ev_congr (t' := t') (t := t) (h' := h) (h := h) hx.2]; done)
    | (rw [ev_congr (t' := t') (t := t) (h' := h) (h := h) hx.1, bounds_congr (t' := t') (t := t) (h' := h) (h := h) (by simpa [List.flatMap_append, or_imp, forall_and] using hx.2)]; done)
    | (rw [ev_congr (t' := t') (t := t) (h' := h) (h := h) hx.1, evs_congr (t' := t') (t := t) (h' := h) (h := h) hx.2]; done)
    | (rw [fillV_congr (t' := t') (t := t) (h' := h) (h := h) (by simpa [List.flatMap_map] using hx)]; done)

/-- What an operation of class q says holds over any memory. -/
theorem cls_q {op : AOp} (hc : op.cls pur = .q) {v : V} (he : stepOp P env none op ⟨t, h⟩ = some (v, h')) : h' = h ∧ ∀ h2, stepOp P env none op ⟨t, h2⟩ = some (v, h2) := by
  have hev : ∀ h2 x, St.ev ⟨t, h2⟩ x = St.ev ⟨t, h⟩ x := fun h2 x => ev_congr fun _ _ => rfl
  have hevs : ∀ h2 (xs : List Operand), xs.map (St.ev ⟨t, h2⟩) = xs.map (St.ev ⟨t, h⟩) := fun h2 xs => evs_congr fun _ _ => rfl
  have hf : ∀ h2 cs parts, fillV ⟨t, h2⟩ cs parts = fillV ⟨t, h⟩ cs parts := fun h2 cs parts => fillV_congr fun _ _ => rfl
  have hbd : ∀ h2 lo hi, bounds ⟨t, h2⟩ lo hi = bounds ⟨t, h⟩ lo hi := fun h2 lo hi => bounds_congr fun _ _ => rfl
  cases op <;> simp only [AOp.cls] at hc <;> (try cases hc) <;> simp only [stepOp] at he ⊢
  case call => split at hc <;> (try split at hc) <;> cases hc
  case aeq neg ks x y =>
    obtain ⟨p, h1, he⟩ := Option.bind_eq_some_iff.1 he
    obtain ⟨q, h2, he⟩ := Option.bind_eq_some_iff.1 he
    split at he
    · rename_i hc
      cases he
      exact ⟨rfl, fun h3 => by rw [hev, h1, Option.bind_some, hev, h2, Option.bind_some, if_pos hc]⟩
    · cases he
  case mv x => cases he; exact ⟨rfl, fun h2 => by rw [hev]⟩
  case pick c a b =>
    simp only [hev] at he ⊢
    split at he
    · rename_i f b' hb
      cases he
      refine ⟨rfl, fun h2 => ?_⟩
      simp only [hev h2, hb]
    · cases he
  case pu p xs =>
    obtain ⟨vs, h1, he⟩ := Option.bind_eq_some_iff.1 he
    obtain ⟨u, h2, he⟩ := Option.bind_eq_some_iff.1 he
    obtain ⟨y, h3, he⟩ := Option.map_eq_some_iff.1 he
    cases he
    refine ⟨rfl, fun hh => ?_⟩
    rw [hevs hh, h1]
    simp [h2, h3]
  case build zero parts =>
    obtain ⟨y, h3, he⟩ := Option.map_eq_some_iff.1 he
    cases he
    exact ⟨rfl, fun hh => by rw [hf hh, h3]; rfl⟩
  case nilChk x =>
    obtain ⟨y, h3, he⟩ := Option.map_eq_some_iff.1 he
    cases he
    exact ⟨rfl, fun hh => by rw [hev hh, h3]; rfl⟩
  case fieldA off x =>
    obtain ⟨y, h3, he⟩ := Option.map_eq_some_iff.1 he
    cases he
    exact ⟨rfl, fun hh => by rw [hev hh, h3]; rfl⟩
  case field off z ag x =>
    split at he
    · rename_i hcc
      obtain ⟨y, h3, he⟩ := Option.map_eq_some_iff.1 he
      cases he
      exact ⟨rfl, fun hh => by rw [hev hh, if_pos hcc, h3]; rfl⟩
    · cases he
  case idxA n z x i =>
    obtain ⟨k, h1, he⟩ := Option.bind_eq_some_iff.1 he
    split at he
    · rename_i hcc
      obtain ⟨y, h3, he⟩ := Option.map_eq_some_iff.1 he
      cases he
      refine ⟨rfl, fun hh => ?_⟩
      rw [hev hh, hev hh, h1, Option.bind_some, if_pos hcc, h3]; rfl
    · cases he
  case idxV n z ag x i =>
    obtain ⟨k, h1, he⟩ := Option.bind_eq_some_iff.1 he
    split at he
    · rename_i hcc
      obtain ⟨y, h3, he⟩ := Option.map_eq_some_iff.1 he
      cases he
      refine ⟨rfl, fun hh => ?_⟩
      rw [hev hh, hev hh, h1, Option.bind_some, if_pos hcc, h3]; rfl
    · cases he
  case slice z x lo hi =>
    obtain ⟨y, h3, he⟩ := Option.map_eq_some_iff.1 he
    cases he
    refine ⟨rfl, fun hh => ?_⟩
    rw [hev hh, hbd hh, h3]; rfl
  case len x =>
    obtain ⟨y, h3, he⟩ := Option.map_eq_some_iff.1 he
    cases he
    exact ⟨rfl, fun hh => by rw [hev hh, h3]; rfl⟩
  case extract k x =>
    obtain ⟨y, h3, he⟩ := Option.map_eq_some_iff.1 he
    cases he
    exact ⟨rfl, fun hh => by rw [hev hh, h3]; rfl⟩
  case clo f caps => cases he; exact ⟨rfl, fun h2 => by rw [hevs h2]⟩
  case ifc k x => cases he; exact ⟨rfl, fun h2 => by rw [hev h2]⟩

theorem getCells_up {h2 : Heap} {b g : Nat} {cs : List V} (u : Up h h2) (e : getCells h b g = some cs) : getCells h2 b g = some cs := by
  unfold getCells at e ⊢
  split at e
  · rename_i hb
    rw [u _ _ hb (by intro e; cases e)]
    exact e
  · rename_i hb
    rw [u _ _ hb (by intro e; cases e)]
    exact e
  · cases e

theorem stepLoad_up {h2 : Heap} {z : Nat} {ag : Bool} {x v : V} (u : Up h h2) (e : stepLoad z ag h x = some v) : stepLoad z ag h2 x = some v := by
  unfold stepLoad at e ⊢
  split at e
  · obtain ⟨cs, h1, h2⟩ := Option.bind_eq_some_iff.1 e
    simp only [getCells_up u h1, Option.bind_some]
    exact h2
  · exact e
  · cases e

theorem stepIdxS_up {h2 : Heap} {z : Nat} {n : Int} {x v : V} (u : Up h h2) (e : stepIdxS z h n x = some v) : stepIdxS z h2 n x = some v := by
  unfold stepIdxS at e ⊢
  split at e
  · split at e
    · rename_i hc
      obtain ⟨cs, h1, h2⟩ := Option.map_eq_some_iff.1 e
      simp only [if_pos hc, getCells_up u h1, Option.map_some, h2]
    · cases e
  · exact e
  · cases e

theorem stepSliceA_up {h2 : Heap} {n z : Nat} {ag : Bool} {bd : Nat → Option (Nat × Nat)} {x v : V} (u : Up h h2) (e : stepSliceA n z ag bd h x = some v) : stepSliceA n z ag bd h2 x = some v := by
  unfold stepSliceA at e ⊢
  split at e
  · obtain ⟨p, h1, e⟩ := Option.bind_eq_some_iff.1 e
    obtain ⟨cs, h2, e⟩ := Option.bind_eq_some_iff.1 e
    simp only [h1, Option.bind_some, getCells_up u h2, e]
  · cases e

theorem srcCells_up {h2 : Heap} {x : V} {ys : List V} (u : Up h h2) (e : srcCells h x = some ys) : srcCells h2 x = some ys := by
  unfold srcCells at e ⊢
  split at e
  · obtain ⟨cs, h2, e⟩ := Option.map_eq_some_iff.1 e
    simp only [getCells_up u h2, Option.map_some, e]
  · exact e
  · exact e
  · exact e
  · cases e

theorem mapAt_up {h2 : Heap} {x : V} {q : Nat × List I × List V} (u : Up h h2) (e : mapAt h x = some q) : mapAt h2 x = some q := by
  unfold mapAt at e ⊢
  split at e
  · split at e
    · rename_i hb
      rw [u _ _ hb (by intro e; cases e)]
      exact e
    · cases e
  · cases e

theorem mapR_up {h2 : Heap} {x : V} {q : Nat × List I × List V} (u : Up h h2) (e : mapR h x = some q) : mapR h2 x = some q := by
  unfold mapR at e ⊢
  split at e
  · exact e
  · exact mapAt_up u e

theorem cls_r {op : AOp} (hpur : ∀ f, pur f = true → PurEnv env f) (hc : op.cls pur = .r) {v : V} (he : stepOp P env none op ⟨t, h⟩ = some (v, h')) :
    h' = h ∧ ∀ h2, Up h h2 → stepOp P env none op ⟨t, h2⟩ = some (v, h2) := by
  have hev : ∀ h2 x, St.ev ⟨t, h2⟩ x = St.ev ⟨t, h⟩ x := fun h2 x => ev_congr fun _ _ => rfl
  have hevs : ∀ h2 (xs : List Operand), xs.map (St.ev ⟨t, h2⟩) = xs.map (St.ev ⟨t, h⟩) := fun h2 xs => evs_congr fun _ _ => rfl
  have hbd : ∀ h2 lo hi, bounds ⟨t, h2⟩ lo hi = bounds ⟨t, h⟩ lo hi := fun h2 lo hi => bounds_congr fun _ _ => rfl
  cases op <;> simp only [AOp.cls] at hc <;> (try cases hc) <;> simp only [stepOp] at he ⊢
  case load z ag a =>
    obtain ⟨y, h3, he⟩ := Option.map_eq_some_iff.1 he
    cases he
    exact ⟨rfl, fun h2 u => by rw [hev, stepLoad_up u h3]; rfl⟩
  case idxS z x i =>
    obtain ⟨k, h1, he⟩ := Option.bind_eq_some_iff.1 he
    obtain ⟨y, h3, he⟩ := Option.map_eq_some_iff.1 he
    cases he
    exact ⟨rfl, fun h2 u => by rw [hev _ i, h1, Option.bind_some, hev _ x, stepIdxS_up u h3]; rfl⟩
  case sliceA n z ag x lo hi =>
    obtain ⟨y, h3, he⟩ := Option.map_eq_some_iff.1 he
    cases he
    exact ⟨rfl, fun h2 u => by rw [hev, hbd, stepSliceA_up u h3]; rfl⟩
  case b2s x =>
    obtain ⟨ys, h1, he⟩ := Option.bind_eq_some_iff.1 he
    obtain ⟨n, h2, he⟩ := Option.bind_eq_some_iff.1 he
    obtain ⟨bs, h3, he⟩ := Option.bind_eq_some_iff.1 he
    split at he
    · rename_i hl
      cases he
      refine ⟨rfl, fun h2 u => ?_⟩
      rw [hev, srcCells_up u h1, Option.bind_some, ‹lenS _ = some n›, Option.bind_some, h3, Option.bind_some, if_pos hl]
    · cases he
  case lookup kg ks ag zero ok m k =>
    obtain ⟨q, h1, he⟩ := Option.bind_eq_some_iff.1 he
    obtain ⟨l, h2, he⟩ := Option.bind_eq_some_iff.1 he
    obtain ⟨cs, h3, he⟩ := Option.bind_eq_some_iff.1 he
    split at he
    · rename_i hl
      obtain ⟨y, h4, he⟩ := Option.map_eq_some_iff.1 he
      cases he
      refine ⟨rfl, fun hh u => ?_⟩
      rw [hev _ m, hev _ k, mapR_up u h1, Option.bind_some, h2, Option.bind_some, h3, Option.bind_some, if_pos hl, h4]; rfl
    · cases he
  case mlen m =>
    obtain ⟨y, h3, he⟩ := Option.map_eq_some_iff.1 he
    cases he
    exact ⟨rfl, fun h2 u => by rw [hev, mapR_up u h3]; rfl⟩
  case call f args =>
    split at hc
    · rename_i hp
      split at hc
      · rename_i he2
        obtain ⟨rfl, h2⟩ := (hpur f hp).1 (by simpa using he2) _ _ _ _ _ he
        refine ⟨rfl, fun hh u => ?_⟩
        rw [hevs]
        exact h2 hh u
      · cases hc
    · cases hc

theorem cls_a {op : AOp} (hpur : ∀ f, pur f = true → PurEnv env f) (hc : op.cls pur = .a) {v : V} (he : stepOp P env none op ⟨t, h⟩ = some (v, h')) :
    ∃ l, h' = h ++ l ∧ (∀ s, s ∈ l → s ≠ .free) ∧ ∀ h2, h2.length = h.length → Up h h2 → stepOp P env none op ⟨t, h2⟩ = some (v, h2 ++ l) := by
  have hev : ∀ h2 x, St.ev ⟨t, h2⟩ x = St.ev ⟨t, h⟩ x := fun h2 x => ev_congr fun _ _ => rfl
  have hevs : ∀ h2 (xs : List Operand), xs.map (St.ev ⟨t, h2⟩) = xs.map (St.ev ⟨t, h⟩) := fun h2 xs => evs_congr fun _ _ => rfl
  have hf : ∀ h2 cs parts, fillV ⟨t, h2⟩ cs parts = fillV ⟨t, h⟩ cs parts := fun h2 cs parts => fillV_congr fun _ _ => rfl
  cases op <;> simp only [AOp.cls] at hc <;> (try cases hc) <;> simp only [stepOp] at he ⊢
  case call f args =>
    split at hc
    · rename_i hp
      split at hc
      · cases hc
      · rename_i he2
        obtain ⟨l, rfl, h0, h2⟩ := (hpur f hp).2 (by simp at he2; exact he2) _ _ _ _ _ he
        refine ⟨l, rfl, h0, fun hh hl u => ?_⟩
        rw [hevs]
        exact h2 hh hl u
    · cases hc
  case alloc zero =>
    simp only [newSlot, Option.map_some, Option.some.injEq, Prod.mk.injEq] at he
    refine ⟨_, he.2.symm, by simp, fun h2 hl u => ?_⟩
    simp only [newSlot, Option.map_some, hl, he.1]
  case makeMap =>
    simp only [newSlot, Option.map_some, Option.some.injEq, Prod.mk.injEq] at he
    refine ⟨_, he.2.symm, by simp, fun h2 hl u => ?_⟩
    simp only [newSlot, Option.map_some, hl, he.1]
  case box x =>
    split at he
    · rename_i hx
      simp only [newSlot, Option.map_some, Option.some.injEq, Prod.mk.injEq] at he
      refine ⟨_, he.2.symm, by simp, fun h2 hl u => ?_⟩
      simp only [hev h2, if_pos hx, newSlot, Option.map_some, hl, he.1]
    · cases he
  case buildSl z ag n zero parts =>
    obtain ⟨y, h3, he⟩ := Option.bind_eq_some_iff.1 he
    simp only [newSlot, Option.map_some, Option.some.injEq, Prod.mk.injEq] at he
    refine ⟨_, he.2.symm, by simp, fun h2 hl u => ?_⟩
    simp only [hf h2, h3, Option.bind_some, newSlot, Option.map_some, hl, he.1]
  case appendV z ag bytes x =>
    obtain ⟨ys, h3, he⟩ := Option.bind_eq_some_iff.1 he
    obtain ⟨n, h4, he⟩ := Option.bind_eq_some_iff.1 he
    split at he
    · rename_i hcc
      have hg : ∀ hh : Heap, getCells (hh ++ [Slot.virt]) hh.length 0 = some [] := by
        intro hh
        unfold getCells
        rw [List.getElem?_append_right (Nat.le_refl _), Nat.sub_self]
        rfl
      have key : ∀ hh : Heap, stepAppend none z ag bytes (hh ++ [.virt]) ys n (.hsl hh.length 0 0 z ag 0) = if n = 0 then some (.hsl hh.length 0 0 z ag 0, hh ++ [.virt]) else if n * bytes ≤ 140737488355328 then some (.hsl hh.length (n * z) 0 z ag n, hh ++ [.cells ys]) else none := by
        intro hh
        unfold stepAppend
        simp only [true_or, and_self, if_true, hg hh, Option.bind_some, Nat.zero_add, Nat.zero_mul, List.nil_append]
        congr 1
        split
        · rw [List.set_append_right _ _ (Nat.le_refl _), Nat.sub_self]
          rfl
        · rfl
      rw [key] at he
      split at he
      · rename_i h0
        cases he
        refine ⟨[.virt], rfl, by simp, fun h2 hl u => ?_⟩
        have k2 := key h2
        rw [hl, if_pos h0] at k2
        simp only [hev h2, srcCells_up u h3, h4, Option.bind_some, if_pos hcc, hl]
        exact k2
      · rename_i h0
        split at he
        · rename_i h5
          cases he
          refine ⟨[.cells ys], rfl, by simp, fun h2 hl u => ?_⟩
          have k2 := key h2
          rw [hl, if_neg h0, if_pos h5] at k2
          simp only [hev h2, srcCells_up u h3, h4, Option.bind_some, if_pos hcc, hl]
          exact k2
        · cases he
    · cases he
  case makeSl z ag bytes zero l c =>
    obtain ⟨y, h3, he⟩ := Option.bind_eq_some_iff.1 he
    obtain ⟨y2, h4, he⟩ := Option.bind_eq_some_iff.1 he
    split at he
    · rename_i hcc
      simp only [newSlot, Option.map_some, Option.some.injEq, Prod.mk.injEq] at he
      refine ⟨_, he.2.symm, by simp, fun h2 hl u => ?_⟩
      simp only [hev h2, h3, h4, Option.bind_some, if_pos hcc, newSlot, Option.map_some, hl, he.1]
    · cases he

/-- To append is the same whether what is kept free is filled or not. -/
theorem app_free {z y n b : Nat} {ag : Bool} {ys : List V} {u v : V} (he : stepAppend none z ag y h ys n u = some (v, h')) (hb : h'[b]? = some .free) :
    h[b]? = some .free ∧ ∀ s, s ≠ Slot.free → stepAppend none z ag y (h.set b s) ys n u = some (v, h'.set b s) := by
  have push : ∀ (hh : Heap) (s0 : Slot), s0 ≠ .free → (hh ++ [s0])[b]? = some .free → b < hh.length ∧ hh[b]? = some .free := by
    intro hh s0 h0 hb
    by_cases hlt : b < hh.length
    · rw [List.getElem?_append_left hlt] at hb
      exact ⟨hlt, hb⟩
    · rw [List.getElem?_append_right (by omega)] at hb
      have := List.mem_singleton.1 (List.mem_of_getElem? hb)
      exact absurd this.symm h0
  unfold stepAppend at he ⊢
  split at he
  · split at he
    · rename_i h0
      cases he
      exact ⟨hb, fun s _ => by simp only [if_pos h0]⟩
    · rename_i h0
      split at he
      · rename_i hl
        simp only [newSlot, Option.map_some, Option.some.injEq, Prod.mk.injEq] at he
        obtain ⟨rfl, rfl⟩ := he
        obtain ⟨hlt, hf⟩ := push h _ (by intro e; cases e) hb
        refine ⟨hf, fun s _ => ?_⟩
        simp only [if_neg h0, if_pos hl, newSlot, Option.map_some, List.length_set, List.set_append_left _ _ hlt]
      · cases he
  · rename_i b0 g off z' ag' len
    split at he
    · rename_i hc
      obtain ⟨cs, h1, he⟩ := Option.bind_eq_some_iff.1 he
      have hcs : ∀ s, b ≠ b0 → getCells (h.set b s) b0 g = some cs := by
        intro s hn
        unfold getCells at h1 ⊢
        rw [List.getElem?_set_ne hn]
        exact h1
      split at he
      · rename_i h0
        cases he
        have hn : b ≠ b0 := by
          rintro rfl
          unfold getCells at h1
          rw [hb] at h1
          cases h1
        refine ⟨hb, fun s _ => ?_⟩
        simp only [if_pos hc, hcs s hn, Option.bind_some, if_pos h0]
      · rename_i h0
        split at he
        · rename_i hl
          split at he
          · rename_i hg
            cases he
            have hn : b ≠ b0 := by
              rintro rfl
              rw [List.getElem?_set] at hb
              split at hb <;> first | (split at hb <;> cases hb) | (rename_i hx; exact hx rfl)
            rw [List.getElem?_set_ne (Ne.symm hn)] at hb
            refine ⟨hb, fun s _ => ?_⟩
            simp only [if_pos hc, hcs s hn, Option.bind_some, if_neg h0, if_pos hl, if_pos hg, List.set_comm _ _ hn]
          · rename_i hg
            simp only [newSlot, Option.map_some, Option.some.injEq, Prod.mk.injEq] at he
            obtain ⟨rfl, rfl⟩ := he
            obtain ⟨hlt, hf⟩ := push _ _ (by intro e; cases e) hb
            have hn : b ≠ b0 := by
              rintro rfl
              rw [List.getElem?_set] at hf
              split at hf <;> first | (split at hf <;> cases hf) | (rename_i hx; exact hx rfl)
            rw [List.getElem?_set_ne (Ne.symm hn)] at hf
            refine ⟨hf, fun s _ => ?_⟩
            simp only [if_pos hc, hcs s hn, Option.bind_some, if_neg h0, if_pos hl, if_neg hg, newSlot, Option.map_some, List.length_set, List.set_append_left _ _ hlt, List.set_comm _ _ hn]
        · cases he
    · cases he
  · cases he

/-- What is laid where it was kept free. -/
theorem cls_s {op : AOp} (hc : op.lays = true) {b : Nat} {v : V} (he : stepOp P env (some b) op ⟨t, h⟩ = some (v, h')) :
    h[b]? = some .free ∧ ∃ s, s ≠ .free ∧ h' = h.set b s ∧ ∀ h2, h2[b]? = some .free → stepOp P env (some b) op ⟨t, h2⟩ = some (v, h2.set b s) := by
  have hev : ∀ h2 x, St.ev ⟨t, h2⟩ x = St.ev ⟨t, h⟩ x := fun h2 x => ev_congr fun _ _ => rfl
  have hf : ∀ h2 cs parts, fillV ⟨t, h2⟩ cs parts = fillV ⟨t, h⟩ cs parts := fun h2 cs parts => fillV_congr fun _ _ => rfl
  have hn : ∀ (s : Slot) (f : Nat → V), s ≠ .free → ((newSlot (some b) h s).map fun p => (f p.1, p.2)) = some (v, h') → h[b]? = some .free ∧ h' = h.set b s ∧ ∀ h2, h2[b]? = some .free → ((newSlot (some b) h2 s).map fun p => (f p.1, p.2)) = some (v, h2.set b s) := by
    intro s f hs e
    obtain ⟨p, h1, h2⟩ := Option.map_eq_some_iff.1 e
    unfold newSlot at h1
    simp only at h1
    split at h1
    · rename_i hb
      cases h1
      simp only [Prod.mk.injEq] at h2
      refine ⟨hb, h2.2.symm, fun h3 hb3 => ?_⟩
      simp only [newSlot, hb3, Option.map_some, h2.1]
    · cases h1
  cases op <;> simp only [AOp.lays] at hc <;> (try cases hc) <;> simp only [stepOp] at he ⊢
  case alloc zero =>
    obtain ⟨e1, e2, e3⟩ := hn (.cells (ivs zero)) (fun b => .ptr b zero.length 0) (by intro e; cases e) he
    exact ⟨e1, _, (by intro e; cases e), e2, e3⟩
  case makeMap =>
    obtain ⟨e1, e2, e3⟩ := hn (.map [] []) (fun b => .mp b) (by intro e; cases e) he
    exact ⟨e1, _, (by intro e; cases e), e2, e3⟩
  case box x =>
    split at he
    · rename_i hx
      obtain ⟨e1, e2, e3⟩ := hn (.cells (St.ev ⟨t, h⟩ x).cells) (fun b => .ptr b (St.ev ⟨t, h⟩ x).cells.length 0) (by intro e; cases e) he
      refine ⟨e1, _, (by intro e; cases e), e2, fun h2 hb => ?_⟩
      simp only [hev h2, if_pos hx]
      exact e3 h2 hb
    · cases he
  case buildSl z ag n zero parts =>
    obtain ⟨y, h3, he⟩ := Option.bind_eq_some_iff.1 he
    obtain ⟨e1, e2, e3⟩ := hn (.cells y) (fun b => .hsl b y.length 0 z ag n) (by intro e; cases e) he
    refine ⟨e1, _, (by intro e; cases e), e2, fun h2 hb => ?_⟩
    simp only [hf h2, h3, Option.bind_some]
    exact e3 h2 hb
  case makeSl z ag bytes zero l c =>
    obtain ⟨y, h3, he⟩ := Option.bind_eq_some_iff.1 he
    obtain ⟨y2, h4, he⟩ := Option.bind_eq_some_iff.1 he
    split at he
    · rename_i hcc
      obtain ⟨e1, e2, e3⟩ := hn (.cells ((List.replicate y.toNat (ivs zero)).flatten)) (fun b => .hsl b (y.toNat * z) 0 z ag y.toNat) (by intro e; cases e) he
      refine ⟨e1, _, (by intro e; cases e), e2, fun h2 hb => ?_⟩
      simp only [hev h2, h3, h4, Option.bind_some, if_pos hcc]
      exact e3 h2 hb
    · cases he

theorem cls_none {o : AOper} {c : Cls} (h : o.cls pur = c) (h1 : ∀ k, c ≠ .s k) (h2 : c ≠ .e) : o.slot = none ∧ o.op.cls pur = c := by
  unfold AOper.cls at h
  cases hs : o.slot with
  | none => rw [hs] at h; exact ⟨rfl, h⟩
  | some k =>
    rw [hs] at h
    simp only at h
    split at h
    · exact absurd h.symm (h1 k)
    · exact absurd h.symm h2

theorem slot_none {o : AOper} (h : o.slot = none) (bs : Option Nat) : slotOf bs o = some none := by unfold slotOf; rw [h]

theorem wantedA_congr {o : AOper} (hx : ∀ k, k ∈ o.looks → t' k = t k) : wantedA o t' = wantedA o t := by
  unfold wantedA AOper.looks at *
  cases hg : o.guard with
  | none => rfl
  | some p =>
    obtain ⟨d, want⟩ := p
    simp only [hg] at hx ⊢
    rw [hx d (by simp)]

theorem put_ne {d : Option Nat} {v : V} {k : Nat} (hk : ∀ n, d = some n → k ≠ n) : put t d v k = t k := by
  cases d with
  | none => rfl
  | some n => simp only [put]; rw [if_neg (hk n rfl)]

theorem put_comm {d e : Option Nat} {u v : V} (hk : ∀ n, d = some n → e ≠ some n) : put (put t d u) e v = put (put t e v) d u := by
  cases d with
  | none => rfl
  | some n =>
    cases e with
    | none => rfl
    | some m =>
      have : n ≠ m := fun e => hk n rfl (by rw [e])
      funext k
      simp only [put]
      by_cases h1 : k = m
      · subst h1; rw [if_pos rfl, if_neg (Ne.symm this), if_pos rfl]
      · rw [if_neg h1]
        by_cases h2 : k = n
        · rw [if_pos h2, if_pos h2]
        · rw [if_neg h2, if_neg h2, if_neg h1]

theorem outA_congr {bs : Option Nat} {o : AOper} (hx : ∀ k, k ∈ o.looks → t' k = t k) : outA P env bs o t' h = outA P env bs o t h := by
  unfold outA
  have e : ∀ slot, stepOp P env slot o.op ⟨t', h⟩ = stepOp P env slot o.op ⟨t, h⟩ := fun slot => stepOp_congr fun k hk => hx k (by simp [AOper.looks, hk])
  simp only [wantedA_congr hx, e]

theorem outA_q {bs : Option Nat} {o : AOper} (hc : o.cls pur = .q) {v : V} (he : outA P env bs o t h = some (v, h')) : h' = h ∧ ∀ h2, outA P env bs o t h2 = some (v, h2) := by
  obtain ⟨hs, hc⟩ := cls_none hc (by intro k e; cases e) (by intro e; cases e)
  unfold outA at he ⊢
  simp only [slot_none hs, Option.bind_some] at he ⊢
  obtain ⟨b, h1, he⟩ := Option.bind_eq_some_iff.1 he
  cases b with
  | true =>
    simp only [h1, Option.bind_some, if_true] at he ⊢
    exact cls_q hc he
  | false =>
    simp only [Bool.false_eq_true, if_false] at he
    cases he
    exact ⟨rfl, fun h2 => by simp [h1]⟩

theorem outA_r {bs : Option Nat} {o : AOper} (hpur : ∀ f, pur f = true → PurEnv env f) (hc : o.cls pur = .r) {v : V} (he : outA P env bs o t h = some (v, h')) : h' = h ∧ ∀ h2, Up h h2 → outA P env bs o t h2 = some (v, h2) := by
  obtain ⟨hs, hc⟩ := cls_none hc (by intro k e; cases e) (by intro e; cases e)
  unfold outA at he ⊢
  simp only [slot_none hs, Option.bind_some] at he ⊢
  obtain ⟨b, h1, he⟩ := Option.bind_eq_some_iff.1 he
  cases b with
  | true =>
    simp only [h1, Option.bind_some, if_true] at he ⊢
    exact cls_r hpur hc he
  | false =>
    simp only [Bool.false_eq_true, if_false] at he
    cases he
    exact ⟨rfl, fun h2 _ => by simp [h1]⟩

theorem outA_a {bs : Option Nat} {o : AOper} (hpur : ∀ f, pur f = true → PurEnv env f) (hc : o.cls pur = .a) {v : V} (he : outA P env bs o t h = some (v, h')) :
    ∃ l, h' = h ++ l ∧ (∀ s, s ∈ l → s ≠ .free) ∧ ∀ h2, h2.length = h.length → Up h h2 → outA P env bs o t h2 = some (v, h2 ++ l) := by
  obtain ⟨hs, hc⟩ := cls_none hc (by intro k e; cases e) (by intro e; cases e)
  unfold outA at he ⊢
  simp only [slot_none hs, Option.bind_some] at he ⊢
  obtain ⟨b, h1, he⟩ := Option.bind_eq_some_iff.1 he
  cases b with
  | true =>
    simp only [h1, Option.bind_some, if_true] at he ⊢
    exact cls_a hpur hc he
  | false =>
    simp only [Bool.false_eq_true, if_false] at he
    cases he
    exact ⟨[], by simp, by simp, fun h2 _ _ => by simp [h1]⟩

/-- An operation whose block is kept free: it is not done, or it lays the block there. -/
theorem outA_s {bs : Option Nat} {o : AOper} {k : Nat} (hc : o.cls pur = .s k) {v : V} (he : outA P env bs o t h = some (v, h')) :
    (h' = h ∧ ∀ h2, outA P env bs o t h2 = some (v, h2)) ∨ ∃ b0, bs = some b0 ∧ h[b0 + k]? = some .free ∧ ∃ s, s ≠ .free ∧ h' = h.set (b0 + k) s ∧ ∀ h2, h2[b0 + k]? = some .free → outA P env bs o t h2 = some (v, h2.set (b0 + k) s) := by
  unfold AOper.cls at hc
  split at hc
  · rename_i hs
    exfalso
    cases ho : o.op <;> rw [ho] at hc <;> simp only [AOp.cls] at hc <;> (try cases hc)
    split at hc <;> (try split at hc) <;> cases hc
  · rename_i k' hs
    split at hc
    · rename_i hl
      cases hc
      unfold outA at he ⊢
      obtain ⟨b, h1, he⟩ := Option.bind_eq_some_iff.1 he
      cases b with
      | true =>
        simp only [if_true] at he
        obtain ⟨sl, h2, he⟩ := Option.bind_eq_some_iff.1 he
        unfold slotOf at h2
        rw [hs] at h2
        obtain ⟨b0, rfl, rfl⟩ := Option.map_eq_some_iff.1 h2
        obtain ⟨e1, s, e2, e3, e4⟩ := cls_s hl he
        refine .inr ⟨b0, rfl, e1, s, e2, e3, fun h3 hb => ?_⟩
        simp only [h1, Option.bind_some, if_true, slotOf, hs, Option.map_some]
        exact e4 h3 hb
      | false =>
        simp only [Bool.false_eq_true, if_false] at he
        cases he
        exact .inl ⟨rfl, fun h2 => by simp [h1]⟩
    · cases hc

section
variable {x : V}
theorem kept_cells {b g : Nat} {h2 : Heap} (hk : h2[b]? = h[b]?) : getCells h2 b g = getCells h b g := by
  unfold getCells; rw [hk]
theorem load_kept {z : Nat} {ag : Bool} {h2 : Heap} (hk : kept h h2 x) : stepLoad z ag h2 x = stepLoad z ag h x := by
  cases x with
  | ptr b g off => simp only [stepLoad]; rw [kept_cells hk]
  | i y => cases y <;> rfl
  | hsl => rfl
  | _ => exact hk.elim
theorem idx_kept {z : Nat} {n : Int} {h2 : Heap} (hk : kept h h2 x) : stepIdxS z h2 n x = stepIdxS z h n x := by
  cases x with
  | hsl b g off => simp only [stepIdxS]; rw [kept_cells hk]
  | i y => cases y <;> rfl
  | ptr => rfl
  | _ => exact hk.elim
theorem sliceA_kept {n z : Nat} {ag : Bool} {bd : Nat → Option (Nat × Nat)} {h2 : Heap} (hk : kept h h2 x) : stepSliceA n z ag bd h2 x = stepSliceA n z ag bd h x := by
  cases x with
  | ptr b g off => simp only [stepSliceA]; simp only [kept_cells hk]
  | i y => cases y <;> rfl
  | hsl => rfl
  | _ => exact hk.elim
theorem src_kept {h2 : Heap} (hk : kept h h2 x) : srcCells h2 x = srcCells h x := by
  cases x with
  | hsl b g off => simp only [srcCells]; rw [kept_cells hk]
  | i y => unfold srcCells; split <;> first | rfl | (rename_i he; cases he) | simp_all
  | ptr => rfl
  | _ => exact hk.elim
end

theorem cls_addr {op : AOp} {a : Nat} (ha : addrOf op = some a) {v : V} {h2 : Heap} (hk : kept h h2 (t a)) (he : stepOp P env none op ⟨t, h⟩ = some (v, h')) : stepOp P env none op ⟨t, h2⟩ = some (v, h2) := by
  have hev : ∀ h2 x, St.ev ⟨t, h2⟩ x = St.ev ⟨t, h⟩ x := fun h2 x => ev_congr fun _ _ => rfl
  have hbd : ∀ h2 lo hi, bounds ⟨t, h2⟩ lo hi = bounds ⟨t, h⟩ lo hi := fun h2 lo hi => bounds_congr fun _ _ => rfl
  have hta : ∀ h, St.ev ⟨t, h⟩ (.tmp a) = t a := fun _ => rfl
  unfold addrOf at ha
  split at ha
  · cases ha
    simp only [stepOp, hta] at he ⊢
    obtain ⟨y, h3, he⟩ := Option.map_eq_some_iff.1 he
    cases he
    rw [load_kept hk, h3]; rfl
  · cases ha
    simp only [stepOp, hta, hev h2] at he ⊢
    obtain ⟨k, h1, he⟩ := Option.bind_eq_some_iff.1 he
    obtain ⟨y, h3, he⟩ := Option.map_eq_some_iff.1 he
    cases he
    rw [h1, Option.bind_some, idx_kept hk, h3]; rfl
  · cases ha
    simp only [stepOp, hta, hbd h2] at he ⊢
    obtain ⟨y, h3, he⟩ := Option.map_eq_some_iff.1 he
    cases he
    rw [sliceA_kept hk, h3]; rfl
  · cases ha
    simp only [stepOp, hta] at he ⊢
    obtain ⟨ys, h1, he⟩ := Option.bind_eq_some_iff.1 he
    obtain ⟨n, h3, he⟩ := Option.bind_eq_some_iff.1 he
    obtain ⟨bs, h4, he⟩ := Option.bind_eq_some_iff.1 he
    split at he
    · rename_i hl
      cases he
      rw [src_kept hk, h1, Option.bind_some, h3, Option.bind_some, h4, Option.bind_some, if_pos hl]
    · cases he
  · cases ha

/-- A reference to what is there. -/
def refIn (h : Heap) : V → Prop
  | .ptr b _ _ => inUse h b
  | .hsl b _ _ _ _ _ => inUse h b
  | _ => True

theorem addr_kept {op : AOp} {a : Nat} (ha : addrOf op = some a) {v : V} (he : stepOp P env none op ⟨t, h⟩ = some (v, h')) : kept h h (t a) := by
  have hta : ∀ h, St.ev ⟨t, h⟩ (.tmp a) = t a := fun _ => rfl
  unfold addrOf at ha
  split at ha
  · cases ha
    simp only [stepOp, hta] at he
    obtain ⟨y, h3, _⟩ := Option.map_eq_some_iff.1 he
    cases ht : t a <;> rw [ht] at h3 <;> first | rfl | trivial | (simp [stepLoad] at h3; done)
  · cases ha
    simp only [stepOp, hta] at he
    obtain ⟨k, h1, he⟩ := Option.bind_eq_some_iff.1 he
    obtain ⟨y, h3, he⟩ := Option.map_eq_some_iff.1 he
    cases ht : t a <;> rw [ht] at h3 <;> first | rfl | trivial | (simp [stepIdxS] at h3; done)
  · cases ha
    simp only [stepOp, hta] at he
    obtain ⟨y, h3, he⟩ := Option.map_eq_some_iff.1 he
    cases ht : t a <;> rw [ht] at h3 <;> first | rfl | trivial | (simp [stepSliceA] at h3; done)
  · cases ha
    simp only [stepOp, hta] at he
    obtain ⟨ys, h1, he⟩ := Option.bind_eq_some_iff.1 he
    cases ht : t a <;> rw [ht] at h1 <;> first | rfl | trivial | (simp [srcCells] at h1; done)
  · cases ha

theorem same_append {l : Heap} : ∀ b, inUse h b → (h ++ l)[b]? = h[b]? := by
  rintro b ⟨s, hb, _⟩
  exact List.getElem?_append_left (List.getElem?_eq_some_iff.1 hb).1

theorem same_set {b0 : Nat} {s : Slot} (hf : h[b0]? = some .free) : ∀ b, inUse h b → (h.set b0 s)[b]? = h[b]? := by
  rintro b ⟨s', hb, hn⟩
  by_cases e : b0 = b
  · subst e
    rw [hf] at hb
    exact absurd (Option.some.inj hb).symm hn
  · exact List.getElem?_set_ne e

theorem kept_front {hx : Heap} {v : V} (hsame : ∀ b, inUse h b → hx[b]? = h[b]?) (hk : kept hx hx v) (hr : refIn h v) : kept hx h v := by
  cases v with
  | ptr b g off => exact (hsame b hr).symm
  | hsl b g off z ag len => exact (hsame b hr).symm
  | i x => trivial
  | _ => exact hk.elim

theorem outA_front {bs : Option Nat} {o : AOper} {a : Nat} (hs : o.slot = none) (ha : addrOf o.op = some a) {hx : Heap} {v : V} (hsame : ∀ b, inUse h b → hx[b]? = h[b]?) (hr : refIn h (t a)) (he : outA P env bs o t hx = some (v, h')) :
    h' = hx ∧ outA P env bs o t h = some (v, h) := by
  unfold outA at he ⊢
  simp only [slot_none hs, Option.bind_some] at he ⊢
  obtain ⟨b, h1, he⟩ := Option.bind_eq_some_iff.1 he
  cases b with
  | true =>
    simp only [h1, Option.bind_some, if_true] at he ⊢
    have hk := addr_kept ha he
    have e2 := cls_addr ha hk he
    rw [he] at e2
    simp only [Option.some.injEq, Prod.mk.injEq, true_and] at e2
    exact ⟨e2, cls_addr ha (kept_front hsame hk hr) he⟩
  | false =>
    simp only [Bool.false_eq_true, if_false] at he
    cases he
    exact ⟨rfl, by simp [h1]⟩

theorem swap_ok {bs : Option Nat} {x y : AOper} (hpur : ∀ f, pur f = true → PurEnv env f) (hsw : swapOK pur x y = true) {st st1 st2 : St} (hw : ∀ a, addrOf y.op = some a → refIn st.h (st.t a)) (h1 : stepA P env bs x st = some st1) (h2 : stepA P env bs y.clear st1 = some st2) :
    ∃ st1', stepA P env bs y.clear st = some st1' ∧ stepA P env bs x st1' = some st2 := by
  obtain ⟨⟨vx, hx⟩, e1, ck, rfl⟩ := stepA_some.1 h1
  obtain ⟨⟨vy, hy⟩, e2, _, rfl⟩ := stepA_some.1 h2
  rw [outA_clear] at e2
  simp only at e2 ck
  unfold swapOK at hsw
  simp only [Bool.and_eq_true] at hsw
  obtain ⟨⟨⟨k1, k0⟩, k2⟩, k3⟩ := hsw
  have a1 : ∀ k, k ∈ y.looks → put st.t x.dst vx k = st.t k := by
    intro k hk
    refine put_ne ?_
    intro n hn e
    subst e
    rw [hn] at k2
    simp at k2
    exact k2.1 hk
  have a2 : ∀ n, x.dst = some n → y.dst ≠ some n := by
    intro n hn e
    rw [hn] at k2
    simp at k2
    exact k2.2 e
  have a3 : ∀ (v : V) k, k ∈ x.looks → put st.t y.dst v k = st.t k := by
    intro v k hk
    refine put_ne ?_
    intro n hn e
    subst e
    rw [hn] at k3
    simp at k3
    exact k3.1 hk
  have a4 : ∀ (v : V) z, z ∈ x.apart → ∀ h2, St.ev ⟨put st.t y.dst v, h2⟩ z = St.ev st z := by
    intro v z hz h2
    refine ev_congr (t' := put st.t y.dst v) (h' := h2) (t := st.t) (h := st.h) ?_
    intro k hk
    refine put_ne ?_
    intro n hn e
    subst e
    rw [hn] at k3
    simp at k3
    exact k3.2 (by unfold AOper.watch; exact List.mem_flatMap.2 ⟨z, hz, hk⟩)
  rw [outA_congr a1] at e2
  have fin : ∀ hh, outA P env bs y st.t st.h = some (vy, hh) → outA P env bs x st.t hh = some (vx, hy) → (∀ z, z ∈ x.apart → kept hh hy (st.ev z)) →
      ∃ st1', stepA P env bs y.clear st = some st1' ∧ stepA P env bs x st1' = some ⟨put (put st.t x.dst vx) y.dst vy, hy⟩ := by
    intro hh f1 f2 f3
    refine ⟨⟨put st.t y.dst vy, hh⟩, stepA_some.2 ⟨_, by rw [outA_clear]; exact f1, by simp [AOper.clear], rfl⟩, ?_⟩
    refine stepA_some.2 ⟨(vx, hy), ?_, ?_, ?_⟩
    · simp only
      rw [outA_congr (a3 vy)]
      exact f2
    · intro z hz
      rw [a4 vy z hz]
      exact f3 z hz
    · simp only [put_comm a2]
  rcases Bool.or_eq_true _ _ ▸ k1 with k1 | k1
  case inr =>
    simp only [Bool.and_eq_true] at k1
    obtain ⟨kA, kS⟩ := k1
    have hsy : ∃ k, y.cls pur = .s k := by
      cases hcy : y.cls pur <;> rw [hcy] at kS <;> first | exact ⟨_, rfl⟩ | cases kS
    obtain ⟨k, hcy⟩ := hsy
    have hap : x.apart = [] := by
      rw [hcy] at k0
      simpa [Cls.isS] using k0
    rcases outA_s hcy e2 with ⟨rfl, g⟩ | ⟨b0, rfl, g1, s, g2, rfl, g3⟩
    · exact fin _ (g _) e1 ck
    · unfold AOper.isApp at kA
      split at kA
      case h_2 => cases kA
      rename_i z ag yb sx xx hop hsl
      unfold outA at e1
      simp only [slot_none hsl, Option.bind_some] at e1
      obtain ⟨bw, hw1, e1⟩ := Option.bind_eq_some_iff.1 e1
      cases bw with
      | false =>
        simp only [Bool.false_eq_true, if_false] at e1
        cases e1
        refine fin _ (g3 _ g1) ?_ (fun z hz => by rw [hap] at hz; cases hz)
        unfold outA
        simp [hw1]
      | true =>
        simp only [if_true] at e1
        rw [hop] at e1
        simp only [stepOp] at e1
        obtain ⟨ys, f1, e1⟩ := Option.bind_eq_some_iff.1 e1
        obtain ⟨n, f2, e1⟩ := Option.bind_eq_some_iff.1 e1
        split at e1
        · rename_i hcc
          obtain ⟨g4, g5⟩ := app_free e1 g1
          refine fin _ (g3 _ g4) ?_ (fun z hz => by rw [hap] at hz; cases hz)
          have hev : ∀ h2 x, St.ev ⟨st.t, h2⟩ x = St.ev ⟨st.t, st.h⟩ x := fun h2 x => ev_congr fun _ _ => rfl
          unfold outA
          simp only [hw1, slot_none hsl, Option.bind_some, if_true, hop, stepOp, hev (st.h.set (b0 + k) s), srcCells_up (Up.set s g4) f1, f2, if_pos hcc]
          exact g5 s g2
        · cases e1
  rcases Bool.or_eq_true _ _ ▸ k1 with k1 | k1
  case inr =>
    simp only [Bool.and_eq_true] at k1
    obtain ⟨k1, k4⟩ := k1
    obtain ⟨a, ha⟩ := Option.isSome_iff_exists.1 k4
    have hys : y.slot = none := by
      cases hcy : y.cls pur with
      | r => exact (cls_none hcy (by intro k e; cases e) (by intro e; cases e)).1
      | _ => rw [hcy] at k1; cases hcx : x.cls pur <;> rw [hcx] at k1 <;> cases k1
    cases hcx : x.cls pur with
    | a =>
      obtain ⟨l, rfl, _, _⟩ := outA_a hpur hcx e1
      obtain ⟨rfl, e3⟩ := outA_front hys ha same_append (hw a ha) e2
      exact fin _ e3 e1 ck
    | s k =>
      rcases outA_s hcx e1 with ⟨rfl, g⟩ | ⟨b0, rfl, g1, s, g2, rfl, g3⟩
      · obtain ⟨rfl, e3⟩ := outA_front hys ha (fun _ _ => rfl) (hw a ha) e2
        exact fin _ e3 e1 ck
      · obtain ⟨rfl, e3⟩ := outA_front hys ha (same_set g1) (hw a ha) e2
        exact fin _ e3 e1 ck
    | _ => rw [hcx] at k1; cases k1
  have hsl : ∀ k, y.cls pur = .s k → x.apart = [] := by
    intro k e
    rw [e] at k0
    simpa [Cls.isS] using k0
  cases hcx : x.cls pur with
  | q =>
    obtain ⟨rfl, q2⟩ := outA_q hcx e1
    exact fin hy e2 (q2 hy) (fun z hz => kept_refl (ck z hz))
  | r =>
    obtain ⟨rfl, q2⟩ := outA_r hpur hcx e1
    cases hcy : y.cls pur with
    | q =>
      obtain ⟨rfl, _⟩ := outA_q hcy e2
      exact fin _ e2 e1 ck
    | r =>
      obtain ⟨rfl, _⟩ := outA_r hpur hcy e2
      exact fin _ e2 e1 ck
    | a =>
      obtain ⟨l, rfl, _, _⟩ := outA_a hpur hcy e2
      exact fin _ e2 (q2 _ (Up.append l)) (fun z hz => kept_refl (ck z hz))
    | s k =>
      rcases outA_s hcy e2 with ⟨rfl, g⟩ | ⟨b0, rfl, g1, s, g2, rfl, g3⟩
      · exact fin _ e2 e1 ck
      · exact fin _ e2 (q2 _ (Up.set s g1)) (fun z hz => kept_refl (ck z hz))
    | e => rw [hcx, hcy] at k1; cases k1
  | a =>
    obtain ⟨l, rfl, q0, q2⟩ := outA_a hpur hcx e1
    cases hcy : y.cls pur with
    | q =>
      obtain ⟨rfl, q3⟩ := outA_q hcy e2
      exact fin _ (q3 _) e1 ck
    | s k =>
      rcases outA_s hcy e2 with ⟨rfl, g⟩ | ⟨b0, rfl, g1, s, g2, rfl, g3⟩
      · exact fin _ (g _) e1 ck
      · by_cases hlt : b0 + k < st.h.length
        · have g4 : st.h[b0 + k]? = some .free := by rw [List.getElem?_append_left hlt] at g1; exact g1
          refine fin _ (g3 _ g4) ?_ (fun z hz => by rw [hsl k hcy] at hz; cases hz)
          rw [q2 _ (by simp) (Up.set s g4), List.set_append_left _ _ hlt]
        · rw [List.getElem?_append_right (by omega)] at g1
          exact absurd rfl (q0 _ (List.mem_of_getElem? g1))
    | r => rw [hcx, hcy] at k1; cases k1
    | a => rw [hcx, hcy] at k1; cases k1
    | e => rw [hcx, hcy] at k1; cases k1
  | s k =>
    cases hcy : y.cls pur with
    | q =>
      obtain ⟨rfl, q2⟩ := outA_q hcy e2
      exact fin _ (q2 _) e1 ck
    | s m =>
      have hkm : k ≠ m := by rw [hcx, hcy] at k1; simpa [Cls.swap] using k1
      have hap := hsl m hcy
      rcases outA_s hcx e1 with ⟨rfl, f⟩ | ⟨b0, rfl, f1, s, f2, rfl, f3⟩
      · exact fin _ e2 (f _) (fun z hz => by rw [hap] at hz; cases hz)
      · rcases outA_s hcy e2 with ⟨rfl, g⟩ | ⟨b1, hb, g1, s', g2, rfl, g3⟩
        · exact fin _ (g _) e1 ck
        · cases hb
          have hne : b0 + k ≠ b0 + m := by omega
          have g4 : st.h[b0 + m]? = some .free := by rwa [List.getElem?_set_ne hne] at g1
          refine fin _ (g3 _ g4) ?_ (fun z hz => by rw [hap] at hz; cases hz)
          rw [f3 _ (by rw [List.getElem?_set_ne (Ne.symm hne)]; exact f1), List.set_comm _ _ hne]
    | r => rw [hcx, hcy] at k1; cases k1
    | a => rw [hcx, hcy] at k1; cases k1
    | e => rw [hcx, hcy] at k1; cases k1
  | e =>
    cases hcy : y.cls pur with
    | q =>
      obtain ⟨rfl, q2⟩ := outA_q hcy e2
      exact fin _ (q2 _) e1 ck
    | r => rw [hcx, hcy] at k1; cases k1
    | a => rw [hcx, hcy] at k1; cases k1
    | s k => rw [hcx, hcy] at k1; cases k1
    | e => rw [hcx, hcy] at k1; cases k1

theorem addr_uses {op : AOp} {a : Nat} (ha : addrOf op = some a) : a ∈ op.uses := by
  unfold addrOf at ha
  split at ha <;> cases ha <;> simp [AOp.uses, Operand.tm]

/-- What y reads through is there still when x is done. -/
theorem swap_ref {bs : Option Nat} {x y : AOper} (hpur : ∀ f, pur f = true → PurEnv env f) (hsw : swapOK pur x y = true) {st st1 : St} (h1 : stepA P env bs x st = some st1) (hw : ∀ a, addrOf y.op = some a → refIn st.h (st.t a)) :
    ∀ a, addrOf y.op = some a → refIn st1.h (st1.t a) := by
  intro a ha
  obtain ⟨⟨vx, hx⟩, e1, ck, rfl⟩ := stepA_some.1 h1
  unfold swapOK at hsw
  simp only [Bool.and_eq_true] at hsw
  obtain ⟨⟨⟨k1, _⟩, k2⟩, k3⟩ := hsw
  have hl : a ∈ y.looks := by unfold AOper.looks; exact List.mem_append_left _ (addr_uses ha)
  have e : put st.t x.dst vx a = st.t a := by
    refine put_ne ?_
    intro n hn e
    subst e
    rw [hn] at k2
    simp at k2
    exact k2.1 hl
  have hcy : y.cls pur = .r ∨ y.cls pur = .e := by
    unfold AOper.cls
    cases y.slot with
    | none =>
      left
      unfold addrOf at ha
      split at ha <;> (try cases ha) <;> rename_i hop <;> simp only [hop] <;> rfl
    | some k =>
      right
      unfold addrOf at ha
      split at ha <;> (try cases ha) <;> rename_i hop <;> simp only [hop] <;> rfl
  have hin : ∀ b, inUse st.h b → inUse hx b := by
    cases hcx : x.cls pur with
    | q => obtain ⟨rfl, _⟩ := outA_q hcx e1; exact fun _ h => h
    | r => obtain ⟨rfl, _⟩ := outA_r hpur hcx e1; exact fun _ h => h
    | a =>
      obtain ⟨l, rfl, _, _⟩ := outA_a hpur hcx e1
      intro b hb
      obtain ⟨s, h1, h2⟩ := hb
      exact ⟨s, by rw [same_append b ⟨s, h1, h2⟩]; exact h1, h2⟩
    | s k =>
      rcases outA_s hcx e1 with ⟨rfl, f⟩ | ⟨b0, rfl, f1, s, f2, rfl, f3⟩
      · exact fun _ h => h
      · intro b hb
        obtain ⟨s', h1, h2⟩ := hb
        exact ⟨s', by rw [same_set f1 b ⟨s', h1, h2⟩]; exact h1, h2⟩
    | e => rcases hcy with hcy | hcy <;> rw [hcx, hcy] at k1 <;> simp [Cls.swap, Cls.ar, Cls.isS] at k1
  have := hw a ha
  simp only [e]
  cases hv : st.t a <;> rw [hv] at this <;> simp only [refIn] at this ⊢ <;> exact hin _ this

end
end Go.AM

set_option linter.unusedVariables false
set_option linter.unusedSimpArgs false
namespace Go.AM

/-- What must come before an operation, as bits; out of the masks of what comes before. -/
def maskOf (masks : List Nat) (o : Oper) : Nat := o.after.toList.foldl (fun s e => if Region.binds .any e then s ||| 2 ^ e.on ||| masks.getD e.on 0 else s) 0

def masksGo : List Oper → List Nat → List Nat
  | [], acc => acc
  | o :: l, acc => masksGo l (acc ++ [maskOf acc o])

/-- The operations that write, each with what is read beside it. -/
def withApart (pur : Nat → Bool) (m : List Nat) (al : List AOper) : List AOper :=
  al.mapIdx fun i o => if (o.cls pur).isE then { o with apart := (List.range i).filterMap fun j => if (m.getD i 0).testBit j then none else (al[j]?).bind fun x => (addrOf x.op).map .tmp } else o

def drawPair (pur : Nat → Bool) (m : List Nat) (al : List AOper) (i j : Nat) : Bool :=
  (m.getD i 0).testBit j || match al[j]?, al[i]? with | some x, some y => (if (y.cls pur).isE then watchOK pur al j i x y else swapOK pur x y) | _, _ => false

def topoGo (mo : Region.Mode) (ops : Array Oper) : List Nat → List Nat → Bool
  | [], _ => true
  | i :: l, seen => (match ops[i]? with | some o => o.after.toList.all (fun e => !Region.binds mo e || seen.contains e.on) | none => false) && topoGo mo ops l (i :: seen)

/-- There is always an operation that may come next. -/
def topoOK (ops : Array Oper) : Bool :=
  topoGo .text ops (List.range ops.size) [] &&
  (let ord := Region.linearise .gc ops 0; topoGo .gc ops ord [] && (List.range ops.size).all fun i => ord.contains i)

/-- Whatever order the region's operations are taken in, it comes to the same as the text's. -/
def drawOK (pur : Nat → Bool) (ops : Array Oper) (al : List AOper) : Bool :=
  let m := masksGo ops.toList []
  topoOK ops && (List.range ops.size).all fun i =>
    match ops[i]? with
    | some o => m.getD i 0 == maskOf m o && (List.range i).all (drawPair pur m al i)
    | none => false

/-- Which operations need a block kept free: those that lay one and may change places with others that do. -/
def needSlot (pur : Nat → Bool) (m : List Nat) (al : List AOper) (i : Nat) : Bool :=
  match al[i]? with
  | some o => o.op.lays && (List.range al.length).any fun j => j != i && (match al[j]? with | some x => (match x.op.cls pur with | .a => true | _ => false) | none => false) && !(m.getD i 0).testBit j && !(m.getD j 0).testBit i
  | none => false

def withSlots (pur : Nat → Bool) (m : List Nat) (al : List AOper) : List AOper :=
  al.mapIdx fun i o => if needSlot pur m al i then { o with slot := some ((List.range i).countP (needSlot pur m al)) } else o

def slotsOf (pur : Nat → Bool) (m : List Nat) (al : List AOper) : Nat := (List.range al.length).countP (needSlot pur m al)

/-- A region in whatever order: as it stands, or with blocks kept free. -/
def drawn (n : Nat) (al : List AOper) : ACode := if n = 0 then .ops al else .opsR n al

def compile (P : Program) (pur : Nat → Bool) (md : Modes) (N : Nat) : Code → Option ACode
  | .skip => some .skip
  | .region _ ops draw => (ops.toList.mapM (compOper P md (!draw) N ops)).bind fun al =>
      if draw then
        if drawOK pur ops (withApart pur (masksGo ops.toList []) (withSlots pur (masksGo ops.toList []) al)) = true then
          some (drawn (slotsOf pur (masksGo ops.toList []) al) (withApart pur (masksGo ops.toList []) (withSlots pur (masksGo ops.toList []) al))) else none
      else some (.ops al)
  | .seq a b => (compile P pur md N a).bind fun x => (compile P pur md N b).map fun y => .seq x y
  | .cond c a b => (compile P pur md N a).bind fun x => (compile P pur md N b).map fun y => .cond c x y
  | .block id c => (compile P pur md N c).map (.block id)
  | .loop c => (compile P pur md N c).map .loop
  | .exit id => some (.exit id)
  | .ret => some .ret
  | _ => none

section
variable {P : Program} {base : Nat} {X : Nat → Prop} {w : World} {H : Heap} {G : List Nat} {t : Nat → V} {N : Nat} {md : Modes} {sq : Bool}

/-- The whole of what holds between the two machines. -/
structure Sim (base : Nat) (X : Nat → Prop) (N : Nat) (st : St) (a : Act) (w : World) (G : List Nat) : Prop where
  heap : SimH base X w st.h G
  tmps : TV w base (Mof X st.h G) st.h G st.t a.tmps
  size : a.tmps.size = N

theorem TV.ext {w' : World} {H' : Heap} {G' : List Nat} {tmps : Array Value} (h : TV w base (Mof X H G) H G t tmps) (hE : Ext w H G w' H' G') : TV w' base (Mof X H' G') H' G' t tmps :=
  fun k => (h k).ext hE

theorem TV.put {M : Nat → Prop} {a : Act} {dst : Option Nat} {v : V} {x : Value} (h : TV w base M H G t a.tmps) (hv : RV w base M H G v x) (hd : dst.all (· < a.tmps.size) = true) :
    TV w base M H G (put t dst v) (a.put dst x).tmps := by
  cases dst with
  | none => exact h
  | some d =>
    simp at hd
    intro k
    simp only [AM.put, Act.put]
    by_cases e : k = d
    · subst e
      rw [if_pos rfl]
      simp only [Array.getD_eq_getD_getElem?, Array.getElem?_setIfInBounds]
      simp only [if_true, hd, Option.getD_some]
      exact hv
    · rw [if_neg e]
      have := h k
      simp only [Array.getD_eq_getD_getElem?, Array.getElem?_setIfInBounds] at this ⊢
      rw [if_neg (Ne.symm e)]
      exact this

theorem Sim.ref {st : St} {a : Act} (hS : Sim base X N st a w G) (k : Nat) : refIn st.h (st.t k) := by
  have h := hS.tmps k
  generalize a.tmps.getD k undef = u at h
  cases hv : st.t k with
  | ptr b g off =>
    rw [hv] at h
    cases h with
    | ptr hr _ _ => exact hr.1
  | hsl b g off z ag len =>
    rw [hv] at h
    cases h with
    | hsl hr _ _ _ _ => exact hr.1
    | hnil hr _ => exact hr.1
  | _ => trivial

theorem put_size (a : Act) (dst : Option Nat) (x : Value) : (a.put dst x).tmps.size = a.tmps.size := by
  cases dst <;> simp [Act.put]

theorem put_defers (a : Act) (dst : Option Nat) (x : Value) : (a.put dst x).defers = a.defers := by
  cases dst <;> rfl

theorem wanted_ok {a : Act} {ops : Array Oper} {o : Oper} {ao : AOper} {b : Bool} {st : St} (hS : Sim base X N st a w G) (hc : compOper P md sq N ops o = some ao) (hw : wantedA ao st.t = some b) : Region.wanted o (yielded ops a.tmps) = b := by
  unfold compOper at hc
  split at hc
  · obtain ⟨aop, _, hc⟩ := Option.bind_eq_some_iff.1 hc
    split at hc
    · rename_i hg
      cases hc
      simp only [wantedA, Option.some.injEq] at hw
      subst hw
      simp [Region.wanted, hg]
    · rename_i j want hg
      obtain ⟨d, hd, hc⟩ := Option.bind_eq_some_iff.1 hc
      split at hc
      · rename_i hlt
        cases hc
        have hT := hS.tmps d
        have hsz := hS.size
        have hlt' : d < a.tmps.size := by rw [hsz]; exact hlt
        have hget : a.tmps[d]? = some (a.tmps.getD d undef) := by
          simp [Array.getD_eq_getD_getElem?, hlt']
        simp only [wantedA] at hw
        split at hw
        · rename_i b' he
          cases hw
          rw [he] at hT
          generalize a.tmps.getD d undef = u at hT hget
          cases hT with
          | i hi =>
            cases hi
            simp only [Region.wanted, hg, yielded, hd, Option.bind_some, hget]
            cases b' <;> cases want <;> rfl
        · rename_i he
          cases hw
          rw [he] at hT
          generalize a.tmps.getD d undef = u at hT hget
          cases hT with
          | i hi =>
            cases hi
            simp only [Region.wanted, hg, yielded, hd, Option.bind_some, hget]
            cases want <;> rfl
        · cases hw
      · cases hc
  · cases hc

theorem compOper_op {ops : Array Oper} {o : Oper} {ao : AOper} (hc : compOper P md sq N ops o = some ao) : (∃ op0 own sa, compOp P o = some op0 ∧ ao.op = finOp sq sa (hintOf P o) own (normOp P op0)) ∧ ao.dst = o.dst ∧ o.dst.all (· < N) = true := by
  unfold compOper at hc
  split at hc
  · rename_i hd
    obtain ⟨aop, h1, hc⟩ := Option.bind_eq_some_iff.1 hc
    split at hc
    · cases hc; exact ⟨⟨_, (fun f => md f == 2 || md f == 1 || (sq && md f == 3 && !calmReg md ops)), _, h1, rfl⟩, rfl, hd⟩
    · obtain ⟨d, _, hc⟩ := Option.bind_eq_some_iff.1 hc
      split at hc
      · cases hc; exact ⟨⟨_, (fun f => md f == 2 || md f == 1 || (sq && md f == 3 && !calmReg md ops)), _, h1, rfl⟩, rfl, hd⟩
      · cases hc
  · cases hc

/-- One operation of a region. -/
theorem stepA_wp {env : Env} {ops : Array Oper} {o : Oper} {ao : AOper} {ap : List Operand} {i : Nat} {K : Act → World → Prop} {a : Act} {st st' : St} (hE : EnvOK P env) (hS : Sim base X N st a w G) (ho : ops[i]? = some o) (hc : compOper P md sq N ops o = some ao)
    {bs sl : Option Nat} (hsl : sq = true → sl = none) (hs : stepA P env bs { ao with apart := ap, slot := sl } st = some st') (Q : Exit → Act → World → Prop)
    (hn : ∀ a' w' G', Ext w st.h G w' st'.h G' → Sim base X N st' a' w' G' → a'.defers = a.defers → K a' w') : wpOp P ops Q i K a w := by
  obtain ⟨⟨op0, own, sa, c1, c4⟩, c2, c3⟩ := compOper_op hc
  obtain ⟨⟨v, H'⟩, hs0, _, rfl⟩ := stepA_some.1 hs
  clear hs
  obtain ⟨b, hb, hs⟩ := Option.bind_eq_some_iff.1 hs0
  replace hb : wantedA ao st.t = some b := hb
  have hw := wanted_ok hS hc hb
  simp only [wpOp, ho, hw]
  have hd : o.dst.all (· < a.tmps.size) = true := by rw [hS.size]; exact c3
  cases b with
  | true =>
    simp only [if_true] at hs ⊢
    obtain ⟨slot, hsl2, hs⟩ := Option.bind_eq_some_iff.1 hs
    rw [c4] at hs
    left
    refine fin_ok (fun e => by rw [slot_none (o := { ao with apart := ap, slot := sl }) (hsl e)] at hsl2; exact (Option.some.inj hsl2).symm) hE hS.heap hS.tmps c1 hs _ Q ?_
    intro x w' G' hE' hS' hv
    refine hn _ w' G' hE' ⟨hS', ?_, by rw [put_size]; exact hS.size⟩ (put_defers _ _ _)
    simp only
    rw [c2]
    exact (hS.tmps.ext hE').put hv hd
  | false =>
    simp only [Bool.false_eq_true, if_false] at hs ⊢
    cases hs
    refine hn _ w G (Ext.refl _ _ _) ⟨hS.heap, ?_, by rw [put_size]; exact hS.size⟩ (put_defers _ _ _)
    simp only
    rw [c2]
    exact hS.tmps.put RV.undef hd

theorem stepA_ok {env : Env} {ops : Array Oper} {o : Oper} {ao : AOper} {i : Nat} {rest : List Nat} {a : Act} {st st' : St} (hE : EnvOK P env) (hS : Sim base X N st a w G) (ho : ops[i]? = some o) (hc : compOper P md sq N ops o = some ao)
    {bs : Option Nat} (hsl : ao.slot = none) (hs : stepA P env bs ao st = some st') (Q : Exit → Act → World → Prop)
    (hn : ∀ a' w' G', Ext w st.h G w' st'.h G' → Sim base X N st' a' w' G' → a'.defers = a.defers → wpOps P ops Q rest a' w') : wpOps P ops Q (i :: rest) a w := by
  rw [wpOps_cons]
  exact stepA_wp (ap := ao.apart) (bs := bs) (sl := ao.slot) hE hS ho hc (fun _ => hsl) hs Q hn

theorem compOper_slot {ops : Array Oper} {o : Oper} {ao : AOper} (hc : compOper P md sq N ops o = some ao) : ao.slot = none := by
  unfold compOper at hc
  split at hc
  · obtain ⟨aop, _, hc⟩ := Option.bind_eq_some_iff.1 hc
    split at hc
    · cases hc; rfl
    · obtain ⟨d, _, hc⟩ := Option.bind_eq_some_iff.1 hc
      split at hc
      · cases hc; rfl
      · cases hc
  · cases hc

theorem runOps_ok {bs : Option Nat} {env : Env} {ops : Array Oper} (hE : EnvOK P env) (Q : Exit → Act → World → Prop) : ∀ (l : List Nat) (al : List AOper) (st st' : St) (a : Act) (w : World) (G : List Nat), Sim base X N st a w G →
    (l.mapM fun i => (ops[i]?).bind (compOper P md sq N ops)) = some al → runOps P env bs al st = some st' →
    (∀ a' w' G', Ext w st.h G w' st'.h G' → Sim base X N st' a' w' G' → a'.defers = a.defers → Q .normal a' w') → wpOps P ops Q l a w
  | [], al, st, st', a, w, G, hS, hc, hr, hn => by
    simp at hc
    subst hc
    simp [runOps] at hr
    subst hr
    exact hn a w G (Ext.refl _ _ _) hS rfl
  | i :: l, al, st, st', a, w, G, hS, hc, hr, hn => by
    simp only [List.mapM_cons, Option.bind_eq_bind] at hc
    obtain ⟨ao, h1, hc⟩ := Option.bind_eq_some_iff.1 hc
    obtain ⟨al', h2, hc⟩ := Option.bind_eq_some_iff.1 hc
    simp at hc
    subst hc
    obtain ⟨o, ho, h3⟩ := Option.bind_eq_some_iff.1 h1
    simp only [runOps] at hr
    obtain ⟨st1, h4, h5⟩ := Option.bind_eq_some_iff.1 hr
    refine stepA_ok hE hS ho h3 (compOper_slot h3) h4 Q ?_
    intro a1 w1 G1 hE1 hS1 hd1
    refine runOps_ok hE Q l al' st1 st' a1 w1 G1 hS1 h2 h5 ?_
    intro a2 w2 G2 hE2 hS2 hd2
    exact hn a2 w2 G2 (hE1.trans hE2) hS2 (hd2.trans hd1)

theorem mapM_range {α β : Type} (f : α → Option β) (arr : Array α) : (List.range arr.size).mapM (fun i => (arr[i]?).bind f) = arr.toList.mapM f := by
  have : (List.range arr.size).map (fun i => arr[i]?) = arr.toList.map some := by
    apply List.ext_getElem
    · simp
    · intro i h1 h2
      simp at h1 h2 ⊢
  have h1 : (List.range arr.size).mapM (fun i => (arr[i]?).bind f) = ((List.range arr.size).map (fun i => arr[i]?)).mapM (fun x => x.bind f) := by rw [List.mapM_map]; rfl
  rw [h1, this, List.mapM_map]
  rfl

theorem mask_bits {m : List Nat} {j : Nat} : ∀ (l : List Edge) (s : Nat), (l.foldl (fun s e => if Region.binds .any e then s ||| 2 ^ e.on ||| m.getD e.on 0 else s) s).testBit j = true →
    s.testBit j = true ∨ ∃ e, e ∈ l ∧ Region.binds .any e = true ∧ (e.on = j ∨ (m.getD e.on 0).testBit j = true)
  | [], s, h => .inl h
  | e :: l, s, h => by
    simp only [List.foldl_cons] at h
    rcases mask_bits l _ h with h1 | ⟨e', h1, h2, h3⟩
    · split at h1
      · rename_i hb
        simp only [Nat.testBit_or, Bool.or_eq_true] at h1
        rcases h1 with (h1 | h1) | h1
        · exact .inl h1
        · refine .inr ⟨e, by simp, hb, .inl ?_⟩
          rw [Nat.testBit_two_pow] at h1
          simpa using h1
        · exact .inr ⟨e, by simp, hb, .inr h1⟩
      · exact .inl h1
    · exact .inr ⟨e', by simp [h1], h2, h3⟩

theorem binds_any {md : Region.Mode} {e : Edge} (h : Region.binds .any e = true) : Region.binds md e = true := by
  unfold Region.binds at h ⊢
  split at h <;> first | (exact absurd h (by decide)) | simp_all

/-- The operations that are still to come, in the text's order. -/
def remOf (n : Nat) (listed : Array Bool) : List Nat := (List.range n).filter fun i => !listed.getD i true

theorem mem_rem {n i : Nat} {listed : Array Bool} : i ∈ remOf n listed ↔ i < n ∧ listed.getD i true = false := by
  simp only [remOf, List.mem_filter, List.mem_range, Bool.not_eq_true', decide_eq_true_eq]

theorem mapM_opt_get {α β : Type} {f : α → Option β} : ∀ {l : List α} {r : List β}, l.mapM f = some r → ∀ (i : Nat) (x : α), l[i]? = some x → ∃ y, r[i]? = some y ∧ f x = some y
  | [], r, h, i, x, hx => by simp at hx
  | a :: l, r, h, i, x, hx => by
    simp only [List.mapM_cons, Option.bind_eq_bind] at h
    obtain ⟨u, hu, h⟩ := Option.bind_eq_some_iff.1 h
    obtain ⟨us, h1, h2⟩ := Option.bind_eq_some_iff.1 h
    simp at h2
    subst h2
    cases i with
    | zero => simp at hx; subst hx; exact ⟨u, by simp, hu⟩
    | succ i =>
      simp at hx
      obtain ⟨y, h3, h4⟩ := mapM_opt_get h1 i x hx
      exact ⟨y, by simpa using h3, h4⟩

def pickA (al : List AOper) (l : List Nat) : List AOper := l.filterMap (al[·]?)

theorem front_ok {bs : Option Nat} {env : Env} {pur : Nat → Bool} {al : List AOper} {i : Nat} {ao : AOper} {q : List Nat} (hpur : ∀ f, pur f = true → PurEnv env f) (hi : al[i]? = some ao) {stF : St} : ∀ (p : List Nat) (st : St), (∀ a, addrOf ao.op = some a → refIn st.h (st.t a)) →
    (∀ j, j ∈ p → ∃ x, al[j]? = some x ∧ swapOK pur x ao = true) → runOps P env bs (pickA al (p ++ i :: q)) st = some stF →
    ∃ st1, stepA P env bs ao.clear st = some st1 ∧ runOps P env bs (pickA al (p ++ q)) st1 = some stF
  | [], st, _, _, h => by
    simp only [pickA, List.nil_append, List.filterMap_cons, hi, runOps] at h ⊢
    obtain ⟨st1, h1, h2⟩ := Option.bind_eq_some_iff.1 h
    exact ⟨st1, stepA_clear h1, h2⟩
  | j :: p, st, hw, hp, h => by
    obtain ⟨x, hx, hsw⟩ := hp j (by simp)
    simp only [pickA, List.cons_append, List.filterMap_cons, hx, runOps] at h
    obtain ⟨st1, h1, h2⟩ := Option.bind_eq_some_iff.1 h
    obtain ⟨st2, h3, h4⟩ := front_ok hpur hi p st1 (swap_ref hpur hsw h1 hw) (fun k hk => hp k (by simp [hk])) h2
    obtain ⟨st3, h5, h6⟩ := swap_ok hpur hsw hw h1 h3
    refine ⟨st3, h5, ?_⟩
    simp only [pickA, List.cons_append, List.filterMap_cons, hx, runOps, h6, Option.bind_some]
    exact h4

theorem runOps_append {bs : Option Nat} {env : Env} : ∀ (a b : List AOper) (st : St), runOps P env bs (a ++ b) st = (runOps P env bs a st).bind (runOps P env bs b)
  | [], b, st => rfl
  | o :: a, b, st => by
    simp only [List.cons_append, runOps]
    cases stepA P env bs o st with
    | none => rfl
    | some st1 => simp only [Option.bind_some]; exact runOps_append a b st1

theorem pickA_append (al : List AOper) (p q : List Nat) : pickA al (p ++ q) = pickA al p ++ pickA al q := List.filterMap_append

/-- What the operations ahead of one that writes come to behind it. -/
theorem behind_ok {bs : Option Nat} {env : Env} {pur : Nat → Bool} {al : List AOper} {i : Nat} {y : AOper} (hpur : ∀ f, pur f = true → PurEnv env f) {v : V} {h2 : Heap} : ∀ (p : List Nat) (st stp : St),
    p.Pairwise (· < ·) → (∀ j, j ∈ p → j < i ∧ ∃ x, al[j]? = some x ∧ watchOK pur al j i x y = true) → runOps P env bs (pickA al p) st = some stp →
    stp.h = st.h ∧ (∀ k, k ∈ y.looks → stp.t k = st.t k) ∧
    ((∀ k, k ∈ y.watch → kept st.h h2 (stp.t k)) → runOps P env bs (pickA al p) ⟨put st.t y.dst v, h2⟩ = some ⟨put stp.t y.dst v, h2⟩)
  | [], st, stp, _, _, h => by
    simp [pickA, runOps] at h
    subst h
    exact ⟨rfl, fun _ _ => rfl, fun _ => rfl⟩
  | j :: p, st, stp, hpw, hp, h => by
    obtain ⟨hji, x, hx, hw⟩ := hp j (by simp)
    have hpw' := List.pairwise_cons.1 hpw
    simp only [pickA, List.filterMap_cons, hx, runOps] at h ⊢
    obtain ⟨st1, h1, h3⟩ := Option.bind_eq_some_iff.1 h
    obtain ⟨r1, r2, r3⟩ := behind_ok hpur p st1 stp hpw'.2 (fun k hk => hp k (by simp [hk])) h3
    obtain ⟨⟨vx, hh⟩, e1, _, rfl⟩ := stepA_some.1 h1
    unfold watchOK at hw
    simp only [Bool.and_eq_true] at hw
    obtain ⟨⟨⟨⟨k0, k1⟩, k2⟩, k3⟩, k4⟩ := hw
    have hap : x.apart = [] := by simpa using k1
    have hheap : hh = st.h := by
      rcases Bool.or_eq_true _ _ ▸ k4 with hq | hr
      · cases hc : x.cls pur with
        | q => exact (outA_q hc e1).1
        | _ => rw [hc] at hq; cases hq
      · simp only [Bool.and_eq_true] at hr
        cases hc : x.cls pur with
        | r => exact (outA_r hpur hc e1).1
        | _ => rw [hc] at hr; cases hr.1
    subst hheap
    have a1 : ∀ k, k ∈ y.looks → put st.t x.dst vx k = st.t k := by
      intro k hk
      refine put_ne ?_
      intro n hn e
      subst e
      rw [hn] at k2
      simp at k2
      exact k2.1 hk
    refine ⟨r1, fun k hk => by rw [r2 k hk]; exact a1 k hk, ?_⟩
    intro hkept
    have a2 : ∀ n, x.dst = some n → y.dst ≠ some n := by
      intro n hn e
      rw [hn] at k2
      simp at k2
      exact k2.2 e
    have a3 : ∀ k, k ∈ x.looks → put st.t y.dst v k = st.t k := by
      intro k hk
      refine put_ne ?_
      intro n hn e
      subst e
      rw [hn] at k3
      simp at k3
      exact k3 hk
    have e2 : outA P env bs x st.t h2 = some (vx, h2) := by
      rcases Bool.or_eq_true _ _ ▸ k4 with hq | hr
      · cases hc : x.cls pur with
        | q => exact (outA_q hc e1).2 h2
        | _ => rw [hc] at hq; cases hq
      · simp only [Bool.and_eq_true] at hr
        obtain ⟨hr1, hr2⟩ := hr
        cases ha : addrOf x.op with
        | none => rw [ha] at hr2; cases hr2
        | some a =>
          rw [ha] at hr2
          simp only [Bool.and_eq_true] at hr2
          obtain ⟨hw1, hw2⟩ := hr2
          have hw1' : a ∈ y.watch := by simpa using hw1
          have hall := List.all_eq_true.1 hw2
          -- nobody between writes the address
          have hsame : ∀ (p' : List Nat) (s s' : St), (∀ k, k ∈ p' → j ≤ k ∧ k < i) → runOps P env bs (pickA al p') s = some s' → s'.t a = s.t a := by
            intro p'
            induction p' with
            | nil => intro s s' _ h; simp [pickA, runOps] at h; subst h; rfl
            | cons k p' ih =>
              intro s s' hk h
              obtain ⟨g1, g2⟩ := hk k (by simp)
              cases hz : al[k]? with
              | none =>
                simp only [pickA, List.filterMap_cons, hz] at h
                exact ih s s' (fun m hm => hk m (by simp [hm])) h
              | some z =>
                simp only [pickA, List.filterMap_cons, hz, runOps] at h
                obtain ⟨s1, f1, f2⟩ := Option.bind_eq_some_iff.1 h
                obtain ⟨⟨u, hu⟩, _, _, rfl⟩ := stepA_some.1 f1
                rw [ih _ s' (fun m hm => hk m (by simp [hm])) f2]
                simp only
                refine put_ne ?_
                intro n hn e
                subst e
                have := hall k (by simpa using g2)
                simp only [hz, hn] at this
                simp at this
                omega
          have hst : stp.t a = put st.t x.dst vx a := hsame p _ stp (fun k hk => ⟨Nat.le_of_lt (hpw'.1 k hk), (hp k (by simp [hk])).1⟩) h3
          have hst2 : put st.t x.dst vx a = st.t a := by
            refine put_ne ?_
            intro n hn e
            subst e
            have := hall j (by simpa using hji)
            simp only [hx, hn] at this
            simp at this
          have hk := hkept a hw1'
          rw [hst, hst2] at hk
          have hsx : x.slot = none := by
            cases hc : x.cls pur with
            | r => exact (cls_none hc (by intro k e; cases e) (by intro e; cases e)).1
            | _ => rw [hc] at hr1; cases hr1
          unfold outA at e1 ⊢
          simp only [slot_none hsx, Option.bind_some] at e1 ⊢
          obtain ⟨b, g1, g2⟩ := Option.bind_eq_some_iff.1 e1
          rw [g1, Option.bind_some]
          cases b with
          | true =>
            simp only [if_true] at g2 ⊢
            exact cls_addr ha hk g2
          | false =>
            simp only [Bool.false_eq_true, if_false] at g2 ⊢
            cases g2; rfl
    have e3 : stepA P env bs x ⟨put st.t y.dst v, h2⟩ = some ⟨put (put st.t x.dst vx) y.dst v, h2⟩ := by
      refine stepA_some.2 ⟨(vx, h2), ?_, by rw [hap]; simp, ?_⟩
      · simp only
        rw [outA_congr a3]
        exact e2
      · simp only [put_comm a2]
    rw [e3, Option.bind_some]
    exact r3 hkept

theorem front_e {bs : Option Nat} {env : Env} {pur : Nat → Bool} {al : List AOper} {i : Nat} {y : AOper} {q : List Nat} (hpur : ∀ f, pur f = true → PurEnv env f) (hi : al[i]? = some y) {stF : St} (p : List Nat) (st : St) (hpw : p.Pairwise (· < ·))
    (hp : ∀ j, j ∈ p → j < i ∧ ∃ x, al[j]? = some x ∧ watchOK pur al j i x y = true) (hr : runOps P env bs (pickA al (p ++ i :: q)) st = some stF) :
    ∃ st1, stepA P env bs y.clear st = some st1 ∧ runOps P env bs (pickA al (p ++ q)) st1 = some stF := by
  rw [pickA_append, runOps_append] at hr
  obtain ⟨stp, h1, h2⟩ := Option.bind_eq_some_iff.1 hr
  simp only [pickA, List.filterMap_cons, hi, runOps] at h2
  obtain ⟨st2, h3, h4⟩ := Option.bind_eq_some_iff.1 h2
  obtain ⟨⟨v, hh⟩, e1, ck, rfl⟩ := stepA_some.1 h3
  obtain ⟨r1, r2, r3⟩ := behind_ok hpur (v := v) (h2 := hh) p st stp hpw hp h1
  rw [outA_congr r2, r1] at e1
  refine ⟨⟨put st.t y.dst v, hh⟩, stepA_some.2 ⟨(v, hh), by rw [outA_clear]; exact e1, by simp [AOper.clear], rfl⟩, ?_⟩
  rw [pickA_append, runOps_append, r3 ?_, Option.bind_some]
  · exact h4
  · intro k hk
    unfold AOper.watch at hk
    obtain ⟨z, hz, hk⟩ := List.mem_flatMap.1 hk
    have := ck z hz
    rw [r1] at this
    cases z with
    | tmp n => simp [Operand.tm] at hk; subst hk; exact this
    | _ => simp [Operand.tm] at hk

theorem rem_set {n i : Nat} {listed : Array Bool} (hs : listed.size = n) (hn : i < n) : remOf n (listed.setIfInBounds i true) = (remOf n listed).filter (· ≠ i) := by
  unfold remOf
  rw [List.filter_filter]
  apply List.filter_congr
  intro k hk
  simp only [Array.getD_eq_getD_getElem?, Array.getElem?_setIfInBounds]
  by_cases e : i = k
  · subst e
    simp [hs, hn]
  · simp [e, Ne.symm e]

theorem rem_split {n i : Nat} {listed : Array Bool} (hs : listed.size = n) (hn : i < n) (hu : listed.getD i true = false) :
    ∃ p q, remOf n listed = p ++ i :: q ∧ remOf n (listed.setIfInBounds i true) = p ++ q ∧ (∀ j, j ∈ p → j < i ∧ listed.getD j true = false) ∧ p.Pairwise (· < ·) := by
  have hm : i ∈ remOf n listed := mem_rem.2 ⟨hn, hu⟩
  obtain ⟨p, q, he⟩ := List.append_of_mem hm
  have hpw : (remOf n listed).Pairwise (· < ·) := List.Pairwise.filter _ List.pairwise_lt_range
  rw [he] at hpw
  obtain ⟨h1, h2, h3⟩ := List.pairwise_append.1 hpw
  have h2' := List.pairwise_cons.1 h2
  refine ⟨p, q, he, ?_, ?_, h1⟩
  · rw [rem_set hs hn, he, List.filter_append, List.filter_cons]
    simp only [ne_eq, not_true_eq_false, decide_false, Bool.false_eq_true, if_false]
    congr 1
    · apply List.filter_eq_self.2
      intro j hj
      have := h3 j hj i (by simp)
      simp; omega
    · apply List.filter_eq_self.2
      intro j hj
      have := h2'.1 j hj
      simp; omega
  · intro j hj
    refine ⟨h3 j hj i (by simp), ?_⟩
    have : j ∈ remOf n listed := by rw [he]; simp [hj]
    exact (mem_rem.1 this).2

theorem topo_ready {mo : Region.Mode} {ops : Array Oper} {listed : Array Bool} (hsz : listed.size = ops.size) : ∀ (l seen : List Nat), topoGo mo ops l seen = true → (∀ j, j ∈ seen → listed.getD j false = true) → (∃ i, i ∈ l ∧ i < ops.size ∧ listed.getD i true = false) → Region.ready mo ops listed ≠ []
  | [], seen, _, _, h => by obtain ⟨i, hi, _⟩ := h; simp at hi
  | k :: l, seen, ht, hs, h => by
    simp only [topoGo, Bool.and_eq_true] at ht
    obtain ⟨h1, h2⟩ := ht
    cases ho : ops[k]? with
    | none => rw [ho] at h1; cases h1
    | some o =>
      rw [ho] at h1
      have hlt : k < ops.size := (Array.getElem?_eq_some_iff.1 ho).1
      cases hl : listed.getD k true with
      | true =>
        refine topo_ready hsz l (k :: seen) h2 ?_ ?_
        · intro j hj
          rcases List.mem_cons.1 hj with rfl | hj
          · have hlt2 : j < listed.size := by omega
            simpa [Array.getD_eq_getD_getElem?, hlt2] using hl
          · exact hs j hj
        · obtain ⟨i, hi, hi2, hi3⟩ := h
          rcases List.mem_cons.1 hi with rfl | hi
          · rw [hl] at hi3; cases hi3
          · exact ⟨i, hi, hi2, hi3⟩
      | false =>
        intro he
        have : k ∈ Region.ready mo ops listed := by
          refine mem_ready.2 ⟨hl, o, ho, ?_⟩
          intro e he2 hb
          have := List.all_eq_true.1 h1 e (by simpa using he2)
          simp only [hb, Bool.not_true, Bool.false_or, List.contains_eq_mem, decide_eq_true_eq] at this
          exact hs _ this
        rw [he] at this
        simp at this

theorem topoGo_any {ops : Array Oper} : ∀ (l seen : List Nat), topoGo .text ops l seen = true → topoGo .any ops l seen = true
  | [], _, _ => rfl
  | k :: l, seen, h => by
    simp only [topoGo, Bool.and_eq_true] at h ⊢
    refine ⟨?_, topoGo_any l _ h.2⟩
    cases ho : ops[k]? with
    | none => rw [ho] at h; cases h.1
    | some o =>
      rw [ho] at h
      simp only [List.all_eq_true, Bool.or_eq_true, Bool.not_eq_true'] at h ⊢
      intro e he
      rcases h.1 e he with h3 | h3
      · left
        cases hb : Region.binds .any e with
        | false => rfl
        | true => rw [binds_any hb] at h3; cases h3
      · exact .inr h3

theorem topo_nonempty {mo : Region.Mode} {ops : Array Oper} {listed : Array Bool} (hsz : listed.size = ops.size) (ht : topoOK ops = true) (h : ∃ i, i < ops.size ∧ listed.getD i true = false) : Region.ready mo ops listed ≠ [] := by
  obtain ⟨i, h1, h2⟩ := h
  unfold topoOK at ht
  simp only [Bool.and_eq_true] at ht
  obtain ⟨t1, t2, t3⟩ := ht
  cases mo with
  | text => exact topo_ready hsz _ _ t1 (by simp) ⟨i, by simpa using h1, h1, h2⟩
  | any => exact topo_ready hsz _ _ (topoGo_any _ _ t1) (by simp) ⟨i, by simpa using h1, h1, h2⟩
  | gc =>
    have := List.all_eq_true.1 t3 i (by simpa using h1)
    exact topo_ready hsz _ _ t2 (by simp) ⟨i, by simpa using this, h1, h2⟩

theorem draw_ok {bs : Option Nat} {env : Env} {pur : Nat → Bool} {ops : Array Oper} {al al0 : List AOper} {mo : Region.Mode} (hE : EnvOK P env) (hpur : ∀ f, pur f = true → PurEnv env f) (hd : drawOK pur ops al = true)
    (hc : ops.toList.mapM (compOper P md sq N ops) = some al0) (hap : ∀ (i : Nat) (o : AOper), al0[i]? = some o → ∃ ap sl, al[i]? = some { o with apart := ap, slot := sl } ∧ (sq = true → sl = none)) (Q : Exit → Act → World → Prop) : ∀ (fuel : Nat) (listed : Array Bool) (st st' : St) (a : Act) (w : World) (G : List Nat), listed.size = ops.size → (remOf ops.size listed).length = fuel →
    (∀ k, listed.getD k false = true → ∀ j, ((masksGo ops.toList []).getD k 0).testBit j = true → listed.getD j false = true) → Sim base X N st a w G →
    runOps P env bs (pickA al (remOf ops.size listed)) st = some st' →
    (∀ a' w' G', Ext w st.h G w' st'.h G' → Sim base X N st' a' w' G' → a'.defers = a.defers → Q .normal a' w') → wpAny P mo ops Q fuel listed a w := by
  have hal : ∀ (i : Nat) (o : Oper), ops[i]? = some o → ∃ ao ap sl, al[i]? = some { ao with apart := ap, slot := sl } ∧ (sq = true → sl = none) ∧ compOper P md sq N ops o = some ao := by
    intro i o ho
    obtain ⟨ao, h1, h2⟩ := mapM_opt_get hc i o (by rw [Array.getElem?_toList]; exact ho)
    obtain ⟨ap, sl, h3, h4⟩ := hap i ao h1
    exact ⟨ao, ap, sl, h3, h4, h2⟩
  have hat : ∀ (i : Nat) (o : Oper), ops[i]? = some o → (masksGo ops.toList []).getD i 0 = maskOf (masksGo ops.toList []) o ∧ ∀ j, j < i → drawPair pur (masksGo ops.toList []) al i j = true := by
    intro i o ho
    have hlt := (Array.getElem?_eq_some_iff.1 ho).1
    unfold drawOK at hd
    simp only [Bool.and_eq_true] at hd
    have := List.all_eq_true.1 hd.2 i (by simpa using hlt)
    simp only [ho, Bool.and_eq_true, beq_iff_eq] at this
    obtain ⟨h1, h3⟩ := this
    exact ⟨h1, fun j hj => List.all_eq_true.1 h3 j (by simpa using hj)⟩
  intro fuel
  induction fuel with
  | zero =>
    intro listed st st' a w G hsz hlen hcl hS hr hn
    have h0 : remOf ops.size listed = [] := List.eq_nil_of_length_eq_zero hlen
    rw [h0] at hr
    simp [pickA, runOps] at hr
    subst hr
    refine ⟨?_, hn a w G (Ext.refl _ _ _) hS rfl⟩
    apply List.eq_nil_iff_forall_not_mem.2
    intro i hi
    obtain ⟨h2, o, h1, _⟩ := mem_ready.1 hi
    have : i ∈ remOf ops.size listed := mem_rem.2 ⟨(Array.getElem?_eq_some_iff.1 h1).1, h2⟩
    rw [h0] at this
    simp at this
  | succ fuel ih =>
    intro listed st st' a w G hsz hlen hcl hS hr hn
    refine ⟨?_, ?_⟩
    · -- one of those to come is ready
      have ht : topoOK ops = true := by
        unfold drawOK at hd
        simp only [Bool.and_eq_true] at hd
        exact hd.1
      refine fun h0 => absurd h0 (topo_nonempty hsz ht ?_)
      match hrem : remOf ops.size listed with
      | [] => rw [hrem] at hlen; simp at hlen
      | i :: q =>
        have hm : i ∈ remOf ops.size listed := by rw [hrem]; simp
        obtain ⟨m1, m2⟩ := mem_rem.1 hm
        exact ⟨i, m1, m2⟩
    · intro i hi
      obtain ⟨m2, o, ho, m3⟩ := mem_ready.1 hi
      have m1 : i < ops.size := (Array.getElem?_eq_some_iff.1 ho).1
      obtain ⟨ao, ap, sl, ha1, ha0, ha2⟩ := hal i _ ho
      obtain ⟨q1, q3⟩ := hat i _ ho
      obtain ⟨p, q, s1, s2, s3, s4⟩ := rem_split hsz m1 m2
      -- whatever must come before i has come
      have hbef : ∀ j, ((masksGo ops.toList []).getD i 0).testBit j = true → listed.getD j false = true := by
        intro j hj
        rw [q1] at hj
        rcases mask_bits _ _ hj with h | ⟨e, e1, e2, e3⟩
        · simp at h
        · have hl : listed.getD e.on false = true := m3 e (by simpa using e1) (binds_any e2)
          rcases e3 with e3 | e3
          · rw [← e3]; exact hl
          · exact hcl _ hl j e3
      have hsw : ∀ j, j ∈ p → ∃ x, al[j]? = some x ∧ (if (AOper.cls pur { ao with apart := ap, slot := sl }).isE then watchOK pur al j i x { ao with apart := ap, slot := sl } else swapOK pur x { ao with apart := ap, slot := sl }) = true := by
        intro j hj
        obtain ⟨j1, j2⟩ := s3 j hj
        have := q3 j j1
        unfold drawPair at this
        rcases Bool.or_eq_true _ _ ▸ this with h | h
        · have := hbef j h
          have hlt : j < listed.size := by omega
          simp [Array.getD_eq_getD_getElem?, hlt] at this j2
          rw [this] at j2
          cases j2
        · rw [ha1] at h
          cases hx : al[j]? with
          | none => rw [hx] at h; simp at h
          | some x => rw [hx] at h; exact ⟨x, rfl, h⟩
      rw [s1] at hr
      have hfront : ∃ st1, stepA P env bs (AOper.clear { ao with apart := ap, slot := sl }) st = some st1 ∧ runOps P env bs (pickA al (p ++ q)) st1 = some st' := by
        cases hcl : (AOper.cls pur { ao with apart := ap, slot := sl }).isE with
        | true =>
          refine front_e hpur ha1 p st s4 ?_ hr
          intro j hj
          obtain ⟨x, hx1, hx2⟩ := hsw j hj
          rw [hcl, if_pos rfl] at hx2
          exact ⟨(s3 j hj).1, x, hx1, hx2⟩
        | false =>
          refine front_ok hpur ha1 p st (fun k _ => hS.ref k) ?_ hr
          intro j hj
          obtain ⟨x, hx1, hx2⟩ := hsw j hj
          rw [hcl, if_neg (by simp)] at hx2
          exact ⟨x, hx1, hx2⟩
      obtain ⟨st1, t1, t2⟩ := hfront
      refine stepA_wp (ap := []) (sl := sl) hE hS ho ha2 ha0 t1 Q ?_
      intro a1 w1 G1 hE1 hS1 hd1
      refine ih (listed.setIfInBounds i true) st1 st' a1 w1 G1 (by simpa using hsz) ?_ ?_ hS1 (by rw [s2]; exact t2) ?_
      · rw [s2]; rw [s1] at hlen; simp at hlen ⊢; omega
      · intro k hk j hj
        by_cases e : i = k
        · subst e
          exact getD_set_true (hbef j hj)
        · rw [getD_set_ne _ e] at hk
          exact getD_set_true (hcl k hk j hj)
      · intro a2 w2 G2 hE2 hS2 hd2
        exact hn a2 w2 G2 (hE1.trans hE2) hS2 (hd2.trans hd1)

theorem rem_all (n : Nat) : remOf n (Array.replicate n false) = List.range n := by
  unfold remOf
  apply List.filter_eq_self.2
  intro i hi
  have : i < n := by simpa using hi
  simp [Array.getD_eq_getD_getElem?, this]

theorem pick_all (al : List AOper) : pickA al (List.range al.length) = al := by
  unfold pickA
  have : (List.range al.length).map (fun i => al[i]?) = al.map some := by
    apply List.ext_getElem
    · simp
    · intro i h1 h2
      simp at h1 h2 ⊢
  have h2 : (List.range al.length).filterMap (al[·]?) = ((List.range al.length).map (fun i => al[i]?)).filterMap id := by
    rw [List.filterMap_map]; rfl
  rw [h2, this, List.filterMap_map]
  simp [Function.comp_def]

/-- What is owed of a piece of code. -/
def CodeOK (P : Program) (base : Nat) (X : Nat → Prop) (N : Nat) (c : Code) (st : St) (ex : AExit) (st' : St) : Prop :=
  ∀ (a : Act) (w : World) (G : List Nat) (Q : Exit → Act → World → Prop), Sim base X N st a w G →
    (∀ a' w' G', Ext w st.h G w' st'.h G' → Sim base X N st' a' w' G' → a'.defers = a.defers → Q ex.to a' w') → c.wp P Q a w

theorem loop_ok {c : Code} {f : St → Option (AExit × St)} (hf : ∀ st ex st', f st = some (ex, st') → CodeOK P base X N c st ex st') : ∀ (n : Nat) (st : St) (ex : AExit) (st' : St), iterN f n st = some (ex, st') → CodeOK P base X N (.loop c) st ex st' := by
  intro n st ex st' hn a w G Q hS hq b k cs
  have key : ∀ (n : Nat) (st : St) (a : Act) (w : World) (G : List Nat), iterN f n st = some (ex, st') → Sim base X N st a w G →
      (∀ a' w' G', Ext w st.h G w' st'.h G' → Sim base X N st' a' w' G' → a'.defers = a.defers → Q ex.to a' w') →
      ∃ e a' w', Q e a' w' ∧ Arrives P (lone (b.at a (.code c :: .inLoop c :: k)) cs w) b k cs e a' w' := by
    intro n
    induction n with
    | zero => intro st a w G h; simp [iterN] at h
    | succ n ih =>
      intro st a w G h hS hq
      rw [iterN] at h
      obtain ⟨⟨e1, st1⟩, h1, h2⟩ := Option.bind_eq_some_iff.1 h
      have hbody := hf st e1 st1 h1 a w G (fun e a' w' => e = e1.to ∧ ∃ G', Ext w st.h G w' st1.h G' ∧ Sim base X N st1 a' w' G' ∧ a'.defers = a.defers) hS (fun a' w' G' hE hS' hd => ⟨rfl, G', hE, hS', hd⟩) b (.inLoop c :: k) cs
      obtain ⟨e, a1, w1, ⟨rfl, G1, hE1, hS1, hd1⟩, harr⟩ := hbody
      cases e1 with
      | normal =>
        simp only at h2
        obtain ⟨e2, a2, w2, hq2, harr2⟩ := ih st1 a1 w1 G1 h2 hS1 (fun a' w' G' hE hS' hd => hq a' w' G' (hE1.trans hE) hS' (hd.trans hd1))
        exact ⟨e2, a2, w2, hq2, .of_steps (Steps.trans harr (.one step_inLoop)) harr2⟩
      | exit id =>
        simp only [Option.some.injEq, Prod.mk.injEq] at h2
        obtain ⟨rfl, rfl⟩ := h2
        exact ⟨_, a1, w1, hq a1 w1 G1 hE1 hS1 hd1, .pass (x := .inLoop c) rfl (fun _ _ => .inl (by simp [AExit.to])) harr⟩
      | ret =>
        simp only [Option.some.injEq, Prod.mk.injEq] at h2
        obtain ⟨rfl, rfl⟩ := h2
        exact ⟨_, a1, w1, hq a1 w1 G1 hE1 hS1 hd1, .pass (x := .inLoop c) rfl (fun _ _ => .inl (by simp [AExit.to])) harr⟩
  obtain ⟨e, a', w', hq', harr⟩ := key n st a w G hn hS hq
  exact ⟨e, a', w', hq', .of_steps (.one step_loop) harr⟩

theorem free_ok (hS : SimH base X w H G) : ∃ G', Ext w H G w (H ++ [.free]) G' ∧ SimH base X w (H ++ [.free]) G' := by
  obtain ⟨G', h1, h2, h3, h4, h5, h6⟩ := newSlot_at (slot := none) (s := .free) (H' := H ++ [.free]) (b := H.length) hS.len 0 rfl
  have hE : Ext w H G w (H ++ [.free]) G' :=
    Ext.new hS H.length _ w.heap.size (.inl h1) h2 h3 h4 (fun h => by cases h) (Nat.le_refl _) rfl rfl rfl (Nat.le_refl _) (fun _ _ => rfl)
  refine ⟨G', hE, ?_⟩
  refine hS.upd H.length _ w.heap.size h6 h2 h3 h4 hE ?_ ?_
  · intro b1 s1 k1 hne hb1 hl1 hg1
    rfl
  · intro h; cases h

theorem frees_ok : ∀ (n : Nat) {H : Heap} {G : List Nat}, SimH base X w H G → ∃ G', Ext w H G w (H ++ List.replicate n .free) G' ∧ SimH base X w (H ++ List.replicate n .free) G'
  | 0, H, G, hS => ⟨G, by simpa using Ext.refl w H G, by simpa using hS⟩
  | n + 1, H, G, hS => by
    obtain ⟨G1, e1, s1⟩ := free_ok hS
    obtain ⟨G2, e2, s2⟩ := frees_ok n s1
    refine ⟨G2, ?_, ?_⟩
    · rw [List.append_assoc] at e2
      exact e1.trans e2
    · rw [List.append_assoc] at s2
      exact s2

theorem exec_ok {env : Env} {pur : Nat → Bool} (hE : EnvOK P env) (hpur : ∀ f, pur f = true → PurEnv env f) : ∀ (c : Code) (ac : ACode) (st : St) (ex : AExit) (st' : St), compile P pur md N c = some ac → exec P env ac st = some (ex, st') → CodeOK P base X N c st ex st' := by
  intro c
  induction c with
  | skip =>
    intro ac st ex st' hc he a w G Q hS hq
    simp [compile] at hc; subst hc
    simp [exec] at he
    obtain ⟨rfl, rfl⟩ := he
    exact wp_skip (hq a w G (Ext.refl _ _ _) hS rfl)
  | region id ops draw =>
    intro ac st ex st' hc he a w G Q hS hq
    simp only [compile] at hc
    obtain ⟨al, h1, hc⟩ := Option.bind_eq_some_iff.1 hc
    cases draw with
    | false =>
      simp only [Bool.false_eq_true, if_false] at hc
      cases hc
      simp only [exec] at he
      obtain ⟨st1, h2, h3⟩ := Option.map_eq_some_iff.1 he
      simp only [Prod.mk.injEq] at h3
      obtain ⟨rfl, rfl⟩ := h3
      refine wp_region (runOps_ok (md := md) (sq := !false) hE Q _ al st st1 a w G hS ?_ h2 hq)
      rw [mapM_range (compOper P md (!false) N ops) ops]
      exact h1
    | true =>
      simp only [if_true] at hc
      split at hc
      · rename_i hdk
        cases hc
        generalize hal : withApart pur (masksGo ops.toList []) (withSlots pur (masksGo ops.toList []) al) = al2 at hdk he
        have hlen : al2.length = ops.size := by
          rw [← hal]
          unfold withApart withSlots
          rw [List.length_mapIdx, List.length_mapIdx, mapM_opt_length h1]; simp
        have hap : ∀ (i : Nat) (o : AOper), al[i]? = some o → ∃ ap sl, al2[i]? = some { o with apart := ap, slot := sl } ∧ ((!true) = true → sl = none) := by
          intro i o ho
          rw [← hal]
          unfold withApart withSlots
          rw [List.getElem?_mapIdx, List.getElem?_mapIdx, ho]
          simp only [Option.map_some]
          split <;> split <;> exact ⟨_, _, rfl, fun h => by cases h⟩
        have key : ∀ (bs : Option Nat) (H0 : Heap) (G0 : List Nat), Ext w st.h G w H0 G0 → Sim base X N ⟨st.t, H0⟩ a w G0 → runOps P env bs al2 ⟨st.t, H0⟩ = some st' → ex = .normal → (Code.region id ops true).wp P Q a w := by
          intro bs H0 G0 hE0 hS0 h2 hex
          subst hex
          refine wp_region_draw fun tt => ?_
          have hw : Ext w H0 G0 { w with drawn := w.drawn + 1 } H0 G0 := Ext.quiet hS0.heap rfl rfl rfl (Nat.le_refl _) (fun _ _ => rfl)
          have hS' : Sim base X N ⟨st.t, H0⟩ a { w with drawn := w.drawn + 1 } G0 := ⟨hS0.heap.quiet hw (fun _ _ => rfl), hS0.tmps.ext hw, hS0.size⟩
          have hall : ∀ (mo : Region.Mode) (tt : Nat), wpOps P ops Q (Region.linearise mo ops tt) a { w with drawn := w.drawn + 1 } := by
            intro mo tt
            refine wpAny_sound ops.size tt _ a _ ?_
            refine draw_ok (mo := mo) (bs := bs) hE hpur hdk h1 hap Q ops.size _ ⟨st.t, H0⟩ st' a _ G0 (by simp) (by rw [rem_all]; simp) ?_ hS' ?_ (fun a' w' G' e1 e2 e3 => hq a' w' G' (hE0.trans (hw.trans e1)) e2 e3)
            · intro k hk
              by_cases hlt : k < ops.size
              · simp [Array.getD_eq_getD_getElem?, hlt] at hk
              · simp [Array.getD_eq_getD_getElem?, hlt] at hk
            · rw [rem_all, ← hlen, pick_all]
              exact h2
          unfold Region.schedule
          split
          · exact hall _ _
          · exact hall _ _
        unfold drawn at he
        split at he
        · simp only [exec] at he
          obtain ⟨st1, h2, h3⟩ := Option.map_eq_some_iff.1 he
          simp only [Prod.mk.injEq] at h3
          obtain ⟨rfl, rfl⟩ := h3
          exact key none st.h G (Ext.refl _ _ _) hS h2 rfl
        · simp only [exec] at he
          obtain ⟨st1, h2, h3⟩ := Option.map_eq_some_iff.1 he
          simp only [Prod.mk.injEq] at h3
          obtain ⟨rfl, rfl⟩ := h3
          obtain ⟨G0, e1, e2⟩ := frees_ok (slotsOf pur (masksGo ops.toList []) al) hS.heap
          exact key _ _ G0 e1 ⟨e2, hS.tmps.ext e1, hS.size⟩ h2 rfl
      · cases hc
  | seq x y ihx ihy =>
    intro ac st ex st' hc he a w G Q hS hq
    simp only [compile] at hc
    obtain ⟨ax, h1, hc⟩ := Option.bind_eq_some_iff.1 hc
    obtain ⟨ay, h2, rfl⟩ := Option.map_eq_some_iff.1 hc
    simp only [exec] at he
    obtain ⟨⟨e1, st1⟩, h3, h4⟩ := Option.bind_eq_some_iff.1 he
    refine wp_seq (ihx ax st e1 st1 h1 h3 a w G _ hS ?_)
    intro a1 w1 G1 hE1 hS1 hd1
    cases e1 with
    | normal =>
      simp only at h4
      refine ihy ay st1 ex st' h2 h4 a1 w1 G1 Q hS1 ?_
      intro a2 w2 G2 hE2 hS2 hd2
      exact hq a2 w2 G2 (hE1.trans hE2) hS2 (hd2.trans hd1)
    | exit id =>
      simp only [Option.some.injEq, Prod.mk.injEq] at h4
      obtain ⟨rfl, rfl⟩ := h4
      exact hq a1 w1 G1 hE1 hS1 hd1
    | ret =>
      simp only [Option.some.injEq, Prod.mk.injEq] at h4
      obtain ⟨rfl, rfl⟩ := h4
      exact hq a1 w1 G1 hE1 hS1 hd1
  | cond cnd x y ihx ihy =>
    intro ac st ex st' hc he a w G Q hS hq
    simp only [compile] at hc
    obtain ⟨ax, h1, hc⟩ := Option.bind_eq_some_iff.1 hc
    obtain ⟨ay, h2, rfl⟩ := Option.map_eq_some_iff.1 hc
    simp only [exec] at he
    split at he
    · rename_i f tt hv
      have hT := ev_ok (h := st.h) hS.tmps cnd
      rw [show (⟨st.t, st.h⟩ : St) = st from rfl, hv] at hT
      have hb : a.eval cnd = .bool tt := by
        generalize a.eval cnd = u at hT
        cases hT with
        | i hi => cases hi; rfl
      refine wp_cond hb ?_
      cases tt with
      | true => exact ihx ax st ex st' h1 he a w G Q hS hq
      | false => exact ihy ay st ex st' h2 he a w G Q hS hq
    · cases he
  | block id c ih =>
    intro ac st ex st' hc he a w G Q hS hq
    simp only [compile] at hc
    obtain ⟨ax, h1, rfl⟩ := Option.map_eq_some_iff.1 hc
    simp only [exec] at he
    obtain ⟨⟨e1, st1⟩, h3, h4⟩ := Option.map_eq_some_iff.1 he
    refine wp_block (ih ax st e1 st1 h1 h3 a w G _ hS ?_)
    intro a1 w1 G1 hE1 hS1 hd1
    cases e1 with
    | normal =>
      simp only [Prod.mk.injEq] at h4
      obtain ⟨rfl, rfl⟩ := h4
      exact hq a1 w1 G1 hE1 hS1 hd1
    | exit id' =>
      simp only at h4
      simp only [AExit.to, Exit.inBlock]
      by_cases e : id' = id
      · rw [if_pos e] at h4 ⊢
        simp only [Prod.mk.injEq] at h4
        obtain ⟨rfl, rfl⟩ := h4
        exact hq a1 w1 G1 hE1 hS1 hd1
      · rw [if_neg e] at h4 ⊢
        simp only [Prod.mk.injEq] at h4
        obtain ⟨rfl, rfl⟩ := h4
        exact hq a1 w1 G1 hE1 hS1 hd1
    | ret =>
      simp only [Prod.mk.injEq] at h4
      obtain ⟨rfl, rfl⟩ := h4
      exact hq a1 w1 G1 hE1 hS1 hd1
  | loop c ih =>
    intro ac st ex st' hc he
    simp only [compile] at hc
    obtain ⟨ax, h1, rfl⟩ := Option.map_eq_some_iff.1 hc
    simp only [exec] at he
    obtain ⟨n, hn⟩ := iterW_n he
    exact loop_ok (fun st ex st' h => ih ax st ex st' h1 h) n st ex st' hn
  | exit id =>
    intro ac st ex st' hc he a w G Q hS hq
    simp [compile] at hc; subst hc
    simp [exec] at he
    obtain ⟨rfl, rfl⟩ := he
    exact wp_exit (hq a w G (Ext.refl _ _ _) hS rfl)
  | ret =>
    intro ac st ex st' hc he a w G Q hS hq
    simp [compile] at hc; subst hc
    simp [exec] at he
    obtain ⟨rfl, rfl⟩ := he
    exact wp_ret (hq a w G (Ext.refl _ _ _) hS rfl)
  | _ => intro ac st ex st' hc; simp [compile] at hc

end
end Go.AM

set_option linter.unusedVariables false
set_option linter.unusedSimpArgs false
namespace Go.AM

inductive ARes where
  | tmp (t : Nat)
  | cell (a z : Nat) (ag : Bool)

structure AFn where
  N : Nat
  code : ACode
  res : List ARes

def compRes (P : Program) : ResultVar → Option ARes
  | .tmp t => some (.tmp t)
  | .cell a ty => (szOf P ty).bind fun z => (agOf P ty).map fun ag => .cell a (if ag then z else 1) ag

def compFn (P : Program) (pur : Nat → Bool) (md : Modes) (f : FuncId) : Option AFn :=
  (P.funcs[f]?).bind fun fn => fn.body.bind fun body => (compile P pur md fn.ntmps body).bind fun code => (fn.results.toList.mapM (compRes P)).map fun res => ⟨fn.ntmps, code, res⟩

def resV (st : St) : ARes → Option V
  | .tmp t => some (st.t t)
  | .cell a z ag => stepLoad z ag st.h (st.t a)

def retV (st : St) (res : List ARes) : Option V :=
  (res.mapM (resV st)).map fun vs => match vs with
    | [v] => v
    | vs => .tup vs

def initT (args : List V) : Nat → V := fun k => args.getD k undefV

noncomputable def runFn (P : Program) (env : Env) (F : AFn) (args : List V) (H : Heap) : Option (V × Heap) :=
  if args.length ≤ F.N then
    (exec P env F.code ⟨initT args, H⟩).bind fun p => match p.1 with
      | .exit _ => none
      | _ => (retV p.2 F.res).map fun v => (v, p.2.h)
  else none

def resSem (tmps : Array Value) (r : ResultVar) : Sem Value :=
  match r with
  | .tmp t => pure (tmps.getD t undef)
  | .cell a t => do loadVar t (← asAddr (tmps.getD a undef))

theorem results_eq (fn : Func) (tmps : Array Value) : results fn tmps = (do let vs ← fn.results.mapM (resSem tmps); pure (if h : vs.size = 1 then vs[0] else .tuple vs)) := by
  unfold results
  congr 1

section
variable {P : Program} {base : Nat} {X : Nat → Prop} {w : World} {H H' : Heap} {G : List Nat} {t : Nat → V} {N : Nat}

theorem load_run {ty : TypeId} {z : Nat} {ag : Bool} {x v : V} {u : Value} (hS : SimH base X w H G) (h : RV w base (Mof X H G) H G x u) (hz : szOf P ty = some z) (ha : agOf P ty = some ag)
    (hv : stepLoad (if ag then z else 1) ag H x = some v) : ∃ p y, u = .pointer (some p) ∧ (loadVar ty p).run P w = .ok y w ∧ RV w base (Mof X H G) H G v y := by
  unfold stepLoad at hv
  generalize hzz : (if ag then z else 1) = zz at hv
  split at hv
  · rename_i b g off
    obtain ⟨cs, hcs, hv⟩ := Option.bind_eq_some_iff.1 hv
    split at hv
    · rename_i hle
      cases h with
      | ptr hr hn hval =>
        replace hcs := getCells_not hcs hn
        obtain rfl := hval cs hcs
        obtain ⟨arr, ty', g1, e1, e2, e3, e4, e5, e6⟩ := hS.at hcs
        have hreads := Reads.of_block (off := off) (n := zz) e1 (by omega)
        have hsub : (arr.toList.drop off).take zz = ((arr.toList.take cs.length).drop off).take zz := by
          rw [List.drop_take, List.take_take, Nat.min_eq_left (by omega)]
        have hl : RVL w base (Mof X H G) H G ((cs.drop off).take zz) ((arr.toList.drop off).take zz) := by
          rw [hsub]; exact (e4.drop off).take zz
        have hlen : ((arr.toList.drop off).take zz).length = zz := by simp; omega
        exact ⟨_, _, rfl, run_loadVar hz ha w _ _ (by rw [hlen, hzz]) hreads, rowV_ok (z := z) hl (by simp; omega) hv⟩
    · cases hv
  · rename_i f cs
    split at hv
    · rename_i hle
      cases h with
      | i hi =>
        cases hi with
        | ip hm hb hr hl =>
          rename_i p xs
          have hlen : (xs.take zz).length = zz := by simp [hl.length]; omega
          have hreads : Reads w p (xs.take zz) := by
            intro j hj
            have := hr j (by simp at hj; omega)
            rw [this]; simp
          have hl2 : RVL w base (Mof X H G) H G ((cs.take zz).map .i) (xs.take zz) := RL.toV (hl.take zz)
          exact ⟨_, _, rfl, run_loadVar hz ha w _ _ (by rw [hlen, hzz]) hreads, rowV_ok (z := z) hl2 (by simp; omega) hv⟩
    · cases hv
  · cases hv

theorem res_run (hS : SimH base X w H G) {tmps : Array Value} (hT : TV w base (Mof X H G) H G t tmps) : ∀ (rs : List ResultVar) (as : List ARes) (vs : List V), rs.mapM (compRes P) = some as → as.mapM (resV ⟨t, H⟩) = some vs →
    ∃ xs : List Value, (rs.mapM (resSem tmps)).run P w = .ok xs w ∧ RVL w base (Mof X H G) H G vs xs
  | [], as, vs, h1, h2 => by
    simp at h1; subst h1
    simp at h2; subst h2
    exact ⟨[], by simp, .nil⟩
  | r :: rs, as, vs, h1, h2 => by
    simp only [List.mapM_cons, Option.bind_eq_bind] at h1
    obtain ⟨a, ha, h1⟩ := Option.bind_eq_some_iff.1 h1
    obtain ⟨as', h3, h4⟩ := Option.bind_eq_some_iff.1 h1
    simp at h4
    subst h4
    simp only [List.mapM_cons, Option.bind_eq_bind] at h2
    obtain ⟨v, hv, h2⟩ := Option.bind_eq_some_iff.1 h2
    obtain ⟨vs', h5, h6⟩ := Option.bind_eq_some_iff.1 h2
    simp at h6
    subst h6
    obtain ⟨xs, e1, e2⟩ := res_run hS hT rs as' vs' h3 h5
    cases r with
    | tmp k =>
      simp only [compRes, Option.some.injEq] at ha
      subst ha
      simp only [resV, Option.some.injEq] at hv
      subst hv
      refine ⟨tmps.getD k undef :: xs, ?_, .cons (hT k) e2⟩
      have hr : (resSem tmps (.tmp k)).run P w = .ok (tmps.getD k undef) w := rfl
      simp only [List.mapM_cons, Sem.run_bind, hr, Result.andThen_ok, e1, Sem.run_pure]
    | cell k ty =>
      simp only [compRes] at ha
      obtain ⟨z, hz, ha⟩ := Option.bind_eq_some_iff.1 ha
      obtain ⟨ag, hag, rfl⟩ := Option.map_eq_some_iff.1 ha
      simp only [resV] at hv
      obtain ⟨p, y, f1, f2, f3⟩ := load_run hS (hT k) hz hag hv
      refine ⟨y :: xs, ?_, .cons f3 e2⟩
      have hr : (resSem tmps (.cell k ty)).run P w = .ok y w := by
        simp only [resSem, show tmps.getD k undef = .pointer (some p) from f1, asAddr, Sem.run_bind, Sem.run_pure, Result.andThen_ok, f2]
      simp only [List.mapM_cons, Sem.run_bind, hr, Result.andThen_ok, e1, Sem.run_pure]

theorem fn_ok {env : Env} {pur : Nat → Bool} {md : Modes} {f : FuncId} {F : AFn} {args : List V} {v : V} (hE : EnvOK P env) (hpur : ∀ f, pur f = true → PurEnv env f) (hc : compFn P pur md f = some F) (hr : runFn P env F args H = some (v, H')) : FnOK P f args H v H' := by
  unfold compFn at hc
  obtain ⟨fn, hfn, hc⟩ := Option.bind_eq_some_iff.1 hc
  obtain ⟨body, hb, hc⟩ := Option.bind_eq_some_iff.1 hc
  obtain ⟨code, hcode, hc⟩ := Option.bind_eq_some_iff.1 hc
  obtain ⟨res, hres, rfl⟩ := Option.map_eq_some_iff.1 hc
  unfold runFn at hr
  split at hr
  · rename_i hle
    simp only at hle
    obtain ⟨⟨ex, st'⟩, h1, h2⟩ := Option.bind_eq_some_iff.1 hr
    intro base X w G xs hS hl
    have hlen := hl.length
    simp at hlen
    refine calls_of_wp hfn hb (exec_ok hE hpur body code ⟨initT args, H⟩ ex st' hcode h1 _ w G _ ⟨hS, ?_, ?_⟩ ?_)
    · intro k
      simp only [initT, Array.getD_eq_getD_getElem?, Array.getElem?_append]
      rcases Nat.lt_or_ge k args.length with hk | hk
      · obtain ⟨x, e1, e2⟩ := hl.get k args[k] (List.getElem?_eq_getElem hk)
        rw [if_pos (by omega)]
        simp only [List.getD_eq_getElem?_getD, List.getElem?_eq_getElem hk, Option.getD_some]
        have : xs[k]? = some x := by simpa using e1
        rw [this]
        exact e2
      · rw [if_neg (by omega)]
        simp only [List.getD_eq_getElem?_getD, List.getElem?_eq_none hk, Option.getD_none]
        rw [Array.getElem?_replicate]
        split
        · exact RV.undef
        · exact RV.undef
    · simp; omega
    · intro a' w' G' hE' hS' hd
      have key : ∀ {st : St}, st = st' → (retV st res).map (fun v => (v, st.h)) = some (v, H') → a'.defers = [] ∧ ∃ u, (results fn a'.tmps).run P w' = .ok u w' ∧
          ∃ x G'', Ending.returned u = .returned x ∧ Ext w H G w' H' G'' ∧ SimH base X w' H' G'' ∧ RV w' base (Mof X H' G'') H' G'' v x := by
        rintro st rfl h3
        obtain ⟨u, h4, h5⟩ := Option.map_eq_some_iff.1 h3
        simp only [Prod.mk.injEq] at h5
        obtain ⟨rfl, rfl⟩ := h5
        unfold retV at h4
        obtain ⟨vs, h6, h7⟩ := Option.map_eq_some_iff.1 h4
        obtain ⟨us, e1, e2⟩ := res_run (P := P) hS'.heap hS'.tmps fn.results.toList res vs hres h6
        refine ⟨hd, (if h : us.toArray.size = 1 then us.toArray[0] else .tuple us.toArray), ?_, _, G', rfl, hE', hS'.heap, ?_⟩
        · rw [results_eq]
          simp only [Sem.run_bind]
          rw [Array.mapM_eq_mapM_toList]
          simp only [Sem.run_map]
          rw [e1]
          rfl
        · split at h7
          · subst h7
            cases e2 with
            | cons a1 a2 =>
              cases a2
              exact a1
          · rename_i hne
            subst h7
            have hl2 := e2.length
            rw [dif_neg]
            · exact .tup (by simpa using e2)
            · intro hone
              simp only [List.size_toArray] at hone
              rw [hl2] at hone
              obtain ⟨y, hy⟩ := List.length_eq_one_iff.1 hone
              exact hne y hy
      cases ex with
      | normal => exact key rfl h2
      | ret => exact key rfl h2
      | exit id => cases h2
  · cases hr

end
end Go.AM

set_option linter.unusedVariables false
set_option linter.unusedSimpArgs false
namespace Go.AM

def isS : I → Bool
  | .s _ => true
  | _ => false

/-- No memory in it. -/
def flat : I → Bool
  | .s _ => true
  | .agg cs => cs.all isS
  | .tup cs => cs.all isS
  | .sl _ [] => true
  | _ => false

def chunks (z : Nat) : Nat → List I → List I
  | 0, _ => []
  | n + 1, l => .agg (l.take z) :: chunks z n (l.drop z)

/-- A picture as a value of a running function. -/
def ofI1 : I → V
  | .agg cs => .agg (cs.map .i)
  | x => .i x
def ofI : I → V
  | .agg cs => .agg (cs.map .i)
  | .tup cs => .tup (cs.map ofI1)
  | x => .i x

def mkRows (z : Nat) (ag : Bool) (len : Nat) (xs : List I) : Option I :=
  if ag then some (.sl z (chunks z len xs)) else if z = 1 then some (.sl 1 xs) else none

/-- What a value shows, all the way down; f: nothing of it may be older than the call. -/
def snap : Nat → Bool → Heap → V → Option I
  | 0, _, _, _ => none
  | n + 1, f, h, v => match v with
    | .i x => if f = false ∨ flat x = true then some x else none
    | .agg cs => (cs.mapM (snap n f h)).map .agg
    | .tup cs => (cs.mapM (snap n f h)).map .tup
    | .hsl b g off z ag len => if len = 0 then some (.sl z []) else (getCells h b g).bind fun cs => (((cs.drop off).take (len * z)).mapM (snap n f h)).bind (mkRows z ag len)
    | .ptr b g off => (getCells h b g).bind fun cs => if off < cs.length then ((cs.drop off).mapM (snap n f h)).map .ip else none
    | .mp b => match h[b]? with
      | some (.map ks vs) => (vs.mapM (snap n f h)).map (.im ks)
      | _ => none
    | _ => none

section
variable {P : Program} {base : Nat} {X : Nat → Prop} {w : World} {H H' : Heap} {G : List Nat}

theorem RL.weaken {M M' : Nat → Prop} (h : ∀ k, M' k → M k) {xs : List I} {vs : List Value} (hl : RL w M xs vs) : RL w M' xs vs := hl.goes (Goes.weaken h)
theorem RI.weaken {M M' : Nat → Prop} (h : ∀ k, M' k → M k) {x : I} {v : Value} (hl : RI w M x v) : RI w M' x v := hl.goes (Goes.weaken h)

theorem RL.scalars {M M' : Nat → Prop} : ∀ {xs : List I} {vs : List Value}, xs.all isS = true → RL w M xs vs → RL w M' xs vs
  | _, _, _, .nil => .nil
  | _, _, hs, .cons a b => by
    simp only [List.all_cons, Bool.and_eq_true] at hs
    have hb := RL.scalars (M' := M') hs.2 b
    have h1 := hs.1
    cases a with
    | s hp => exact .cons (.s hp) hb
    | _ => simp [isS] at h1

theorem RI.flat {M M' : Nat → Prop} {x : I} {v : Value} (hf : flat x = true) (h : RI w M x v) : RI w M' x v := by
  cases h with
  | s hp => exact .s hp
  | agg hl => exact .agg (hl.scalars hf)
  | tup hl => exact .tup (hl.scalars hf)
  | sl0 => exact .sl0
  | sl hne hc hm hb hr hl =>
    rename_i z xs a cap cs
    match xs, hne, hf with
    | [], hne, _ => exact absurd rfl hne
    | _ :: _, _, hf => simp [AM.flat] at hf
  | ip => simp [AM.flat] at hf
  | im => simp [AM.flat] at hf

theorem snap_list {M' : Nat → Prop} {n : Nat} {f : Bool} (ih : ∀ (v : V) (x : Value) (r : I), RV w base (Mof X H G) H G v x → snap n f H' v = some r → RI w M' r x) :
    ∀ {cs : List V} {xs : List Value} {rs : List I}, RVL w base (Mof X H G) H G cs xs → cs.mapM (snap n f H') = some rs → RL w M' rs xs
  | _, _, _, .nil, h => by simp at h; subst h; exact .nil
  | _, _, _, .cons (x := x) a b, h => by
    simp only [List.mapM_cons, Option.bind_eq_bind] at h
    obtain ⟨u, hu, h⟩ := Option.bind_eq_some_iff.1 h
    obtain ⟨l', h1, h2⟩ := Option.bind_eq_some_iff.1 h
    simp at h2
    subst h2
    exact .cons (ih _ _ _ a hu) (snap_list ih b h1)

theorem RR.chunks {M : Nat → Prop} (z : Nat) : ∀ (n : Nat) (xs : List I) (vs : List Value), xs.length = n * z → RL w M xs vs → RR w M z (chunks z n xs) vs
  | 0, xs, vs, hl, h => by
    have : xs = [] := List.eq_nil_of_length_eq_zero (by simpa using hl)
    subst this
    cases h
    exact .nil
  | n + 1, xs, vs, hl, h => by
    rw [Nat.add_mul, Nat.one_mul] at hl
    have hv := h.length
    have hc := RR.chunks z n (xs.drop z) (vs.drop z) (by simp; omega) (h.drop z)
    have := RR.cons (x := .agg (xs.take z)) (h.take z) (by simp; omega) hc
    rwa [List.take_append_drop] at this

theorem chunks_length (z : Nat) : ∀ (n : Nat) (xs : List I), (AM.chunks z n xs).length = n
  | 0, _ => rfl
  | n + 1, xs => by simp [AM.chunks, chunks_length z n]

theorem RR.ones {M : Nat → Prop} : ∀ (xs : List I) (vs : List Value), (∀ x, x ∈ xs → x.cells = [x]) → RL w M xs vs → RR w M 1 xs vs
  | [], _, _, .nil => .nil
  | x :: xs, v :: vs, h, .cons a b => by
    have := RR.cons (z := 1) (x := x) (cs := [v]) (by rw [h x (by simp)]; exact .cons a .nil) rfl (RR.ones xs vs (fun y hy => h y (by simp [hy])) b)
    simpa using this

theorem mapM_mem {α β : Type} {f : α → Option β} : ∀ {l : List α} {r : List β}, l.mapM f = some r → ∀ y, y ∈ r → ∃ x, x ∈ l ∧ f x = some y
  | [], r, h, y, hy => by simp at h; subst h; simp at hy
  | x :: l, r, h, y, hy => by
    simp only [List.mapM_cons, Option.bind_eq_bind] at h
    obtain ⟨u, hu, h⟩ := Option.bind_eq_some_iff.1 h
    obtain ⟨us, h1, h2⟩ := Option.bind_eq_some_iff.1 h
    simp at h2
    subst h2
    rcases List.mem_cons.1 hy with rfl | hy
    · exact ⟨x, by simp, hu⟩
    · obtain ⟨z, hz, hz2⟩ := mapM_mem h1 y hy
      exact ⟨z, by simp [hz], hz2⟩

theorem snap_one {n : Nat} {f : Bool} {y : V} {r : I} (hy : y.one = true) (h : snap n f H y = some r) : r.cells = [r] := by
  cases n with
  | zero => simp [snap] at h
  | succ n =>
    cases y with
    | i x =>
      simp only [snap] at h
      split at h
      · cases h
        cases r <;> simp_all [V.one, I.cells]
      · cases h
    | agg cs => simp [V.one] at hy
    | tup cs => simp [V.one] at hy
    | bad => simp [V.one] at hy
    | kv x => simp [V.one] at hy
    | ptr b g off =>
      simp only [snap] at h
      obtain ⟨cs, _, h⟩ := Option.bind_eq_some_iff.1 h
      split at h
      · obtain ⟨xs, _, rfl⟩ := Option.map_eq_some_iff.1 h; rfl
      · cases h
    | hsl b g off z ag len =>
      simp only [snap] at h
      split at h
      · cases h; rfl
      obtain ⟨cs, _, h⟩ := Option.bind_eq_some_iff.1 h
      obtain ⟨xs, _, h⟩ := Option.bind_eq_some_iff.1 h
      unfold mkRows at h
      split at h
      · cases h; rfl
      · split at h
        · cases h; rfl
        · cases h
    | mp b =>
      simp only [snap] at h
      split at h
      · obtain ⟨xs, _, rfl⟩ := Option.map_eq_some_iff.1 h; rfl
      · cases h
    | it b => simp [snap] at h
    | clo g cs => simp [snap] at h
    | ifc g x => simp [snap] at h

theorem snap_ok (hS : SimH base X w H G) (f : Bool) : ∀ (n : Nat) (v : V) (x : Value) (r : I), RV w base (Mof X H G) H G v x → snap n f H v = some r → RI w (fun k => (f = true ∧ k < base) ∨ (f = false ∧ X k)) r x
  | 0, v, x, r, _, h => by simp [snap] at h
  | n + 1, v, x, r, hv, h => by
    have ih := snap_ok hS f n
    -- what lies in a block of the function's own
    have hblock : ∀ {b g : Nat} {cs : List V}, cellsAt H b g = some cs → ¬ ((f = true ∧ G.getD b 0 < base) ∨ (f = false ∧ X (G.getD b 0))) ∧ G.getD b 0 < w.heap.size := by
      intro b g cs hcs
      obtain ⟨h1, _⟩ := cellsAt_some hcs
      obtain ⟨k, g1, g2, g3, g4, _⟩ := hS.block b _ h1 rfl
      rw [getD_of g1]
      refine ⟨?_, g3⟩
      rintro (⟨_, h⟩ | ⟨_, h⟩)
      · omega
      · exact g4 h
    cases hv with
    | i hi =>
      simp only [snap] at h
      split at h
      · rename_i hc
        cases h
        rcases hc with hc | hc
        · refine hi.weaken ?_
          rintro k (⟨h1, h2⟩ | ⟨h1, h2⟩)
          · rw [h1] at hc; cases hc
          · exact .inl h2
        · exact hi.flat hc
      · cases h
    | agg hl =>
      simp only [snap] at h
      obtain ⟨rs, h1, rfl⟩ := Option.map_eq_some_iff.1 h
      exact .agg (snap_list ih hl h1)
    | tup hl =>
      simp only [snap] at h
      obtain ⟨rs, h1, rfl⟩ := Option.map_eq_some_iff.1 h
      exact .tup (snap_list ih hl h1)
    | hnil hr hcn =>
      simp only [snap, if_true] at h
      cases h
      exact .sl0
    | hsl hr hnv hzp hle hval =>
      rename_i b g off z ag len cap a
      simp only [snap] at h
      split at h
      · rename_i h0
        cases h
        subst h0
        exact .sl0
      obtain ⟨cs, hcs, h⟩ := Option.bind_eq_some_iff.1 h
      obtain ⟨xs, hxs, h⟩ := Option.bind_eq_some_iff.1 h
      replace hcs := getCells_not hcs hnv
      obtain ⟨d1, d2, N, d3, d4⟩ := hval cs hcs
      obtain ⟨arr, ty', g1, e1, e2, e3, e4, e5, e6⟩ := hS.at hcs
      obtain ⟨b1, b2⟩ := hblock hcs
      have hl := (e4.drop off).take (len * z)
      have hRL := snap_list ih hl hxs
      have hxl : xs.length = len * z := by
        rw [mapM_opt_length hxs]; simp; omega
      have hreads := Reads.of_block (off := off) (n := len * z) e1 (by omega)
      have hsub : ((arr.toList.take cs.length).drop off).take (len * z) = (arr.toList.drop off).take (len * z) := by
        rw [List.drop_take, List.take_take, Nat.min_eq_left (by omega)]
      rw [hsub] at hRL
      unfold mkRows at h
      by_cases h0 : len = 0
      · subst h0
        split at h
        · cases h; exact .sl0
        · split at h
          · cases h
            have : xs = [] := List.eq_nil_of_length_eq_zero (by simpa using hxl)
            subst this
            exact .sl0
          · cases h
      · have ha := d1 (.inl (by omega))
        subst ha
        split at h
        · cases h
          have := RI.sl (w := w) (M := fun k => (f = true ∧ k < base) ∨ (f = false ∧ X k)) (z := z) (xs := AM.chunks z len xs) (a := ⟨G.getD b 0, off, none⟩) (cap := cap) (cs := (arr.toList.drop off).take (len * z))
            (by intro e; have := chunks_length z len xs; rw [e] at this; simp at this; omega) (by rw [chunks_length]; exact hle) b1 b2 hreads (RR.chunks z len xs _ hxl hRL)
          rwa [chunks_length] at this
        · split at h
          · rename_i hz1
            cases h
            subst hz1
            have hones : ∀ y, y ∈ xs → y.cells = [y] := by
              intro y hy
              obtain ⟨u, hu, hu2⟩ := mapM_mem hxs y hy
              exact snap_one (e5 u (List.mem_of_mem_drop (List.mem_of_mem_take hu))) hu2
            have hlen1 : xs.length = len := by omega
            have := RI.sl (w := w) (M := fun k => (f = true ∧ k < base) ∨ (f = false ∧ X k)) (z := 1) (xs := xs) (a := ⟨G.getD b 0, off, none⟩) (cap := cap) (cs := (arr.toList.drop off).take (len * 1))
              (by intro e; rw [e] at hlen1; simp at hlen1; omega) (by omega) b1 b2 hreads (RR.ones xs _ hones hRL)
            rwa [hlen1] at this
          · cases h
    | ptr hr hnv hval =>
      rename_i b g off a
      simp only [snap] at h
      obtain ⟨cs, hcs, h⟩ := Option.bind_eq_some_iff.1 h
      replace hcs := getCells_not hcs hnv
      split at h
      · rename_i hlt
        obtain ⟨xs, hxs, rfl⟩ := Option.map_eq_some_iff.1 h
        have ha := hval cs hcs
        subst ha
        obtain ⟨arr, ty', g1, e1, e2, e3, e4, e5, e6⟩ := hS.at hcs
        obtain ⟨b1, b2⟩ := hblock hcs
        have hRL := snap_list ih (e4.drop off) hxs
        have hreads := Reads.of_block (off := off) (n := cs.length - off) e1 (by omega)
        rw [List.drop_take] at hRL
        exact .ip b1 b2 hreads hRL
      · cases h
    | mp hu hval =>
      rename_i b r'
      simp only [snap] at h
      split at h
      · rename_i ks vs hb
        obtain ⟨xs, hxs, rfl⟩ := Option.map_eq_some_iff.1 h
        obtain ⟨k, g1, g2, g3, g4, es, clock, m1, m2, m3, m4, m5⟩ := hS.block b _ hb rfl
        have := hval ks vs hb
        rw [getD_of g1] at this
        subst this
        refine .im ?_ m1 (m2.weaken (fun _ _ => trivial)) (snap_list ih m3 hxs)
        rintro (⟨_, h⟩ | ⟨_, h⟩)
        · omega
        · exact g4 h
      · cases h
    | _ => simp [snap] at h

/-- The same of what refers to nothing of the function's own. -/
theorem toI_ok : ∀ (n : Nat) (v : V) (x : Value) (r : I), RV w base (Mof X H G) H G v x → snap n false [] v = some r → RI w (Mof X H G) r x
  | 0, v, x, r, _, h => by simp [snap] at h
  | n + 1, v, x, r, hv, h => by
    have ih := toI_ok n
    cases hv with
    | i hi =>
      simp only [snap, true_or, if_true] at h
      cases h
      exact hi
    | agg hl =>
      simp only [snap] at h
      obtain ⟨rs, h1, rfl⟩ := Option.map_eq_some_iff.1 h
      exact .agg (snap_list ih hl h1)
    | tup hl =>
      simp only [snap] at h
      obtain ⟨rs, h1, rfl⟩ := Option.map_eq_some_iff.1 h
      exact .tup (snap_list ih hl h1)
    | hnil =>
      simp only [snap, if_true] at h
      cases h
      exact .sl0
    | hsl =>
      simp only [snap] at h
      split at h
      · rename_i h0
        cases h
        subst h0
        exact .sl0
      · simp [getCells] at h
    | ptr => simp [snap, getCells] at h
    | mp => simp [snap] at h
    | _ => simp [snap] at h

open Go.RowKit (Below)

/-- The contract of a function that changes nothing that was there. fresh: what it hands back is all new. -/
def PureOK (P : Program) (f : FuncId) (fresh : Bool) (F : List I → Option I) : Prop :=
  callable P f = true ∧ ∀ args r, F args = some r → ∀ (Y : Nat → Prop) (w : World) (xs : Array Value), (fresh = true → ∀ k, ¬ Y k) → RL w Y args xs.toList →
    Calls P f xs w fun e w' => ∃ x, e = .returned x ∧ Below w.heap.size w w' ∧ RI w' (fun k => k < w.heap.size ∧ (fresh = true ∨ Y k)) r x

theorem RI.ofI1 {M : Nat → Prop} {x : I} {v : Value} (h : RI w M x v) : RV w base M H G (ofI1 x) v := by
  cases h with
  | agg hl => exact .agg (RL.toV hl)
  | s a => exact .i (.s a)
  | tup a => exact .i (.tup a)
  | sl0 => exact .i .sl0
  | sl a b c d e f => exact .i (.sl a b c d e f)
  | ip a b c d => exact .i (.ip a b c d)
  | im a b c d => exact .i (.im a b c d)
theorem RL.ofI1 {M : Nat → Prop} : ∀ {xs : List I} {vs : List Value}, RL w M xs vs → RVL w base M H G (xs.map AM.ofI1) vs
  | _, _, .nil => .nil
  | _, _, .cons a b => .cons a.ofI1 (RL.ofI1 b)
theorem RI.ofI {M : Nat → Prop} {x : I} {v : Value} (h : RI w M x v) : RV w base M H G (ofI x) v := by
  cases h with
  | agg hl => exact .agg (RL.toV hl)
  | tup hl => exact .tup (RL.ofI1 hl)
  | s a => exact .i (.s a)
  | sl0 => exact .i .sl0
  | sl a b c d e f => exact .i (.sl a b c d e f)
  | ip a b c d => exact .i (.ip a b c d)
  | im a b c d => exact .i (.im a b c d)
theorem RL.ofI {M : Nat → Prop} : ∀ {xs : List I} {vs : List Value}, RL w M xs vs → RVL w base M H G (xs.map AM.ofI) vs
  | _, _, .nil => .nil
  | _, _, .cons a b => .cons a.ofI (RL.ofI b)

theorem pure_of_fn {env : Env} {pur : Nat → Bool} {md : Modes} {f : FuncId} {fresh : Bool} {A : AFn} {F : List I → Option I} (hE : EnvOK P env) (hpur : ∀ f, pur f = true → PurEnv env f) (hcall : callable P f = true) (hc : compFn P pur md f = some A)
    (h : ∀ args r, F args = some r → ∃ v H', runFn P env A (args.map ofI) [] = some (v, H') ∧ snap 9 fresh H' v = some r) : PureOK P f fresh F := by
  refine ⟨hcall, ?_⟩
  intro args r hF Y w xs hY hl
  obtain ⟨v, H', h1, h2⟩ := h args r hF
  have hS : SimH w.heap.size (fun k => Y k ∧ k < w.heap.size) w [] [] :=
    ⟨rfl, Nat.le_refl _, fun k hk => hk.2, fun b s hb => by simp at hb, fun b b' s s' k hb => by simp at hb⟩
  have hM : ∀ k, Mof (fun k => Y k ∧ k < w.heap.size) [] [] k → Y k := by
    rintro k (hk | ⟨b, s, hb, _⟩)
    · exact hk.1
    · simp at hb
  have hl2 : RVL w w.heap.size (Mof (fun k => Y k ∧ k < w.heap.size) [] []) [] [] (args.map ofI) xs.toList := by
    exact RL.ofI (hl.weaken hM)
  refine (fn_ok hE hpur hc h1 w.heap.size _ w [] xs hS hl2).mono ?_
  rintro e w' ⟨x, G', rfl, hE', hS', hv⟩
  refine ⟨x, rfl, ⟨hE'.os, hE'.tape, hE'.output, hE'.size, fun k hk => hE'.keep k hk ?_⟩, ?_⟩
  · rintro ⟨b, s, hb, _⟩
    simp at hb
  · have := snap_ok hS' fresh 9 v x r hv h2
    refine this.weaken ?_
    rintro k ⟨hk, hk2⟩
    cases fresh with
    | true => exact .inl ⟨rfl, hk⟩
    | false =>
      right
      rcases hk2 with hk2 | hk2
      · cases hk2
      · exact ⟨rfl, hk2, hk⟩

theorem mapM_imp {α β : Type} {f g : α → Option β} (hfg : ∀ x y, f x = some y → g x = some y) : ∀ {l : List α} {r : List β}, l.mapM f = some r → l.mapM g = some r
  | [], r, h => by simpa using h
  | x :: l, r, h => by
    simp only [List.mapM_cons, Option.bind_eq_bind] at h ⊢
    obtain ⟨u, hu, h⟩ := Option.bind_eq_some_iff.1 h
    obtain ⟨us, h1, h2⟩ := Option.bind_eq_some_iff.1 h
    rw [hfg x u hu, mapM_imp hfg h1]
    exact h2

theorem snap_up {f : Bool} {H2 : Heap} (u : Up H H2) : ∀ (n : Nat) (v : V) (r : I), snap n f H v = some r → snap n f H2 v = some r
  | 0, v, r, h => by simp [snap] at h
  | n + 1, v, r, h => by
    have ih := snap_up (f := f) u n
    cases v with
    | i x => exact h
    | agg cs =>
      simp only [snap] at h ⊢
      obtain ⟨rs, h1, rfl⟩ := Option.map_eq_some_iff.1 h
      rw [mapM_imp ih h1]; rfl
    | tup cs =>
      simp only [snap] at h ⊢
      obtain ⟨rs, h1, rfl⟩ := Option.map_eq_some_iff.1 h
      rw [mapM_imp ih h1]; rfl
    | hsl b g off z ag len =>
      simp only [snap] at h ⊢
      split at h
      · rename_i h0; rw [if_pos h0]; exact h
      rename_i h0
      rw [if_neg h0]
      obtain ⟨cs, h1, h⟩ := Option.bind_eq_some_iff.1 h
      obtain ⟨rs, h2, h⟩ := Option.bind_eq_some_iff.1 h
      rw [getCells_up u h1, Option.bind_some, mapM_imp ih h2]
      exact h
    | ptr b g off =>
      simp only [snap] at h ⊢
      obtain ⟨cs, h1, h⟩ := Option.bind_eq_some_iff.1 h
      rw [getCells_up u h1, Option.bind_some]
      split at h
      · rename_i hc
        obtain ⟨rs, h2, rfl⟩ := Option.map_eq_some_iff.1 h
        rw [if_pos hc, mapM_imp ih h2]
        rfl
      · cases h
    | mp b =>
      simp only [snap] at h ⊢
      split at h
      · rename_i ks vs hb
        obtain ⟨rs, h2, rfl⟩ := Option.map_eq_some_iff.1 h
        rw [u _ _ hb (by intro e; cases e)]
        simp only [mapM_imp ih h2]
        rfl
      · cases h
    | _ => simp [snap] at h

abbrev Fun := Option Nat → List V → Heap → Option (V × Heap)

def FunOK (P : Program) (f : FuncId) (g : Fun) : Prop := ∀ slot args H v H', g slot args H = some (v, H') → DoOK P f args H v H'

def pureFn (fresh : Bool) (F : List I → Option I) : Fun := fun _ args H =>
  ((args.mapM (snap 9 false (if fresh then H else []))).bind F).map fun r => (ofI r, H)

theorem pureFn_ok {f : FuncId} {fresh : Bool} {F : List I → Option I} (h : PureOK P f fresh F) : FunOK P f (pureFn fresh F) := by
  intro slot args H v H' hg
  refine .inl ⟨h.1, ?_⟩
  unfold pureFn at hg
  obtain ⟨r, h1, h2⟩ := Option.map_eq_some_iff.1 hg
  obtain ⟨as, h3, h4⟩ := Option.bind_eq_some_iff.1 h1
  simp only [Prod.mk.injEq] at h2
  obtain ⟨rfl, rfl⟩ := h2
  intro base X w G xs hS hl
  have hY : ∃ Y : Nat → Prop, (fresh = true → ∀ k, ¬ Y k) ∧ RL w Y as xs.toList ∧ (fresh = false → ∀ k, Mof X H G k → Y k) := by
    cases fresh with
    | true =>
      refine ⟨fun _ => False, fun _ _ h => h, ?_, by simp⟩
      simp only [if_true] at h3
      exact snap_list (fun v x r hv hr => (snap_ok hS false 9 v x r hv hr).weaken (fun _ h => h.elim)) hl h3
    | false =>
      refine ⟨Mof X H G, by simp, ?_, fun _ _ h => h⟩
      simp only [Bool.false_eq_true, if_false] at h3
      exact snap_list (fun v x r hv hr => toI_ok 9 v x r hv hr) hl h3
  obtain ⟨Y, y1, y2, y3⟩ := hY
  refine (h.2 as r h4 Y w xs y1 y2).mono ?_
  rintro e w' ⟨x, rfl, hB, hr⟩
  have hE : Ext w H G w' H G := Ext.quiet hS hB.os hB.tape hB.output hB.size (fun k hk => hB.block k hk)
  refine ⟨x, G, rfl, hE, hS.quiet hE (fun k hk => hB.block k hk), (hr.weaken ?_).ofI⟩
  have hlt : ∀ k, Mof X H G k → k < w.heap.size := by
    rintro k (hk | ⟨b, s, hb, hl, hg⟩)
    · exact hS.xlt k hk
    · obtain ⟨k', g1, _, g3, _⟩ := hS.block b s hb hl
      rw [hg] at g1
      cases g1
      exact g3
  intro k hk
  refine ⟨hlt k hk, ?_⟩
  cases fresh with
  | true => exact .inl rfl
  | false => exact .inr (y3 rfl k hk)

theorem pureFn_pur {env : Env} {f : Nat} {fresh : Bool} {F : List I → Option I} (h : ∀ slot args H, env f slot args H = pureFn fresh F slot args H) :
    ∀ slot args h v h', env f slot args h = some (v, h') → h' = h ∧ ∀ h2, Up h h2 → env f slot args h2 = some (v, h2) := by
  intro slot args H v H' he
  rw [h] at he
  unfold pureFn at he
  obtain ⟨r, h1, h2⟩ := Option.map_eq_some_iff.1 he
  obtain ⟨as, h3, h4⟩ := Option.bind_eq_some_iff.1 h1
  cases h2
  refine ⟨rfl, fun H2 u => ?_⟩
  rw [h]
  unfold pureFn
  have : args.mapM (snap 9 false (if fresh then H2 else [])) = some as := by
    cases fresh with
    | true => simp only [if_true] at h3 ⊢; exact mapM_imp (snap_up u 9) h3
    | false => exact h3
  rw [this, Option.bind_some, h4]
  rfl

end
end Go.AM
