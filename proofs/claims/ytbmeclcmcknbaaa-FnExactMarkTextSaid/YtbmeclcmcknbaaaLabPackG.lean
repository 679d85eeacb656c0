/- Several texts of the abstract machine in one. No condition. -/
import Derived.Test.YtbmeclcmcknbaaaLabPackD
import Derived.Test.YtbmeclcmcknbaaaLabPackC
import Derived.Test.YtbmeclcmcknbaaaLabPackE
import Derived.Test.YtbmeclcmcknbaaaLabPackF
set_option linter.unusedVariables false
set_option linter.unusedSimpArgs false
set_option linter.unusedSectionVars false
namespace Go.AM
section
variable {α : Type} [DecidableEq α] {key : α → TStamp}
abbrev RisingK {α : Type} (key : α → TStamp) (l : List α) : Prop := l.Pairwise fun x y => ltK key x y = true
def ConfK (key : α → TStamp) (x y : α) : Prop := (key x) = (key y) ∧ x ≠ y

theorem ltK_trans {x y z : α} (h1 : ltK key x y = true) (h2 : ltK key y z = true) : ltK key x z = true := (ltK_swo key).trans x y z h1 h2
theorem ltK_irrefl {x : α} : ltK key x x = false := (ltK_swo key).irrefl x
theorem ltK_id {x y : α} (h : (key x) = (key y)) : ltK key x y = false := by unfold ltK ltS; rw [h, decide_eq_false_iff_not]; omega
theorem ltK_tri {x y : α} (h : (key x) ≠ (key y)) (h2 : ltK key x y = false) : ltK key y x = true := by
  unfold ltK ltS at *
  rw [decide_eq_false_iff_not] at h2
  rw [decide_eq_true_eq]
  have : ¬ ((key x).time = (key y).time ∧ (key x).actor = (key y).actor) := by
    rintro ⟨h3, h4⟩
    apply h
    cases hx : (key x) with
    | mk a b =>
      cases hy : (key y) with
      | mk c d =>
        rw [hx, hy] at h3 h4
        simp only at h3 h4
        rw [h3, h4]
  omega
theorem ltK_asym {x y : α} (h : ltK key x y = true) : ltK key y x = false := by
  cases e : ltK key y x with
  | false => rfl
  | true => have := ltK_trans h e; rw [ltK_irrefl] at this; cases this
theorem ltK_le {x y z : α} (h1 : ltK key x y = true) (h2 : ltK key z y = false) : ltK key x z = true := by
  unfold ltK ltS at *
  rw [decide_eq_true_eq] at *
  rw [decide_eq_false_iff_not] at h2
  omega

theorem risingK_eq : ∀ {l m : List α}, RisingK key l → RisingK key m → (∀ x, x ∈ l ↔ x ∈ m) → l = m
  | [], [], _, _, _ => rfl
  | [], y :: m, _, _, h => absurd ((h y).2 (by simp)) (by simp)
  | x :: l, [], _, _, h => absurd ((h x).1 (by simp)) (by simp)
  | x :: l, y :: m, hl, hm, h => by
    rw [RisingK, List.pairwise_cons] at hl hm
    have hxy : x = y := by
      rcases List.mem_cons.1 ((h x).1 (by simp)) with e | hx
      · exact e
      · rcases List.mem_cons.1 ((h y).2 (by simp)) with e | hy
        · exact e.symm
        · have := ltK_trans (hm.1 x hx) (hl.1 y hy)
          rw [ltK_irrefl] at this
          cases this
    subst hxy
    congr 1
    refine risingK_eq hl.2 hm.2 fun z => ⟨fun hz => ?_, fun hz => ?_⟩
    · rcases List.mem_cons.1 ((h z).1 (List.mem_cons_of_mem _ hz)) with e | hz'
      · have := hl.1 z hz; rw [e, ltK_irrefl] at this; cases this
      · exact hz'
    · rcases List.mem_cons.1 ((h z).2 (List.mem_cons_of_mem _ hz)) with e | hz'
      · have := hm.1 z hz; rw [e, ltK_irrefl] at this; cases this
      · exact hz'

theorem risingK_conf : ∀ {l : List α}, RisingK key l → ∀ x y, x ∈ l → y ∈ l → ¬ ConfK key x y
  | [], _, x, y, hx, _, _ => absurd hx (by simp)
  | a :: l, h, x, y, hx, hy, hc => by
    rw [RisingK, List.pairwise_cons] at h
    rcases List.mem_cons.1 hx with hx' | hx'
    · rcases List.mem_cons.1 hy with hy' | hy'
      · exact hc.2 (hx'.trans hy'.symm)
      · have := h.1 y hy'; rw [← hx', ltK_id hc.1] at this; cases this
    · rcases List.mem_cons.1 hy with hy' | hy'
      · have := h.1 x hx'; rw [← hy', ltK_id hc.1.symm] at this; cases this
      · exact risingK_conf h.2 x y hx' hy' hc

/-- What a clean list is. -/
def CleanK (key : α → TStamp) (ops : List α) (r : Option (List α)) : Prop := match r with
  | some l => RisingK key l ∧ ∀ x, x ∈ l ↔ x ∈ ops
  | none => ∃ x y, x ∈ ops ∧ y ∈ ops ∧ ConfK key x y
theorem cleanK_eq {ops : List α} {r s : Option (List α)} (h1 : CleanK key ops r) (h2 : CleanK key ops s) : r = s := by
  cases r with
  | some l =>
    cases s with
    | some m => exact congrArg some (risingK_eq h1.1 h2.1 fun x => (h1.2 x).trans (h2.2 x).symm)
    | none =>
      obtain ⟨x, y, hx, hy, hc⟩ := h2
      exact absurd hc (risingK_conf h1.1 x y ((h1.2 x).2 hx) ((h1.2 y).2 hy))
  | none =>
    cases s with
    | some m =>
      obtain ⟨x, y, hx, hy, hc⟩ := h1
      exact absurd hc (risingK_conf h2.1 x y ((h2.2 x).2 hx) ((h2.2 y).2 hy))
    | none => rfl

theorem dedK_clean : ∀ (S : List α) (p : Option α) (acc done : List α), (∀ x y, x ∈ done → y ∈ S → ltK key y x = false) → (S.Pairwise fun x y => ltK key y x = false) → RisingK key acc → (∀ x, x ∈ acc ↔ x ∈ done) →
    (match p with | none => acc = [] | some q => q ∈ acc ∧ ∀ x, x ∈ acc → x ≠ q → ltK key x q = true) → CleanK key (done ++ S) (dedK key p S acc)
  | [], p, acc, done, _, _, hr, hm, _ => by
    rw [List.append_nil]
    cases p <;> exact ⟨hr, hm⟩
  | o :: S, p, acc, done, hd, hs, hr, hm, hp => by
    rw [List.pairwise_cons] at hs
    have e : done ++ o :: S = (done ++ [o]) ++ S := by simp
    have hd' : ∀ x y, x ∈ done ++ [o] → y ∈ S → ltK key y x = false := by
      intro x y hx hy
      rcases List.mem_append.1 hx with h | h
      · exact hd x y h (List.mem_cons_of_mem _ hy)
      · rw [List.mem_singleton.1 h]; exact hs.1 y hy
    have app : (∀ x, x ∈ acc → ltK key x o = true) → CleanK key (done ++ o :: S) (dedK key (some o) S (acc ++ [o])) := by
      intro hlt
      rw [e]
      refine dedK_clean S (some o) (acc ++ [o]) _ hd' hs.2 ?_ ?_ ⟨by simp, ?_⟩
      · rw [RisingK, List.pairwise_append]
        exact ⟨hr, List.pairwise_singleton _ _, fun x hx y hy => by rw [List.mem_singleton.1 hy]; exact hlt x hx⟩
      · intro x; rw [List.mem_append, List.mem_append, hm]
      · intro x hx hne
        rcases List.mem_append.1 hx with h | h
        · exact hlt x h
        · exact absurd (List.mem_singleton.1 h) hne
    cases p with
    | none =>
      have hp : acc = [] := hp
      simp only [dedK]
      exact app (fun x hx => by rw [hp] at hx; cases hx)
    | some q =>
      have hp : q ∈ acc ∧ ∀ x, x ∈ acc → x ≠ q → ltK key x q = true := hp
      simp only [dedK]
      have hqd : q ∈ done := (hm q).1 hp.1
      have hoq : ltK key o q = false := hd q o hqd (by simp)
      by_cases he : (key q) = (key o)
      · rw [if_pos he]
        by_cases hqo : q = o
        · rw [if_pos hqo, e]
          refine dedK_clean S (some o) acc _ hd' hs.2 hr ?_ ?_
          · intro x
            rw [List.mem_append, List.mem_singleton, hm]
            constructor
            · exact .inl
            · rintro (h | h)
              · exact h
              · rw [h, ← hqo]; exact hqd
          · rw [← hqo]; exact hp
        · rw [if_neg hqo]
          exact ⟨q, o, List.mem_append_left _ hqd, List.mem_append_right _ (by simp), he, hqo⟩
      · rw [if_neg he]
        have hqo : ltK key q o = true := ltK_tri (fun e => he e.symm) hoq
        refine app fun x hx => ?_
        by_cases hxq : x = q
        · rw [hxq]; exact hqo
        · exact ltK_trans (hp.2 x hx hxq) hqo

end
end Go.AM

set_option linter.unusedVariables false
set_option linter.unusedSimpArgs false
namespace Go.AM

theorem snoc_ind {α : Type} {p : List α → Prop} (h0 : p []) (h1 : ∀ l a, p l → p (l ++ [a])) (l : List α) : p l := by
  have h : ∀ m : List α, p m.reverse := by
    intro m
    induction m with
    | nil => exact h0
    | cons a m ih => rw [List.reverse_cons]; exact h1 _ _ ih
  have := h l.reverse
  rwa [List.reverse_reverse] at this
/-- Who follows k among these. -/
def kidsOf (l : List TLOp) (k : TStamp) : List TLOp := l.filter fun o => decide (o.kind = 1 ∧ o.at_ = k)
/-- What the walk with a stack lays down. -/
inductive Wk (kd : TStamp → List TLOp) : List TLOp → List TLOp → Prop
  | nil : Wk kd [] []
  | step {s out : List TLOp} {o : TLOp} : Wk kd (s ++ kd o.id) out → Wk kd (s ++ [o]) (o :: out)
theorem Wk.len {kd : TStamp → List TLOp} {s out : List TLOp} (h : Wk kd s out) : s.length ≤ out.length := by
  induction h with
  | nil => exact Nat.le_refl _
  | step _ ih =>
    rw [List.length_append] at ih
    simp only [List.length_append, List.length_cons, List.length_nil]
    omega
/-- o behind those with the stamp q. -/
def insB (q : TStamp) (o : TLOp) (out : List TLOp) : List TLOp := out.flatMap fun x => if x.id = q then [x, o] else [x]
theorem insB_cons {q : TStamp} {o x : TLOp} {out : List TLOp} : insB q o (x :: out) = (if x.id = q then [x, o] else [x]) ++ insB q o out := rfl
theorem Wk.ins {kd : TStamp → List TLOp} {o : TLOp} {q : TStamp} (hq : q ≠ o.id) (h0 : kd o.id = []) {s out : List TLOp} (h : Wk kd s out) : Wk (fun k => if k = q then kd q ++ [o] else kd k) s (insB q o out) := by
  induction h with
  | nil => exact .nil
  | step hw ih =>
    rename_i s out x
    rw [insB_cons]
    by_cases e : x.id = q
    · rw [if_pos e]
      refine .step ?_
      simp only [e, if_true]
      rw [← List.append_assoc]
      refine .step ?_
      simp only [if_neg (Ne.symm hq), h0, List.append_nil]
      rw [e] at ih
      exact ih
    · rw [if_neg e]
      refine .step ?_
      simp only [if_neg e]
      exact ih
/-- The characters, each put in behind its own. -/
def putB (o : TLOp) (out : List TLOp) : List TLOp := if o.at_ = ⟨0, 0⟩ then o :: out else insB o.at_ o out
def cellsL (l : List TLOp) : List TLOp := l.foldl (fun out o => if o.kind = 1 then putB o out else out) []
theorem cellsL_snoc (l : List TLOp) (o : TLOp) : cellsL (l ++ [o]) = if o.kind = 1 then putB o (cellsL l) else cellsL l := by
  unfold cellsL
  rw [List.foldl_append]
  rfl
theorem kidsOf_snoc (l : List TLOp) (o : TLOp) : kidsOf (l ++ [o]) = fun k => if o.kind = 1 ∧ k = o.at_ then kidsOf l o.at_ ++ [o] else kidsOf l k := by
  funext k
  unfold kidsOf
  rw [List.filter_append]
  by_cases h : o.kind = 1 ∧ k = o.at_
  · rw [if_pos h, List.filter_cons, if_pos (by simp [h.1, h.2]), h.2]; rfl
  · rw [if_neg h, List.filter_cons, if_neg (by simp only [decide_eq_true_eq]; rintro ⟨h1, h2⟩; exact h ⟨h1, h2.symm⟩)]
    simp

/-- Fit to be walked: by rising stamps, each at a stamp that is less or at none. -/
structure Grows (l : List TLOp) : Prop where
  up : RisingK TLOp.id l
  id0 : ∀ o, o ∈ l → o.id ≠ ⟨0, 0⟩
  lt : ∀ o, o ∈ l → o.at_ = ⟨0, 0⟩ ∨ ltS o.at_ o.id = true
  there : ∀ o, o ∈ l → o.at_ = ⟨0, 0⟩ ∨ ∃ x, x ∈ l ∧ x.kind = 1 ∧ x.id = o.at_
theorem ltS_irrefl {a : TStamp} : ltS a a = false := by unfold ltS; rw [decide_eq_false_iff_not]; omega
theorem ltS_trans {a b c : TStamp} (h1 : ltS a b = true) (h2 : ltS b c = true) : ltS a c = true := by
  unfold ltS at *
  rw [decide_eq_true_eq] at *
  omega
theorem cellsL_mem : ∀ (l : List TLOp) (x : TLOp), x ∈ cellsL l → x ∈ l ∧ x.kind = 1 := by
  refine snoc_ind ?_ ?_
  · intro x h; cases h
  · intro l o ih x h
    rw [cellsL_snoc] at h
    split at h
    · rename_i hk
      have hx : x = o ∨ x ∈ cellsL l := by
        unfold putB at h
        split at h
        · rcases List.mem_cons.1 h with e | h
          · exact .inl e
          · exact .inr h
        · unfold insB at h
          obtain ⟨y, hy, hx⟩ := List.mem_flatMap.1 h
          split at hx
          · simp only [List.mem_cons, List.not_mem_nil, or_false] at hx
            rcases hx with e | e
            · exact .inr (e ▸ hy)
            · exact .inl e
          · simp only [List.mem_cons, List.not_mem_nil, or_false] at hx
            exact .inr (hx ▸ hy)
      rcases hx with rfl | hx
      · exact ⟨by simp, hk⟩
      · exact ⟨List.mem_append_left _ (ih x hx).1, (ih x hx).2⟩
    · exact ⟨List.mem_append_left _ (ih x h).1, (ih x h).2⟩
theorem Grows.init {l : List TLOp} {o : TLOp} (g : Grows (l ++ [o])) : Grows l := by
  have up := g.up
  rw [RisingK, List.pairwise_append] at up
  refine ⟨up.1, fun x hx => g.id0 x (List.mem_append_left _ hx), fun x hx => g.lt x (List.mem_append_left _ hx), fun x hx => ?_⟩
  rcases g.there x (List.mem_append_left _ hx) with e | ⟨y, hy, hk, he⟩
  · exact .inl e
  · rcases List.mem_append.1 hy with hy | hy
    · exact .inr ⟨y, hy, hk, he⟩
    · rw [List.mem_singleton.1 hy] at he
      rcases g.lt x (List.mem_append_left _ hx) with e | e
      · exact .inl e
      · rw [← he] at e
        have h1 : ltS x.id o.id = true := up.2.2 x hx o (by simp)
        have := ltS_trans h1 e
        rw [ltS_irrefl] at this
        cases this
theorem Grows.last {l : List TLOp} {o : TLOp} (g : Grows (l ++ [o])) : ∀ x, x ∈ l → ltS x.id o.id = true := by
  have := g.up
  rw [RisingK, List.pairwise_append] at this
  exact fun x hx => this.2.2 x hx o (by simp)
theorem walk_cells : ∀ (l : List TLOp), Grows l → Wk (kidsOf l) (kidsOf l ⟨0, 0⟩) (cellsL l) := by
  refine snoc_ind ?_ ?_
  · intro _; exact .nil
  · intro l o ih g
    have hw := ih g.init
    rw [cellsL_snoc, kidsOf_snoc]
    by_cases hk : o.kind = 1
    · rw [if_pos hk]
      simp only [hk, true_and]
      have hid := g.id0 o (by simp)
      have hq : o.at_ ≠ o.id := by
        rcases g.lt o (by simp) with e | e
        · rw [e]; exact Ne.symm hid
        · intro e2
          rw [e2, ltS_irrefl] at e
          cases e
      have h0 : kidsOf l o.id = [] := by
        unfold kidsOf
        rw [List.filter_eq_nil_iff]
        intro x hx
        rw [decide_eq_true_eq]
        rintro ⟨_, e⟩
        have h1 := g.last x hx
        rcases g.lt x (List.mem_append_left _ hx) with e2 | e2
        · rw [e] at e2; exact hid e2
        · rw [e] at e2
          have := ltS_trans h1 e2
          rw [ltS_irrefl] at this
          cases this
      have hi := hw.ins hq h0
      unfold putB
      by_cases e : o.at_ = ⟨0, 0⟩
      · rw [if_pos e]
        rw [e] at hi ⊢
        simp only [if_true]
        refine .step ?_
        simp only [if_neg hid, h0, List.append_nil]
        have : insB ⟨0, 0⟩ o (cellsL l) = cellsL l := by
          have hne : ∀ x, x ∈ cellsL l → x.id ≠ ⟨0, 0⟩ := fun x hx => g.id0 x (List.mem_append_left _ (cellsL_mem l x hx).1)
          generalize cellsL l = c at hne
          induction c with
          | nil => rfl
          | cons x c ihc =>
            rw [insB_cons, if_neg (hne x (by simp)), ihc (fun y hy => hne y (List.mem_cons_of_mem _ hy))]
            rfl
        rw [this] at hi
        exact hi
      · rw [if_neg e]
        simp only [if_neg (Ne.symm e)]
        exact hi
    · rw [if_neg hk]
      simp only [hk, false_and, if_false]
      exact hw
end Go.AM

set_option linter.unusedVariables false
set_option linter.unusedSimpArgs false
namespace Go.AM

theorem insKV_len {α : Type} {ks : List TStamp} {vs : List α} {k : TStamp} {x : α} (h : ks.length = vs.length) : (insK ks k).length = (insV ks vs k x).length := by
  unfold insK insV
  cases idxK ks k with
  | some j => simp [h]
  | none => simp [h]
theorem insK_mem {ks : List TStamp} {k x : TStamp} : x ∈ insK ks k ↔ x ∈ ks ∨ x = k := by
  unfold insK
  cases e : idxK ks k with
  | some j =>
    have := List.mem_of_getElem? (idxK_lt e)
    constructor
    · exact .inl
    · rintro (h | rfl)
      · exact h
      · exact this
  | none => simp
/-- No followers yet. -/
theorem init_ok : ∀ (l : List TLOp) (ks : List TStamp) (ls : List (List TLOp)), ks.length = ls.length → (∀ x, x ∈ ls → x = []) →
    (initK l ks ls).1.length = (initK l ks ls).2.length ∧ (∀ x, x ∈ (initK l ks ls).2 → x = []) ∧ ∀ k, k ∈ (initK l ks ls).1 ↔ k ∈ ks ∨ ∃ o, o ∈ l ∧ o.kind = 1 ∧ o.id = k
  | [], ks, ls, h1, h2 => ⟨h1, h2, fun k => by simp [initK]⟩
  | o :: l, ks, ls, h1, h2 => by
    rw [initK]
    by_cases hk : o.kind = 1
    · rw [if_pos hk]
      obtain ⟨q1, q2, q3⟩ := init_ok l (insK ks o.id) (insV ks ls o.id []) (insKV_len h1) (by
        intro x hx
        unfold insV at hx
        cases e : idxK ks o.id with
        | some j =>
          rw [e] at hx
          rcases List.mem_or_eq_of_mem_set hx with h | h
          · exact h2 x h
          · exact h
        | none =>
          rw [e] at hx
          rcases List.mem_append.1 hx with h | h
          · exact h2 x h
          · exact List.mem_singleton.1 h)
      refine ⟨q1, q2, fun k => ?_⟩
      rw [q3, insK_mem]
      constructor
      · rintro ((h | h) | ⟨y, h, h'⟩)
        · exact .inl h
        · exact .inr ⟨o, by simp, hk, h.symm⟩
        · exact .inr ⟨y, List.mem_cons_of_mem _ h, h'⟩
      · rintro (h | ⟨y, h, h'⟩)
        · exact .inl (.inl h)
        · rcases List.mem_cons.1 h with rfl | h
          · exact .inl (.inr h'.2.symm)
          · exact .inr ⟨y, h, h'⟩
    · rw [if_neg hk]
      obtain ⟨q1, q2, q3⟩ := init_ok l ks ls h1 h2
      refine ⟨q1, q2, fun k => ?_⟩
      rw [q3]
      constructor
      · rintro (h | ⟨y, h, h'⟩)
        · exact .inl h
        · exact .inr ⟨y, List.mem_cons_of_mem _ h, h'⟩
      · rintro (h | ⟨y, h, h'⟩)
        · exact .inl h
        · rcases List.mem_cons.1 h with rfl | h
          · exact absurd h'.1 hk
          · exact .inr ⟨y, h, h'⟩
theorem kidsK_nil {ks : List TStamp} {ls : List (List TLOp)} (h : ∀ x, x ∈ ls → x = []) (k : TStamp) : kidsK ks ls k = [] := by
  unfold kidsK
  cases idxK ks k with
  | none => rfl
  | some j =>
    simp only [List.getD_eq_getElem?_getD]
    cases e : ls[j]? with
    | none => rfl
    | some x => exact h x (List.mem_of_getElem? e)
theorem kidsOf_cons {o : TLOp} {l : List TLOp} {k : TStamp} : kidsOf (o :: l) k = (if o.kind = 1 ∧ o.at_ = k then [o] else []) ++ kidsOf l k := by
  unfold kidsOf
  rw [List.filter_cons]
  by_cases h : o.kind = 1 ∧ o.at_ = k
  · rw [if_pos (decide_eq_true h), if_pos h]; rfl
  · rw [if_neg (by simpa using h), if_neg h]; rfl
theorem fillK_ok (ks : List TStamp) : ∀ (l : List TLOp) (ls : List (List TLOp)) (g : List TStamp), ks.length = ls.length → match fillK ks l ls g with
    | none => ∃ o, o ∈ l ∧ o.at_ ∉ ks
    | some (ls', g') => (∀ o, o ∈ l → o.at_ ∈ ks) ∧ (∀ k, kidsK ks ls' k = kidsK ks ls k ++ kidsOf l k) ∧ ∀ k, k ∈ g' ↔ k ∈ g ∨ ∃ o, o ∈ l ∧ o.kind ≠ 1 ∧ o.at_ = k
  | [], ls, g, hl => ⟨fun o h => (by cases h), fun k => (by simp [kidsOf]), fun k => (by simp)⟩
  | o :: l, ls, g, hl => by
    rw [fillK]
    cases e : idxK ks o.at_ with
    | none => exact ⟨o, by simp, idxK_none e⟩
    | some j =>
      have hj := idxK_lt e
      have hm := List.mem_of_getElem? hj
      have hjl : j < ls.length := by rw [← hl]; exact (List.getElem?_eq_some_iff.1 hj).1
      simp only
      by_cases hk : o.kind = 1
      · rw [if_pos hk]
        have ih := fillK_ok ks l (ls.set j (ls.getD j [] ++ [o])) g (by simpa using hl)
        cases ef : fillK ks l (ls.set j (ls.getD j [] ++ [o])) g with
        | none =>
          rw [ef] at ih
          obtain ⟨x, h1, h2⟩ := ih
          exact ⟨x, List.mem_cons_of_mem _ h1, h2⟩
        | some p =>
          obtain ⟨ls', g'⟩ := p
          rw [ef] at ih
          obtain ⟨i1, i2, i3⟩ := ih
          refine ⟨?_, ?_, ?_⟩
          · intro x hx
            rcases List.mem_cons.1 hx with rfl | hx
            · exact hm
            · exact i1 x hx
          · intro k
            rw [i2, kidsOf_cons, ← List.append_assoc]
            congr 1
            unfold kidsK
            cases ek : idxK ks k with
            | none =>
              rw [if_neg (by rintro ⟨_, h⟩; rw [h] at hm; exact idxK_none ek hm)]
              rfl
            | some i =>
              have hi := idxK_lt ek
              simp only [List.getD_eq_getElem?_getD]
              by_cases hij : j = i
              · subst hij
                rw [hj] at hi
                rw [if_pos ⟨hk, Option.some.inj hi⟩, List.getElem?_set_self hjl]
                rfl
              · rw [List.getElem?_set_ne hij, if_neg]
                · simp
                · rintro ⟨_, h⟩
                  rw [h, ek] at e
                  exact hij (Option.some.inj e).symm
          · intro k
            rw [i3]
            constructor
            · rintro (h | ⟨x, h, h'⟩)
              · exact .inl h
              · exact .inr ⟨x, List.mem_cons_of_mem _ h, h'⟩
            · rintro (h | ⟨x, h, h'⟩)
              · exact .inl h
              · rcases List.mem_cons.1 h with rfl | h
                · exact absurd hk h'.1
                · exact .inr ⟨x, h, h'⟩
      · rw [if_neg hk]
        have ih := fillK_ok ks l ls (insK g o.at_) hl
        cases ef : fillK ks l ls (insK g o.at_) with
        | none =>
          rw [ef] at ih
          obtain ⟨x, h1, h2⟩ := ih
          exact ⟨x, List.mem_cons_of_mem _ h1, h2⟩
        | some p =>
          obtain ⟨ls', g'⟩ := p
          rw [ef] at ih
          obtain ⟨i1, i2, i3⟩ := ih
          refine ⟨?_, ?_, ?_⟩
          · intro x hx
            rcases List.mem_cons.1 hx with rfl | hx
            · exact hm
            · exact i1 x hx
          · intro k
            rw [i2, kidsOf_cons, if_neg (fun h => hk h.1)]
            rfl
          · intro k
            rw [i3, insK_mem]
            constructor
            · rintro ((h | h) | ⟨x, h, h'⟩)
              · exact .inl h
              · exact .inr ⟨o, by simp, hk, h.symm⟩
              · exact .inr ⟨x, List.mem_cons_of_mem _ h, h'⟩
            · rintro (h | ⟨x, h, h'⟩)
              · exact .inl (.inl h)
              · rcases List.mem_cons.1 h with rfl | h
                · exact .inl (.inr h'.2.symm)
                · exact .inr ⟨x, h, h'⟩

/-- The places told one behind the other. -/
def placeG : List (TStamp × Int) → Nat → List TLOp → List (TStamp × Int)
  | pl, _, [] => pl
  | pl, n, o :: out => placeG (setP pl o.id (n : Int)) (n + 1) out
theorem walk_fuel {ks : List TStamp} {ls : List (List TLOp)} {st out : List TLOp} (h : Wk (kidsK ks ls) st out) : ∀ (ord : List TLOp) (pl : List (TStamp × Int)), out.length + ord.length ≤ 1000000 → walkK ks ls (out.length + 1) st ord pl = some (ord ++ out, placeG pl ord.length out) := by
  induction h with
  | nil =>
    intro ord pl _
    rw [List.append_nil]
    rfl
  | step hw ih =>
    rename_i s out x
    intro ord pl hb
    have hl := hw.len
    rw [List.length_append] at hl
    rw [List.length_cons] at hb
    rw [walkK]
    simp only [List.getLast?_concat, List.dropLast_concat]
    rw [if_pos (by rw [List.length_append, List.length_cons, List.length_nil]; omega), List.length_cons, ih (ord ++ [x]) (setP pl x.id ord.length) (by rw [List.length_append, List.length_cons, List.length_nil]; omega)]
    rw [List.append_assoc, List.length_append, List.length_cons, List.length_nil]
    rfl
theorem walkK_mono {ks : List TStamp} {ls : List (List TLOp)} : ∀ (n m : Nat) (st ord : List TLOp) (pl : List (TStamp × Int)) (b c : List TLOp × List (TStamp × Int)), walkK ks ls n st ord pl = some b → walkK ks ls m st ord pl = some c → b = c
  | 0, m, st, ord, pl, b, c, h1, h2 => by cases h1
  | n + 1, 0, st, ord, pl, b, c, h1, h2 => by cases h2
  | n + 1, m + 1, st, ord, pl, b, c, h1, h2 => by
    rw [walkK] at h1 h2
    cases e : st.getLast? with
    | none =>
      rw [e] at h1 h2
      exact Option.some.inj (h1.symm.trans h2)
    | some o =>
      rw [e] at h1 h2
      simp only at h1 h2
      split at h1
      · rename_i hc
        rw [if_pos hc] at h2
        exact walkK_mono n m _ _ _ b c h1 h2
      · cases h1

/-- Where q is first. -/
def firstL (q : TStamp) : List TLOp → Option Nat
  | [] => none
  | c :: cs => if c.id = q then some 0 else (firstL q cs).map (· + 1)
theorem insB_none {q : TStamp} {o : TLOp} : ∀ {out : List TLOp}, q ∉ out.map TLOp.id → insB q o out = out
  | [], _ => rfl
  | x :: out, h => by
    rw [List.map_cons, List.mem_cons] at h
    rw [insB_cons, if_neg (fun e => h (.inl e.symm)), insB_none (fun e => h (.inr e))]
    rfl
theorem insB_at {q : TStamp} {o : TLOp} : ∀ {out : List TLOp}, (out.map TLOp.id).Nodup → q ∈ out.map TLOp.id → ∃ a, firstL q out = some a ∧ a < out.length ∧ insB q o out = out.take (a + 1) ++ o :: out.drop (a + 1)
  | [], _, h => by cases h
  | x :: out, hn, h => by
    rw [List.map_cons, List.nodup_cons] at hn
    by_cases e : x.id = q
    · refine ⟨0, by rw [firstL, if_pos e], by simp, ?_⟩
      rw [insB_cons, if_pos e, insB_none (by rw [← e]; exact hn.1)]
      rfl
    · rw [List.map_cons, List.mem_cons] at h
      obtain ⟨a, h1, h2, h3⟩ := insB_at hn.2 (h.resolve_left (fun e2 => e e2.symm))
      refine ⟨a + 1, by rw [firstL, if_neg e, h1]; rfl, by simp; omega, ?_⟩
      rw [insB_cons, if_neg e, h3]
      rfl
structure Cells (l : List TLOp) : Prop where
  perm : (cellsL l).Perm (l.filter fun o => decide (o.kind = 1))
  nod : ((cellsL l).map TLOp.id).Nodup
theorem rising_nodup : ∀ {l : List TLOp}, RisingK TLOp.id l → (l.map TLOp.id).Nodup
  | [], _ => List.nodup_nil
  | o :: l, h => by
    rw [RisingK, List.pairwise_cons] at h
    rw [List.map_cons, List.nodup_cons]
    refine ⟨fun hm => ?_, rising_nodup h.2⟩
    obtain ⟨x, hx, e⟩ := List.mem_map.1 hm
    have := h.1 x hx
    unfold ltK at this
    rw [e, ltS_irrefl] at this
    cases this
theorem cellsL_ok : ∀ (l : List TLOp), Grows l → Cells l := by
  refine snoc_ind ?_ ?_
  · intro _; exact ⟨List.Perm.refl _, List.nodup_nil⟩
  · intro l o ih g
    have c := ih g.init
    have hp : (cellsL (l ++ [o])).Perm ((l ++ [o]).filter fun o => decide (o.kind = 1)) := by
      rw [cellsL_snoc, List.filter_append]
      by_cases hk : o.kind = 1
      · rw [if_pos hk, List.filter_cons, if_pos (decide_eq_true hk), List.filter_nil]
        have h2 : (putB o (cellsL l)).Perm (o :: cellsL l) := by
          unfold putB
          by_cases e : o.at_ = ⟨0, 0⟩
          · rw [if_pos e]
          · rw [if_neg e]
            have hin : o.at_ ∈ (cellsL l).map TLOp.id := by
              rcases g.there o (by simp) with e2 | ⟨x, hx, hk2, he⟩
              · exact absurd e2 e
              · rcases List.mem_append.1 hx with hx | hx
                · rw [← he]
                  exact List.mem_map_of_mem (c.perm.mem_iff.2 (List.mem_filter.2 ⟨hx, decide_eq_true hk2⟩))
                · rw [List.mem_singleton.1 hx] at he
                  rcases g.lt o (by simp) with e2 | e2
                  · exact absurd e2 e
                  · rw [← he, ltS_irrefl] at e2
                    cases e2
            obtain ⟨a, _, _, h3⟩ := insB_at (o := o) c.nod hin
            rw [h3]
            refine List.perm_middle.trans ?_
            rw [List.take_append_drop]
        exact (h2.trans (List.Perm.cons o c.perm)).trans (List.perm_append_comm (l₁ := [o]))
      · rw [if_neg hk, List.filter_cons, if_neg (by simpa using hk), List.filter_nil, List.append_nil]
        exact c.perm
    refine ⟨hp, ?_⟩
    refine (hp.map TLOp.id).nodup_iff.2 ?_
    exact (rising_nodup g.up).sublist (List.filter_sublist.map TLOp.id)
theorem cells_mem {l : List TLOp} (g : Grows l) {x : TLOp} : x ∈ cellsL l ↔ x ∈ l ∧ x.kind = 1 := by
  rw [(cellsL_ok l g).perm.mem_iff, List.mem_filter, decide_eq_true_eq]
theorem cells_len {l : List TLOp} (g : Grows l) : (cellsL l).length ≤ l.length := by
  rw [(cellsL_ok l g).perm.length_eq]
  exact List.length_filter_le _ _

/-! ### readList -/
def There (l : List TLOp) : Prop := ∀ o, o ∈ l → o.at_ = ⟨0, 0⟩ ∨ ∃ x, x ∈ l ∧ x.kind = 1 ∧ x.id = o.at_
theorem lopK_id {o : TLOp} (h : lopK o = true) : stOK o.id = true := by
  unfold lopK at h
  rw [Bool.and_eq_true] at h
  exact h.1
theorem stOK_ne {s : TStamp} (h : stOK s = true) : s ≠ ⟨0, 0⟩ := by
  unfold stOK at h
  rw [decide_eq_true_eq] at h
  rintro rfl
  simp only at h
  omega
theorem lopK_lt {o : TLOp} (h : lopK o = true) : o.at_ = ⟨0, 0⟩ ∨ ltS o.at_ o.id = true := by
  unfold lopK at h
  rw [Bool.and_eq_true] at h
  have h := h.2
  split at h
  · rw [Bool.and_eq_true, Bool.or_eq_true, Bool.and_eq_true, decide_eq_true_eq] at h
    rcases h.2 with h | h
    · exact .inr h.2
    · exact .inl h
  · split at h
    · rw [Bool.and_eq_true, Bool.and_eq_true] at h
      exact .inr h.2.2
    · cases h
theorem ded_clean (x0 : List TLOp) : CleanK TLOp.id x0 (dedK TLOp.id none (sortL (ltK TLOp.id) x0) []) := by
  have h2 := dedK_clean (key := TLOp.id) (sortL (ltK TLOp.id) x0) none [] [] (fun x y h => absurd h (by simp)) (sortL_sorted (ltK_swo TLOp.id) x0) List.Pairwise.nil (fun x => Iff.rfl) rfl
  rw [List.nil_append] at h2
  have hp := sortL_perm (ltK_swo TLOp.id) x0
  cases hr : dedK TLOp.id none (sortL (ltK TLOp.id) x0) [] with
  | some l =>
    rw [hr] at h2
    exact ⟨h2.1, fun x => (h2.2 x).trans hp.mem_iff⟩
  | none =>
    rw [hr] at h2
    obtain ⟨x, y, hx, hy, hc⟩ := h2
    exact ⟨x, y, hp.mem_iff.1 hx, hp.mem_iff.1 hy, hc⟩
theorem grows_of {x0 l : List TLOp} (ha : x0.all lopK = true) (hd : dedK TLOp.id none (sortL (ltK TLOp.id) x0) [] = some l) (ht : There l) : Grows l := by
  have hc := ded_clean x0
  rw [hd] at hc
  have hok : ∀ o, o ∈ l → lopK o = true := fun o ho => List.all_eq_true.1 ha o ((hc.2 o).1 ho)
  exact ⟨hc.1, fun o ho => stOK_ne (lopK_id (hok o ho)), fun o ho => lopK_lt (hok o ho), ht⟩
theorem listM_some {x0 l : List TLOp} (h1 : ¬ 2048 < x0.length) (h2 : x0.all lopK = true) (h3 : dedK TLOp.id none (sortL (ltK TLOp.id) x0) [] = some l) (ht : There l) :
    ∃ g, listM x0 = some ⟨some ⟨l, cellsL l, g, placeG [] 0 (cellsL l)⟩, 0⟩ ∧ ∀ k, k ∈ g ↔ ∃ o, o ∈ l ∧ o.kind ≠ 1 ∧ o.at_ = k := by
  have g := grows_of h2 h3 ht
  have hll : l.length ≤ 2048 := by
    have := dedK_len _ _ _ _ h3
    rw [sortL_len (ltK_swo TLOp.id)] at this
    simp only [List.length_nil] at this
    omega
  have hcl := cells_len g
  unfold listM
  rw [if_neg h1, if_neg (by rw [h2]; simp), h3]
  simp only
  obtain ⟨i1, i2, i3⟩ := init_ok l [⟨0, 0⟩] [[]] rfl (by simp)
  have hks : ∀ k, k ∈ (initK l [⟨0, 0⟩] [[]]).1 ↔ k = ⟨0, 0⟩ ∨ ∃ o, o ∈ l ∧ o.kind = 1 ∧ o.id = k := fun k => by rw [i3, List.mem_singleton]
  have hf := fillK_ok (initK l [⟨0, 0⟩] [[]]).1 l (initK l [⟨0, 0⟩] [[]]).2 [] i1
  cases hfe : fillK (initK l [⟨0, 0⟩] [[]]).1 l (initK l [⟨0, 0⟩] [[]]).2 [] with
  | none =>
    rw [hfe] at hf
    obtain ⟨o, ho, hn⟩ := hf
    rw [hks] at hn
    exact absurd (ht o ho) hn
  | some q =>
    obtain ⟨ls, gn⟩ := q
    rw [hfe] at hf
    obtain ⟨_, f2, f3⟩ := hf
    have hkd : kidsK (initK l [⟨0, 0⟩] [[]]).1 ls = kidsOf l := by
      funext k
      rw [f2, kidsK_nil i2]
      rfl
    have hw := walk_cells l g
    rw [← hkd] at hw
    have hr := walk_fuel hw [] [] (by simp; omega)
    refine ⟨gn, ?_, fun k => by rw [f3]; simp⟩
    simp only
    rw [fixP_eq (n := (cellsL l).length + 1) (fun n m b c => walkK_mono n m _ _ _ b c) hr]
    rfl
theorem listM_none {x0 l : List TLOp} (h1 : ¬ 2048 < x0.length) (h2 : x0.all lopK = true) (h3 : dedK TLOp.id none (sortL (ltK TLOp.id) x0) [] = some l) (ht : ¬ There l) : listM x0 = some ⟨none, 5⟩ := by
  unfold listM
  rw [if_neg h1, if_neg (by rw [h2]; simp), h3]
  simp only
  obtain ⟨i1, i2, i3⟩ := init_ok l [⟨0, 0⟩] [[]] rfl (by simp)
  have hks : ∀ k, k ∈ (initK l [⟨0, 0⟩] [[]]).1 ↔ k = ⟨0, 0⟩ ∨ ∃ o, o ∈ l ∧ o.kind = 1 ∧ o.id = k := fun k => by rw [i3, List.mem_singleton]
  have hf := fillK_ok (initK l [⟨0, 0⟩] [[]]).1 l (initK l [⟨0, 0⟩] [[]]).2 [] i1
  cases hfe : fillK (initK l [⟨0, 0⟩] [[]]).1 l (initK l [⟨0, 0⟩] [[]]).2 [] with
  | none => rfl
  | some q =>
    obtain ⟨ls, gn⟩ := q
    rw [hfe] at hf
    exact absurd (fun o ho => (hks _).1 (hf.1 o ho)) ht
end Go.AM

set_option linter.unusedVariables false
set_option linter.unusedSimpArgs false
namespace Go.AM

theorem q_specOKl (x : TStamp) : p_spec_StampOK x = some (stOK x) := by
  unfold p_spec_StampOK stOK
  simp only [decide_eq_true_eq]
  repeat' split
  all_goals (simp only [Option.some.injEq]; symm; first | (rw [decide_eq_false_iff_not]; omega) | (rw [decide_eq_true_eq]; omega) | (apply decide_eq_decide.2; omega))
theorem q_specLess (x y : TStamp) : p_spec_StampLess x y = some (ltS x y) := by
  unfold p_spec_StampLess ltS
  simp only [decide_eq_true_eq]
  repeat' split
  all_goals (simp only [Option.some.injEq]; symm; first | (rw [decide_eq_false_iff_not]; omega) | (rw [decide_eq_true_eq]; omega) | (apply decide_eq_decide.2; omega))
theorem q_specChar (c : Int) : p_spec_l04Char c = some (chOK c) := by
  unfold p_spec_l04Char chOK
  simp only [decide_eq_true_eq]
  repeat' split
  all_goals (simp only [Option.some.injEq]; symm; first | (rw [decide_eq_false_iff_not]; omega) | (rw [decide_eq_true_eq]; omega) | (apply decide_eq_decide.2; omega))
theorem lt_none {s : TStamp} (h : stOK s = true) : ltS ⟨0, 0⟩ s = true := by
  unfold stOK at h
  unfold ltS
  rw [decide_eq_true_eq] at *
  simp only
  omega
theorem q_specOp (x : TLOp) : p_spec_l04OpOK x = some (lopK x) := by
  unfold p_spec_l04OpOK lopK
  simp only [q_specOKl, q_specLess, q_specChar, q_noneS, Option.bind_some, decide_eq_true_eq]
  by_cases h0 : x.at_ = ⟨0, 0⟩
  · have h1 : stOK x.at_ = false := by rw [h0]; rfl
    cases hi : stOK x.id
    · simp
    · have h2 : ltS x.at_ x.id = true := by rw [h0]; exact lt_none hi
      cases hc : chOK x.char <;> by_cases h3 : x.kind = 1 <;> by_cases h4 : x.kind = 2 <;> by_cases h5 : x.char = 0 <;> simp [h0, h1, h2, h3, h4, h5, hc] at * <;> simp_all
  · cases hi : stOK x.id <;> cases ha : stOK x.at_ <;> cases hl : ltS x.at_ x.id <;> cases hc : chOK x.char <;> by_cases h3 : x.kind = 1 <;> by_cases h4 : x.kind = 2 <;> by_cases h5 : x.char = 0 <;> simp [h0, h3, h4, h5]
theorem q_scan (x : List TLOp) (hx : x.length < 9223372036854775807) : loopP (p_spec_l04Clean_l0 x) 0 = some (if x.all lopK then .out (x.length : Int) else .ret ⟨[], 1⟩) := by
  obtain ⟨e, h1, rfl⟩ := loop_count (step := p_spec_l04Clean_l0 x) x.length (fun i s => s = (i : Int) ∧ (x.take i).all lopK = true) (fun e => e = if x.all lopK then .out (x.length : Int) else .ret ⟨[], 1⟩) (by
      rintro i s hi ⟨rfl, h2⟩
      obtain ⟨a, ha, ha'⟩ := get_lt (xs := x) hi
      have hd : decide ((i : Int) < (x.length : Int)) = true := by simpa using hi
      simp only [p_spec_l04Clean_l0]
      rw [if_t hd, ha, Option.bind_some, q_specOp, Option.bind_some, w64_succ (by omega)]
      cases hl : lopK a with
      | true => exact .inl ⟨_, rfl, rfl, by rw [take_next ha', List.all_append, h2]; simp [hl]⟩
      | false =>
        refine .inr (.inr ⟨_, rfl, ?_⟩)
        rw [if_neg]
        intro h
        have := List.all_eq_true.1 h a (List.mem_of_getElem? ha')
        rw [hl] at this
        cases this)
      (by
      rintro s ⟨rfl, h2⟩
      have hd : decide ((x.length : Int) < (x.length : Int)) = false := by simp
      simp only [p_spec_l04Clean_l0]
      rw [if_f hd]
      rw [List.take_length] at h2
      exact .inl ⟨_, rfl, by rw [if_pos h2]⟩) (s := 0) ⟨rfl, rfl⟩
  exact h1

/-! ### Sorting by merging -/
theorem cut_tail {α : Type} (x : α) (l : List α) : cut? (x :: l) 1 ((x :: l).length : Int) = some l := by
  unfold cut?
  rw [if_pos ⟨by omega, by simp; omega, Int.le_refl _⟩]
  congr 1
  have h : ((x :: l).length : Int).toNat - (1 : Int).toNat = l.length := by simp
  rw [h]
  exact List.take_length
abbrev geK (x y : TLOp) : Bool := !ltS y.id x.id
theorem get_zero {α : Type} (x : α) (l : List α) : get? (x :: l) 0 = some x := rfl
theorem merge_loop : ∀ (n : Nat) (out a b : List TLOp), a.length + b.length = n → (out.length + n) * 48 ≤ 140737488355328 → loopP p_spec_l04Sort_l0 (out, a, b) = some (.out (out ++ a.merge b geK, [], []))
  | 0, out, a, b, h, hn => by
    have ha : a = [] := List.eq_nil_of_length_eq_zero (by omega)
    have hb : b = [] := List.eq_nil_of_length_eq_zero (by omega)
    subst ha; subst hb
    rw [List.nil_merge, List.append_nil]
    exact loopP_out rfl
  | n + 1, out, a, b, h, hn => by
    cases a with
    | nil =>
      cases b with
      | nil => simp at h
      | cons y b =>
        rw [loopP_go (s' := (out ++ [y], [], b)) (by
          have h1 : decide (0 < (([] : List TLOp).length : Int)) = false := by simp
          have h2 : decide (0 < ((y :: b).length : Int)) = true := by simp
          have h3 : decide (((y :: b).length : Int) = 0) = false := by simp; omega
          simp only [p_spec_l04Sort_l0]
          rw [if_f h1, if_t h2, if_f h3, get_zero, Option.bind_some, app_one (by omega), Option.bind_some, cut_tail, Option.bind_some])]
        rw [merge_loop n (out ++ [y]) [] b (by simp at h ⊢; omega) (by simp; omega), List.nil_merge, List.nil_merge]
        simp
    | cons x a =>
      have h1 : decide (0 < ((x :: a).length : Int)) = true := by simp
      cases b with
      | nil =>
        rw [loopP_go (s' := (out ++ [x], a, [])) (by
          have h3 : decide ((([] : List TLOp).length : Int) = 0) = true := by simp
          simp only [p_spec_l04Sort_l0]
          rw [if_t h1, if_t h3, get_zero, Option.bind_some, app_one (by omega), Option.bind_some, cut_tail, Option.bind_some])]
        rw [merge_loop n (out ++ [x]) a [] (by simp at h ⊢; omega) (by simp; omega), List.merge_right, List.merge_right]
        simp
      | cons y b =>
        have h3 : decide (((y :: b).length : Int) = 0) = false := by simp; omega
        cases hl : ltS y.id x.id with
        | true =>
          rw [loopP_go (s' := (out ++ [y], x :: a, b)) (by
            simp only [p_spec_l04Sort_l0]
            rw [if_t h1, if_f h3, get_zero, Option.bind_some, get_zero, Option.bind_some, q_specLess, Option.bind_some, hl, if_t rfl, app_one (by omega), Option.bind_some, cut_tail, Option.bind_some])]
          rw [merge_loop n (out ++ [y]) (x :: a) b (by simp at h ⊢; omega) (by simp; omega), List.cons_merge_cons, if_neg (by simp [geK, hl])]
          simp
        | false =>
          rw [loopP_go (s' := (out ++ [x], a, y :: b)) (by
            simp only [p_spec_l04Sort_l0]
            rw [if_t h1, if_f h3, get_zero, Option.bind_some, get_zero, Option.bind_some, q_specLess, Option.bind_some, hl, if_f rfl, app_one (by omega), Option.bind_some, cut_tail, Option.bind_some])]
          rw [merge_loop n (out ++ [x]) a (y :: b) (by simp at h ⊢; omega) (by simp; omega), List.cons_merge_cons, if_pos (by simp [geK, hl])]
          simp
theorem sort_det : ∀ (n m : Nat) (x b c : List TLOp), pN_spec_l04Sort n x = some b → pN_spec_l04Sort m x = some c → b = c
  | 0, _, _, _, _, h, _ => by cases h
  | _ + 1, 0, _, _, _, _, h => by cases h
  | n + 1, m + 1, x, b, c, h1, h2 => by
    simp only [pN_spec_l04Sort, pB_spec_l04Sort] at h1 h2
    split at h1
    · rename_i e
      rw [if_pos e] at h2
      exact Option.some.inj (h1.symm.trans h2)
    · rename_i e
      rw [if_neg e] at h2
      obtain ⟨v2, e2, h1⟩ := bind_eq h1
      rw [e2, Option.bind_some] at h2
      obtain ⟨v3, e3, h1⟩ := bind_eq h1
      obtain ⟨v3', e3', h2⟩ := bind_eq h2
      obtain rfl := sort_det n m _ _ _ e3 e3'
      obtain ⟨v4, e4, h1⟩ := bind_eq h1
      rw [e4, Option.bind_some] at h2
      obtain ⟨v5, e5, h1⟩ := bind_eq h1
      obtain ⟨v5', e5', h2⟩ := bind_eq h2
      obtain rfl := sort_det n m _ _ _ e5 e5'
      exact Option.some.inj (h1.symm.trans h2)
theorem geK_trans (a b c : TLOp) (h1 : geK a b = true) (h2 : geK b c = true) : geK a c = true := by
  unfold geK ltS at *
  simp only [Bool.not_eq_true', decide_eq_false_iff_not] at *
  omega
theorem geK_total (a b : TLOp) : (geK a b || geK b a) = true := by
  unfold geK ltS
  simp only [Bool.or_eq_true, Bool.not_eq_true', decide_eq_false_iff_not]
  omega
theorem sort_fuel : ∀ (n : Nat) (x : List TLOp), x.length ≤ n → x.length ≤ 1000000 → ∃ y, pN_spec_l04Sort (n + 1) x = some y ∧ y.Perm x ∧ y.Pairwise fun a b => geK a b = true
  | n, x, hn, hx => by
    by_cases h2 : x.length < 2
    · refine ⟨x, ?_, List.Perm.refl _, ?_⟩
      · rw [pN_spec_l04Sort, pB_spec_l04Sort, if_t (by simp; omega), app_list (by simp; omega), Option.bind_some, List.nil_append]
      · match x, h2 with
        | [], _ => exact List.Pairwise.nil
        | [a], _ => exact List.pairwise_singleton _ _
    · cases n with
      | zero => omega
      | succ n =>
        have hdiv : w64 (Int.tdiv (x.length : Int) 2) = ((x.length / 2 : Nat) : Int) := by
          rw [Int.tdiv_eq_ediv_of_nonneg (by omega), w64_id (by omega) (by omega)]
          omega
        have c1 : cut? x 0 ((x.length / 2 : Nat) : Int) = some (x.take (x.length / 2)) := by
          unfold cut?
          rw [if_pos ⟨by omega, by omega, by omega⟩]
          rfl
        have c2 : cut? x ((x.length / 2 : Nat) : Int) (x.length : Int) = some (x.drop (x.length / 2)) := by
          unfold cut?
          rw [if_pos ⟨by omega, by omega, by omega⟩]
          congr 1
          rw [Int.toNat_natCast, Int.toNat_natCast, List.take_of_length_le]
          rw [List.length_drop]
          exact Nat.le_refl _
        obtain ⟨y1, g1, p1, s1⟩ := sort_fuel n (x.take (x.length / 2)) (by rw [List.length_take]; omega) (by rw [List.length_take]; omega)
        obtain ⟨y2, g2, p2, s2⟩ := sort_fuel n (x.drop (x.length / 2)) (by rw [List.length_drop]; omega) (by rw [List.length_drop]; omega)
        have l1 := p1.length_eq
        have l2 := p2.length_eq
        rw [List.length_take] at l1
        rw [List.length_drop] at l2
        refine ⟨y1.merge y2 geK, ?_, ?_, List.pairwise_merge geK_trans geK_total _ _ s1 s2⟩
        · rw [pN_spec_l04Sort, pB_spec_l04Sort, if_f (by simp; omega), hdiv, c1, Option.bind_some, g1, Option.bind_some, c2, Option.bind_some, g2, Option.bind_some, merge_loop _ _ _ _ rfl (by simp; omega), Option.bind_some, List.nil_append]
        · refine (List.merge_perm_append geK).trans ?_
          refine (p1.append p2).trans ?_
          rw [List.take_append_drop]
theorem q_sort (x : List TLOp) (hx : x.length ≤ 1000000) : ∃ y, p_spec_l04Sort x = some y ∧ y.Perm x ∧ y.Pairwise fun a b => ltK TLOp.id b a = false := by
  obtain ⟨y, h1, h2, h3⟩ := sort_fuel x.length x (Nat.le_refl _) hx
  refine ⟨y, fixP_eq (n := x.length + 1) (fun n m b c => sort_det n m x b c) h1, h2, h3.imp ?_⟩
  intro a b h
  simpa [geK] using h
end Go.AM

set_option linter.unusedVariables false
set_option linter.unusedSimpArgs false
namespace Go.AM

theorem idD {a b : TStamp} : (decide (a.time = b.time) && decide (a.actor = b.actor)) = decide (a = b) := by
  cases a; cases b
  rw [← Bool.decide_and]
  apply decide_eq_decide.2
  simp
theorem opD {a b : TLOp} : (decide (a.kind = b.kind) && (decide (a.char = b.char) && (decide (a.id.time = b.id.time) && (decide (a.id.actor = b.id.actor) && (decide (a.at_.time = b.at_.time) && decide (a.at_.actor = b.at_.actor)))))) = decide (a = b) := by
  rw [Bool.eq_iff_iff]
  simp only [Bool.and_eq_true, decide_eq_true_eq]
  rcases a with ⟨_, _, ⟨_, _⟩, ⟨_, _⟩⟩
  rcases b with ⟨_, _, ⟨_, _⟩, ⟨_, _⟩⟩
  simp [and_assoc]
theorem last_get {α : Type} {l : List α} {q : α} (h : l.getLast? = some q) (hl : l.length ≤ 1000000) : 0 < l.length ∧ get? l (w64 ((l.length : Int) - 1)) = some q := by
  have h0 : 0 < l.length := by
    cases l with
    | nil => cases h
    | cons _ _ => simp
  refine ⟨h0, ?_⟩
  rw [w64_pred h0 (by omega), get_nat, ← List.getLast?_eq_getElem?, h]
theorem ded_loop (v : List TLOp) (hv : v.length ≤ 1000000) : ∀ (S : List TLOp) (i : Nat) (out : List TLOp), v.drop i = S → out.length ≤ i → i ≤ v.length → loopP (p_spec_l04Clean_l1 v) (out, (i : Int)) = some (match dedK TLOp.id out.getLast? S out with | some l => .out (l, (v.length : Int)) | none => .ret ⟨[], 16⟩)
  | [], i, out, hS, ho, hi => by
    have hi : i = v.length := by
      have := List.drop_eq_nil_iff.1 hS
      omega
    subst hi
    rw [loopP_out (s' := (out, (v.length : Int))) (by
      simp only [p_spec_l04Clean_l1]
      rw [if_f (by simp)])]
    cases out.getLast? <;> rfl
  | o :: S, i, out, hS, ho, hi => by
    have hlt : i < v.length := by
      rcases Nat.lt_or_ge i v.length with h | h
      · exact h
      · rw [List.drop_eq_nil_of_le h] at hS; cases hS
    have hg : v[i]? = some o := by
      have := congrArg (fun l => l[0]?) hS
      simpa using this
    have hS2 : v.drop (i + 1) = S := by
      have := congrArg List.tail hS
      simpa using this
    have hg2 : get? v (i : Int) = some o := by rw [get_nat]; exact hg
    have hd : decide ((i : Int) < (v.length : Int)) = true := by simpa using hlt
    have add : loopP (p_spec_l04Clean_l1 v) (out ++ [o], ((i + 1 : Nat) : Int)) = some (match dedK TLOp.id (some o) S (out ++ [o]) with | some l => .out (l, (v.length : Int)) | none => .ret ⟨[], 16⟩) := by
      have := ded_loop v hv S (i + 1) (out ++ [o]) hS2 (by simp; omega) hlt
      rw [List.getLast?_append, List.getLast?_singleton] at this
      exact this
    cases hq : out.getLast? with
    | none =>
      have e := List.getLast?_eq_none_iff.1 hq
      rw [loopP_go (s' := (out ++ [o], ((i + 1 : Nat) : Int))) (by
        simp only [p_spec_l04Clean_l1]
        rw [if_t hd, if_f (by simp [e]), hg2, Option.bind_some, app_one (by omega), Option.bind_some, w64_succ (by omega)]), add]
      rfl
    | some q =>
      obtain ⟨hp, hl⟩ := last_get hq (by omega)
      rw [dedK]
      by_cases e : q.id = o.id
      · by_cases e2 : q = o
        · rw [if_pos e, if_pos e2, loopP_go (s' := (out, ((i + 1 : Nat) : Int))) (by
            simp only [p_spec_l04Clean_l1]
            rw [if_t hd, if_t (by simpa using hp), hl, Option.bind_some, hg2, Option.bind_some, idD, if_t (decide_eq_true e), opD, if_t (decide_eq_true e2), w64_succ (by omega)])]
          have := ded_loop v hv S (i + 1) out hS2 (by omega) hlt
          rw [hq, e2] at this
          exact this
        · rw [if_pos e, if_neg e2]
          exact loopP_ret (by
            simp only [p_spec_l04Clean_l1]
            rw [if_t hd, if_t (by simpa using hp), hl, Option.bind_some, hg2, Option.bind_some, idD, if_t (decide_eq_true e), opD, if_f (decide_eq_false e2)])
      · rw [if_neg e, loopP_go (s' := (out ++ [o], ((i + 1 : Nat) : Int))) (by
          simp only [p_spec_l04Clean_l1]
          rw [if_t hd, if_t (by simpa using hp), hl, Option.bind_some, hg2, Option.bind_some, idD, if_f (decide_eq_false e), app_one (by omega), Option.bind_some, w64_succ (by omega)])]
        exact add

/-! ### Is it there? -/
structure HasI (l : List TLOp) (k : TStamp) (a b : Nat) : Prop where
  le : b ≤ l.length
  ne : l = [] ∧ a = 0 ∧ b = 0 ∨ a < b
  hi : ∀ (j : Nat) (x : TLOp), b ≤ j → l[j]? = some x → ltS k x.id = true
  lo : ∀ (j : Nat) (x : TLOp), j < a → l[j]? = some x → ltS x.id k = true
theorem rising_at {l : List TLOp} (hr : RisingK TLOp.id l) {i j : Nat} {x y : TLOp} (h : i < j) (hx : l[i]? = some x) (hy : l[j]? = some y) : ltS x.id y.id = true := by
  obtain ⟨hi, rfl⟩ := List.getElem?_eq_some_iff.1 hx
  obtain ⟨hj, rfl⟩ := List.getElem?_eq_some_iff.1 hy
  exact List.pairwise_iff_getElem.1 hr i j hi hj h
def hasB (l : List TLOp) (k : TStamp) : Bool := l.any fun x => decide (x.id = k ∧ x.kind = 1)
theorem q_has {l : List TLOp} (hr : RisingK TLOp.id l) (hl : l.length ≤ 1000000) (k : TStamp) : p_spec_l04Has l k = some (hasB l k) := by
  unfold p_spec_l04Has
  obtain ⟨e, h1, a, b, rfl, hI, hab⟩ := loopP_inv (step := p_spec_l04Has_l0 l k) (s := (0, (l.length : Int))) (fun s => ∃ a b : Nat, s = ((a : Int), (b : Int)) ∧ HasI l k a b) (fun s => (s.2 - s.1).toNat) (fun e => ∃ a b : Nat, e = .out ((a : Int), (b : Int)) ∧ HasI l k a b ∧ b ≤ a + 1) (by
    rintro _ ⟨a, b, rfl, hI⟩
    have hle := hI.le
    simp only [p_spec_l04Has_l0]
    by_cases h : a + 1 < b
    · have e1 : w64 ((b : Int) - (a : Int)) = (b : Int) - a := w64_id (by omega) (by omega)
      have e2 : w64 (Int.tdiv (w64 ((a : Int) + (b : Int))) 2) = (((a + b) / 2 : Nat) : Int) := by
        rw [w64_id (n := (a : Int) + (b : Int)) (by omega) (by omega), Int.tdiv_eq_ediv_of_nonneg (by omega), w64_id (by omega) (by omega)]
        omega
      rw [e1, if_t (by simp; omega), e2]
      obtain ⟨x, hx, hx'⟩ := get_lt (xs := l) (i := (a + b) / 2) (by omega)
      rw [hx, Option.bind_some, q_specLess, Option.bind_some]
      cases hlt : ltS k x.id with
      | true =>
        refine ⟨_, rfl, ⟨a, (a + b) / 2, rfl, by omega, .inr (by omega), fun j y hj hy => ?_, hI.lo⟩, by simp only; omega⟩
        rcases Nat.eq_or_lt_of_le hj with rfl | hj
        · rw [hx'] at hy; cases hy; exact hlt
        · exact ltS_trans hlt (rising_at hr hj hx' hy)
      | false =>
        refine ⟨_, rfl, ⟨(a + b) / 2, b, rfl, by omega, .inr (by omega), hI.hi, fun j y hj hy => ?_⟩, by simp only; omega⟩
        have := rising_at hr hj hy hx'
        exact ltK_le (key := TLOp.id) (x := y) (y := x) (z := ⟨0, 0, k, ⟨0, 0⟩⟩) this hlt
    · have e1 : w64 ((b : Int) - (a : Int)) = (b : Int) - a := by
        rcases hI.ne with ⟨_, h1, h2⟩ | h1
        · exact w64_id (by omega) (by omega)
        · exact w64_id (by omega) (by omega)
      rw [e1, if_f (by simp; omega)]
      exact ⟨_, rfl, a, b, rfl, hI, by omega⟩) ⟨0, l.length, rfl, Nat.le_refl _, by
        cases l with
        | nil => exact .inl ⟨rfl, rfl, rfl⟩
        | cons _ _ => exact .inr (by simp), (fun j x hj hx => by
          rw [List.getElem?_eq_none hj] at hx
          cases hx), (fun j x hj => absurd hj (Nat.not_lt_zero _))⟩
  rw [h1, Option.bind_some]
  have uniq : ∀ x, x ∈ l → x.id = k → l[a]? = some x := by
    intro x hx hk
    obtain ⟨j, hj⟩ := List.getElem?_of_mem hx
    have j1 : ¬ j < a := fun h => by
      have := hI.lo j x h hj
      rw [hk, ltS_irrefl] at this
      cases this
    have j2 : ¬ b ≤ j := fun h => by
      have := hI.hi j x h hj
      rw [hk, ltS_irrefl] at this
      cases this
    have : j = a := by omega
    rw [← this]
    exact hj
  simp only
  rcases hI.ne with ⟨rfl, rfl, rfl⟩ | hlt
  · rw [if_f (by simp)]
    rfl
  · rw [if_t (by simpa using hlt)]
    have hle := hI.le
    obtain ⟨x, hx, hx'⟩ := get_lt (xs := l) (i := a) (by omega)
    rw [hx, Option.bind_some, idD]
    by_cases e : x.id = k
    · rw [if_t (decide_eq_true e)]
      congr 1
      unfold hasB
      rw [Bool.eq_iff_iff, decide_eq_true_eq, List.any_eq_true]
      constructor
      · intro h
        exact ⟨x, List.mem_of_getElem? hx', decide_eq_true ⟨e, h⟩⟩
      · rintro ⟨y, hy, h⟩
        rw [decide_eq_true_eq] at h
        have := uniq y hy h.1
        rw [hx'] at this
        cases this
        exact h.2
    · rw [if_f (decide_eq_false e)]
      congr 1
      unfold hasB
      symm
      rw [Bool.eq_false_iff]
      intro h
      obtain ⟨y, hy, h⟩ := List.any_eq_true.1 h
      rw [decide_eq_true_eq] at h
      have := uniq y hy h.1
      rw [hx'] at this
      cases this
      exact e h.1
def thereB (l : List TLOp) : Bool := l.all fun o => decide (o.at_ = ⟨0, 0⟩) || hasB l o.at_
theorem thereB_iff {l : List TLOp} : thereB l = true ↔ There l := by
  unfold thereB There hasB
  rw [List.all_eq_true]
  constructor
  · intro h o ho
    have := h o ho
    rw [Bool.or_eq_true, decide_eq_true_eq, List.any_eq_true] at this
    rcases this with h | ⟨x, hx, h⟩
    · exact .inl h
    · rw [decide_eq_true_eq] at h
      exact .inr ⟨x, hx, h.2, h.1⟩
  · intro h o ho
    rw [Bool.or_eq_true, decide_eq_true_eq, List.any_eq_true]
    rcases h o ho with h | ⟨x, hx, h1, h2⟩
    · exact .inl h
    · exact .inr ⟨x, hx, decide_eq_true ⟨h2, h1⟩⟩
theorem q_there {l : List TLOp} (hr : RisingK TLOp.id l) (hl : l.length ≤ 1000000) : loopP (p_spec_l04Clean_l2 l) 0 = some (if thereB l then .out (l.length : Int) else .ret ⟨[], 5⟩) := by
  obtain ⟨e, h1, rfl⟩ := loop_count (step := p_spec_l04Clean_l2 l) l.length (fun i s => s = (i : Int) ∧ ((l.take i).all fun o => decide (o.at_ = ⟨0, 0⟩) || hasB l o.at_) = true) (fun e => e = if thereB l then .out (l.length : Int) else .ret ⟨[], 5⟩) (by
      rintro i s hi ⟨rfl, h2⟩
      obtain ⟨a, ha, ha'⟩ := get_lt (xs := l) hi
      have hd : decide ((i : Int) < (l.length : Int)) = true := by simpa using hi
      simp only [p_spec_l04Clean_l2]
      rw [if_t hd, ha, Option.bind_some, q_noneS, Option.bind_some, w64_succ (by omega), q_has hr hl, Option.bind_some]
      by_cases e : a.at_ = ⟨0, 0⟩
      · rw [if_t (decide_eq_true e)]
        exact .inl ⟨_, rfl, rfl, by rw [take_next ha', List.all_append, h2]; simp [e]⟩
      · rw [if_f (decide_eq_false e)]
        cases hh : hasB l a.at_ with
        | true => exact .inl ⟨_, rfl, rfl, by rw [take_next ha', List.all_append, h2]; simp [hh]⟩
        | false =>
          refine .inr (.inr ⟨_, rfl, ?_⟩)
          rw [if_neg]
          intro h
          have := List.all_eq_true.1 h a (List.mem_of_getElem? ha')
          rw [hh, decide_eq_false e] at this
          cases this)
      (by
      rintro s ⟨rfl, h2⟩
      have hd : decide ((l.length : Int) < (l.length : Int)) = false := by simp
      simp only [p_spec_l04Clean_l2]
      rw [if_f hd]
      rw [List.take_length] at h2
      exact .inl ⟨_, rfl, by rw [if_pos (show thereB l = true from h2)]⟩) (s := 0) ⟨rfl, rfl⟩
  exact h1

/-- What both say of a list of operations. -/
structure Good (x0 l : List TLOp) : Prop where
  grows : Grows l
  len : l.length ≤ 2048
  ok : ∀ o, o ∈ l → lopK o = true
  list : ∃ g, listM x0 = some ⟨some ⟨l, cellsL l, g, placeG [] 0 (cellsL l)⟩, 0⟩ ∧ ∀ k, k ∈ g ↔ ∃ o, o ∈ l ∧ o.kind ≠ 1 ∧ o.at_ = k
theorem clean_both (x0 : List TLOp) (hx : x0.length < 9223372036854775807) : (∃ c : Int, c ≠ 0 ∧ p_spec_l04Clean x0 = some ⟨[], c⟩ ∧ listM x0 = some ⟨none, c⟩) ∨ ∃ l, p_spec_l04Clean x0 = some ⟨l, 0⟩ ∧ Good x0 l := by
  unfold p_spec_l04Clean
  by_cases h1 : 2048 < x0.length
  · rw [if_t (by simp; omega)]
    refine .inl ⟨2, by decide, rfl, ?_⟩
    unfold listM
    rw [if_pos h1]
  rw [if_f (by simp; omega), q_scan x0 (by omega), Option.bind_some]
  cases h2 : x0.all lopK with
  | false =>
    refine .inl ⟨1, by decide, rfl, ?_⟩
    unfold listM
    rw [if_neg h1, if_pos h2]
  | true =>
    rw [if_pos rfl]
    simp only
    obtain ⟨v, e1, hp, hs⟩ := q_sort x0 (by omega)
    have hvl := hp.length_eq
    have hd := ded_loop v (by omega) v 0 [] rfl (Nat.le_refl _) (Nat.zero_le _)
    have hc : CleanK TLOp.id x0 (dedK TLOp.id none v []) := by
      have h2 := dedK_clean (key := TLOp.id) v none [] [] (fun x y h => absurd h (by simp)) hs List.Pairwise.nil (fun x => Iff.rfl) rfl
      rw [List.nil_append] at h2
      cases hr : dedK TLOp.id none v [] with
      | some l =>
        rw [hr] at h2
        exact ⟨h2.1, fun x => (h2.2 x).trans hp.mem_iff⟩
      | none =>
        rw [hr] at h2
        obtain ⟨x, y, hx, hy, hc⟩ := h2
        exact ⟨x, y, hp.mem_iff.1 hx, hp.mem_iff.1 hy, hc⟩
    have he := cleanK_eq (ded_clean x0) hc
    rw [e1, Option.bind_some]
    have hd : loopP (p_spec_l04Clean_l1 v) ([], 0) = _ := hd
    rw [hd, Option.bind_some]
    have hnl : ([] : List TLOp).getLast? = none := rfl
    rw [hnl, ← he]
    cases h3 : dedK TLOp.id none (sortL (ltK TLOp.id) x0) [] with
    | none =>
      refine .inl ⟨16, by decide, rfl, ?_⟩
      unfold listM
      rw [if_neg h1, if_neg (by rw [h2]; simp), h3]
    | some l =>
      simp only
      have hcl := ded_clean x0
      rw [h3] at hcl
      have hll : l.length ≤ 2048 := by
        have := dedK_len _ _ _ _ h3
        rw [sortL_len (ltK_swo TLOp.id)] at this
        simp only [List.length_nil] at this
        omega
      rw [q_there hcl.1 (by omega), Option.bind_some]
      cases h4 : thereB l with
      | false =>
        have : ¬ There l := fun h => by rw [thereB_iff.2 h] at h4; cases h4
        exact .inl ⟨5, by decide, rfl, listM_none h1 h2 h3 this⟩
      | true =>
        have ht := thereB_iff.1 h4
        obtain ⟨g, hg, hg2⟩ := listM_some h1 h2 h3 ht
        exact .inr ⟨l, rfl, grows_of h2 h3 ht, hll, fun o ho => List.all_eq_true.1 h2 o ((hcl.2 o).1 ho), g, hg, hg2⟩
end Go.AM

set_option linter.unusedVariables false
set_option linter.unusedSimpArgs false
namespace Go.AM

def cellO (o : TLOp) : TLCell := ⟨o.id, o.char, true⟩
theorem buildC_app : ∀ (l m : List TLOp) (out : List TLCell), buildC (l ++ m) out = (buildC l out).bind (buildC m)
  | [], m, out => rfl
  | o :: l, m, out => by
    rw [List.cons_append, buildC, buildC]
    split
    · split
      · cases insC o out with
        | none => rfl
        | some out2 => exact buildC_app l m out2
      · rfl
    · exact buildC_app l m out
theorem findC_map {q : TStamp} : ∀ (out : List TLOp), findC q (out.map cellO) = firstL q out
  | [] => rfl
  | o :: out => by
    rw [List.map_cons, findC, firstL, findC_map out]
    rfl
theorem build_ok : ∀ (l : List TLOp), Grows l → l.length ≤ 1000000 → buildC l [] = some ((cellsL l).map cellO) := by
  refine snoc_ind ?_ ?_
  · intro _ _; rfl
  · intro l o ih g hl
    rw [List.length_append] at hl
    rw [buildC_app, ih g.init (by omega), Option.bind_some, buildC, cellsL_snoc]
    by_cases hk : o.kind = 1
    · have hcl := cells_len g.init
      rw [if_pos hk, if_pos hk, if_pos (by rw [List.length_map]; omega)]
      unfold insC putB
      by_cases e : o.at_ = ⟨0, 0⟩
      · rw [if_pos e, if_pos e]
        rfl
      · rw [if_neg e, if_neg e, findC_map]
        have hin : o.at_ ∈ (cellsL l).map TLOp.id := by
          rcases g.there o (by simp) with e2 | ⟨x, hx, hk2, he⟩
          · exact absurd e2 e
          · rcases List.mem_append.1 hx with hx | hx
            · rw [← he]
              exact List.mem_map_of_mem ((cells_mem g.init).2 ⟨hx, hk2⟩)
            · rw [List.mem_singleton.1 hx] at he
              rcases g.lt o (by simp) with e2 | e2
              · exact absurd e2 e
              · rw [← he, ltS_irrefl] at e2
                cases e2
        obtain ⟨a, h1, h2, h3⟩ := insB_at (o := o) (cellsL_ok l g.init).nod hin
        rw [h1, h3]
        simp only [Option.map_some, Option.bind_some, buildC, List.map_append, List.map_cons, List.map_take, List.map_drop]
        rfl
    · rw [if_neg hk, if_neg hk]
      rfl
def goneB (l : List TLOp) (k : TStamp) : Bool := l.any fun o => decide (o.kind = 2 ∧ o.at_ = k)
def hidB (l : List TLOp) (c : TLCell) : TLCell := if goneB l c.id then ⟨c.id, c.char, false⟩ else c
theorem delC_eq : ∀ (l : List TLOp) (out : List TLCell), delC l out = out.map (hidB l)
  | [], out => by
    rw [delC]
    have : hidB [] = id := by funext c; rfl
    rw [this, List.map_id]
  | o :: l, out => by
    rw [delC, delC_eq l]
    split
    · rename_i hk
      rw [List.map_map]
      congr 1
      funext c
      show hidB l (hideC o.at_ c) = hidB (o :: l) c
      have eg : goneB (o :: l) c.id = (decide (o.at_ = c.id) || goneB l c.id) := by unfold goneB; rw [List.any_cons]; simp [hk]
      by_cases e : c.id = o.at_
      · rw [show hideC o.at_ c = ⟨c.id, c.char, false⟩ from if_pos e]
        unfold hidB
        rw [eg, decide_eq_true e.symm, Bool.true_or, if_pos rfl]
        simp only [ite_self]
      · rw [show hideC o.at_ c = c from if_neg e]
        unfold hidB
        rw [eg, decide_eq_false (fun h => e h.symm), Bool.false_or]
    · rename_i hk
      congr 1
      funext c
      have : decide (o.kind = 2 ∧ o.at_ = c.id) = false := decide_eq_false (fun h => hk h.1)
      have eg : goneB (o :: l) c.id = goneB l c.id := by unfold goneB; rw [List.any_cons, this, Bool.false_or]
      unfold hidB
      rw [eg]
def markC (l : List TLOp) (o : TLOp) : TLCell := ⟨o.id, o.char, !goneB l o.id⟩
theorem hid_mark {l : List TLOp} {o : TLOp} : hidB l (cellO o) = markC l o := by
  unfold hidB cellO markC
  simp only
  cases goneB l o.id <;> rfl
theorem q_cells {l : List TLOp} (g : Grows l) (hl : l.length ≤ 1000000) : p_spec_l04Cells l = some ((cellsL l).map (markC l)) := by
  unfold p_spec_l04Cells
  have := cells_len g
  rw [if_pos hl, build_ok l g hl, Option.bind_some, if_pos (by rw [List.length_map]; omega), delC_eq, List.map_map]
  congr 1
  congr 1
  funext o
  exact hid_mark
theorem q_seenS (x : List TLCell) (hx : x.length ≤ 1000000) : p_spec_l04Seen x = some (x.filter TLCell.seen) := by
  unfold p_spec_l04Seen
  obtain ⟨e, h1, rfl⟩ := loop_count (step := p_spec_l04Seen_l0 x) x.length (fun i s => s = ((x.take i).filter TLCell.seen, (i : Int))) (fun e => e = .out (x.filter TLCell.seen, (x.length : Int))) (by
      rintro i s hi rfl
      obtain ⟨a, ha, ha'⟩ := get_lt (xs := x) hi
      have hd : decide ((i : Int) < (x.length : Int)) = true := by simpa using hi
      have hlen : ((x.take i).filter TLCell.seen).length ≤ i := Nat.le_trans (List.length_filter_le _ _) (by rw [List.length_take]; omega)
      simp only [p_spec_l04Seen_l0]
      rw [if_t hd, ha, Option.bind_some]
      cases hs : a.seen with
      | true =>
        rw [if_t rfl, app_one (by omega), Option.bind_some, w64_succ (by omega)]
        exact .inl ⟨_, rfl, by rw [take_next ha', List.filter_append, List.filter_cons, hs]; rfl⟩
      | false =>
        rw [if_f rfl, w64_succ (by omega)]
        exact .inl ⟨_, rfl, by rw [take_next ha', List.filter_append, List.filter_cons, hs]; simp⟩)
      (by
      rintro s rfl
      have hd : decide ((x.length : Int) < (x.length : Int)) = false := by simp
      simp only [p_spec_l04Seen_l0]
      rw [if_f hd, List.take_length]
      exact .inl ⟨_, rfl, rfl⟩) (s := ([], 0)) rfl
  rw [h1, Option.bind_some]
theorem isGone_iff {g : List TStamp} {k : TStamp} : isGone g k = true ↔ k ∈ g := by
  unfold isGone
  constructor
  · intro h
    obtain ⟨j, hj⟩ := Option.isSome_iff_exists.1 h
    exact List.mem_of_getElem? (idxK_lt hj)
  · intro h
    obtain ⟨j, hj⟩ := idxK_mem h
    rw [hj]; rfl
theorem gone_both {x0 l : List TLOp} {g : List TStamp} (h : Good x0 l) (hg : ∀ k, k ∈ g ↔ ∃ o, o ∈ l ∧ o.kind ≠ 1 ∧ o.at_ = k) (k : TStamp) : isGone g k = goneB l k := by
  rw [Bool.eq_iff_iff, isGone_iff, hg]
  unfold goneB
  rw [List.any_eq_true]
  constructor
  · rintro ⟨o, ho, hk, e⟩
    refine ⟨o, ho, decide_eq_true ⟨?_, e⟩⟩
    have := h.ok o ho
    unfold lopK at this
    rw [Bool.and_eq_true, if_neg hk] at this
    by_cases h2 : o.kind = 2
    · exact h2
    · rw [if_neg h2] at this
      cases this.2
  · rintro ⟨o, ho, hk⟩
    rw [decide_eq_true_eq] at hk
    exact ⟨o, ho, by rw [hk.1]; decide, hk.2⟩
def seenC (l : List TLOp) : List TLOp := (cellsL l).filter fun o => !goneB l o.id
theorem seen_spec (l : List TLOp) : ((cellsL l).map (markC l)).filter TLCell.seen = (seenC l).map cellO := by
  rw [List.filter_map]
  unfold seenC
  refine List.map_congr_left fun o ho => ?_
  have := (List.mem_filter.1 ho).2
  unfold markC cellO
  simp only [Function.comp, markC] at this
  rw [this]
theorem seen_impl {x0 l : List TLOp} {g : List TStamp} {pl} (h : Good x0 l) (hg : ∀ k, k ∈ g ↔ ∃ o, o ∈ l ∧ o.kind ≠ 1 ∧ o.at_ = k) : p_impl_list_seen (some ⟨l, cellsL l, g, pl⟩) = some (seenC l) := by
  unfold p_impl_list_seen
  have := cells_len h.grows
  have := h.len
  rw [Option.bind_some, if_pos (by simp only; omega)]
  congr 1
  unfold seenL seenC
  simp only [gone_both h hg]
theorem seenC_len {x0 l : List TLOp} (h : Good x0 l) : (seenC l).length ≤ 2048 := by
  have := cells_len h.grows
  have := h.len
  have := List.length_filter_le (fun o => !goneB l o.id) (cellsL l)
  unfold seenC
  omega
end Go.AM

set_option linter.unusedVariables false
set_option linter.unusedSimpArgs false
namespace Go.AM

def zipF : Int → List TLOp → List (TStamp × Int)
  | _, [] => []
  | n, o :: C => (o.id, n) :: zipF (n + 1) C
theorem zipF_fst : ∀ {n : Int} {C : List TLOp}, (zipF n C).map Prod.fst = C.map TLOp.id
  | _, [] => rfl
  | n, o :: C => by rw [zipF, List.map_cons, zipF_fst]; rfl
theorem placeG_app : ∀ (C : List TLOp) (p : List (TStamp × Int)) (n : Nat), (p.map Prod.fst ++ C.map TLOp.id).Nodup → placeG p n C = p ++ zipF (n : Int) C
  | [], p, n, _ => by rw [placeG, zipF, List.append_nil]
  | o :: C, p, n, h => by
    have hno : idxK (p.map Prod.fst) o.id = none := by
      cases e : idxK (p.map Prod.fst) o.id with
      | none => rfl
      | some j =>
        rw [List.nodup_append] at h
        exact absurd rfl (h.2.2 _ (List.mem_of_getElem? (idxK_lt e)) o.id (by simp))
    have hs : setP p o.id (n : Int) = p ++ [(o.id, (n : Int))] := by unfold setP; rw [hno]
    rw [placeG, hs, placeG_app C _ _ (by simpa using h), zipF, List.append_assoc]
    rfl
theorem placeG_eq {C : List TLOp} (h : (C.map TLOp.id).Nodup) : placeG [] 0 C = zipF 0 C := by
  rw [placeG_app C [] 0 (by simpa using h)]
  rfl
theorem q_markOK (m : TMark) : p_spec_l05MarkOK m = some (markK m) := by
  unfold p_spec_l05MarkOK markK
  simp only [q_specOKl, Option.bind_some]
  cases stOK m.id <;> cases stOK m.from_ <;> cases stOK m.to <;> simp
  by_cases h : 1 ≤ m.kind <;> by_cases h2 : m.kind ≤ 8 <;> simp [h, h2]
theorem q_scanM (x : List TMark) (hx : x.length < 9223372036854775807) : loopP (p_spec_l05Clean_l0 x) 0 = some (if x.all markK then .out (x.length : Int) else .ret ⟨[], [], 1⟩) := by
  obtain ⟨e, h1, rfl⟩ := loop_count (step := p_spec_l05Clean_l0 x) x.length (fun i s => s = (i : Int) ∧ (x.take i).all markK = true) (fun e => e = if x.all markK then .out (x.length : Int) else .ret ⟨[], [], 1⟩) (by
      rintro i s hi ⟨rfl, h2⟩
      obtain ⟨a, ha, ha'⟩ := get_lt (xs := x) hi
      have hd : decide ((i : Int) < (x.length : Int)) = true := by simpa using hi
      simp only [p_spec_l05Clean_l0]
      rw [if_t hd, ha, Option.bind_some, q_markOK, Option.bind_some, w64_succ (by omega)]
      cases hl : markK a with
      | true => exact .inl ⟨_, rfl, rfl, by rw [take_next ha', List.all_append, h2]; simp [hl]⟩
      | false =>
        refine .inr (.inr ⟨_, rfl, ?_⟩)
        rw [if_neg]
        intro h
        have := List.all_eq_true.1 h a (List.mem_of_getElem? ha')
        rw [hl] at this
        cases this)
      (by
      rintro s ⟨rfl, h2⟩
      have hd : decide ((x.length : Int) < (x.length : Int)) = false := by simp
      simp only [p_spec_l05Clean_l0]
      rw [if_f hd]
      rw [List.take_length] at h2
      exact .inl ⟨_, rfl, by rw [if_pos h2]⟩) (s := 0) ⟨rfl, rfl⟩
  exact h1
theorem markD {a b : TMark} : (decide (a.id.time = b.id.time) && (decide (a.id.actor = b.id.actor) && (decide (a.from_.time = b.from_.time) && (decide (a.from_.actor = b.from_.actor) && (decide (a.to.time = b.to.time) && (decide (a.to.actor = b.to.actor) && (decide (a.kind = b.kind) && (a.on == b.on)))))))) = decide (a = b) := by
  rw [Bool.eq_iff_iff]
  simp only [Bool.and_eq_true, decide_eq_true_eq, beq_iff_eq]
  rcases a with ⟨⟨_, _⟩, ⟨_, _⟩, ⟨_, _⟩, _, _⟩
  rcases b with ⟨⟨_, _⟩, ⟨_, _⟩, ⟨_, _⟩, _, _⟩
  simp [and_assoc]
/-- One more mark; none: one with its Id differs. -/
def clash (acc : List TMark) (m : TMark) : Bool := acc.any fun k => decide (k.id = m.id) && !decide (k = m)
def hasId (acc : List TMark) (m : TMark) : Bool := acc.any fun k => decide (k.id = m.id)
def addM (acc : List TMark) (m : TMark) : Option (List TMark) := if clash acc m then none else if hasId acc m then some acc else some (acc ++ [m])
def firstsM : List TMark → List TMark → Option (List TMark)
  | [], acc => some acc
  | m :: l, acc => (addM acc m).bind (firstsM l)
theorem q_twinM (x acc : List TMark) (j : Nat) (m : TMark) (hm : get? x (j : Int) = some m) (ha : acc.length ≤ 1000000) : ∃ e, loopP (p_spec_l05Clean_l2 x acc (j : Int)) (false, 0) = some e ∧ if clash acc m then e = .ret ⟨[], [], 16⟩ else ∃ i, e = .out (hasId acc m, i) := by
  refine loop_count (step := p_spec_l05Clean_l2 x acc (j : Int)) acc.length (fun i s => s = (hasId (acc.take i) m, (i : Int)) ∧ clash (acc.take i) m = false) (fun e => if clash acc m then e = .ret ⟨[], [], 16⟩ else ∃ i, e = .out (hasId acc m, i)) (by
      rintro i s hi ⟨rfl, hc⟩
      obtain ⟨a, hga, ha'⟩ := get_lt (xs := acc) hi
      have hd : decide ((i : Int) < (acc.length : Int)) = true := by simpa using hi
      have eh : hasId (acc.take (i + 1)) m = (hasId (acc.take i) m || decide (a.id = m.id)) := by
        unfold hasId
        rw [take_next ha', List.any_append]
        simp
      have ec : clash (acc.take (i + 1)) m = (decide (a.id = m.id) && !decide (a = m)) := by
        unfold clash at hc ⊢
        rw [take_next ha', List.any_append, hc]
        simp
      simp only [p_spec_l05Clean_l2]
      rw [if_t hd, hga, Option.bind_some, hm, Option.bind_some, idD, markD, w64_succ (by omega)]
      by_cases e1 : a.id = m.id
      · rw [if_t (decide_eq_true e1)]
        by_cases e2 : a = m
        · rw [if_t (decide_eq_true e2)]
          exact .inl ⟨_, rfl, by rw [eh, decide_eq_true e1, Bool.or_true], by rw [ec, decide_eq_true e2]; simp⟩
        · rw [if_f (decide_eq_false e2)]
          refine .inr (.inr ⟨_, rfl, ?_⟩)
          have : clash acc m = true := by
            unfold clash
            refine List.any_eq_true.2 ⟨a, List.mem_of_getElem? ha', ?_⟩
            rw [decide_eq_true e1, decide_eq_false e2]; rfl
          rw [if_pos this]
      · rw [if_f (decide_eq_false e1)]
        exact .inl ⟨_, rfl, by rw [eh, decide_eq_false e1, Bool.or_false], by rw [ec, decide_eq_false e1]; rfl⟩)
      (by
      rintro s ⟨rfl, hc⟩
      have hd : decide ((acc.length : Int) < (acc.length : Int)) = false := by simp
      simp only [p_spec_l05Clean_l2]
      rw [if_f hd]
      rw [List.take_length] at hc ⊢
      exact .inl ⟨_, rfl, by rw [hc]; exact ⟨_, rfl⟩⟩) (s := (false, 0)) ⟨rfl, rfl⟩
theorem addM_len {acc acc' : List TMark} {m : TMark} (h : addM acc m = some acc') : acc'.length ≤ acc.length + 1 := by
  unfold addM at h
  split at h
  · cases h
  · split at h
    · cases h; omega
    · cases h; simp
theorem q_firsts (x : List TMark) (hx : x.length ≤ 2048) : ∀ (S : List TMark) (i : Nat) (acc : List TMark), x.drop i = S → acc.length ≤ i → i ≤ x.length → loopP (p_spec_l05Clean_l3 x) (acc, (i : Int)) = some (match firstsM S acc with | some l => .out (l, (x.length : Int)) | none => .ret ⟨[], [], 16⟩)
  | [], i, acc, hS, ho, hi => by
    have hi : i = x.length := by
      have := List.drop_eq_nil_iff.1 hS
      omega
    subst hi
    exact loopP_out (by simp only [p_spec_l05Clean_l3]; rw [if_f (by simp)])
  | m :: S, i, acc, hS, ho, hi => by
    have hlt : i < x.length := by
      rcases Nat.lt_or_ge i x.length with h | h
      · exact h
      · rw [List.drop_eq_nil_of_le h] at hS; cases hS
    have hg : x[i]? = some m := by
      have := congrArg (fun l => l[0]?) hS
      simpa using this
    have hS2 : x.drop (i + 1) = S := by
      have := congrArg List.tail hS
      simpa using this
    have hg2 : get? x (i : Int) = some m := by rw [get_nat]; exact hg
    have hd : decide ((i : Int) < (x.length : Int)) = true := by simpa using hlt
    obtain ⟨e, h1, h2⟩ := q_twinM x acc i m hg2 (by omega)
    rw [firstsM]
    cases hc : clash acc m with
    | true =>
      rw [hc] at h2
      simp only [if_true] at h2
      subst h2
      have : addM acc m = none := by unfold addM; rw [if_pos hc]
      rw [this]
      exact loopP_ret (by simp only [p_spec_l05Clean_l3]; rw [if_t hd, h1, Option.bind_some])
    | false =>
      rw [hc] at h2
      simp only [Bool.false_eq_true, if_false] at h2
      obtain ⟨k, rfl⟩ := h2
      cases hh : hasId acc m with
      | true =>
        rw [hh] at h1
        have : addM acc m = some acc := by unfold addM; rw [if_neg (by rw [hc]; simp), if_pos hh]
        rw [this, Option.bind_some, loopP_go (s' := (acc, ((i + 1 : Nat) : Int))) (by simp only [p_spec_l05Clean_l3]; rw [if_t hd, h1, Option.bind_some]; simp only [if_true]; rw [w64_succ (by omega)])]
        exact q_firsts x hx S (i + 1) acc hS2 (by omega) hlt
      | false =>
        rw [hh] at h1
        have : addM acc m = some (acc ++ [m]) := by unfold addM; rw [if_neg (by rw [hc]; simp), if_neg (by rw [hh]; simp)]
        rw [this, Option.bind_some, loopP_go (s' := (acc ++ [m], ((i + 1 : Nat) : Int))) (by simp only [p_spec_l05Clean_l3]; rw [if_t hd, h1, Option.bind_some]; simp only [Bool.false_eq_true, if_false]; rw [hg2, Option.bind_some, app_one (by omega), Option.bind_some, w64_succ (by omega)])]
        exact q_firsts x hx S (i + 1) (acc ++ [m]) hS2 (by simp; omega) hlt
/-- Of one Id the first, in the order they stand. -/
structure Firsts (x l : List TMark) : Prop where
  ids : l.Pairwise fun a b => a.id ≠ b.id
  mem : ∀ m, m ∈ l ↔ m ∈ x
theorem firstsM_ok : ∀ (S acc done : List TMark), Firsts done acc → match firstsM S acc with
    | some l => Firsts (done ++ S) l
    | none => ∃ a b, a ∈ done ++ S ∧ b ∈ done ++ S ∧ ConfK TMark.id a b
  | [], acc, done, h => by rw [List.append_nil]; exact h
  | m :: S, acc, done, h => by
    have e : done ++ m :: S = (done ++ [m]) ++ S := by simp
    rw [firstsM]
    cases hc : clash acc m with
    | true =>
      have : addM acc m = none := by unfold addM; rw [if_pos hc]
      rw [this]
      unfold clash at hc
      obtain ⟨k, hk, hk2⟩ := List.any_eq_true.1 hc
      simp only [Bool.and_eq_true, decide_eq_true_eq, Bool.not_eq_true', decide_eq_false_iff_not] at hk2
      exact ⟨k, m, List.mem_append_left _ ((h.mem k).1 hk), by simp, hk2.1, hk2.2⟩
    | false =>
      cases hh : hasId acc m with
      | true =>
        have : addM acc m = some acc := by unfold addM; rw [if_neg (by rw [hc]; simp), if_pos hh]
        rw [this, Option.bind_some, e]
        refine firstsM_ok S acc (done ++ [m]) ⟨h.ids, fun k => ?_⟩
        rw [h.mem, List.mem_append, List.mem_singleton]
        constructor
        · exact .inl
        · rintro (h1 | rfl)
          · exact h1
          · unfold hasId at hh
            obtain ⟨q, hq, hq2⟩ := List.any_eq_true.1 hh
            rw [decide_eq_true_eq] at hq2
            have : q = k := by
              by_cases e : q = k
              · exact e
              · have : clash acc k = true := by
                  unfold clash
                  refine List.any_eq_true.2 ⟨q, hq, ?_⟩
                  rw [decide_eq_true hq2, decide_eq_false e]; rfl
                rw [hc] at this
                cases this
            exact (h.mem k).1 (this ▸ hq)
      | false =>
        have : addM acc m = some (acc ++ [m]) := by unfold addM; rw [if_neg (by rw [hc]; simp), if_neg (by rw [hh]; simp)]
        rw [this, Option.bind_some, e]
        refine firstsM_ok S (acc ++ [m]) (done ++ [m]) ⟨?_, fun k => by rw [List.mem_append, List.mem_append, h.mem]⟩
        rw [List.pairwise_append]
        refine ⟨h.ids, List.pairwise_singleton _ _, fun a ha b hb => ?_⟩
        rw [List.mem_singleton.1 hb]
        intro e
        have : hasId acc m = true := by
          unfold hasId
          exact List.any_eq_true.2 ⟨a, ha, decide_eq_true e⟩
        rw [hh] at this
        cases this
def placedB (l : List TLOp) (ms : List TMark) : Bool := ms.all fun m => hasB l m.from_ && hasB l m.to
theorem q_placed (l : List TLOp) (hr : RisingK TLOp.id l) (hl : l.length ≤ 1000000) (v : T2 (List TLOp) Int) (hv : v.a = l) (ms : List TMark) (hm : ms.length ≤ 1000000) : loopP (p_spec_l05Clean_l4 v ms) 0 = some (if placedB l ms then .out (ms.length : Int) else .ret ⟨[], [], 5⟩) := by
  subst hv
  obtain ⟨e, h1, rfl⟩ := loop_count (step := p_spec_l05Clean_l4 v ms) ms.length (fun i s => s = (i : Int) ∧ placedB v.a (ms.take i) = true) (fun e => e = if placedB v.a ms then .out (ms.length : Int) else .ret ⟨[], [], 5⟩) (by
      rintro i s hi ⟨rfl, h2⟩
      obtain ⟨a, ha, ha'⟩ := get_lt (xs := ms) hi
      have hd : decide ((i : Int) < (ms.length : Int)) = true := by simpa using hi
      have hbad : (hasB v.a a.from_ && hasB v.a a.to) = false → placedB v.a ms = false := by
        intro hb
        rw [Bool.eq_false_iff]
        intro h
        have := List.all_eq_true.1 h a (List.mem_of_getElem? ha')
        rw [hb] at this
        cases this
      simp only [p_spec_l05Clean_l4]
      rw [if_t hd, ha, Option.bind_some, q_has hr hl, Option.bind_some, q_has hr hl, w64_succ (by omega)]
      cases h3 : hasB v.a a.from_ with
      | false => exact .inr (.inr ⟨_, rfl, by rw [hbad (by rw [h3]; rfl)]; rfl⟩)
      | true =>
        rw [if_t rfl, Option.bind_some]
        cases h4 : hasB v.a a.to with
        | false => exact .inr (.inr ⟨_, rfl, by rw [hbad (by rw [h3, h4]; rfl)]; rfl⟩)
        | true =>
          refine .inl ⟨_, rfl, rfl, ?_⟩
          unfold placedB at h2 ⊢
          rw [take_next ha', List.all_append, h2]
          simp [h3, h4])
      (by
      rintro s ⟨rfl, h2⟩
      have hd : decide ((ms.length : Int) < (ms.length : Int)) = false := by simp
      simp only [p_spec_l05Clean_l4]
      rw [if_f hd]
      rw [List.take_length] at h2
      exact .inl ⟨_, rfl, by rw [if_pos h2]⟩) (s := 0) ⟨rfl, rfl⟩
  exact h1
theorem inPl_has {l : List TLOp} (g : Grows l) (k : TStamp) : inPl (placeG [] 0 (cellsL l)) k = hasB l k := by
  unfold inPl
  rw [placeG_eq (cellsL_ok l g).nod, zipF_fst, Bool.eq_iff_iff]
  unfold hasB
  rw [List.any_eq_true]
  constructor
  · intro h
    obtain ⟨j, hj⟩ := Option.isSome_iff_exists.1 h
    obtain ⟨x, hx, e⟩ := List.mem_map.1 (List.mem_of_getElem? (idxK_lt hj))
    have := (cells_mem g).1 hx
    exact ⟨x, this.1, decide_eq_true ⟨e, this.2⟩⟩
  · rintro ⟨x, hx, h⟩
    rw [decide_eq_true_eq] at h
    have hm : k ∈ (cellsL l).map TLOp.id := by rw [← h.1]; exact List.mem_map_of_mem ((cells_mem g).2 ⟨hx, h.2⟩)
    obtain ⟨j, hj⟩ := idxK_mem hm
    rw [hj]; rfl

/-- What both say of a text and its marks. -/
structure Rich (x0 : List TLOp) (x1 : List TMark) (l : List TLOp) (ml ms : List TMark) : Prop where
  good : Good x0 l
  firsts : Firsts x1 ml
  up : RisingK TMark.id ms
  mem : ∀ m, m ∈ ms ↔ m ∈ x1
  len : ms.length ≤ 2048
  len2 : ml.length ≤ 2048
  ok : ∀ m, m ∈ x1 → markK m = true
  placed : placedB l ms = true
  list : ∃ g, p_impl_readRich x0 x1 = some ⟨some ⟨l, cellsL l, g, placeG [] 0 (cellsL l)⟩, ms, 0⟩ ∧ ∀ k, k ∈ g ↔ ∃ o, o ∈ l ∧ o.kind ≠ 1 ∧ o.at_ = k
theorem firsts_len : ∀ (S acc l : List TMark), firstsM S acc = some l → l.length ≤ acc.length + S.length
  | [], acc, l, h => by cases h; simp
  | m :: S, acc, l, h => by
    rw [firstsM] at h
    obtain ⟨a, h1, h2⟩ := Option.bind_eq_some_iff.1 h
    have := firsts_len S a l h2
    have := addM_len h1
    simp only [List.length_cons]
    omega
theorem dedM_clean (x1 : List TMark) : CleanK TMark.id x1 (dedK TMark.id none (sortL (ltK TMark.id) x1) []) := by
  have h2 := dedK_clean (key := TMark.id) (sortL (ltK TMark.id) x1) none [] [] (fun x y h => absurd h (by simp)) (sortL_sorted (ltK_swo TMark.id) x1) List.Pairwise.nil (fun x => Iff.rfl) rfl
  rw [List.nil_append] at h2
  have hp := sortL_perm (ltK_swo TMark.id) x1
  cases hr : dedK TMark.id none (sortL (ltK TMark.id) x1) [] with
  | some l =>
    rw [hr] at h2
    exact ⟨h2.1, fun x => (h2.2 x).trans hp.mem_iff⟩
  | none =>
    rw [hr] at h2
    obtain ⟨x, y, hx, hy, hc⟩ := h2
    exact ⟨x, y, hp.mem_iff.1 hx, hp.mem_iff.1 hy, hc⟩
theorem rich_both (x0 : List TLOp) (x1 : List TMark) (h0 : x0.length < 9223372036854775807) (h1 : x1.length < 9223372036854775807) : (∃ c : Int, c ≠ 0 ∧ p_spec_l05Clean x0 x1 = some ⟨[], [], c⟩ ∧ p_impl_readRich x0 x1 = some ⟨none, [], c⟩) ∨
    ∃ l ml ms, p_spec_l05Clean x0 x1 = some ⟨(cellsL l).map (markC l), ml, 0⟩ ∧ Rich x0 x1 l ml ms := by
  unfold p_spec_l05Clean p_impl_readRich p_impl_readList
  by_cases hm : 2048 < x1.length
  · refine .inl ⟨2, by decide, ?_, by rw [if_pos hm]⟩
    by_cases ho : 2048 < x0.length
    · rw [if_t (by simp; omega)]
    · rw [if_f (by simp; omega), if_t (by simp; omega)]
  rw [if_neg hm]
  by_cases ho : 2048 < x0.length
  · refine .inl ⟨2, by decide, by rw [if_t (by simp; omega)], ?_⟩
    unfold listM
    rw [if_pos ho]
    rfl
  rw [if_f (by simp; omega), if_f (by simp; omega)]
  rcases clean_both x0 h0 with ⟨c, k1, k2, k3⟩ | ⟨l, k1, k2⟩
  · refine .inl ⟨c, k1, ?_, ?_⟩
    · rw [k2, Option.bind_some, if_f (by simpa using k1)]
    · rw [k3, Option.bind_some, if_pos k1]
  · obtain ⟨g, k3, k4⟩ := k2.list
    have hl := k2.len
    rw [k1, k3, Option.bind_some, Option.bind_some]
    simp only [decide_true, if_true, ne_eq, not_true_eq_false, if_false, Option.bind_some]
    rw [q_scanM x1 h1, Option.bind_some]
    cases ha : x1.all markK with
    | false => exact .inl ⟨1, by decide, rfl, rfl⟩
    | true =>
      simp only [if_true, Bool.true_eq_false, if_false]
      have hF := firstsM_ok x1 [] [] ⟨List.Pairwise.nil, fun _ => Iff.rfl⟩
      rw [List.nil_append] at hF
      have hq : loopP (p_spec_l05Clean_l3 x1) ([], 0) = _ := q_firsts x1 (by omega) x1 0 [] rfl (Nat.le_refl _) (Nat.zero_le _)
      rw [hq, Option.bind_some]
      have hD := dedM_clean x1
      cases hf : firstsM x1 [] with
      | none =>
        rw [hf] at hF
        cases hd : dedK TMark.id none (sortL (ltK TMark.id) x1) [] with
        | none => exact .inl ⟨16, by decide, rfl, rfl⟩
        | some ms =>
          rw [hd] at hD
          obtain ⟨a, b, ha, hb, hc⟩ := hF
          exact absurd hc (risingK_conf hD.1 a b ((hD.2 a).2 ha) ((hD.2 b).2 hb))
      | some ml =>
        rw [hf] at hF
        simp only at hF ⊢
        have hfl := firsts_len x1 [] ml hf
        simp only [List.length_nil, Nat.zero_add] at hfl
        cases hd : dedK TMark.id none (sortL (ltK TMark.id) x1) [] with
        | none =>
          rw [hd] at hD
          obtain ⟨a, b, ha, hb, hc, hne⟩ := hD
          exfalso
          have key : ∀ {m : List TMark}, (m.Pairwise fun a b => a.id ≠ b.id) → a ∈ m → b ∈ m → False := by
            intro m hm h1 h2
            induction m with
            | nil => cases h1
            | cons k m ih =>
              rw [List.pairwise_cons] at hm
              rcases List.mem_cons.1 h1 with e1 | h1'
              · rcases List.mem_cons.1 h2 with e2 | h2'
                · exact hne (e1.trans e2.symm)
                · exact hm.1 b h2' (by rw [← e1]; exact hc)
              · rcases List.mem_cons.1 h2 with e2 | h2'
                · exact hm.1 a h1' (by rw [← e2]; exact hc.symm)
                · exact ih hm.2 h1' h2'
          exact key hF.ids ((hF.mem a).2 ha) ((hF.mem b).2 hb)
        | some ms =>
          rw [hd] at hD
          have hml : ms.length ≤ 2048 := by
            have := dedK_len _ _ _ _ hd
            rw [sortL_len (ltK_swo TMark.id)] at this
            simp only [List.length_nil] at this
            omega
          rw [q_placed l k2.grows.up (by omega) ⟨l, 0⟩ rfl ml (by omega), Option.bind_some]
          have hpp : (ms.all fun m => inPl (placeG [] 0 (cellsL l)) m.from_ && inPl (placeG [] 0 (cellsL l)) m.to) = placedB l ms := by
            unfold placedB
            simp only [inPl_has k2.grows]
          have hpm : placedB l ml = placedB l ms := by
            unfold placedB
            rw [Bool.eq_iff_iff, List.all_eq_true, List.all_eq_true]
            exact ⟨fun h m hm => h m ((hF.mem m).2 ((hD.2 m).1 hm)), fun h m hm => h m ((hD.2 m).2 ((hF.mem m).1 hm))⟩
          simp only [hpp, hpm]
          cases hb : placedB l ms with
          | false => exact .inl ⟨5, by decide, rfl, rfl⟩
          | true =>
            refine .inr ⟨l, ml, ms, ?_, k2, hF, hD.1, hD.2, hml, by omega, fun m hm => List.all_eq_true.1 ha m hm, hb, g, ?_, k4⟩
            · rw [if_pos rfl]
              simp only
              rw [q_cells k2.grows (by omega), Option.bind_some]
            · unfold p_impl_readRich p_impl_readList
              rw [if_neg hm, k3, Option.bind_some]
              simp only [ne_eq, not_true_eq_false, if_false, Option.bind_some]
              rw [ha, hd]
              simp only [Bool.true_eq_false, if_false, hpp, hb, if_true]
end Go.AM
