/- Several texts of the abstract machine in one. No condition. -/
import Derived.Test.YtogokiglmhnjkaaLabPackF
import Derived.Test.YtogokiglmhnjkaaLabPackD
set_option linter.unusedVariables false
set_option linter.unusedSimpArgs false
namespace Go.AM

abbrev Rising (l : List TMove) : Prop := l.Pairwise fun x y => ltM x y = true
def Conf (x y : TMove) : Prop := x.id = y.id ∧ x ≠ y

theorem ltM_trans {x y z : TMove} (h1 : ltM x y = true) (h2 : ltM y z = true) : ltM x z = true := ltM_swo.trans x y z h1 h2
theorem ltM_irrefl {x : TMove} : ltM x x = false := ltM_swo.irrefl x
theorem ltM_id {x y : TMove} (h : x.id = y.id) : ltM x y = false := by unfold ltM; rw [h, decide_eq_false_iff_not]; omega
theorem ltM_tri {x y : TMove} (h : x.id ≠ y.id) (h2 : ltM x y = false) : ltM y x = true := by
  unfold ltM at *
  rw [decide_eq_false_iff_not] at h2
  rw [decide_eq_true_eq]
  have : ¬ (x.id.time = y.id.time ∧ x.id.actor = y.id.actor) := by
    rintro ⟨h3, h4⟩
    apply h
    cases hx : x.id with
    | mk a b =>
      cases hy : y.id with
      | mk c d =>
        rw [hx, hy] at h3 h4
        simp only at h3 h4
        rw [h3, h4]
  omega
theorem ltM_asym {x y : TMove} (h : ltM x y = true) : ltM y x = false := by
  cases e : ltM y x with
  | false => rfl
  | true => have := ltM_trans h e; rw [ltM_irrefl] at this; cases this
theorem ltM_le {x y z : TMove} (h1 : ltM x y = true) (h2 : ltM z y = false) : ltM x z = true := by
  unfold ltM at *
  rw [decide_eq_true_eq] at *
  rw [decide_eq_false_iff_not] at h2
  omega

theorem rising_eq : ∀ {l m : List TMove}, Rising l → Rising m → (∀ x, x ∈ l ↔ x ∈ m) → l = m
  | [], [], _, _, _ => rfl
  | [], y :: m, _, _, h => absurd ((h y).2 (by simp)) (by simp)
  | x :: l, [], _, _, h => absurd ((h x).1 (by simp)) (by simp)
  | x :: l, y :: m, hl, hm, h => by
    rw [Rising, List.pairwise_cons] at hl hm
    have hxy : x = y := by
      rcases List.mem_cons.1 ((h x).1 (by simp)) with e | hx
      · exact e
      · rcases List.mem_cons.1 ((h y).2 (by simp)) with e | hy
        · exact e.symm
        · have := ltM_trans (hm.1 x hx) (hl.1 y hy)
          rw [ltM_irrefl] at this
          cases this
    subst hxy
    congr 1
    refine rising_eq hl.2 hm.2 fun z => ⟨fun hz => ?_, fun hz => ?_⟩
    · rcases List.mem_cons.1 ((h z).1 (List.mem_cons_of_mem _ hz)) with e | hz'
      · have := hl.1 z hz; rw [e, ltM_irrefl] at this; cases this
      · exact hz'
    · rcases List.mem_cons.1 ((h z).2 (List.mem_cons_of_mem _ hz)) with e | hz'
      · have := hm.1 z hz; rw [e, ltM_irrefl] at this; cases this
      · exact hz'

theorem rising_conf : ∀ {l : List TMove}, Rising l → ∀ x y, x ∈ l → y ∈ l → ¬ Conf x y
  | [], _, x, y, hx, _, _ => absurd hx (by simp)
  | a :: l, h, x, y, hx, hy, hc => by
    rw [Rising, List.pairwise_cons] at h
    rcases List.mem_cons.1 hx with hx' | hx'
    · rcases List.mem_cons.1 hy with hy' | hy'
      · exact hc.2 (hx'.trans hy'.symm)
      · have := h.1 y hy'; rw [← hx', ltM_id hc.1] at this; cases this
    · rcases List.mem_cons.1 hy with hy' | hy'
      · have := h.1 x hx'; rw [← hy', ltM_id hc.1.symm] at this; cases this
      · exact rising_conf h.2 x y hx' hy' hc

/-- What a clean list is. -/
def Clean (ops : List TMove) (r : Option (List TMove)) : Prop := match r with
  | some l => Rising l ∧ ∀ x, x ∈ l ↔ x ∈ ops
  | none => ∃ x y, x ∈ ops ∧ y ∈ ops ∧ Conf x y
theorem clean_eq {ops : List TMove} {r s : Option (List TMove)} (h1 : Clean ops r) (h2 : Clean ops s) : r = s := by
  cases r with
  | some l =>
    cases s with
    | some m => exact congrArg some (rising_eq h1.1 h2.1 fun x => (h1.2 x).trans (h2.2 x).symm)
    | none =>
      obtain ⟨x, y, hx, hy, hc⟩ := h2
      exact absurd hc (rising_conf h1.1 x y ((h1.2 x).2 hx) ((h1.2 y).2 hy))
  | none =>
    cases s with
    | some m =>
      obtain ⟨x, y, hx, hy, hc⟩ := h1
      exact absurd hc (rising_conf h2.1 x y ((h2.2 x).2 hx) ((h2.2 y).2 hy))
    | none => rfl

/-! ### spec's way -/
theorem posM_spec (out : List TMove) (o : TMove) : ∀ a, a ≤ out.length → (∀ i x, posM out o a ≤ i → i < a → out[i]? = some x → ltM o x = true) ∧ (∀ x, 0 < posM out o a → out[posM out o a - 1]? = some x → ltM o x = false)
  | 0, _ => ⟨fun i x _ h => absurd h (Nat.not_lt_zero _), fun x h => absurd h (Nat.lt_irrefl 0)⟩
  | a + 1, ha => by
    obtain ⟨q, hq⟩ : ∃ q, out[a]? = some q := ⟨_, List.getElem?_eq_getElem (by omega)⟩
    rw [posM, hq]
    simp only
    obtain ⟨h1, h2⟩ := posM_spec out o a (by omega)
    by_cases hlt : ltM o q = true
    · rw [if_pos hlt]
      refine ⟨fun i x hi1 hi2 hx => ?_, h2⟩
      by_cases e : i = a
      · subst e
        rw [hq] at hx
        cases hx
        exact hlt
      · exact h1 i x hi1 (by omega) hx
    · rw [if_neg hlt]
      refine ⟨fun i x hi1 hi2 => absurd hi2 (by omega), fun x _ hx => ?_⟩
      rw [Nat.add_sub_cancel, hq] at hx
      cases hx
      simpa using hlt

theorem ins_rising {out : List TMove} {o : TMove} (hr : Rising out) (hne : ∀ x, 0 < posM out o out.length → out[posM out o out.length - 1]? = some x → x.id ≠ o.id) :
    Rising (out.take (posM out o out.length) ++ o :: out.drop (posM out o out.length)) := by
  obtain ⟨h1, h2⟩ := posM_spec out o out.length (Nat.le_refl _)
  have hle := posM_le out o out.length
  generalize posM out o out.length = a at *
  have hsplit : Rising (out.take a ++ out.drop a) := by rw [List.take_append_drop]; exact hr
  rw [Rising, List.pairwise_append] at hsplit ⊢
  have hgt : ∀ y, y ∈ out.drop a → ltM o y = true := by
    intro y hy
    obtain ⟨i, hi⟩ := List.mem_iff_getElem?.1 hy
    rw [List.getElem?_drop] at hi
    have : a + i < out.length := (List.getElem?_eq_some_iff.1 hi).1
    exact h1 (a + i) y (by omega) this hi
  have hlt : ∀ x, x ∈ out.take a → ltM x o = true := by
    intro x hx
    obtain ⟨i, hi⟩ := List.mem_iff_getElem?.1 hx
    have hia : i < a := by
      have := (List.getElem?_eq_some_iff.1 hi).1
      rw [List.length_take] at this
      omega
    rw [List.getElem?_take_of_lt hia] at hi
    obtain ⟨q, hq⟩ : ∃ q, out[a - 1]? = some q := ⟨_, List.getElem?_eq_getElem (by omega)⟩
    have hqo : ltM q o = true := ltM_tri (fun e => hne q (by omega) hq e.symm) (h2 q (by omega) hq)
    by_cases e : i = a - 1
    · rw [e, hq] at hi
      cases hi
      exact hqo
    · have hxq : ltM x q = true := by
        have hi' := List.getElem?_eq_some_iff.1 hi
        have hq' := List.getElem?_eq_some_iff.1 hq
        rw [← hi'.2, ← hq'.2]
        exact List.pairwise_iff_getElem.1 hr i (a - 1) hi'.1 hq'.1 (by omega)
      exact ltM_trans hxq hqo
  refine ⟨hsplit.1, ?_, ?_⟩
  · rw [List.pairwise_cons]
    exact ⟨hgt, hsplit.2.1⟩
  · intro x hx y hy
    rcases List.mem_cons.1 hy with rfl | hy
    · exact hlt x hx
    · exact hsplit.2.2 x hx y hy

theorem ins_mem {out : List TMove} {o x : TMove} {a : Nat} : x ∈ out.take a ++ o :: out.drop a ↔ x ∈ out ∨ x = o := by
  rw [List.mem_append, List.mem_cons]
  constructor
  · rintro (h | h | h)
    · exact .inl (List.mem_of_mem_take h)
    · exact .inr h
    · exact .inl (List.mem_of_mem_drop h)
  · rintro (h | h)
    · rw [← List.take_append_drop a out, List.mem_append] at h
      rcases h with h | h
      · exact .inl h
      · exact .inr (.inr h)
    · exact .inr (.inl h)

theorem cleanL_clean : ∀ (l out done : List TMove), Rising out → (∀ x, x ∈ out ↔ x ∈ done) → Clean (done ++ l) (cleanL l out)
  | [], out, done, hr, hm => by
    rw [cleanL, List.append_nil]
    exact ⟨hr, hm⟩
  | o :: l, out, done, hr, hm => by
    rw [cleanL]
    have e : done ++ o :: l = (done ++ [o]) ++ l := by simp
    have ins : (∀ x, 0 < posM out o out.length → out[posM out o out.length - 1]? = some x → x.id ≠ o.id) → Clean (done ++ o :: l) (cleanL l (out.take (posM out o out.length) ++ o :: out.drop (posM out o out.length))) := by
      intro hne
      rw [e]
      refine cleanL_clean l _ _ (ins_rising hr hne) fun x => ?_
      rw [ins_mem, List.mem_append, List.mem_singleton, hm]
    by_cases h0 : posM out o out.length = 0
    · rw [if_pos h0]
      exact ins (fun x h => absurd h0 (by omega))
    · rw [if_neg h0]
      have hle := posM_le out o out.length
      obtain ⟨q, hq⟩ : ∃ q, out[posM out o out.length - 1]? = some q := ⟨_, List.getElem?_eq_getElem (by omega)⟩
      rw [hq]
      simp only
      have hqm : q ∈ out := List.mem_of_getElem? hq
      by_cases he : q.id = o.id
      · rw [if_pos he]
        by_cases hqo : q = o
        · rw [if_pos hqo, e]
          refine cleanL_clean l out _ hr fun x => ?_
          rw [List.mem_append, List.mem_singleton, hm]
          constructor
          · exact .inl
          · rintro (h | h)
            · exact h
            · rw [h, ← hqo]; exact (hm q).1 hqm
        · rw [if_neg hqo]
          exact ⟨q, o, List.mem_append_left _ ((hm q).1 hqm), List.mem_append_right _ (by simp), he, hqo⟩
      · rw [if_neg he]
        refine ins fun x _ hx => ?_
        rw [hq] at hx
        cases hx
        exact he

/-! ### impl's way -/
theorem dedM_clean : ∀ (S : List TMove) (p : Option TMove) (acc done : List TMove), (∀ x y, x ∈ done → y ∈ S → ltM y x = false) → (S.Pairwise fun x y => ltM y x = false) → Rising acc → (∀ x, x ∈ acc ↔ x ∈ done) →
    (match p with | none => acc = [] | some q => q ∈ acc ∧ ∀ x, x ∈ acc → x ≠ q → ltM x q = true) → Clean (done ++ S) (dedM p S acc)
  | [], p, acc, done, _, _, hr, hm, _ => by
    rw [List.append_nil]
    cases p <;> exact ⟨hr, hm⟩
  | o :: S, p, acc, done, hd, hs, hr, hm, hp => by
    rw [List.pairwise_cons] at hs
    have e : done ++ o :: S = (done ++ [o]) ++ S := by simp
    have hd' : ∀ x y, x ∈ done ++ [o] → y ∈ S → ltM y x = false := by
      intro x y hx hy
      rcases List.mem_append.1 hx with h | h
      · exact hd x y h (List.mem_cons_of_mem _ hy)
      · rw [List.mem_singleton.1 h]; exact hs.1 y hy
    have app : (∀ x, x ∈ acc → ltM x o = true) → Clean (done ++ o :: S) (dedM (some o) S (acc ++ [o])) := by
      intro hlt
      rw [e]
      refine dedM_clean S (some o) (acc ++ [o]) _ hd' hs.2 ?_ ?_ ⟨by simp, ?_⟩
      · rw [Rising, List.pairwise_append]
        exact ⟨hr, List.pairwise_singleton _ _, fun x hx y hy => by rw [List.mem_singleton.1 hy]; exact hlt x hx⟩
      · intro x; rw [List.mem_append, List.mem_append, hm]
      · intro x hx hne
        rcases List.mem_append.1 hx with h | h
        · exact hlt x h
        · exact absurd (List.mem_singleton.1 h) hne
    cases p with
    | none =>
      have hp : acc = [] := hp
      simp only [dedM]
      exact app (fun x hx => by rw [hp] at hx; cases hx)
    | some q =>
      have hp : q ∈ acc ∧ ∀ x, x ∈ acc → x ≠ q → ltM x q = true := hp
      simp only [dedM]
      have hqd : q ∈ done := (hm q).1 hp.1
      have hoq : ltM o q = false := hd q o hqd (by simp)
      by_cases he : q.id = o.id
      · rw [if_pos he]
        by_cases hqo : q = o
        · rw [if_pos hqo, e]
          refine dedM_clean S (some o) acc _ hd' hs.2 hr ?_ ?_
          · intro x
            rw [List.mem_append, List.mem_singleton, hm]
            constructor
            · exact .inl
            · rintro (h | h)
              · exact h
              · rw [h, ← hqo]; exact hqd
          · rw [← hqo]; exact hp
        · rw [if_neg hqo]
          exact ⟨q, o, List.mem_append_left _ hqd, List.mem_append_right _ (by simp), he, hqo⟩
      · rw [if_neg he]
        have hqo : ltM q o = true := ltM_tri (fun e => he e.symm) hoq
        refine app fun x hx => ?_
        by_cases hxq : x = q
        · rw [hxq]; exact hqo
        · exact ltM_trans (hp.2 x hx hxq) hqo

theorem clean_ded (ops : List TMove) : cleanL ops [] = dedM none (sortL ltM ops) [] := by
  have h1 := cleanL_clean ops [] [] List.Pairwise.nil (fun x => Iff.rfl)
  have h2 := dedM_clean (sortL ltM ops) none [] [] (fun x y h => absurd h (by simp)) (sortL_sorted ltM_swo ops) List.Pairwise.nil (fun x => Iff.rfl) rfl
  rw [List.nil_append] at h1 h2
  have hp := sortL_perm ltM_swo ops
  refine clean_eq h1 ?_
  cases hr : dedM none (sortL ltM ops) [] with
  | some l =>
    rw [hr] at h2
    exact ⟨h2.1, fun x => (h2.2 x).trans hp.mem_iff⟩
  | none =>
    rw [hr] at h2
    obtain ⟨x, y, hx, hy, hc⟩ := h2
    exact ⟨x, y, hp.mem_iff.1 hx, hp.mem_iff.1 hy, hc⟩
end Go.AM

set_option linter.unusedVariables false
set_option linter.unusedSimpArgs false
namespace Go.AM

/-- From k so many nodes are passed until the way ends. -/
inductive Tm (ns : List TNode) : Int → Nat → Prop
  | stop {k : Int} : k ≤ 0 → Tm ns k 0
  | miss {k : Int} : 0 < k → findN ns k = none → Tm ns k 1
  | step {k : Int} {nd : TNode} {n : Nat} : 0 < k → findN ns k = some nd → Tm ns nd.parent n → Tm ns k (n + 1)

theorem Tm.uniq {ns : List TNode} {k : Int} {n : Nat} (h : Tm ns k n) : ∀ {m : Nat}, Tm ns k m → n = m := by
  induction h with
  | stop h1 =>
    intro m h2
    cases h2 with
    | stop _ => rfl
    | miss h _ => omega
    | step h _ _ => omega
  | miss h1 hf =>
    intro m h2
    cases h2 with
    | stop _ => omega
    | miss _ _ => rfl
    | step _ hf' _ => rw [hf] at hf'; cases hf'
  | step h1 hf _ ih =>
    intro m h2
    cases h2 with
    | stop _ => omega
    | miss _ hf' => rw [hf] at hf'; cases hf'
    | step _ hf' h =>
      rw [hf] at hf'
      cases hf'
      rw [ih h]

/-- All nodes and parents that are told. -/
def Told (ns : List TNode) : Prop := ∀ k nd, findN ns k = some nd → nd.node = k ∧ 1 ≤ k ∧ k ≤ 1000 ∧ nd.parent ≤ 1000 ∧ nd.name.size ≤ 200

theorem Tm.passed {ns : List TNode} (ht : Told ns) {k : Int} {n : Nat} (h : Tm ns k n) : ∀ i, 1 ≤ i → i ≤ n → k ≤ 1000 → ∃ a, 1 ≤ a ∧ a ≤ 1000 ∧ Tm ns a i := by
  induction h with
  | stop h1 => intro i h2 h3; omega
  | miss h1 hf =>
    intro i h2 h3 hk
    obtain rfl : i = 1 := by omega
    exact ⟨_, h1, hk, .miss h1 hf⟩
  | step h1 hf hs ih =>
    intro i h2 h3 hk
    rename_i k nd n
    by_cases e : i = n + 1
    · subst e
      exact ⟨k, h1, hk, .step h1 hf hs⟩
    · exact ih i h2 (by omega) (ht k nd hf).2.2.2.1

/-- No more different numbers than there is room for. -/
theorem pigeon : ∀ (n : Nat) (l : List Nat), l.Nodup → (∀ x, x ∈ l → x < n) → l.length ≤ n
  | 0, l, _, h => by
    cases l with
    | nil => exact Nat.le_refl _
    | cons x l => exact absurd (h x (by simp)) (Nat.not_lt_zero _)
  | n + 1, l, hd, h => by
    have h1 := pigeon n (l.filter fun x => x ≠ n) (hd.sublist List.filter_sublist) (fun x hx => by
      rw [List.mem_filter] at hx
      have := h x hx.1
      have := of_decide_eq_true hx.2
      omega)
    have h2 : l.length ≤ (l.filter fun x => x ≠ n).length + 1 := by
      clear h1 h
      induction l with
      | nil => simp
      | cons x l ih =>
        rw [List.nodup_cons] at hd
        by_cases e : x = n
        · have : (l.filter fun x => x ≠ n) = l := by
            rw [List.filter_eq_self]
            intro y hy
            simp only [decide_eq_true_eq, ne_eq]
            intro ey
            exact hd.1 (by rw [e, ← ey]; exact hy)
          rw [List.filter_cons, if_neg (by simp [e]), this]
          simp
        · rw [List.filter_cons, if_pos (by simpa using e)]
          have := ih hd.2
          simp only [List.length_cons]
          omega
    omega

theorem Tm.le {ns : List TNode} (ht : Told ns) {k : Int} {n : Nat} (h : Tm ns k n) (hk : k ≤ 1000) : n ≤ 1000 := by
  have hb := h.passed ht
  have hch : ∀ i : Nat, ∃ a : Nat, (1 ≤ i → i ≤ n → a < 1000 ∧ Tm ns ((a : Int) + 1) i) := by
    intro i
    by_cases hi : 1 ≤ i ∧ i ≤ n
    · obtain ⟨a, h1, h2, h3⟩ := hb i hi.1 hi.2 hk
      refine ⟨(a - 1).toNat, fun _ _ => ⟨by omega, ?_⟩⟩
      rw [show ((a - 1).toNat : Int) + 1 = a by omega]
      exact h3
    · exact ⟨0, fun h1 h2 => absurd ⟨h1, h2⟩ hi⟩
  obtain ⟨f, hf⟩ := Classical.axiomOfChoice hch
  have hl := pigeon 1000 ((List.range n).map fun i => f (i + 1)) (by
    rw [List.nodup_iff_pairwise_ne, List.pairwise_map]
    refine List.Pairwise.imp_of_mem ?_ (List.nodup_iff_pairwise_ne.1 List.nodup_range)
    intro a b ha hb' hne e
    rw [List.mem_range] at ha hb'
    have h1 := (hf (a + 1) (by omega) (by omega)).2
    have h2 := (hf (b + 1) (by omega) (by omega)).2
    rw [e] at h1
    have := h1.uniq h2
    omega) (by
    intro x hx
    obtain ⟨i, hi, rfl⟩ := List.mem_map.1 hx
    rw [List.mem_range] at hi
    exact (hf (i + 1) (by omega) (by omega)).1)
  simpa using hl

/-! ### The ring -/
theorem ringN_succ {ns : List TNode} {top k : Int} {m : Nat} : ringN ns top (m + 1) k = if k ≤ 0 then false else if k = top then true else match findN ns k with
    | none => false
    | some n => ringN ns top m n.parent := rfl
theorem ring_more {ns : List TNode} {top k : Int} {n : Nat} (h : Tm ns k n) : ∀ m, n ≤ m → ringN ns top m k = ringN ns top n k := by
  induction h with
  | stop h1 =>
    intro m _
    cases m with
    | zero => rfl
    | succ m => rw [ringN_succ, if_pos h1]; rfl
  | miss h1 hf =>
    intro m hm
    cases m with
    | zero => omega
    | succ m => rw [ringN_succ, ringN_succ, hf]
  | step h1 hf hs ih =>
    intro m hm
    cases m with
    | zero => omega
    | succ m =>
      rw [ringN_succ, ringN_succ, hf]
      simp only
      rw [ih m (by omega)]

/-- The map of nodes and the forest tell the same. -/
structure Alike (ns : List TNode) (f : TForest) : Prop where
  lp : f.parent.length = 1001
  ln : f.name.length = 1001
  at_ : ∀ k : Nat, k ≤ 1000 → match findN ns (k : Int) with
    | none => f.parent[k]? = some (-2) ∧ ∃ s, f.name[k]? = some s ∧ s.size ≤ 200
    | some nd => f.parent[k]? = some nd.parent ∧ f.name[k]? = some nd.name

theorem Alike.none {ns : List TNode} {f : TForest} (a : Alike ns f) {k : Int} (h0 : 0 < k) (h1 : k ≤ 1000) (hf : findN ns k = none) : get? f.parent k = some (-2) ∧ ∃ s, get? f.name k = some s ∧ s.size ≤ 200 := by
  obtain ⟨n, rfl⟩ : ∃ n : Nat, k = (n : Int) := ⟨k.toNat, by omega⟩
  have := a.at_ n (by omega)
  rw [hf] at this
  simpa only [get_nat] using this
theorem Alike.some {ns : List TNode} {f : TForest} (a : Alike ns f) {k : Int} {nd : TNode} (h0 : 0 < k) (h1 : k ≤ 1000) (hf : findN ns k = some nd) : get? f.parent k = some nd.parent ∧ get? f.name k = some nd.name := by
  obtain ⟨n, rfl⟩ : ∃ n : Nat, k = (n : Int) := ⟨k.toNat, by omega⟩
  have := a.at_ n (by omega)
  rw [hf] at this
  simpa only [get_nat] using this

theorem under_ring {ns : List TNode} {f : TForest} (a : Alike ns f) (ht : Told ns) {top k : Int} {n : Nat} (h : Tm ns k n) : k ≤ 1000 → underN (n + 1) f.parent k top = some (ringN ns top n k) := by
  induction h with
  | stop h1 => intro _; rw [underN, if_pos h1]; rfl
  | miss h1 hf =>
    intro hk
    rename_i k
    rw [underN, if_neg (show ¬ k ≤ 0 by omega), ringN_succ, if_neg (show ¬ k ≤ 0 by omega)]
    by_cases e : k = top
    · rw [if_pos e, if_pos e]
    · rw [if_neg e, if_neg e, hf, (a.none h1 hk hf).1]
      rfl
  | step h1 hf hs ih =>
    intro hk
    rename_i k nd n
    rw [underN, if_neg (show ¬ k ≤ 0 by omega), ringN_succ, if_neg (show ¬ k ≤ 0 by omega)]
    by_cases e : k = top
    · rw [if_pos e, if_pos e]
    · rw [if_neg e, if_neg e, hf, (a.some h1 hk hf).1]
      exact ih (ht k nd hf).2.2.2.1

theorem underN_mono : ∀ (n m : Nat) (ps : List Int) (a top : Int) (b c : Bool), underN n ps a top = some b → underN m ps a top = some c → b = c
  | 0, _, _, _, _, _, _, h, _ => by cases h
  | _ + 1, 0, _, _, _, _, _, _, h => by cases h
  | n + 1, m + 1, ps, a, top, b, c, h1, h2 => by
    rw [underN] at h1 h2
    split at h1
    · rename_i e; rw [if_pos e] at h2; cases h1; cases h2; rfl
    · rename_i e
      rw [if_neg e] at h2
      split at h1
      · rename_i e; rw [if_pos e] at h2; cases h1; cases h2; rfl
      · rename_i e
        rw [if_neg e] at h2
        obtain ⟨p, hp, h1⟩ := Option.bind_eq_some_iff.1 h1
        rw [hp] at h2
        exact underN_mono n m ps p top b c h1 h2

/-! ### A node put in its place -/
theorem find_set (ns : List TNode) (x : TNode) (k : Int) : findN (setN ns x) k = if k = x.node then some x else findN ns k := by
  induction ns with
  | nil =>
    unfold setN findN
    rw [List.find?_cons]
    by_cases e : k = x.node
    · have h : (x.node == k) = true := by simp [e]
      rw [h, if_pos e]
    · have h : (x.node == k) = false := by simp; exact fun q => e q.symm
      rw [h, if_neg e]
  | cons n ns ih =>
    unfold setN
    by_cases e : n.node = x.node
    · rw [if_pos e]
      unfold findN
      rw [List.find?_cons, List.find?_cons, e]
      by_cases e2 : k = x.node
      · have h : (x.node == k) = true := by simp [e2]
        rw [h, if_pos e2]
      · have h : (x.node == k) = false := by simp; exact fun q => e2 q.symm
        rw [h, if_neg e2]
    · rw [if_neg e]
      unfold findN at ih ⊢
      rw [List.find?_cons, List.find?_cons]
      by_cases e2 : n.node = k
      · have h : (n.node == k) = true := by simp [e2]
        rw [h, if_neg (by intro q; exact e (e2.trans q))]
      · have h : (n.node == k) = false := by simp [e2]
        rw [h]
        exact ih

theorem Tm.keep {ns : List TNode} {x : TNode} {k : Int} {n : Nat} (h : Tm ns k n) (hr : ringN ns x.node n k = false) : Tm (setN ns x) k n := by
  induction h with
  | stop h1 => exact .stop h1
  | miss h1 hf =>
    rename_i k
    rw [ringN, if_neg (by omega)] at hr
    by_cases e : k = x.node
    · rw [if_pos e] at hr; cases hr
    · exact .miss h1 (by rw [find_set, if_neg e]; exact hf)
  | step h1 hf hs ih =>
    rename_i k nd n
    rw [ringN, if_neg (by omega)] at hr
    by_cases e : k = x.node
    · rw [if_pos e] at hr; cases hr
    · rw [if_neg e, hf] at hr
      exact .step h1 (by rw [find_set, if_neg e]; exact hf) (ih hr)

theorem Tm.set {ns : List TNode} {x : TNode} {m : Nat} (hp : Tm (setN ns x) x.parent m) {k : Int} {n : Nat} (h : Tm ns k n) : ∃ n', Tm (setN ns x) k n' := by
  induction h with
  | stop h1 => exact ⟨0, .stop h1⟩
  | miss h1 hf =>
    rename_i k
    by_cases e : k = x.node
    · exact ⟨_, .step h1 (by rw [find_set, if_pos e]) hp⟩
    · exact ⟨1, .miss h1 (by rw [find_set, if_neg e]; exact hf)⟩
  | step h1 hf hs ih =>
    rename_i k nd n
    by_cases e : k = x.node
    · exact ⟨_, .step h1 (by rw [find_set, if_pos e]) hp⟩
    · obtain ⟨n', h'⟩ := ih
      exact ⟨_, .step h1 (by rw [find_set, if_neg e]; exact hf) h'⟩

structure Grown (ns : List TNode) (f : TForest) : Prop where
  al : Alike ns f
  told : Told ns
  tm : ∀ k, ∃ n, Tm ns k n

theorem Grown.under {ns : List TNode} {f : TForest} (g : Grown ns f) {k top : Int} (hk : k ≤ 1000) : p_spec_l06Forest_under f k top = some (ringN ns top 1001 k) := by
  obtain ⟨n, h⟩ := g.tm k
  rw [ring_more h 1001 (by have := h.le g.told hk; omega)]
  exact fixP_eq (fun n m b c => underN_mono n m f.parent k top b c) (under_ring g.al g.told h hk)

theorem okM {o : TMove} (h : mvOK o = true) : 1 ≤ o.node ∧ o.node ≤ 1000 ∧ -1 ≤ o.parent ∧ o.parent ≤ 1000 ∧ (o.name.size : Int) ≤ 200 := of_decide_eq_true h

theorem grow_same : ∀ (l : List TMove) (ns : List TNode) (f : TForest), (∀ o, o ∈ l → mvOK o = true) → Grown ns f → ∃ f', sgrow l f = some f' ∧ Grown (growM l ns f.skipped).1 f' ∧ f'.skipped = (growM l ns f.skipped).2
  | [], ns, f, _, g => ⟨f, rfl, g, rfl⟩
  | o :: l, ns, f, hl, g => by
    obtain ⟨k1, k2, k3, k4, k5⟩ := okM (hl o (by simp))
    have hl' : ∀ o, o ∈ l → mvOK o = true := fun x hx => hl x (List.mem_cons_of_mem _ hx)
    rw [sgrow, growM]
    have hu : (if 0 < o.parent then p_spec_l06Forest_under f o.parent o.node else some false) = some (ringN ns o.node 1001 o.parent) := by
      by_cases h0 : 0 < o.parent
      · rw [if_pos h0, g.under k4]
      · rw [if_neg h0, ringN, if_pos (by omega)]
    rw [hu, Option.bind_some]
    cases hr : ringN ns o.node 1001 o.parent with
    | true =>
      rw [if_pos rfl, if_pos rfl]
      exact grow_same l ns ⟨f.parent, f.name, f.skipped ++ [o.id]⟩ hl' ⟨⟨g.al.lp, g.al.ln, g.al.at_⟩, g.told, g.tm⟩
    | false =>
      have hp := g.al.lp
      have hn := g.al.ln
      rw [if_neg Bool.false_ne_true, if_neg Bool.false_ne_true, if_pos ⟨by omega, by omega, by omega⟩]
      obtain ⟨n0, h0⟩ := g.tm o.parent
      rw [ring_more h0 1001 (by have := h0.le g.told k4; omega)] at hr
      have hk := h0.keep (x := ⟨o.node, o.parent, o.name⟩) hr
      refine grow_same l (setN ns ⟨o.node, o.parent, o.name⟩) ⟨f.parent.set o.node.toNat o.parent, f.name.set o.node.toNat o.name, f.skipped⟩ hl' ⟨⟨by simpa using hp, by simpa using hn, ?_⟩, ?_, ?_⟩
      · intro k hk1
        rw [find_set]
        by_cases e : (k : Int) = o.node
        · rw [if_pos e]
          have e2 : o.node.toNat = k := by omega
          simp only
          rw [e2]
          exact ⟨List.getElem?_set_self (by omega), List.getElem?_set_self (by omega)⟩
        · rw [if_neg e]
          have e2 : o.node.toNat ≠ k := by omega
          have := g.al.at_ k hk1
          simp only
          rw [List.getElem?_set_ne e2, List.getElem?_set_ne e2]
          exact this
      · intro k nd hf
        rw [find_set] at hf
        by_cases e : k = o.node
        · rw [if_pos e] at hf
          cases hf
          exact ⟨e.symm, by omega, by omega, k4, by simp only; omega⟩
        · rw [if_neg e] at hf
          exact g.told k nd hf
      · intro k
        obtain ⟨n, h⟩ := g.tm k
        exact Tm.set hk h

theorem grown_nil : Grown [] ⟨List.replicate 1001 (-2), List.replicate 1001 ⟨#[]⟩, []⟩ := by
  refine ⟨⟨List.length_replicate, List.length_replicate, ?_⟩, ?_, ?_⟩
  · intro k hk
    show (List.replicate 1001 (-2 : Int))[k]? = some (-2) ∧ ∃ s, (List.replicate 1001 (⟨#[]⟩ : ByteArray))[k]? = some s ∧ s.size ≤ 200
    rw [List.getElem?_replicate, if_pos (by omega), List.getElem?_replicate, if_pos (by omega)]
    exact ⟨rfl, _, rfl, Nat.zero_le _⟩
  · intro k nd h
    cases h
  · intro k
    by_cases h : k ≤ 0
    · exact ⟨0, .stop h⟩
    · exact ⟨1, .miss (by omega) rfl⟩

/-! ### Paths -/
theorem pathN_mono (ns : List TNode) : ∀ (n m : Nat) (a : Int) (acc : ByteArray) (b c : T2 ByteArray Int), pathN ns n a acc = some b → pathN ns m a acc = some c → b = c
  | 0, _, _, _, _, _, h, _ => by cases h
  | _ + 1, 0, _, _, _, _, _, h => by cases h
  | n + 1, m + 1, a, acc, b, c, h1, h2 => by
    rw [pathN] at h1 h2
    cases hf : findN ns a with
    | none => rw [hf] at h1 h2; cases h1; cases h2; rfl
    | some nd =>
      rw [hf] at h1 h2
      simp only at h1 h2
      obtain ⟨s, e1, h1⟩ := Option.bind_eq_some_iff.1 h1
      obtain ⟨s2, e2, h1⟩ := Option.bind_eq_some_iff.1 h1
      rw [e1, Option.bind_some, e2, Option.bind_some] at h2
      split at h1
      · rename_i e; rw [if_pos e] at h2; cases h1; cases h2; rfl
      · rename_i e; rw [if_neg e] at h2; exact pathN_mono ns n m _ _ _ _ h1 h2
theorem spathN_mono (f : TForest) : ∀ (n m : Nat) (a : Int) (acc : ByteArray) (b c : T2 ByteArray Int), spathN n f a acc = some b → spathN m f a acc = some c → b = c
  | 0, _, _, _, _, _, h, _ => by cases h
  | _ + 1, 0, _, _, _, _, _, h => by cases h
  | n + 1, m + 1, a, acc, b, c, h1, h2 => by
    rw [spathN] at h1 h2
    split at h1
    · rename_i e; rw [if_pos e] at h2; cases h1; cases h2; rfl
    · rename_i e
      rw [if_neg e] at h2
      obtain ⟨nm, e0, h1⟩ := Option.bind_eq_some_iff.1 h1
      obtain ⟨s, e1, h1⟩ := Option.bind_eq_some_iff.1 h1
      obtain ⟨s2, e2, h1⟩ := Option.bind_eq_some_iff.1 h1
      obtain ⟨p, e3, h1⟩ := Option.bind_eq_some_iff.1 h1
      rw [e0, Option.bind_some, e1, Option.bind_some, e2, Option.bind_some, e3, Option.bind_some] at h2
      exact spathN_mono f n m _ _ _ _ h1 h2

theorem cat_some {x y : ByteArray} (h : x.size + y.size ≤ 1000000) : cat? x y = some (x ++ y) := by
  unfold cat?
  rw [if_pos (by omega)]

theorem path_same {ns : List TNode} {f : TForest} (g : Grown ns f) {k : Int} {n : Nat} (h : Tm ns k n) : ∀ (acc : ByteArray), 0 < k → k ≤ 1000 → acc.size + 201 * n ≤ 300000 → ∃ r, pathN ns (n + 1) k acc = some r ∧ spathN (n + 1) f k acc = some r := by
  induction h with
  | stop h1 => intro acc h0; omega
  | miss h1 hf =>
    intro acc _ hk hs
    rename_i k hpos
    obtain ⟨p1, s, p2, p3⟩ := g.al.none h1 hk hf
    refine ⟨⟨⟨#[]⟩, 7⟩, by rw [pathN, hf], ?_⟩
    have e1 : cat? ⟨#[47]⟩ s = some (⟨#[47]⟩ ++ s) := cat_some (by show 1 + s.size ≤ _; omega)
    have hsz : (⟨#[47]⟩ ++ s : ByteArray).size = 1 + s.size := by rw [ByteArray.size_append]; rfl
    rw [spathN, if_neg (by omega), p2, Option.bind_some, e1, Option.bind_some, cat_some (by omega), Option.bind_some, p1, Option.bind_some, spathN, if_pos (by omega), if_pos (by omega)]
  | step h1 hf hs ih =>
    intro acc _ hk hsz
    rename_i k nd n hpos
    obtain ⟨p1, p2⟩ := g.al.some h1 hk hf
    obtain ⟨t1, t2, t3, t4, t5⟩ := g.told k nd hf
    have e1 : cat? ⟨#[47]⟩ nd.name = some (⟨#[47]⟩ ++ nd.name) := cat_some (by show 1 + nd.name.size ≤ _; omega)
    have z1 : (⟨#[47]⟩ ++ nd.name : ByteArray).size = 1 + nd.name.size := by rw [ByteArray.size_append]; rfl
    have e2 : cat? (⟨#[47]⟩ ++ nd.name) acc = some (⟨#[47]⟩ ++ nd.name ++ acc) := cat_some (by omega)
    have z2 : (⟨#[47]⟩ ++ nd.name ++ acc : ByteArray).size = 1 + nd.name.size + acc.size := by rw [ByteArray.size_append, z1]
    rw [pathN, spathN, hf, if_neg (by omega), p2, Option.bind_some, p1]
    simp only [e1, e2, Option.bind_some]
    by_cases h0 : nd.parent = 0
    · rw [if_pos h0, h0]
      exact ⟨_, rfl, by rw [spathN, if_pos (by omega), if_neg (by omega)]⟩
    · rw [if_neg h0]
      by_cases hp : 0 < nd.parent
      · exact ih _ hp t4 (by rw [z2]; omega)
      · have hneg : nd.parent < 0 := by omega
        refine ⟨⟨⟨#[]⟩, 7⟩, ?_, by rw [spathN, if_pos (by omega), if_pos hneg]⟩
        have hn : findN ns nd.parent = none := by
          cases hq : findN ns nd.parent with
          | none => rfl
          | some q => have := (g.told _ q hq).2.1; omega
        rw [pathN, hn]

theorem trees_same (x0 : List TMove) (x1 : Int) : ∃ r, p_spec_TreePath x0 x1 = some r ∧ p_impl_TreePath x0 x1 = some r := by
  unfold p_spec_TreePath p_impl_TreePath p_spec_l06Clean p_impl_readTree cleanM treeM
  rw [Option.bind_some, Option.bind_some]
  by_cases hl : 2048 < x0.length
  · rw [if_pos hl, if_pos hl]
    exact ⟨_, rfl, rfl⟩
  rw [if_neg hl, if_neg hl]
  cases ha : x0.all (fun o => stOK o.id && mvOK o) with
  | false => exact ⟨_, rfl, rfl⟩
  | true =>
    simp only [Bool.true_eq_false, if_false, ← clean_ded]
    cases hc : cleanL x0 [] with
    | none => exact ⟨_, rfl, rfl⟩
    | some l =>
      simp only [ne_eq, not_true_eq_false, if_false, Option.bind_some]
      have hcl := cleanL_clean x0 [] [] List.Pairwise.nil (fun x => Iff.rfl)
      rw [hc, List.nil_append] at hcl
      have hok : ∀ o, o ∈ l → mvOK o = true := by
        intro o ho
        have := List.all_eq_true.1 ha o ((hcl.2 o).1 ho)
        rw [Bool.and_eq_true] at this
        exact this.2
      have hll : l.length ≤ 2048 := by
        have := hc
        rw [clean_ded] at this
        have := dedM_len _ _ _ _ this
        rw [sortL_len ltM_swo] at this
        simp only [List.length_nil] at this
        omega
      obtain ⟨f, f1, f2, f3⟩ := grow_same l [] ⟨List.replicate 1001 (-2), List.replicate 1001 ⟨#[]⟩, []⟩ hok grown_nil
      unfold p_spec_l06Grow
      rw [if_pos hll, f1, Option.bind_some]
      simp only at f2
      by_cases hx : x1 < 1 ∨ 1000 < x1
      · rw [if_pos hx]
        refine ⟨_, rfl, fixP_eq (n := 1) (fun n m b c => pathN_mono _ n m _ _ b c) ?_⟩
        have hn : findN (growM l [] []).1 x1 = none := by
          cases hq : findN (growM l [] []).1 x1 with
          | none => rfl
          | some q => have := f2.told _ q hq; omega
        rw [pathN, hn]
      · rw [if_neg hx]
        obtain ⟨n, ht⟩ := f2.tm x1
        have hn := ht.le f2.told (by omega)
        obtain ⟨r, r1, r2⟩ := path_same f2 ht ⟨#[]⟩ (by omega) (by omega) (by show 0 + 201 * n ≤ _; omega)
        exact ⟨r, fixP_eq (fun n m b c => spathN_mono _ n m _ _ b c) r2, fixP_eq (fun n m b c => pathN_mono _ n m _ _ b c) r1⟩
end Go.AM
