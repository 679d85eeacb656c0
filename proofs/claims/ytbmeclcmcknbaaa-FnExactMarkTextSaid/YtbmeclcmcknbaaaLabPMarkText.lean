/- The plain law of MarkText. No condition. -/
import Derived.Test.YtbmeclcmcknbaaaLabGMarkText
import Derived.Test.YtbmeclcmcknbaaaLabPackG
set_option linter.unusedVariables false
set_option linter.unusedSimpArgs false
namespace Go.AM

theorem q_szLOpS (x : List TLOp) (n : Int) (hx : x.length < 9223372036854775807) : ∃ m, p_laws_szLOpS x n = some m := by
  unfold p_laws_szLOpS
  repeat' split
  all_goals exact ⟨_, rfl⟩
theorem q_toLOpS (x : List TLOp) (hx : x.length * 48 ≤ reachBytes) : p_laws_toLOpS x = some x := by
  rw [reach_eq] at hx
  unfold p_laws_toLOpS
  rw [show (48 : Int) = ((48 : Nat) : Int) from rfl, mkL_ok (by omega) (by omega), Option.bind_some]
  have e : p_laws_toLOpS_l0 x = copyStep x some := by
    funext s
    unfold p_laws_toLOpS_l0 copyStep p_laws_toLOp p_laws_toStamp
    rfl
  rw [e]
  obtain ⟨i, h⟩ := copy_loop (ρ := List TLOp) (x := x) (v := List.replicate x.length (TLOp.mk 0 0 (TStamp.mk 0 0) (TStamp.mk 0 0))) (f := some) (fun _ _ => rfl) (by simp) (by omega)
  rw [h]; rfl
theorem q_eqLOp (x : TLOp) : p_laws_eqLOp x x = some true := by
  unfold p_laws_eqLOp p_laws_eqStamp
  simp
theorem q_eqLOpS (x : List TLOp) (hx : x.length < 9223372036854775807) : p_laws_eqLOpS x x = some true := by
  unfold p_laws_eqLOpS
  rw [if_pos (by simp)]
  have e : p_laws_eqLOpS_l0 x x = eqStep x x p_laws_eqLOp := rfl
  rw [e]
  obtain ⟨i, h⟩ := eq_loop (x := x) (g := p_laws_eqLOp) (fun a _ => q_eqLOp a) hx
  rw [h]; rfl

theorem q_szMarkOpS (x : List TMark) (n : Int) (hx : x.length < 9223372036854775807) : ∃ m, p_laws_szMarkOpS x n = some m := by
  unfold p_laws_szMarkOpS
  repeat' split
  all_goals exact ⟨_, rfl⟩
theorem q_toMarkOpS (x : List TMark) (hx : x.length * 64 ≤ reachBytes) : p_laws_toMarkOpS x = some x := by
  rw [reach_eq] at hx
  unfold p_laws_toMarkOpS
  rw [show (64 : Int) = ((64 : Nat) : Int) from rfl, mkL_ok (by omega) (by omega), Option.bind_some]
  have e : p_laws_toMarkOpS_l0 x = copyStep x some := by
    funext s
    unfold p_laws_toMarkOpS_l0 copyStep p_laws_toMarkOp p_laws_toStamp
    rfl
  rw [e]
  obtain ⟨i, h⟩ := copy_loop (ρ := List TMark) (x := x) (v := List.replicate x.length (TMark.mk (TStamp.mk 0 0) (TStamp.mk 0 0) (TStamp.mk 0 0) 0 false)) (f := some) (fun _ _ => rfl) (by simp) (by omega)
  rw [h]; rfl
theorem q_eqMarkOp (x : TMark) : p_laws_eqMarkOp x x = some true := by
  unfold p_laws_eqMarkOp p_laws_eqStamp
  simp
theorem q_eqMarkOpS (x : List TMark) (hx : x.length < 9223372036854775807) : p_laws_eqMarkOpS x x = some true := by
  unfold p_laws_eqMarkOpS
  rw [if_pos (by simp)]
  have e : p_laws_eqMarkOpS_l0 x x = eqStep x x p_laws_eqMarkOp := rfl
  rw [e]
  obtain ⟨i, h⟩ := eq_loop (x := x) (g := p_laws_eqMarkOp) (fun a _ => q_eqMarkOp a) hx
  rw [h]; rfl

structure IsTop (t : TStamp) (S : TStamp → Prop) : Prop where
  mem : t = ⟨0, 0⟩ ∨ S t
  top : ∀ s, S s → ltS t s = false
theorem top_unique {t u : TStamp} {S : TStamp → Prop} (h0 : ∀ s, S s → ltS ⟨0, 0⟩ s = true) (h1 : IsTop t S) (h2 : IsTop u S) : t = u := by
  rcases h1.mem with e1 | e1
  · rcases h2.mem with e2 | e2
    · rw [e1, e2]
    · have := h1.top u e2
      rw [e1, h0 u e2] at this
      cases this
  · rcases h2.mem with e2 | e2
    · have := h2.top t e1
      rw [e2, h0 t e1] at this
      cases this
    · have a1 := h1.top u e2
      have a2 := h2.top t e1
      unfold ltS at a1 a2
      rw [decide_eq_false_iff_not] at a1 a2
      cases t; cases u
      simp only at a1 a2
      rw [TStamp.mk.injEq]
      omega
theorem top_yes {t k : TStamp} {S T : TStamp → Prop} (h : IsTop t S) (hT : ∀ s, T s ↔ S s ∨ s = k) (hl : ltS t k = true) : IsTop k T := by
  refine ⟨.inr ((hT k).2 (.inr rfl)), fun s hs => ?_⟩
  rcases (hT s).1 hs with e | rfl
  · cases e2 : ltS k s with
    | false => rfl
    | true =>
      have := ltS_trans hl e2
      rw [h.top s e] at this
      cases this
  · exact ltS_irrefl
theorem top_no {t k : TStamp} {S T : TStamp → Prop} (h : IsTop t S) (hT : ∀ s, T s ↔ S s ∨ s = k) (hl : ltS t k = false) : IsTop t T := by
  refine ⟨h.mem.imp_right fun e => (hT t).2 (.inl e), fun s hs => ?_⟩
  rcases (hT s).1 hs with e | rfl
  · exact h.top s e
  · exact hl
theorem mem_next {α : Type} {x : List α} {i : Nat} {a : α} {f : α → TStamp} (h : x[i]? = some a) (s : TStamp) : (∃ o, o ∈ x.take (i + 1) ∧ f o = s) ↔ (∃ o, o ∈ x.take i ∧ f o = s) ∨ s = f a := by
  rw [take_next h]
  simp only [List.mem_append, List.mem_singleton]
  constructor
  · rintro ⟨o, h1 | rfl, e⟩
    · exact .inl ⟨o, h1, e⟩
    · exact .inr e.symm
  · rintro (⟨o, h1, e⟩ | e)
    · exact ⟨o, .inl h1, e⟩
    · exact ⟨a, .inr rfl, e.symm⟩
theorem q_ids (x : List TLOp) (hx : x.length < 9223372036854775807) : ∃ t, p_spec_l04Ids x = some t ∧ IsTop t fun s => ∃ o, o ∈ x ∧ o.id = s := by
  unfold p_spec_l04Ids
  obtain ⟨e, h1, a, b, c, rfl, h2⟩ := loop_count (step := p_spec_l04Ids_l0 x) x.length (fun i s => s.2.2 = (i : Int) ∧ IsTop ⟨s.1, s.2.1⟩ fun k => ∃ o, o ∈ x.take i ∧ o.id = k) (fun e => ∃ a b c, e = .out (a, b, c) ∧ IsTop ⟨a, b⟩ fun k => ∃ o, o ∈ x ∧ o.id = k) (by
      rintro i ⟨s0, s1, s2⟩ hi ⟨h1, h2⟩
      simp only at h1 h2
      subst h1
      obtain ⟨a, ha, ha'⟩ := get_lt (xs := x) hi
      have hd : decide ((i : Int) < (x.length : Int)) = true := by simpa using hi
      simp only [p_spec_l04Ids_l0]
      rw [if_t hd, ha, Option.bind_some, q_specLess, Option.bind_some, w64_succ (by omega)]
      cases hl : ltS ⟨s0, s1⟩ a.id with
      | true => exact .inl ⟨_, rfl, rfl, top_yes h2 (mem_next ha') hl⟩
      | false => exact .inl ⟨_, rfl, rfl, top_no h2 (mem_next ha') hl⟩)
      (by
      rintro ⟨s0, s1, s2⟩ ⟨h1, h2⟩
      simp only at h1 h2
      subst h1
      have hd : decide ((x.length : Int) < (x.length : Int)) = false := by simp
      simp only [p_spec_l04Ids_l0]
      rw [if_f hd]
      rw [List.take_length] at h2
      exact .inl ⟨_, rfl, _, _, _, rfl, h2⟩) (s := (0, 0, 0)) ⟨rfl, .inl rfl, by rintro s ⟨o, ho, _⟩; simp at ho⟩
  rw [h1, Option.bind_some]
  exact ⟨_, rfl, h2⟩
theorem q_markTop (v : T3 (List TLCell) (List TMark) Int) (hx : v.b.length < 9223372036854775807) {t : TStamp} {S : TStamp → Prop} (h : IsTop t S) : ∃ a b c, loopP (p_spec_MarkText_l0 v) (t.time, t.actor, 0) = some (.out (a, b, c)) ∧ IsTop ⟨a, b⟩ fun s => S s ∨ ∃ m, m ∈ v.b ∧ m.id = s := by
  obtain ⟨e, h1, a, b, c, rfl, h2⟩ := loop_count (step := p_spec_MarkText_l0 v) v.b.length (fun i s => s.2.2 = (i : Int) ∧ IsTop ⟨s.1, s.2.1⟩ fun k => S k ∨ ∃ o, o ∈ v.b.take i ∧ o.id = k) (fun e => ∃ a b c, e = .out (a, b, c) ∧ IsTop ⟨a, b⟩ fun k => S k ∨ ∃ o, o ∈ v.b ∧ o.id = k) (by
      rintro i ⟨s0, s1, s2⟩ hi ⟨h1, h2⟩
      simp only at h1 h2
      subst h1
      obtain ⟨a, ha, ha'⟩ := get_lt (xs := v.b) hi
      have hd : decide ((i : Int) < (v.b.length : Int)) = true := by simpa using hi
      have hT : ∀ s, (S s ∨ ∃ o, o ∈ v.b.take (i + 1) ∧ o.id = s) ↔ (S s ∨ ∃ o, o ∈ v.b.take i ∧ o.id = s) ∨ s = a.id := fun s => by
        rw [mem_next (f := TMark.id) ha', or_assoc]
      simp only [p_spec_MarkText_l0]
      rw [if_t hd, ha, Option.bind_some, q_specLess, Option.bind_some, w64_succ (by omega)]
      cases hl : ltS ⟨s0, s1⟩ a.id with
      | true => exact .inl ⟨_, rfl, rfl, top_yes h2 hT hl⟩
      | false => exact .inl ⟨_, rfl, rfl, top_no h2 hT hl⟩)
      (by
      rintro ⟨s0, s1, s2⟩ ⟨h1, h2⟩
      simp only at h1 h2
      subst h1
      have hd : decide ((v.b.length : Int) < (v.b.length : Int)) = false := by simp
      simp only [p_spec_MarkText_l0]
      rw [if_f hd]
      rw [List.take_length] at h2
      exact .inl ⟨_, rfl, _, _, _, rfl, h2⟩) (s := (t.time, t.actor, 0)) ⟨rfl, h.mem.imp_right .inl, fun s hs => by
        rcases hs with hs | ⟨o, ho, _⟩
        · exact h.top s hs
        · simp at ho⟩
  exact ⟨a, b, c, h1, h2⟩
theorem rising_last {α : Type} [DecidableEq α] {key : α → TStamp} {l : List α} {x : α} (hr : RisingK key l) (h : l.getLast? = some x) : x ∈ l ∧ ∀ y, y ∈ l → ltS (key x) (key y) = false := by
  obtain ⟨d, rfl⟩ := List.getLast?_eq_some_iff.1 h
  rw [RisingK, List.pairwise_append] at hr
  refine ⟨by simp, fun y hy => ?_⟩
  rcases List.mem_append.1 hy with hy | hy
  · exact ltK_asym (key := key) (hr.2.2 y hy x (by simp))
  · rw [List.mem_singleton.1 hy]
    exact ltS_irrefl
theorem top_impl {l : List TLOp} {ms : List TMark} (hl : RisingK TLOp.id l) (hm : RisingK TMark.id ms) : IsTop (topOf ((l.getLast?.map TLOp.id).getD ⟨0, 0⟩) ms) fun s => (∃ o, o ∈ l ∧ o.id = s) ∨ ∃ m, m ∈ ms ∧ m.id = s := by
  have h1 : IsTop ((l.getLast?.map TLOp.id).getD ⟨0, 0⟩) fun s => ∃ o, o ∈ l ∧ o.id = s := by
    cases h : l.getLast? with
    | none =>
      have : l = [] := List.getLast?_eq_none_iff.1 h
      subst this
      exact ⟨.inl rfl, by rintro s ⟨o, ho, _⟩; cases ho⟩
    | some x =>
      obtain ⟨a1, a2⟩ := rising_last hl h
      exact ⟨.inr ⟨x, a1, rfl⟩, by rintro s ⟨o, ho, rfl⟩; exact a2 o ho⟩
  generalize (l.getLast?.map TLOp.id).getD ⟨0, 0⟩ = t at h1
  unfold topOf
  cases h : ms.getLast? with
  | none =>
    have : ms = [] := List.getLast?_eq_none_iff.1 h
    subst this
    refine ⟨h1.mem.imp_right .inl, fun s hs => ?_⟩
    rcases hs with hs | ⟨o, ho, _⟩
    · exact h1.top s hs
    · cases ho
  | some x =>
    obtain ⟨a1, a2⟩ := rising_last hm h
    simp only
    cases hlt : ltS t x.id with
    | true =>
      rw [if_pos rfl]
      refine ⟨.inr (.inr ⟨x, a1, rfl⟩), fun s hs => ?_⟩
      rcases hs with hs | ⟨o, ho, rfl⟩
      · cases e2 : ltS x.id s with
        | false => rfl
        | true =>
          have := ltS_trans hlt e2
          rw [h1.top s hs] at this
          cases this
      · exact a2 o ho
    | false =>
      rw [if_neg (by simp)]
      refine ⟨h1.mem.imp_right .inl, fun s hs => ?_⟩
      rcases hs with hs | ⟨o, ho, rfl⟩
      · exact h1.top s hs
      · cases e2 : ltS t o.id with
        | false => rfl
        | true =>
          have a3 := a2 o ho
          unfold ltS at hlt e2 a3
          rw [decide_eq_true_eq] at e2
          rw [decide_eq_false_iff_not] at hlt a3
          omega
theorem listM_mem {x0 : List TLOp} {t : TList} {c : Int} (h : listM x0 = some ⟨some t, c⟩) : ∀ o, o ∈ t.ops ↔ o ∈ x0 := by
  unfold listM at h
  split at h
  · cases h
  · split at h
    · cases h
    · have hc := ded_clean x0
      cases hd : dedK TLOp.id none (sortL (ltK TLOp.id) x0) [] with
      | none => rw [hd] at h; cases h
      | some l =>
        rw [hd] at h hc
        simp only at h
        cases hf : fillK (initK l [⟨0, 0⟩] [[]]).1 l (initK l [⟨0, 0⟩] [[]]).2 [] with
        | none => rw [hf] at h; cases h
        | some q =>
          rw [hf] at h
          obtain ⟨w, _, e⟩ := Option.map_eq_some_iff.1 h
          cases e
          exact hc.2
/-- The next stamp of an actor. -/
def nextT (top : TStamp) (a : Int) : Int := if top.time < 1 ∨ a ≤ top.actor then top.time + 1 else top.time
def nextM (top : TStamp) (a : Int) : T2 TStamp Int := if nextT top a ≤ 1000000000000 then ⟨⟨nextT top a, a⟩, 0⟩ else ⟨⟨0, 0⟩, 11⟩
theorem q_nextAbove {top : TStamp} {a : Int} (ht : top = ⟨0, 0⟩ ∨ stOK top = true) (ha : 0 ≤ a ∧ a < 16) : p_impl_nextAbove top a = some (nextM top a) := by
  have hb : 0 ≤ top.time ∧ top.time ≤ 1000000000000 := by
    rcases ht with rfl | h
    · simp
    · unfold stOK at h
      rw [decide_eq_true_eq] at h
      omega
  have hw : w64 (top.time + 1) = top.time + 1 := w64_id (by omega) (by omega)
  have hs : ∀ n : Int, 1 ≤ n → p_impl_StampOK ⟨n, a⟩ = some (decide (n ≤ 1000000000000)) := by
    intro n hn
    rw [q_stOKl]
    unfold stOK
    congr 1
    exact decide_eq_decide.2 (by simp only; omega)
  unfold p_impl_nextAbove nextM
  simp only [decide_eq_true_eq, hw]
  by_cases h1 : top.time < 1
  · have e : nextT top a = top.time + 1 := if_pos (.inl h1)
    rw [if_pos h1, e, hs _ (by omega), Option.bind_some]
    by_cases h2 : top.time + 1 ≤ 1000000000000
    · rw [if_pos (decide_eq_true h2), if_pos h2]
    · rw [if_neg (by simpa using h2), if_neg h2]
  · by_cases h3 : a ≤ top.actor
    · have e : nextT top a = top.time + 1 := if_pos (.inr h3)
      rw [if_neg h1, if_pos h3, e, hs _ (by omega), Option.bind_some]
      by_cases h2 : top.time + 1 ≤ 1000000000000
      · rw [if_pos (decide_eq_true h2), if_pos h2]
      · rw [if_neg (by simpa using h2), if_neg h2]
    · have e : nextT top a = top.time := if_neg (by omega)
      rw [if_neg h1, if_neg h3, e, hs _ (by omega), Option.bind_some]
      by_cases h2 : top.time ≤ 1000000000000
      · rw [if_pos (decide_eq_true h2), if_pos h2]
      · rw [if_neg (by simpa using h2), if_neg h2]
theorem q_stampNext {top : TStamp} {a : Int} (ht : top = ⟨0, 0⟩ ∨ stOK top = true) (ha : 0 ≤ a ∧ a < 16) : p_spec_StampNext [top] a = some (nextM top a) := by
  have hb : 0 ≤ top.time ∧ top.time ≤ 1000000000000 := by
    rcases ht with rfl | h
    · simp
    · unfold stOK at h
      rw [decide_eq_true_eq] at h
      omega
  have hw : w64 (top.time + 1) = top.time + 1 := w64_id (by omega) (by omega)
  have hg : get? [top] 0 = some top := rfl
  have h01 : decide ((0 : Int) < (([top] : List TStamp).length : Int)) = true := rfl
  have h11 : decide ((1 : Int) < (([top] : List TStamp).length : Int)) = false := rfl
  have w1 : w64 ((0 : Int) + 1) = 1 := w64_id (by omega) (by omega)
  have l0 : loopP (p_spec_StampNext_l0 [top]) 0 = some (.out 1) := by
    rw [loopP_go (s' := 1) (by
      simp only [p_spec_StampNext_l0]
      rw [if_t h01, hg, Option.bind_some, q_specOKl, Option.bind_some, w1, q_noneS, Option.bind_some]
      rcases ht with h | h
      · cases hs : stOK top with
        | true => rw [if_t rfl]
        | false => rw [if_f rfl, if_t (decide_eq_true h)]
      · rw [h, if_t rfl])]
    exact loopP_out (by simp only [p_spec_StampNext_l0]; rw [if_f h11])
  have l1 : loopP (p_spec_StampNext_l1 [top] a) (1, 0) = some (.out (nextT top a, 1)) := by
    rw [loopP_go (s' := (nextT top a, 1)) (by
      simp only [p_spec_StampNext_l1]
      rw [if_t h01, hg, Option.bind_some, q_specLess, Option.bind_some, w1, hw]
      by_cases hl : ltS top ⟨1, a⟩ = true
      · rw [if_pos hl]
        unfold ltS at hl
        rw [decide_eq_true_eq] at hl
        simp only at hl
        have : nextT top a = 1 := by
          unfold nextT
          split <;> omega
        rw [this]
      · rw [if_neg hl]
        unfold ltS at hl
        rw [decide_eq_true_eq] at hl
        simp only at hl
        by_cases h3 : a ≤ top.actor
        · rw [if_t (decide_eq_true h3), show nextT top a = top.time + 1 from if_pos (.inr h3)]
        · rw [if_f (decide_eq_false h3), show nextT top a = top.time from if_neg (by omega)])]
    exact loopP_out (by simp only [p_spec_StampNext_l1]; rw [if_f h11])
  unfold p_spec_StampNext nextM
  rw [if_f (by simp), if_f (by simp; omega), if_f (by simp; omega), l0, Option.bind_some]
  simp only
  rw [l1, Option.bind_some]
  simp only [decide_eq_true_eq]
  by_cases h : nextT top a ≤ 1000000000000
  · rw [if_neg (by omega), if_pos h]
  · rw [if_pos (by omega), if_neg h]
theorem mark_same (x0 : List TLOp) (x1 : List TMark) (actor place size kind : Int) (on : Bool) (h0 : x0.length < 9223372036854775807) (h1 : x1.length < 9223372036854775807) (hpl : InI64 place) (hsz : InI64 size) :
    ∃ r, p_spec_MarkText x0 x1 actor place size kind on = some r ∧ p_impl_MarkText x0 x1 actor place size kind on = some r := by
  unfold p_spec_MarkText p_impl_MarkText
  rcases rich_both x0 x1 h0 h1 with ⟨c, k1, k2, k3⟩ | ⟨l, ml, ms, k1, k2⟩
  · refine ⟨⟨markZ, c⟩, ?_, ?_⟩
    · rw [k2, Option.bind_some, if_f (by simpa using k1)]
      rfl
    · rw [k3, Option.bind_some, if_pos k1]
  · obtain ⟨g, k3, k4⟩ := k2.list
    have hg := k2.good
    have hsl := seenC_len hg
    have hll := hg.len
    have hml := k2.len
    have hml2 := k2.len2
    have hcl := cells_len hg.grows
    rw [k1, k3, Option.bind_some, Option.bind_some]
    simp only [decide_true, if_true, ne_eq, not_true_eq_false, if_false]
    rw [q_seenS _ (by rw [List.length_map]; omega), Option.bind_some, seen_spec, seen_impl hg k4, Option.bind_some, if_pos (show ms.length ≤ 1000000 by omega)]
    have htop : p_impl_list_top (some ⟨l, cellsL l, g, placeG [] 0 (cellsL l)⟩) = some ((l.getLast?.map TLOp.id).getD ⟨0, 0⟩) := by
      unfold p_impl_list_top
      rw [Option.bind_some, if_pos (by simp only; omega)]
    rw [htop, Option.bind_some]
    simp only [List.length_map, decide_eq_true_eq]
    by_cases hA : 0 ≤ actor ∧ actor < 16
    case neg =>
      refine ⟨⟨markZ, 4⟩, ?_, by rw [if_pos (.inl hA)]⟩
      by_cases e : actor < 0
      · rw [if_pos e]; rfl
      · rw [if_neg e, if_pos (by omega)]; rfl
    rw [if_neg (show ¬ actor < 0 by omega), if_neg (show ¬ 16 ≤ actor by omega)]
    by_cases c1 : kind < 1
    · exact ⟨⟨markZ, 4⟩, by rw [if_pos c1]; rfl, by rw [if_pos (.inr (.inl c1))]⟩
    by_cases c2 : 8 < kind
    · exact ⟨⟨markZ, 4⟩, by rw [if_neg c1, if_pos c2]; rfl, by rw [if_pos (.inr (.inr (.inl c2)))]⟩
    by_cases c3 : place < 0
    · exact ⟨⟨markZ, 4⟩, by rw [if_neg c1, if_neg c2, if_pos c3]; rfl, by rw [if_pos (.inr (.inr (.inr (.inl c3))))]⟩
    by_cases c4 : size < 1
    · exact ⟨⟨markZ, 4⟩, by rw [if_neg c1, if_neg c2, if_neg c3, if_pos c4]; rfl, by rw [if_pos (.inr (.inr (.inr (.inr c4))))]⟩
    rw [if_neg c1, if_neg c2, if_neg c3, if_neg c4, if_neg (show ¬ (¬ (0 ≤ actor ∧ actor < 16) ∨ kind < 1 ∨ 8 < kind ∨ place < 0 ∨ size < 1) by omega)]
    by_cases c5 : ((seenC l).length : Int) < place
    · exact ⟨⟨markZ, 4⟩, by rw [if_pos c5]; rfl, by rw [if_pos (.inl c5)]⟩
    have w1 : w64 (((seenC l).length : Int) - place) = (seenC l).length - place := w64_id (by omega) (by omega)
    rw [if_neg c5, w1]
    by_cases c6 : ((seenC l).length : Int) - place < size
    · exact ⟨⟨markZ, 4⟩, by rw [if_pos c6]; rfl, by rw [if_pos (.inr c6)]⟩
    rw [if_neg c6, if_neg (show ¬ (((seenC l).length : Int) < place ∨ ((seenC l).length : Int) - place < size) by omega)]
    obtain ⟨t1, e1, e2⟩ := q_ids x0 h0
    obtain ⟨a, b, c, e3, e4⟩ := q_markTop ⟨(cellsL l).map (markC l), ml, 0⟩ (by simp only; omega) e2
    rw [e1, Option.bind_some, e3, Option.bind_some]
    simp only
    have hmem : ∀ o, o ∈ l ↔ o ∈ x0 := by
      obtain ⟨g', q1, _⟩ := hg.list
      exact listM_mem q1
    have hokO : ∀ o, o ∈ x0 → stOK o.id = true := fun o ho => lopK_id (hg.ok o ((hmem o).2 ho))
    have hokM : ∀ m, m ∈ x1 → stOK m.id = true := fun m hm => by
      have := k2.ok m hm
      unfold markK at this
      rw [Bool.and_eq_true] at this
      exact this.1
    have hS : (fun s => (∃ o, o ∈ l ∧ o.id = s) ∨ ∃ m, m ∈ ms ∧ m.id = s) = fun s => (∃ o, o ∈ x0 ∧ o.id = s) ∨ ∃ m, m ∈ ml ∧ m.id = s := by
      funext s
      simp only [hmem, k2.mem, k2.firsts.mem]
    have hti := top_impl (l := l) (ms := ms) hg.grows.up k2.up
    rw [hS] at hti
    have hst : ∀ s, ((∃ o, o ∈ x0 ∧ o.id = s) ∨ ∃ m, m ∈ ml ∧ m.id = s) → stOK s = true := by
      rintro s (⟨o, ho, rfl⟩ | ⟨m, hm, rfl⟩)
      · exact hokO o ho
      · exact hokM m ((k2.firsts.mem m).1 hm)
    have htt := top_unique (fun s hs => lt_none (hst s hs)) hti e4
    rw [htt]
    have hok : (⟨a, b⟩ : TStamp) = ⟨0, 0⟩ ∨ stOK ⟨a, b⟩ = true := e4.mem.imp_right (hst _)
    rw [q_nextAbove hok hA, q_stampNext hok hA, Option.bind_some, Option.bind_some]
    by_cases c7 : (nextM ⟨a, b⟩ actor).b = 0
    · obtain ⟨i, hi⟩ : ∃ i : Nat, place = i := ⟨place.toNat, by omega⟩
      obtain ⟨j, hj⟩ : ∃ j : Nat, place + size - 1 = j := ⟨(place + size - 1).toNat, by omega⟩
      have w2 : w64 (w64 (place + size) - 1) = place + size - 1 := by
        rw [w64_id (n := place + size) (by omega) (by omega), w64_id (by omega) (by omega)]
      rw [w2, hj, hi, if_pos c7, if_neg (by simp [c7])]
      obtain ⟨u, hu, hu'⟩ := get_lt (xs := seenC l) (i := i) (by omega)
      obtain ⟨v, hv, hv'⟩ := get_lt (xs := seenC l) (i := j) (by omega)
      have g1 : get? ((seenC l).map cellO) (i : Int) = some (cellO u) := by rw [get_nat, List.getElem?_map, hu']; rfl
      have g2 : get? ((seenC l).map cellO) (j : Int) = some (cellO v) := by rw [get_nat, List.getElem?_map, hv']; rfl
      rw [hu, hv, g1, g2]
      exact ⟨_, rfl, rfl⟩
    · have c8 : (nextM ⟨a, b⟩ actor).b = 11 := by
        unfold nextM at c7 ⊢
        split at c7
        · exact absurd rfl c7
        · rename_i h
          rw [if_neg h]
      rw [if_neg c7, if_pos c7, c8]
      exact ⟨_, rfl, rfl⟩
theorem plain_MarkText (x : List TLOp) (y : List TMark) (actor place size kind : Int) (on : Bool) (hx : x.length * 48 ≤ reachBytes ∧ ∀ a, a ∈ x → okTLOp a) (hy : y.length * 64 ≤ reachBytes ∧ ∀ a, a ∈ y → okTMark a) (h1 : InI64 actor) (h2 : InI64 place) (h3 : InI64 size) (h4 : InI64 kind) (h5 : True) : p_laws_FnExactMarkText x y actor place size kind on = some true := by
  unfold p_laws_FnExactMarkText
  have hx1 := hx.1
  have hy1 := hy.1
  rw [reach_eq] at hx1 hy1
  obtain ⟨m, e1⟩ := q_szLOpS x 1048576 (by omega)
  obtain ⟨m', e2⟩ := q_szMarkOpS y m (by omega)
  obtain ⟨r, h5, h6⟩ := mark_same x y actor place size kind on (by omega) (by omega) h2 h3
  simp only [e1, e2, h5, h6, q_toLOpS x hx.1, q_toMarkOpS y hy.1, q_eqLOpS x (by omega), q_eqMarkOpS y (by omega), q_eqMarkOp, Option.bind_some, decide_true, if_true]
  repeat' split
  all_goals rfl
end Go.AM
