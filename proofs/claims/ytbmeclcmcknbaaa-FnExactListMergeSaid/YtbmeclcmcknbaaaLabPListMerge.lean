/- The plain law of ListMerge. No condition. -/
import Derived.Test.YtbmeclcmcknbaaaLabGListMerge
import Derived.Test.YtbmeclcmcknbaaaLabPackG
set_option linter.unusedVariables false
set_option linter.unusedSimpArgs false
namespace Go.AM

theorem q_szLOpS (x : List TLOp) (n : Int) (hx : x.length < 9223372036854775807) : ∃ m, p_laws_szLOpS x n = some m := by
  unfold p_laws_szLOpS
  repeat' split
  all_goals exact ⟨_, rfl⟩
theorem q_toLOpS (x : List TLOp) (hx : x.length * 48 ≤ reachBytes) : p_laws_toLOpS x = some x := by
  rw [reach_eq] at hx
  unfold p_laws_toLOpS
  rw [show (48 : Int) = ((48 : Nat) : Int) from rfl, mkL_ok (by omega) (by omega), Option.bind_some]
  have e : p_laws_toLOpS_l0 x = copyStep x some := by
    funext s
    unfold p_laws_toLOpS_l0 copyStep p_laws_toLOp p_laws_toStamp
    rfl
  rw [e]
  obtain ⟨i, h⟩ := copy_loop (ρ := List TLOp) (x := x) (v := List.replicate x.length (TLOp.mk 0 0 (TStamp.mk 0 0) (TStamp.mk 0 0))) (f := some) (fun _ _ => rfl) (by simp) (by omega)
  rw [h]; rfl
theorem q_eqLOp (x : TLOp) : p_laws_eqLOp x x = some true := by
  unfold p_laws_eqLOp p_laws_eqStamp
  simp
theorem q_eqLOpS (x : List TLOp) (hx : x.length < 9223372036854775807) : p_laws_eqLOpS x x = some true := by
  unfold p_laws_eqLOpS
  rw [if_pos (by simp)]
  have e : p_laws_eqLOpS_l0 x x = eqStep x x p_laws_eqLOp := rfl
  rw [e]
  obtain ⟨i, h⟩ := eq_loop (x := x) (g := p_laws_eqLOp) (fun a _ => q_eqLOp a) hx
  rw [h]; rfl
noncomputable def mLOp (k : Int) : TLOp := ⟨k, k + 1, ⟨k + 2, k + 3⟩, ⟨k + 4, k + 5⟩⟩
theorem q_markLOpS (x : List TLOp) (n : Int) (h0 : 0 ≤ n) (hn : n + 6 * x.length < 4611686018427380000) : ∃ y, p_laws_markLOpS x n = some ⟨n + 6 * x.length, y⟩ ∧ y.length = x.length ∧ ∀ j : Nat, j < x.length → y[j]? = some (mLOp (n + 6 * j)) := by
  unfold p_laws_markLOpS
  obtain ⟨e, h1, y, i, rfl, h2, h3⟩ := loop_count (step := p_laws_markLOpS_l0) x.length (fun i s => s.2.1 = n + 6 * (i : Int) ∧ s.2.2 = (i : Int) ∧ s.1.length = x.length ∧ ∀ j : Nat, j < i → s.1[j]? = some (mLOp (n + 6 * j)))
    (fun e => ∃ y i, e = .out (y, n + 6 * x.length, i) ∧ y.length = x.length ∧ ∀ j : Nat, j < x.length → y[j]? = some (mLOp (n + 6 * j))) (by
      rintro i ⟨s0, s1, s2⟩ hi ⟨h1, h2, h3, h4⟩
      simp only at h1 h2 h3 h4
      subst h1 h2
      obtain ⟨a, ha, ha'⟩ := get_lt (xs := s0) (i := i) (by omega)
      have hd : decide ((i : Int) < (s0.length : Int)) = true := by simp; omega
      have hset : ∀ (l : List TLOp) (b : TLOp), l.length = x.length → get? (l.set i b) (i : Int) = some b := by
        intro l b hl
        rw [get_nat, List.getElem?_set_self (by omega)]
      left
      refine ⟨(s0.set i (mLOp (n + 6 * i)), n + 6 * ((i + 1 : Nat) : Int), ((i + 1 : Nat) : Int)), ?_, rfl, rfl, by simpa using h3, ?_⟩
      · 
        have e1 : w64 (n + 6 * (i : Int) + 1) = n + 6 * (i : Int) + 1 := by rw [w64_id (by omega) (by omega)]
        have e2 : w64 (n + 6 * (i : Int) + 1 + 1) = n + 6 * (i : Int) + 2 := by rw [w64_id (by omega) (by omega)]; omega
        have e3 : w64 (n + 6 * (i : Int) + 2 + 1) = n + 6 * (i : Int) + 3 := by rw [w64_id (by omega) (by omega)]; omega
        have e4 : w64 (n + 6 * (i : Int) + 3 + 1) = n + 6 * (i : Int) + 4 := by rw [w64_id (by omega) (by omega)]; omega
        have e5 : w64 (n + 6 * (i : Int) + 4 + 1) = n + 6 * (i : Int) + 5 := by rw [w64_id (by omega) (by omega)]; omega
        have e6 : w64 (n + 6 * (i : Int) + 5 + 1) = n + 6 * ((i + 1 : Nat) : Int) := by rw [w64_id (by omega) (by omega)]; omega
        have e0 := w64_succ (show i < 9223372036854775807 by omega)
        have es := fun b => hset s0 b h3
        simp only [p_laws_markLOpS_l0, Int.toNat_natCast, e1, e2, e3, e4, e5, e6, e0, hd, if_true, ha, Option.bind_some, es, List.set_set]
        rfl
      · intro j hj
        simp only [List.getElem?_set]
        by_cases e : i = j
        · subst e
          rw [if_pos rfl, if_pos (by omega)]
        · rw [if_neg e]; exact h4 j (by omega))
    (by
      rintro ⟨s0, s1, s2⟩ ⟨h1, h2, h3, h4⟩
      simp only at h1 h2 h3 h4
      subst h1 h2
      have hd : decide ((x.length : Int) < (s0.length : Int)) = false := by simp; omega
      left
      refine ⟨(s0, n + 6 * (x.length : Int), (x.length : Int)), ?_, s0, x.length, rfl, h3, h4⟩
      simp only [p_laws_markLOpS_l0]
      rw [if_f hd]) (s := (x, n, 0)) ⟨by simp, rfl, rfl, fun j hj => by omega⟩
  rw [h1]
  exact ⟨y, rfl, h2, h3⟩
theorem q_heldLOpS (y : List TLOp) (n : Int) (h0 : 0 ≤ n) (hn : n + 6 * y.length < 4611686018427380000) (hy : ∀ j : Nat, j < y.length → y[j]? = some (mLOp (n + 6 * j))) : p_laws_heldLOpS y n = some (n + 6 * y.length) := by
  unfold p_laws_heldLOpS
  obtain ⟨e, h1, i, rfl⟩ := loop_count (step := p_laws_heldLOpS_l0 y) y.length (fun i s => s.1 = n + 6 * (i : Int) ∧ s.2 = (i : Int)) (fun e => ∃ i, e = .out (n + 6 * y.length, i)) (by
      rintro i ⟨s0, s1⟩ hi ⟨h1, h2⟩
      simp only at h1 h2
      subst h1 h2
      obtain ⟨a, ha, ha'⟩ := get_lt (xs := y) (i := i) hi
      rw [hy i hi] at ha'
      cases ha'
      have hd : decide ((i : Int) < (y.length : Int)) = true := by simp; omega
      left
      refine ⟨(n + 6 * ((i + 1 : Nat) : Int), ((i + 1 : Nat) : Int)), ?_, rfl, rfl⟩
      have e1 : w64 (n + 6 * (i : Int) + 1) = n + 6 * (i : Int) + 1 := by rw [w64_id (by omega) (by omega)]
      have e2 : w64 (n + 6 * (i : Int) + 1 + 1) = n + 6 * (i : Int) + 2 := by rw [w64_id (by omega) (by omega)]; omega
      have e3 : w64 (n + 6 * (i : Int) + 2 + 1) = n + 6 * (i : Int) + 3 := by rw [w64_id (by omega) (by omega)]; omega
      have e4 : w64 (n + 6 * (i : Int) + 3 + 1) = n + 6 * (i : Int) + 4 := by rw [w64_id (by omega) (by omega)]; omega
      have e5 : w64 (n + 6 * (i : Int) + 4 + 1) = n + 6 * (i : Int) + 5 := by rw [w64_id (by omega) (by omega)]; omega
      have e6 : w64 (n + 6 * (i : Int) + 5 + 1) = n + 6 * ((i + 1 : Nat) : Int) := by rw [w64_id (by omega) (by omega)]; omega
      have e0 := w64_succ (show i < 9223372036854775807 by omega)
      simp only [p_laws_heldLOpS_l0, e1, e2, e3, e4, e5, e6, e0, hd, if_true, ha, Option.bind_some, mLOp, decide_true, beq_self_eq_true, Bool.not_true, Bool.not_false, Bool.xor_false, Bool.true_xor])
    (by
      rintro ⟨s0, s1⟩ ⟨h1, h2⟩
      simp only at h1 h2
      subst h1 h2
      have hd : decide ((y.length : Int) < (y.length : Int)) = false := by simp
      left
      refine ⟨(n + 6 * (y.length : Int), (y.length : Int)), ?_, y.length, rfl⟩
      simp only [p_laws_heldLOpS_l0]
      rw [if_f hd]) (s := (n, 0)) ⟨by simp, rfl⟩
  rw [h1]; rfl

theorem q_copyL (v0 : T2 (List TLOp) Int) (hx : v0.a.length ≤ 1000000) : ∃ i, loopP (p_spec_ListMerge_l0 v0) ([], 0) = some (.out (v0.a, i)) := by
  obtain ⟨e, h1, i, rfl⟩ := loop_count (step := p_spec_ListMerge_l0 v0) v0.a.length (fun i s => s = (v0.a.take i, (i : Int))) (fun e => ∃ i, e = .out (v0.a, i)) (by
      rintro i s hi rfl
      obtain ⟨a, ha, ha'⟩ := get_lt (xs := v0.a) hi
      have hd : decide ((i : Int) < (v0.a.length : Int)) = true := by simpa using hi
      have hlen : (v0.a.take i).length ≤ i := by rw [List.length_take]; omega
      simp only [p_spec_ListMerge_l0]
      rw [if_t hd, ha, Option.bind_some, app_one (by omega), Option.bind_some, w64_succ (by omega)]
      exact .inl ⟨_, rfl, by rw [take_next ha']⟩)
      (by
      rintro s rfl
      have hd : decide ((v0.a.length : Int) < (v0.a.length : Int)) = false := by simp
      simp only [p_spec_ListMerge_l0]
      rw [if_f hd, List.take_length]
      exact .inl ⟨_, rfl, _, rfl⟩) (s := ([], 0)) rfl
  exact ⟨i, h1⟩
def isIn (x : List TLOp) (o : TLOp) : Bool := x.any fun a => decide (a = o)
theorem isIn_iff {x : List TLOp} {o : TLOp} : isIn x o = true ↔ o ∈ x := by
  unfold isIn
  rw [List.any_eq_true]
  constructor
  · rintro ⟨a, ha, e⟩
    rw [decide_eq_true_eq] at e
    exact e ▸ ha
  · intro h
    exact ⟨o, h, decide_eq_true rfl⟩
theorem q_twin (v0 v2 : T2 (List TLOp) Int) (j : Nat) (o : TLOp) (hx : v0.a.length ≤ 1000000) (ho : get? v2.a (j : Int) = some o) : ∃ i, loopP (p_spec_ListMerge_l2 v0 v2 (j : Int)) (false, 0) = some (.out (isIn v0.a o, i)) := by
  obtain ⟨e, h1, i, rfl⟩ := loop_count (step := p_spec_ListMerge_l2 v0 v2 (j : Int)) v0.a.length (fun i s => s = (isIn (v0.a.take i) o, (i : Int))) (fun e => ∃ i, e = .out (isIn v0.a o, i)) (by
      rintro i s hi rfl
      obtain ⟨a, ha, ha'⟩ := get_lt (xs := v0.a) hi
      have hd : decide ((i : Int) < (v0.a.length : Int)) = true := by simpa using hi
      simp only [p_spec_ListMerge_l2]
      rw [if_t hd]
      cases hb : isIn (v0.a.take i) o with
      | true =>
        have : isIn v0.a o = true := isIn_iff.2 (List.mem_of_mem_take (isIn_iff.1 hb))
        exact .inr (.inl ⟨(true, (i : Int)), rfl, (i : Int), by rw [this]⟩)
      | false =>
        rw [if_f rfl, ha, Option.bind_some, ho, Option.bind_some, opD, w64_succ (by omega)]
        refine .inl ⟨_, rfl, ?_⟩
        have : isIn (v0.a.take (i + 1)) o = decide (a = o) := by
          unfold isIn at hb ⊢
          rw [take_next ha', List.any_append, hb]
          simp
        rw [this])
      (by
      rintro s rfl
      have hd : decide ((v0.a.length : Int) < (v0.a.length : Int)) = false := by simp
      simp only [p_spec_ListMerge_l2]
      rw [if_f hd, List.take_length]
      exact .inl ⟨_, rfl, _, rfl⟩) (s := (false, 0)) rfl
  exact ⟨i, h1⟩
def newB (x y : List TLOp) : List TLOp := y.filter fun o => !isIn x o
theorem q_addL (v0 v2 : T2 (List TLOp) Int) (hx : v0.a.length ≤ 2048) (hy : v2.a.length ≤ 2048) : ∃ i, loopP (p_spec_ListMerge_l3 v0 v2) (v0.a, 0) = some (.out (v0.a ++ newB v0.a v2.a, i)) := by
  obtain ⟨e, h1, i, rfl⟩ := loop_count (step := p_spec_ListMerge_l3 v0 v2) v2.a.length (fun i s => s = (v0.a ++ newB v0.a (v2.a.take i), (i : Int))) (fun e => ∃ i, e = .out (v0.a ++ newB v0.a v2.a, i)) (by
      rintro i s hi rfl
      obtain ⟨a, ha, ha'⟩ := get_lt (xs := v2.a) hi
      have hd : decide ((i : Int) < (v2.a.length : Int)) = true := by simpa using hi
      obtain ⟨k, hk⟩ := q_twin v0 v2 i a (by omega) ha
      have hlen : (newB v0.a (v2.a.take i)).length ≤ i := Nat.le_trans (List.length_filter_le _ _) (by rw [List.length_take]; omega)
      simp only [p_spec_ListMerge_l3]
      rw [if_t hd, hk, Option.bind_some]
      simp only
      have e : newB v0.a (v2.a.take (i + 1)) = newB v0.a (v2.a.take i) ++ if isIn v0.a a then [] else [a] := by
        unfold newB
        rw [take_next ha', List.filter_append, List.filter_cons]
        cases isIn v0.a a <;> simp
      cases hb : isIn v0.a a with
      | true =>
        rw [hb] at e
        rw [if_t rfl, w64_succ (by omega)]
        exact .inl ⟨_, rfl, by rw [e]; simp⟩
      | false =>
        rw [hb] at e
        rw [if_f rfl, ha, Option.bind_some, app_one (by rw [List.length_append]; omega), Option.bind_some, w64_succ (by omega)]
        exact .inl ⟨_, rfl, by rw [e]; simp⟩)
      (by
      rintro s rfl
      have hd : decide ((v2.a.length : Int) < (v2.a.length : Int)) = false := by simp
      simp only [p_spec_ListMerge_l3]
      rw [if_f hd, List.take_length]
      exact .inl ⟨_, rfl, _, rfl⟩) (s := (v0.a, 0)) (by simp [newB])
  exact ⟨i, h1⟩
theorem clean_code {z : List TLOp} {c : Int} (hz : z.length < 9223372036854775807) (h : listM z = some ⟨none, c⟩) : p_spec_l04Clean z = some ⟨[], c⟩ := by
  rcases clean_both z hz with ⟨c', h1, h2, h3⟩ | ⟨l, h1, h2⟩
  · rw [h3] at h
    cases h
    exact h2
  · obtain ⟨g, h3, _⟩ := h2.list
    rw [h3] at h
    cases h
theorem clean_list {z l ord : List TLOp} {g : List TStamp} {pl : List (TStamp × Int)} (hz : z.length < 9223372036854775807) (h : listM z = some ⟨some ⟨l, ord, g, pl⟩, 0⟩) : p_spec_l04Clean z = some ⟨l, 0⟩ := by
  rcases clean_both z hz with ⟨c', h1, h2, h3⟩ | ⟨l', h1, h2⟩
  · rw [h3] at h
    cases h
  · obtain ⟨g, h3, _⟩ := h2.list
    rw [h3] at h
    cases h
    exact h1
theorem newB_mem {x y : List TLOp} (o : TLOp) : o ∈ x ++ newB x y ↔ o ∈ x ++ y := by
  unfold newB
  simp only [List.mem_append, List.mem_filter, Bool.not_eq_true']
  constructor
  · rintro (h | h)
    · exact .inl h
    · exact .inr h.1
  · rintro (h | h)
    · exact .inl h
    · by_cases e : o ∈ x
      · exact .inl e
      · refine .inr ⟨h, ?_⟩
        cases hb : isIn x o with
        | false => rfl
        | true => exact absurd (isIn_iff.1 hb) e
theorem merged {a b x y : List TLOp} (ga : Good a x) (gb : Good b y) : ∃ r : T2 (List TLOp) Int, mergeM x y = some r ∧ p_spec_l04Clean (x ++ newB x y) = some r ∧ r.a.length ≤ 4096 := by
  have lx := ga.len
  have ly := gb.len
  have hzl : (x ++ newB x y).length ≤ 4096 := by
    have := List.length_filter_le (fun o => !isIn x o) y
    rw [List.length_append]
    unfold newB
    omega
  have hzn : (x ++ newB x y).Nodup := by
    rw [List.nodup_append]
    refine ⟨rising_nod ga.grows.up, (rising_nod gb.grows.up).sublist List.filter_sublist, fun p hp q hq e => ?_⟩
    have := (List.mem_filter.1 hq).2
    rw [← e, isIn_iff.2 hp] at this
    cases this
  have hperm := sortL_perm (ltK_swo TLOp.id) (x ++ y)
  have hon : (onceK none (sortL (ltK TLOp.id) (x ++ y)) [] false).1.Nodup := by
    refine onceK_nodup _ none [] [] false (sortL_sorted (ltK_swo TLOp.id) (x ++ y)) (fun k => ?_) List.nodup_nil (fun _ h => by cases h) rfl
    have h1 := count_rising ga.grows.up k
    have h2 := count_rising gb.grows.up k
    have h3 := (hperm.filter fun o => decide (o.id = k)).length_eq
    rw [List.filter_append, List.length_append] at h3
    rw [List.nil_append]
    omega
  have hom : ∀ o, o ∈ (onceK none (sortL (ltK TLOp.id) (x ++ y)) [] false).1 ↔ o ∈ x ++ newB x y := by
    intro o
    rw [onceK_mem _ none [] false (fun _ e => by cases e), newB_mem, hperm.mem_iff]
    simp
  have hol := ((List.perm_ext_iff_of_nodup hon hzn).2 hom).length_eq
  have hcl : CleanK TLOp.id (x ++ newB x y) (dedK TLOp.id none (sortL (ltK TLOp.id) (x ++ y)) []) := by
    have := ded_clean (x ++ y)
    cases hr : dedK TLOp.id none (sortL (ltK TLOp.id) (x ++ y)) [] with
    | some l =>
      rw [hr] at this
      exact ⟨this.1, fun o => (this.2 o).trans (newB_mem o).symm⟩
    | none =>
      rw [hr] at this
      obtain ⟨p, q, h1, h2, h3⟩ := this
      exact ⟨p, q, (newB_mem p).2 h1, (newB_mem q).2 h2, h3⟩
  have hde := cleanK_eq (ded_clean (x ++ newB x y)) hcl
  have hok : (x ++ newB x y).all lopK = true := by
    rw [List.all_eq_true]
    intro o ho
    rcases List.mem_append.1 ((newB_mem o).1 ho) with h | h
    · exact ga.ok o h
    · exact gb.ok o h
  have hde2 := onceK_ded (sortL (ltK TLOp.id) (x ++ y)) none [] false
  unfold mergeM
  rw [if_pos ⟨lx, ly⟩]
  simp only
  generalize onceK none (sortL (ltK TLOp.id) (x ++ y)) [] false = O at hon hom hol hde2
  by_cases hl : 2048 < O.1.length
  · have hl2 : 2048 < (x ++ newB x y).length := by omega
    refine ⟨⟨[], 2⟩, by rw [if_pos hl], clean_code (by omega) ?_, by simp⟩
    unfold listM
    rw [if_pos hl2]
  · have hl2 : ¬ 2048 < (x ++ newB x y).length := by omega
    rw [if_neg hl]
    cases hd : dedK TLOp.id none (sortL (ltK TLOp.id) (x ++ y)) [] with
    | none =>
      rw [hd] at hde2 hde
      simp only at hde2
      refine ⟨⟨[], 16⟩, by rw [if_pos hde2], clean_code (by omega) ?_, by simp⟩
      unfold listM
      rw [if_neg hl2, if_neg (by rw [hok]; simp), hde]
    | some l =>
      rw [hd] at hde2 hde hcl
      simp only at hde2
      have ht : There l := by
        intro o ho
        have key : ∀ {m : List TLOp}, Grows m → (∀ p, p ∈ m → p ∈ l) → o ∈ m → o.at_ = ⟨0, 0⟩ ∨ ∃ p, p ∈ l ∧ p.kind = 1 ∧ p.id = o.at_ := by
          intro m g hm h
          rcases g.there o h with e | ⟨p, hp, h1, h2⟩
          · exact .inl e
          · exact .inr ⟨p, hm p hp, h1, h2⟩
        rcases List.mem_append.1 ((newB_mem o).1 ((hcl.2 o).1 ho)) with h | h
        · exact key ga.grows (fun p hp => (hcl.2 p).2 ((newB_mem p).2 (List.mem_append_left _ hp))) h
        · exact key gb.grows (fun p hp => (hcl.2 p).2 ((newB_mem p).2 (List.mem_append_right _ hp))) h
      obtain ⟨g, hg, _⟩ := listM_some hl2 hok hde ht
      rw [hde2]
      refine ⟨⟨l, 0⟩, by simp, clean_list (by omega) hg, ?_⟩
      rw [hde2] at hl
      simp only at hl ⊢
      omega
theorem merge_same (x y : List TLOp) (hx : x.length < 9223372036854775807) (hy : y.length < 9223372036854775807) : ∃ r, p_spec_ListMerge x y = some r ∧ p_impl_ListMerge x y = some r ∧ r.a.length ≤ 4096 := by
  unfold p_spec_ListMerge p_impl_ListMerge p_impl_readList
  rcases clean_both x hx with ⟨c, h1, h2, h3⟩ | ⟨l, h1, h2⟩
  · refine ⟨⟨[], c⟩, ?_, ?_, by simp⟩
    · rw [h2, Option.bind_some, if_f (by simpa using h1)]
    · rw [h3, Option.bind_some, if_pos h1]
  · obtain ⟨g, h3, h4⟩ := h2.list
    rcases clean_both y hy with ⟨c, k1, k2, k3⟩ | ⟨m, k1, k2⟩
    · refine ⟨⟨[], c⟩, ?_, ?_, by simp⟩
      · rw [h1, Option.bind_some]
        simp only [decide_true, if_true]
        rw [k2, Option.bind_some, if_f (by simpa using k1)]
      · rw [h3, Option.bind_some]
        simp only [ne_eq, not_true_eq_false, if_false]
        rw [k3, Option.bind_some, if_pos k1]
    · obtain ⟨g', k3, k4⟩ := k2.list
      obtain ⟨r, e1, e2, e3⟩ := merged h2 k2
      refine ⟨r, ?_, ?_, e3⟩
      · rw [h1, Option.bind_some]
        simp only [decide_true, if_true]
        rw [k1, Option.bind_some]
        simp only [decide_true, if_true]
        have hl := h2.len
        have hm := k2.len
        obtain ⟨i, f1⟩ := q_copyL ⟨l, 0⟩ (by simp only; omega)
        obtain ⟨j, f2⟩ := q_addL ⟨l, 0⟩ ⟨m, 0⟩ hl hm
        rw [f1, Option.bind_some]
        simp only
        simp only at f2
        rw [f2, Option.bind_some]
        simp only
        rw [e2, Option.bind_some]
      · rw [h3, Option.bind_some]
        simp only [ne_eq, not_true_eq_false, if_false]
        rw [k3, Option.bind_some]
        simp only [ne_eq, not_true_eq_false, if_false, Option.bind_some]
        exact e1
theorem plain_ListMerge (x y : List TLOp) (hx : x.length * 48 ≤ reachBytes ∧ ∀ a, a ∈ x → okTLOp a) (hy : y.length * 48 ≤ reachBytes ∧ ∀ a, a ∈ y → okTLOp a) : p_laws_FnExactListMerge x y = some true := by
  unfold p_laws_FnExactListMerge
  have hx1 := hx.1
  have hy1 := hy.1
  rw [reach_eq] at hx1 hy1
  obtain ⟨m, h1⟩ := q_szLOpS x 1048576 (by omega)
  obtain ⟨m', h1'⟩ := q_szLOpS y m (by omega)
  obtain ⟨r, h3, h4, hr1⟩ := merge_same x y (by omega) (by omega)
  obtain ⟨x', h5, _⟩ := q_markLOpS x 1 (by omega) (by omega)
  obtain ⟨y', h6, _⟩ := q_markLOpS y (1 + 6 * x.length) (by omega) (by omega)
  obtain ⟨w, g1, g2, g3⟩ := q_markLOpS r.a 1 (by omega) (by omega)
  have g7 := q_heldLOpS w 1 (by omega) (by omega) (by rw [g2]; exact g3)
  rw [g2] at g7
  have hn : ¬ (1 + 6 * (x.length : Int) + 6 * y.length < 0) := by omega
  have hn2 : ¬ (1 + 6 * (r.a.length : Int) < 0) := by omega
  simp only [h1, h1', h3, h4, h5, h6, g1, g7, q_toLOpS x hx.1, q_toLOpS y hy.1, q_eqLOpS x (by omega), q_eqLOpS y (by omega), q_eqLOpS r.a (by omega), Option.bind_some, decide_true, if_true, decide_eq_true_eq, hn, hn2, if_false]
  repeat' split
  all_goals rfl
end Go.AM
