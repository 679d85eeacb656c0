/- The plain law of ListOrder. No condition. -/
import Derived.Test.YtbmeclcmcknbaaaLabGListOrder
import Derived.Test.YtbmeclcmcknbaaaLabPackG
set_option linter.unusedVariables false
set_option linter.unusedSimpArgs false
namespace Go.AM

theorem q_eqStamp (x : TStamp) : p_laws_eqStamp x x = some true := by
  unfold p_laws_eqStamp 
  simp
theorem q_eqStampS (x : List TStamp) (hx : x.length < 9223372036854775807) : p_laws_eqStampS x x = some true := by
  unfold p_laws_eqStampS
  rw [if_pos (by simp)]
  have e : p_laws_eqStampS_l0 x x = eqStep x x p_laws_eqStamp := rfl
  rw [e]
  obtain ⟨i, h⟩ := eq_loop (x := x) (g := p_laws_eqStamp) (fun a _ => q_eqStamp a) hx
  rw [h]; rfl
noncomputable def mStamp (k : Int) : TStamp := ⟨k, k + 1⟩
theorem q_markStampS (x : List TStamp) (n : Int) (h0 : 0 ≤ n) (hn : n + 2 * x.length < 4611686018427380000) : ∃ y, p_laws_markStampS x n = some ⟨n + 2 * x.length, y⟩ ∧ y.length = x.length ∧ ∀ j : Nat, j < x.length → y[j]? = some (mStamp (n + 2 * j)) := by
  unfold p_laws_markStampS
  obtain ⟨e, h1, y, i, rfl, h2, h3⟩ := loop_count (step := p_laws_markStampS_l0) x.length (fun i s => s.2.1 = n + 2 * (i : Int) ∧ s.2.2 = (i : Int) ∧ s.1.length = x.length ∧ ∀ j : Nat, j < i → s.1[j]? = some (mStamp (n + 2 * j)))
    (fun e => ∃ y i, e = .out (y, n + 2 * x.length, i) ∧ y.length = x.length ∧ ∀ j : Nat, j < x.length → y[j]? = some (mStamp (n + 2 * j))) (by
      rintro i ⟨s0, s1, s2⟩ hi ⟨h1, h2, h3, h4⟩
      simp only at h1 h2 h3 h4
      subst h1 h2
      obtain ⟨a, ha, ha'⟩ := get_lt (xs := s0) (i := i) (by omega)
      have hd : decide ((i : Int) < (s0.length : Int)) = true := by simp; omega
      have hset : ∀ (l : List TStamp) (b : TStamp), l.length = x.length → get? (l.set i b) (i : Int) = some b := by
        intro l b hl
        rw [get_nat, List.getElem?_set_self (by omega)]
      left
      refine ⟨(s0.set i (mStamp (n + 2 * i)), n + 2 * ((i + 1 : Nat) : Int), ((i + 1 : Nat) : Int)), ?_, rfl, rfl, by simpa using h3, ?_⟩
      · 
        have e1 : w64 (n + 2 * (i : Int) + 1) = n + 2 * (i : Int) + 1 := by rw [w64_id (by omega) (by omega)]
        have e2 : w64 (n + 2 * (i : Int) + 1 + 1) = n + 2 * ((i + 1 : Nat) : Int) := by rw [w64_id (by omega) (by omega)]; omega
        have e0 := w64_succ (show i < 9223372036854775807 by omega)
        have es := fun b => hset s0 b h3
        simp only [p_laws_markStampS_l0, Int.toNat_natCast, e1, e2, e0, hd, if_true, ha, Option.bind_some, es, List.set_set]
        rfl
      · intro j hj
        simp only [List.getElem?_set]
        by_cases e : i = j
        · subst e
          rw [if_pos rfl, if_pos (by omega)]
        · rw [if_neg e]; exact h4 j (by omega))
    (by
      rintro ⟨s0, s1, s2⟩ ⟨h1, h2, h3, h4⟩
      simp only at h1 h2 h3 h4
      subst h1 h2
      have hd : decide ((x.length : Int) < (s0.length : Int)) = false := by simp; omega
      left
      refine ⟨(s0, n + 2 * (x.length : Int), (x.length : Int)), ?_, s0, x.length, rfl, h3, h4⟩
      simp only [p_laws_markStampS_l0]
      rw [if_f hd]) (s := (x, n, 0)) ⟨by simp, rfl, rfl, fun j hj => by omega⟩
  rw [h1]
  exact ⟨y, rfl, h2, h3⟩
theorem q_heldStampS (y : List TStamp) (n : Int) (h0 : 0 ≤ n) (hn : n + 2 * y.length < 4611686018427380000) (hy : ∀ j : Nat, j < y.length → y[j]? = some (mStamp (n + 2 * j))) : p_laws_heldStampS y n = some (n + 2 * y.length) := by
  unfold p_laws_heldStampS
  obtain ⟨e, h1, i, rfl⟩ := loop_count (step := p_laws_heldStampS_l0 y) y.length (fun i s => s.1 = n + 2 * (i : Int) ∧ s.2 = (i : Int)) (fun e => ∃ i, e = .out (n + 2 * y.length, i)) (by
      rintro i ⟨s0, s1⟩ hi ⟨h1, h2⟩
      simp only at h1 h2
      subst h1 h2
      obtain ⟨a, ha, ha'⟩ := get_lt (xs := y) (i := i) hi
      rw [hy i hi] at ha'
      cases ha'
      have hd : decide ((i : Int) < (y.length : Int)) = true := by simp; omega
      left
      refine ⟨(n + 2 * ((i + 1 : Nat) : Int), ((i + 1 : Nat) : Int)), ?_, rfl, rfl⟩
      have e1 : w64 (n + 2 * (i : Int) + 1) = n + 2 * (i : Int) + 1 := by rw [w64_id (by omega) (by omega)]
      have e2 : w64 (n + 2 * (i : Int) + 1 + 1) = n + 2 * ((i + 1 : Nat) : Int) := by rw [w64_id (by omega) (by omega)]; omega
      have e0 := w64_succ (show i < 9223372036854775807 by omega)
      simp only [p_laws_heldStampS_l0, e1, e2, e0, hd, if_true, ha, Option.bind_some, mStamp, decide_true, beq_self_eq_true, Bool.not_true, Bool.not_false, Bool.xor_false, Bool.true_xor])
    (by
      rintro ⟨s0, s1⟩ ⟨h1, h2⟩
      simp only at h1 h2
      subst h1 h2
      have hd : decide ((y.length : Int) < (y.length : Int)) = false := by simp
      left
      refine ⟨(n + 2 * (y.length : Int), (y.length : Int)), ?_, y.length, rfl⟩
      simp only [p_laws_heldStampS_l0]
      rw [if_f hd]) (s := (n, 0)) ⟨by simp, rfl⟩
  rw [h1]; rfl

theorem q_szLOpS (x : List TLOp) (n : Int) (hx : x.length < 9223372036854775807) : ∃ m, p_laws_szLOpS x n = some m := by
  unfold p_laws_szLOpS
  repeat' split
  all_goals exact ⟨_, rfl⟩
theorem q_toLOpS (x : List TLOp) (hx : x.length * 48 ≤ reachBytes) : p_laws_toLOpS x = some x := by
  rw [reach_eq] at hx
  unfold p_laws_toLOpS
  rw [show (48 : Int) = ((48 : Nat) : Int) from rfl, mkL_ok (by omega) (by omega), Option.bind_some]
  have e : p_laws_toLOpS_l0 x = copyStep x some := by
    funext s
    unfold p_laws_toLOpS_l0 copyStep p_laws_toLOp p_laws_toStamp
    rfl
  rw [e]
  obtain ⟨i, h⟩ := copy_loop (ρ := List TLOp) (x := x) (v := List.replicate x.length (TLOp.mk 0 0 (TStamp.mk 0 0) (TStamp.mk 0 0))) (f := some) (fun _ _ => rfl) (by simp) (by omega)
  rw [h]; rfl
theorem q_eqLOp (x : TLOp) : p_laws_eqLOp x x = some true := by
  unfold p_laws_eqLOp p_laws_eqStamp
  simp
theorem q_eqLOpS (x : List TLOp) (hx : x.length < 9223372036854775807) : p_laws_eqLOpS x x = some true := by
  unfold p_laws_eqLOpS
  rw [if_pos (by simp)]
  have e : p_laws_eqLOpS_l0 x x = eqStep x x p_laws_eqLOp := rfl
  rw [e]
  obtain ⟨i, h⟩ := eq_loop (x := x) (g := p_laws_eqLOp) (fun a _ => q_eqLOp a) hx
  rw [h]; rfl
noncomputable def mLOp (k : Int) : TLOp := ⟨k, k + 1, ⟨k + 2, k + 3⟩, ⟨k + 4, k + 5⟩⟩
theorem q_markLOpS (x : List TLOp) (n : Int) (h0 : 0 ≤ n) (hn : n + 6 * x.length < 4611686018427380000) : ∃ y, p_laws_markLOpS x n = some ⟨n + 6 * x.length, y⟩ ∧ y.length = x.length ∧ ∀ j : Nat, j < x.length → y[j]? = some (mLOp (n + 6 * j)) := by
  unfold p_laws_markLOpS
  obtain ⟨e, h1, y, i, rfl, h2, h3⟩ := loop_count (step := p_laws_markLOpS_l0) x.length (fun i s => s.2.1 = n + 6 * (i : Int) ∧ s.2.2 = (i : Int) ∧ s.1.length = x.length ∧ ∀ j : Nat, j < i → s.1[j]? = some (mLOp (n + 6 * j)))
    (fun e => ∃ y i, e = .out (y, n + 6 * x.length, i) ∧ y.length = x.length ∧ ∀ j : Nat, j < x.length → y[j]? = some (mLOp (n + 6 * j))) (by
      rintro i ⟨s0, s1, s2⟩ hi ⟨h1, h2, h3, h4⟩
      simp only at h1 h2 h3 h4
      subst h1 h2
      obtain ⟨a, ha, ha'⟩ := get_lt (xs := s0) (i := i) (by omega)
      have hd : decide ((i : Int) < (s0.length : Int)) = true := by simp; omega
      have hset : ∀ (l : List TLOp) (b : TLOp), l.length = x.length → get? (l.set i b) (i : Int) = some b := by
        intro l b hl
        rw [get_nat, List.getElem?_set_self (by omega)]
      left
      refine ⟨(s0.set i (mLOp (n + 6 * i)), n + 6 * ((i + 1 : Nat) : Int), ((i + 1 : Nat) : Int)), ?_, rfl, rfl, by simpa using h3, ?_⟩
      · 
        have e1 : w64 (n + 6 * (i : Int) + 1) = n + 6 * (i : Int) + 1 := by rw [w64_id (by omega) (by omega)]
        have e2 : w64 (n + 6 * (i : Int) + 1 + 1) = n + 6 * (i : Int) + 2 := by rw [w64_id (by omega) (by omega)]; omega
        have e3 : w64 (n + 6 * (i : Int) + 2 + 1) = n + 6 * (i : Int) + 3 := by rw [w64_id (by omega) (by omega)]; omega
        have e4 : w64 (n + 6 * (i : Int) + 3 + 1) = n + 6 * (i : Int) + 4 := by rw [w64_id (by omega) (by omega)]; omega
        have e5 : w64 (n + 6 * (i : Int) + 4 + 1) = n + 6 * (i : Int) + 5 := by rw [w64_id (by omega) (by omega)]; omega
        have e6 : w64 (n + 6 * (i : Int) + 5 + 1) = n + 6 * ((i + 1 : Nat) : Int) := by rw [w64_id (by omega) (by omega)]; omega
        have e0 := w64_succ (show i < 9223372036854775807 by omega)
        have es := fun b => hset s0 b h3
        simp only [p_laws_markLOpS_l0, Int.toNat_natCast, e1, e2, e3, e4, e5, e6, e0, hd, if_true, ha, Option.bind_some, es, List.set_set]
        rfl
      · intro j hj
        simp only [List.getElem?_set]
        by_cases e : i = j
        · subst e
          rw [if_pos rfl, if_pos (by omega)]
        · rw [if_neg e]; exact h4 j (by omega))
    (by
      rintro ⟨s0, s1, s2⟩ ⟨h1, h2, h3, h4⟩
      simp only at h1 h2 h3 h4
      subst h1 h2
      have hd : decide ((x.length : Int) < (s0.length : Int)) = false := by simp; omega
      left
      refine ⟨(s0, n + 6 * (x.length : Int), (x.length : Int)), ?_, s0, x.length, rfl, h3, h4⟩
      simp only [p_laws_markLOpS_l0]
      rw [if_f hd]) (s := (x, n, 0)) ⟨by simp, rfl, rfl, fun j hj => by omega⟩
  rw [h1]
  exact ⟨y, rfl, h2, h3⟩

theorem q_orderLoop (x : List TLCell) (hx : x.length ≤ 1000000) : ∃ i, loopP (p_spec_ListOrder_l0 x) ([], 0) = some (.out (x.map TLCell.id, i)) := by
  obtain ⟨e, h1, i, rfl⟩ := loop_count (step := p_spec_ListOrder_l0 x) x.length (fun i s => s = ((x.take i).map TLCell.id, (i : Int))) (fun e => ∃ i, e = .out (x.map TLCell.id, i)) (by
      rintro i s hi rfl
      obtain ⟨a, ha, ha'⟩ := get_lt (xs := x) hi
      have hd : decide ((i : Int) < (x.length : Int)) = true := by simpa using hi
      have hlen : ((x.take i).map TLCell.id).length ≤ i := by rw [List.length_map, List.length_take]; omega
      simp only [p_spec_ListOrder_l0]
      rw [if_t hd, ha, Option.bind_some, app_one (by omega), Option.bind_some, w64_succ (by omega)]
      exact .inl ⟨_, rfl, by rw [take_next ha', List.map_append]; rfl⟩)
      (by
      rintro s rfl
      have hd : decide ((x.length : Int) < (x.length : Int)) = false := by simp
      simp only [p_spec_ListOrder_l0]
      rw [if_f hd, List.take_length]
      exact .inl ⟨_, rfl, _, rfl⟩) (s := ([], 0)) rfl
  exact ⟨i, h1⟩
theorem order_same (x : List TLOp) (hx : x.length < 9223372036854775807) : ∃ r, p_spec_ListOrder x = some r ∧ p_impl_ListOrder x = some r ∧ r.a.length ≤ 2048 := by
  unfold p_spec_ListOrder p_impl_ListOrder p_impl_readList
  rcases clean_both x hx with ⟨c, h1, h2, h3⟩ | ⟨l, h1, h2⟩
  · refine ⟨⟨[], c⟩, ?_, ?_, Nat.zero_le _⟩
    · rw [h2, Option.bind_some, if_f (by simpa using h1)]
    · rw [h3, Option.bind_some, if_pos h1]
  · obtain ⟨g, h3, h4⟩ := h2.list
    have hl := h2.len
    have hcl := cells_len h2.grows
    rw [h1, h3, Option.bind_some, Option.bind_some]
    simp only [decide_true, if_true, ne_eq, not_true_eq_false, if_false, Option.bind_some]
    rw [q_cells h2.grows (by omega), Option.bind_some]
    obtain ⟨i, hi⟩ := q_orderLoop ((cellsL l).map (markC l)) (by rw [List.length_map]; omega)
    rw [hi, Option.bind_some, if_pos (by omega)]
    refine ⟨⟨(cellsL l).map TLOp.id, 0⟩, ?_, rfl, by rw [List.length_map]; omega⟩
    simp only [List.map_map]
    rfl
theorem plain_ListOrder (x : List TLOp) (hx : x.length * 48 ≤ reachBytes ∧ ∀ a, a ∈ x → okTLOp a) : p_laws_FnExactListOrder x = some true := by
  unfold p_laws_FnExactListOrder
  have hx1 := hx.1
  rw [reach_eq] at hx1
  obtain ⟨m, h1⟩ := q_szLOpS x 1048576 (by omega)
  obtain ⟨r, h3, h4, hr1⟩ := order_same x (by omega)
  obtain ⟨x', h5, _⟩ := q_markLOpS x 1 (by omega) (by omega)
  obtain ⟨y, g1, g2, g3⟩ := q_markStampS r.a 1 (by omega) (by omega)
  have g7 := q_heldStampS y 1 (by omega) (by omega) (by rw [g2]; exact g3)
  rw [g2] at g7
  have hn : ¬ (1 + 6 * (x.length : Int) < 0) := by omega
  have hn2 : ¬ (1 + 2 * (r.a.length : Int) < 0) := by omega
  simp only [h1, h3, h4, h5, g1, g7, q_toLOpS x hx.1, q_eqLOpS x (by omega), q_eqStampS r.a (by omega), Option.bind_some, decide_true, if_true, decide_eq_true_eq, hn, hn2, if_false]
  repeat' split
  all_goals rfl
end Go.AM
