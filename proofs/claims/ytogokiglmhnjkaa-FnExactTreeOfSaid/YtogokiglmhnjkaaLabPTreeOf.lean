/- The plain law of TreeOf. No condition. -/
import Derived.Test.YtogokiglmhnjkaaLabGTreeOf
import Derived.Test.YtogokiglmhnjkaaLabPackG
set_option linter.unusedVariables false
set_option linter.unusedSimpArgs false
namespace Go.AM
theorem q_markText (n : Int) (hn : n < 4611686018427387904) : ∃ s, p_laws_markText n = some s := by
  unfold p_laws_markText
  by_cases h0 : n ≤ 0
  · rw [if_pos (decide_eq_true h0)]; exact ⟨_, rfl⟩
  · rw [if_neg (by simpa using h0)]
    obtain ⟨e, h1, m, s, rfl, hs⟩ := loopP_inv (step := p_laws_markText_l0) (fun s => 0 ≤ s.1 ∧ s.1 + s.2.size ≤ n) (fun s => s.1.toNat) (fun e => ∃ m s, e = .out (m, s) ∧ (s.size : Int) ≤ n) (by
      rintro ⟨s1, s2⟩ ⟨h2, h3⟩
      simp only at h2 h3
      simp only [p_laws_markText_l0]
      by_cases hd : 0 < s1
      · rw [if_pos (decide_eq_true hd)]
        have hz : ∀ k : Int, (strOfNums [k]).size = 1 := fun k => rfl
        have hc : ∀ k : Int, cat? (strOfNums [k]) s2 = some (strOfNums [k] ++ s2) := by
          intro k
          unfold cat?
          rw [if_pos (by rw [hz]; omega)]
        rw [hc, Option.bind_some]
        refine ⟨_, rfl, ?_⟩
        have hq : s1.tdiv 10 = s1 / 10 := Int.tdiv_eq_ediv_of_nonneg h2
        have hw : w64 (s1.tdiv 10) = s1 / 10 := by rw [hq]; exact w64_id (by omega) (by omega)
        simp only [hw, ByteArray.size_append, hz]
        refine ⟨⟨by omega, by omega⟩, by omega⟩
      · rw [if_neg (by simpa using hd)]
        exact ⟨_, rfl, _, _, rfl, by omega⟩) (s := (n, ByteArray.mk #[])) ⟨by simp only; omega, by simp only; show n + ((0 : Nat) : Int) ≤ n; omega⟩
    rw [h1, Option.bind_some]
    have : cat? (ByteArray.mk #[109]) s = some (ByteArray.mk #[109] ++ s) := by
      unfold cat?
      rw [if_pos (by show ((1 + s.size : Nat) : Int) ≤ _; omega)]
    simp only [this, Option.bind_some]
    exact ⟨_, rfl⟩
noncomputable def mt (n : Int) : ByteArray := (p_laws_markText n).getD (ByteArray.mk #[])
theorem mt_eq {n : Int} (hn : n < 4611686018427387904) : p_laws_markText n = some (mt n) := by
  obtain ⟨s, hs⟩ := q_markText n hn
  unfold mt
  rw [hs]; rfl

theorem q_eqStamp (x : TStamp) : p_laws_eqStamp x x = some true := by
  unfold p_laws_eqStamp 
  simp
theorem q_eqStampS (x : List TStamp) (hx : x.length < 9223372036854775807) : p_laws_eqStampS x x = some true := by
  unfold p_laws_eqStampS
  rw [if_pos (by simp)]
  have e : p_laws_eqStampS_l0 x x = eqStep x x p_laws_eqStamp := rfl
  rw [e]
  obtain ⟨i, h⟩ := eq_loop (x := x) (g := p_laws_eqStamp) (fun a _ => q_eqStamp a) hx
  rw [h]; rfl
noncomputable def mStamp (k : Int) : TStamp := ⟨k, k + 1⟩
theorem q_markStampS (x : List TStamp) (n : Int) (h0 : 0 ≤ n) (hn : n + 2 * x.length < 4611686018427380000) : ∃ y, p_laws_markStampS x n = some ⟨n + 2 * x.length, y⟩ ∧ y.length = x.length ∧ ∀ j : Nat, j < x.length → y[j]? = some (mStamp (n + 2 * j)) := by
  unfold p_laws_markStampS
  obtain ⟨e, h1, y, i, rfl, h2, h3⟩ := loop_count (step := p_laws_markStampS_l0) x.length (fun i s => s.2.1 = n + 2 * (i : Int) ∧ s.2.2 = (i : Int) ∧ s.1.length = x.length ∧ ∀ j : Nat, j < i → s.1[j]? = some (mStamp (n + 2 * j)))
    (fun e => ∃ y i, e = .out (y, n + 2 * x.length, i) ∧ y.length = x.length ∧ ∀ j : Nat, j < x.length → y[j]? = some (mStamp (n + 2 * j))) (by
      rintro i ⟨s0, s1, s2⟩ hi ⟨h1, h2, h3, h4⟩
      simp only at h1 h2 h3 h4
      subst h1 h2
      obtain ⟨a, ha, ha'⟩ := get_lt (xs := s0) (i := i) (by omega)
      have hd : decide ((i : Int) < (s0.length : Int)) = true := by simp; omega
      have hset : ∀ (l : List TStamp) (b : TStamp), l.length = x.length → get? (l.set i b) (i : Int) = some b := by
        intro l b hl
        rw [get_nat, List.getElem?_set_self (by omega)]
      left
      refine ⟨(s0.set i (mStamp (n + 2 * i)), n + 2 * ((i + 1 : Nat) : Int), ((i + 1 : Nat) : Int)), ?_, rfl, rfl, by simpa using h3, ?_⟩
      · 
        have e1 : w64 (n + 2 * (i : Int) + 1) = n + 2 * (i : Int) + 1 := by rw [w64_id (by omega) (by omega)]
        have e2 : w64 (n + 2 * (i : Int) + 1 + 1) = n + 2 * ((i + 1 : Nat) : Int) := by rw [w64_id (by omega) (by omega)]; omega
        have e0 := w64_succ (show i < 9223372036854775807 by omega)
        have es := fun b => hset s0 b h3
        simp only [p_laws_markStampS_l0, Int.toNat_natCast, e1, e2, e0, hd, if_true, ha, Option.bind_some, es, List.set_set]
        rfl
      · intro j hj
        simp only [List.getElem?_set]
        by_cases e : i = j
        · subst e
          rw [if_pos rfl, if_pos (by omega)]
        · rw [if_neg e]; exact h4 j (by omega))
    (by
      rintro ⟨s0, s1, s2⟩ ⟨h1, h2, h3, h4⟩
      simp only at h1 h2 h3 h4
      subst h1 h2
      have hd : decide ((x.length : Int) < (s0.length : Int)) = false := by simp; omega
      left
      refine ⟨(s0, n + 2 * (x.length : Int), (x.length : Int)), ?_, s0, x.length, rfl, h3, h4⟩
      simp only [p_laws_markStampS_l0]
      rw [if_f hd]) (s := (x, n, 0)) ⟨by simp, rfl, rfl, fun j hj => by omega⟩
  rw [h1]
  exact ⟨y, rfl, h2, h3⟩
theorem q_heldStampS (y : List TStamp) (n : Int) (h0 : 0 ≤ n) (hn : n + 2 * y.length < 4611686018427380000) (hy : ∀ j : Nat, j < y.length → y[j]? = some (mStamp (n + 2 * j))) : p_laws_heldStampS y n = some (n + 2 * y.length) := by
  unfold p_laws_heldStampS
  obtain ⟨e, h1, i, rfl⟩ := loop_count (step := p_laws_heldStampS_l0 y) y.length (fun i s => s.1 = n + 2 * (i : Int) ∧ s.2 = (i : Int)) (fun e => ∃ i, e = .out (n + 2 * y.length, i)) (by
      rintro i ⟨s0, s1⟩ hi ⟨h1, h2⟩
      simp only at h1 h2
      subst h1 h2
      obtain ⟨a, ha, ha'⟩ := get_lt (xs := y) (i := i) hi
      rw [hy i hi] at ha'
      cases ha'
      have hd : decide ((i : Int) < (y.length : Int)) = true := by simp; omega
      left
      refine ⟨(n + 2 * ((i + 1 : Nat) : Int), ((i + 1 : Nat) : Int)), ?_, rfl, rfl⟩
      have e1 : w64 (n + 2 * (i : Int) + 1) = n + 2 * (i : Int) + 1 := by rw [w64_id (by omega) (by omega)]
      have e2 : w64 (n + 2 * (i : Int) + 1 + 1) = n + 2 * ((i + 1 : Nat) : Int) := by rw [w64_id (by omega) (by omega)]; omega
      have e0 := w64_succ (show i < 9223372036854775807 by omega)
      simp only [p_laws_heldStampS_l0, e1, e2, e0, hd, if_true, ha, Option.bind_some, mStamp, decide_true, beq_self_eq_true, Bool.not_true, Bool.not_false, Bool.xor_false, Bool.true_xor])
    (by
      rintro ⟨s0, s1⟩ ⟨h1, h2⟩
      simp only at h1 h2
      subst h1 h2
      have hd : decide ((y.length : Int) < (y.length : Int)) = false := by simp
      left
      refine ⟨(n + 2 * (y.length : Int), (y.length : Int)), ?_, y.length, rfl⟩
      simp only [p_laws_heldStampS_l0]
      rw [if_f hd]) (s := (n, 0)) ⟨by simp, rfl⟩
  rw [h1]; rfl

theorem q_szMoveOp (x : TMove) (n : Int) : ∃ m, p_laws_szMoveOp x n = some m := by
  unfold p_laws_szMoveOp
  repeat' split
  all_goals exact ⟨_, rfl⟩
theorem q_szMoveOpS (x : List TMove) (n : Int) (hx : x.length < 9223372036854775807) : ∃ m, p_laws_szMoveOpS x n = some m := by
  unfold p_laws_szMoveOpS
  split
  · exact ⟨_, rfl⟩
  · obtain ⟨e, h1, _⟩ := loop_count (step := p_laws_szMoveOpS_l0 x) x.length (fun i s => s.2 = (i : Int)) (fun _ => True) (by
      rintro i ⟨s1, s2⟩ hi h
      simp only at h
      subst h
      obtain ⟨a, ha, ha'⟩ := get_lt (xs := x) hi
      obtain ⟨m, hm⟩ := q_szMoveOp a s1
      have hd : decide ((i : Int) < (x.length : Int)) = true := by simpa using hi
      simp only [p_laws_szMoveOpS_l0]
      rw [if_t hd, ha, Option.bind_some, hm, Option.bind_some, w64_succ (by omega)]
      split
      · exact .inr (.inr ⟨_, rfl, trivial⟩)
      · exact .inl ⟨_, rfl, rfl⟩)
      (by
      rintro ⟨s1, s2⟩ h
      simp only at h
      subst h
      have hd : decide ((x.length : Int) < (x.length : Int)) = false := by simp
      simp only [p_laws_szMoveOpS_l0]
      rw [if_f hd]
      exact .inl ⟨_, rfl, trivial⟩) (s := (w64 (n - (x.length : Int)), 0)) rfl
    rw [h1, Option.bind_some]
    cases e with
    | out s => exact ⟨_, rfl⟩
    | ret r => exact ⟨_, rfl⟩
theorem q_toMoveOpS (x : List TMove) (hx : x.length * 48 ≤ reachBytes) : p_laws_toMoveOpS x = some x := by
  rw [reach_eq] at hx
  unfold p_laws_toMoveOpS
  rw [show (48 : Int) = ((48 : Nat) : Int) from rfl, mkL_ok (by omega) (by omega), Option.bind_some]
  have e : p_laws_toMoveOpS_l0 x = copyStep x some := by
    funext s
    unfold p_laws_toMoveOpS_l0 copyStep p_laws_toMoveOp p_laws_toStamp
    rfl
  rw [e]
  obtain ⟨i, h⟩ := copy_loop (ρ := List TMove) (x := x) (v := List.replicate x.length (TMove.mk (TStamp.mk 0 0) 0 0 (ByteArray.mk #[]))) (f := some) (fun _ _ => rfl) (by simp) (by omega)
  rw [h]; rfl
theorem q_eqMoveOp (x : TMove) : p_laws_eqMoveOp x x = some true := by
  unfold p_laws_eqMoveOp p_laws_eqStamp
  simp
theorem q_eqMoveOpS (x : List TMove) (hx : x.length < 9223372036854775807) : p_laws_eqMoveOpS x x = some true := by
  unfold p_laws_eqMoveOpS
  rw [if_pos (by simp)]
  have e : p_laws_eqMoveOpS_l0 x x = eqStep x x p_laws_eqMoveOp := rfl
  rw [e]
  obtain ⟨i, h⟩ := eq_loop (x := x) (g := p_laws_eqMoveOp) (fun a _ => q_eqMoveOp a) hx
  rw [h]; rfl
noncomputable def mMoveOp (k : Int) : TMove := ⟨⟨k, k + 1⟩, k + 2, k + 3, mt (k + 4)⟩
theorem q_markMoveOpS (x : List TMove) (n : Int) (h0 : 0 ≤ n) (hn : n + 5 * x.length < 4611686018427380000) : ∃ y, p_laws_markMoveOpS x n = some ⟨n + 5 * x.length, y⟩ ∧ y.length = x.length ∧ ∀ j : Nat, j < x.length → y[j]? = some (mMoveOp (n + 5 * j)) := by
  unfold p_laws_markMoveOpS
  obtain ⟨e, h1, y, i, rfl, h2, h3⟩ := loop_count (step := p_laws_markMoveOpS_l0) x.length (fun i s => s.2.1 = n + 5 * (i : Int) ∧ s.2.2 = (i : Int) ∧ s.1.length = x.length ∧ ∀ j : Nat, j < i → s.1[j]? = some (mMoveOp (n + 5 * j)))
    (fun e => ∃ y i, e = .out (y, n + 5 * x.length, i) ∧ y.length = x.length ∧ ∀ j : Nat, j < x.length → y[j]? = some (mMoveOp (n + 5 * j))) (by
      rintro i ⟨s0, s1, s2⟩ hi ⟨h1, h2, h3, h4⟩
      simp only at h1 h2 h3 h4
      subst h1 h2
      obtain ⟨a, ha, ha'⟩ := get_lt (xs := s0) (i := i) (by omega)
      have hd : decide ((i : Int) < (s0.length : Int)) = true := by simp; omega
      have hset : ∀ (l : List TMove) (b : TMove), l.length = x.length → get? (l.set i b) (i : Int) = some b := by
        intro l b hl
        rw [get_nat, List.getElem?_set_self (by omega)]
      left
      refine ⟨(s0.set i (mMoveOp (n + 5 * i)), n + 5 * ((i + 1 : Nat) : Int), ((i + 1 : Nat) : Int)), ?_, rfl, rfl, by simpa using h3, ?_⟩
      · 
        have e1 : w64 (n + 5 * (i : Int) + 1) = n + 5 * (i : Int) + 1 := by rw [w64_id (by omega) (by omega)]
        have e2 : w64 (n + 5 * (i : Int) + 1 + 1) = n + 5 * (i : Int) + 2 := by rw [w64_id (by omega) (by omega)]; omega
        have e3 : w64 (n + 5 * (i : Int) + 2 + 1) = n + 5 * (i : Int) + 3 := by rw [w64_id (by omega) (by omega)]; omega
        have e4 : w64 (n + 5 * (i : Int) + 3 + 1) = n + 5 * (i : Int) + 4 := by rw [w64_id (by omega) (by omega)]; omega
        have e5 : w64 (n + 5 * (i : Int) + 4 + 1) = n + 5 * ((i + 1 : Nat) : Int) := by rw [w64_id (by omega) (by omega)]; omega
        have t4 : p_laws_markText (n + 5 * (i : Int) + 4) = some (mt (n + 5 * (i : Int) + 4)) := mt_eq (by omega)
        have e0 := w64_succ (show i < 9223372036854775807 by omega)
        have es := fun b => hset s0 b h3
        simp only [p_laws_markMoveOpS_l0, Int.toNat_natCast, e1, e2, e3, e4, e5, e0, hd, if_true, ha, Option.bind_some, t4, es, List.set_set]
        rfl
      · intro j hj
        simp only [List.getElem?_set]
        by_cases e : i = j
        · subst e
          rw [if_pos rfl, if_pos (by omega)]
        · rw [if_neg e]; exact h4 j (by omega))
    (by
      rintro ⟨s0, s1, s2⟩ ⟨h1, h2, h3, h4⟩
      simp only at h1 h2 h3 h4
      subst h1 h2
      have hd : decide ((x.length : Int) < (s0.length : Int)) = false := by simp; omega
      left
      refine ⟨(s0, n + 5 * (x.length : Int), (x.length : Int)), ?_, s0, x.length, rfl, h3, h4⟩
      simp only [p_laws_markMoveOpS_l0]
      rw [if_f hd]) (s := (x, n, 0)) ⟨by simp, rfl, rfl, fun j hj => by omega⟩
  rw [h1]
  exact ⟨y, rfl, h2, h3⟩

theorem q_eqTreeNode (x : TNode) : p_laws_eqTreeNode x x = some true := by
  unfold p_laws_eqTreeNode 
  simp
theorem q_eqTreeNodeS (x : List TNode) (hx : x.length < 9223372036854775807) : p_laws_eqTreeNodeS x x = some true := by
  unfold p_laws_eqTreeNodeS
  rw [if_pos (by simp)]
  have e : p_laws_eqTreeNodeS_l0 x x = eqStep x x p_laws_eqTreeNode := rfl
  rw [e]
  obtain ⟨i, h⟩ := eq_loop (x := x) (g := p_laws_eqTreeNode) (fun a _ => q_eqTreeNode a) hx
  rw [h]; rfl
noncomputable def mTreeNode (k : Int) : TNode := ⟨k, k + 1, mt (k + 2)⟩
theorem q_markTreeNodeS (x : List TNode) (n : Int) (h0 : 0 ≤ n) (hn : n + 3 * x.length < 4611686018427380000) : ∃ y, p_laws_markTreeNodeS x n = some ⟨n + 3 * x.length, y⟩ ∧ y.length = x.length ∧ ∀ j : Nat, j < x.length → y[j]? = some (mTreeNode (n + 3 * j)) := by
  unfold p_laws_markTreeNodeS
  obtain ⟨e, h1, y, i, rfl, h2, h3⟩ := loop_count (step := p_laws_markTreeNodeS_l0) x.length (fun i s => s.2.1 = n + 3 * (i : Int) ∧ s.2.2 = (i : Int) ∧ s.1.length = x.length ∧ ∀ j : Nat, j < i → s.1[j]? = some (mTreeNode (n + 3 * j)))
    (fun e => ∃ y i, e = .out (y, n + 3 * x.length, i) ∧ y.length = x.length ∧ ∀ j : Nat, j < x.length → y[j]? = some (mTreeNode (n + 3 * j))) (by
      rintro i ⟨s0, s1, s2⟩ hi ⟨h1, h2, h3, h4⟩
      simp only at h1 h2 h3 h4
      subst h1 h2
      obtain ⟨a, ha, ha'⟩ := get_lt (xs := s0) (i := i) (by omega)
      have hd : decide ((i : Int) < (s0.length : Int)) = true := by simp; omega
      have hset : ∀ (l : List TNode) (b : TNode), l.length = x.length → get? (l.set i b) (i : Int) = some b := by
        intro l b hl
        rw [get_nat, List.getElem?_set_self (by omega)]
      left
      refine ⟨(s0.set i (mTreeNode (n + 3 * i)), n + 3 * ((i + 1 : Nat) : Int), ((i + 1 : Nat) : Int)), ?_, rfl, rfl, by simpa using h3, ?_⟩
      · 
        have e1 : w64 (n + 3 * (i : Int) + 1) = n + 3 * (i : Int) + 1 := by rw [w64_id (by omega) (by omega)]
        have e2 : w64 (n + 3 * (i : Int) + 1 + 1) = n + 3 * (i : Int) + 2 := by rw [w64_id (by omega) (by omega)]; omega
        have e3 : w64 (n + 3 * (i : Int) + 2 + 1) = n + 3 * ((i + 1 : Nat) : Int) := by rw [w64_id (by omega) (by omega)]; omega
        have t2 : p_laws_markText (n + 3 * (i : Int) + 2) = some (mt (n + 3 * (i : Int) + 2)) := mt_eq (by omega)
        have e0 := w64_succ (show i < 9223372036854775807 by omega)
        have es := fun b => hset s0 b h3
        simp only [p_laws_markTreeNodeS_l0, Int.toNat_natCast, e1, e2, e3, e0, hd, if_true, ha, Option.bind_some, t2, es, List.set_set]
        rfl
      · intro j hj
        simp only [List.getElem?_set]
        by_cases e : i = j
        · subst e
          rw [if_pos rfl, if_pos (by omega)]
        · rw [if_neg e]; exact h4 j (by omega))
    (by
      rintro ⟨s0, s1, s2⟩ ⟨h1, h2, h3, h4⟩
      simp only at h1 h2 h3 h4
      subst h1 h2
      have hd : decide ((x.length : Int) < (s0.length : Int)) = false := by simp; omega
      left
      refine ⟨(s0, n + 3 * (x.length : Int), (x.length : Int)), ?_, s0, x.length, rfl, h3, h4⟩
      simp only [p_laws_markTreeNodeS_l0]
      rw [if_f hd]) (s := (x, n, 0)) ⟨by simp, rfl, rfl, fun j hj => by omega⟩
  rw [h1]
  exact ⟨y, rfl, h2, h3⟩
theorem q_heldTreeNodeS (y : List TNode) (n : Int) (h0 : 0 ≤ n) (hn : n + 3 * y.length < 4611686018427380000) (hy : ∀ j : Nat, j < y.length → y[j]? = some (mTreeNode (n + 3 * j))) : p_laws_heldTreeNodeS y n = some (n + 3 * y.length) := by
  unfold p_laws_heldTreeNodeS
  obtain ⟨e, h1, i, rfl⟩ := loop_count (step := p_laws_heldTreeNodeS_l0 y) y.length (fun i s => s.1 = n + 3 * (i : Int) ∧ s.2 = (i : Int)) (fun e => ∃ i, e = .out (n + 3 * y.length, i)) (by
      rintro i ⟨s0, s1⟩ hi ⟨h1, h2⟩
      simp only at h1 h2
      subst h1 h2
      obtain ⟨a, ha, ha'⟩ := get_lt (xs := y) (i := i) hi
      rw [hy i hi] at ha'
      cases ha'
      have hd : decide ((i : Int) < (y.length : Int)) = true := by simp; omega
      left
      refine ⟨(n + 3 * ((i + 1 : Nat) : Int), ((i + 1 : Nat) : Int)), ?_, rfl, rfl⟩
      have e1 : w64 (n + 3 * (i : Int) + 1) = n + 3 * (i : Int) + 1 := by rw [w64_id (by omega) (by omega)]
      have e2 : w64 (n + 3 * (i : Int) + 1 + 1) = n + 3 * (i : Int) + 2 := by rw [w64_id (by omega) (by omega)]; omega
      have e3 : w64 (n + 3 * (i : Int) + 2 + 1) = n + 3 * ((i + 1 : Nat) : Int) := by rw [w64_id (by omega) (by omega)]; omega
      have t2 : p_laws_markText (n + 3 * (i : Int) + 2) = some (mt (n + 3 * (i : Int) + 2)) := mt_eq (by omega)
      have e0 := w64_succ (show i < 9223372036854775807 by omega)
      simp only [p_laws_heldTreeNodeS_l0, e1, e2, e3, e0, hd, if_true, ha, Option.bind_some, mTreeNode, decide_true, t2, beq_self_eq_true, Bool.not_true, Bool.not_false, Bool.xor_false, Bool.true_xor])
    (by
      rintro ⟨s0, s1⟩ ⟨h1, h2⟩
      simp only at h1 h2
      subst h1 h2
      have hd : decide ((y.length : Int) < (y.length : Int)) = false := by simp
      left
      refine ⟨(n + 3 * (y.length : Int), (y.length : Int)), ?_, y.length, rfl⟩
      simp only [p_laws_heldTreeNodeS_l0]
      rw [if_f hd]) (s := (n, 0)) ⟨by simp, rfl⟩
  rw [h1]; rfl

def Above (ns : List TNode) : Prop := ∀ k nd, findN ns k = some nd → -1 ≤ nd.parent
theorem grow_above : ∀ (l : List TMove) (ns : List TNode) (sk : List TStamp), (∀ o, o ∈ l → mvOK o = true) → Above ns → Above (growM l ns sk).1 ∧ (growM l ns sk).2.length ≤ sk.length + l.length
  | [], ns, sk, _, h => ⟨h, Nat.le_refl _⟩
  | o :: l, ns, sk, hl, h => by
    obtain ⟨k1, k2, k3, k4, k5⟩ := okM (hl o (by simp))
    have hl' : ∀ o, o ∈ l → mvOK o = true := fun x hx => hl x (List.mem_cons_of_mem _ hx)
    rw [growM]
    split
    · obtain ⟨h1, h2⟩ := grow_above l ns (sk ++ [o.id]) hl' h
      refine ⟨h1, ?_⟩
      simp only [List.length_append, List.length_cons, List.length_nil] at h2 ⊢
      omega
    · obtain ⟨h1, h2⟩ := grow_above l (setN ns ⟨o.node, o.parent, o.name⟩) sk hl' (by
        intro k nd hf
        rw [find_set] at hf
        split at hf
        · cases hf
          exact k3
        · exact h k nd hf)
      refine ⟨h1, ?_⟩
      simp only [List.length_cons]
      omega
theorem out_same {ns : List TNode} {f : TForest} (g : Grown ns f) (ha : Above ns) : ∀ (k i : Nat) (acc : List TNode), 1 ≤ i → k + i ≤ 1001 → soutN f k i acc = some (ioutN ns k i acc) ∧ (ioutN ns k i acc).length ≤ acc.length + k
  | 0, i, acc, _, _ => ⟨rfl, Nat.le_refl _⟩
  | k + 1, i, acc, h1, h2 => by
    rw [soutN, ioutN]
    cases hf : findN ns (i : Int) with
    | none =>
      obtain ⟨e1, _⟩ := g.al.none (by omega) (by omega) hf
      rw [e1, Option.bind_some, if_pos rfl]
      obtain ⟨q1, q2⟩ := out_same g ha k (i + 1) acc (by omega) (by omega)
      exact ⟨q1, by simp only; omega⟩
    | some nd =>
      obtain ⟨e1, e2⟩ := g.al.some (by omega) (by omega) hf
      have h3 := ha _ _ hf
      have h4 := (g.told _ _ hf).1
      rw [e1, Option.bind_some, if_neg (by omega), e2, Option.bind_some, ← h4]
      obtain ⟨q1, q2⟩ := out_same g ha k (i + 1) (acc ++ [nd]) (by omega) (by omega)
      refine ⟨q1, ?_⟩
      simp only [List.length_append, List.length_cons, List.length_nil] at q2 ⊢
      omega
theorem treeOf_same (x0 : List TMove) : ∃ r, p_spec_TreeOf x0 = some r ∧ p_impl_TreeOf x0 = some r ∧ r.a.length ≤ 1000 ∧ r.b.length ≤ 2048 := by
  unfold p_spec_TreeOf p_impl_TreeOf p_spec_l06Clean treeOfM cleanM treeM
  rw [Option.bind_some]
  by_cases hl : 2048 < x0.length
  · rw [if_pos hl, if_pos hl]
    exact ⟨_, rfl, rfl, by simp, by simp⟩
  rw [if_neg hl, if_neg hl]
  cases ha : x0.all (fun o => stOK o.id && mvOK o) with
  | false => exact ⟨_, rfl, rfl, by simp, by simp⟩
  | true =>
    simp only [Bool.true_eq_false, if_false, ← clean_ded]
    cases hc : cleanL x0 [] with
    | none => exact ⟨_, rfl, rfl, by simp, by simp⟩
    | some l =>
      simp only [ne_eq, not_true_eq_false, if_false, Option.bind_some]
      have hcl := cleanL_clean x0 [] [] List.Pairwise.nil (fun x => Iff.rfl)
      rw [hc, List.nil_append] at hcl
      have hok : ∀ o, o ∈ l → mvOK o = true := by
        intro o ho
        have := List.all_eq_true.1 ha o ((hcl.2 o).1 ho)
        rw [Bool.and_eq_true] at this
        exact this.2
      have hll : l.length ≤ 2048 := by
        have := hc
        rw [clean_ded] at this
        have := dedM_len _ _ _ _ this
        rw [sortL_len ltM_swo] at this
        simp only [List.length_nil] at this
        omega
      obtain ⟨f, f1, f2, f3⟩ := grow_same l [] ⟨List.replicate 1001 (-2), List.replicate 1001 ⟨#[]⟩, []⟩ hok grown_nil
      unfold p_spec_l06Grow
      rw [if_pos hll, f1, Option.bind_some]
      simp only at f2 f3
      obtain ⟨g1, g2⟩ := grow_above l [] [] hok (fun k nd h => by cases h)
      obtain ⟨q1, q2⟩ := out_same f2 g1 1000 1 [] (Nat.le_refl _) (Nat.le_refl _)
      rw [q1, Option.bind_some]
      rw [f3]
      simp only [if_true]
      simp only [List.length_nil] at g2 q2
      exact ⟨_, rfl, rfl, by simp only; omega, by simp only; omega⟩

theorem plain_TreeOf (x : List TMove) (hx : x.length * 48 ≤ reachBytes ∧ ∀ a, a ∈ x → okTMove a) : p_laws_FnExactTreeOf x = some true := by
  unfold p_laws_FnExactTreeOf
  have hx1 := hx.1
  rw [reach_eq] at hx1
  obtain ⟨m, h1⟩ := q_szMoveOpS x 1048576 (by omega)
  obtain ⟨r, h3, h4, hr1, hr2⟩ := treeOf_same x
  obtain ⟨x', h5, _⟩ := q_markMoveOpS x 1 (by omega) (by omega)
  obtain ⟨y, g1, g2, g3⟩ := q_markTreeNodeS r.a 1 (by omega) (by omega)
  obtain ⟨z, g4, g5, g6⟩ := q_markStampS r.b (1 + 3 * r.a.length) (by omega) (by omega)
  have g7 := q_heldTreeNodeS y 1 (by omega) (by omega) (by rw [g2]; exact g3)
  have g8 := q_heldStampS z (1 + 3 * r.a.length) (by omega) (by omega) (by rw [g5]; exact g6)
  rw [g2] at g7
  rw [g5] at g8
  have hn : ¬ (1 + 5 * (x.length : Int) < 0) := by omega
  have hn2 : ¬ (1 + 3 * (r.a.length : Int) < 0) := by omega
  have hn3 : ¬ (1 + 3 * (r.a.length : Int) + 2 * r.b.length < 0) := by omega
  simp only [h1, h3, h4, h5, g1, g4, g7, g8, q_toMoveOpS x hx.1, q_eqMoveOpS x (by omega), q_eqTreeNodeS r.a (by omega), q_eqStampS r.b (by omega), Option.bind_some, decide_true, if_true, decide_eq_true_eq, hn, hn2, hn3, if_false]
  repeat' split
  all_goals rfl
end Go.AM
