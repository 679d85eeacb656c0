/- The plain law of Follow. No condition. -/
import Derived.Test.YtbmeclcmcknbaaaLabGFollow
import Derived.Test.YtbmeclcmcknbaaaLabPackG
set_option linter.unusedVariables false
set_option linter.unusedSimpArgs false
namespace Go.AM

theorem q_szLOpS (x : List TLOp) (hx : x.length < 9223372036854775807) : p_laws_szLOpS x 1048576 = some (if 1048576 < x.length then -1 else 1048576 - (x.length : Int)) := by
  unfold p_laws_szLOpS
  rw [w64_id (by omega) (by omega)]
  by_cases h : 1048576 < x.length
  · rw [if_t (by simp; omega), if_pos h]
  · rw [if_f (by simp; omega), if_neg h]
theorem q_toLOpS (x : List TLOp) (hx : x.length * 48 ≤ reachBytes) : p_laws_toLOpS x = some x := by
  rw [reach_eq] at hx
  unfold p_laws_toLOpS
  rw [show (48 : Int) = ((48 : Nat) : Int) from rfl, mkL_ok (by omega) (by omega), Option.bind_some]
  have e : p_laws_toLOpS_l0 x = copyStep x some := by
    funext s
    unfold p_laws_toLOpS_l0 copyStep p_laws_toLOp p_laws_toStamp
    rfl
  rw [e]
  obtain ⟨i, h⟩ := copy_loop (ρ := List TLOp) (x := x) (v := List.replicate x.length (TLOp.mk 0 0 (TStamp.mk 0 0) (TStamp.mk 0 0))) (f := some) (fun _ _ => rfl) (by simp) (by omega)
  rw [h]; rfl
theorem q_eqStamp (x : TStamp) : p_laws_eqStamp x x = some true := by
  unfold p_laws_eqStamp
  simp
theorem q_eqLOp (x : TLOp) : p_laws_eqLOp x x = some true := by
  unfold p_laws_eqLOp
  simp [q_eqStamp]
theorem q_eqLOpS (x : List TLOp) (hx : x.length < 9223372036854775807) : p_laws_eqLOpS x x = some true := by
  unfold p_laws_eqLOpS
  rw [if_pos (by simp)]
  have e : p_laws_eqLOpS_l0 x x = eqStep x x p_laws_eqLOp := rfl
  rw [e]
  obtain ⟨i, h⟩ := eq_loop (x := x) (g := p_laws_eqLOp) (fun a _ => q_eqLOp a) hx
  rw [h]; rfl
def zipF : Int → List TLOp → List (TStamp × Int)
  | _, [] => []
  | n, o :: C => (o.id, n) :: zipF (n + 1) C
theorem zipF_fst : ∀ {n : Int} {C : List TLOp}, (zipF n C).map Prod.fst = C.map TLOp.id
  | _, [] => rfl
  | n, o :: C => by rw [zipF, List.map_cons, zipF_fst]; rfl
theorem zipF_get : ∀ {n : Int} {C : List TLOp} {j : Nat}, (zipF n C)[j]? = (C[j]?).map fun o => (o.id, n + (j : Int))
  | _, [], j => by simp [zipF]
  | n, o :: C, 0 => by simp [zipF]
  | n, o :: C, j + 1 => by
    rw [zipF, List.getElem?_cons_succ, List.getElem?_cons_succ, zipF_get]
    congr 1
    funext x
    rw [show n + 1 + (j : Int) = n + ((j + 1 : Nat) : Int) by omega]
theorem placeG_app : ∀ (C : List TLOp) (p : List (TStamp × Int)) (n : Nat), (p.map Prod.fst ++ C.map TLOp.id).Nodup → placeG p n C = p ++ zipF (n : Int) C
  | [], p, n, _ => by rw [placeG, zipF, List.append_nil]
  | o :: C, p, n, h => by
    have hno : idxK (p.map Prod.fst) o.id = none := by
      cases e : idxK (p.map Prod.fst) o.id with
      | none => rfl
      | some j =>
        rw [List.nodup_append] at h
        exact absurd rfl (h.2.2 _ (List.mem_of_getElem? (idxK_lt e)) o.id (by simp))
    have hs : setP p o.id (n : Int) = p ++ [(o.id, (n : Int))] := by unfold setP; rw [hno]
    rw [placeG, hs, placeG_app C _ _ (by simpa using h), zipF, List.append_assoc]
    rfl
theorem placeG_eq {C : List TLOp} (h : (C.map TLOp.id).Nodup) : placeG [] 0 C = zipF 0 C := by
  rw [placeG_app C [] 0 (by simpa using h)]
  rfl
theorem idxK_ids {k : TStamp} : ∀ {C : List TLOp}, idxK (C.map TLOp.id) k = firstL k C
  | [] => rfl
  | o :: C => by rw [List.map_cons, idxK, firstL, idxK_ids]
theorem q_l05Place (out : List TLCell) (k : TStamp) (hl : out.length ≤ 1000000) : ∀ (S : List TLCell) (i : Nat), out.drop i = S → i ≤ out.length → loopP (p_spec_l05Place_l0 out k) (i : Int) = some (match findC k S with | some j => .ret ((i + j : Nat) : Int) | none => .out (out.length : Int))
  | [], i, hS, hi => by
    have hi : i = out.length := by
      have := List.drop_eq_nil_iff.1 hS
      omega
    subst hi
    exact loopP_out (by simp only [p_spec_l05Place_l0]; rw [if_f (by simp)])
  | o :: S, i, hS, hi => by
    have hlt : i < out.length := by
      rcases Nat.lt_or_ge i out.length with h | h
      · exact h
      · rw [List.drop_eq_nil_of_le h] at hS; cases hS
    have hg : out[i]? = some o := by
      have := congrArg (fun l => l[0]?) hS
      simpa using this
    have hS2 : out.drop (i + 1) = S := by
      have := congrArg List.tail hS
      simpa using this
    have hg2 : get? out (i : Int) = some o := by rw [get_nat]; exact hg
    have hd : decide ((i : Int) < (out.length : Int)) = true := by simpa using hlt
    rw [findC]
    by_cases e : o.id = k
    · rw [if_pos e]
      exact loopP_ret (by simp only [p_spec_l05Place_l0]; rw [if_t hd, hg2, Option.bind_some, idD, if_t (decide_eq_true e)]; rfl)
    · rw [if_neg e, loopP_go (s' := ((i + 1 : Nat) : Int)) (by simp only [p_spec_l05Place_l0]; rw [if_t hd, hg2, Option.bind_some, idD, if_f (decide_eq_false e), w64_succ (by omega)]), q_l05Place out k hl S (i + 1) hS2 hlt]
      cases findC k S with
      | none => rfl
      | some j => simp only [Option.map_some]; rw [show i + 1 + j = i + (j + 1) by omega]
theorem findC_mark {l : List TLOp} {q : TStamp} : ∀ (out : List TLOp), findC q (out.map (markC l)) = firstL q out
  | [] => rfl
  | o :: out => by
    rw [List.map_cons, findC, firstL, findC_mark out]
    rfl
theorem firstL_none {q : TStamp} : ∀ {out : List TLOp}, firstL q out = none ↔ ∀ x, x ∈ out → x.id ≠ q
  | [] => by simp [firstL]
  | o :: out => by
    rw [firstL]
    split
    · rename_i e
      simp [e]
    · rename_i e
      rw [Option.map_eq_none_iff, firstL_none]
      simp [e]
theorem firstL_lt {q : TStamp} : ∀ {out : List TLOp} {j : Nat}, firstL q out = some j → j < out.length
  | [], j, h => by cases h
  | o :: out, j, h => by
    rw [firstL] at h
    split at h
    · cases h; simp
    · obtain ⟨a, h1, rfl⟩ := Option.map_eq_some_iff.1 h
      have := firstL_lt h1
      simp; omega
theorem follow_same (x : List TLOp) (k : TStamp) (hx : x.length < 9223372036854775807) : ∃ r, p_spec_Follow x k = some r ∧ p_impl_Follow x k = some r := by
  unfold p_spec_Follow p_impl_Follow p_impl_readList
  rcases clean_both x hx with ⟨c, h1, h2, h3⟩ | ⟨l, h1, h2⟩
  · refine ⟨⟨0, c⟩, ?_, ?_⟩
    · rw [h2, Option.bind_some, if_f (by simpa using h1)]
    · rw [h3, Option.bind_some, if_pos h1]
  · obtain ⟨g, h3, h4⟩ := h2.list
    have hl := h2.len
    have hcl := cells_len h2.grows
    have hnod := (cellsL_ok l h2.grows).nod
    rw [h1, h3, Option.bind_some, Option.bind_some]
    simp only [decide_true, if_true, ne_eq, not_true_eq_false, if_false, Option.bind_some]
    rw [q_has h2.grows.up (by omega), Option.bind_some, q_cells h2.grows (by omega), Option.bind_some, placeG_eq hnod, zipF_fst, idxK_ids]
    unfold p_spec_l05Place
    have hpl : loopP (p_spec_l05Place_l0 ((cellsL l).map (markC l)) k) 0 = _ := q_l05Place ((cellsL l).map (markC l)) k (by rw [List.length_map]; omega) _ 0 rfl (Nat.zero_le _)
    rw [hpl, List.drop_zero, findC_mark, Option.bind_some]
    cases hf : firstL k (cellsL l) with
    | none =>
      have : hasB l k = false := by
        unfold hasB
        rw [Bool.eq_false_iff]
        intro h
        obtain ⟨y, hy, h⟩ := List.any_eq_true.1 h
        rw [decide_eq_true_eq] at h
        exact firstL_none.1 hf y ((cells_mem h2.grows).2 ⟨hy, h.2⟩) h.1
      rw [this]
      exact ⟨⟨0, 7⟩, rfl, rfl⟩
    | some j =>
      have hj := firstL_lt hf
      have : hasB l k = true := by
        cases hb : hasB l k with
        | true => rfl
        | false =>
          have : firstL k (cellsL l) = none := by
            rw [firstL_none]
            intro x hx e
            have hx := (cells_mem h2.grows).1 hx
            have : hasB l k = true := by
              unfold hasB
              exact List.any_eq_true.2 ⟨x, hx.1, decide_eq_true ⟨e, hx.2⟩⟩
            rw [hb] at this
            cases this
          rw [hf] at this
          cases this
      obtain ⟨o, ho⟩ : ∃ o, (cellsL l)[j]? = some o := ⟨_, List.getElem?_eq_getElem hj⟩
      have c1 : cut? ((cellsL l).map (markC l)) 0 (j : Int) = some (((cellsL l).take j).map (markC l)) := by
        unfold cut?
        rw [if_pos ⟨by omega, by omega, by rw [List.length_map]; omega⟩]
        simp [List.map_take]
      have c2 : cut? (cellsL l) 0 (j : Int) = some ((cellsL l).take j) := by
        unfold cut?
        rw [if_pos ⟨by omega, by omega, by omega⟩]
        simp
      have hlt : ((cellsL l).take j).length ≤ j := by rw [List.length_take]; omega
      refine ⟨⟨((((cellsL l).take j).filter fun o => !goneB l o.id).length : Int), 0⟩, ?_, ?_⟩
      · rw [this, if_pos rfl]
        simp only [Nat.zero_add]
        rw [Option.bind_some, c1, Option.bind_some, q_seenS _ (by rw [List.length_map]; omega), Option.bind_some, List.filter_map, List.length_map]
        rfl
      · simp only [zipF_get, ho, Option.map_some, Option.bind_some, Int.zero_add, c2, gone_both h2 h4]
        rw [if_pos (by omega)]
theorem plain_Follow (x : List TLOp) (k : TStamp) (hx : x.length * 48 ≤ reachBytes ∧ ∀ a, a ∈ x → okTLOp a) (hk : okTStamp k) : p_laws_FnExactFollow x k = some true := by
  unfold p_laws_FnExactFollow p_laws_toStamp
  have hx1 := hx.1
  rw [reach_eq] at hx1
  obtain ⟨r, h2, h3⟩ := follow_same x k (by omega)
  simp only [q_szLOpS x (by omega), h2, h3, q_toLOpS x hx.1, q_eqLOpS x (by omega), q_eqStamp, Option.bind_some, decide_true, if_true]
  repeat' split
  all_goals rfl
end Go.AM
