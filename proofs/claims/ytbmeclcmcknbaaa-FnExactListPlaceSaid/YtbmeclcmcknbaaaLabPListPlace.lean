/- The plain law of ListPlace. No condition. -/
import Derived.Test.YtbmeclcmcknbaaaLabGListPlace
import Derived.Test.YtbmeclcmcknbaaaLabPackG
set_option linter.unusedVariables false
set_option linter.unusedSimpArgs false
namespace Go.AM

theorem q_szLOpS (x : List TLOp) (hx : x.length < 9223372036854775807) : p_laws_szLOpS x 1048576 = some (if 1048576 < x.length then -1 else 1048576 - (x.length : Int)) := by
  unfold p_laws_szLOpS
  rw [w64_id (by omega) (by omega)]
  by_cases h : 1048576 < x.length
  · rw [if_t (by simp; omega), if_pos h]
  · rw [if_f (by simp; omega), if_neg h]
theorem q_toLOpS (x : List TLOp) (hx : x.length * 48 ≤ reachBytes) : p_laws_toLOpS x = some x := by
  rw [reach_eq] at hx
  unfold p_laws_toLOpS
  rw [show (48 : Int) = ((48 : Nat) : Int) from rfl, mkL_ok (by omega) (by omega), Option.bind_some]
  have e : p_laws_toLOpS_l0 x = copyStep x some := by
    funext s
    unfold p_laws_toLOpS_l0 copyStep p_laws_toLOp p_laws_toStamp
    rfl
  rw [e]
  obtain ⟨i, h⟩ := copy_loop (ρ := List TLOp) (x := x) (v := List.replicate x.length (TLOp.mk 0 0 (TStamp.mk 0 0) (TStamp.mk 0 0))) (f := some) (fun _ _ => rfl) (by simp) (by omega)
  rw [h]; rfl
theorem q_eqStamp (x : TStamp) : p_laws_eqStamp x x = some true := by
  unfold p_laws_eqStamp
  simp
theorem q_eqLOp (x : TLOp) : p_laws_eqLOp x x = some true := by
  unfold p_laws_eqLOp
  simp [q_eqStamp]
theorem q_eqLOpS (x : List TLOp) (hx : x.length < 9223372036854775807) : p_laws_eqLOpS x x = some true := by
  unfold p_laws_eqLOpS
  rw [if_pos (by simp)]
  have e : p_laws_eqLOpS_l0 x x = eqStep x x p_laws_eqLOp := rfl
  rw [e]
  obtain ⟨i, h⟩ := eq_loop (x := x) (g := p_laws_eqLOp) (fun a _ => q_eqLOp a) hx
  rw [h]; rfl
theorem place_same (x : List TLOp) (n : Int) (hx : x.length < 9223372036854775807) : ∃ r, p_spec_ListPlace x n = some r ∧ p_impl_ListPlace x n = some r := by
  unfold p_spec_ListPlace p_impl_ListPlace p_impl_readList
  rcases clean_both x hx with ⟨c, h1, h2, h3⟩ | ⟨l, h1, h2⟩
  · refine ⟨⟨⟨0, 0⟩, c⟩, ?_, ?_⟩
    · rw [h2, Option.bind_some, if_f (by simpa using h1)]
    · rw [h3, Option.bind_some, if_pos h1]
  · obtain ⟨g, h3, h4⟩ := h2.list
    have hl := h2.len
    have hcl := cells_len h2.grows
    rw [h1, h3, Option.bind_some, Option.bind_some]
    simp only [decide_true, if_true, ne_eq, not_true_eq_false, if_false]
    rw [q_cells h2.grows (by omega), Option.bind_some, q_seenS _ (by rw [List.length_map]; omega), Option.bind_some, seen_spec]
    simp only [seen_impl h2 h4, Option.bind_some, List.length_map, decide_eq_true_eq]
    by_cases e1 : n = -1
    · subst e1
      exact ⟨⟨⟨0, 0⟩, 0⟩, by rw [if_neg (by omega), if_neg (by omega), if_pos rfl], by rw [if_pos rfl]⟩
    · by_cases e2 : n < 0 ∨ ((seenC l).length : Int) ≤ n
      · refine ⟨⟨⟨0, 0⟩, 4⟩, ?_, by rw [if_neg e1, if_pos e2]⟩
        by_cases e3 : n < -1
        · rw [if_pos e3]
        · rw [if_neg e3, if_pos (by omega)]
      · obtain ⟨i, rfl⟩ : ∃ i : Nat, n = i := ⟨n.toNat, by omega⟩
        obtain ⟨o, ho, ho'⟩ := get_lt (xs := seenC l) (i := i) (by omega)
        refine ⟨⟨o.id, 0⟩, ?_, by rw [if_neg e1, if_neg e2, ho]; rfl⟩
        have : get? ((seenC l).map cellO) (i : Int) = some (cellO o) := by
          rw [get_nat, List.getElem?_map, ho']; rfl
        rw [if_neg (by omega), if_neg (by omega), if_neg e1, this]
        rfl
theorem plain_ListPlace (x : List TLOp) (a : Int) (hx : x.length * 48 ≤ reachBytes ∧ ∀ a, a ∈ x → okTLOp a) (ha : InI64 a) : p_laws_FnExactListPlace x a = some true := by
  unfold p_laws_FnExactListPlace
  have hx1 := hx.1
  rw [reach_eq] at hx1
  obtain ⟨r, h2, h3⟩ := place_same x a (by omega)
  simp only [q_szLOpS x (by omega), h2, h3, q_toLOpS x hx.1, q_eqLOpS x (by omega), q_eqStamp, Option.bind_some, decide_true, if_true]
  repeat' split
  all_goals rfl
end Go.AM
