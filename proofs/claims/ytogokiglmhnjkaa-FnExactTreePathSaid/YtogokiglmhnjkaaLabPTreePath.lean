/- The plain law of TreePath. No condition. -/
import Derived.Test.YtogokiglmhnjkaaLabGTreePath
import Derived.Test.YtogokiglmhnjkaaLabPackG
set_option linter.unusedVariables false
set_option linter.unusedSimpArgs false
namespace Go.AM

theorem q_szMoveOp (x : TMove) (n : Int) : ∃ m, p_laws_szMoveOp x n = some m := by
  unfold p_laws_szMoveOp
  repeat' split
  all_goals exact ⟨_, rfl⟩
theorem q_szMoveOpS (x : List TMove) (n : Int) (hx : x.length < 9223372036854775807) : ∃ m, p_laws_szMoveOpS x n = some m := by
  unfold p_laws_szMoveOpS
  split
  · exact ⟨_, rfl⟩
  · obtain ⟨e, h1, _⟩ := loop_count (step := p_laws_szMoveOpS_l0 x) x.length (fun i s => s.2 = (i : Int)) (fun _ => True) (by
      rintro i ⟨s1, s2⟩ hi h
      simp only at h
      subst h
      obtain ⟨a, ha, ha'⟩ := get_lt (xs := x) hi
      obtain ⟨m, hm⟩ := q_szMoveOp a s1
      have hd : decide ((i : Int) < (x.length : Int)) = true := by simpa using hi
      simp only [p_laws_szMoveOpS_l0]
      rw [if_t hd, ha, Option.bind_some, hm, Option.bind_some, w64_succ (by omega)]
      split
      · exact .inr (.inr ⟨_, rfl, trivial⟩)
      · exact .inl ⟨_, rfl, rfl⟩)
      (by
      rintro ⟨s1, s2⟩ h
      simp only at h
      subst h
      have hd : decide ((x.length : Int) < (x.length : Int)) = false := by simp
      simp only [p_laws_szMoveOpS_l0]
      rw [if_f hd]
      exact .inl ⟨_, rfl, trivial⟩) (s := (w64 (n - (x.length : Int)), 0)) rfl
    rw [h1, Option.bind_some]
    cases e with
    | out s => exact ⟨_, rfl⟩
    | ret r => exact ⟨_, rfl⟩
theorem q_toMoveOpS (x : List TMove) (hx : x.length * 48 ≤ reachBytes) : p_laws_toMoveOpS x = some x := by
  rw [reach_eq] at hx
  unfold p_laws_toMoveOpS
  rw [show (48 : Int) = ((48 : Nat) : Int) from rfl, mkL_ok (by omega) (by omega), Option.bind_some]
  have e : p_laws_toMoveOpS_l0 x = copyStep x some := by
    funext s
    unfold p_laws_toMoveOpS_l0 copyStep p_laws_toMoveOp p_laws_toStamp
    rfl
  rw [e]
  obtain ⟨i, h⟩ := copy_loop (ρ := List TMove) (x := x) (v := List.replicate x.length (TMove.mk (TStamp.mk 0 0) 0 0 (ByteArray.mk #[]))) (f := some) (fun _ _ => rfl) (by simp) (by omega)
  rw [h]; rfl
theorem q_eqMoveOp (x : TMove) : p_laws_eqMoveOp x x = some true := by
  unfold p_laws_eqMoveOp p_laws_eqStamp
  simp
theorem q_eqMoveOpS (x : List TMove) (hx : x.length < 9223372036854775807) : p_laws_eqMoveOpS x x = some true := by
  unfold p_laws_eqMoveOpS
  rw [if_pos (by simp)]
  have e : p_laws_eqMoveOpS_l0 x x = eqStep x x p_laws_eqMoveOp := rfl
  rw [e]
  obtain ⟨i, h⟩ := eq_loop (x := x) (g := p_laws_eqMoveOp) (fun a _ => q_eqMoveOp a) hx
  rw [h]; rfl

theorem plain_TreePath (x : List TMove) (a : Int) (hx : x.length * 48 ≤ reachBytes ∧ ∀ a, a ∈ x → okTMove a) (ha : InI64 a) : p_laws_FnExactTreePath x a = some true := by
  unfold p_laws_FnExactTreePath
  have hx1 := hx.1
  rw [reach_eq] at hx1
  obtain ⟨m, h1⟩ := q_szMoveOpS x 1048576 (by omega)
  obtain ⟨r, h2, h3⟩ := trees_same x a
  simp only [h1, h2, h3, q_toMoveOpS x hx.1, q_eqMoveOpS x (by omega), Option.bind_some, decide_true, if_true]
  repeat' split
  all_goals rfl
end Go.AM
