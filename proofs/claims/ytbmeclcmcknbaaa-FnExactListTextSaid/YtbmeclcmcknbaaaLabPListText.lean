/- The plain law of ListText. No condition. -/
import Derived.Test.YtbmeclcmcknbaaaLabGListText
import Derived.Test.YtbmeclcmcknbaaaLabPackG
set_option linter.unusedVariables false
set_option linter.unusedSimpArgs false
namespace Go.AM

theorem q_szLOpS (x : List TLOp) (hx : x.length < 9223372036854775807) : p_laws_szLOpS x 1048576 = some (if 1048576 < x.length then -1 else 1048576 - (x.length : Int)) := by
  unfold p_laws_szLOpS
  rw [w64_id (by omega) (by omega)]
  by_cases h : 1048576 < x.length
  · rw [if_t (by simp; omega), if_pos h]
  · rw [if_f (by simp; omega), if_neg h]
theorem q_toLOpS (x : List TLOp) (hx : x.length * 48 ≤ reachBytes) : p_laws_toLOpS x = some x := by
  rw [reach_eq] at hx
  unfold p_laws_toLOpS
  rw [show (48 : Int) = ((48 : Nat) : Int) from rfl, mkL_ok (by omega) (by omega), Option.bind_some]
  have e : p_laws_toLOpS_l0 x = copyStep x some := by
    funext s
    unfold p_laws_toLOpS_l0 copyStep p_laws_toLOp p_laws_toStamp
    rfl
  rw [e]
  obtain ⟨i, h⟩ := copy_loop (ρ := List TLOp) (x := x) (v := List.replicate x.length (TLOp.mk 0 0 (TStamp.mk 0 0) (TStamp.mk 0 0))) (f := some) (fun _ _ => rfl) (by simp) (by omega)
  rw [h]; rfl
theorem q_eqStamp (x : TStamp) : p_laws_eqStamp x x = some true := by
  unfold p_laws_eqStamp
  simp
theorem q_eqLOp (x : TLOp) : p_laws_eqLOp x x = some true := by
  unfold p_laws_eqLOp
  simp [q_eqStamp]
theorem q_eqLOpS (x : List TLOp) (hx : x.length < 9223372036854775807) : p_laws_eqLOpS x x = some true := by
  unfold p_laws_eqLOpS
  rw [if_pos (by simp)]
  have e : p_laws_eqLOpS_l0 x x = eqStep x x p_laws_eqLOp := rfl
  rw [e]
  obtain ⟨i, h⟩ := eq_loop (x := x) (g := p_laws_eqLOp) (fun a _ => q_eqLOp a) hx
  rw [h]; rfl
theorem q_bytesOf {c : Int} (h : chOK c = true) : p_spec_l04Bytes c = some (encU c) := by
  unfold chOK at h
  rw [decide_eq_true_eq] at h
  unfold p_spec_l04Bytes encU
  simp only [decide_eq_true_eq]
  have d64 : w64 (Int.tdiv c 64) = c / 64 := by rw [Int.tdiv_eq_ediv_of_nonneg (by omega), w64_id (by omega) (by omega)]
  have d4096 : w64 (Int.tdiv c 4096) = c / 4096 := by rw [Int.tdiv_eq_ediv_of_nonneg (by omega), w64_id (by omega) (by omega)]
  have d262144 : w64 (Int.tdiv c 262144) = c / 262144 := by rw [Int.tdiv_eq_ediv_of_nonneg (by omega), w64_id (by omega) (by omega)]
  have m1 : Int.tmod c 64 = c % 64 := Int.tmod_eq_emod_of_nonneg (by omega)
  have m2 : Int.tmod (c / 64) 64 = c / 64 % 64 := Int.tmod_eq_emod_of_nonneg (by omega)
  have m3 : Int.tmod (c / 4096) 64 = c / 4096 % 64 := Int.tmod_eq_emod_of_nonneg (by omega)
  have wb : ∀ n : Int, 0 ≤ n → n ≤ 255 → IntKind.wrap .u8 (w64 n) = n := by
    intro n h0 h1
    rw [w64_id (by omega) (by omega), wrap_u8_id h0 h1]
  rw [d64, d4096, d262144, m1, m2, m3]
  by_cases h1 : c < 128
  · rw [if_pos h1, if_pos h1, wrap_u8_id (by omega) (by omega)]
  rw [if_neg h1, if_neg h1]
  by_cases h2 : c < 2048
  · rw [if_pos h2, if_pos h2, wb _ (by omega) (by omega), wb _ (by omega) (by omega)]
  rw [if_neg h2, if_neg h2]
  by_cases h3 : c < 65536
  · rw [if_pos h3, if_pos h3, wb _ (by omega) (by omega), wb _ (by omega) (by omega), wb _ (by omega) (by omega)]
  rw [if_neg h3, if_neg h3, wb _ (by omega) (by omega), wb _ (by omega) (by omega), wb _ (by omega) (by omega), wb _ (by omega) (by omega)]
def encC (l : List TLCell) : List U8 := l.flatMap fun o => encU o.char
theorem q_textLoop (x : List TLCell) (hx : x.length ≤ 1000000) (hc : ∀ o, o ∈ x → chOK o.char = true) : ∃ i, loopP (p_spec_ListText_l0 x) ([], 0) = some (.out (encC x, i)) := by
  obtain ⟨e, h1, i, rfl⟩ := loop_count (step := p_spec_ListText_l0 x) x.length (fun i s => s = (encC (x.take i), (i : Int)) ∧ s.1.length ≤ 4 * i) (fun e => ∃ i, e = .out (encC x, i)) (by
      rintro i s hi ⟨rfl, hl⟩
      obtain ⟨a, ha, ha'⟩ := get_lt (xs := x) hi
      have hd : decide ((i : Int) < (x.length : Int)) = true := by simpa using hi
      have := encU_len a.char
      simp only at hl
      simp only [p_spec_ListText_l0]
      rw [if_t hd, ha, Option.bind_some, q_bytesOf (hc a (List.mem_of_getElem? ha')), Option.bind_some, app_list (by omega), Option.bind_some, w64_succ (by omega)]
      have e : encC (x.take (i + 1)) = encC (x.take i) ++ encU a.char := by
        unfold encC
        rw [take_next ha', List.flatMap_append]
        simp
      exact .inl ⟨_, rfl, by rw [e], by rw [List.length_append]; omega⟩)
      (by
      rintro s ⟨rfl, hl⟩
      have hd : decide ((x.length : Int) < (x.length : Int)) = false := by simp
      simp only [p_spec_ListText_l0]
      rw [if_f hd, List.take_length]
      exact .inl ⟨_, rfl, _, rfl⟩) (s := ([], 0)) ⟨rfl, Nat.le_refl _⟩
  exact ⟨i, h1⟩
theorem text_same (x : List TLOp) (hx : x.length < 9223372036854775807) : ∃ r, p_spec_ListText x = some r ∧ p_impl_ListText x = some r := by
  unfold p_spec_ListText p_impl_ListText p_impl_readList
  rcases clean_both x hx with ⟨c, h1, h2, h3⟩ | ⟨l, h1, h2⟩
  · refine ⟨⟨⟨#[]⟩, c⟩, ?_, ?_⟩
    · rw [h2, Option.bind_some, if_f (by simpa using h1)]
    · rw [h3, Option.bind_some, if_pos h1]
  · obtain ⟨g, h3, h4⟩ := h2.list
    have hl := h2.len
    have hcl := cells_len h2.grows
    have hsl := seenC_len h2
    have hch : ∀ o, o ∈ seenC l → chOK o.char = true := by
      intro o ho
      have ho := (cells_mem h2.grows).1 (List.mem_filter.1 ho).1
      have := h2.ok o ho.1
      unfold lopK at this
      rw [Bool.and_eq_true, if_pos ho.2, Bool.and_eq_true] at this
      exact this.2.1
    rw [h1, h3, Option.bind_some, Option.bind_some]
    simp only [decide_true, if_true, ne_eq, not_true_eq_false, if_false]
    rw [q_cells h2.grows (by omega), Option.bind_some, q_seenS _ (by rw [List.length_map]; omega), Option.bind_some, seen_spec]
    simp only [seen_impl h2 h4, Option.bind_some]
    obtain ⟨i, hi⟩ := q_textLoop ((seenC l).map cellO) (by rw [List.length_map]; omega) (by
      intro o ho
      obtain ⟨x, hx, rfl⟩ := List.mem_map.1 ho
      exact hch x hx)
    rw [hi, Option.bind_some]
    unfold p_impl_textOf
    rw [if_pos ⟨by omega, List.all_eq_true.2 hch⟩, Option.bind_some]
    refine ⟨_, rfl, ?_⟩
    have : encAll (seenC l) = encC ((seenC l).map cellO) := by
      unfold encAll encC
      rw [List.flatMap_map]
      rfl
    rw [this]
theorem plain_ListText (x : List TLOp) (hx : x.length * 48 ≤ reachBytes ∧ ∀ a, a ∈ x → okTLOp a) : p_laws_FnExactListText x = some true := by
  unfold p_laws_FnExactListText
  have hx1 := hx.1
  rw [reach_eq] at hx1
  obtain ⟨r, h2, h3⟩ := text_same x (by omega)
  simp only [q_szLOpS x (by omega), h2, h3, q_toLOpS x hx.1, q_eqLOpS x (by omega), q_eqStamp, Option.bind_some, decide_true, if_true]
  repeat' split
  all_goals rfl
end Go.AM
