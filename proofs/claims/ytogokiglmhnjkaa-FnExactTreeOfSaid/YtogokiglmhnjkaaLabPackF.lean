/- Several texts of the abstract machine in one. No condition. -/
import Derived.Test.YtogokiglmhnjkaaLabPackE
set_option linter.unusedVariables false
set_option linter.unusedSimpArgs false
set_option maxRecDepth 20000
namespace Go.AM
open Pic (enc dec dec_enc dec_sub)
open PicA (encA decA decA_encA decA_sub)

theorem q_specStOK (x : TStamp) : p_spec_StampOK x = some (stOK x) := by
  unfold p_spec_StampOK stOK
  simp only [decide_eq_true_eq]
  repeat' split
  all_goals (simp only [Option.some.injEq]; symm; first | (rw [decide_eq_false_iff_not]; omega) | (apply decide_eq_decide.2; omega))
theorem q_specLess (x y : TMove) : p_spec_StampLess x.id y.id = some (ltM x y) := by
  unfold p_spec_StampLess ltM
  simp only [decide_eq_true_eq]
  repeat' split
  all_goals (simp only [Option.some.injEq]; symm; first | (rw [decide_eq_false_iff_not]; omega) | (rw [decide_eq_true_eq]; omega) | (apply decide_eq_decide.2; omega))
theorem q_specOpOK (x : TMove) : p_spec_l06OpOK x = some (stOK x.id && mvOK x) := by
  unfold p_spec_l06OpOK
  rw [q_specStOK, Option.bind_some]
  cases h : stOK x.id with
  | false => rfl
  | true =>
    rw [if_pos rfl, Bool.true_and]
    unfold mvOK
    simp only [decide_eq_true_eq]
    repeat' split
    all_goals simp only [Option.some.injEq]
    all_goals (symm; first | (rw [decide_eq_false_iff_not]; omega) | (apply decide_eq_decide.2; omega))

theorem d00 : decide ((0 : Int) < 0) = false := rfl

theorem clean0 {t : Nat → V} {P : Program} {env : Env} {Q : Post} {h : Heap} {f_spec_l06OpOK : Nat} (ep_spec_l06OpOK : env (2 * f_spec_l06OpOK) = pureFn true (FA fun a : TMove => p_spec_l06OpOK a))
    {x0 : List TMove} (hlen : x0.length ≤ 2048) (g0 : t 0 = .i (.sl 5 (x0.map enc))) (g4 : t 4 = .i (.s (.int .i64 0)))
    (hQ : ∀ t' h', t' 0 = .i (.sl 5 (x0.map enc)) → x0.all (fun o => stOK o.id && mvOK o) = true → Q (.exit 0) t' h')
    (hR : ∀ t' h' B, t' 2 = .hsl B 0 0 5 true 0 → t' 3 = .i (.s (.int .i64 1)) → x0.all (fun o => stOK o.id && mvOK o) = false → Q .ret t' h') :
    @W P env ⟨(.loop (.seq (.seq (.ops [(qS 13 (.mv (.tmp 4))), (qS 14 (.mv (.tmp 0))), (qS 15 (.len (.tmp 14))), (qS 16 (.pu (.n (.ar .lss)) [(.tmp 13), (.tmp 15)]))]) (.cond (.tmp 16) .skip (.exit 0))) (.seq (.block 1 (.seq (.ops [(qS 19 (.mv (.tmp 0))), (qS 20 (.mv (.tmp 4))), (qS 21 (.idxS 5 (.tmp 19) (.tmp 20))), (qS 22 (.load 5 true (.tmp 21))), (qS 23 (.call (2 * f_spec_l06OpOK) [(.tmp 22)])), (qS 24 (.pu (.n (.un .not)) [(.tmp 23)]))]) (.cond (.tmp 24) (.seq (.ops [(qS 25 (.buildSl 5 true 0 [(.int .i64 0), (.int .i64 0), (.int .i64 0), (.int .i64 0), (.string ⟨#[]⟩)] [])), (qS 2 (.mv (.tmp 25))), (qS 3 (.mv (ic 1)))]) .ret) .skip))) (.ops [(qS 17 (.mv (.tmp 4))), (qS 18 (.pu (.n (.ar .add)) [(.tmp 17), (ic 1)])), (qS 4 (.mv (.tmp 18)))]))))⟩ t h ⟨Q⟩ := by
  refine W_loopK (fun n t h => ∃ i : Nat, n = x0.length - i ∧ i ≤ x0.length ∧ t 0 = .i (.sl 5 (x0.map enc)) ∧ t 4 = .i (.s (.int .i64 (i : Int))) ∧ (x0.take i).all (fun o => stOK o.id && mvOK o) = true) x0.length ⟨0, rfl, Nat.zero_le _, g0, g4, by simp⟩ ?_
  clear g0 g4
  rintro K n t h hn hx ⟨i, rfl, hi, g0, g4, ha⟩
  by_cases hlt : i < x0.length
  · obtain ⟨o, ho⟩ : ∃ o, o = x0[i] := ⟨_, rfl⟩
    have hget : get? x0 (i : Int) = some o := by rw [get_nat, ho]; exact List.getElem?_eq_getElem hlt
    have hspl : x0 = x0.take i ++ o :: x0.drop (i + 1) := by rw [ho, List.getElem_cons_drop, List.take_append_drop]
    have hq := q_specOpOK o
    cases hs : (stOK o.id && mvOK o) with
    | false =>
      rw [hs] at hq
      simp (maxSteps := 2000000) (disch := omega) only [gm, S_dynV, w64_nat, w64_id, nI_add, nI_one, nI_two, nI_sub1, nI_sub, Int.ofNat_lt, Int.ofNat_le, Nat.reduceAdd, Nat.reduceMul, g0, g4, hlt, hget, enc_TMove, ep_spec_l06OpOK, hq]
      refine hx _ _ _ (by simp) (hR _ _ _ rfl rfl ?_)
      rw [hspl, List.all_append, List.all_cons, hs]
      simp
    | true =>
      rw [hs] at hq
      simp (maxSteps := 2000000) (disch := omega) only [gm, S_dynV, w64_nat, w64_id, nI_add, nI_one, nI_two, nI_sub1, nI_sub, Int.ofNat_lt, Int.ofNat_le, Nat.reduceAdd, Nat.reduceMul, g0, g4, hlt, hget, enc_TMove, ep_spec_l06OpOK, hq]
      exact hn _ _ _ (by omega) ⟨i + 1, rfl, by omega, g0, rfl, by rw [List.take_succ_eq_append_getElem hlt, List.all_append, ha, ← ho, Bool.true_and, List.all_cons, hs]; rfl⟩
  · simp (maxSteps := 2000000) (disch := omega) only [gm, S_dynV, w64_nat, w64_id, nI_add, nI_one, nI_two, nI_sub1, nI_sub, Int.ofNat_lt, Int.ofNat_le, Nat.reduceAdd, Nat.reduceMul, g0, g4, hlt]
    refine hx _ _ _ (by simp) (hQ _ _ g0 ?_)
    rw [← ha, List.take_of_length_le (by omega)]

theorem clean4 {t : Nat → V} {P : Program} {env : Env} {Q : Post} {h : Heap} {f_spec_StampLess O : Nat} (ep_spec_StampLess : env (2 * f_spec_StampLess) = pureFn true (FA fun a : TStamp × TStamp => p_spec_StampLess a.1 a.2))
    {x0 out : List TMove} {o : TMove} {i a : Nat} (hlen : out.length ≤ 2048) (hget : get? x0 (i : Int) = some o) (hO : getCells h O (out.length * 5) = some (rows out)) (ha : a ≤ out.length) (g0 : t 0 = .i (.sl 5 (x0.map enc))) (g5 : t 5 = .hsl O (out.length * 5) 0 5 true out.length) (g6 : t 6 = .i (.s (.int .i64 (i : Int)))) (g7 : t 7 = .i (.s (.int .i64 (a : Int))))
    (hQ : ∀ t', t' 0 = .i (.sl 5 (x0.map enc)) → t' 5 = .hsl O (out.length * 5) 0 5 true out.length → t' 6 = .i (.s (.int .i64 (i : Int))) → t' 7 = .i (.s (.int .i64 (posM out o a : Int))) → Q (.exit 4) t' h) :
    @W P env ⟨(.loop (.seq (.seq (.ops [(qS 35 (.mv (.tmp 7))), (qS 36 (.pu (.n (.ar .gtr)) [(.tmp 35), (ic 0)])), (qS 37 (.mv (.tmp 36))), ⟨(.some 38), (.mv (.tmp 0)), (.some (37, true)), [], .none⟩, ⟨(.some 39), (.mv (.tmp 6)), (.some (37, true)), [], .none⟩, ⟨(.some 40), (.idxS 5 (.tmp 38) (.tmp 39)), (.some (37, true)), [], .none⟩, ⟨(.some 41), (.fieldA 0 (.tmp 40)), (.some (37, true)), [], .none⟩, ⟨(.some 42), (.load 2 true (.tmp 41)), (.some (37, true)), [], .none⟩, ⟨(.some 43), (.mv (.tmp 5)), (.some (37, true)), [], .none⟩, ⟨(.some 44), (.mv (.tmp 7)), (.some (37, true)), [], .none⟩, ⟨(.some 45), (.pu (.n (.ar .sub)) [(.tmp 44), (ic 1)]), (.some (37, true)), [], .none⟩, ⟨(.some 46), (.idxS 5 (.tmp 43) (.tmp 45)), (.some (37, true)), [], .none⟩, ⟨(.some 47), (.fieldA 0 (.tmp 46)), (.some (37, true)), [], .none⟩, ⟨(.some 48), (.load 2 true (.tmp 47)), (.some (37, true)), [], .none⟩, ⟨(.some 49), (.call (2 * f_spec_StampLess) [(.tmp 42), (.tmp 48)]), (.some (37, true)), [], .none⟩, (qS 50 (.pick (.tmp 37) (.tmp 49) (.const (.bool false))))]) (.cond (.tmp 50) .skip (.exit 4))) (.block 5 (.ops [(qS 51 (.mv (.tmp 7))), (qS 52 (.pu (.n (.ar .sub)) [(.tmp 51), (ic 1)])), (qS 7 (.mv (.tmp 52)))]))))⟩ t h ⟨Q⟩ := by
  obtain ⟨D, hD⟩ : ∃ D, D = posM out o a := ⟨_, rfl⟩
  rw [← hD] at hQ
  refine W_loopK (fun n t h' => ∃ a : Nat, a = n ∧ h' = h ∧ a ≤ out.length ∧ t 0 = .i (.sl 5 (x0.map enc)) ∧ t 5 = .hsl O (out.length * 5) 0 5 true out.length ∧ t 6 = .i (.s (.int .i64 (i : Int))) ∧ t 7 = .i (.s (.int .i64 (a : Int))) ∧ D = posM out o a) a ⟨a, rfl, rfl, ha, g0, g5, g6, g7, hD⟩ ?_
  clear g0 g5 g6 g7 hD ha
  rintro K n t h' hn hx ⟨a, rfl, rfl, ha, g0, g5, g6, g7, hD⟩
  cases a with
  | zero =>
    simp (maxSteps := 2000000) (disch := omega) only [gm, S_dynV, w64_nat, w64_id, nI_add, nI_one, nI_two, nI_sub1, nI_sub, Int.ofNat_lt, Int.ofNat_le, Nat.reduceAdd, Nat.reduceMul, g0, g5, g6, g7, d00]
    exact hx _ _ _ (by simp) (hQ _ g0 g5 g6 (by rw [hD]; exact g7))
  | succ k =>
    obtain ⟨q, hq⟩ : ∃ q, q = out[k] := ⟨_, rfl⟩
    have hqk : out[k]? = some q := by rw [hq]; exact List.getElem?_eq_getElem _
    have h0 : (0 : Int) < ((k + 1 : Nat) : Int) := by omega
    have x1 := idxH hO (show k < out.length by omega)
    have r1 := ldId hO hqk
    have hl := q_specLess o q
    rw [posM, hqk] at hD
    simp only at hD
    cases hlt : ltM o q with
    | true =>
      rw [hlt] at hl
      rw [if_pos hlt] at hD
      simp (maxSteps := 2000000) (disch := omega) only [gm, S_dynV, w64_nat, w64_id, nI_add, nI_one, nI_two, nI_sub1, nI_sub, Int.ofNat_lt, Int.ofNat_le, Nat.reduceAdd, Nat.reduceMul, g0, g5, g6, g7, h0, hget, enc_TMove, Nat.add_sub_cancel, x1, r1, ep_spec_StampLess, hl]
      exact hn _ _ _ (by omega) ⟨k, rfl, rfl, by omega, g0, g5, g6, rfl, hD⟩
    | false =>
      rw [hlt] at hl
      rw [if_neg (by rw [hlt]; exact Bool.false_ne_true)] at hD
      simp (maxSteps := 2000000) (disch := omega) only [gm, S_dynV, w64_nat, w64_id, nI_add, nI_one, nI_two, nI_sub1, nI_sub, Int.ofNat_lt, Int.ofNat_le, Nat.reduceAdd, Nat.reduceMul, g0, g5, g6, g7, h0, hget, enc_TMove, Nat.add_sub_cancel, x1, r1, ep_spec_StampLess, hl]
      exact hx _ _ _ (by simp) (hQ _ g0 g5 g6 (by rw [hD]; exact g7))

theorem posM_le (out : List TMove) (o : TMove) : ∀ a, posM out o a ≤ a
  | 0 => Nat.le_refl _
  | a + 1 => by
    rw [posM]
    split
    · split
      · exact Nat.le_succ_of_le (posM_le out o a)
      · exact Nat.le_refl _
    · exact Nat.le_refl _

theorem appM {h : Heap} {N m n : Nat} {xs bs : List TMove} (hm : xs.length = m) (hn : bs.length = n) (hg : getCells h N (m * 5) = some (rows xs)) (hl : m + n ≤ 4096) :
    ∃ h', stepAppend none 5 true 48 h (rows bs) n (.hsl N (m * 5) 0 5 true m) = some (.hsl N ((m + n) * 5) 0 5 true (m + n), h') ∧ getCells h' N ((m + n) * 5) = some (rows (xs ++ bs)) ∧ h'.length = h.length ∧ ∀ x, x ≠ N → h'[x]? = h[x]? := by
  rw [app_hsl, if_pos ⟨.inl rfl, rfl⟩, hg, Option.bind_some]
  by_cases h0 : n = 0
  · rw [if_pos h0]
    have hb : bs = [] := List.eq_nil_of_length_eq_zero (hn.trans h0)
    subst hb
    subst h0
    exact ⟨h, rfl, by rw [List.append_nil]; exact hg, rfl, fun _ _ => rfl⟩
  · rw [if_neg h0, if_pos (by omega), if_pos rfl]
    refine ⟨_, by rw [Nat.add_mul], ?_, by simp, fun x hx => List.getElem?_set_ne (Ne.symm hx)⟩
    rw [rows_append]
    exact set_cells hg (by rw [List.length_append, rows_len, rows_len, hm, hn, Nat.add_mul]; rfl)

theorem clean2 {t : Nat → V} {P : Program} {env : Env} {Q : Post} {h : Heap} {f_spec_StampLess O : Nat} (ep_spec_StampLess : env (2 * f_spec_StampLess) = pureFn true (FA fun a : TStamp × TStamp => p_spec_StampLess a.1 a.2))
    {x0 : List TMove} (hlen : x0.length ≤ 2048) (hO : getCells h O 0 = some []) (g0 : t 0 = .i (.sl 5 (x0.map enc))) (g5 : t 5 = .hsl O 0 0 5 true 0) (g6 : t 6 = .i (.s (.int .i64 0)))
    (hQ : ∀ t' h' O out, cleanL x0 [] = some out → t' 5 = .hsl O (out.length * 5) 0 5 true out.length → getCells h' O (out.length * 5) = some (rows out) → Q (.exit 2) t' h')
    (hR : cleanL x0 [] = none → ∀ t' h' B, t' 2 = .hsl B 0 0 5 true 0 → t' 3 = .i (.s (.int .i64 16)) → Q .ret t' h') :
    @W P env ⟨(.loop (.seq (.seq (.ops [(qS 27 (.mv (.tmp 6))), (qS 28 (.mv (.tmp 0))), (qS 29 (.len (.tmp 28))), (qS 30 (.pu (.n (.ar .lss)) [(.tmp 27), (.tmp 29)]))]) (.cond (.tmp 30) .skip (.exit 2))) (.seq (.block 3 (.seq (.ops [(qS 33 (.mv (.tmp 5))), (qS 34 (.len (.tmp 33))), (qS 7 (.mv (.tmp 34)))]) (.seq (.block 4 (.loop (.seq (.seq (.ops [(qS 35 (.mv (.tmp 7))), (qS 36 (.pu (.n (.ar .gtr)) [(.tmp 35), (ic 0)])), (qS 37 (.mv (.tmp 36))), ⟨(.some 38), (.mv (.tmp 0)), (.some (37, true)), [], .none⟩, ⟨(.some 39), (.mv (.tmp 6)), (.some (37, true)), [], .none⟩, ⟨(.some 40), (.idxS 5 (.tmp 38) (.tmp 39)), (.some (37, true)), [], .none⟩, ⟨(.some 41), (.fieldA 0 (.tmp 40)), (.some (37, true)), [], .none⟩, ⟨(.some 42), (.load 2 true (.tmp 41)), (.some (37, true)), [], .none⟩, ⟨(.some 43), (.mv (.tmp 5)), (.some (37, true)), [], .none⟩, ⟨(.some 44), (.mv (.tmp 7)), (.some (37, true)), [], .none⟩, ⟨(.some 45), (.pu (.n (.ar .sub)) [(.tmp 44), (ic 1)]), (.some (37, true)), [], .none⟩, ⟨(.some 46), (.idxS 5 (.tmp 43) (.tmp 45)), (.some (37, true)), [], .none⟩, ⟨(.some 47), (.fieldA 0 (.tmp 46)), (.some (37, true)), [], .none⟩, ⟨(.some 48), (.load 2 true (.tmp 47)), (.some (37, true)), [], .none⟩, ⟨(.some 49), (.call (2 * f_spec_StampLess) [(.tmp 42), (.tmp 48)]), (.some (37, true)), [], .none⟩, (qS 50 (.pick (.tmp 37) (.tmp 49) (.const (.bool false))))]) (.cond (.tmp 50) .skip (.exit 4))) (.block 5 (.ops [(qS 51 (.mv (.tmp 7))), (qS 52 (.pu (.n (.ar .sub)) [(.tmp 51), (ic 1)])), (qS 7 (.mv (.tmp 52)))]))))) (.seq (.seq (.ops [(qS 53 (.mv (.tmp 7))), (qS 54 (.pu (.n (.ar .gtr)) [(.tmp 53), (ic 0)])), (qS 55 (.mv (.tmp 54))), ⟨(.some 56), (.mv (.tmp 5)), (.some (55, true)), [], .none⟩, ⟨(.some 57), (.mv (.tmp 7)), (.some (55, true)), [], .none⟩, ⟨(.some 58), (.pu (.n (.ar .sub)) [(.tmp 57), (ic 1)]), (.some (55, true)), [], .none⟩, ⟨(.some 59), (.idxS 5 (.tmp 56) (.tmp 58)), (.some (55, true)), [], .none⟩, ⟨(.some 60), (.fieldA 0 (.tmp 59)), (.some (55, true)), [], .none⟩, ⟨(.some 61), (.load 2 true (.tmp 60)), (.some (55, true)), [], .none⟩, ⟨(.some 62), (.mv (.tmp 0)), (.some (55, true)), [], .none⟩, ⟨(.some 63), (.mv (.tmp 6)), (.some (55, true)), [], .none⟩, ⟨(.some 64), (.idxS 5 (.tmp 62) (.tmp 63)), (.some (55, true)), [], .none⟩, ⟨(.some 65), (.fieldA 0 (.tmp 64)), (.some (55, true)), [], .none⟩, ⟨(.some 66), (.load 2 true (.tmp 65)), (.some (55, true)), [], .none⟩, ⟨(.some 67), (.aeq false [(.int .i64), (.int .i64)] (.tmp 61) (.tmp 66)), (.some (55, true)), [], .none⟩, (qS 68 (.pick (.tmp 55) (.tmp 67) (.const (.bool false))))]) (.cond (.tmp 68) (.seq (.seq (.ops [(qS 69 (.mv (.tmp 5))), (qS 70 (.mv (.tmp 7))), (qS 71 (.pu (.n (.ar .sub)) [(.tmp 70), (ic 1)])), (qS 72 (.idxS 5 (.tmp 69) (.tmp 71))), (qS 73 (.load 5 true (.tmp 72))), (qS 74 (.mv (.tmp 0))), (qS 75 (.mv (.tmp 6))), (qS 76 (.idxS 5 (.tmp 74) (.tmp 75))), (qS 77 (.load 5 true (.tmp 76))), (qS 78 (.aeq true [(.int .i64), (.int .i64), (.int .i64), (.int .i64), .str] (.tmp 73) (.tmp 77)))]) (.cond (.tmp 78) (.seq (.ops [(qS 79 (.buildSl 5 true 0 [(.int .i64 0), (.int .i64 0), (.int .i64 0), (.int .i64 0), (.string ⟨#[]⟩)] [])), (qS 2 (.mv (.tmp 79))), (qS 3 (.mv (ic 16)))]) .ret) .skip)) (.exit 3)) .skip)) (.seq (.ops [(qS 80 (.mv (.tmp 5))), (qS 81 (.len (.tmp 80))), (qS 82 (.pu (.n (.ar .add)) [(.tmp 81), (ic 1)])), (qS 83 (.makeSl 5 true 48 [(.int .i64 0), (.int .i64 0), (.int .i64 0), (.int .i64 0), (.string ⟨#[]⟩)] (ic 0) (.tmp 82))), (qS 8 (.mv (.tmp 83)))]) (.seq (.ops [(qS 84 (.mv (.tmp 8))), (qS 85 (.mv (.tmp 5))), (qS 86 (.mv (.tmp 7))), (qS 87 (.slice 5 (.tmp 85) .none (.some (.tmp 86)))), (qS 88 (.append 5 true 48 (.tmp 84) (.tmp 87))), (qS 8 (.mv (.tmp 88)))]) (.seq (.ops [(qS 89 (.mv (.tmp 8))), (qS 90 (.mv (.tmp 0))), (qS 91 (.mv (.tmp 6))), (qS 92 (.idxS 5 (.tmp 90) (.tmp 91))), (qS 93 (.load 5 true (.tmp 92))), (qS 94 (.buildSl 5 true 1 [(.int .i64 0), (.int .i64 0), (.int .i64 0), (.int .i64 0), (.string ⟨#[]⟩)] [(0, (.tmp 93))])), (qS 95 (.append 5 true 48 (.tmp 89) (.tmp 94))), (qS 8 (.mv (.tmp 95)))]) (.ops [(qS 96 (.mv (.tmp 8))), (qS 97 (.mv (.tmp 5))), (qS 98 (.mv (.tmp 7))), (qS 99 (.slice 5 (.tmp 97) (.some (.tmp 98)) .none)), (qS 100 (.append 5 true 48 (.tmp 96) (.tmp 99))), (qS 5 (.mv (.tmp 100)))])))))))) (.ops [(qS 31 (.mv (.tmp 6))), (qS 32 (.pu (.n (.ar .add)) [(.tmp 31), (ic 1)])), (qS 6 (.mv (.tmp 32)))]))))⟩ t h ⟨Q⟩ := by
  obtain ⟨D, hD⟩ : ∃ D, D = cleanL x0 [] := ⟨_, rfl⟩
  rw [← hD] at hQ hR
  refine W_loopK (fun n t h => ∃ (i O : Nat) (out : List TMove), n = x0.length - i ∧ i ≤ x0.length ∧ out.length ≤ i ∧ t 0 = .i (.sl 5 (x0.map enc)) ∧ t 5 = .hsl O (out.length * 5) 0 5 true out.length ∧ t 6 = .i (.s (.int .i64 (i : Int))) ∧ getCells h O (out.length * 5) = some (rows out) ∧ D = cleanL (x0.drop i) out) x0.length ⟨0, O, [], rfl, Nat.zero_le _, Nat.le_refl _, g0, g5, g6, hO, hD⟩ ?_
  clear g0 g5 g6 hD hO
  rintro K n t h hn hx ⟨i, O, out, rfl, hi, hoi, g0, g5, g6, hO, hD⟩
  by_cases hlt : i < x0.length
  · obtain ⟨o, ho⟩ : ∃ o, o = x0[i] := ⟨_, rfl⟩
    have hget : get? x0 (i : Int) = some o := by rw [get_nat, ho]; exact List.getElem?_eq_getElem hlt
    have hdr : x0.drop i = o :: x0.drop (i + 1) := by rw [ho, List.getElem_cons_drop]
    rw [hdr, cleanL] at hD
    simp (maxSteps := 2000000) (disch := omega) only [gm, S_dynV, w64_nat, w64_id, nI_add, nI_one, nI_two, nI_sub1, nI_sub, Int.ofNat_lt, Int.ofNat_le, Nat.reduceAdd, Nat.reduceMul, g0, g5, g6, hlt]
    refine clean4 ep_spec_StampLess (a := out.length) (by omega) hget hO (Nat.le_refl _) g0 g5 g6 rfl ?_
    clear g0 g5 g6
    clear t
    intro t g0 g5 g6 g7
    have hle := posM_le out o out.length
    generalize posM out o out.length = a at hD g7 hle
    have rt : List.take (a * 5) (rows out) = rows (out.take a) := by rw [← rows_take]; rfl
    have rd : List.take ((out.length - a) * 5) (List.drop (a * 5) (rows out)) = rows (out.drop a) := by
      rw [show a * 5 = a * Pic.z TMove from rfl, rows_drop]
      exact List.take_of_length_le (by rw [rows_len, List.length_drop]; exact Nat.le_refl _)
    have lO := gc_lt hO
    obtain ⟨h1, e1, c1, l1, k1⟩ := appM (h := h ++ [.cells []]) (N := h.length) (m := 0) (n := a) (xs := []) (bs := out.take a) rfl (by rw [List.length_take]; omega) (by rw [Nat.zero_mul, gc_right0]; rfl) (by omega)
    rw [Nat.zero_add, Nat.zero_mul] at e1
    rw [Nat.zero_add, List.nil_append] at c1
    have cO1 : getCells h1 O (out.length * 5) = some (rows out) := by rw [getCells_congr (k1 O (by omega)), gc_left lO]; exact hO
    have l1' : h1.length = h.length + 1 := by rw [l1]; simp
    obtain ⟨h2, e2, c2, l2, k2⟩ := appM (h := h1 ++ [.cells (cellsV o)]) (N := h.length) (m := a) (n := 1) (xs := out.take a) (bs := [o]) (by rw [List.length_take]; omega) rfl (gc_app c1) (by omega)
    have cO2 : getCells h2 O (out.length * 5) = some (rows out) := by rw [getCells_congr (k2 O (by omega))]; exact gc_app cO1
    obtain ⟨h3, e3, c3, l3, k3⟩ := appM (h := h2) (N := h.length) (m := a + 1) (n := out.length - a) (xs := out.take a ++ [o]) (bs := out.drop a) (by rw [List.length_append, List.length_take, List.length_cons, List.length_nil]; omega) (by rw [List.length_drop]) c2 (by omega)
    rw [rows_one, cellsV_TMove] at e2
    have hfin : D = cleanL (x0.drop (i + 1)) (out.take a ++ o :: out.drop a) → (∀ t', t' 0 = .i (.sl 5 (x0.map enc)) → t' 5 = .hsl h.length ((a + 1 + (out.length - a)) * 5) 0 5 true (a + 1 + (out.length - a)) → t' 6 = .i (.s (.int .i64 ((i + 1 : Nat) : Int))) → K .normal t' h3) := by
      intro hD t' q0 q5 q6
      have hl : (out.take a ++ o :: out.drop a).length = a + 1 + (out.length - a) := by
        rw [List.length_append, List.length_cons, List.length_take, List.length_drop]
        omega
      refine hn _ _ _ (by omega) ⟨i + 1, h.length, out.take a ++ o :: out.drop a, rfl, by omega, by omega, q0, by rw [hl]; exact q5, q6, ?_, hD⟩
      rw [hl]
      rw [List.append_assoc] at c3
      exact c3
    by_cases ha : a = 0
    · have ha' : ¬ (0 : Int) < (a : Int) := by omega
      rw [if_pos ha] at hD
      simp only at hD
      simp (maxSteps := 2000000) (disch := omega) only [gm, S_dynV, w64_nat, w64_id, nI_add, nI_one, nI_two, nI_sub1, nI_sub, Int.ofNat_lt, Int.ofNat_le, Nat.reduceAdd, Nat.reduceMul, g0, g5, g6, g7, ha', hget, hO, cO1, cO2, rt, rd, e1, e2, e3, enc_TMove]
      refine ⟨by omega, by rw [List.length_take]; omega, by rw [List.length_drop], hfin hD _ g0 rfl rfl⟩
    · rw [if_neg ha] at hD
      have ha' : (0 : Int) < (a : Int) := by omega
      obtain ⟨q, hq⟩ : ∃ q, q = out[a - 1]'(by omega) := ⟨_, rfl⟩
      have hqi : out[a - 1]? = some q := by rw [hq]; exact List.getElem?_eq_getElem _
      rw [hqi] at hD
      simp only at hD
      have x2 := idxH hO (show a - 1 < out.length by omega)
      have r2 := ldId hO hqi
      have r3 := ldRow hO hqi
      by_cases he : q.id = o.id
      · rw [if_pos he] at hD
        have he1 : decide (q.id.time = o.id.time) = true := by rw [he]; simp
        have he2 : decide (q.id.actor = o.id.actor) = true := by rw [he]; simp
        have hm3 : (decide (q.node = o.node) && (decide (q.parent = o.parent) && decide (q.name = o.name))) = decide (q = o) := by
          rw [← eq_TMove]
          simp only [eqL, eqV, he1, he2, Bool.true_and, Bool.and_true]
        by_cases hm : q = o
        · rw [if_pos hm] at hD
          rw [decide_eq_true hm] at hm3
          simp (maxSteps := 2000000) (disch := omega) only [gm, S_dynV, w64_nat, w64_id, nI_add, nI_one, nI_two, nI_sub1, nI_sub, Int.ofNat_lt, Int.ofNat_le, Nat.reduceAdd, Nat.reduceMul, g0, g5, g6, g7, ha', hget, enc_TMove, x2, r2, r3, cellsV_TMove, he1, he2, hm3]
          exact hn _ _ _ (by omega) ⟨i + 1, O, out, rfl, by omega, by omega, g0, g5, rfl, hO, hD⟩
        · rw [if_neg hm] at hD
          rw [decide_eq_false hm] at hm3
          simp (maxSteps := 2000000) (disch := omega) only [gm, S_dynV, w64_nat, w64_id, nI_add, nI_one, nI_two, nI_sub1, nI_sub, Int.ofNat_lt, Int.ofNat_le, Nat.reduceAdd, Nat.reduceMul, g0, g5, g6, g7, ha', hget, enc_TMove, x2, r2, r3, cellsV_TMove, he1, he2, hm3]
          exact hx _ _ _ (by simp) (hR hD _ _ _ rfl rfl)
      · rw [if_neg he] at hD
        have hne : (decide (q.id.time = o.id.time) && decide (q.id.actor = o.id.actor)) = false := by
          have e := eq_TStamp (x := q.id) (y := o.id)
          simp only [eqL, eqV, Bool.and_true] at e
          rw [e, decide_eq_false he]
        simp (maxSteps := 2000000) (disch := omega) only [gm, S_dynV, w64_nat, w64_id, nI_add, nI_one, nI_two, nI_sub1, nI_sub, Int.ofNat_lt, Int.ofNat_le, Nat.reduceAdd, Nat.reduceMul, g0, g5, g6, g7, ha', hget, enc_TMove, x2, r2, r3, cellsV_TMove, hne, hO, cO1, cO2, rt, rd, e1, e2, e3]
        refine ⟨by omega, by rw [List.length_take]; omega, by rw [List.length_drop], hfin hD _ g0 rfl rfl⟩
  · simp (maxSteps := 2000000) (disch := omega) only [gm, S_dynV, w64_nat, w64_id, nI_add, nI_one, nI_two, nI_sub1, nI_sub, Int.ofNat_lt, Int.ofNat_le, Nat.reduceAdd, Nat.reduceMul, g0, g5, g6, hlt]
    rw [List.drop_of_length_le (by omega)] at hD
    exact hx _ _ _ (by simp) (hQ _ _ O out hD g5 hO)

def c_spec_l06Clean (f_spec_l06OpOK : Nat) (f_spec_StampLess : Nat) : AFn := ⟨102, (.seq (.ops [(qS 2 (.vnil 5 true)), (qS 3 (.mv (ic 0)))]) (.seq (.seq (.ops [(qS 9 (.mv (.tmp 0))), (qS 10 (.len (.tmp 9))), (qS 11 (.pu (.n (.ar .gtr)) [(.tmp 10), (ic 2048)]))]) (.cond (.tmp 11) (.seq (.ops [(qS 12 (.buildSl 5 true 0 [(.int .i64 0), (.int .i64 0), (.int .i64 0), (.int .i64 0), (.string ⟨#[]⟩)] [])), (qS 2 (.mv (.tmp 12))), (qS 3 (.mv (ic 2)))]) .ret) .skip)) (.seq (.seq (.ops [(qS 4 (.mv (ic 0)))]) (.block 0 (.loop (.seq (.seq (.ops [(qS 13 (.mv (.tmp 4))), (qS 14 (.mv (.tmp 0))), (qS 15 (.len (.tmp 14))), (qS 16 (.pu (.n (.ar .lss)) [(.tmp 13), (.tmp 15)]))]) (.cond (.tmp 16) .skip (.exit 0))) (.seq (.block 1 (.seq (.ops [(qS 19 (.mv (.tmp 0))), (qS 20 (.mv (.tmp 4))), (qS 21 (.idxS 5 (.tmp 19) (.tmp 20))), (qS 22 (.load 5 true (.tmp 21))), (qS 23 (.call (2 * f_spec_l06OpOK) [(.tmp 22)])), (qS 24 (.pu (.n (.un .not)) [(.tmp 23)]))]) (.cond (.tmp 24) (.seq (.ops [(qS 25 (.buildSl 5 true 0 [(.int .i64 0), (.int .i64 0), (.int .i64 0), (.int .i64 0), (.string ⟨#[]⟩)] [])), (qS 2 (.mv (.tmp 25))), (qS 3 (.mv (ic 1)))]) .ret) .skip))) (.ops [(qS 17 (.mv (.tmp 4))), (qS 18 (.pu (.n (.ar .add)) [(.tmp 17), (ic 1)])), (qS 4 (.mv (.tmp 18)))])))))) (.seq (.ops [(qS 26 (.buildSl 5 true 0 [(.int .i64 0), (.int .i64 0), (.int .i64 0), (.int .i64 0), (.string ⟨#[]⟩)] [])), (qS 5 (.mv (.tmp 26)))]) (.seq (.seq (.ops [(qS 6 (.mv (ic 0)))]) (.block 2 (.loop (.seq (.seq (.ops [(qS 27 (.mv (.tmp 6))), (qS 28 (.mv (.tmp 0))), (qS 29 (.len (.tmp 28))), (qS 30 (.pu (.n (.ar .lss)) [(.tmp 27), (.tmp 29)]))]) (.cond (.tmp 30) .skip (.exit 2))) (.seq (.block 3 (.seq (.ops [(qS 33 (.mv (.tmp 5))), (qS 34 (.len (.tmp 33))), (qS 7 (.mv (.tmp 34)))]) (.seq (.block 4 (.loop (.seq (.seq (.ops [(qS 35 (.mv (.tmp 7))), (qS 36 (.pu (.n (.ar .gtr)) [(.tmp 35), (ic 0)])), (qS 37 (.mv (.tmp 36))), ⟨(.some 38), (.mv (.tmp 0)), (.some (37, true)), [], .none⟩, ⟨(.some 39), (.mv (.tmp 6)), (.some (37, true)), [], .none⟩, ⟨(.some 40), (.idxS 5 (.tmp 38) (.tmp 39)), (.some (37, true)), [], .none⟩, ⟨(.some 41), (.fieldA 0 (.tmp 40)), (.some (37, true)), [], .none⟩, ⟨(.some 42), (.load 2 true (.tmp 41)), (.some (37, true)), [], .none⟩, ⟨(.some 43), (.mv (.tmp 5)), (.some (37, true)), [], .none⟩, ⟨(.some 44), (.mv (.tmp 7)), (.some (37, true)), [], .none⟩, ⟨(.some 45), (.pu (.n (.ar .sub)) [(.tmp 44), (ic 1)]), (.some (37, true)), [], .none⟩, ⟨(.some 46), (.idxS 5 (.tmp 43) (.tmp 45)), (.some (37, true)), [], .none⟩, ⟨(.some 47), (.fieldA 0 (.tmp 46)), (.some (37, true)), [], .none⟩, ⟨(.some 48), (.load 2 true (.tmp 47)), (.some (37, true)), [], .none⟩, ⟨(.some 49), (.call (2 * f_spec_StampLess) [(.tmp 42), (.tmp 48)]), (.some (37, true)), [], .none⟩, (qS 50 (.pick (.tmp 37) (.tmp 49) (.const (.bool false))))]) (.cond (.tmp 50) .skip (.exit 4))) (.block 5 (.ops [(qS 51 (.mv (.tmp 7))), (qS 52 (.pu (.n (.ar .sub)) [(.tmp 51), (ic 1)])), (qS 7 (.mv (.tmp 52)))]))))) (.seq (.seq (.ops [(qS 53 (.mv (.tmp 7))), (qS 54 (.pu (.n (.ar .gtr)) [(.tmp 53), (ic 0)])), (qS 55 (.mv (.tmp 54))), ⟨(.some 56), (.mv (.tmp 5)), (.some (55, true)), [], .none⟩, ⟨(.some 57), (.mv (.tmp 7)), (.some (55, true)), [], .none⟩, ⟨(.some 58), (.pu (.n (.ar .sub)) [(.tmp 57), (ic 1)]), (.some (55, true)), [], .none⟩, ⟨(.some 59), (.idxS 5 (.tmp 56) (.tmp 58)), (.some (55, true)), [], .none⟩, ⟨(.some 60), (.fieldA 0 (.tmp 59)), (.some (55, true)), [], .none⟩, ⟨(.some 61), (.load 2 true (.tmp 60)), (.some (55, true)), [], .none⟩, ⟨(.some 62), (.mv (.tmp 0)), (.some (55, true)), [], .none⟩, ⟨(.some 63), (.mv (.tmp 6)), (.some (55, true)), [], .none⟩, ⟨(.some 64), (.idxS 5 (.tmp 62) (.tmp 63)), (.some (55, true)), [], .none⟩, ⟨(.some 65), (.fieldA 0 (.tmp 64)), (.some (55, true)), [], .none⟩, ⟨(.some 66), (.load 2 true (.tmp 65)), (.some (55, true)), [], .none⟩, ⟨(.some 67), (.aeq false [(.int .i64), (.int .i64)] (.tmp 61) (.tmp 66)), (.some (55, true)), [], .none⟩, (qS 68 (.pick (.tmp 55) (.tmp 67) (.const (.bool false))))]) (.cond (.tmp 68) (.seq (.seq (.ops [(qS 69 (.mv (.tmp 5))), (qS 70 (.mv (.tmp 7))), (qS 71 (.pu (.n (.ar .sub)) [(.tmp 70), (ic 1)])), (qS 72 (.idxS 5 (.tmp 69) (.tmp 71))), (qS 73 (.load 5 true (.tmp 72))), (qS 74 (.mv (.tmp 0))), (qS 75 (.mv (.tmp 6))), (qS 76 (.idxS 5 (.tmp 74) (.tmp 75))), (qS 77 (.load 5 true (.tmp 76))), (qS 78 (.aeq true [(.int .i64), (.int .i64), (.int .i64), (.int .i64), .str] (.tmp 73) (.tmp 77)))]) (.cond (.tmp 78) (.seq (.ops [(qS 79 (.buildSl 5 true 0 [(.int .i64 0), (.int .i64 0), (.int .i64 0), (.int .i64 0), (.string ⟨#[]⟩)] [])), (qS 2 (.mv (.tmp 79))), (qS 3 (.mv (ic 16)))]) .ret) .skip)) (.exit 3)) .skip)) (.seq (.ops [(qS 80 (.mv (.tmp 5))), (qS 81 (.len (.tmp 80))), (qS 82 (.pu (.n (.ar .add)) [(.tmp 81), (ic 1)])), (qS 83 (.makeSl 5 true 48 [(.int .i64 0), (.int .i64 0), (.int .i64 0), (.int .i64 0), (.string ⟨#[]⟩)] (ic 0) (.tmp 82))), (qS 8 (.mv (.tmp 83)))]) (.seq (.ops [(qS 84 (.mv (.tmp 8))), (qS 85 (.mv (.tmp 5))), (qS 86 (.mv (.tmp 7))), (qS 87 (.slice 5 (.tmp 85) .none (.some (.tmp 86)))), (qS 88 (.append 5 true 48 (.tmp 84) (.tmp 87))), (qS 8 (.mv (.tmp 88)))]) (.seq (.ops [(qS 89 (.mv (.tmp 8))), (qS 90 (.mv (.tmp 0))), (qS 91 (.mv (.tmp 6))), (qS 92 (.idxS 5 (.tmp 90) (.tmp 91))), (qS 93 (.load 5 true (.tmp 92))), (qS 94 (.buildSl 5 true 1 [(.int .i64 0), (.int .i64 0), (.int .i64 0), (.int .i64 0), (.string ⟨#[]⟩)] [(0, (.tmp 93))])), (qS 95 (.append 5 true 48 (.tmp 89) (.tmp 94))), (qS 8 (.mv (.tmp 95)))]) (.ops [(qS 96 (.mv (.tmp 8))), (qS 97 (.mv (.tmp 5))), (qS 98 (.mv (.tmp 7))), (qS 99 (.slice 5 (.tmp 97) (.some (.tmp 98)) .none)), (qS 100 (.append 5 true 48 (.tmp 96) (.tmp 99))), (qS 5 (.mv (.tmp 100)))])))))))) (.ops [(qS 31 (.mv (.tmp 6))), (qS 32 (.pu (.n (.ar .add)) [(.tmp 31), (ic 1)])), (qS 6 (.mv (.tmp 32)))])))))) (.seq (.ops [(qS 101 (.mv (.tmp 5))), (qS 2 (.mv (.tmp 101))), (qS 3 (.mv (ic 0)))]) .ret)))))), [(.tmp 2), (.tmp 3)]⟩

theorem d_spec_l06Clean {P : Program} {env : Env} {f_spec_l06OpOK f_spec_StampLess : Nat} (ep_spec_l06OpOK : env (2 * f_spec_l06OpOK) = pureFn true (FA fun a : TMove => p_spec_l06OpOK a)) (ep_spec_StampLess : env (2 * f_spec_StampLess) = pureFn true (FA fun a : TStamp × TStamp => p_spec_StampLess a.1 a.2)) (x0 : List TMove) {b : T2 (List TMove) Int} (hp : p_spec_l06Clean x0 = some b) : R P env (c_spec_l06Clean f_spec_l06OpOK f_spec_StampLess) ((encA (x0)).map ofI) [] (Tells true b) := by
  refine R_of (by simp [c_spec_l06Clean, encA]) ?_
  unfold c_spec_l06Clean
  have hp : b = cleanM x0 := (Option.some.inj hp).symm
  subst hp
  unfold cleanM
  by_cases hl : 2048 < x0.length
  · rw [if_pos hl]
    have hl' : (2048 : Int) < (x0.length : Int) := by omega
    simp (maxSteps := 2000000) (disch := omega) only [gm, S_dynV, w64_nat, w64_id, nI_add, nI_one, nI_two, nI_sub1, nI_sub, Int.ofNat_lt, Int.ofNat_le, Nat.reduceAdd, Nat.reduceMul, hl', enc_T2, dec_sl0]
  · rw [if_neg hl]
    have hl' : ¬ (2048 : Int) < (x0.length : Int) := by omega
    simp (maxSteps := 2000000) (disch := omega) only [gm, S_dynV, w64_nat, w64_id, nI_add, nI_one, nI_two, nI_sub1, nI_sub, Int.ofNat_lt, Int.ofNat_le, Nat.reduceAdd, Nat.reduceMul, hl']
    refine clean0 ep_spec_l06OpOK (x0 := x0) (by omega) rfl rfl ?_ ?_
    · intro t h g0 ha
      rw [if_neg (by rw [ha]; simp)]
      simp (maxSteps := 2000000) (disch := omega) only [gm, S_dynV, w64_nat, w64_id, nI_add, nI_one, nI_two, nI_sub1, nI_sub, Int.ofNat_lt, Int.ofNat_le, Nat.reduceAdd, Nat.reduceMul, g0]
      refine clean2 ep_spec_StampLess (x0 := x0) (O := h.length) (by omega) (by rw [gc_right0]; rfl) g0 rfl rfl ?_ ?_
      · intro t h O out hc g5 hO
        rw [hc]
        simp (maxSteps := 2000000) (disch := omega) only [gm, S_dynV, w64_nat, w64_id, nI_add, nI_one, nI_two, nI_sub1, nI_sub, Int.ofNat_lt, Int.ofNat_le, Nat.reduceAdd, Nat.reduceMul, g5]
        by_cases h0 : out.length = 0
        · obtain rfl := List.eq_nil_of_length_eq_zero h0
          rw [if_pos h0]
          rfl
        · rw [if_neg h0, hO, Option.bind_some, take_rows (by rw [rows_len]; exact Nat.le_refl _), snapA_rowsF, Option.bind_some, mkRows_eq (α := TMove) (z := 5) (ag := true) rfl rfl rfl, Option.bind_some, Option.map_some, Option.bind_some, dec_T2, dslM]
          rfl
      · intro hc t h B g2 g3
        rw [hc]
        simp (maxSteps := 2000000) (disch := omega) only [gm, S_dynV, w64_nat, w64_id, nI_add, nI_one, nI_two, nI_sub1, nI_sub, Int.ofNat_lt, Int.ofNat_le, Nat.reduceAdd, Nat.reduceMul, g2, g3, dec_sl0]
    · intro t h B g2 g3 ha
      rw [if_pos ha]
      simp (maxSteps := 2000000) (disch := omega) only [gm, S_dynV, w64_nat, w64_id, nI_add, nI_one, nI_two, nI_sub1, nI_sub, Int.ofNat_lt, Int.ofNat_le, Nat.reduceAdd, Nat.reduceMul, g2, g3, dec_sl0]
end Go.AM

set_option linter.unusedVariables false
set_option linter.unusedSimpArgs false
set_option maxRecDepth 20000
namespace Go.AM
open Pic (enc dec dec_enc dec_sub)
open PicA (encA decA decA_encA decA_sub)
open Go.Sort (bitsLen)
open Go.RowKit (Below)

theorem q_implLess (x y : TMove) : p_impl_StampLess x.id y.id = some (ltM x y) := by
  unfold p_impl_StampLess ltM
  simp only [decide_eq_true_eq]
  repeat' split
  all_goals (simp only [Option.some.injEq]; symm; first | (rw [decide_eq_false_iff_not]; omega) | (rw [decide_eq_true_eq]; omega) | (apply decide_eq_decide.2; omega))
noncomputable def p_impl_readTree_1 (x0 x1 : Int) (x2 : PtrL TMove) : Option Bool := (get? x2.l x0).bind fun x => (get? x2.l x1).bind fun y => p_impl_StampLess x.id y.id
theorem enc_pl {p : PtrL TMove} : enc p = .ip [.sl 5 (p.l.map enc)] := rfl

def c_impl_readTree_1 (f_impl_StampLess : Nat) : AFn := ⟨17, (.seq (.ops [(qS 5 (.mv (.const (.bool false))))]) (.seq (.ops [(qS 6 (.load 1 false (.tmp 2))), (qS 7 (.mv (.tmp 0))), (qS 8 (.idxS 5 (.tmp 6) (.tmp 7))), (qS 9 (.fieldA 0 (.tmp 8))), (qS 10 (.load 2 true (.tmp 9))), (qS 11 (.load 1 false (.tmp 2))), (qS 12 (.mv (.tmp 1))), (qS 13 (.idxS 5 (.tmp 11) (.tmp 12))), (qS 14 (.fieldA 0 (.tmp 13))), (qS 15 (.load 2 true (.tmp 14))), (qS 16 (.call (2 * f_impl_StampLess) [(.tmp 10), (.tmp 15)])), (qS 5 (.mv (.tmp 16)))]) .ret)), [(.tmp 5)]⟩

theorem d_impl_readTree_1 {P : Program} {env : Env} {f_impl_StampLess : Nat} (ep_impl_StampLess : env (2 * f_impl_StampLess) = pureFn true (FA fun a : TStamp × TStamp => p_impl_StampLess a.1 a.2)) (x0 x1 : Int) (x2 : PtrL TMove) {b : Bool} (hp : p_impl_readTree_1 x0 x1 x2 = some b) : R P env (c_impl_readTree_1 f_impl_StampLess) ((encA (x0, x1, x2)).map ofI) [] (Tells true b) := by
  refine R_of (by simp [c_impl_readTree_1, encA]) ?_
  unfold c_impl_readTree_1
  obtain ⟨x, h1, hp⟩ := Option.bind_eq_some_iff.1 hp
  obtain ⟨y, h2, hp⟩ := Option.bind_eq_some_iff.1 hp
  simp (maxSteps := 2000000) (disch := omega) only [gm, S_dynV, w64_nat, w64_id, nI_add, nI_one, nI_two, nI_sub1, nI_sub, Int.ofNat_lt, Int.ofNat_le, Nat.reduceAdd, Nat.reduceMul, enc_pl, h1, h2, enc_TMove, ep_impl_StampLess, hp]

def moveS : Scal TMove where
  encS x := [.int .i64 x.id.time, .int .i64 x.id.actor, .int .i64 x.node, .int .i64 x.parent, .string x.name]
  hE _ := rfl
  hz _ := rfl
  hp _ := rfl
  z0 := by decide

theorem gc_cells {h : Heap} {b g : Nat} {cs : List V} (hg : getCells h b g = some cs) (h0 : 0 < g) : h[b]? = some (.cells cs) := (cellsAt_some (getCells_real hg h0)).1

theorem k_slice_holds {P : Program} {base : Env} {T : Nat → Option AFn} {fI fH fB fC fR fP fE fT fS fD fO fM fA fX fN fW : Nat} {hd : Value} (t : SortT T fI fH fB fC fR fP fE fT fS fD fO fM fA fX fN)
    (kn : ∀ (h : Heap) (l : Nat), l < 4611686018427387904 → base (2 * fN) none [nV l] h = some (uV (1 <<< bitsLen l), h)) (hs : base (2 * fW) = swapFn 5 hd)
    (hless : base (2 * 115) = pureFn true (FA fun a : Int × Int × PtrL TMove => p_impl_readTree_1 a.1 a.2.1 a.2.2)) : k_sort_Slice (sliceFn P base T (c_sort_pdqsort_func fI fH fB fC fR fP fE fT fS) 65 5 fW hd) := by
  intro xs H b c hlen hb hbc hc
  have hc' := gc_cells hc (by omega)
  by_cases h0 : xs.length = 0
  · obtain rfl := List.eq_nil_of_length_eq_zero h0
    exact ⟨H, by simp [sliceFn], hb, keep_refl⟩
  · have hb' := gc_cells hb (by omega)
    obtain ⟨h', e1, e2, e3⟩ := sort_rows (P := P) t kn moveS (gid := 115) (tid := 65) (lt := ltM) hs (b := b) (c := c) (H0 := H) (xs := xs) (fun H A hA hC hsz i j hi hj => by
      have hA' : A.toList.length = xs.length := by simpa using hsz
      have hgA : getCells H b (xs.length * 5) = some (rows A.toList) := by
        unfold getCells
        rw [hA]
        simp only
        rw [if_pos (by rw [rows_len, hA']; rfl)]
      have hgC : getCells H c 1 = some [.hsl b (xs.length * 5) 0 5 true xs.length] := by
        unfold getCells
        rw [hC]
        rfl
      have g1 : get? A.toList (i : Int) = some A[i]! := by
        rw [get_nat, Array.getElem?_toList, Array.getElem?_eq_getElem (by omega), getElem!_pos A i (by omega)]
      have g2 : get? A.toList (j : Int) = some A[j]! := by
        rw [get_nat, Array.getElem?_toList, Array.getElem?_eq_getElem (by omega), getElem!_pos A j (by omega)]
      have hp : p_impl_readTree_1 (i : Int) (j : Int) ⟨A.toList⟩ = some (ltM A[i]! A[j]!) := by
        unfold p_impl_readTree_1
        rw [g1, Option.bind_some, g2, Option.bind_some, q_implLess]
      rw [hless]
      have sn : snapA 9 false H [nV i, nV j, .ptr c 1 0] = some [.s (.int .i64 (i : Int)), .s (.int .i64 (j : Int)), .ip [.sl 5 (A.toList.map enc)]] := by
        have s1 : snap 8 false H (.hsl b (xs.length * 5) 0 5 true xs.length) = some (.sl 5 (A.toList.map enc)) := by
          rw [snap_hsl, if_neg h0, hgA, Option.bind_some, List.drop_zero, take_rows (by rw [rows_len, hA']; exact Nat.le_refl _), snapA_rowsF, Option.bind_some, mkRows_eq (α := TMove) (z := 5) (ag := true) rfl rfl hA'.symm]
        have s2 : snap 9 false H (.ptr c 1 0) = some (.ip [.sl 5 (A.toList.map enc)]) := by
          rw [snap_ptr, hgC, Option.bind_some, if_pos (by simp), List.drop_zero, snapA_cons, s1, snapA_nil]
          rfl
        rw [snapA_cons, snapA_cons, snapA_cons, s2, snapA_nil]
        rfl
      rw [pure_at, if_pos rfl, sn, Option.bind_some, FA_def]
      have hdec : (decA [I.s (.int .i64 (i : Int)), I.s (.int .i64 (j : Int)), I.ip [I.sl 5 (A.toList.map enc)]] : Option (Int × Int × PtrL TMove)) = some ((i : Int), (j : Int), ⟨A.toList⟩) := by
        exact decA_encA ((i : Int), (j : Int), (⟨A.toList⟩ : PtrL TMove))
      rw [hdec, Option.bind_some]
      simp only [hp]
      rfl) hb' hbc hc' hlen
    refine ⟨h', e1, ?_, e3⟩
    unfold getCells
    rw [e2]
    simp only
    rw [if_pos (by rw [rows_len, sortL_len ltM_swo]; rfl)]

/-- Where the sort's functions start from. -/
noncomputable def sortBase (fW z : Nat) (hd : Value) (pu : PEnv) : Env := fun c slot args h => if c = 2 * fW then swapFn z hd slot args h else mkEnv pu [] c slot args h
theorem sortBase_swap {fW z : Nat} {hd : Value} {pu : PEnv} : sortBase fW z hd pu (2 * fW) = swapFn z hd := by
  funext slot args h
  unfold sortBase
  rw [if_pos rfl]
theorem sortBase_at {fW z f : Nat} {hd : Value} {pu : PEnv} (hf : f ≠ fW) : sortBase fW z hd pu (2 * f) = mkEnv pu [] (2 * f) := by
  funext slot args h
  unfold sortBase
  rw [if_neg (by omega)]
theorem sortBase_ok {P : Program} {fW z : Nat} {hd : Value} {pu : PEnv} (hs : FunOK P fW (swapFn z hd)) (hp : ∀ p, p ∈ pu → PureOK P p.1 p.2.1 p.2.2) : EnvOK P (sortBase fW z hd pu) := by
  intro c slot args H v H' h
  unfold sortBase at h
  split at h
  · rename_i hc
    subst hc
    rw [Nat.mul_div_cancel_left fW (by decide)]
    exact hs slot args H v H' h
  · exact mkEnv_ok hp (fun p hp => by cases hp) c slot args H v H' h

/-- nextPowerOfTwo. -/
def nextF : List I → Option I
  | [.s (.int .i64 n)] => if 0 ≤ n ∧ n < 4611686018427387904 then some (.s (.int .u64 ((1 <<< bitsLen n.toNat : Nat) : Int))) else none
  | _ => none
theorem next_ok {P : Program} {f : FuncId} (hcall : callable P f = true) (h : ∀ (n : Nat), n < 4611686018427387904 → ∀ w, Calls P f #[.int .i64 n] w fun e w' => e = .returned (.int .u64 ((1 <<< bitsLen n : Nat) : Int)) ∧ w' = w) : PureOK P f true nextF := by
  refine ⟨hcall, ?_⟩
  intro args r hr Y w xs hY hl
  unfold nextF at hr
  split at hr
  case h_2 => cases hr
  rename_i n
  split at hr
  case isFalse => cases hr
  rename_i hn
  cases hr
  obtain ⟨n, rfl⟩ : ∃ m : Nat, n = (m : Int) := ⟨n.toNat, by omega⟩
  obtain rfl : xs = #[.int .i64 (n : Int)] := by
    apply Array.ext'
    generalize xs.toList = l at hl
    cases hl with
    | cons a b =>
      cases a
      cases b
      rfl
  refine (h n (by omega) w).mono ?_
  rintro e w' ⟨rfl, rfl⟩
  refine ⟨_, rfl, Below.refl _ _, .s rfl⟩
theorem nextF_at {l : Nat} (hl : l < 4611686018427387904) : nextF [.s (.int .i64 (l : Int))] = some (.s (.int .u64 ((1 <<< bitsLen l : Nat) : Int))) := by
  have e : nextF [.s (.int .i64 (l : Int))] = if 0 ≤ (l : Int) ∧ (l : Int) < 4611686018427387904 then some (.s (.int .u64 ((1 <<< bitsLen (l : Int).toNat : Nat) : Int))) else none := rfl
  rw [e, if_pos (by omega), Int.toNat_natCast]
theorem next_at {l : Nat} (hl : l < 4611686018427387904) (h : Heap) : pureFn true nextF none [nV l] h = some (uV (1 <<< bitsLen l), h) := by
  have sn : snapA 9 false h [nV l] = some [.s (.int .i64 (l : Int))] := by
    rw [snapA_cons, snapA_nil, snap_s]
    rfl
  rw [pure_at, if_pos rfl, sn, Option.bind_some, nextF_at hl, Option.map_some, ofI_s]
end Go.AM

set_option linter.unusedVariables false
set_option linter.unusedSimpArgs false
set_option maxRecDepth 20000
namespace Go.AM
open Pic (enc dec dec_enc dec_sub)
open PicA (encA decA decA_encA decA_sub)

/-- Results that are nil lists become lists of the caller's own. -/
noncomputable def ownFnV (hs : List (Nat × Bool)) (F : Fun) : Fun := fun slot args H => (F slot args H).bind fun p => match p.1 with
  | .tup cs => some (.tup (virtV hs p.2.length cs), p.2 ++ List.replicate (nilsV cs) .virt)
  | _ => none

theorem ownFnV_ok {P : Program} {f : FuncId} {hs : List (Nat × Bool)} {F : Fun} (hcall : callable P f = true) (h : ∀ slot args H v H', F slot args H = some (v, H') → FnOK P f args H v H') : FunOK P f (ownFnV hs F) := by
  intro slot args H v H' hg
  refine .inl ⟨hcall, ?_⟩
  unfold ownFnV at hg
  obtain ⟨⟨u, H1⟩, h1, hg⟩ := Option.bind_eq_some_iff.1 hg
  simp only at hg
  split at hg
  case h_2 => cases hg
  rename_i cs
  cases hg
  intro base X w G xs hS hl
  refine (h _ _ _ _ _ h1 base X w G xs hS hl).mono ?_
  rintro e w' ⟨x, G', rfl, hE, hS', hv⟩
  obtain ⟨G1, hX, hS1⟩ := virts_ok (nilsV cs) hS'
  cases hv with
  | tup hl2 =>
    rename_i ys
    refine ⟨_, G1, rfl, hE.trans hX, hS1, .tup ?_⟩
    refine virtV_ok _ _ hs H1.length (RVL.ext hX hl2) ?_
    intro j hj
    rw [List.getElem?_append_right (by omega)]
    simp [hj]

theorem own_fnOK {P : Program} {env : Env} {pur : Nat → Bool} {md : Modes} {f : FuncId} {A : AFn} (hE : EnvOK P env) (hpur : ∀ f, pur f = true → PurEnv env f) (hc : compFn P pur md f = some A) : ∀ slot args H v H', ownFn P env A slot args H = some (v, H') → FnOK P f args H v H' := by
  intro slot args H v H' hg
  unfold ownFn at hg
  obtain ⟨aa, h1, hg⟩ := Option.bind_eq_some_iff.1 hg
  obtain ⟨⟨u, H2⟩, h2, hg⟩ := Option.bind_eq_some_iff.1 hg
  simp only at hg
  split at hg
  · rename_i hh
    simp only [Option.some.injEq, Prod.mk.injEq] at hg
    obtain ⟨rfl, rfl⟩ := hg
    intro base X w G xs hS hl
    have hS0 : SimH w.heap.size (fun _ => False) w [] [] := ⟨rfl, Nat.le_refl _, fun k hk => hk.elim, fun b s hb => by simp at hb, fun b b' s s' k hb => by simp at hb⟩
    have hno : ∀ k, ¬ Mof (fun _ => False) [] [] k := by
      rintro k (hk | ⟨b, s, hb, _⟩)
      · exact hk
      · simp at hb
    have hl0 : RL w (Mof (fun _ => False) [] []) aa xs.toList :=
      snap_list (fun v x r hv hr => (snap_ok hS false 9 v x r hv hr).weaken (fun k hk => (hno k hk).elim)) hl h1
    refine (fn_ok hE hpur hc h2 w.heap.size _ w [] xs hS0 hl0.ofI).mono ?_
    rintro e w' ⟨x, G2, rfl, hE2, hS2, hv⟩
    obtain ⟨r1, r2⟩ := beside_ok (H2 := H2) rfl hS hE2 hS2
    exact ⟨x, G ++ G2, rfl, r1, r2, RV.movedH rfl hS.len hh hv⟩
  · cases hg

/-- What readTree leaves. -/
def RTres (r : T2 (Option TTree) Int) (v : V) (h : Heap) : Prop := match r.a with
  | none => v = .tup [.i (.s (.pointer none)), .i (.s (.int .i64 r.b))]
  | some t => ∃ (b c m T : Nat) (S : List TMove) (ov u : V), v = .tup [.ptr T 3 0, .i (.s (.int .i64 r.b))] ∧ RT h b c m T S ov u t.nodes t.ops t.skips
theorem w_impl_readTree {P : Program} {env : Env} {f_impl_StampOK f_impl_moveOK f_impl_tree_ring f_sort_Slice : Nat} (ep_impl_StampOK : env (2 * f_impl_StampOK) = pureFn true (FA fun a : TStamp => p_impl_StampOK a)) (ep_impl_moveOK : env (2 * f_impl_moveOK) = pureFn true (FA fun a : TMove => p_impl_moveOK a))
    (ep_impl_tree_ring : env (2 * f_impl_tree_ring) = pureFn true (FA fun a : Option TTree × TMove => p_impl_tree_ring a.1 a.2)) (ex_sort_Slice : k_sort_Slice (env (2 * f_sort_Slice + 1))) (x0 : List TMove) (h0 : Heap) : R P env (c_impl_readTree f_impl_StampOK f_impl_moveOK f_sort_Slice f_impl_tree_ring 115) [.i (.sl 5 (x0.map enc))] h0 (RTres (treeM x0)) := by
  refine R_of (by simp [c_impl_readTree]) ?_
  unfold c_impl_readTree
  unfold treeM
  by_cases hl : 2048 < x0.length
  · rw [if_pos hl]
    have hl' : (2048 : Int) < (x0.length : Int) := by omega
    simp (maxSteps := 2000000) (disch := omega) only [gm, S_dynV, w64_nat, w64_id, nI_add, nI_one, nI_two, nI_sub1, nI_sub, Int.ofNat_lt, Int.ofNat_le, Nat.reduceAdd, Nat.reduceMul, hl']
    exact rfl
  · rw [if_neg hl]
    have hl' : ¬ (2048 : Int) < (x0.length : Int) := by omega
    simp (maxSteps := 2000000) (disch := omega) only [gm, S_dynV, w64_nat, w64_id, nI_add, nI_one, nI_two, nI_sub1, nI_sub, Int.ofNat_lt, Int.ofNat_le, Nat.reduceAdd, Nat.reduceMul, hl']
    refine scan_ok ep_impl_StampOK ep_impl_moveOK (x0 := x0) (by omega) rfl rfl rfl rfl ?_ ?_
    · intro t h g0 ha
      rw [if_neg (by rw [ha]; simp)]
      obtain ⟨h1, e1, e2, e3⟩ := appV_moves h x0 (by omega)
      have hvar : getCells (h1 ++ [Slot.virt, Slot.cells [V.hsl h.length (x0.length * 5) 0 5 true x0.length]]) (h1.length + 1) 1 = some [V.hsl h.length (x0.length * 5) 0 5 true x0.length] := by rw [gc_right]; rfl
      obtain ⟨h2, s1, s2, s3⟩ := ex_sort_Slice x0 (h1 ++ [Slot.virt, Slot.cells [V.hsl h.length (x0.length * 5) 0 5 true x0.length]]) h.length (h1.length + 1) (by omega) (gc_app e2) (by omega) hvar
      have hv2 : getCells h2 (h1.length + 1) 1 = some [V.hsl h.length (x0.length * 5) 0 5 true x0.length] := by
        rw [← hvar]
        exact getCells_congr (s3.at_ _ (by simp) (by simp; omega))
      have hl2 := s3.len
      simp only [List.length_append, List.length_cons, List.length_nil] at hl2
      simp (maxSteps := 2000000) (disch := omega) only [gm, S_dynV, w64_nat, w64_id, nI_add, nI_one, nI_two, nI_sub1, nI_sub, Int.ofNat_lt, Int.ofNat_le, Nat.reduceAdd, Nat.reduceMul, g0, lenV_pic, src_pic, e1, s1, hv2]
      have hlen : (sortL ltM x0).length = x0.length := Go.AM.sortL_len ltM_swo x0
      rw [← hlen] at s2 hv2
      have rt0 : RT (h2 ++ [Slot.map [] [], Slot.cells [V.mp (List.length h2), V.i (I.s (Value.slice none 0 0)), V.i (I.s (Value.slice none 0 0))]]) h.length (h1.length + 1) h2.length (h2.length + 1) (sortL ltM x0) (.i (.s (.slice none 0 0))) (.i (.s (.slice none 0 0))) [] [] [] := by
        refine ⟨gc_app s2, gc_app hv2, ?_, ?_, .inl ⟨rfl, rfl⟩, .inl ⟨rfl, rfl⟩, by omega, by omega, by omega, by omega, by omega, by omega, fun _ _ _ _ _ _ _ e => by cases e⟩
        · rw [List.getElem?_append_right (by omega), Nat.sub_self]
          rfl
        · rw [gc_right]
          rfl
      have hS : (sortL ltM x0).length ≤ 2048 := by omega
      rw [← hlen]
      generalize sortL ltM x0 = S at hS rt0
      refine dedup_loop hS rt0 rfl rfl rfl rfl rfl ?_ ?_
      · clear rt0 hv2 s3 s2 s1 hvar e1 e2 e3 g0
        intro t h v l hd g7 rt
        rw [hd]
        have hll : l.length ≤ 2048 := by
          have := dedM_len S none [] l hd
          simp only [List.length_nil] at this
          omega
        have rT := rt.tr
        rcases rt.lo with ⟨rfl, rfl⟩ | ⟨B, hTB, rfl, hB⟩
        · simp (maxSteps := 2000000) (disch := omega) only [gm, S_dynV, w64_nat, w64_id, nI_add, nI_one, nI_two, nI_sub1, nI_sub, Int.ofNat_lt, Int.ofNat_le, Nat.reduceAdd, Nat.reduceMul, g7, rT]
          refine grow_loop ep_impl_tree_ring hll rt g7 rfl rfl rfl ?_
          clear g7 rt rT
          clear t h
          intro t h u g7 rt
          simp (maxSteps := 2000000) (disch := omega) only [gm, S_dynV, w64_nat, w64_id, nI_add, nI_one, nI_two, nI_sub1, nI_sub, Int.ofNat_lt, Int.ofNat_le, Nat.reduceAdd, Nat.reduceMul, g7]
          exact ⟨_, _, _, _, _, _, _, rfl, rt⟩
        · simp (maxSteps := 2000000) (disch := omega) only [gm, S_dynV, w64_nat, w64_id, nI_add, nI_one, nI_two, nI_sub1, nI_sub, Int.ofNat_lt, Int.ofNat_le, Nat.reduceAdd, Nat.reduceMul, g7, rT]
          refine grow_loop ep_impl_tree_ring hll rt g7 rfl rfl rfl ?_
          clear g7 rt rT
          clear hB
          clear t h
          intro t h u g7 rt
          simp (maxSteps := 2000000) (disch := omega) only [gm, S_dynV, w64_nat, w64_id, nI_add, nI_one, nI_two, nI_sub1, nI_sub, Int.ofNat_lt, Int.ofNat_le, Nat.reduceAdd, Nat.reduceMul, g7]
          exact ⟨_, _, _, _, _, _, _, rfl, rt⟩
      · intro hd t h g2 g3
        rw [hd]
        simp (maxSteps := 2000000) (disch := omega) only [gm, S_dynV, w64_nat, w64_id, nI_add, nI_one, nI_two, nI_sub1, nI_sub, Int.ofNat_lt, Int.ofNat_le, Nat.reduceAdd, Nat.reduceMul, g2, g3]
        exact rfl
    · intro t h g2 g3 ha
      rw [if_pos ha]
      simp (maxSteps := 2000000) (disch := omega) only [gm, S_dynV, w64_nat, w64_id, nI_add, nI_one, nI_two, nI_sub1, nI_sub, Int.ofNat_lt, Int.ofNat_le, Nat.reduceAdd, Nat.reduceMul, g2, g3]
      exact rfl
def k_impl_readTree (F : Fun) : Prop := ∀ (x0 : List TMove) (h : Heap), ∃ v h', F none [.i (.sl 5 (x0.map enc))] h = some (v, h') ∧ RTres (treeM x0) v h'
theorem ko_impl_readTree {P : Program} {env : Env} {f_impl_StampOK f_impl_moveOK f_impl_tree_ring f_sort_Slice : Nat} (ep_impl_StampOK : env (2 * f_impl_StampOK) = pureFn true (FA fun a : TStamp => p_impl_StampOK a)) (ep_impl_moveOK : env (2 * f_impl_moveOK) = pureFn true (FA fun a : TMove => p_impl_moveOK a))
    (ep_impl_tree_ring : env (2 * f_impl_tree_ring) = pureFn true (FA fun a : Option TTree × TMove => p_impl_tree_ring a.1 a.2)) (ex_sort_Slice : k_sort_Slice (env (2 * f_sort_Slice + 1))) : k_impl_readTree (runIn P env (c_impl_readTree f_impl_StampOK f_impl_moveOK f_sort_Slice f_impl_tree_ring 115)) := by
  intro x0 h
  obtain ⟨⟨v, h'⟩, h1, h2⟩ := w_impl_readTree ep_impl_StampOK ep_impl_moveOK ep_impl_tree_ring ex_sort_Slice x0 h
  exact ⟨v, h', h1, h2⟩
end Go.AM

set_option linter.unusedVariables false
set_option linter.unusedSimpArgs false
set_option maxRecDepth 20000
namespace Go.AM
open Pic (enc dec dec_enc dec_sub)
open PicA (encA decA decA_encA decA_sub)

def ioutN (ns : List TNode) : Nat → Nat → List TNode → List TNode
  | 0, _, acc => acc
  | k + 1, i, acc => match findN ns (i : Int) with
    | none => ioutN ns k (i + 1) acc
    | some nd => ioutN ns k (i + 1) (acc ++ [nd])
def treeOfM (r : T2 (Option TTree) Int) : T3 (List TNode) (List TStamp) Int := match r.a with
  | none => ⟨[], [], r.b⟩
  | some t => if r.b = 0 then ⟨ioutN t.nodes 1000 1 [], t.skips, 0⟩ else ⟨[], [], r.b⟩
noncomputable def p_impl_TreeOf (x0 : List TMove) : Option (T3 (List TNode) (List TStamp) Int) := some (treeOfM (treeM x0))

/-- What TreeOf leaves in its own heap. -/
def o_impl_TreeOf (b : T3 (List TNode) (List TStamp) Int) (v : V) (h : Heap) : Prop := ∃ (n0 : Nat) (u : V), v = .tup [.hsl n0 (b.a.length * 3) 0 3 true b.a.length, u, .i (.s (.int .i64 b.c))] ∧ getCells h n0 (b.a.length * 3) = some (rows b.a) ∧
  ((b.b = [] ∧ u = .i (.s (.slice none 0 0))) ∨ ∃ n1, u = .hsl n1 (b.b.length * 2) 0 2 true b.b.length ∧ getCells h n1 (b.b.length * 2) = some (rows b.b) ∧ n1 ≠ n0)
def oo_impl_TreeOf (b : T3 (List TNode) (List TStamp) Int) (h : Heap) (v : V) (h2 : Heap) : Prop := Keep [] h h2 ∧ ∃ n0 : Nat, ∃ n1 : Nat, v = .tup [.hsl n0 (b.a.length * 3) 0 3 true b.a.length, .hsl n1 (b.b.length * 2) 0 2 true b.b.length, .i (.s (.int .i64 b.c))] ∧ n0 < h2.length ∧ h.length ≤ n0 ∧ getCells h2 n0 (b.a.length * 3) = some (rows b.a) ∧ n1 < h2.length ∧ h.length ≤ n1 ∧ getCells h2 n1 (b.b.length * 2) = some (rows b.b) ∧ n1 ≠ n0
def k_impl_TreeOf (F : Fun) : Prop := ∀ (x0 : List TMove) (b : T3 (List TNode) (List TStamp) Int), p_impl_TreeOf x0 = some b → ∀ (h : Heap) (args : List V), snapA 9 false h args = some (encA (x0)) → ∃ p, F none args h = some p ∧ oo_impl_TreeOf b h p.1 p.2

theorem ldNode {ns : List TNode} {k : Int} {n : TNode} (h : findN ns k = some n) : lookV true [.int .i64 0, .int .i64 0, .string ⟨#[]⟩] (ns.map fun n => .agg (cellsV n)) (hit [.int .i64 k] (ns.map fun n => [.int .i64 n.node])) = some (.agg (cellsV n)) ∧
    (hit [.int .i64 k] (ns.map fun n => [.int .i64 n.node])).isSome = true := by
  obtain ⟨h1, h2⟩ := hit_find ns k
  rw [h] at h1 h2
  refine ⟨?_, h2⟩
  obtain ⟨j, hj⟩ := Option.isSome_iff_exists.1 (h2.trans rfl)
  rw [hj] at h1 ⊢
  simp only [Option.bind_some] at h1
  simp [lookV, h1]
theorem ldNone {ns : List TNode} {k : Int} (h : findN ns k = none) : lookV true [.int .i64 0, .int .i64 0, .string ⟨#[]⟩] (ns.map fun n => .agg (cellsV n)) (hit [.int .i64 k] (ns.map fun n => [.int .i64 n.node])) = some (.agg (ivs [.int .i64 0, .int .i64 0, .string ⟨#[]⟩])) ∧
    (hit [.int .i64 k] (ns.map fun n => [.int .i64 n.node])).isSome = false := by
  obtain ⟨h1, h2⟩ := hit_find ns k
  rw [h] at h1 h2
  refine ⟨?_, h2⟩
  have hj : hit [.int .i64 k] (ns.map fun n => [.int .i64 n.node]) = none := by simpa using h2
  rw [hj]
  rfl

structure RW (h : Heap) (m T : Nat) (ov u : V) (ns : List TNode) (sk : List TStamp) : Prop where
  mp : h[m]? = some (.map (treeK ns) (ns.map fun n => .agg (cellsV n)))
  tr : getCells h T 3 = some [.mp m, ov, u]
  ls : OwnV 2 T h u sk
  mT : m < T
theorem RW.app {h : Heap} {m T : Nat} {ov u : V} {ns : List TNode} {sk : List TStamp} (r : RW h m T ov u ns sk) (l : Heap) : RW (h ++ l) m T ov u ns sk :=
  ⟨by rw [List.getElem?_append_left (List.getElem?_eq_some_iff.1 r.mp).1]; exact r.mp, gc_app r.tr, r.ls.app l, r.mT⟩

theorem of_loop {t : Nat → V} {P : Program} {env : Env} {Q : Post} {h : Heap} {m T O : Nat} {ov u : V} {ns : List TNode} {sk : List TStamp} (rt : RW h m T ov u ns sk) (hO : getCells h O 0 = some []) (hTO : T < O)
    (hdis : ∀ y g n, u = .hsl y g 0 2 true n → y ≠ O) (g5 : t 5 = .ptr T 3 0) (g7 : t 7 = .hsl O 0 0 3 true 0) (g8 : t 8 = .i (.s (.int .i64 1)))
    (hQ : ∀ t' h', t' 5 = .ptr T 3 0 → t' 7 = .hsl O ((ioutN ns 1000 1 []).length * 3) 0 3 true (ioutN ns 1000 1 []).length → getCells h' O ((ioutN ns 1000 1 []).length * 3) = some (rows (ioutN ns 1000 1 [])) → RW h' m T ov u ns sk → Q (.exit 0) t' h') :
    @W P env ⟨(.loop (.seq (.seq (.ops [(qS 19 (.mv (.tmp 8))), (qS 20 (.pu (.n (.ar .leq)) [(.tmp 19), (ic 1000)]))]) (.cond (.tmp 20) .skip (.exit 0))) (.seq (.block 1 (.seq (.ops [(qS 24 (.mv (.tmp 5))), (qS 25 (.nilChk (.tmp 24))), (qS 26 (.fieldA 0 (.tmp 25))), (qS 27 (.load 1 false (.tmp 26))), (qS 28 (.mv (.tmp 8))), (qS 29 (.lookup false [(.int .i64)] true [(.int .i64 0), (.int .i64 0), (.string ⟨#[]⟩)] true (.tmp 27) (.tmp 28))), (qS 23 (.mv (.tmp 29))), (qS 30 (.extract 0 (.tmp 23))), (qS 31 (.extract 1 (.tmp 23))), (qS 9 (.allocV [(0, false), (0, false), (0, false)] [(.int .i64 0), (.int .i64 0), (.string ⟨#[]⟩)])), ⟨.none, (.storeV [(0, false), (0, false), (0, false)] 3 (.tmp 9) (.tmp 30)), .none, [], .none⟩, (qS 10 (.mv (.tmp 31)))]) (.seq (.ops [(qS 32 (.mv (.tmp 10)))]) (.cond (.tmp 32) (.ops [(qS 33 (.mv (.tmp 7))), (qS 34 (.load 3 true (.tmp 9))), (qS 35 (.buildSl 3 true 1 [(.int .i64 0), (.int .i64 0), (.string ⟨#[]⟩)] [(0, (.tmp 34))])), (qS 36 (.append 3 true 32 (.tmp 33) (.tmp 35))), (qS 7 (.mv (.tmp 36)))]) .skip)))) (.ops [(qS 21 (.mv (.tmp 8))), (qS 22 (.pu (.n (.ar .add)) [(.tmp 21), (ic 1)])), (qS 8 (.mv (.tmp 22)))]))))⟩ t h ⟨Q⟩ := by
  obtain ⟨D, hD⟩ : ∃ D, D = ioutN ns 1000 1 [] := ⟨_, rfl⟩
  rw [← hD] at hQ
  refine W_loopK (fun n t h => ∃ (k i : Nat) (acc : List TNode), k = n ∧ k + i = 1001 ∧ acc.length ≤ i ∧ t 5 = .ptr T 3 0 ∧ t 7 = .hsl O (acc.length * 3) 0 3 true acc.length ∧ t 8 = .i (.s (.int .i64 (i : Int))) ∧ getCells h O (acc.length * 3) = some (rows acc) ∧ RW h m T ov u ns sk ∧ D = ioutN ns k i acc) 1000 ⟨1000, 1, [], rfl, rfl, Nat.zero_le _, g5, g7, g8, hO, rt, hD⟩ ?_
  clear g5 g7 g8 hO rt hD
  rintro K n t h hn hx ⟨k, i, acc, rfl, hki, hai, g5, g7, g8, hO, rt, hD⟩
  cases k with
  | zero =>
    have hc : ¬ (i : Int) ≤ 1000 := by omega
    simp (maxSteps := 2000000) (disch := omega) only [gm, S_dynV, w64_nat, w64_id, nI_add, nI_one, nI_two, nI_sub1, nI_sub, Int.ofNat_lt, Int.ofNat_le, Nat.reduceAdd, Nat.reduceMul, g5, g7, g8, hc]
    have hD : D = acc := hD
    subst hD
    exact hx _ _ _ (by simp) (hQ _ _ g5 g7 hO rt)
  | succ k =>
    have hc : (i : Int) ≤ 1000 := by omega
    have rT : getCells h T 3 = some [.mp m, ov, u] := rt.tr
    have rM : mapAt h (.mp m) = some (m, treeK ns, ns.map fun n => .agg (cellsV n)) := by simp only [mapAt, rt.mp]
    have rR : mapR h (.mp m) = some (m, treeK ns, ns.map fun n => .agg (cellsV n)) := rM
    rw [ioutN] at hD
    cases hf : findN ns (i : Int) with
    | none =>
      rw [hf] at hD
      obtain ⟨l1, l2⟩ := ldNone hf
      simp only [cellsV_TNode] at l1
      simp (maxSteps := 2000000) (disch := omega) only [gm, S_dynV, w64_nat, w64_id, nI_add, nI_one, nI_two, nI_sub1, nI_sub, Int.ofNat_lt, Int.ofNat_le, Nat.reduceAdd, Nat.reduceMul, g5, g7, g8, hc, rT, rR, keyV_int, treeK_keys, fits1, l1, l2]
      exact hn _ _ _ (by omega) ⟨k, i + 1, acc, rfl, by omega, by omega, g5, g7, rfl, gc_app hO, rt.app _, hD⟩
    | some nd =>
      rw [hf] at hD
      simp only at hD
      obtain ⟨l1, l2⟩ := ldNode hf
      simp only [cellsV_TNode] at l1
      have hO2 : ∀ l, getCells (h ++ l) O (acc.length * 3) = some (rows acc) := fun l => gc_app hO
      have lO := gc_lt hO
      simp (maxSteps := 2000000) (disch := omega) only [gm, S_dynV, w64_nat, w64_id, nI_add, nI_one, nI_two, nI_sub1, nI_sub, Int.ofNat_lt, Int.ofNat_le, Nat.reduceAdd, Nat.reduceMul, g5, g7, g8, hc, rT, rR, keyV_int, treeK_keys, fits1, l1, l2, cellsV_TNode, hO2]
      have rt' : RW (List.set h O (Slot.cells (rows acc ++ cellsV nd)) ++ [Slot.cells (cellsV nd), Slot.cells (cellsV nd)]) m T ov u ns sk := by
        refine RW.app ⟨?_, ?_, ?_, rt.mT⟩ _
        · rw [List.getElem?_set_ne (by have := rt.mT; omega)]; exact rt.mp
        · rw [gc_set (by omega)]; exact rt.tr
        · rcases rt.ls with ⟨q1, q2⟩ | ⟨B, q1, q2, q3⟩
          · exact .inl ⟨q1, q2⟩
          · exact .inr ⟨B, q1, q2, by rw [gc_set (Ne.symm (hdis _ _ _ q2))]; exact q3⟩
      have hl3 : (acc ++ [nd]).length * 3 = acc.length * 3 + 3 := by rw [List.length_append, List.length_cons, List.length_nil, Nat.add_mul]
      refine hn _ _ _ (by omega) ⟨k, i + 1, acc ++ [nd], rfl, by omega, by simp; omega, g5, ?_, rfl, ?_, rt', hD⟩
      · rw [hl3, List.length_append]; rfl
      · rw [hl3, gc_left (by rw [List.length_set]; exact lO)]
        show getCells (List.set h O (Slot.cells (rows acc ++ cellsV nd))) O (acc.length * 3 + 3) = _
        rw [gc_set_eq lO, rows_append, rows_one, if_pos (by rw [List.length_append, rows_len, cellsV_len]; rfl)]

def c_impl_TreeOf (f_impl_readTree : Nat) : AFn := ⟨42, (.seq (.ops [(qS 2 (.vnil 3 true)), (qS 3 (.vnil 2 true)), (qS 4 (.mv (ic 0)))]) (.seq (.ops [(qS 12 (.mv (.tmp 0))), (qS 13 (.call (2 * f_impl_readTree + 1) [(.tmp 12)])), (qS 11 (.mv (.tmp 13))), (qS 14 (.extract 0 (.tmp 11))), (qS 15 (.extract 1 (.tmp 11))), (qS 5 (.mv (.tmp 14))), (qS 6 (.mv (.tmp 15)))]) (.seq (.seq (.ops [(qS 16 (.mv (.tmp 6))), (qS 17 (.pu (.n (.ar .neq)) [(.tmp 16), (ic 0)]))]) (.cond (.tmp 17) (.seq (.ops [(qS 18 (.mv (.tmp 6))), (qS 2 (.vnil 3 true)), (qS 3 (.vnil 2 true)), (qS 4 (.mv (.tmp 18)))]) .ret) .skip)) (.seq (.ops [(qS 7 (.vnil 3 true))]) (.seq (.seq (.ops [(qS 8 (.mv (ic 1)))]) (.block 0 (.loop (.seq (.seq (.ops [(qS 19 (.mv (.tmp 8))), (qS 20 (.pu (.n (.ar .leq)) [(.tmp 19), (ic 1000)]))]) (.cond (.tmp 20) .skip (.exit 0))) (.seq (.block 1 (.seq (.ops [(qS 24 (.mv (.tmp 5))), (qS 25 (.nilChk (.tmp 24))), (qS 26 (.fieldA 0 (.tmp 25))), (qS 27 (.load 1 false (.tmp 26))), (qS 28 (.mv (.tmp 8))), (qS 29 (.lookup false [(.int .i64)] true [(.int .i64 0), (.int .i64 0), (.string ⟨#[]⟩)] true (.tmp 27) (.tmp 28))), (qS 23 (.mv (.tmp 29))), (qS 30 (.extract 0 (.tmp 23))), (qS 31 (.extract 1 (.tmp 23))), (qS 9 (.allocV [(0, false), (0, false), (0, false)] [(.int .i64 0), (.int .i64 0), (.string ⟨#[]⟩)])), ⟨.none, (.storeV [(0, false), (0, false), (0, false)] 3 (.tmp 9) (.tmp 30)), .none, [], .none⟩, (qS 10 (.mv (.tmp 31)))]) (.seq (.ops [(qS 32 (.mv (.tmp 10)))]) (.cond (.tmp 32) (.ops [(qS 33 (.mv (.tmp 7))), (qS 34 (.load 3 true (.tmp 9))), (qS 35 (.buildSl 3 true 1 [(.int .i64 0), (.int .i64 0), (.string ⟨#[]⟩)] [(0, (.tmp 34))])), (qS 36 (.append 3 true 32 (.tmp 33) (.tmp 35))), (qS 7 (.mv (.tmp 36)))]) .skip)))) (.ops [(qS 21 (.mv (.tmp 8))), (qS 22 (.pu (.n (.ar .add)) [(.tmp 21), (ic 1)])), (qS 8 (.mv (.tmp 22)))])))))) (.seq (.ops [(qS 37 (.mv (.tmp 7))), (qS 38 (.mv (.tmp 5))), (qS 39 (.nilChk (.tmp 38))), (qS 40 (.fieldA 2 (.tmp 39))), (qS 41 (.load 1 false (.tmp 40))), (qS 2 (.mv (.tmp 37))), (qS 3 (.mv (.tmp 41))), (qS 4 (.mv (ic 0)))]) .ret)))))), [(.tmp 2), (.tmp 3), (.tmp 4)]⟩

theorem treeM_none {x : List TMove} {b : Int} (h : treeM x = ⟨none, b⟩) : b ≠ 0 := by
  unfold treeM at h
  split at h
  · cases h; decide
  · split at h
    · cases h; decide
    · split at h
      · cases h; decide
      · cases h
theorem treeM_some {x : List TMove} {t : TTree} {b : Int} (h : treeM x = ⟨some t, b⟩) : b = 0 := by
  unfold treeM at h
  split at h
  · cases h
  · split at h
    · cases h
    · split at h
      · cases h
      · cases h; rfl

theorem w_impl_TreeOf {P : Program} {env : Env} {f_impl_readTree : Nat} (e_impl_readTree : k_impl_readTree (env (2 * f_impl_readTree + 1))) (x0 : List TMove) {b : T3 (List TNode) (List TStamp) Int} (hp : p_impl_TreeOf x0 = some b) : R P env (c_impl_TreeOf f_impl_readTree) ((encA (x0)).map ofI) [] (o_impl_TreeOf b) := by
  refine R_of (by simp [c_impl_TreeOf, encA]) ?_
  unfold c_impl_TreeOf
  have hp : b = treeOfM (treeM x0) := (Option.some.inj hp).symm
  subst hp
  obtain ⟨v, h1, e1, e2⟩ := e_impl_readTree x0 [.virt, .virt]
  have hN := fun b => treeM_none (x := x0) (b := b)
  have hSm := fun t b => treeM_some (x := x0) (t := t) (b := b)
  generalize treeM x0 = r at e2 hN hSm
  obtain ⟨ra, rb⟩ := r
  cases ra with
  | none =>
    have e2 : v = .tup [.i (.s (.pointer none)), .i (.s (.int .i64 rb))] := e2
    subst e2
    have hc : ¬ rb = 0 := hN rb rfl
    have hc' : decide (rb = 0) = false := by simp [hc]
    simp (maxSteps := 2000000) (disch := omega) only [gm, S_dynV, w64_nat, w64_id, nI_add, nI_one, nI_two, nI_sub1, nI_sub, Int.ofNat_lt, Int.ofNat_le, Nat.reduceAdd, Nat.reduceMul, e1, hc']
    refine ⟨h1.length, .hsl (h1.length + 1) 0 0 2 true 0, rfl, ?_, .inr ⟨h1.length + 1, rfl, ?_, by omega⟩⟩
    · show getCells (h1 ++ [Slot.virt, Slot.virt]) (h1.length + 0) 0 = some []
      rw [gc_right]; rfl
    · show getCells (h1 ++ [Slot.virt, Slot.virt]) (h1.length + 1) 0 = some []
      rw [gc_right]; rfl
  | some tr =>
    obtain ⟨b, c, m, T, S, ov, u, rfl, rt⟩ := e2
    have hc : rb = 0 := hSm tr rb rfl
    subst hc
    simp (maxSteps := 2000000) (disch := omega) only [gm, S_dynV, w64_nat, w64_id, nI_add, nI_one, nI_two, nI_sub1, nI_sub, Int.ofNat_lt, Int.ofNat_le, Nat.reduceAdd, Nat.reduceMul, e1]
    have rw0 : RW h1 m T ov u tr.nodes tr.skips := ⟨rt.mp, rt.tr, rt.ls, rt.mT⟩
    refine of_loop (rw0.app [.virt]) (O := h1.length) (by show getCells _ (h1.length + 0) 0 = _; rw [gc_right]; rfl) (gc_lt rt.tr) ?_ rfl rfl rfl ?_
    · intro y g n hu
      rcases rt.ls with ⟨q1, q2⟩ | ⟨B, q1, q2, q3⟩
      · rw [q2] at hu; cases hu
      · rw [q2] at hu; cases hu; have := gc_lt q3; omega
    · intro t h g5 g7 hO rt
      have rT := rt.tr
      have hdis : ∀ y g n, u = .hsl y g 0 2 true n → y ≠ h1.length := by
        intro y g n hu
        rename_i rt0
        rcases rt0.ls with ⟨q1, q2⟩ | ⟨B, q1, q2, q3⟩
        · rw [q2] at hu; cases hu
        · rw [q2] at hu; cases hu; have := gc_lt q3; omega
      have hT := gc_lt rT
      simp (maxSteps := 2000000) (disch := omega) only [gm, S_dynV, w64_nat, w64_id, nI_add, nI_one, nI_two, nI_sub1, nI_sub, Int.ofNat_lt, Int.ofNat_le, Nat.reduceAdd, Nat.reduceMul, g5, g7, rT]
      refine ⟨h1.length, u, rfl, hO, ?_⟩
      rcases rt.ls with ⟨q1, q2⟩ | ⟨B, q1, q2, q3⟩
      · exact .inl ⟨q1, q2⟩
      · exact .inr ⟨B, q2, q3, hdis _ _ _ q2⟩

theorem ko_impl_TreeOf {P : Program} {env : Env} {f_impl_readTree : Nat} (e_impl_readTree : k_impl_readTree (env (2 * f_impl_readTree + 1))) : k_impl_TreeOf (ownFnV [(3, true), (2, true), (0, false)] (ownFn P env (c_impl_TreeOf f_impl_readTree))) := by
  intro x0 b hp h args has
  obtain ⟨⟨v, H2⟩, hr, n0, u, rfl, wn0, hu⟩ := w_impl_TreeOf e_impl_readTree x0 hp
  have l0 : h.length ≤ n0 + h.length ∧ n0 + h.length < (h ++ H2.map (Slot.move h.length)).length := moved_lt (h := h) wn0
  have kp : ∀ l, Keep [] h ((h ++ H2.map (Slot.move h.length)) ++ l) := fun l => by
    rw [List.append_assoc]
    exact ⟨by simp, fun b hb _ => List.getElem?_append_left hb⟩
  unfold ownFnV
  rcases hu with ⟨q1, rfl⟩ | ⟨n1, rfl, wn1, ne⟩
  · rw [own_call has hr rfl]
    refine ⟨_, rfl, kp _, n0 + h.length, (h ++ H2.map (Slot.move h.length)).length, ?_, ?_, l0.1, gc_app (moved_rows wn0), ?_, ?_, ?_, ?_⟩
    · rw [q1]; rfl
    · show _ < List.length ((h ++ H2.map (Slot.move h.length)) ++ [Slot.virt])
      rw [List.length_append]; have := l0.2; omega
    · show _ < List.length ((h ++ H2.map (Slot.move h.length)) ++ [Slot.virt])
      rw [List.length_append]; simp
    · rw [List.length_append]; omega
    · rw [q1]
      show getCells ((h ++ H2.map (Slot.move h.length)) ++ [Slot.virt]) ((h ++ H2.map (Slot.move h.length)).length + 0) 0 = some []
      rw [gc_right]; rfl
    · have := l0.2; omega
  · rw [own_call has hr rfl]
    have l1 := moved_lt (h := h) wn1
    have e : ∀ l, (h ++ H2.map (Slot.move h.length)) ++ List.replicate (nilsV [V.hsl (n0 + h.length) (b.a.length * 3) 0 3 true b.a.length, V.hsl (n1 + h.length) (b.b.length * 2) 0 2 true b.b.length, V.i (I.s (Value.int IntKind.i64 b.c))]) l = h ++ H2.map (Slot.move h.length) := fun l => List.append_nil _
    refine ⟨_, rfl, kp _, n0 + h.length, n1 + h.length, rfl, ?_, l0.1, ?_, ?_, l1.1, ?_, by omega⟩
    · exact Nat.lt_of_lt_of_eq l0.2 (congrArg List.length (e _)).symm
    · exact (congrArg (fun h => getCells h _ _) (e _)).trans (moved_rows wn0)
    · exact Nat.lt_of_lt_of_eq l1.2 (congrArg List.length (e _)).symm
    · exact (congrArg (fun h => getCells h _ _) (e _)).trans (moved_rows wn1)
end Go.AM

set_option linter.unusedVariables false
set_option linter.unusedSimpArgs false
set_option maxRecDepth 20000
namespace Go.AM
open Pic (enc dec dec_enc dec_sub)
open PicA (encA decA decA_encA decA_sub)

noncomputable def soutN (f : TForest) : Nat → Nat → List TNode → Option (List TNode)
  | 0, _, acc => some acc
  | k + 1, i, acc => (get? f.parent (i : Int)).bind fun p => if p = -2 then soutN f k (i + 1) acc else (get? f.name (i : Int)).bind fun nm => soutN f k (i + 1) (acc ++ [⟨(i : Int), p, nm⟩])
noncomputable def p_spec_TreeOf (x0 : List TMove) : Option (T3 (List TNode) (List TStamp) Int) :=
  (p_spec_l06Clean x0).bind fun r => if r.b ≠ 0 then some ⟨[], [], r.b⟩ else (p_spec_l06Grow r.a).bind fun f => (soutN f 1000 1 []).bind fun ns => some ⟨ns, f.skipped, 0⟩

def c_spec_TreeOf (f_spec_l06Clean : Nat) (f_spec_l06Grow : Nat) : AFn := ⟨59, (.seq (.ops [(qS 2 (.vnil 3 true)), (qS 3 (.vnil 2 true)), (qS 4 (.mv (ic 0)))]) (.seq (.ops [(qS 11 (.mv (.tmp 0))), (qS 12 (.call (2 * f_spec_l06Clean) [(.tmp 11)])), (qS 10 (.mv (.tmp 12))), (qS 13 (.extract 0 (.tmp 10))), (qS 14 (.extract 1 (.tmp 10))), (qS 5 (.mv (.tmp 13))), (qS 6 (.mv (.tmp 14)))]) (.seq (.seq (.ops [(qS 15 (.mv (.tmp 6))), (qS 16 (.pu (.n (.ar .neq)) [(.tmp 15), (ic 0)]))]) (.cond (.tmp 16) (.seq (.ops [(qS 17 (.buildSl 3 true 0 [(.int .i64 0), (.int .i64 0), (.string ⟨#[]⟩)] [])), (qS 18 (.buildSl 2 true 0 [(.int .i64 0), (.int .i64 0)] [])), (qS 19 (.mv (.tmp 6))), (qS 2 (.mv (.tmp 17))), (qS 3 (.mv (.tmp 18))), (qS 4 (.mv (.tmp 19)))]) .ret) .skip)) (.seq (.ops [(qS 20 (.mv (.tmp 5))), (qS 21 (.call (2 * f_spec_l06Grow) [(.tmp 20)])), (qS 7 (.mv (.tmp 21)))]) (.seq (.ops [(qS 22 (.buildSl 3 true 0 [(.int .i64 0), (.int .i64 0), (.string ⟨#[]⟩)] [])), (qS 8 (.mv (.tmp 22)))]) (.seq (.seq (.ops [(qS 9 (.mv (ic 1)))]) (.block 0 (.loop (.seq (.seq (.ops [(qS 23 (.mv (.tmp 9))), (qS 24 (.pu (.n (.ar .leq)) [(.tmp 23), (ic 1000)]))]) (.cond (.tmp 24) .skip (.exit 0))) (.seq (.block 1 (.seq (.ops [(qS 27 (.mv (.tmp 7))), (qS 28 (.nilChk (.tmp 27))), (qS 29 (.fieldA 0 (.tmp 28))), (qS 30 (.load 1 false (.tmp 29))), (qS 31 (.mv (.tmp 9))), (qS 32 (.idxS 1 (.tmp 30) (.tmp 31))), (qS 33 (.load 1 false (.tmp 32))), (qS 34 (.pu (.n (.ar .neq)) [(.tmp 33), (ic (-2))]))]) (.cond (.tmp 34) (.ops [(qS 35 (.mv (.tmp 8))), (qS 36 (.mv (.tmp 9))), (qS 37 (.mv (.tmp 7))), (qS 38 (.nilChk (.tmp 37))), (qS 39 (.fieldA 0 (.tmp 38))), (qS 40 (.load 1 false (.tmp 39))), (qS 41 (.mv (.tmp 9))), (qS 42 (.idxS 1 (.tmp 40) (.tmp 41))), (qS 43 (.load 1 false (.tmp 42))), (qS 44 (.mv (.tmp 7))), (qS 45 (.nilChk (.tmp 44))), (qS 46 (.fieldA 1 (.tmp 45))), (qS 47 (.load 1 false (.tmp 46))), (qS 48 (.mv (.tmp 9))), (qS 49 (.idxS 1 (.tmp 47) (.tmp 48))), (qS 50 (.load 1 false (.tmp 49))), (qS 51 (.build [(.int .i64 0), (.int .i64 0), (.string ⟨#[]⟩)] [(0, (1, (.tmp 36))), (1, (1, (.tmp 43))), (2, (1, (.tmp 50)))])), (qS 52 (.buildSl 3 true 1 [(.int .i64 0), (.int .i64 0), (.string ⟨#[]⟩)] [(0, (.tmp 51))])), (qS 53 (.append 3 true 32 (.tmp 35) (.tmp 52))), (qS 8 (.mv (.tmp 53)))]) .skip))) (.ops [(qS 25 (.mv (.tmp 9))), (qS 26 (.pu (.n (.ar .add)) [(.tmp 25), (ic 1)])), (qS 9 (.mv (.tmp 26)))])))))) (.seq (.ops [(qS 54 (.mv (.tmp 8))), (qS 55 (.mv (.tmp 7))), (qS 56 (.nilChk (.tmp 55))), (qS 57 (.fieldA 2 (.tmp 56))), (qS 58 (.load 1 false (.tmp 57))), (qS 2 (.mv (.tmp 54))), (qS 3 (.mv (.tmp 58))), (qS 4 (.mv (ic 0)))]) .ret))))))), [(.tmp 2), (.tmp 3), (.tmp 4)]⟩

theorem d_spec_TreeOf {P : Program} {env : Env} {f_spec_l06Clean f_spec_l06Grow : Nat} (ep_spec_l06Clean : env (2 * f_spec_l06Clean) = pureFn true (FA fun a : List TMove => p_spec_l06Clean a)) (ep_spec_l06Grow : env (2 * f_spec_l06Grow) = pureFn true (FA fun a : List TMove => p_spec_l06Grow a)) (x0 : List TMove) {b : T3 (List TNode) (List TStamp) Int} (hp : p_spec_TreeOf x0 = some b) : R P env (c_spec_TreeOf f_spec_l06Clean f_spec_l06Grow) ((encA (x0)).map ofI) [] (Tells false b) := by
  refine R_of (by simp [c_spec_TreeOf, encA]) ?_
  unfold c_spec_TreeOf
  unfold p_spec_TreeOf at hp
  obtain ⟨⟨l, code⟩, hr, hp⟩ := Option.bind_eq_some_iff.1 hp
  simp only at hp
  by_cases hc : code = 0
  · subst hc
    rw [if_neg (by simp)] at hp
    obtain ⟨f, hf, hp⟩ := Option.bind_eq_some_iff.1 hp
    obtain ⟨ns, hn0, hp⟩ := Option.bind_eq_some_iff.1 hp
    cases hp
    simp (maxSteps := 2000000) (disch := omega) only [gm, S_dynV, w64_nat, w64_id, nI_add, nI_one, nI_two, nI_sub1, nI_sub, Int.ofNat_lt, Int.ofNat_le, Nat.reduceAdd, Nat.reduceMul, ep_spec_l06Clean, dslM, hr, enc_T2, ep_spec_l06Grow, hf, enc_fo]
    clear hf hr
    refine W_loopK (fun n t h => ∃ (k i : Nat) (acc : List TNode), k = n ∧ k + i = 1001 ∧ acc.length ≤ i ∧ t 7 = .i (.ip [.sl 1 (f.parent.map enc), .sl 1 (f.name.map enc), .sl 2 (f.skipped.map enc)]) ∧ t 8 = .hsl 2 (acc.length * 3) 0 3 true acc.length ∧ t 9 = .i (.s (.int .i64 (i : Int))) ∧ getCells h 2 (acc.length * 3) = some (rows acc) ∧ soutN f k i acc = some ns) 1000 ⟨1000, 1, [], rfl, rfl, Nat.zero_le _, rfl, rfl, rfl, rfl, hn0⟩ ?_
    clear hn0
    rintro K n t h hn hx ⟨k, i, acc, rfl, hki, hai, g7, g8, g9, hO, hI⟩
    cases k with
    | zero =>
      have hc : ¬ (i : Int) ≤ 1000 := by omega
      have hI : some acc = some ns := hI
      cases hI
      simp (maxSteps := 2000000) (disch := omega) only [gm, S_dynV, w64_nat, w64_id, nI_add, nI_one, nI_two, nI_sub1, nI_sub, Int.ofNat_lt, Int.ofNat_le, Nat.reduceAdd, Nat.reduceMul, g7, g8, g9, hc]
      refine hx _ _ _ (by simp) ?_
      simp (maxSteps := 2000000) (disch := omega) only [gm, S_dynV, w64_nat, w64_id, nI_add, nI_one, nI_two, nI_sub1, nI_sub, Int.ofNat_lt, Int.ofNat_le, Nat.reduceAdd, Nat.reduceMul, g7, g8, g9]
      have e0 : (if ns.length = 0 then some (I.sl 3 []) else (getCells h 2 (ns.length * 3)).bind fun cs => (snapA 7 false h (List.take (ns.length * 3) cs)).bind (mkRows 3 true ns.length)) = some (.sl 3 (ns.map enc)) := by
        by_cases h0 : ns.length = 0
        · rw [if_pos h0, List.length_eq_zero_iff.1 h0]; rfl
        · rw [if_neg h0, hO, Option.bind_some, take_rows (by rw [rows_len]; exact Nat.le_refl _), snapA_rowsF, Option.bind_some, mkRows_eq (α := TNode) (z := 3) (ag := true) rfl rfl rfl]
      rw [e0, Option.bind_some, Option.map_some, Option.bind_some]
      exact dec_enc (T3.mk ns f.skipped (0 : Int))
    | succ k =>
      have hc : (i : Int) ≤ 1000 := by omega
      rw [soutN] at hI
      obtain ⟨p, e1, hI⟩ := Option.bind_eq_some_iff.1 hI
      have lO := gc_lt hO
      by_cases hp : p = -2
      · rw [if_pos hp] at hI
        have hp' := decide_eq_true hp
        simp (maxSteps := 2000000) (disch := omega) only [gm, S_dynV, w64_nat, w64_id, nI_add, nI_one, nI_two, nI_sub1, nI_sub, Int.ofNat_lt, Int.ofNat_le, Nat.reduceAdd, Nat.reduceMul, g7, g8, g9, hc, e1, enc_int, hp']
        exact hn _ _ _ (by omega) ⟨k, i + 1, acc, rfl, by omega, by omega, g7, g8, rfl, hO, hI⟩
      · rw [if_neg hp] at hI
        have hp' : decide (p = -2) = false := by simp [hp]
        obtain ⟨nm, e2, hI⟩ := Option.bind_eq_some_iff.1 hI
        have hO2 : ∀ l, getCells (h ++ l) 2 (acc.length * 3) = some (rows acc) := fun l => gc_app hO
        simp (maxSteps := 2000000) (disch := omega) only [gm, S_dynV, w64_nat, w64_id, nI_add, nI_one, nI_two, nI_sub1, nI_sub, Int.ofNat_lt, Int.ofNat_le, Nat.reduceAdd, Nat.reduceMul, g7, g8, g9, hc, e1, e2, enc_int, enc_str, hp', hO2]
        have hl3 : (acc ++ [TNode.mk (i : Int) p nm]).length * 3 = acc.length * 3 + 3 := by rw [List.length_append, List.length_cons, List.length_nil, Nat.add_mul]
        refine hn _ _ _ (by omega) ⟨k, i + 1, acc ++ [⟨(i : Int), p, nm⟩], rfl, by omega, by simp; omega, g7, ?_, rfl, ?_, hI⟩
        · rw [hl3, List.length_append]; rfl
        · rw [hl3, gc_left (by rw [List.length_set]; exact lO)]
          show getCells (List.set h 2 (Slot.cells (rows acc ++ cellsV (TNode.mk (i : Int) p nm)))) 2 (acc.length * 3 + 3) = _
          rw [gc_set_eq lO, rows_append, rows_one, if_pos (by rw [List.length_append, rows_len, cellsV_len]; rfl)]
  · rw [if_pos hc] at hp
    cases hp
    have hc' : decide (code = 0) = false := by simp [hc]
    simp (maxSteps := 2000000) (disch := omega) only [gm, S_dynV, w64_nat, w64_id, nI_add, nI_one, nI_two, nI_sub1, nI_sub, Int.ofNat_lt, Int.ofNat_le, Nat.reduceAdd, Nat.reduceMul, ep_spec_l06Clean, dslM, hr, enc_T2, hc']
end Go.AM
