/- Several texts of the abstract machine in one. No condition. -/
import Derived.Test.YtogokiglmhnjkaaLabPackE
import Derived.Test.YtogokiglmhnjkaaLabPackD
set_option linter.unusedVariables false
set_option linter.unusedSimpArgs false
set_option maxRecDepth 20000
namespace Go.AM
open Pic (enc dec dec_enc dec_sub)
open PicA (encA decA decA_encA decA_sub)

theorem q_specStOK (x : TStamp) : p_spec_StampOK x = some (stOK x) := by
  unfold p_spec_StampOK stOK
  simp only [decide_eq_true_eq]
  repeat' split
  all_goals (simp only [Option.some.injEq]; symm; first | (rw [decide_eq_false_iff_not]; omega) | (apply decide_eq_decide.2; omega))
theorem q_specLess (x y : TMove) : p_spec_StampLess x.id y.id = some (ltM x y) := by
  unfold p_spec_StampLess ltM
  simp only [decide_eq_true_eq]
  repeat' split
  all_goals (simp only [Option.some.injEq]; symm; first | (rw [decide_eq_false_iff_not]; omega) | (rw [decide_eq_true_eq]; omega) | (apply decide_eq_decide.2; omega))
theorem q_specOpOK (x : TMove) : p_spec_l06OpOK x = some (stOK x.id && mvOK x) := by
  unfold p_spec_l06OpOK
  rw [q_specStOK, Option.bind_some]
  cases h : stOK x.id with
  | false => rfl
  | true =>
    rw [if_pos rfl, Bool.true_and]
    unfold mvOK
    simp only [decide_eq_true_eq]
    repeat' split
    all_goals simp only [Option.some.injEq]
    all_goals (symm; first | (rw [decide_eq_false_iff_not]; omega) | (apply decide_eq_decide.2; omega))

theorem d00 : decide ((0 : Int) < 0) = false := rfl

theorem clean0 {t : Nat → V} {P : Program} {env : Env} {Q : Post} {h : Heap} {f_spec_l06OpOK : Nat} (ep_spec_l06OpOK : env (2 * f_spec_l06OpOK) = pureFn true (FA fun a : TMove => p_spec_l06OpOK a))
    {x0 : List TMove} (hlen : x0.length ≤ 2048) (g0 : t 0 = .i (.sl 5 (x0.map enc))) (g4 : t 4 = .i (.s (.int .i64 0)))
    (hQ : ∀ t' h', t' 0 = .i (.sl 5 (x0.map enc)) → x0.all (fun o => stOK o.id && mvOK o) = true → Q (.exit 0) t' h')
    (hR : ∀ t' h' B, t' 2 = .hsl B 0 0 5 true 0 → t' 3 = .i (.s (.int .i64 1)) → x0.all (fun o => stOK o.id && mvOK o) = false → Q .ret t' h') :
    @W P env ⟨(.loop (.seq (.seq (.ops [(qS 13 (.mv (.tmp 4))), (qS 14 (.mv (.tmp 0))), (qS 15 (.len (.tmp 14))), (qS 16 (.pu (.n (.ar .lss)) [(.tmp 13), (.tmp 15)]))]) (.cond (.tmp 16) .skip (.exit 0))) (.seq (.block 1 (.seq (.ops [(qS 19 (.mv (.tmp 0))), (qS 20 (.mv (.tmp 4))), (qS 21 (.idxS 5 (.tmp 19) (.tmp 20))), (qS 22 (.load 5 true (.tmp 21))), (qS 23 (.call (2 * f_spec_l06OpOK) [(.tmp 22)])), (qS 24 (.pu (.n (.un .not)) [(.tmp 23)]))]) (.cond (.tmp 24) (.seq (.ops [(qS 25 (.buildSl 5 true 0 [(.int .i64 0), (.int .i64 0), (.int .i64 0), (.int .i64 0), (.string ⟨#[]⟩)] [])), (qS 2 (.mv (.tmp 25))), (qS 3 (.mv (ic 1)))]) .ret) .skip))) (.ops [(qS 17 (.mv (.tmp 4))), (qS 18 (.pu (.n (.ar .add)) [(.tmp 17), (ic 1)])), (qS 4 (.mv (.tmp 18)))]))))⟩ t h ⟨Q⟩ := by
  refine W_loopK (fun n t h => ∃ i : Nat, n = x0.length - i ∧ i ≤ x0.length ∧ t 0 = .i (.sl 5 (x0.map enc)) ∧ t 4 = .i (.s (.int .i64 (i : Int))) ∧ (x0.take i).all (fun o => stOK o.id && mvOK o) = true) x0.length ⟨0, rfl, Nat.zero_le _, g0, g4, by simp⟩ ?_
  clear g0 g4
  rintro K n t h hn hx ⟨i, rfl, hi, g0, g4, ha⟩
  by_cases hlt : i < x0.length
  · obtain ⟨o, ho⟩ : ∃ o, o = x0[i] := ⟨_, rfl⟩
    have hget : get? x0 (i : Int) = some o := by rw [get_nat, ho]; exact List.getElem?_eq_getElem hlt
    have hspl : x0 = x0.take i ++ o :: x0.drop (i + 1) := by rw [ho, List.getElem_cons_drop, List.take_append_drop]
    have hq := q_specOpOK o
    cases hs : (stOK o.id && mvOK o) with
    | false =>
      rw [hs] at hq
      simp (maxSteps := 2000000) (disch := omega) only [gm, S_dynV, w64_nat, w64_id, nI_add, nI_one, nI_two, nI_sub1, nI_sub, Int.ofNat_lt, Int.ofNat_le, Nat.reduceAdd, Nat.reduceMul, g0, g4, hlt, hget, enc_TMove, ep_spec_l06OpOK, hq]
      refine hx _ _ _ (by simp) (hR _ _ _ rfl rfl ?_)
      rw [hspl, List.all_append, List.all_cons, hs]
      simp
    | true =>
      rw [hs] at hq
      simp (maxSteps := 2000000) (disch := omega) only [gm, S_dynV, w64_nat, w64_id, nI_add, nI_one, nI_two, nI_sub1, nI_sub, Int.ofNat_lt, Int.ofNat_le, Nat.reduceAdd, Nat.reduceMul, g0, g4, hlt, hget, enc_TMove, ep_spec_l06OpOK, hq]
      exact hn _ _ _ (by omega) ⟨i + 1, rfl, by omega, g0, rfl, by rw [List.take_succ_eq_append_getElem hlt, List.all_append, ha, ← ho, Bool.true_and, List.all_cons, hs]; rfl⟩
  · simp (maxSteps := 2000000) (disch := omega) only [gm, S_dynV, w64_nat, w64_id, nI_add, nI_one, nI_two, nI_sub1, nI_sub, Int.ofNat_lt, Int.ofNat_le, Nat.reduceAdd, Nat.reduceMul, g0, g4, hlt]
    refine hx _ _ _ (by simp) (hQ _ _ g0 ?_)
    rw [← ha, List.take_of_length_le (by omega)]

theorem clean4 {t : Nat → V} {P : Program} {env : Env} {Q : Post} {h : Heap} {f_spec_StampLess O : Nat} (ep_spec_StampLess : env (2 * f_spec_StampLess) = pureFn true (FA fun a : TStamp × TStamp => p_spec_StampLess a.1 a.2))
    {x0 out : List TMove} {o : TMove} {i a : Nat} (hlen : out.length ≤ 2048) (hget : get? x0 (i : Int) = some o) (hO : getCells h O (out.length * 5) = some (rows out)) (ha : a ≤ out.length) (g0 : t 0 = .i (.sl 5 (x0.map enc))) (g5 : t 5 = .hsl O (out.length * 5) 0 5 true out.length) (g6 : t 6 = .i (.s (.int .i64 (i : Int)))) (g7 : t 7 = .i (.s (.int .i64 (a : Int))))
    (hQ : ∀ t', t' 0 = .i (.sl 5 (x0.map enc)) → t' 5 = .hsl O (out.length * 5) 0 5 true out.length → t' 6 = .i (.s (.int .i64 (i : Int))) → t' 7 = .i (.s (.int .i64 (posM out o a : Int))) → Q (.exit 4) t' h) :
    @W P env ⟨(.loop (.seq (.seq (.ops [(qS 35 (.mv (.tmp 7))), (qS 36 (.pu (.n (.ar .gtr)) [(.tmp 35), (ic 0)])), (qS 37 (.mv (.tmp 36))), ⟨(.some 38), (.mv (.tmp 0)), (.some (37, true)), [], .none⟩, ⟨(.some 39), (.mv (.tmp 6)), (.some (37, true)), [], .none⟩, ⟨(.some 40), (.idxS 5 (.tmp 38) (.tmp 39)), (.some (37, true)), [], .none⟩, ⟨(.some 41), (.fieldA 0 (.tmp 40)), (.some (37, true)), [], .none⟩, ⟨(.some 42), (.load 2 true (.tmp 41)), (.some (37, true)), [], .none⟩, ⟨(.some 43), (.mv (.tmp 5)), (.some (37, true)), [], .none⟩, ⟨(.some 44), (.mv (.tmp 7)), (.some (37, true)), [], .none⟩, ⟨(.some 45), (.pu (.n (.ar .sub)) [(.tmp 44), (ic 1)]), (.some (37, true)), [], .none⟩, ⟨(.some 46), (.idxS 5 (.tmp 43) (.tmp 45)), (.some (37, true)), [], .none⟩, ⟨(.some 47), (.fieldA 0 (.tmp 46)), (.some (37, true)), [], .none⟩, ⟨(.some 48), (.load 2 true (.tmp 47)), (.some (37, true)), [], .none⟩, ⟨(.some 49), (.call (2 * f_spec_StampLess) [(.tmp 42), (.tmp 48)]), (.some (37, true)), [], .none⟩, (qS 50 (.pick (.tmp 37) (.tmp 49) (.const (.bool false))))]) (.cond (.tmp 50) .skip (.exit 4))) (.block 5 (.ops [(qS 51 (.mv (.tmp 7))), (qS 52 (.pu (.n (.ar .sub)) [(.tmp 51), (ic 1)])), (qS 7 (.mv (.tmp 52)))]))))⟩ t h ⟨Q⟩ := by
  obtain ⟨D, hD⟩ : ∃ D, D = posM out o a := ⟨_, rfl⟩
  rw [← hD] at hQ
  refine W_loopK (fun n t h' => ∃ a : Nat, a = n ∧ h' = h ∧ a ≤ out.length ∧ t 0 = .i (.sl 5 (x0.map enc)) ∧ t 5 = .hsl O (out.length * 5) 0 5 true out.length ∧ t 6 = .i (.s (.int .i64 (i : Int))) ∧ t 7 = .i (.s (.int .i64 (a : Int))) ∧ D = posM out o a) a ⟨a, rfl, rfl, ha, g0, g5, g6, g7, hD⟩ ?_
  clear g0 g5 g6 g7 hD ha
  rintro K n t h' hn hx ⟨a, rfl, rfl, ha, g0, g5, g6, g7, hD⟩
  cases a with
  | zero =>
    simp (maxSteps := 2000000) (disch := omega) only [gm, S_dynV, w64_nat, w64_id, nI_add, nI_one, nI_two, nI_sub1, nI_sub, Int.ofNat_lt, Int.ofNat_le, Nat.reduceAdd, Nat.reduceMul, g0, g5, g6, g7, d00]
    exact hx _ _ _ (by simp) (hQ _ g0 g5 g6 (by rw [hD]; exact g7))
  | succ k =>
    obtain ⟨q, hq⟩ : ∃ q, q = out[k] := ⟨_, rfl⟩
    have hqk : out[k]? = some q := by rw [hq]; exact List.getElem?_eq_getElem _
    have h0 : (0 : Int) < ((k + 1 : Nat) : Int) := by omega
    have x1 := idxH hO (show k < out.length by omega)
    have r1 := ldId hO hqk
    have hl := q_specLess o q
    rw [posM, hqk] at hD
    simp only at hD
    cases hlt : ltM o q with
    | true =>
      rw [hlt] at hl
      rw [if_pos hlt] at hD
      simp (maxSteps := 2000000) (disch := omega) only [gm, S_dynV, w64_nat, w64_id, nI_add, nI_one, nI_two, nI_sub1, nI_sub, Int.ofNat_lt, Int.ofNat_le, Nat.reduceAdd, Nat.reduceMul, g0, g5, g6, g7, h0, hget, enc_TMove, Nat.add_sub_cancel, x1, r1, ep_spec_StampLess, hl]
      exact hn _ _ _ (by omega) ⟨k, rfl, rfl, by omega, g0, g5, g6, rfl, hD⟩
    | false =>
      rw [hlt] at hl
      rw [if_neg (by rw [hlt]; exact Bool.false_ne_true)] at hD
      simp (maxSteps := 2000000) (disch := omega) only [gm, S_dynV, w64_nat, w64_id, nI_add, nI_one, nI_two, nI_sub1, nI_sub, Int.ofNat_lt, Int.ofNat_le, Nat.reduceAdd, Nat.reduceMul, g0, g5, g6, g7, h0, hget, enc_TMove, Nat.add_sub_cancel, x1, r1, ep_spec_StampLess, hl]
      exact hx _ _ _ (by simp) (hQ _ g0 g5 g6 (by rw [hD]; exact g7))

theorem posM_le (out : List TMove) (o : TMove) : ∀ a, posM out o a ≤ a
  | 0 => Nat.le_refl _
  | a + 1 => by
    rw [posM]
    split
    · split
      · exact Nat.le_succ_of_le (posM_le out o a)
      · exact Nat.le_refl _
    · exact Nat.le_refl _

theorem appM {h : Heap} {N m n : Nat} {xs bs : List TMove} (hm : xs.length = m) (hn : bs.length = n) (hg : getCells h N (m * 5) = some (rows xs)) (hl : m + n ≤ 4096) :
    ∃ h', stepAppend none 5 true 48 h (rows bs) n (.hsl N (m * 5) 0 5 true m) = some (.hsl N ((m + n) * 5) 0 5 true (m + n), h') ∧ getCells h' N ((m + n) * 5) = some (rows (xs ++ bs)) ∧ h'.length = h.length ∧ ∀ x, x ≠ N → h'[x]? = h[x]? := by
  rw [app_hsl, if_pos ⟨.inl rfl, rfl⟩, hg, Option.bind_some]
  by_cases h0 : n = 0
  · rw [if_pos h0]
    have hb : bs = [] := List.eq_nil_of_length_eq_zero (hn.trans h0)
    subst hb
    subst h0
    exact ⟨h, rfl, by rw [List.append_nil]; exact hg, rfl, fun _ _ => rfl⟩
  · rw [if_neg h0, if_pos (by omega), if_pos rfl]
    refine ⟨_, by rw [Nat.add_mul], ?_, by simp, fun x hx => List.getElem?_set_ne (Ne.symm hx)⟩
    rw [rows_append]
    exact set_cells hg (by rw [List.length_append, rows_len, rows_len, hm, hn, Nat.add_mul]; rfl)

theorem clean2 {t : Nat → V} {P : Program} {env : Env} {Q : Post} {h : Heap} {f_spec_StampLess O : Nat} (ep_spec_StampLess : env (2 * f_spec_StampLess) = pureFn true (FA fun a : TStamp × TStamp => p_spec_StampLess a.1 a.2))
    {x0 : List TMove} (hlen : x0.length ≤ 2048) (hO : getCells h O 0 = some []) (g0 : t 0 = .i (.sl 5 (x0.map enc))) (g5 : t 5 = .hsl O 0 0 5 true 0) (g6 : t 6 = .i (.s (.int .i64 0)))
    (hQ : ∀ t' h' O out, cleanL x0 [] = some out → t' 5 = .hsl O (out.length * 5) 0 5 true out.length → getCells h' O (out.length * 5) = some (rows out) → Q (.exit 2) t' h')
    (hR : cleanL x0 [] = none → ∀ t' h' B, t' 2 = .hsl B 0 0 5 true 0 → t' 3 = .i (.s (.int .i64 16)) → Q .ret t' h') :
    @W P env ⟨(.loop (.seq (.seq (.ops [(qS 27 (.mv (.tmp 6))), (qS 28 (.mv (.tmp 0))), (qS 29 (.len (.tmp 28))), (qS 30 (.pu (.n (.ar .lss)) [(.tmp 27), (.tmp 29)]))]) (.cond (.tmp 30) .skip (.exit 2))) (.seq (.block 3 (.seq (.ops [(qS 33 (.mv (.tmp 5))), (qS 34 (.len (.tmp 33))), (qS 7 (.mv (.tmp 34)))]) (.seq (.block 4 (.loop (.seq (.seq (.ops [(qS 35 (.mv (.tmp 7))), (qS 36 (.pu (.n (.ar .gtr)) [(.tmp 35), (ic 0)])), (qS 37 (.mv (.tmp 36))), ⟨(.some 38), (.mv (.tmp 0)), (.some (37, true)), [], .none⟩, ⟨(.some 39), (.mv (.tmp 6)), (.some (37, true)), [], .none⟩, ⟨(.some 40), (.idxS 5 (.tmp 38) (.tmp 39)), (.some (37, true)), [], .none⟩, ⟨(.some 41), (.fieldA 0 (.tmp 40)), (.some (37, true)), [], .none⟩, ⟨(.some 42), (.load 2 true (.tmp 41)), (.some (37, true)), [], .none⟩, ⟨(.some 43), (.mv (.tmp 5)), (.some (37, true)), [], .none⟩, ⟨(.some 44), (.mv (.tmp 7)), (.some (37, true)), [], .none⟩, ⟨(.some 45), (.pu (.n (.ar .sub)) [(.tmp 44), (ic 1)]), (.some (37, true)), [], .none⟩, ⟨(.some 46), (.idxS 5 (.tmp 43) (.tmp 45)), (.some (37, true)), [], .none⟩, ⟨(.some 47), (.fieldA 0 (.tmp 46)), (.some (37, true)), [], .none⟩, ⟨(.some 48), (.load 2 true (.tmp 47)), (.some (37, true)), [], .none⟩, ⟨(.some 49), (.call (2 * f_spec_StampLess) [(.tmp 42), (.tmp 48)]), (.some (37, true)), [], .none⟩, (qS 50 (.pick (.tmp 37) (.tmp 49) (.const (.bool false))))]) (.cond (.tmp 50) .skip (.exit 4))) (.block 5 (.ops [(qS 51 (.mv (.tmp 7))), (qS 52 (.pu (.n (.ar .sub)) [(.tmp 51), (ic 1)])), (qS 7 (.mv (.tmp 52)))]))))) (.seq (.seq (.ops [(qS 53 (.mv (.tmp 7))), (qS 54 (.pu (.n (.ar .gtr)) [(.tmp 53), (ic 0)])), (qS 55 (.mv (.tmp 54))), ⟨(.some 56), (.mv (.tmp 5)), (.some (55, true)), [], .none⟩, ⟨(.some 57), (.mv (.tmp 7)), (.some (55, true)), [], .none⟩, ⟨(.some 58), (.pu (.n (.ar .sub)) [(.tmp 57), (ic 1)]), (.some (55, true)), [], .none⟩, ⟨(.some 59), (.idxS 5 (.tmp 56) (.tmp 58)), (.some (55, true)), [], .none⟩, ⟨(.some 60), (.fieldA 0 (.tmp 59)), (.some (55, true)), [], .none⟩, ⟨(.some 61), (.load 2 true (.tmp 60)), (.some (55, true)), [], .none⟩, ⟨(.some 62), (.mv (.tmp 0)), (.some (55, true)), [], .none⟩, ⟨(.some 63), (.mv (.tmp 6)), (.some (55, true)), [], .none⟩, ⟨(.some 64), (.idxS 5 (.tmp 62) (.tmp 63)), (.some (55, true)), [], .none⟩, ⟨(.some 65), (.fieldA 0 (.tmp 64)), (.some (55, true)), [], .none⟩, ⟨(.some 66), (.load 2 true (.tmp 65)), (.some (55, true)), [], .none⟩, ⟨(.some 67), (.aeq false [(.int .i64), (.int .i64)] (.tmp 61) (.tmp 66)), (.some (55, true)), [], .none⟩, (qS 68 (.pick (.tmp 55) (.tmp 67) (.const (.bool false))))]) (.cond (.tmp 68) (.seq (.seq (.ops [(qS 69 (.mv (.tmp 5))), (qS 70 (.mv (.tmp 7))), (qS 71 (.pu (.n (.ar .sub)) [(.tmp 70), (ic 1)])), (qS 72 (.idxS 5 (.tmp 69) (.tmp 71))), (qS 73 (.load 5 true (.tmp 72))), (qS 74 (.mv (.tmp 0))), (qS 75 (.mv (.tmp 6))), (qS 76 (.idxS 5 (.tmp 74) (.tmp 75))), (qS 77 (.load 5 true (.tmp 76))), (qS 78 (.aeq true [(.int .i64), (.int .i64), (.int .i64), (.int .i64), .str] (.tmp 73) (.tmp 77)))]) (.cond (.tmp 78) (.seq (.ops [(qS 79 (.buildSl 5 true 0 [(.int .i64 0), (.int .i64 0), (.int .i64 0), (.int .i64 0), (.string ⟨#[]⟩)] [])), (qS 2 (.mv (.tmp 79))), (qS 3 (.mv (ic 16)))]) .ret) .skip)) (.exit 3)) .skip)) (.seq (.ops [(qS 80 (.mv (.tmp 5))), (qS 81 (.len (.tmp 80))), (qS 82 (.pu (.n (.ar .add)) [(.tmp 81), (ic 1)])), (qS 83 (.makeSl 5 true 48 [(.int .i64 0), (.int .i64 0), (.int .i64 0), (.int .i64 0), (.string ⟨#[]⟩)] (ic 0) (.tmp 82))), (qS 8 (.mv (.tmp 83)))]) (.seq (.ops [(qS 84 (.mv (.tmp 8))), (qS 85 (.mv (.tmp 5))), (qS 86 (.mv (.tmp 7))), (qS 87 (.slice 5 (.tmp 85) .none (.some (.tmp 86)))), (qS 88 (.append 5 true 48 (.tmp 84) (.tmp 87))), (qS 8 (.mv (.tmp 88)))]) (.seq (.ops [(qS 89 (.mv (.tmp 8))), (qS 90 (.mv (.tmp 0))), (qS 91 (.mv (.tmp 6))), (qS 92 (.idxS 5 (.tmp 90) (.tmp 91))), (qS 93 (.load 5 true (.tmp 92))), (qS 94 (.buildSl 5 true 1 [(.int .i64 0), (.int .i64 0), (.int .i64 0), (.int .i64 0), (.string ⟨#[]⟩)] [(0, (.tmp 93))])), (qS 95 (.append 5 true 48 (.tmp 89) (.tmp 94))), (qS 8 (.mv (.tmp 95)))]) (.ops [(qS 96 (.mv (.tmp 8))), (qS 97 (.mv (.tmp 5))), (qS 98 (.mv (.tmp 7))), (qS 99 (.slice 5 (.tmp 97) (.some (.tmp 98)) .none)), (qS 100 (.append 5 true 48 (.tmp 96) (.tmp 99))), (qS 5 (.mv (.tmp 100)))])))))))) (.ops [(qS 31 (.mv (.tmp 6))), (qS 32 (.pu (.n (.ar .add)) [(.tmp 31), (ic 1)])), (qS 6 (.mv (.tmp 32)))]))))⟩ t h ⟨Q⟩ := by
  obtain ⟨D, hD⟩ : ∃ D, D = cleanL x0 [] := ⟨_, rfl⟩
  rw [← hD] at hQ hR
  refine W_loopK (fun n t h => ∃ (i O : Nat) (out : List TMove), n = x0.length - i ∧ i ≤ x0.length ∧ out.length ≤ i ∧ t 0 = .i (.sl 5 (x0.map enc)) ∧ t 5 = .hsl O (out.length * 5) 0 5 true out.length ∧ t 6 = .i (.s (.int .i64 (i : Int))) ∧ getCells h O (out.length * 5) = some (rows out) ∧ D = cleanL (x0.drop i) out) x0.length ⟨0, O, [], rfl, Nat.zero_le _, Nat.le_refl _, g0, g5, g6, hO, hD⟩ ?_
  clear g0 g5 g6 hD hO
  rintro K n t h hn hx ⟨i, O, out, rfl, hi, hoi, g0, g5, g6, hO, hD⟩
  by_cases hlt : i < x0.length
  · obtain ⟨o, ho⟩ : ∃ o, o = x0[i] := ⟨_, rfl⟩
    have hget : get? x0 (i : Int) = some o := by rw [get_nat, ho]; exact List.getElem?_eq_getElem hlt
    have hdr : x0.drop i = o :: x0.drop (i + 1) := by rw [ho, List.getElem_cons_drop]
    rw [hdr, cleanL] at hD
    simp (maxSteps := 2000000) (disch := omega) only [gm, S_dynV, w64_nat, w64_id, nI_add, nI_one, nI_two, nI_sub1, nI_sub, Int.ofNat_lt, Int.ofNat_le, Nat.reduceAdd, Nat.reduceMul, g0, g5, g6, hlt]
    refine clean4 ep_spec_StampLess (a := out.length) (by omega) hget hO (Nat.le_refl _) g0 g5 g6 rfl ?_
    clear g0 g5 g6
    clear t
    intro t g0 g5 g6 g7
    have hle := posM_le out o out.length
    generalize posM out o out.length = a at hD g7 hle
    have rt : List.take (a * 5) (rows out) = rows (out.take a) := by rw [← rows_take]; rfl
    have rd : List.take ((out.length - a) * 5) (List.drop (a * 5) (rows out)) = rows (out.drop a) := by
      rw [show a * 5 = a * Pic.z TMove from rfl, rows_drop]
      exact List.take_of_length_le (by rw [rows_len, List.length_drop]; exact Nat.le_refl _)
    have lO := gc_lt hO
    obtain ⟨h1, e1, c1, l1, k1⟩ := appM (h := h ++ [.cells []]) (N := h.length) (m := 0) (n := a) (xs := []) (bs := out.take a) rfl (by rw [List.length_take]; omega) (by rw [Nat.zero_mul, gc_right0]; rfl) (by omega)
    rw [Nat.zero_add, Nat.zero_mul] at e1
    rw [Nat.zero_add, List.nil_append] at c1
    have cO1 : getCells h1 O (out.length * 5) = some (rows out) := by rw [getCells_congr (k1 O (by omega)), gc_left lO]; exact hO
    have l1' : h1.length = h.length + 1 := by rw [l1]; simp
    obtain ⟨h2, e2, c2, l2, k2⟩ := appM (h := h1 ++ [.cells (cellsV o)]) (N := h.length) (m := a) (n := 1) (xs := out.take a) (bs := [o]) (by rw [List.length_take]; omega) rfl (gc_app c1) (by omega)
    have cO2 : getCells h2 O (out.length * 5) = some (rows out) := by rw [getCells_congr (k2 O (by omega))]; exact gc_app cO1
    obtain ⟨h3, e3, c3, l3, k3⟩ := appM (h := h2) (N := h.length) (m := a + 1) (n := out.length - a) (xs := out.take a ++ [o]) (bs := out.drop a) (by rw [List.length_append, List.length_take, List.length_cons, List.length_nil]; omega) (by rw [List.length_drop]) c2 (by omega)
    rw [rows_one, cellsV_TMove] at e2
    have hfin : D = cleanL (x0.drop (i + 1)) (out.take a ++ o :: out.drop a) → (∀ t', t' 0 = .i (.sl 5 (x0.map enc)) → t' 5 = .hsl h.length ((a + 1 + (out.length - a)) * 5) 0 5 true (a + 1 + (out.length - a)) → t' 6 = .i (.s (.int .i64 ((i + 1 : Nat) : Int))) → K .normal t' h3) := by
      intro hD t' q0 q5 q6
      have hl : (out.take a ++ o :: out.drop a).length = a + 1 + (out.length - a) := by
        rw [List.length_append, List.length_cons, List.length_take, List.length_drop]
        omega
      refine hn _ _ _ (by omega) ⟨i + 1, h.length, out.take a ++ o :: out.drop a, rfl, by omega, by omega, q0, by rw [hl]; exact q5, q6, ?_, hD⟩
      rw [hl]
      rw [List.append_assoc] at c3
      exact c3
    by_cases ha : a = 0
    · have ha' : ¬ (0 : Int) < (a : Int) := by omega
      rw [if_pos ha] at hD
      simp only at hD
      simp (maxSteps := 2000000) (disch := omega) only [gm, S_dynV, w64_nat, w64_id, nI_add, nI_one, nI_two, nI_sub1, nI_sub, Int.ofNat_lt, Int.ofNat_le, Nat.reduceAdd, Nat.reduceMul, g0, g5, g6, g7, ha', hget, hO, cO1, cO2, rt, rd, e1, e2, e3, enc_TMove]
      refine ⟨by omega, by rw [List.length_take]; omega, by rw [List.length_drop], hfin hD _ g0 rfl rfl⟩
    · rw [if_neg ha] at hD
      have ha' : (0 : Int) < (a : Int) := by omega
      obtain ⟨q, hq⟩ : ∃ q, q = out[a - 1]'(by omega) := ⟨_, rfl⟩
      have hqi : out[a - 1]? = some q := by rw [hq]; exact List.getElem?_eq_getElem _
      rw [hqi] at hD
      simp only at hD
      have x2 := idxH hO (show a - 1 < out.length by omega)
      have r2 := ldId hO hqi
      have r3 := ldRow hO hqi
      by_cases he : q.id = o.id
      · rw [if_pos he] at hD
        have he1 : decide (q.id.time = o.id.time) = true := by rw [he]; simp
        have he2 : decide (q.id.actor = o.id.actor) = true := by rw [he]; simp
        have hm3 : (decide (q.node = o.node) && (decide (q.parent = o.parent) && decide (q.name = o.name))) = decide (q = o) := by
          rw [← eq_TMove]
          simp only [eqL, eqV, he1, he2, Bool.true_and, Bool.and_true]
        by_cases hm : q = o
        · rw [if_pos hm] at hD
          rw [decide_eq_true hm] at hm3
          simp (maxSteps := 2000000) (disch := omega) only [gm, S_dynV, w64_nat, w64_id, nI_add, nI_one, nI_two, nI_sub1, nI_sub, Int.ofNat_lt, Int.ofNat_le, Nat.reduceAdd, Nat.reduceMul, g0, g5, g6, g7, ha', hget, enc_TMove, x2, r2, r3, cellsV_TMove, he1, he2, hm3]
          exact hn _ _ _ (by omega) ⟨i + 1, O, out, rfl, by omega, by omega, g0, g5, rfl, hO, hD⟩
        · rw [if_neg hm] at hD
          rw [decide_eq_false hm] at hm3
          simp (maxSteps := 2000000) (disch := omega) only [gm, S_dynV, w64_nat, w64_id, nI_add, nI_one, nI_two, nI_sub1, nI_sub, Int.ofNat_lt, Int.ofNat_le, Nat.reduceAdd, Nat.reduceMul, g0, g5, g6, g7, ha', hget, enc_TMove, x2, r2, r3, cellsV_TMove, he1, he2, hm3]
          exact hx _ _ _ (by simp) (hR hD _ _ _ rfl rfl)
      · rw [if_neg he] at hD
        have hne : (decide (q.id.time = o.id.time) && decide (q.id.actor = o.id.actor)) = false := by
          have e := eq_TStamp (x := q.id) (y := o.id)
          simp only [eqL, eqV, Bool.and_true] at e
          rw [e, decide_eq_false he]
        simp (maxSteps := 2000000) (disch := omega) only [gm, S_dynV, w64_nat, w64_id, nI_add, nI_one, nI_two, nI_sub1, nI_sub, Int.ofNat_lt, Int.ofNat_le, Nat.reduceAdd, Nat.reduceMul, g0, g5, g6, g7, ha', hget, enc_TMove, x2, r2, r3, cellsV_TMove, hne, hO, cO1, cO2, rt, rd, e1, e2, e3]
        refine ⟨by omega, by rw [List.length_take]; omega, by rw [List.length_drop], hfin hD _ g0 rfl rfl⟩
  · simp (maxSteps := 2000000) (disch := omega) only [gm, S_dynV, w64_nat, w64_id, nI_add, nI_one, nI_two, nI_sub1, nI_sub, Int.ofNat_lt, Int.ofNat_le, Nat.reduceAdd, Nat.reduceMul, g0, g5, g6, hlt]
    rw [List.drop_of_length_le (by omega)] at hD
    exact hx _ _ _ (by simp) (hQ _ _ O out hD g5 hO)

def c_spec_l06Clean (f_spec_l06OpOK : Nat) (f_spec_StampLess : Nat) : AFn := ⟨102, (.seq (.ops [(qS 2 (.vnil 5 true)), (qS 3 (.mv (ic 0)))]) (.seq (.seq (.ops [(qS 9 (.mv (.tmp 0))), (qS 10 (.len (.tmp 9))), (qS 11 (.pu (.n (.ar .gtr)) [(.tmp 10), (ic 2048)]))]) (.cond (.tmp 11) (.seq (.ops [(qS 12 (.buildSl 5 true 0 [(.int .i64 0), (.int .i64 0), (.int .i64 0), (.int .i64 0), (.string ⟨#[]⟩)] [])), (qS 2 (.mv (.tmp 12))), (qS 3 (.mv (ic 2)))]) .ret) .skip)) (.seq (.seq (.ops [(qS 4 (.mv (ic 0)))]) (.block 0 (.loop (.seq (.seq (.ops [(qS 13 (.mv (.tmp 4))), (qS 14 (.mv (.tmp 0))), (qS 15 (.len (.tmp 14))), (qS 16 (.pu (.n (.ar .lss)) [(.tmp 13), (.tmp 15)]))]) (.cond (.tmp 16) .skip (.exit 0))) (.seq (.block 1 (.seq (.ops [(qS 19 (.mv (.tmp 0))), (qS 20 (.mv (.tmp 4))), (qS 21 (.idxS 5 (.tmp 19) (.tmp 20))), (qS 22 (.load 5 true (.tmp 21))), (qS 23 (.call (2 * f_spec_l06OpOK) [(.tmp 22)])), (qS 24 (.pu (.n (.un .not)) [(.tmp 23)]))]) (.cond (.tmp 24) (.seq (.ops [(qS 25 (.buildSl 5 true 0 [(.int .i64 0), (.int .i64 0), (.int .i64 0), (.int .i64 0), (.string ⟨#[]⟩)] [])), (qS 2 (.mv (.tmp 25))), (qS 3 (.mv (ic 1)))]) .ret) .skip))) (.ops [(qS 17 (.mv (.tmp 4))), (qS 18 (.pu (.n (.ar .add)) [(.tmp 17), (ic 1)])), (qS 4 (.mv (.tmp 18)))])))))) (.seq (.ops [(qS 26 (.buildSl 5 true 0 [(.int .i64 0), (.int .i64 0), (.int .i64 0), (.int .i64 0), (.string ⟨#[]⟩)] [])), (qS 5 (.mv (.tmp 26)))]) (.seq (.seq (.ops [(qS 6 (.mv (ic 0)))]) (.block 2 (.loop (.seq (.seq (.ops [(qS 27 (.mv (.tmp 6))), (qS 28 (.mv (.tmp 0))), (qS 29 (.len (.tmp 28))), (qS 30 (.pu (.n (.ar .lss)) [(.tmp 27), (.tmp 29)]))]) (.cond (.tmp 30) .skip (.exit 2))) (.seq (.block 3 (.seq (.ops [(qS 33 (.mv (.tmp 5))), (qS 34 (.len (.tmp 33))), (qS 7 (.mv (.tmp 34)))]) (.seq (.block 4 (.loop (.seq (.seq (.ops [(qS 35 (.mv (.tmp 7))), (qS 36 (.pu (.n (.ar .gtr)) [(.tmp 35), (ic 0)])), (qS 37 (.mv (.tmp 36))), ⟨(.some 38), (.mv (.tmp 0)), (.some (37, true)), [], .none⟩, ⟨(.some 39), (.mv (.tmp 6)), (.some (37, true)), [], .none⟩, ⟨(.some 40), (.idxS 5 (.tmp 38) (.tmp 39)), (.some (37, true)), [], .none⟩, ⟨(.some 41), (.fieldA 0 (.tmp 40)), (.some (37, true)), [], .none⟩, ⟨(.some 42), (.load 2 true (.tmp 41)), (.some (37, true)), [], .none⟩, ⟨(.some 43), (.mv (.tmp 5)), (.some (37, true)), [], .none⟩, ⟨(.some 44), (.mv (.tmp 7)), (.some (37, true)), [], .none⟩, ⟨(.some 45), (.pu (.n (.ar .sub)) [(.tmp 44), (ic 1)]), (.some (37, true)), [], .none⟩, ⟨(.some 46), (.idxS 5 (.tmp 43) (.tmp 45)), (.some (37, true)), [], .none⟩, ⟨(.some 47), (.fieldA 0 (.tmp 46)), (.some (37, true)), [], .none⟩, ⟨(.some 48), (.load 2 true (.tmp 47)), (.some (37, true)), [], .none⟩, ⟨(.some 49), (.call (2 * f_spec_StampLess) [(.tmp 42), (.tmp 48)]), (.some (37, true)), [], .none⟩, (qS 50 (.pick (.tmp 37) (.tmp 49) (.const (.bool false))))]) (.cond (.tmp 50) .skip (.exit 4))) (.block 5 (.ops [(qS 51 (.mv (.tmp 7))), (qS 52 (.pu (.n (.ar .sub)) [(.tmp 51), (ic 1)])), (qS 7 (.mv (.tmp 52)))]))))) (.seq (.seq (.ops [(qS 53 (.mv (.tmp 7))), (qS 54 (.pu (.n (.ar .gtr)) [(.tmp 53), (ic 0)])), (qS 55 (.mv (.tmp 54))), ⟨(.some 56), (.mv (.tmp 5)), (.some (55, true)), [], .none⟩, ⟨(.some 57), (.mv (.tmp 7)), (.some (55, true)), [], .none⟩, ⟨(.some 58), (.pu (.n (.ar .sub)) [(.tmp 57), (ic 1)]), (.some (55, true)), [], .none⟩, ⟨(.some 59), (.idxS 5 (.tmp 56) (.tmp 58)), (.some (55, true)), [], .none⟩, ⟨(.some 60), (.fieldA 0 (.tmp 59)), (.some (55, true)), [], .none⟩, ⟨(.some 61), (.load 2 true (.tmp 60)), (.some (55, true)), [], .none⟩, ⟨(.some 62), (.mv (.tmp 0)), (.some (55, true)), [], .none⟩, ⟨(.some 63), (.mv (.tmp 6)), (.some (55, true)), [], .none⟩, ⟨(.some 64), (.idxS 5 (.tmp 62) (.tmp 63)), (.some (55, true)), [], .none⟩, ⟨(.some 65), (.fieldA 0 (.tmp 64)), (.some (55, true)), [], .none⟩, ⟨(.some 66), (.load 2 true (.tmp 65)), (.some (55, true)), [], .none⟩, ⟨(.some 67), (.aeq false [(.int .i64), (.int .i64)] (.tmp 61) (.tmp 66)), (.some (55, true)), [], .none⟩, (qS 68 (.pick (.tmp 55) (.tmp 67) (.const (.bool false))))]) (.cond (.tmp 68) (.seq (.seq (.ops [(qS 69 (.mv (.tmp 5))), (qS 70 (.mv (.tmp 7))), (qS 71 (.pu (.n (.ar .sub)) [(.tmp 70), (ic 1)])), (qS 72 (.idxS 5 (.tmp 69) (.tmp 71))), (qS 73 (.load 5 true (.tmp 72))), (qS 74 (.mv (.tmp 0))), (qS 75 (.mv (.tmp 6))), (qS 76 (.idxS 5 (.tmp 74) (.tmp 75))), (qS 77 (.load 5 true (.tmp 76))), (qS 78 (.aeq true [(.int .i64), (.int .i64), (.int .i64), (.int .i64), .str] (.tmp 73) (.tmp 77)))]) (.cond (.tmp 78) (.seq (.ops [(qS 79 (.buildSl 5 true 0 [(.int .i64 0), (.int .i64 0), (.int .i64 0), (.int .i64 0), (.string ⟨#[]⟩)] [])), (qS 2 (.mv (.tmp 79))), (qS 3 (.mv (ic 16)))]) .ret) .skip)) (.exit 3)) .skip)) (.seq (.ops [(qS 80 (.mv (.tmp 5))), (qS 81 (.len (.tmp 80))), (qS 82 (.pu (.n (.ar .add)) [(.tmp 81), (ic 1)])), (qS 83 (.makeSl 5 true 48 [(.int .i64 0), (.int .i64 0), (.int .i64 0), (.int .i64 0), (.string ⟨#[]⟩)] (ic 0) (.tmp 82))), (qS 8 (.mv (.tmp 83)))]) (.seq (.ops [(qS 84 (.mv (.tmp 8))), (qS 85 (.mv (.tmp 5))), (qS 86 (.mv (.tmp 7))), (qS 87 (.slice 5 (.tmp 85) .none (.some (.tmp 86)))), (qS 88 (.append 5 true 48 (.tmp 84) (.tmp 87))), (qS 8 (.mv (.tmp 88)))]) (.seq (.ops [(qS 89 (.mv (.tmp 8))), (qS 90 (.mv (.tmp 0))), (qS 91 (.mv (.tmp 6))), (qS 92 (.idxS 5 (.tmp 90) (.tmp 91))), (qS 93 (.load 5 true (.tmp 92))), (qS 94 (.buildSl 5 true 1 [(.int .i64 0), (.int .i64 0), (.int .i64 0), (.int .i64 0), (.string ⟨#[]⟩)] [(0, (.tmp 93))])), (qS 95 (.append 5 true 48 (.tmp 89) (.tmp 94))), (qS 8 (.mv (.tmp 95)))]) (.ops [(qS 96 (.mv (.tmp 8))), (qS 97 (.mv (.tmp 5))), (qS 98 (.mv (.tmp 7))), (qS 99 (.slice 5 (.tmp 97) (.some (.tmp 98)) .none)), (qS 100 (.append 5 true 48 (.tmp 96) (.tmp 99))), (qS 5 (.mv (.tmp 100)))])))))))) (.ops [(qS 31 (.mv (.tmp 6))), (qS 32 (.pu (.n (.ar .add)) [(.tmp 31), (ic 1)])), (qS 6 (.mv (.tmp 32)))])))))) (.seq (.ops [(qS 101 (.mv (.tmp 5))), (qS 2 (.mv (.tmp 101))), (qS 3 (.mv (ic 0)))]) .ret)))))), [(.tmp 2), (.tmp 3)]⟩

theorem d_spec_l06Clean {P : Program} {env : Env} {f_spec_l06OpOK f_spec_StampLess : Nat} (ep_spec_l06OpOK : env (2 * f_spec_l06OpOK) = pureFn true (FA fun a : TMove => p_spec_l06OpOK a)) (ep_spec_StampLess : env (2 * f_spec_StampLess) = pureFn true (FA fun a : TStamp × TStamp => p_spec_StampLess a.1 a.2)) (x0 : List TMove) {b : T2 (List TMove) Int} (hp : p_spec_l06Clean x0 = some b) : R P env (c_spec_l06Clean f_spec_l06OpOK f_spec_StampLess) ((encA (x0)).map ofI) [] (Tells true b) := by
  refine R_of (by simp [c_spec_l06Clean, encA]) ?_
  unfold c_spec_l06Clean
  have hp : b = cleanM x0 := (Option.some.inj hp).symm
  subst hp
  unfold cleanM
  by_cases hl : 2048 < x0.length
  · rw [if_pos hl]
    have hl' : (2048 : Int) < (x0.length : Int) := by omega
    simp (maxSteps := 2000000) (disch := omega) only [gm, S_dynV, w64_nat, w64_id, nI_add, nI_one, nI_two, nI_sub1, nI_sub, Int.ofNat_lt, Int.ofNat_le, Nat.reduceAdd, Nat.reduceMul, hl', enc_T2, dec_sl0]
  · rw [if_neg hl]
    have hl' : ¬ (2048 : Int) < (x0.length : Int) := by omega
    simp (maxSteps := 2000000) (disch := omega) only [gm, S_dynV, w64_nat, w64_id, nI_add, nI_one, nI_two, nI_sub1, nI_sub, Int.ofNat_lt, Int.ofNat_le, Nat.reduceAdd, Nat.reduceMul, hl']
    refine clean0 ep_spec_l06OpOK (x0 := x0) (by omega) rfl rfl ?_ ?_
    · intro t h g0 ha
      rw [if_neg (by rw [ha]; simp)]
      simp (maxSteps := 2000000) (disch := omega) only [gm, S_dynV, w64_nat, w64_id, nI_add, nI_one, nI_two, nI_sub1, nI_sub, Int.ofNat_lt, Int.ofNat_le, Nat.reduceAdd, Nat.reduceMul, g0]
      refine clean2 ep_spec_StampLess (x0 := x0) (O := h.length) (by omega) (by rw [gc_right0]; rfl) g0 rfl rfl ?_ ?_
      · intro t h O out hc g5 hO
        rw [hc]
        simp (maxSteps := 2000000) (disch := omega) only [gm, S_dynV, w64_nat, w64_id, nI_add, nI_one, nI_two, nI_sub1, nI_sub, Int.ofNat_lt, Int.ofNat_le, Nat.reduceAdd, Nat.reduceMul, g5]
        by_cases h0 : out.length = 0
        · obtain rfl := List.eq_nil_of_length_eq_zero h0
          rw [if_pos h0]
          rfl
        · rw [if_neg h0, hO, Option.bind_some, take_rows (by rw [rows_len]; exact Nat.le_refl _), snapA_rowsF, Option.bind_some, mkRows_eq (α := TMove) (z := 5) (ag := true) rfl rfl rfl, Option.bind_some, Option.map_some, Option.bind_some, dec_T2, dslM]
          rfl
      · intro hc t h B g2 g3
        rw [hc]
        simp (maxSteps := 2000000) (disch := omega) only [gm, S_dynV, w64_nat, w64_id, nI_add, nI_one, nI_two, nI_sub1, nI_sub, Int.ofNat_lt, Int.ofNat_le, Nat.reduceAdd, Nat.reduceMul, g2, g3, dec_sl0]
    · intro t h B g2 g3 ha
      rw [if_pos ha]
      simp (maxSteps := 2000000) (disch := omega) only [gm, S_dynV, w64_nat, w64_id, nI_add, nI_one, nI_two, nI_sub1, nI_sub, Int.ofNat_lt, Int.ofNat_le, Nat.reduceAdd, Nat.reduceMul, g2, g3, dec_sl0]
end Go.AM

set_option linter.unusedVariables false
set_option linter.unusedSimpArgs false
set_option maxRecDepth 20000
namespace Go.AM
open Pic (enc dec dec_enc dec_sub)
open PicA (encA decA decA_encA decA_sub)
open Go.Sort (bitsLen)
open Go.RowKit (Below)

theorem q_implLess (x y : TMove) : p_impl_StampLess x.id y.id = some (ltM x y) := by
  unfold p_impl_StampLess ltM
  simp only [decide_eq_true_eq]
  repeat' split
  all_goals (simp only [Option.some.injEq]; symm; first | (rw [decide_eq_false_iff_not]; omega) | (rw [decide_eq_true_eq]; omega) | (apply decide_eq_decide.2; omega))
noncomputable def p_impl_readTree_1 (x0 x1 : Int) (x2 : PtrL TMove) : Option Bool := (get? x2.l x0).bind fun x => (get? x2.l x1).bind fun y => p_impl_StampLess x.id y.id
theorem enc_pl {p : PtrL TMove} : enc p = .ip [.sl 5 (p.l.map enc)] := rfl

def c_impl_readTree_1 (f_impl_StampLess : Nat) : AFn := ⟨17, (.seq (.ops [(qS 5 (.mv (.const (.bool false))))]) (.seq (.ops [(qS 6 (.load 1 false (.tmp 2))), (qS 7 (.mv (.tmp 0))), (qS 8 (.idxS 5 (.tmp 6) (.tmp 7))), (qS 9 (.fieldA 0 (.tmp 8))), (qS 10 (.load 2 true (.tmp 9))), (qS 11 (.load 1 false (.tmp 2))), (qS 12 (.mv (.tmp 1))), (qS 13 (.idxS 5 (.tmp 11) (.tmp 12))), (qS 14 (.fieldA 0 (.tmp 13))), (qS 15 (.load 2 true (.tmp 14))), (qS 16 (.call (2 * f_impl_StampLess) [(.tmp 10), (.tmp 15)])), (qS 5 (.mv (.tmp 16)))]) .ret)), [(.tmp 5)]⟩

theorem d_impl_readTree_1 {P : Program} {env : Env} {f_impl_StampLess : Nat} (ep_impl_StampLess : env (2 * f_impl_StampLess) = pureFn true (FA fun a : TStamp × TStamp => p_impl_StampLess a.1 a.2)) (x0 x1 : Int) (x2 : PtrL TMove) {b : Bool} (hp : p_impl_readTree_1 x0 x1 x2 = some b) : R P env (c_impl_readTree_1 f_impl_StampLess) ((encA (x0, x1, x2)).map ofI) [] (Tells true b) := by
  refine R_of (by simp [c_impl_readTree_1, encA]) ?_
  unfold c_impl_readTree_1
  obtain ⟨x, h1, hp⟩ := Option.bind_eq_some_iff.1 hp
  obtain ⟨y, h2, hp⟩ := Option.bind_eq_some_iff.1 hp
  simp (maxSteps := 2000000) (disch := omega) only [gm, S_dynV, w64_nat, w64_id, nI_add, nI_one, nI_two, nI_sub1, nI_sub, Int.ofNat_lt, Int.ofNat_le, Nat.reduceAdd, Nat.reduceMul, enc_pl, h1, h2, enc_TMove, ep_impl_StampLess, hp]

def moveS : Scal TMove where
  encS x := [.int .i64 x.id.time, .int .i64 x.id.actor, .int .i64 x.node, .int .i64 x.parent, .string x.name]
  hE _ := rfl
  hz _ := rfl
  hp _ := rfl
  z0 := by decide

theorem gc_cells {h : Heap} {b g : Nat} {cs : List V} (hg : getCells h b g = some cs) (h0 : 0 < g) : h[b]? = some (.cells cs) := (cellsAt_some (getCells_real hg h0)).1

theorem k_slice_holds {P : Program} {base : Env} {T : Nat → Option AFn} {fI fH fB fC fR fP fE fT fS fD fO fM fA fX fN fW : Nat} {hd : Value} (t : SortT T fI fH fB fC fR fP fE fT fS fD fO fM fA fX fN)
    (kn : ∀ (h : Heap) (l : Nat), l < 4611686018427387904 → base (2 * fN) none [nV l] h = some (uV (1 <<< bitsLen l), h)) (hs : base (2 * fW) = swapFn 5 hd)
    (hless : base (2 * 115) = pureFn true (FA fun a : Int × Int × PtrL TMove => p_impl_readTree_1 a.1 a.2.1 a.2.2)) : k_sort_Slice (sliceFn P base T (c_sort_pdqsort_func fI fH fB fC fR fP fE fT fS) 65 5 fW hd) := by
  intro xs H b c hlen hb hbc hc
  have hc' := gc_cells hc (by omega)
  by_cases h0 : xs.length = 0
  · obtain rfl := List.eq_nil_of_length_eq_zero h0
    exact ⟨H, by simp [sliceFn], hb, keep_refl⟩
  · have hb' := gc_cells hb (by omega)
    obtain ⟨h', e1, e2, e3⟩ := sort_rows (P := P) t kn moveS (gid := 115) (tid := 65) (lt := ltM) hs (b := b) (c := c) (H0 := H) (xs := xs) (fun H A hA hC hsz i j hi hj => by
      have hA' : A.toList.length = xs.length := by simpa using hsz
      have hgA : getCells H b (xs.length * 5) = some (rows A.toList) := by
        unfold getCells
        rw [hA]
        simp only
        rw [if_pos (by rw [rows_len, hA']; rfl)]
      have hgC : getCells H c 1 = some [.hsl b (xs.length * 5) 0 5 true xs.length] := by
        unfold getCells
        rw [hC]
        rfl
      have g1 : get? A.toList (i : Int) = some A[i]! := by
        rw [get_nat, Array.getElem?_toList, Array.getElem?_eq_getElem (by omega), getElem!_pos A i (by omega)]
      have g2 : get? A.toList (j : Int) = some A[j]! := by
        rw [get_nat, Array.getElem?_toList, Array.getElem?_eq_getElem (by omega), getElem!_pos A j (by omega)]
      have hp : p_impl_readTree_1 (i : Int) (j : Int) ⟨A.toList⟩ = some (ltM A[i]! A[j]!) := by
        unfold p_impl_readTree_1
        rw [g1, Option.bind_some, g2, Option.bind_some, q_implLess]
      rw [hless]
      have sn : snapA 9 false H [nV i, nV j, .ptr c 1 0] = some [.s (.int .i64 (i : Int)), .s (.int .i64 (j : Int)), .ip [.sl 5 (A.toList.map enc)]] := by
        have s1 : snap 8 false H (.hsl b (xs.length * 5) 0 5 true xs.length) = some (.sl 5 (A.toList.map enc)) := by
          rw [snap_hsl, if_neg h0, hgA, Option.bind_some, List.drop_zero, take_rows (by rw [rows_len, hA']; exact Nat.le_refl _), snapA_rowsF, Option.bind_some, mkRows_eq (α := TMove) (z := 5) (ag := true) rfl rfl hA'.symm]
        have s2 : snap 9 false H (.ptr c 1 0) = some (.ip [.sl 5 (A.toList.map enc)]) := by
          rw [snap_ptr, hgC, Option.bind_some, if_pos (by simp), List.drop_zero, snapA_cons, s1, snapA_nil]
          rfl
        rw [snapA_cons, snapA_cons, snapA_cons, s2, snapA_nil]
        rfl
      rw [pure_at, if_pos rfl, sn, Option.bind_some, FA_def]
      have hdec : (decA [I.s (.int .i64 (i : Int)), I.s (.int .i64 (j : Int)), I.ip [I.sl 5 (A.toList.map enc)]] : Option (Int × Int × PtrL TMove)) = some ((i : Int), (j : Int), ⟨A.toList⟩) := by
        exact decA_encA ((i : Int), (j : Int), (⟨A.toList⟩ : PtrL TMove))
      rw [hdec, Option.bind_some]
      simp only [hp]
      rfl) hb' hbc hc' hlen
    refine ⟨h', e1, ?_, e3⟩
    unfold getCells
    rw [e2]
    simp only
    rw [if_pos (by rw [rows_len, sortL_len ltM_swo]; rfl)]

/-- Where the sort's functions start from. -/
noncomputable def sortBase (fW z : Nat) (hd : Value) (pu : PEnv) : Env := fun c slot args h => if c = 2 * fW then swapFn z hd slot args h else mkEnv pu [] c slot args h
theorem sortBase_swap {fW z : Nat} {hd : Value} {pu : PEnv} : sortBase fW z hd pu (2 * fW) = swapFn z hd := by
  funext slot args h
  unfold sortBase
  rw [if_pos rfl]
theorem sortBase_at {fW z f : Nat} {hd : Value} {pu : PEnv} (hf : f ≠ fW) : sortBase fW z hd pu (2 * f) = mkEnv pu [] (2 * f) := by
  funext slot args h
  unfold sortBase
  rw [if_neg (by omega)]
theorem sortBase_ok {P : Program} {fW z : Nat} {hd : Value} {pu : PEnv} (hs : FunOK P fW (swapFn z hd)) (hp : ∀ p, p ∈ pu → PureOK P p.1 p.2.1 p.2.2) : EnvOK P (sortBase fW z hd pu) := by
  intro c slot args H v H' h
  unfold sortBase at h
  split at h
  · rename_i hc
    subst hc
    rw [Nat.mul_div_cancel_left fW (by decide)]
    exact hs slot args H v H' h
  · exact mkEnv_ok hp (fun p hp => by cases hp) c slot args H v H' h

/-- nextPowerOfTwo. -/
def nextF : List I → Option I
  | [.s (.int .i64 n)] => if 0 ≤ n ∧ n < 4611686018427387904 then some (.s (.int .u64 ((1 <<< bitsLen n.toNat : Nat) : Int))) else none
  | _ => none
theorem next_ok {P : Program} {f : FuncId} (hcall : callable P f = true) (h : ∀ (n : Nat), n < 4611686018427387904 → ∀ w, Calls P f #[.int .i64 n] w fun e w' => e = .returned (.int .u64 ((1 <<< bitsLen n : Nat) : Int)) ∧ w' = w) : PureOK P f true nextF := by
  refine ⟨hcall, ?_⟩
  intro args r hr Y w xs hY hl
  unfold nextF at hr
  split at hr
  case h_2 => cases hr
  rename_i n
  split at hr
  case isFalse => cases hr
  rename_i hn
  cases hr
  obtain ⟨n, rfl⟩ : ∃ m : Nat, n = (m : Int) := ⟨n.toNat, by omega⟩
  obtain rfl : xs = #[.int .i64 (n : Int)] := by
    apply Array.ext'
    generalize xs.toList = l at hl
    cases hl with
    | cons a b =>
      cases a
      cases b
      rfl
  refine (h n (by omega) w).mono ?_
  rintro e w' ⟨rfl, rfl⟩
  refine ⟨_, rfl, Below.refl _ _, .s rfl⟩
theorem nextF_at {l : Nat} (hl : l < 4611686018427387904) : nextF [.s (.int .i64 (l : Int))] = some (.s (.int .u64 ((1 <<< bitsLen l : Nat) : Int))) := by
  have e : nextF [.s (.int .i64 (l : Int))] = if 0 ≤ (l : Int) ∧ (l : Int) < 4611686018427387904 then some (.s (.int .u64 ((1 <<< bitsLen (l : Int).toNat : Nat) : Int))) else none := rfl
  rw [e, if_pos (by omega), Int.toNat_natCast]
theorem next_at {l : Nat} (hl : l < 4611686018427387904) (h : Heap) : pureFn true nextF none [nV l] h = some (uV (1 <<< bitsLen l), h) := by
  have sn : snapA 9 false h [nV l] = some [.s (.int .i64 (l : Int))] := by
    rw [snapA_cons, snapA_nil, snap_s]
    rfl
  rw [pure_at, if_pos rfl, sn, Option.bind_some, nextF_at hl, Option.map_some, ofI_s]
end Go.AM

set_option linter.unusedVariables false
set_option linter.unusedSimpArgs false
namespace Go.AM

abbrev Rising (l : List TMove) : Prop := l.Pairwise fun x y => ltM x y = true
def Conf (x y : TMove) : Prop := x.id = y.id ∧ x ≠ y

theorem ltM_trans {x y z : TMove} (h1 : ltM x y = true) (h2 : ltM y z = true) : ltM x z = true := ltM_swo.trans x y z h1 h2
theorem ltM_irrefl {x : TMove} : ltM x x = false := ltM_swo.irrefl x
theorem ltM_id {x y : TMove} (h : x.id = y.id) : ltM x y = false := by unfold ltM; rw [h, decide_eq_false_iff_not]; omega
theorem ltM_tri {x y : TMove} (h : x.id ≠ y.id) (h2 : ltM x y = false) : ltM y x = true := by
  unfold ltM at *
  rw [decide_eq_false_iff_not] at h2
  rw [decide_eq_true_eq]
  have : ¬ (x.id.time = y.id.time ∧ x.id.actor = y.id.actor) := by
    rintro ⟨h3, h4⟩
    apply h
    cases hx : x.id with
    | mk a b =>
      cases hy : y.id with
      | mk c d =>
        rw [hx, hy] at h3 h4
        simp only at h3 h4
        rw [h3, h4]
  omega
theorem ltM_asym {x y : TMove} (h : ltM x y = true) : ltM y x = false := by
  cases e : ltM y x with
  | false => rfl
  | true => have := ltM_trans h e; rw [ltM_irrefl] at this; cases this
theorem ltM_le {x y z : TMove} (h1 : ltM x y = true) (h2 : ltM z y = false) : ltM x z = true := by
  unfold ltM at *
  rw [decide_eq_true_eq] at *
  rw [decide_eq_false_iff_not] at h2
  omega

theorem rising_eq : ∀ {l m : List TMove}, Rising l → Rising m → (∀ x, x ∈ l ↔ x ∈ m) → l = m
  | [], [], _, _, _ => rfl
  | [], y :: m, _, _, h => absurd ((h y).2 (by simp)) (by simp)
  | x :: l, [], _, _, h => absurd ((h x).1 (by simp)) (by simp)
  | x :: l, y :: m, hl, hm, h => by
    rw [Rising, List.pairwise_cons] at hl hm
    have hxy : x = y := by
      rcases List.mem_cons.1 ((h x).1 (by simp)) with e | hx
      · exact e
      · rcases List.mem_cons.1 ((h y).2 (by simp)) with e | hy
        · exact e.symm
        · have := ltM_trans (hm.1 x hx) (hl.1 y hy)
          rw [ltM_irrefl] at this
          cases this
    subst hxy
    congr 1
    refine rising_eq hl.2 hm.2 fun z => ⟨fun hz => ?_, fun hz => ?_⟩
    · rcases List.mem_cons.1 ((h z).1 (List.mem_cons_of_mem _ hz)) with e | hz'
      · have := hl.1 z hz; rw [e, ltM_irrefl] at this; cases this
      · exact hz'
    · rcases List.mem_cons.1 ((h z).2 (List.mem_cons_of_mem _ hz)) with e | hz'
      · have := hm.1 z hz; rw [e, ltM_irrefl] at this; cases this
      · exact hz'

theorem rising_conf : ∀ {l : List TMove}, Rising l → ∀ x y, x ∈ l → y ∈ l → ¬ Conf x y
  | [], _, x, y, hx, _, _ => absurd hx (by simp)
  | a :: l, h, x, y, hx, hy, hc => by
    rw [Rising, List.pairwise_cons] at h
    rcases List.mem_cons.1 hx with hx' | hx'
    · rcases List.mem_cons.1 hy with hy' | hy'
      · exact hc.2 (hx'.trans hy'.symm)
      · have := h.1 y hy'; rw [← hx', ltM_id hc.1] at this; cases this
    · rcases List.mem_cons.1 hy with hy' | hy'
      · have := h.1 x hx'; rw [← hy', ltM_id hc.1.symm] at this; cases this
      · exact rising_conf h.2 x y hx' hy' hc

/-- What a clean list is. -/
def Clean (ops : List TMove) (r : Option (List TMove)) : Prop := match r with
  | some l => Rising l ∧ ∀ x, x ∈ l ↔ x ∈ ops
  | none => ∃ x y, x ∈ ops ∧ y ∈ ops ∧ Conf x y
theorem clean_eq {ops : List TMove} {r s : Option (List TMove)} (h1 : Clean ops r) (h2 : Clean ops s) : r = s := by
  cases r with
  | some l =>
    cases s with
    | some m => exact congrArg some (rising_eq h1.1 h2.1 fun x => (h1.2 x).trans (h2.2 x).symm)
    | none =>
      obtain ⟨x, y, hx, hy, hc⟩ := h2
      exact absurd hc (rising_conf h1.1 x y ((h1.2 x).2 hx) ((h1.2 y).2 hy))
  | none =>
    cases s with
    | some m =>
      obtain ⟨x, y, hx, hy, hc⟩ := h1
      exact absurd hc (rising_conf h2.1 x y ((h2.2 x).2 hx) ((h2.2 y).2 hy))
    | none => rfl

/-! ### spec's way -/
theorem posM_spec (out : List TMove) (o : TMove) : ∀ a, a ≤ out.length → (∀ i x, posM out o a ≤ i → i < a → out[i]? = some x → ltM o x = true) ∧ (∀ x, 0 < posM out o a → out[posM out o a - 1]? = some x → ltM o x = false)
  | 0, _ => ⟨fun i x _ h => absurd h (Nat.not_lt_zero _), fun x h => absurd h (Nat.lt_irrefl 0)⟩
  | a + 1, ha => by
    obtain ⟨q, hq⟩ : ∃ q, out[a]? = some q := ⟨_, List.getElem?_eq_getElem (by omega)⟩
    rw [posM, hq]
    simp only
    obtain ⟨h1, h2⟩ := posM_spec out o a (by omega)
    by_cases hlt : ltM o q = true
    · rw [if_pos hlt]
      refine ⟨fun i x hi1 hi2 hx => ?_, h2⟩
      by_cases e : i = a
      · subst e
        rw [hq] at hx
        cases hx
        exact hlt
      · exact h1 i x hi1 (by omega) hx
    · rw [if_neg hlt]
      refine ⟨fun i x hi1 hi2 => absurd hi2 (by omega), fun x _ hx => ?_⟩
      rw [Nat.add_sub_cancel, hq] at hx
      cases hx
      simpa using hlt

theorem ins_rising {out : List TMove} {o : TMove} (hr : Rising out) (hne : ∀ x, 0 < posM out o out.length → out[posM out o out.length - 1]? = some x → x.id ≠ o.id) :
    Rising (out.take (posM out o out.length) ++ o :: out.drop (posM out o out.length)) := by
  obtain ⟨h1, h2⟩ := posM_spec out o out.length (Nat.le_refl _)
  have hle := posM_le out o out.length
  generalize posM out o out.length = a at *
  have hsplit : Rising (out.take a ++ out.drop a) := by rw [List.take_append_drop]; exact hr
  rw [Rising, List.pairwise_append] at hsplit ⊢
  have hgt : ∀ y, y ∈ out.drop a → ltM o y = true := by
    intro y hy
    obtain ⟨i, hi⟩ := List.mem_iff_getElem?.1 hy
    rw [List.getElem?_drop] at hi
    have : a + i < out.length := (List.getElem?_eq_some_iff.1 hi).1
    exact h1 (a + i) y (by omega) this hi
  have hlt : ∀ x, x ∈ out.take a → ltM x o = true := by
    intro x hx
    obtain ⟨i, hi⟩ := List.mem_iff_getElem?.1 hx
    have hia : i < a := by
      have := (List.getElem?_eq_some_iff.1 hi).1
      rw [List.length_take] at this
      omega
    rw [List.getElem?_take_of_lt hia] at hi
    obtain ⟨q, hq⟩ : ∃ q, out[a - 1]? = some q := ⟨_, List.getElem?_eq_getElem (by omega)⟩
    have hqo : ltM q o = true := ltM_tri (fun e => hne q (by omega) hq e.symm) (h2 q (by omega) hq)
    by_cases e : i = a - 1
    · rw [e, hq] at hi
      cases hi
      exact hqo
    · have hxq : ltM x q = true := by
        have hi' := List.getElem?_eq_some_iff.1 hi
        have hq' := List.getElem?_eq_some_iff.1 hq
        rw [← hi'.2, ← hq'.2]
        exact List.pairwise_iff_getElem.1 hr i (a - 1) hi'.1 hq'.1 (by omega)
      exact ltM_trans hxq hqo
  refine ⟨hsplit.1, ?_, ?_⟩
  · rw [List.pairwise_cons]
    exact ⟨hgt, hsplit.2.1⟩
  · intro x hx y hy
    rcases List.mem_cons.1 hy with rfl | hy
    · exact hlt x hx
    · exact hsplit.2.2 x hx y hy

theorem ins_mem {out : List TMove} {o x : TMove} {a : Nat} : x ∈ out.take a ++ o :: out.drop a ↔ x ∈ out ∨ x = o := by
  rw [List.mem_append, List.mem_cons]
  constructor
  · rintro (h | h | h)
    · exact .inl (List.mem_of_mem_take h)
    · exact .inr h
    · exact .inl (List.mem_of_mem_drop h)
  · rintro (h | h)
    · rw [← List.take_append_drop a out, List.mem_append] at h
      rcases h with h | h
      · exact .inl h
      · exact .inr (.inr h)
    · exact .inr (.inl h)

theorem cleanL_clean : ∀ (l out done : List TMove), Rising out → (∀ x, x ∈ out ↔ x ∈ done) → Clean (done ++ l) (cleanL l out)
  | [], out, done, hr, hm => by
    rw [cleanL, List.append_nil]
    exact ⟨hr, hm⟩
  | o :: l, out, done, hr, hm => by
    rw [cleanL]
    have e : done ++ o :: l = (done ++ [o]) ++ l := by simp
    have ins : (∀ x, 0 < posM out o out.length → out[posM out o out.length - 1]? = some x → x.id ≠ o.id) → Clean (done ++ o :: l) (cleanL l (out.take (posM out o out.length) ++ o :: out.drop (posM out o out.length))) := by
      intro hne
      rw [e]
      refine cleanL_clean l _ _ (ins_rising hr hne) fun x => ?_
      rw [ins_mem, List.mem_append, List.mem_singleton, hm]
    by_cases h0 : posM out o out.length = 0
    · rw [if_pos h0]
      exact ins (fun x h => absurd h0 (by omega))
    · rw [if_neg h0]
      have hle := posM_le out o out.length
      obtain ⟨q, hq⟩ : ∃ q, out[posM out o out.length - 1]? = some q := ⟨_, List.getElem?_eq_getElem (by omega)⟩
      rw [hq]
      simp only
      have hqm : q ∈ out := List.mem_of_getElem? hq
      by_cases he : q.id = o.id
      · rw [if_pos he]
        by_cases hqo : q = o
        · rw [if_pos hqo, e]
          refine cleanL_clean l out _ hr fun x => ?_
          rw [List.mem_append, List.mem_singleton, hm]
          constructor
          · exact .inl
          · rintro (h | h)
            · exact h
            · rw [h, ← hqo]; exact (hm q).1 hqm
        · rw [if_neg hqo]
          exact ⟨q, o, List.mem_append_left _ ((hm q).1 hqm), List.mem_append_right _ (by simp), he, hqo⟩
      · rw [if_neg he]
        refine ins fun x _ hx => ?_
        rw [hq] at hx
        cases hx
        exact he

/-! ### impl's way -/
theorem dedM_clean : ∀ (S : List TMove) (p : Option TMove) (acc done : List TMove), (∀ x y, x ∈ done → y ∈ S → ltM y x = false) → (S.Pairwise fun x y => ltM y x = false) → Rising acc → (∀ x, x ∈ acc ↔ x ∈ done) →
    (match p with | none => acc = [] | some q => q ∈ acc ∧ ∀ x, x ∈ acc → x ≠ q → ltM x q = true) → Clean (done ++ S) (dedM p S acc)
  | [], p, acc, done, _, _, hr, hm, _ => by
    rw [List.append_nil]
    cases p <;> exact ⟨hr, hm⟩
  | o :: S, p, acc, done, hd, hs, hr, hm, hp => by
    rw [List.pairwise_cons] at hs
    have e : done ++ o :: S = (done ++ [o]) ++ S := by simp
    have hd' : ∀ x y, x ∈ done ++ [o] → y ∈ S → ltM y x = false := by
      intro x y hx hy
      rcases List.mem_append.1 hx with h | h
      · exact hd x y h (List.mem_cons_of_mem _ hy)
      · rw [List.mem_singleton.1 h]; exact hs.1 y hy
    have app : (∀ x, x ∈ acc → ltM x o = true) → Clean (done ++ o :: S) (dedM (some o) S (acc ++ [o])) := by
      intro hlt
      rw [e]
      refine dedM_clean S (some o) (acc ++ [o]) _ hd' hs.2 ?_ ?_ ⟨by simp, ?_⟩
      · rw [Rising, List.pairwise_append]
        exact ⟨hr, List.pairwise_singleton _ _, fun x hx y hy => by rw [List.mem_singleton.1 hy]; exact hlt x hx⟩
      · intro x; rw [List.mem_append, List.mem_append, hm]
      · intro x hx hne
        rcases List.mem_append.1 hx with h | h
        · exact hlt x h
        · exact absurd (List.mem_singleton.1 h) hne
    cases p with
    | none =>
      have hp : acc = [] := hp
      simp only [dedM]
      exact app (fun x hx => by rw [hp] at hx; cases hx)
    | some q =>
      have hp : q ∈ acc ∧ ∀ x, x ∈ acc → x ≠ q → ltM x q = true := hp
      simp only [dedM]
      have hqd : q ∈ done := (hm q).1 hp.1
      have hoq : ltM o q = false := hd q o hqd (by simp)
      by_cases he : q.id = o.id
      · rw [if_pos he]
        by_cases hqo : q = o
        · rw [if_pos hqo, e]
          refine dedM_clean S (some o) acc _ hd' hs.2 hr ?_ ?_
          · intro x
            rw [List.mem_append, List.mem_singleton, hm]
            constructor
            · exact .inl
            · rintro (h | h)
              · exact h
              · rw [h, ← hqo]; exact hqd
          · rw [← hqo]; exact hp
        · rw [if_neg hqo]
          exact ⟨q, o, List.mem_append_left _ hqd, List.mem_append_right _ (by simp), he, hqo⟩
      · rw [if_neg he]
        have hqo : ltM q o = true := ltM_tri (fun e => he e.symm) hoq
        refine app fun x hx => ?_
        by_cases hxq : x = q
        · rw [hxq]; exact hqo
        · exact ltM_trans (hp.2 x hx hxq) hqo

theorem clean_ded (ops : List TMove) : cleanL ops [] = dedM none (sortL ltM ops) [] := by
  have h1 := cleanL_clean ops [] [] List.Pairwise.nil (fun x => Iff.rfl)
  have h2 := dedM_clean (sortL ltM ops) none [] [] (fun x y h => absurd h (by simp)) (sortL_sorted ltM_swo ops) List.Pairwise.nil (fun x => Iff.rfl) rfl
  rw [List.nil_append] at h1 h2
  have hp := sortL_perm ltM_swo ops
  refine clean_eq h1 ?_
  cases hr : dedM none (sortL ltM ops) [] with
  | some l =>
    rw [hr] at h2
    exact ⟨h2.1, fun x => (h2.2 x).trans hp.mem_iff⟩
  | none =>
    rw [hr] at h2
    obtain ⟨x, y, hx, hy, hc⟩ := h2
    exact ⟨x, y, hp.mem_iff.1 hx, hp.mem_iff.1 hy, hc⟩
end Go.AM
