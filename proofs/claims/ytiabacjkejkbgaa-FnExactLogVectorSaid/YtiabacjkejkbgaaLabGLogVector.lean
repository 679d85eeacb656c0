/- Plain functions of LogVector and their walks. No condition. -/
import Derived.Test.YtiabacjkejkbgaaLabGLogOKb
set_option linter.unusedVariables false
set_option linter.unusedSimpArgs false
set_option maxRecDepth 20000
namespace Go.AM
open Pic (enc dec dec_enc dec_sub)
open PicA (encA decA decA_encA decA_sub)
theorem ofI1_ob {x : Option TBook} : ofI1 (enc x) = .i (enc x) := by cases x <;> rfl
theorem dec_obx {x : Option TBook} : (Pic.dec (Pic.enc x) : Option (Option TBook)) = some x := Pic.dec_enc x
noncomputable def p_spec_LogVector (x0 : List TOp) : Option (T2 TVec Int) :=
  (p_spec_LogOK x0).bind fun v0 =>
  if (v0) = true then
    (p_spec_l08Counts x0).bind fun v2 =>
    some ⟨v2, 0⟩
  else
    some ⟨(TVec.mk ([])), 1⟩
def c_spec_LogVector (f_spec_LogOK : Nat) (f_spec_l08Counts : Nat) : AFn := ⟨10, (.seq (.ops [⟨(.some 2), (.allocV [(1, false)] [(.slice .none 0 0)]), .none, []⟩, ⟨(.some 3), (.mv (.const (.int .i64 0))), .none, []⟩]) (.seq (.seq (.ops [⟨(.some 4), (.mv (.tmp 0)), .none, []⟩, ⟨(.some 5), (.call (2 * f_spec_LogOK) [(.tmp 4)]), .none, []⟩, ⟨(.some 6), (.pu (.n (.un .not)) [(.tmp 5)]), .none, []⟩]) (.cond (.tmp 6) (.seq (.ops [⟨(.some 7), (.build [(.slice .none 0 0)] []), .none, []⟩, ⟨.none, (.storeV [(1, false)] 1 (.tmp 2) (.tmp 7)), .none, []⟩, ⟨(.some 3), (.mv (.const (.int .i64 1))), .none, []⟩]) .ret) .skip)) (.seq (.ops [⟨(.some 8), (.mv (.tmp 0)), .none, []⟩, ⟨(.some 9), (.call (2 * f_spec_l08Counts) [(.tmp 8)]), .none, []⟩, ⟨.none, (.storeV [(1, false)] 1 (.tmp 2) (.tmp 9)), .none, []⟩, ⟨(.some 3), (.mv (.const (.int .i64 0))), .none, []⟩]) .ret))), [(.cell 2 1 true), (.tmp 3)]⟩
set_option maxHeartbeats 10000000 in
theorem d_spec_LogVector {P : Program} {env : Env} {f_spec_LogOK : Nat} {f_spec_l08Counts : Nat}  (ep_spec_LogOK : env (2 * f_spec_LogOK) = pureFn true (FA fun a : List TOp => p_spec_LogOK a)) (ep_spec_l08Counts : env (2 * f_spec_l08Counts) = pureFn true (FA fun a : List TOp => p_spec_l08Counts a)) (x0 : List TOp) {b : T2 TVec Int} (hp : p_spec_LogVector x0 = some b) : R P env (c_spec_LogVector f_spec_LogOK f_spec_l08Counts) ((encA (x0)).map ofI) [] (Tells false b) := by
  refine R_of (by simp [c_spec_LogVector, encA]) ?_
  unfold c_spec_LogVector
  unfold p_spec_LogVector at hp
  obtain ⟨v0, hv0, hp⟩ := bind_eq hp
  by_cases hb1 : (v0) = true
  · rw [if_t hb1] at hp
    obtain ⟨v2, hv2, hp⟩ := bind_eq hp
    have hp := Option.some.inj hp
    subst hp
    simp (maxSteps := 2000000) (disch := first | omega | (simp only [List.length_set, List.length_append, List.length_cons, List.length_nil, rows_len, zs]; first | done | omega)) only [ep_spec_LogOK, ep_spec_l08Counts, hv0, hb1, hv2, gs, reduceIte, reduceCtorEq, Nat.reduceAdd, Nat.reduceMul, Nat.reduceSub, Nat.reduceBEq, Nat.reduceEqDiff, Nat.reduceLeDiff, Nat.reduceLT, Nat.reduceGT, Int.reduceToNat, Int.reduceLT, Int.reduceLE, Int.reduceNeg, Int.reduceAdd, Int.reduceEq, Int.reduceNe, idxA_ptr, idxA_ip, retV_nil, at_app, at_app_set, enc_ob, enc_on, dec_ob, dec_on, ofI_ob, cells_ob, bookC_len, ev_ptr, ofI1_ob, dec_obx]
  · replace hb1 := eq_false_of_ne_true hb1
    rw [if_f hb1] at hp
    have hp := Option.some.inj hp
    subst hp
    simp (maxSteps := 2000000) (disch := first | omega | (simp only [List.length_set, List.length_append, List.length_cons, List.length_nil, rows_len, zs]; first | done | omega)) only [ep_spec_LogOK, ep_spec_l08Counts, hv0, hb1, gs, reduceIte, reduceCtorEq, Nat.reduceAdd, Nat.reduceMul, Nat.reduceSub, Nat.reduceBEq, Nat.reduceEqDiff, Nat.reduceLeDiff, Nat.reduceLT, Nat.reduceGT, Int.reduceToNat, Int.reduceLT, Int.reduceLE, Int.reduceNeg, Int.reduceAdd, Int.reduceEq, Int.reduceNe, idxA_ptr, idxA_ip, retV_nil, at_app, at_app_set, enc_ob, enc_on, dec_ob, dec_on, ofI_ob, cells_ob, bookC_len, ev_ptr, ofI1_ob, dec_obx]

noncomputable def p_impl_book_vector_l0 (x0 : Option TBook) : List Int × Int → Option (Lp (List Int × Int) TVec)
  | (s1, s2) =>
    if (decide (s2 < 16)) = true then
      (x0).bind fun v4 =>
      (get? v4.of_ s2).bind fun v5 =>
      (get? s1 s2).bind fun v7 =>
      some (.go ((s1.set s2.toNat (v5.length : Int)), w64 (s2 + 1)))
    else
      some (.out (s1, s2))
noncomputable def p_impl_book_vector (x0 : Option TBook) : Option TVec :=
  ((mkL 16 8 16 0 : Option (List Int))).bind fun v0 =>
  (loopP (p_impl_book_vector_l0 x0) (v0, 0)).bind fun ee0 => match ee0 with
  | .ret r => some r
  | .out (o9, o10) =>
    some (TVec.mk o9)
def c_impl_book_vector : AFn := ⟨22, (.seq (.ops [⟨(.some 2), (.allocV [(1, false)] [(.slice .none 0 0)]), .none, []⟩]) (.seq (.ops [⟨(.some 5), (.makeSl 1 false 8 [(.int .i64 0)] (.const (.int .i64 16)) (.const (.int .i64 16))), .none, []⟩, ⟨(.some 3), (.mv (.tmp 5)), .none, []⟩]) (.seq (.seq (.ops [⟨(.some 6), (.mv (.const (.int .i64 0))), .none, []⟩]) (.block 0 (.loop (.seq (.ops [⟨(.some 7), (.pu (.n (.ar .lss)) [(.tmp 6), (.const (.int .i64 16))]), .none, []⟩]) (.seq (.cond (.tmp 7) .skip (.exit 0)) (.seq (.block 1 (.seq (.ops [⟨(.some 8), (.mv (.tmp 6)), .none, []⟩, ⟨(.some 4), (.mv (.tmp 8)), .none, []⟩]) (.ops [⟨(.some 9), (.mv (.tmp 3)), .none, []⟩, ⟨(.some 10), (.mv (.tmp 4)), .none, []⟩, ⟨(.some 11), (.mv (.tmp 0)), .none, []⟩, ⟨(.some 12), (.mv (.tmp 4)), .none, []⟩, ⟨(.some 13), (.nilChk (.tmp 11)), .none, []⟩, ⟨(.some 14), (.fieldA 0 (.tmp 13)), .none, []⟩, ⟨(.some 15), (.idxA 16 1 (.tmp 14) (.tmp 12)), .none, []⟩, ⟨(.some 16), (.load 1 false (.tmp 15)), .none, []⟩, ⟨(.some 17), (.len (.tmp 16)), .none, []⟩, ⟨(.some 18), (.idxS 1 (.tmp 9) (.tmp 10)), .none, []⟩, ⟨.none, (.storeV [(0, false)] 1 (.tmp 18) (.tmp 17)), .none, []⟩]))) (.ops [⟨(.some 19), (.pu (.n (.ar .add)) [(.tmp 6), (.const (.int .i64 1))]), .none, []⟩, ⟨(.some 6), (.mv (.tmp 19)), .none, []⟩]))))))) (.seq (.ops [⟨(.some 20), (.mv (.tmp 3)), .none, []⟩, ⟨(.some 21), (.build [(.slice .none 0 0)] [(0, (1, (.tmp 20)))]), .none, []⟩, ⟨.none, (.storeV [(1, false)] 1 (.tmp 2) (.tmp 21)), .none, []⟩]) .ret)))), [(.cell 2 1 true)]⟩
def o_impl_book_vector (b : TVec) (v : V) (h : Heap) : Prop := ∃ n0 : Nat, v = .agg [.hsl n0 b.counts.length 0 1 false b.counts.length] ∧ getCells h n0 b.counts.length = some (rows b.counts)
def oo_impl_book_vector (b : TVec) (h : Heap) (v : V) (h2 : Heap) : Prop := Keep [] h h2 ∧ ∃ n0 : Nat, v = .agg [.hsl n0 b.counts.length 0 1 false b.counts.length] ∧ n0 < h2.length ∧ h.length ≤ n0 ∧ getCells h2 n0 b.counts.length = some (rows b.counts)
def k_impl_book_vector (F : Fun) : Prop := ∀ (x0 : Option TBook) (b : TVec), p_impl_book_vector x0 = some b → ∀ (h : Heap) (args : List V), snapA 9 false h args = some (encA (x0)) → ∃ p, F none args h = some p ∧ oo_impl_book_vector b h p.1 p.2
set_option maxHeartbeats 10000000 in
theorem w_impl_book_vector {P : Program} {env : Env}  (x0 : Option TBook) {b : TVec} (hp : p_impl_book_vector x0 = some b) : R P env (c_impl_book_vector) ((encA (x0)).map ofI) [] (o_impl_book_vector b) := by
  refine R_of (by simp [c_impl_book_vector, encA]) ?_
  unfold c_impl_book_vector
  unfold p_impl_book_vector at hp
  obtain ⟨v0, hv0, hp⟩ := bind_eq hp
  obtain ⟨kv0, qv0, lv0⟩ := mkL_some hv0
  have rv0 : [.i (.s (.int .i64 0)), .i (.s (.int .i64 0)), .i (.s (.int .i64 0)), .i (.s (.int .i64 0)), .i (.s (.int .i64 0)), .i (.s (.int .i64 0)), .i (.s (.int .i64 0)), .i (.s (.int .i64 0)), .i (.s (.int .i64 0)), .i (.s (.int .i64 0)), .i (.s (.int .i64 0)), .i (.s (.int .i64 0)), .i (.s (.int .i64 0)), .i (.s (.int .i64 0)), .i (.s (.int .i64 0)), .i (.s (.int .i64 0))] = rows v0 := by rw [qv0]; rfl
  have mv0 : 16 = v0.length := by rw [lv0]; simp
  obtain ⟨ee0, hee0, hp⟩ := bind_eq hp
  simp (maxSteps := 2000000) (disch := first | omega | (simp only [List.length_set, List.length_append, List.length_cons, List.length_nil, rows_len, zs]; first | done | omega)) only [hv0, rv0, kv0.1, kv0.2.1, kv0.2.2.1, kv0.2.2.2, gs, reduceIte, reduceCtorEq, Nat.reduceAdd, Nat.reduceMul, Nat.reduceSub, Nat.reduceBEq, Nat.reduceEqDiff, Nat.reduceLeDiff, Nat.reduceLT, Nat.reduceGT, Int.reduceToNat, Int.reduceLT, Int.reduceLE, Int.reduceNeg, Int.reduceAdd, Int.reduceEq, Int.reduceNe, idxA_ptr, idxA_ip, retV_nil, at_app, at_app_set, enc_ob, enc_on, dec_ob, dec_on, ofI_ob, cells_ob, bookC_len, ev_ptr, ofI1_ob, dec_obx]
  refine W_loopP 0 (fun s t h => match s with | (s1, s2) => t 0 = .i (enc (x0 : Option TBook)) ∧ t 2 = .ptr 1 1 0 ∧ t 3 = .hsl 2 16 0 1 false 16 ∧ t 6 = .i (.s (.int .i64 s2)) ∧ getCells h 0 0 = some (rows ([] : List Int)) ∧ 0 < h.length ∧ getCells h 1 1 = some [.hsl 0 0 0 1 false 0] ∧ 1 < h.length ∧ getCells h 2 16 = some (rows (s1 : List Int)) ∧ 2 < h.length) (RK [.cell 2 1 true] (o_impl_book_vector)) ?_ hee0 ?_ ?_
  · rintro ⟨s1, s2⟩ ee tt0 hh0 ⟨ftt0_0, ftt0_1, ftt0_2, ftt0_3, ftt0_4, ftt0_5, ftt0_6, ftt0_7, ftt0_8, ftt0_9⟩ hp
    have ztt0_4 := len_rows ftt0_4
    simp only [zs] at ztt0_4
    have ztt0_8 := len_rows ftt0_8
    simp only [zs] at ztt0_8
    rw [p_impl_book_vector_l0] at hp
    by_cases hb3 : (decide (s2 < 16)) = true
    · rw [if_t hb3] at hp
      obtain ⟨v4, hv4, hp⟩ := bind_eq hp
      obtain ⟨v5, hv5, hp⟩ := bind_eq hp
      have gv5 := get_some hv5
      have bv5 : s2 < 16 := by have := gv5.2.1; have := (v4).h1; omega
      have hk6 := ip_of hv5
      have hk6l : 1 ≤ _ := ip_len0 (k := v4) (i := s2) (by have := gv5.2.1; have := (v4).h1; omega)
      obtain ⟨v7, hv7, hp⟩ := bind_eq hp
      have gv7 := get_some hv7
      have hs8 : List.take s2.toNat (rows s1) ++ .i (.s (.int .i64 (v5.length : Int))) :: List.drop (s2.toNat + 1) (rows s1) = rows (s1.set s2.toNat (v5.length : Int)) := by simpa [splice, zs, cellsV, I.cells, enc_int] using rows_set_off (y := (v5.length : Int)) (ys := [.i (.s (.int .i64 (v5.length : Int)))]) (k := 0) gv7.2.2 (Nat.le_of_ble_eq_true rfl) (by rfl)
      have hp := Option.some.inj hp
      subst hp
      simp (maxSteps := 2000000) (disch := first | omega | (simp only [List.length_set, List.length_append, List.length_cons, List.length_nil, rows_len, zs]; first | done | omega)) only [hv0, rv0, kv0.1, kv0.2.1, kv0.2.2.1, kv0.2.2.2, ftt0_0, ftt0_1, ftt0_2, ftt0_3, ftt0_4, ftt0_5, ftt0_6, ftt0_7, ftt0_8, ftt0_9, hb3, hv4, hv5, (gv5).1, bv5, hk6, hk6l, hv7, (gv7).1, (gv7).2.1, hs8, gs, reduceIte, reduceCtorEq, Nat.reduceAdd, Nat.reduceMul, Nat.reduceSub, Nat.reduceBEq, Nat.reduceEqDiff, Nat.reduceLeDiff, Nat.reduceLT, Nat.reduceGT, Int.reduceToNat, Int.reduceLT, Int.reduceLE, Int.reduceNeg, Int.reduceAdd, Int.reduceEq, Int.reduceNe, idxA_ptr, idxA_ip, retV_nil, at_app, at_app_set, enc_ob, enc_on, dec_ob, dec_on, ofI_ob, cells_ob, bookC_len, ev_ptr, ofI1_ob, dec_obx] <;> omega
    · replace hb3 := eq_false_of_ne_true hb3
      rw [if_f hb3] at hp
      have hp := Option.some.inj hp
      subst hp
      simp (maxSteps := 2000000) (disch := first | omega | (simp only [List.length_set, List.length_append, List.length_cons, List.length_nil, rows_len, zs]; first | done | omega)) only [hv0, rv0, kv0.1, kv0.2.1, kv0.2.2.1, kv0.2.2.2, ftt0_0, ftt0_1, ftt0_2, ftt0_3, ftt0_4, ftt0_5, ftt0_6, ftt0_7, ftt0_8, ftt0_9, hb3, gs, reduceIte, reduceCtorEq, Nat.reduceAdd, Nat.reduceMul, Nat.reduceSub, Nat.reduceBEq, Nat.reduceEqDiff, Nat.reduceLeDiff, Nat.reduceLT, Nat.reduceGT, Int.reduceToNat, Int.reduceLT, Int.reduceLE, Int.reduceNeg, Int.reduceAdd, Int.reduceEq, Int.reduceNe, idxA_ptr, idxA_ip, retV_nil, at_app, at_app_set, enc_ob, enc_on, dec_ob, dec_on, ofI_ob, cells_ob, bookC_len, ev_ptr, ofI1_ob, dec_obx] <;> omega
  · simp (maxSteps := 2000000) (disch := first | omega | (simp only [List.length_set, List.length_append, List.length_cons, List.length_nil, rows_len, zs]; first | done | omega)) only [hv0, rv0, kv0.1, kv0.2.1, kv0.2.2.1, kv0.2.2.2, gs, reduceIte, reduceCtorEq, Nat.reduceAdd, Nat.reduceMul, Nat.reduceSub, Nat.reduceBEq, Nat.reduceEqDiff, Nat.reduceLeDiff, Nat.reduceLT, Nat.reduceGT, Int.reduceToNat, Int.reduceLT, Int.reduceLE, Int.reduceNeg, Int.reduceAdd, Int.reduceEq, Int.reduceNe, idxA_ptr, idxA_ip, retV_nil, at_app, at_app_set, enc_ob, enc_on, dec_ob, dec_on, ofI_ob, cells_ob, bookC_len, ev_ptr, ofI1_ob, dec_obx] <;> omega
  · intro x tt1 hh1 hx
    rcases ee0 with ⟨o9, o10⟩ | r
    · obtain ⟨rfl, ftt1_0, ftt1_1, ftt1_2, ftt1_3, ftt1_4, ftt1_5, ftt1_6, ftt1_7, ftt1_8, ftt1_9⟩ := hx
      have ztt1_4 := len_rows ftt1_4
      simp only [zs] at ztt1_4
      have ztt1_8 := len_rows ftt1_8
      simp only [zs] at ztt1_8
      dsimp only at hp
      have hp := Option.some.inj hp
      subst hp
      simp (maxSteps := 2000000) (disch := first | omega | (simp only [List.length_set, List.length_append, List.length_cons, List.length_nil, rows_len, zs]; first | done | omega)) only [hv0, rv0, kv0.1, kv0.2.1, kv0.2.2.1, kv0.2.2.2, ftt1_0, ftt1_1, ftt1_2, ftt1_3, ftt1_4, ftt1_5, ftt1_6, ftt1_7, ftt1_8, ftt1_9, gs, reduceIte, reduceCtorEq, Nat.reduceAdd, Nat.reduceMul, Nat.reduceSub, Nat.reduceBEq, Nat.reduceEqDiff, Nat.reduceLeDiff, Nat.reduceLT, Nat.reduceGT, Int.reduceToNat, Int.reduceLT, Int.reduceLE, Int.reduceNeg, Int.reduceAdd, Int.reduceEq, Int.reduceNe, idxA_ptr, idxA_ip, retV_nil, at_app, at_app_set, enc_ob, enc_on, dec_ob, dec_on, ofI_ob, cells_ob, bookC_len, ev_ptr, ofI1_ob, dec_obx]
      refine ⟨2, ?_⟩
      simp (maxSteps := 2000000) (disch := first | omega | (simp only [List.length_set, List.length_append, List.length_cons, List.length_nil, rows_len, zs]; first | done | omega)) only [hv0, rv0, kv0.1, kv0.2.1, kv0.2.2.1, kv0.2.2.2, ftt1_0, ftt1_1, ftt1_2, ftt1_3, ftt1_4, ftt1_5, ftt1_6, ftt1_7, ftt1_8, ftt1_9, o_impl_book_vector, (show (o9).length = 16 from by first | omega | rfl), gs, reduceIte, reduceCtorEq, Nat.reduceAdd, Nat.reduceMul, Nat.reduceSub, Nat.reduceBEq, Nat.reduceEqDiff, Nat.reduceLeDiff, Nat.reduceLT, Nat.reduceGT, Int.reduceToNat, Int.reduceLT, Int.reduceLE, Int.reduceNeg, Int.reduceAdd, Int.reduceEq, Int.reduceNe, idxA_ptr, idxA_ip, retV_nil, at_app, at_app_set, enc_ob, enc_on, dec_ob, dec_on, ofI_ob, cells_ob, bookC_len, ev_ptr, ofI1_ob, dec_obx] <;> omega
    · obtain ⟨rfl, hx⟩ := hx
      dsimp only at hp
      cases hp
      simp only [seqK_ret, blockK_ret, retK_RK (K := o_impl_book_vector), hx, and_self, true_and]
theorem ko_impl_book_vector {P : Program} {env : Env}  : k_impl_book_vector (ownFn P env (c_impl_book_vector)) := by
  intro x0 b hp h args has
  obtain ⟨⟨v, H2⟩, hr, n0, rfl, wn0⟩ := w_impl_book_vector x0 hp
  exact ⟨_, own_call has hr rfl, keep_moved, n0 + h.length, rfl, (moved_lt wn0).2, (moved_lt wn0).1, moved_rows wn0⟩

noncomputable def p_impl_LogVector (x0 : List TOp) : Option (T2 TVec Int) :=
  (p_impl_readBook x0).bind fun v0 =>
  if (v0.b) = true then
    (p_impl_book_vector v0.a).bind fun v2 =>
    some ⟨v2, 0⟩
  else
    some ⟨(TVec.mk ([])), 1⟩
def c_impl_LogVector (f_impl_readBook : Nat) (f_impl_book_vector : Nat) : AFn := ⟨16, (.seq (.ops [⟨(.some 2), (.allocV [(1, false)] [(.slice .none 0 0)]), .none, []⟩, ⟨(.some 3), (.mv (.const (.int .i64 0))), .none, []⟩]) (.seq (.ops [⟨(.some 7), (.mv (.tmp 0)), .none, []⟩, ⟨(.some 8), (.call (2 * f_impl_readBook) [(.tmp 7)]), .none, []⟩, ⟨(.some 6), (.mv (.tmp 8)), .none, []⟩, ⟨(.some 9), (.extract 0 (.tmp 6)), .none, []⟩, ⟨(.some 10), (.extract 1 (.tmp 6)), .none, []⟩, ⟨(.some 4), (.mv (.tmp 9)), .none, []⟩, ⟨(.some 5), (.mv (.tmp 10)), .none, []⟩]) (.seq (.seq (.ops [⟨(.some 11), (.mv (.tmp 5)), .none, []⟩, ⟨(.some 12), (.pu (.n (.un .not)) [(.tmp 11)]), .none, []⟩]) (.cond (.tmp 12) (.seq (.ops [⟨(.some 13), (.build [(.slice .none 0 0)] []), .none, []⟩, ⟨.none, (.storeV [(1, false)] 1 (.tmp 2) (.tmp 13)), .none, []⟩, ⟨(.some 3), (.mv (.const (.int .i64 1))), .none, []⟩]) .ret) .skip)) (.seq (.ops [⟨(.some 14), (.mv (.tmp 4)), .none, []⟩, ⟨(.some 15), (.call (2 * f_impl_book_vector + 1) [(.tmp 14)]), .none, []⟩, ⟨.none, (.storeV [(1, false)] 1 (.tmp 2) (.tmp 15)), .none, []⟩, ⟨(.some 3), (.mv (.const (.int .i64 0))), .none, []⟩]) .ret)))), [(.cell 2 1 true), (.tmp 3)]⟩
def o_impl_LogVector (b : T2 TVec Int) (v : V) (h : Heap) : Prop := ∃ n0 : Nat, v = .tup [.agg [.hsl n0 b.a.counts.length 0 1 false b.a.counts.length], .i (.s (.int .i64 b.b))] ∧ getCells h n0 b.a.counts.length = some (rows b.a.counts)
def oo_impl_LogVector (b : T2 TVec Int) (h : Heap) (v : V) (h2 : Heap) : Prop := Keep [] h h2 ∧ ∃ n0 : Nat, v = .tup [.agg [.hsl n0 b.a.counts.length 0 1 false b.a.counts.length], .i (.s (.int .i64 b.b))] ∧ n0 < h2.length ∧ h.length ≤ n0 ∧ getCells h2 n0 b.a.counts.length = some (rows b.a.counts)
def k_impl_LogVector (F : Fun) : Prop := ∀ (x0 : List TOp) (b : T2 TVec Int), p_impl_LogVector x0 = some b → ∀ (h : Heap) (args : List V), snapA 9 false h args = some (encA (x0)) → ∃ p, F none args h = some p ∧ oo_impl_LogVector b h p.1 p.2
set_option maxHeartbeats 10000000 in
theorem w_impl_LogVector {P : Program} {env : Env} {f_impl_readBook : Nat} {f_impl_book_vector : Nat}  (ep_impl_readBook : env (2 * f_impl_readBook) = pureFn false (FA fun a : List TOp => p_impl_readBook a)) (e_impl_book_vector : k_impl_book_vector (env (2 * f_impl_book_vector + 1))) (x0 : List TOp) {b : T2 TVec Int} (hp : p_impl_LogVector x0 = some b) : R P env (c_impl_LogVector f_impl_readBook f_impl_book_vector) ((encA (x0)).map ofI) [] (o_impl_LogVector b) := by
  refine R_of (by simp [c_impl_LogVector, encA]) ?_
  unfold c_impl_LogVector
  unfold p_impl_LogVector at hp
  obtain ⟨v0, hv0, hp⟩ := bind_eq hp
  by_cases hb1 : (v0.b) = true
  · rw [if_t hb1] at hp
    obtain ⟨v2, hv2, hp⟩ := bind_eq hp
    simp (maxSteps := 2000000) (disch := first | omega | (simp only [List.length_set, List.length_append, List.length_cons, List.length_nil, rows_len, zs]; first | done | omega)) only [ep_impl_readBook, hv0, hb1, gs, reduceIte, reduceCtorEq, Nat.reduceAdd, Nat.reduceMul, Nat.reduceSub, Nat.reduceBEq, Nat.reduceEqDiff, Nat.reduceLeDiff, Nat.reduceLT, Nat.reduceGT, Int.reduceToNat, Int.reduceLT, Int.reduceLE, Int.reduceNeg, Int.reduceAdd, Int.reduceEq, Int.reduceNe, idxA_ptr, idxA_ip, retV_nil, at_app, at_app_set, enc_ob, enc_on, dec_ob, dec_on, ofI_ob, cells_ob, bookC_len, ev_ptr, ofI1_ob, dec_obx]
    refine call_f (fun h => getCells h 0 0 = some [] ∧ 0 < h.length ∧ getCells h 1 1 = some [.hsl 0 0 0 1 false 0] ∧ 1 < h.length) (fun h v h2 => oo_impl_book_vector v2 h v h2) ?_ ?_ ?_
    · simp (maxSteps := 2000000) (disch := first | omega | (simp only [List.length_set, List.length_append, List.length_cons, List.length_nil, rows_len, zs]; first | done | omega)) only [ep_impl_readBook, hv0, hb1, hv2, gs, reduceIte, reduceCtorEq, Nat.reduceAdd, Nat.reduceMul, Nat.reduceSub, Nat.reduceBEq, Nat.reduceEqDiff, Nat.reduceLeDiff, Nat.reduceLT, Nat.reduceGT, Int.reduceToNat, Int.reduceLT, Int.reduceLE, Int.reduceNeg, Int.reduceAdd, Int.reduceEq, Int.reduceNe, idxA_ptr, idxA_ip, retV_nil, at_app, at_app_set, enc_ob, enc_on, dec_ob, dec_on, ofI_ob, cells_ob, bookC_len, ev_ptr, ofI1_ob, dec_obx] <;> omega
    · rintro h ⟨c0_0, c0_1, c0_2, c0_3⟩
      exact e_impl_book_vector _ _ hv2 h _ (by simp (maxSteps := 2000000) (disch := first | omega | (simp only [List.length_set, List.length_append, List.length_cons, List.length_nil, rows_len, zs]; first | done | omega)) only [ep_impl_readBook, hv0, hb1, hv2, c0_0, c0_1, c0_2, c0_3, gs, reduceIte, reduceCtorEq, Nat.reduceAdd, Nat.reduceMul, Nat.reduceSub, Nat.reduceBEq, Nat.reduceEqDiff, Nat.reduceLeDiff, Nat.reduceLT, Nat.reduceGT, Int.reduceToNat, Int.reduceLT, Int.reduceLE, Int.reduceNeg, Int.reduceAdd, Int.reduceEq, Int.reduceNe, idxA_ptr, idxA_ip, retV_nil, at_app, at_app_set, enc_ob, enc_on, dec_ob, dec_on, ofI_ob, cells_ob, bookC_len, ev_ptr, ofI1_ob, dec_obx])
    · rintro hc0 v hh0 ⟨c0_0, c0_1, c0_2, c0_3⟩ hpost
      obtain ⟨kk0, nb0_0, rfl, lnb0_0, gnb0_0, wnb0_0⟩ := hpost
      have d0_0 : getCells hh0 0 0 = some [] := (keep_get kk0 c0_1 (by first | (simp; done) | (simp; omega))).trans c0_0
      have d0_0l := keep_lt kk0 c0_1
      have d0_1 : getCells hh0 1 1 = some [.hsl 0 0 0 1 false 0] := (keep_get kk0 c0_3 (by first | (simp; done) | (simp; omega))).trans c0_2
      have d0_1l := keep_lt kk0 c0_3
      have d0_2 := wnb0_0
      have hp := Option.some.inj hp
      subst hp
      simp (maxSteps := 2000000) (disch := first | omega | (simp only [List.length_set, List.length_append, List.length_cons, List.length_nil, rows_len, zs]; first | done | omega)) only [ep_impl_readBook, hv0, hb1, hv2, d0_0, d0_1, d0_2, gs, reduceIte, reduceCtorEq, Nat.reduceAdd, Nat.reduceMul, Nat.reduceSub, Nat.reduceBEq, Nat.reduceEqDiff, Nat.reduceLeDiff, Nat.reduceLT, Nat.reduceGT, Int.reduceToNat, Int.reduceLT, Int.reduceLE, Int.reduceNeg, Int.reduceAdd, Int.reduceEq, Int.reduceNe, idxA_ptr, idxA_ip, retV_nil, at_app, at_app_set, enc_ob, enc_on, dec_ob, dec_on, ofI_ob, cells_ob, bookC_len, ev_ptr, ofI1_ob, dec_obx]
      refine ⟨nb0_0, ?_⟩
      simp (maxSteps := 2000000) (disch := first | omega | (simp only [List.length_set, List.length_append, List.length_cons, List.length_nil, rows_len, zs]; first | done | omega)) only [ep_impl_readBook, hv0, hb1, hv2, d0_0, d0_1, d0_2, o_impl_LogVector, gs, reduceIte, reduceCtorEq, Nat.reduceAdd, Nat.reduceMul, Nat.reduceSub, Nat.reduceBEq, Nat.reduceEqDiff, Nat.reduceLeDiff, Nat.reduceLT, Nat.reduceGT, Int.reduceToNat, Int.reduceLT, Int.reduceLE, Int.reduceNeg, Int.reduceAdd, Int.reduceEq, Int.reduceNe, idxA_ptr, idxA_ip, retV_nil, at_app, at_app_set, enc_ob, enc_on, dec_ob, dec_on, ofI_ob, cells_ob, bookC_len, ev_ptr, ofI1_ob, dec_obx] <;> omega
  · replace hb1 := eq_false_of_ne_true hb1
    rw [if_f hb1] at hp
    have hp := Option.some.inj hp
    subst hp
    simp (maxSteps := 2000000) (disch := first | omega | (simp only [List.length_set, List.length_append, List.length_cons, List.length_nil, rows_len, zs]; first | done | omega)) only [ep_impl_readBook, hv0, hb1, gs, reduceIte, reduceCtorEq, Nat.reduceAdd, Nat.reduceMul, Nat.reduceSub, Nat.reduceBEq, Nat.reduceEqDiff, Nat.reduceLeDiff, Nat.reduceLT, Nat.reduceGT, Int.reduceToNat, Int.reduceLT, Int.reduceLE, Int.reduceNeg, Int.reduceAdd, Int.reduceEq, Int.reduceNe, idxA_ptr, idxA_ip, retV_nil, at_app, at_app_set, enc_ob, enc_on, dec_ob, dec_on, ofI_ob, cells_ob, bookC_len, ev_ptr, ofI1_ob, dec_obx]
    refine ⟨2, ?_⟩
    simp (maxSteps := 2000000) (disch := first | omega | (simp only [List.length_set, List.length_append, List.length_cons, List.length_nil, rows_len, zs]; first | done | omega)) only [ep_impl_readBook, hv0, hb1, o_impl_LogVector, gs, reduceIte, reduceCtorEq, Nat.reduceAdd, Nat.reduceMul, Nat.reduceSub, Nat.reduceBEq, Nat.reduceEqDiff, Nat.reduceLeDiff, Nat.reduceLT, Nat.reduceGT, Int.reduceToNat, Int.reduceLT, Int.reduceLE, Int.reduceNeg, Int.reduceAdd, Int.reduceEq, Int.reduceNe, idxA_ptr, idxA_ip, retV_nil, at_app, at_app_set, enc_ob, enc_on, dec_ob, dec_on, ofI_ob, cells_ob, bookC_len, ev_ptr, ofI1_ob, dec_obx] <;> omega
theorem ko_impl_LogVector {P : Program} {env : Env} {f_impl_readBook : Nat} {f_impl_book_vector : Nat}  (ep_impl_readBook : env (2 * f_impl_readBook) = pureFn false (FA fun a : List TOp => p_impl_readBook a)) (e_impl_book_vector : k_impl_book_vector (env (2 * f_impl_book_vector + 1))) : k_impl_LogVector (ownFn P env (c_impl_LogVector f_impl_readBook f_impl_book_vector)) := by
  intro x0 b hp h args has
  obtain ⟨⟨v, H2⟩, hr, n0, rfl, wn0⟩ := w_impl_LogVector ep_impl_readBook e_impl_book_vector x0 hp
  exact ⟨_, own_call has hr rfl, keep_moved, n0 + h.length, rfl, (moved_lt wn0).2, (moved_lt wn0).1, moved_rows wn0⟩

noncomputable def p_laws_markIntS_l0 : List Int × Int × Int → Option (Lp (List Int × Int × Int) (T2 Int (List Int)))
  | (s0, s1, s2) =>
    if (decide (s2 < (s0.length : Int))) = true then
      (get? s0 s2).bind fun v5 =>
      some (.go ((s0.set s2.toNat s1), w64 (s1 + 1), w64 (s2 + 1)))
    else
      some (.out (s0, s1, s2))
noncomputable def p_laws_markIntS (x0 : List Int) (x1 : Int) : Option (T2 Int (List Int)) :=
  (loopP (p_laws_markIntS_l0) (x0, x1, 0)).bind fun ee0 => match ee0 with
  | .ret r => some r
  | .out (o7, o8, o9) =>
    some ⟨o8, o7⟩
def c_laws_markIntS : AFn := ⟨19, (.seq (.ops [⟨(.some 4), (.mv (.const (.int .i64 0))), .none, []⟩]) (.seq (.seq (.ops [⟨(.some 5), (.mv (.const (.int .i64 0))), .none, []⟩]) (.block 0 (.loop (.seq (.seq (.ops [⟨(.some 6), (.mv (.tmp 5)), .none, []⟩, ⟨(.some 7), (.mv (.tmp 0)), .none, []⟩, ⟨(.some 8), (.len (.tmp 7)), .none, []⟩, ⟨(.some 9), (.pu (.n (.ar .lss)) [(.tmp 6), (.tmp 8)]), .none, []⟩]) (.cond (.tmp 9) .skip (.exit 0))) (.seq (.block 1 (.seq (.ops [⟨(.some 12), (.mv (.tmp 0)), .none, []⟩, ⟨(.some 13), (.mv (.tmp 5)), .none, []⟩, ⟨(.some 14), (.mv (.tmp 1)), .none, []⟩, ⟨(.some 15), (.idxS 1 (.tmp 12) (.tmp 13)), .none, []⟩, ⟨.none, (.storeV [(0, false)] 1 (.tmp 15) (.tmp 14)), .none, []⟩]) (.ops [⟨(.some 16), (.mv (.tmp 1)), .none, []⟩, ⟨(.some 17), (.pu (.n (.ar .add)) [(.tmp 16), (.const (.int .i64 1))]), .none, []⟩, ⟨(.some 1), (.mv (.tmp 17)), .none, []⟩]))) (.ops [⟨(.some 10), (.mv (.tmp 5)), .none, []⟩, ⟨(.some 11), (.pu (.n (.ar .add)) [(.tmp 10), (.const (.int .i64 1))]), .none, []⟩, ⟨(.some 5), (.mv (.tmp 11)), .none, []⟩])))))) (.seq (.ops [⟨(.some 18), (.mv (.tmp 1)), .none, []⟩, ⟨(.some 4), (.mv (.tmp 18)), .none, []⟩]) .ret))), [(.tmp 4)]⟩
def i_laws_markIntS (pb0 pn0 : Nat) (h : Heap) (b : T2 Int (List Int)) (v : V) (h2 : Heap) : Prop := Keep [pb0] h h2 ∧ v = .i (.s (.int .i64 b.a)) ∧ getCells h2 pb0 pn0 = some (rows b.b)
def k_laws_markIntS (F : Fun) : Prop := ∀ (x0 : List Int) (x1 : Int) (b : T2 Int (List Int)), p_laws_markIntS x0 x1 = some b → ∀ (pb0 pn0 : Nat) (h : Heap), pn0 = (x0).length → getCells h pb0 pn0 = some (rows x0) → ∃ p, F none [.hsl pb0 pn0 0 1 false pn0, .i (.s (.int .i64 x1))] h = some p ∧ i_laws_markIntS pb0 pn0 h b p.1 p.2
set_option maxHeartbeats 10000000 in
theorem w_laws_markIntS {P : Program} {env : Env}  (x0 : List Int) (x1 : Int) {b : T2 Int (List Int)} (hp : p_laws_markIntS x0 x1 = some b) (pb0 pn0 : Nat) (hh : Heap) (pm0 : pn0 = (x0).length) (pf0 : getCells hh pb0 pn0 = some (rows x0)) : R P env (c_laws_markIntS) [.hsl pb0 pn0 0 1 false pn0, .i (.s (.int .i64 x1))] hh (i_laws_markIntS pb0 pn0 hh b) := by
  have pl0 := gc_lt pf0
  have pg0 : getCells hh pb0 x0.length = some (rows x0) := by rw [← pm0]; exact pf0
  refine R_of (by simp [c_laws_markIntS, encA]) ?_
  unfold c_laws_markIntS
  unfold p_laws_markIntS at hp
  obtain ⟨ee0, hee0, hp⟩ := bind_eq hp
  simp (maxSteps := 2000000) (disch := first | omega | (simp only [List.length_set, List.length_append, List.length_cons, List.length_nil, rows_len, zs]; first | done | omega)) only [pf0, pg0, gs, reduceIte, reduceCtorEq, Nat.reduceAdd, Nat.reduceMul, Nat.reduceSub, Nat.reduceBEq, Nat.reduceEqDiff, Nat.reduceLeDiff, Nat.reduceLT, Nat.reduceGT, Int.reduceToNat, Int.reduceLT, Int.reduceLE, Int.reduceNeg, Int.reduceAdd, Int.reduceEq, Int.reduceNe, idxA_ptr, idxA_ip, retV_nil, at_app, at_app_set, enc_ob, enc_on, dec_ob, dec_on, ofI_ob, cells_ob, bookC_len, ev_ptr, ofI1_ob, dec_obx]
  refine W_loopP 0 (fun s t h => match s with | (s0, s1, s2) => t 0 = .hsl pb0 pn0 0 1 false pn0 ∧ t 1 = .i (.s (.int .i64 s1)) ∧ t 5 = .i (.s (.int .i64 s2)) ∧ getCells h pb0 pn0 = some (rows (s0 : List Int)) ∧ pb0 < h.length ∧ Keep [pb0] hh h) (RK [.tmp 4] (i_laws_markIntS pb0 pn0 hh)) ?_ hee0 ?_ ?_
  · rintro ⟨s0, s1, s2⟩ ee tt0 hh0 ⟨ftt0_0, ftt0_1, ftt0_2, ftt0_3, ftt0_4, ftt0_5⟩ hp
    have ztt0_3 := len_rows ftt0_3
    simp only [zs] at ztt0_3
    rw [p_laws_markIntS_l0] at hp
    have hz3 : ((pn0 : Nat) : Int) = (s0.length : Int) := by omega
    by_cases hb4 : (decide (s2 < (s0.length : Int))) = true
    · rw [if_t hb4] at hp
      obtain ⟨v5, hv5, hp⟩ := bind_eq hp
      have gv5 := get_some hv5
      have hs6 : List.take s2.toNat (rows s0) ++ .i (.s (.int .i64 s1)) :: List.drop (s2.toNat + 1) (rows s0) = rows (s0.set s2.toNat s1) := by simpa [splice, zs, cellsV, I.cells, enc_int] using rows_set_off (y := s1) (ys := [.i (.s (.int .i64 s1))]) (k := 0) gv5.2.2 (Nat.le_of_ble_eq_true rfl) (by rfl)
      have hp := Option.some.inj hp
      subst hp
      simp (maxSteps := 2000000) (disch := first | omega | (simp only [List.length_set, List.length_append, List.length_cons, List.length_nil, rows_len, zs]; first | done | omega)) only [i_laws_markIntS, pf0, pg0, ftt0_0, ftt0_1, ftt0_2, ftt0_3, ftt0_4, ftt0_5, hz3, hb4, hv5, (gv5).1, (gv5).2.1, hs6, gs, reduceIte, reduceCtorEq, Nat.reduceAdd, Nat.reduceMul, Nat.reduceSub, Nat.reduceBEq, Nat.reduceEqDiff, Nat.reduceLeDiff, Nat.reduceLT, Nat.reduceGT, Int.reduceToNat, Int.reduceLT, Int.reduceLE, Int.reduceNeg, Int.reduceAdd, Int.reduceEq, Int.reduceNe, idxA_ptr, idxA_ip, retV_nil, at_app, at_app_set, enc_ob, enc_on, dec_ob, dec_on, ofI_ob, cells_ob, bookC_len, ev_ptr, ofI1_ob, dec_obx] <;> (repeat (first | omega | assumption | rfl | exact keep_refl | refine keep_app ?_ | (refine keep_set (by first | (left; simp; done) | (right; simp; omega)) ?_) | refine And.intro ?_ ?_))
    · replace hb4 := eq_false_of_ne_true hb4
      rw [if_f hb4] at hp
      have hp := Option.some.inj hp
      subst hp
      simp (maxSteps := 2000000) (disch := first | omega | (simp only [List.length_set, List.length_append, List.length_cons, List.length_nil, rows_len, zs]; first | done | omega)) only [i_laws_markIntS, pf0, pg0, ftt0_0, ftt0_1, ftt0_2, ftt0_3, ftt0_4, ftt0_5, hz3, hb4, gs, reduceIte, reduceCtorEq, Nat.reduceAdd, Nat.reduceMul, Nat.reduceSub, Nat.reduceBEq, Nat.reduceEqDiff, Nat.reduceLeDiff, Nat.reduceLT, Nat.reduceGT, Int.reduceToNat, Int.reduceLT, Int.reduceLE, Int.reduceNeg, Int.reduceAdd, Int.reduceEq, Int.reduceNe, idxA_ptr, idxA_ip, retV_nil, at_app, at_app_set, enc_ob, enc_on, dec_ob, dec_on, ofI_ob, cells_ob, bookC_len, ev_ptr, ofI1_ob, dec_obx] <;> (repeat (first | omega | assumption | rfl | exact keep_refl | refine keep_app ?_ | (refine keep_set (by first | (left; simp; done) | (right; simp; omega)) ?_) | refine And.intro ?_ ?_))
  · simp (maxSteps := 2000000) (disch := first | omega | (simp only [List.length_set, List.length_append, List.length_cons, List.length_nil, rows_len, zs]; first | done | omega)) only [i_laws_markIntS, pf0, pg0, gs, reduceIte, reduceCtorEq, Nat.reduceAdd, Nat.reduceMul, Nat.reduceSub, Nat.reduceBEq, Nat.reduceEqDiff, Nat.reduceLeDiff, Nat.reduceLT, Nat.reduceGT, Int.reduceToNat, Int.reduceLT, Int.reduceLE, Int.reduceNeg, Int.reduceAdd, Int.reduceEq, Int.reduceNe, idxA_ptr, idxA_ip, retV_nil, at_app, at_app_set, enc_ob, enc_on, dec_ob, dec_on, ofI_ob, cells_ob, bookC_len, ev_ptr, ofI1_ob, dec_obx] <;> (repeat (first | omega | assumption | rfl | exact keep_refl | refine keep_app ?_ | (refine keep_set (by first | (left; simp; done) | (right; simp; omega)) ?_) | refine And.intro ?_ ?_))
  · intro x tt1 hh1 hx
    rcases ee0 with ⟨o7, o8, o9⟩ | r
    · obtain ⟨rfl, ftt1_0, ftt1_1, ftt1_2, ftt1_3, ftt1_4, ftt1_5⟩ := hx
      have ztt1_3 := len_rows ftt1_3
      simp only [zs] at ztt1_3
      dsimp only at hp
      have hp := Option.some.inj hp
      subst hp
      simp (maxSteps := 2000000) (disch := first | omega | (simp only [List.length_set, List.length_append, List.length_cons, List.length_nil, rows_len, zs]; first | done | omega)) only [i_laws_markIntS, pf0, pg0, ftt1_0, ftt1_1, ftt1_2, ftt1_3, ftt1_4, ftt1_5, gs, reduceIte, reduceCtorEq, Nat.reduceAdd, Nat.reduceMul, Nat.reduceSub, Nat.reduceBEq, Nat.reduceEqDiff, Nat.reduceLeDiff, Nat.reduceLT, Nat.reduceGT, Int.reduceToNat, Int.reduceLT, Int.reduceLE, Int.reduceNeg, Int.reduceAdd, Int.reduceEq, Int.reduceNe, idxA_ptr, idxA_ip, retV_nil, at_app, at_app_set, enc_ob, enc_on, dec_ob, dec_on, ofI_ob, cells_ob, bookC_len, ev_ptr, ofI1_ob, dec_obx] <;> (repeat (first | omega | assumption | rfl | exact keep_refl | refine keep_app ?_ | (refine keep_set (by first | (left; simp; done) | (right; simp; omega)) ?_) | refine And.intro ?_ ?_))
    · obtain ⟨rfl, hx⟩ := hx
      dsimp only at hp
      cases hp
      simp only [seqK_ret, blockK_ret, retK_RK (K := i_laws_markIntS pb0 pn0 hh), hx, and_self, true_and]
theorem ko_laws_markIntS {P : Program} {env : Env}  : k_laws_markIntS (runIn P env (c_laws_markIntS)) := by
  intro x0 x1 b hp pb0 pn0 h a0 a1
  exact w_laws_markIntS x0 x1 hp pb0 pn0 h a0 a1

noncomputable def p_laws_markText_l0 : Int × ByteArray → Option (Lp (Int × ByteArray) ByteArray)
  | (s1, s2) =>
    if (decide (0 < s1)) = true then
      (cat? (strOfNums [(IntKind.wrap .u8 (w64 (48 + (Int.tmod s1 10))))]) s2).bind fun v4 =>
      some (.go (w64 (Int.tdiv s1 10), v4))
    else
      some (.out (s1, s2))
noncomputable def p_laws_markText (x0 : Int) : Option ByteArray :=
  if (decide (x0 ≤ 0)) = true then
    some (ByteArray.mk #[109, 48])
  else
    (loopP (p_laws_markText_l0) (x0, (ByteArray.mk #[]))).bind fun ee0 => match ee0 with
    | .ret r => some r
    | .out (o5, o6) =>
      (cat? (ByteArray.mk #[109]) o6).bind fun v7 =>
      some v7
def c_laws_markText : AFn := ⟨20, (.seq (.ops [⟨(.some 2), (.mv (.const (.string ⟨#[]⟩))), .none, []⟩]) (.seq (.seq (.ops [⟨(.some 4), (.mv (.tmp 0)), .none, []⟩, ⟨(.some 5), (.pu (.n (.ar .leq)) [(.tmp 4), (.const (.int .i64 0))]), .none, []⟩]) (.cond (.tmp 5) (.seq (.ops [⟨(.some 2), (.mv (.const (.string ⟨#[109, 48]⟩))), .none, []⟩]) .ret) .skip)) (.seq (.ops [⟨(.some 3), (.mv (.const (.string ⟨#[]⟩))), .none, []⟩]) (.seq (.block 0 (.loop (.seq (.seq (.ops [⟨(.some 6), (.mv (.tmp 0)), .none, []⟩, ⟨(.some 7), (.pu (.n (.ar .gtr)) [(.tmp 6), (.const (.int .i64 0))]), .none, []⟩]) (.cond (.tmp 7) .skip (.exit 0))) (.block 1 (.seq (.ops [⟨(.some 8), (.mv (.tmp 0)), .none, []⟩, ⟨(.some 9), (.pu (.n (.ar .rem)) [(.tmp 8), (.const (.int .i64 10))]), .none, []⟩, ⟨(.some 10), (.pu (.n (.ar .add)) [(.const (.int .i64 48)), (.tmp 9)]), .none, []⟩, ⟨(.some 11), (.pu (.n (.conv .u8)) [(.tmp 10)]), .none, []⟩, ⟨(.some 12), (.buildSl 1 false 1 [(.int .u8 0)] [(0, (.tmp 11))]), .none, []⟩, ⟨(.some 13), (.b2s (.tmp 12)), .none, []⟩, ⟨(.some 14), (.mv (.tmp 3)), .none, []⟩, ⟨(.some 15), (.pu (.n (.ar .add)) [(.tmp 13), (.tmp 14)]), .none, []⟩, ⟨(.some 3), (.mv (.tmp 15)), .none, []⟩]) (.ops [⟨(.some 16), (.mv (.tmp 0)), .none, []⟩, ⟨(.some 17), (.pu (.n (.ar .quo)) [(.tmp 16), (.const (.int .i64 10))]), .none, []⟩, ⟨(.some 0), (.mv (.tmp 17)), .none, []⟩])))))) (.seq (.ops [⟨(.some 18), (.mv (.tmp 3)), .none, []⟩, ⟨(.some 19), (.pu (.n (.ar .add)) [(.const (.string ⟨#[109]⟩)), (.tmp 18)]), .none, []⟩, ⟨(.some 2), (.mv (.tmp 19)), .none, []⟩]) .ret))))), [(.tmp 2)]⟩
set_option maxHeartbeats 10000000 in
theorem d_laws_markText {P : Program} {env : Env}  (x0 : Int) {b : ByteArray} (hp : p_laws_markText x0 = some b) : R P env (c_laws_markText) ((encA (x0)).map ofI) [] (Tells true b) := by
  refine R_of (by simp [c_laws_markText, encA]) ?_
  unfold c_laws_markText
  unfold p_laws_markText at hp
  by_cases hb0 : (decide (x0 ≤ 0)) = true
  · rw [if_t hb0] at hp
    have hp := Option.some.inj hp
    subst hp
    simp (maxSteps := 2000000) (disch := first | omega | (simp only [List.length_set, List.length_append, List.length_cons, List.length_nil, rows_len, zs]; first | done | omega)) only [hb0, gs, reduceIte, reduceCtorEq, Nat.reduceAdd, Nat.reduceMul, Nat.reduceSub, Nat.reduceBEq, Nat.reduceEqDiff, Nat.reduceLeDiff, Nat.reduceLT, Nat.reduceGT, Int.reduceToNat, Int.reduceLT, Int.reduceLE, Int.reduceNeg, Int.reduceAdd, Int.reduceEq, Int.reduceNe, idxA_ptr, idxA_ip, retV_nil, at_app, at_app_set, enc_ob, enc_on, dec_ob, dec_on, ofI_ob, cells_ob, bookC_len, ev_ptr, ofI1_ob, dec_obx]
  · replace hb0 := eq_false_of_ne_true hb0
    rw [if_f hb0] at hp
    obtain ⟨ee0, hee0, hp⟩ := bind_eq hp
    simp (maxSteps := 2000000) (disch := first | omega | (simp only [List.length_set, List.length_append, List.length_cons, List.length_nil, rows_len, zs]; first | done | omega)) only [hb0, gs, reduceIte, reduceCtorEq, Nat.reduceAdd, Nat.reduceMul, Nat.reduceSub, Nat.reduceBEq, Nat.reduceEqDiff, Nat.reduceLeDiff, Nat.reduceLT, Nat.reduceGT, Int.reduceToNat, Int.reduceLT, Int.reduceLE, Int.reduceNeg, Int.reduceAdd, Int.reduceEq, Int.reduceNe, idxA_ptr, idxA_ip, retV_nil, at_app, at_app_set, enc_ob, enc_on, dec_ob, dec_on, ofI_ob, cells_ob, bookC_len, ev_ptr, ofI1_ob, dec_obx]
    refine W_loopP 0 (fun s t h => match s with | (s1, s2) => t 0 = .i (.s (.int .i64 s1)) ∧ t 3 = .i (.s (.string s2))) (RK [.tmp 2] (Tells true)) ?_ hee0 ?_ ?_
    · rintro ⟨s1, s2⟩ ee tt0 hh0 ⟨ftt0_0, ftt0_1⟩ hp
      rw [p_laws_markText_l0] at hp
      by_cases hb3 : (decide (0 < s1)) = true
      · rw [if_t hb3] at hp
        obtain ⟨v4, hv4, hp⟩ := bind_eq hp
        have hp := Option.some.inj hp
        subst hp
        simp (maxSteps := 2000000) (disch := first | omega | (simp only [List.length_set, List.length_append, List.length_cons, List.length_nil, rows_len, zs]; first | done | omega)) only [hb0, ftt0_0, ftt0_1, hb3, hv4, gs, reduceIte, reduceCtorEq, Nat.reduceAdd, Nat.reduceMul, Nat.reduceSub, Nat.reduceBEq, Nat.reduceEqDiff, Nat.reduceLeDiff, Nat.reduceLT, Nat.reduceGT, Int.reduceToNat, Int.reduceLT, Int.reduceLE, Int.reduceNeg, Int.reduceAdd, Int.reduceEq, Int.reduceNe, idxA_ptr, idxA_ip, retV_nil, at_app, at_app_set, enc_ob, enc_on, dec_ob, dec_on, ofI_ob, cells_ob, bookC_len, ev_ptr, ofI1_ob, dec_obx] <;> omega
      · replace hb3 := eq_false_of_ne_true hb3
        rw [if_f hb3] at hp
        have hp := Option.some.inj hp
        subst hp
        simp (maxSteps := 2000000) (disch := first | omega | (simp only [List.length_set, List.length_append, List.length_cons, List.length_nil, rows_len, zs]; first | done | omega)) only [hb0, ftt0_0, ftt0_1, hb3, gs, reduceIte, reduceCtorEq, Nat.reduceAdd, Nat.reduceMul, Nat.reduceSub, Nat.reduceBEq, Nat.reduceEqDiff, Nat.reduceLeDiff, Nat.reduceLT, Nat.reduceGT, Int.reduceToNat, Int.reduceLT, Int.reduceLE, Int.reduceNeg, Int.reduceAdd, Int.reduceEq, Int.reduceNe, idxA_ptr, idxA_ip, retV_nil, at_app, at_app_set, enc_ob, enc_on, dec_ob, dec_on, ofI_ob, cells_ob, bookC_len, ev_ptr, ofI1_ob, dec_obx] <;> omega
    · simp (maxSteps := 2000000) (disch := first | omega | (simp only [List.length_set, List.length_append, List.length_cons, List.length_nil, rows_len, zs]; first | done | omega)) only [hb0, gs, reduceIte, reduceCtorEq, Nat.reduceAdd, Nat.reduceMul, Nat.reduceSub, Nat.reduceBEq, Nat.reduceEqDiff, Nat.reduceLeDiff, Nat.reduceLT, Nat.reduceGT, Int.reduceToNat, Int.reduceLT, Int.reduceLE, Int.reduceNeg, Int.reduceAdd, Int.reduceEq, Int.reduceNe, idxA_ptr, idxA_ip, retV_nil, at_app, at_app_set, enc_ob, enc_on, dec_ob, dec_on, ofI_ob, cells_ob, bookC_len, ev_ptr, ofI1_ob, dec_obx] <;> omega
    · intro x tt1 hh1 hx
      rcases ee0 with ⟨o5, o6⟩ | r
      · obtain ⟨rfl, ftt1_0, ftt1_1⟩ := hx
        dsimp only at hp
        obtain ⟨v7, hv7, hp⟩ := bind_eq hp
        have hp := Option.some.inj hp
        subst hp
        simp (maxSteps := 2000000) (disch := first | omega | (simp only [List.length_set, List.length_append, List.length_cons, List.length_nil, rows_len, zs]; first | done | omega)) only [hb0, ftt1_0, ftt1_1, hv7, gs, reduceIte, reduceCtorEq, Nat.reduceAdd, Nat.reduceMul, Nat.reduceSub, Nat.reduceBEq, Nat.reduceEqDiff, Nat.reduceLeDiff, Nat.reduceLT, Nat.reduceGT, Int.reduceToNat, Int.reduceLT, Int.reduceLE, Int.reduceNeg, Int.reduceAdd, Int.reduceEq, Int.reduceNe, idxA_ptr, idxA_ip, retV_nil, at_app, at_app_set, enc_ob, enc_on, dec_ob, dec_on, ofI_ob, cells_ob, bookC_len, ev_ptr, ofI1_ob, dec_obx]
      · obtain ⟨rfl, hx⟩ := hx
        dsimp only at hp
        cases hp
        simp only [seqK_ret, blockK_ret, retK_RK (K := Tells true), hx, and_self, true_and]

section
open NestC (kid rowN)
noncomputable def p_laws_markOpS_r (x : TOp) (k : Int) : Option (T2 Int TOp) :=
  (p_laws_markIntS x.deps.counts (w64 (w64 (w64 (k + 1) + 1) + 1))).bind fun r =>
  (p_laws_markText (w64 (w64 (w64 (w64 (w64 (w64 (r.a + 1) + 1) + 1) + 1) + 1) + 1))).bind fun v1 =>
  (p_laws_markText (w64 (w64 (w64 (w64 (w64 (w64 (w64 (r.a + 1) + 1) + 1) + 1) + 1) + 1) + 1))).bind fun v2 =>
  some ⟨w64 (w64 (w64 (w64 (w64 (w64 (w64 (w64 (r.a + 1) + 1) + 1) + 1) + 1) + 1) + 1) + 1), ⟨k, w64 (k + 1), w64 (w64 (k + 1) + 1), ⟨r.b⟩, r.a, w64 (r.a + 1), w64 (w64 (r.a + 1) + 1), w64 (w64 (w64 (r.a + 1) + 1) + 1), ⟨w64 (w64 (w64 (w64 (r.a + 1) + 1) + 1) + 1), w64 (w64 (w64 (w64 (w64 (r.a + 1) + 1) + 1) + 1) + 1)⟩, v1, v2⟩⟩
noncomputable def p_laws_markOpS_l0 (x0 : List TOp) : List TOp × Int → Option (Lp (List TOp × Int) (T2 Int (List TOp)))
  | (s1, k) =>
    if s1.length < x0.length then
      (get? x0 (s1.length : Int)).bind fun v4 =>
      (p_laws_markOpS_r v4 k).bind fun v5 =>
      if (s1.length : Int) + 1 < 9223372036854775808 then some (.go (s1 ++ [v5.b], v5.a)) else none
    else
      some (.out (s1, k))
noncomputable def p_laws_markOpS (x0 : List TOp) (x1 : Int) : Option (T2 Int (List TOp)) :=
  (loopP (p_laws_markOpS_l0 x0) ([], x1)).bind fun ee0 => match ee0 with
    | .ret r => some r
    | .out (o8, k) => some ⟨k, o8⟩
def c_laws_markOpS (f_laws_markIntS : Nat) (f_laws_markText : Nat) : AFn := ⟨102, (.seq (.ops [⟨(.some 4), (.mv (.const (.int .i64 0))), .none, []⟩]) (.seq (.seq (.ops [⟨(.some 5), (.mv (.const (.int .i64 0))), .none, []⟩]) (.block 0 (.loop (.seq (.seq (.ops [⟨(.some 6), (.mv (.tmp 5)), .none, []⟩, ⟨(.some 7), (.mv (.tmp 0)), .none, []⟩, ⟨(.some 8), (.len (.tmp 7)), .none, []⟩, ⟨(.some 9), (.pu (.n (.ar .lss)) [(.tmp 6), (.tmp 8)]), .none, []⟩]) (.cond (.tmp 9) .skip (.exit 0))) (.seq (.block 1 (.seq (.ops [⟨(.some 12), (.mv (.tmp 0)), .none, []⟩, ⟨(.some 13), (.mv (.tmp 5)), .none, []⟩, ⟨(.some 14), (.mv (.tmp 1)), .none, []⟩, ⟨(.some 15), (.idxS 12 (.tmp 12) (.tmp 13)), .none, []⟩, ⟨(.some 16), (.fieldA 0 (.tmp 15)), .none, []⟩, ⟨.none, (.storeV [(0, false)] 1 (.tmp 16) (.tmp 14)), .none, []⟩]) (.seq (.ops [⟨(.some 17), (.mv (.tmp 1)), .none, []⟩, ⟨(.some 18), (.pu (.n (.ar .add)) [(.tmp 17), (.const (.int .i64 1))]), .none, []⟩, ⟨(.some 1), (.mv (.tmp 18)), .none, []⟩]) (.seq (.ops [⟨(.some 19), (.mv (.tmp 0)), .none, []⟩, ⟨(.some 20), (.mv (.tmp 5)), .none, []⟩, ⟨(.some 21), (.mv (.tmp 1)), .none, []⟩, ⟨(.some 22), (.idxS 12 (.tmp 19) (.tmp 20)), .none, []⟩, ⟨(.some 23), (.fieldA 1 (.tmp 22)), .none, []⟩, ⟨.none, (.storeV [(0, false)] 1 (.tmp 23) (.tmp 21)), .none, []⟩]) (.seq (.ops [⟨(.some 24), (.mv (.tmp 1)), .none, []⟩, ⟨(.some 25), (.pu (.n (.ar .add)) [(.tmp 24), (.const (.int .i64 1))]), .none, []⟩, ⟨(.some 1), (.mv (.tmp 25)), .none, []⟩]) (.seq (.ops [⟨(.some 26), (.mv (.tmp 0)), .none, []⟩, ⟨(.some 27), (.mv (.tmp 5)), .none, []⟩, ⟨(.some 28), (.mv (.tmp 1)), .none, []⟩, ⟨(.some 29), (.idxS 12 (.tmp 26) (.tmp 27)), .none, []⟩, ⟨(.some 30), (.fieldA 2 (.tmp 29)), .none, []⟩, ⟨.none, (.storeV [(0, false)] 1 (.tmp 30) (.tmp 28)), .none, []⟩]) (.seq (.ops [⟨(.some 31), (.mv (.tmp 1)), .none, []⟩, ⟨(.some 32), (.pu (.n (.ar .add)) [(.tmp 31), (.const (.int .i64 1))]), .none, []⟩, ⟨(.some 1), (.mv (.tmp 32)), .none, []⟩]) (.seq (.ops [⟨(.some 33), (.mv (.tmp 0)), .none, []⟩, ⟨(.some 34), (.mv (.tmp 5)), .none, []⟩, ⟨(.some 35), (.idxS 12 (.tmp 33) (.tmp 34)), .none, []⟩, ⟨(.some 36), (.fieldA 3 (.tmp 35)), .none, []⟩, ⟨(.some 37), (.fieldA 0 (.tmp 36)), .none, []⟩, ⟨(.some 38), (.load 1 false (.tmp 37)), .none, []⟩, ⟨(.some 39), (.mv (.tmp 1)), .none, []⟩, ⟨(.some 40), (.call (2 * f_laws_markIntS + 1) [(.tmp 38), (.tmp 39)]), .none, []⟩, ⟨(.some 1), (.mv (.tmp 40)), .none, []⟩]) (.seq (.ops [⟨(.some 41), (.mv (.tmp 0)), .none, []⟩, ⟨(.some 42), (.mv (.tmp 5)), .none, []⟩, ⟨(.some 43), (.mv (.tmp 1)), .none, []⟩, ⟨(.some 44), (.idxS 12 (.tmp 41) (.tmp 42)), .none, []⟩, ⟨(.some 45), (.fieldA 4 (.tmp 44)), .none, []⟩, ⟨.none, (.storeV [(0, false)] 1 (.tmp 45) (.tmp 43)), .none, []⟩]) (.seq (.ops [⟨(.some 46), (.mv (.tmp 1)), .none, []⟩, ⟨(.some 47), (.pu (.n (.ar .add)) [(.tmp 46), (.const (.int .i64 1))]), .none, []⟩, ⟨(.some 1), (.mv (.tmp 47)), .none, []⟩]) (.seq (.ops [⟨(.some 48), (.mv (.tmp 0)), .none, []⟩, ⟨(.some 49), (.mv (.tmp 5)), .none, []⟩, ⟨(.some 50), (.mv (.tmp 1)), .none, []⟩, ⟨(.some 51), (.idxS 12 (.tmp 48) (.tmp 49)), .none, []⟩, ⟨(.some 52), (.fieldA 5 (.tmp 51)), .none, []⟩, ⟨.none, (.storeV [(0, false)] 1 (.tmp 52) (.tmp 50)), .none, []⟩]) (.seq (.ops [⟨(.some 53), (.mv (.tmp 1)), .none, []⟩, ⟨(.some 54), (.pu (.n (.ar .add)) [(.tmp 53), (.const (.int .i64 1))]), .none, []⟩, ⟨(.some 1), (.mv (.tmp 54)), .none, []⟩]) (.seq (.ops [⟨(.some 55), (.mv (.tmp 0)), .none, []⟩, ⟨(.some 56), (.mv (.tmp 5)), .none, []⟩, ⟨(.some 57), (.mv (.tmp 1)), .none, []⟩, ⟨(.some 58), (.idxS 12 (.tmp 55) (.tmp 56)), .none, []⟩, ⟨(.some 59), (.fieldA 6 (.tmp 58)), .none, []⟩, ⟨.none, (.storeV [(0, false)] 1 (.tmp 59) (.tmp 57)), .none, []⟩]) (.seq (.ops [⟨(.some 60), (.mv (.tmp 1)), .none, []⟩, ⟨(.some 61), (.pu (.n (.ar .add)) [(.tmp 60), (.const (.int .i64 1))]), .none, []⟩, ⟨(.some 1), (.mv (.tmp 61)), .none, []⟩]) (.seq (.ops [⟨(.some 62), (.mv (.tmp 0)), .none, []⟩, ⟨(.some 63), (.mv (.tmp 5)), .none, []⟩, ⟨(.some 64), (.mv (.tmp 1)), .none, []⟩, ⟨(.some 65), (.idxS 12 (.tmp 62) (.tmp 63)), .none, []⟩, ⟨(.some 66), (.fieldA 7 (.tmp 65)), .none, []⟩, ⟨.none, (.storeV [(0, false)] 1 (.tmp 66) (.tmp 64)), .none, []⟩]) (.seq (.ops [⟨(.some 67), (.mv (.tmp 1)), .none, []⟩, ⟨(.some 68), (.pu (.n (.ar .add)) [(.tmp 67), (.const (.int .i64 1))]), .none, []⟩, ⟨(.some 1), (.mv (.tmp 68)), .none, []⟩]) (.seq (.ops [⟨(.some 69), (.mv (.tmp 0)), .none, []⟩, ⟨(.some 70), (.mv (.tmp 5)), .none, []⟩, ⟨(.some 71), (.mv (.tmp 1)), .none, []⟩, ⟨(.some 72), (.idxS 12 (.tmp 69) (.tmp 70)), .none, []⟩, ⟨(.some 73), (.fieldA 8 (.tmp 72)), .none, []⟩, ⟨(.some 74), (.fieldA 0 (.tmp 73)), .none, []⟩, ⟨.none, (.storeV [(0, false)] 1 (.tmp 74) (.tmp 71)), .none, []⟩]) (.seq (.ops [⟨(.some 75), (.mv (.tmp 1)), .none, []⟩, ⟨(.some 76), (.pu (.n (.ar .add)) [(.tmp 75), (.const (.int .i64 1))]), .none, []⟩, ⟨(.some 1), (.mv (.tmp 76)), .none, []⟩]) (.seq (.ops [⟨(.some 77), (.mv (.tmp 0)), .none, []⟩, ⟨(.some 78), (.mv (.tmp 5)), .none, []⟩, ⟨(.some 79), (.mv (.tmp 1)), .none, []⟩, ⟨(.some 80), (.idxS 12 (.tmp 77) (.tmp 78)), .none, []⟩, ⟨(.some 81), (.fieldA 8 (.tmp 80)), .none, []⟩, ⟨(.some 82), (.fieldA 1 (.tmp 81)), .none, []⟩, ⟨.none, (.storeV [(0, false)] 1 (.tmp 82) (.tmp 79)), .none, []⟩]) (.seq (.ops [⟨(.some 83), (.mv (.tmp 1)), .none, []⟩, ⟨(.some 84), (.pu (.n (.ar .add)) [(.tmp 83), (.const (.int .i64 1))]), .none, []⟩, ⟨(.some 1), (.mv (.tmp 84)), .none, []⟩]) (.seq (.ops [⟨(.some 85), (.mv (.tmp 0)), .none, []⟩, ⟨(.some 86), (.mv (.tmp 5)), .none, []⟩, ⟨(.some 87), (.mv (.tmp 1)), .none, []⟩, ⟨(.some 88), (.call (2 * f_laws_markText) [(.tmp 87)]), .none, []⟩, ⟨(.some 89), (.idxS 12 (.tmp 85) (.tmp 86)), .none, []⟩, ⟨(.some 90), (.fieldA 10 (.tmp 89)), .none, []⟩, ⟨.none, (.storeV [(0, false)] 1 (.tmp 90) (.tmp 88)), .none, []⟩]) (.seq (.ops [⟨(.some 91), (.mv (.tmp 1)), .none, []⟩, ⟨(.some 92), (.pu (.n (.ar .add)) [(.tmp 91), (.const (.int .i64 1))]), .none, []⟩, ⟨(.some 1), (.mv (.tmp 92)), .none, []⟩]) (.seq (.ops [⟨(.some 93), (.mv (.tmp 0)), .none, []⟩, ⟨(.some 94), (.mv (.tmp 5)), .none, []⟩, ⟨(.some 95), (.mv (.tmp 1)), .none, []⟩, ⟨(.some 96), (.call (2 * f_laws_markText) [(.tmp 95)]), .none, []⟩, ⟨(.some 97), (.idxS 12 (.tmp 93) (.tmp 94)), .none, []⟩, ⟨(.some 98), (.fieldA 11 (.tmp 97)), .none, []⟩, ⟨.none, (.storeV [(0, false)] 1 (.tmp 98) (.tmp 96)), .none, []⟩]) (.ops [⟨(.some 99), (.mv (.tmp 1)), .none, []⟩, ⟨(.some 100), (.pu (.n (.ar .add)) [(.tmp 99), (.const (.int .i64 1))]), .none, []⟩, ⟨(.some 1), (.mv (.tmp 100)), .none, []⟩])))))))))))))))))))))))) (.ops [⟨(.some 10), (.mv (.tmp 5)), .none, []⟩, ⟨(.some 11), (.pu (.n (.ar .add)) [(.tmp 10), (.const (.int .i64 1))]), .none, []⟩, ⟨(.some 5), (.mv (.tmp 11)), .none, []⟩])))))) (.seq (.ops [⟨(.some 101), (.mv (.tmp 1)), .none, []⟩, ⟨(.some 4), (.mv (.tmp 101)), .none, []⟩]) .ret))), [(.tmp 4)]⟩
def i_laws_markOpS (lo hi : Nat) (pv : V) (h : Heap) (b : T2 Int (List TOp)) (v : V) (h2 : Heap) : Prop := KeepI lo hi h h2 ∧ v = .i (.s (.int .i64 b.a)) ∧ NestV h2 lo hi pv b.b
def k_laws_markOpS (F : Fun) : Prop := ∀ (x0 : List TOp) (x1 : Int) (b : T2 Int (List TOp)), p_laws_markOpS x0 x1 = some b → ∀ (lo hi : Nat) (v : V) (h : Heap), NestV h lo hi v x0 → ∃ p, F none [v, .i (.s (.int .i64 x1))] h = some p ∧ i_laws_markOpS lo hi v h b p.1 p.2
def MkI (hh : Heap) (lo hi b : Nat) (gs : List Nat) (x0 : List TOp) (h : Heap) (s1 : List TOp) : Prop := KeepI lo hi hh h ∧ s1.length ≤ x0.length ∧ Nest h lo hi b gs (s1 ++ x0.drop s1.length)
set_option maxHeartbeats 10000000 in
theorem w_laws_markOpS {P : Program} {env : Env} {f_laws_markIntS f_laws_markText : Nat} (ep_laws_markText : env (2 * f_laws_markText) = pureFn true (FA fun a : Int => p_laws_markText a)) (e_laws_markIntS : k_laws_markIntS (env (2 * f_laws_markIntS + 1)))
    (x0 : List TOp) (x1 : Int) {b : T2 Int (List TOp)} (hp : p_laws_markOpS x0 x1 = some b) (lo hi : Nat) (pv : V) (hh : Heap) (pf0 : NestV hh lo hi pv x0) : R P env (c_laws_markOpS f_laws_markIntS f_laws_markText) [pv, .i (.s (.int .i64 x1))] hh (i_laws_markOpS lo hi pv hh b) := by
  refine R_of (by simp [c_laws_markOpS, encA]) ?_
  unfold c_laws_markOpS
  unfold p_laws_markOpS at hp
  obtain ⟨qb, qs, rfl, hN0⟩ := pf0
  obtain ⟨ee0, hee0, hp⟩ := bind_eq hp
  simp (maxSteps := 2000000) (disch := first | omega | (simp only [List.length_set, List.length_append, List.length_cons, List.length_nil, rows_len, zs]; first | done | omega)) only [ep_laws_markText, gs, reduceIte, reduceCtorEq, Nat.reduceAdd, Nat.reduceMul, Nat.reduceSub, Nat.reduceBEq, Nat.reduceEqDiff, Nat.reduceLeDiff, Nat.reduceLT, Nat.reduceGT, Int.reduceToNat, Int.reduceLT, Int.reduceLE, Int.reduceNeg, Int.reduceAdd, Int.reduceEq, Int.reduceNe, idxA_ptr, idxA_ip, retV_nil, at_app, at_app_set, enc_ob, enc_on, dec_ob, dec_on, ofI_ob, cells_ob, bookC_len, ev_ptr, ofI1_ob, dec_obx]
  refine W_loopP 0 (fun (s1, k) t h => t 0 = .hsl qb (x0.length * 12) 0 12 true x0.length ∧ t 1 = .i (.s (.int .i64 k)) ∧ t 5 = .i (.s (.int .i64 (s1.length : Int))) ∧ MkI hh lo hi qb qs x0 h s1) (RK [.tmp 4] (i_laws_markOpS lo hi (.hsl qb (x0.length * Pic.z TOp) 0 (Pic.z TOp) true x0.length) hh)) ?_ hee0 ?_ ?_
  · rintro ⟨s1, k⟩ ee tt0 hh0 ⟨f0, f1, f2, f3⟩ hp
    rw [p_laws_markOpS_l0] at hp
    by_cases hb3 : s1.length < x0.length
    · rw [if_pos hb3] at hp
      obtain ⟨v4, hv4, hp⟩ := bind_eq hp
      obtain ⟨v5, hv5, hp⟩ := bind_eq hp
      split at hp
      case isFalse => cases hp
      rename_i hw0
      have hb4 : decide ((s1.length : Int) < (x0.length : Int)) = true := by simpa using hb3
      have hp := Option.some.inj hp
      subst hp
      unfold p_laws_markOpS_r at hv5
      obtain ⟨r, hr, hv5⟩ := bind_eq hv5
      obtain ⟨w1, hw1, hv5⟩ := bind_eq hv5
      obtain ⟨w2, hw2, hv5⟩ := bind_eq hv5
      have hv5 := Option.some.inj hv5
      subst hv5
      have g4 := get_some hv4
      rw [Int.toNat_natCast] at g4
      obtain ⟨hK, hle, hN⟩ := f3
      have hd : x0.drop s1.length = v4 :: x0.drop (s1.length + 1) := by
        rw [List.drop_eq_getElem_cons hb3]
        congr 1
        have := g4.2.2
        rw [List.getElem?_eq_getElem hb3] at this
        exact Option.some.inj this
      rw [hd] at hN
      obtain ⟨A, B, g, hA, hB, hrow, hkid, hg1, hg2, hgb, hb1, hb2, htop, hclose⟩ := nest_open hN
      have hn12 : (s1.length + ((x0.drop (s1.length + 1)).length + 1)) * Pic.z TOp = x0.length * 12 := by rw [z_TOp, List.length_drop]; congr 1; omega
      rw [hn12] at hrow hclose
      rw [z_TOp] at hA hB
      simp only [rowN, List.cons_append, List.nil_append, kid, iN, iS] at hrow hclose hkid
      have hlr := getCells_len hrow
      have hnn : (0:Int) ≤ (s1.length : Int) := by omega
      have hbl := gc_lt hrow
      have hAl : A.length + (B.length + 1 + 1 + 1 + 1 + 1 + 1 + 1 + 1 + 1 + 1 + 1 + 1) = x0.length * 12 := by rw [List.length_drop] at hB; omega
      simp (maxSteps := 2000000) (disch := first | omega | (simp only [List.length_set, List.length_append, List.length_cons, List.length_nil, rows_len, zs]; first | done | omega)) only [ep_laws_markText, hv4, hb4, hb3, hAl, hbl, f0, f1, f2, hrow, hlr, hnn, Int.toNat_natCast, take_at hA, take_at0 hA, drop_at hA, drop_at0 hA, drop_at2 hA, take_at2 hA, drop_at3 hA, gs, reduceIte, reduceCtorEq, Nat.reduceAdd, Nat.reduceMul, Nat.reduceSub, Nat.reduceBEq, Nat.reduceEqDiff, Nat.reduceLeDiff, Nat.reduceLT, Nat.reduceGT, Int.reduceToNat, Int.reduceLT, Int.reduceLE, Int.reduceNeg, Int.reduceAdd, Int.reduceEq, Int.reduceNe, idxA_ptr, idxA_ip, retV_nil, at_app, at_app_set, enc_ob, enc_on, dec_ob, dec_on, ofI_ob, cells_ob, bookC_len, ev_ptr, ofI1_ob, dec_obx]
      refine call_f (fun h => getCells h qb (x0.length * 12) = some (A ++ V.i (I.s (Value.int IntKind.i64 k)) :: V.i (I.s (Value.int IntKind.i64 (w64 (k + 1)))) :: V.i (I.s (Value.int IntKind.i64 (w64 (w64 (k + 1) + 1)))) :: V.hsl g v4.deps.counts.length 0 1 false v4.deps.counts.length :: V.i (I.s (Value.int IntKind.i64 v4.kind)) :: V.i (I.s (Value.int IntKind.i64 v4.obj)) :: V.i (I.s (Value.int IntKind.i64 v4.n)) :: V.i (I.s (Value.int IntKind.i64 v4.undo)) :: V.i (I.s (Value.int IntKind.i64 v4.at_.time)) :: V.i (I.s (Value.int IntKind.i64 v4.at_.actor)) :: V.i (I.s (Value.string v4.key)) :: V.i (I.s (Value.string v4.text)) :: B) ∧ getCells h g v4.deps.counts.length = some (rows v4.deps.counts) ∧ Keep [qb, g] hh0 h) (fun h v h2 => i_laws_markIntS g v4.deps.counts.length h r v h2) ?_ ?_ ?_
      · exact ⟨by simp (maxSteps := 2000000) (disch := first | omega | (simp only [List.length_set, List.length_append, List.length_cons, List.length_nil, rows_len, zs]; first | done | omega)) only [hrow, hlr, hAl, hbl, gs, reduceIte, reduceCtorEq, Nat.reduceAdd, Nat.reduceMul, Nat.reduceSub, Nat.reduceBEq, Nat.reduceEqDiff, Nat.reduceLeDiff, Nat.reduceLT, Nat.reduceGT, Int.reduceToNat, Int.reduceLT, Int.reduceLE, Int.reduceNeg, Int.reduceAdd, Int.reduceEq, Int.reduceNe, idxA_ptr, idxA_ip, retV_nil, at_app, at_app_set, enc_ob, enc_on, dec_ob, dec_on, ofI_ob, cells_ob, bookC_len, ev_ptr, ofI1_ob, dec_obx], by simp (maxSteps := 2000000) (disch := first | omega | (simp only [List.length_set, List.length_append, List.length_cons, List.length_nil, rows_len, zs]; first | done | omega)) only [hkid, hgb, gs, reduceIte, reduceCtorEq, Nat.reduceAdd, Nat.reduceMul, Nat.reduceSub, Nat.reduceBEq, Nat.reduceEqDiff, Nat.reduceLeDiff, Nat.reduceLT, Nat.reduceGT, Int.reduceToNat, Int.reduceLT, Int.reduceLE, Int.reduceNeg, Int.reduceAdd, Int.reduceEq, Int.reduceNe, idxA_ptr, idxA_ip, retV_nil, at_app, at_app_set, enc_ob, enc_on, dec_ob, dec_on, ofI_ob, cells_ob, bookC_len, ev_ptr, ofI1_ob, dec_obx], keep_set (.inl (by simp)) (keep_set (.inl (by simp)) (keep_set (.inl (by simp)) keep_refl))⟩
      · rintro h ⟨c0, c1, c2⟩
        exact e_laws_markIntS _ _ _ hr g v4.deps.counts.length h rfl c1
      · rintro hc v hh1 ⟨c0, c1, c2⟩ hpost
        obtain ⟨kk, rfl, w⟩ := hpost
        have d0 := (keep_get kk (gc_lt c0) (by simp; omega)).trans c0
        have hbl1 := gc_lt d0
        have lr := len_rows w
        rw [show Pic.z Int = 1 from rfl, Nat.mul_one] at lr
        have hw : w64 ((s1.length : Int) + 1) = (s1.length : Int) + 1 := wrap_s (by omega) (by omega)
        have hlr1 := getCells_len d0
        simp (maxSteps := 2000000) (disch := first | omega | (simp only [List.length_set, List.length_append, List.length_cons, List.length_nil, rows_len, zs]; first | done | omega)) only [ep_laws_markText, hw1, hw2, hv4, hb4, hb3, hAl, hbl1, f0, f1, f2, d0, hlr1, hnn, hw, Int.toNat_natCast, Int.natCast_add, take_at hA, take_at0 hA, drop_at hA, drop_at0 hA, drop_at2 hA, take_at2 hA, drop_at3 hA, gs, reduceIte, reduceCtorEq, Nat.reduceAdd, Nat.reduceMul, Nat.reduceSub, Nat.reduceBEq, Nat.reduceEqDiff, Nat.reduceLeDiff, Nat.reduceLT, Nat.reduceGT, Int.reduceToNat, Int.reduceLT, Int.reduceLE, Int.reduceNeg, Int.reduceAdd, Int.reduceEq, Int.reduceNe, idxA_ptr, idxA_ip, retV_nil, at_app, at_app_set, enc_ob, enc_on, dec_ob, dec_on, ofI_ob, cells_ob, bookC_len, ev_ptr, ofI1_ob, dec_obx]
        simp only [List.set_set]
        have hk2 := fun s => keep_set (s := s) (b := qb) (.inl (by simp)) (keep_trans c2 kk (by intro b hb; simp at hb; left; simp [hb]))
        refine ⟨⟨Nat.le_trans hK.len (hk2 _).len, fun c hc hn => ((hk2 _).at_ c (Nat.lt_of_lt_of_le hc hK.len) (by simp; omega)).trans (hK.at_ c hc hn)⟩, by simp; omega, ?_⟩
        rw [List.length_append, List.length_singleton, List.append_assoc, List.singleton_append]
        refine hclose _ _ (hk2 _).len (fun c h1 h2 h3 => (hk2 _).at_ c h1 (by simp [h2, h3])) ?_ ?_
        · rw [set_cells d0]
          · simp only [rowN, List.cons_append, List.nil_append, iN, iS, ← lr]
          · simp only [List.length_append, List.length_cons]
            omega
        · rw [getCells_congr (List.getElem?_set_ne (Ne.symm hgb))]
          simp only [kid, ← lr]
          exact w
    · rw [if_neg hb3] at hp
      have hb4 : decide ((s1.length : Int) < (x0.length : Int)) = false := by simpa using hb3
      have hp := Option.some.inj hp
      subst hp
      simp (maxSteps := 2000000) (disch := first | omega | (simp only [List.length_set, List.length_append, List.length_cons, List.length_nil, rows_len, zs]; first | done | omega)) only [hb4, f0, f1, f2, f3, gs, reduceIte, reduceCtorEq, Nat.reduceAdd, Nat.reduceMul, Nat.reduceSub, Nat.reduceBEq, Nat.reduceEqDiff, Nat.reduceLeDiff, Nat.reduceLT, Nat.reduceGT, Int.reduceToNat, Int.reduceLT, Int.reduceLE, Int.reduceNeg, Int.reduceAdd, Int.reduceEq, Int.reduceNe, idxA_ptr, idxA_ip, retV_nil, at_app, at_app_set, enc_ob, enc_on, dec_ob, dec_on, ofI_ob, cells_ob, bookC_len, ev_ptr, ofI1_ob, dec_obx]
  · have : MkI hh lo hi qb qs x0 hh [] := ⟨keepI_refl, Nat.zero_le _, by simpa using hN0⟩
    simp (maxSteps := 2000000) (disch := first | omega | (simp only [List.length_set, List.length_append, List.length_cons, List.length_nil, rows_len, zs]; first | done | omega)) only [this, gs, reduceIte, reduceCtorEq, Nat.reduceAdd, Nat.reduceMul, Nat.reduceSub, Nat.reduceBEq, Nat.reduceEqDiff, Nat.reduceLeDiff, Nat.reduceLT, Nat.reduceGT, Int.reduceToNat, Int.reduceLT, Int.reduceLE, Int.reduceNeg, Int.reduceAdd, Int.reduceEq, Int.reduceNe, idxA_ptr, idxA_ip, retV_nil, at_app, at_app_set, enc_ob, enc_on, dec_ob, dec_on, ofI_ob, cells_ob, bookC_len, ev_ptr, ofI1_ob, dec_obx]
  · intro x tt1 hh1 hx
    rcases ee0 with ⟨o8, k8⟩ | r
    · obtain ⟨rfl, f0, f1, f2, hK, hle, hN⟩ := hx
      dsimp only at hp
      have hp := Option.some.inj hp
      subst hp
      have hq : x0.length ≤ o8.length := loopP_outQ (Q := fun o : List TOp × Int => x0.length ≤ o.1.length) hee0 (fun s o h => by
        obtain ⟨s1, s2⟩ := s
        rw [p_laws_markOpS_l0] at h
        split at h
        · obtain ⟨_, _, h⟩ := bind_eq h
          obtain ⟨_, _, h⟩ := bind_eq h
          split at h <;> cases h
        · cases h
          dsimp only
          omega)
      have he : x0.length = o8.length := by omega
      rw [List.drop_eq_nil_of_le hq, List.append_nil] at hN
      have hd : i_laws_markOpS lo hi (.hsl qb (x0.length * 12) 0 12 true x0.length) hh ⟨k8, o8⟩ (.i (.s (.int .i64 k8))) hh1 := ⟨hK, rfl, qb, qs, by rw [he, z_TOp], hN⟩
      rw [z_TOp]
      simp (maxSteps := 2000000) (disch := first | omega | (simp only [List.length_set, List.length_append, List.length_cons, List.length_nil, rows_len, zs]; first | done | omega)) only [f0, f1, f2, hd, gs, reduceIte, reduceCtorEq, Nat.reduceAdd, Nat.reduceMul, Nat.reduceSub, Nat.reduceBEq, Nat.reduceEqDiff, Nat.reduceLeDiff, Nat.reduceLT, Nat.reduceGT, Int.reduceToNat, Int.reduceLT, Int.reduceLE, Int.reduceNeg, Int.reduceAdd, Int.reduceEq, Int.reduceNe, idxA_ptr, idxA_ip, retV_nil, at_app, at_app_set, enc_ob, enc_on, dec_ob, dec_on, ofI_ob, cells_ob, bookC_len, ev_ptr, ofI1_ob, dec_obx]
    · obtain ⟨rfl, hx⟩ := hx
      dsimp only at hp
      cases hp
      simp only [seqK_ret, blockK_ret, retK_RK, hx, and_self, true_and]
theorem ko_laws_markOpS {P : Program} {env : Env} {f_laws_markIntS f_laws_markText : Nat} (ep_laws_markText : env (2 * f_laws_markText) = pureFn true (FA fun a : Int => p_laws_markText a)) (e_laws_markIntS : k_laws_markIntS (env (2 * f_laws_markIntS + 1))) : k_laws_markOpS (runIn P env (c_laws_markOpS f_laws_markIntS f_laws_markText)) := by
  intro x0 x1 b hp lo hi v h a0
  exact w_laws_markOpS ep_laws_markText e_laws_markIntS x0 x1 hp lo hi v h a0
end

noncomputable def p_laws_markVector (x0 : TVec) (x1 : Int) : Option (T2 Int TVec) :=
  (p_laws_markIntS x0.counts x1).bind fun v0 =>
  some ⟨v0.a, (TVec.mk v0.b)⟩
def c_laws_markVector (f_laws_markIntS : Nat) : AFn := ⟨10, (.seq (.ops [⟨(.some 2), (.box (.tmp 0)), .none, []⟩, ⟨(.some 4), (.mv (.const (.int .i64 0))), .none, []⟩]) (.seq (.ops [⟨(.some 5), (.fieldA 0 (.tmp 2)), .none, []⟩, ⟨(.some 6), (.load 1 false (.tmp 5)), .none, []⟩, ⟨(.some 7), (.mv (.tmp 1)), .none, []⟩, ⟨(.some 8), (.call (2 * f_laws_markIntS + 1) [(.tmp 6), (.tmp 7)]), .none, []⟩, ⟨(.some 1), (.mv (.tmp 8)), .none, []⟩]) (.seq (.ops [⟨(.some 9), (.mv (.tmp 1)), .none, []⟩, ⟨(.some 4), (.mv (.tmp 9)), .none, []⟩]) .ret))), [(.tmp 4)]⟩
def i_laws_markVector (pb0 pn0 : Nat) (h : Heap) (b : T2 Int TVec) (v : V) (h2 : Heap) : Prop := Keep [pb0] h h2 ∧ v = .i (.s (.int .i64 b.a)) ∧ getCells h2 pb0 pn0 = some (rows b.b.counts)
def k_laws_markVector (F : Fun) : Prop := ∀ (x0 : TVec) (x1 : Int) (b : T2 Int TVec), p_laws_markVector x0 x1 = some b → ∀ (pb0 pn0 : Nat) (h : Heap), pn0 = (x0.counts).length → getCells h pb0 pn0 = some (rows x0.counts) → ∃ p, F none [.agg [.hsl pb0 pn0 0 1 false pn0], .i (.s (.int .i64 x1))] h = some p ∧ i_laws_markVector pb0 pn0 h b p.1 p.2
set_option maxHeartbeats 10000000 in
theorem w_laws_markVector {P : Program} {env : Env} {f_laws_markIntS : Nat}  (e_laws_markIntS : k_laws_markIntS (env (2 * f_laws_markIntS + 1))) (x0 : TVec) (x1 : Int) {b : T2 Int TVec} (hp : p_laws_markVector x0 x1 = some b) (pb0 pn0 : Nat) (hh : Heap) (pm0 : pn0 = (x0.counts).length) (pf0 : getCells hh pb0 pn0 = some (rows x0.counts)) : R P env (c_laws_markVector f_laws_markIntS) [.agg [.hsl pb0 pn0 0 1 false pn0], .i (.s (.int .i64 x1))] hh (i_laws_markVector pb0 pn0 hh b) := by
  have pl0 := gc_lt pf0
  have pg0 : getCells hh pb0 x0.counts.length = some (rows x0.counts) := by rw [← pm0]; exact pf0
  refine R_of (by simp [c_laws_markVector, encA]) ?_
  unfold c_laws_markVector
  unfold p_laws_markVector at hp
  obtain ⟨v0, hv0, hp⟩ := bind_eq hp
  simp (maxSteps := 2000000) (disch := first | omega | (simp only [List.length_set, List.length_append, List.length_cons, List.length_nil, rows_len, zs]; first | done | omega)) only [pf0, pg0, gs, reduceIte, reduceCtorEq, Nat.reduceAdd, Nat.reduceMul, Nat.reduceSub, Nat.reduceBEq, Nat.reduceEqDiff, Nat.reduceLeDiff, Nat.reduceLT, Nat.reduceGT, Int.reduceToNat, Int.reduceLT, Int.reduceLE, Int.reduceNeg, Int.reduceAdd, Int.reduceEq, Int.reduceNe, idxA_ptr, idxA_ip, retV_nil, at_app, at_app_set, enc_ob, enc_on, dec_ob, dec_on, ofI_ob, cells_ob, bookC_len, ev_ptr, ofI1_ob, dec_obx]
  refine call_f (fun h => getCells h pb0 pn0 = some (rows (x0.counts : List Int)) ∧ pb0 < h.length ∧ getCells h hh.length 1 = some [.hsl pb0 pn0 0 1 false pn0] ∧ hh.length < h.length ∧ Keep [pb0] hh h) (fun h v h2 => i_laws_markIntS pb0 pn0 h v0 v h2) ?_ ?_ ?_
  · simp (maxSteps := 2000000) (disch := first | omega | (simp only [List.length_set, List.length_append, List.length_cons, List.length_nil, rows_len, zs]; first | done | omega)) only [i_laws_markVector, pf0, pg0, hv0, gs, reduceIte, reduceCtorEq, Nat.reduceAdd, Nat.reduceMul, Nat.reduceSub, Nat.reduceBEq, Nat.reduceEqDiff, Nat.reduceLeDiff, Nat.reduceLT, Nat.reduceGT, Int.reduceToNat, Int.reduceLT, Int.reduceLE, Int.reduceNeg, Int.reduceAdd, Int.reduceEq, Int.reduceNe, idxA_ptr, idxA_ip, retV_nil, at_app, at_app_set, enc_ob, enc_on, dec_ob, dec_on, ofI_ob, cells_ob, bookC_len, ev_ptr, ofI1_ob, dec_obx] <;> (repeat (first | omega | assumption | rfl | exact keep_refl | refine keep_app ?_ | (refine keep_set (by first | (left; simp; done) | (right; simp; omega)) ?_) | refine And.intro ?_ ?_))
  · rintro h ⟨c0_0, c0_1, c0_2, c0_3, c0_4⟩
    exact e_laws_markIntS _ _ _ hv0 pb0 pn0 h (by first | omega | rfl) c0_0
  · rintro hc0 v hh0 ⟨c0_0, c0_1, c0_2, c0_3, c0_4⟩ hpost
    obtain ⟨kk0, rfl, w0_0⟩ := hpost
    have d0_0 : getCells hh0 pb0 pn0 = some (rows (v0.b : List Int)) := w0_0
    have mm0_0 := len_rows w0_0
    simp only [zs] at mm0_0
    have d0_0l := keep_lt kk0 c0_1
    have d0_1 : getCells hh0 hh.length 1 = some [.hsl pb0 pn0 0 1 false pn0] := (keep_get kk0 c0_3 (by first | (simp; done) | (simp; omega))).trans c0_2
    have d0_1l := keep_lt kk0 c0_3
    have kp0 : Keep [pb0] hh hh0 := keep_trans c0_4 kk0 (by intro b hb; first | (simp at hb; done) | (simp at hb ⊢; omega))
    have hp := Option.some.inj hp
    subst hp
    simp (maxSteps := 2000000) (disch := first | omega | (simp only [List.length_set, List.length_append, List.length_cons, List.length_nil, rows_len, zs]; first | done | omega)) only [i_laws_markVector, pf0, pg0, hv0, d0_0, d0_1, gs, reduceIte, reduceCtorEq, Nat.reduceAdd, Nat.reduceMul, Nat.reduceSub, Nat.reduceBEq, Nat.reduceEqDiff, Nat.reduceLeDiff, Nat.reduceLT, Nat.reduceGT, Int.reduceToNat, Int.reduceLT, Int.reduceLE, Int.reduceNeg, Int.reduceAdd, Int.reduceEq, Int.reduceNe, idxA_ptr, idxA_ip, retV_nil, at_app, at_app_set, enc_ob, enc_on, dec_ob, dec_on, ofI_ob, cells_ob, bookC_len, ev_ptr, ofI1_ob, dec_obx] <;> (repeat (first | omega | assumption | rfl | exact keep_refl | refine keep_app ?_ | (refine keep_set (by first | (left; simp; done) | (right; simp; omega)) ?_) | refine And.intro ?_ ?_))
theorem ko_laws_markVector {P : Program} {env : Env} {f_laws_markIntS : Nat}  (e_laws_markIntS : k_laws_markIntS (env (2 * f_laws_markIntS + 1))) : k_laws_markVector (runIn P env (c_laws_markVector f_laws_markIntS)) := by
  intro x0 x1 b hp pb0 pn0 h a0 a1
  exact w_laws_markVector e_laws_markIntS x0 x1 hp pb0 pn0 h a0 a1

noncomputable def p_laws_heldIntS_l0 (x0 : List Int) : Int × Int → Option (Lp (Int × Int) Int)
  | (s0, s1) =>
    if (decide (s1 < (x0.length : Int))) = true then
      (get? x0 s1).bind fun v3 =>
      if (decide (v3 = s0)) = true then
        some (.go (w64 (s0 + 1), w64 (s1 + 1)))
      else
        some (.ret (-1))
    else
      some (.out (s0, s1))
noncomputable def p_laws_heldIntS (x0 : List Int) (x1 : Int) : Option Int :=
  (loopP (p_laws_heldIntS_l0 x0) (x1, 0)).bind fun ee0 => match ee0 with
  | .ret r => some r
  | .out (o5, o6) =>
    some o5
def c_laws_heldIntS : AFn := ⟨21, (.seq (.ops [⟨(.some 4), (.mv (.const (.int .i64 0))), .none, []⟩]) (.seq (.seq (.ops [⟨(.some 5), (.mv (.const (.int .i64 0))), .none, []⟩]) (.block 0 (.loop (.seq (.seq (.ops [⟨(.some 6), (.mv (.tmp 5)), .none, []⟩, ⟨(.some 7), (.mv (.tmp 0)), .none, []⟩, ⟨(.some 8), (.len (.tmp 7)), .none, []⟩, ⟨(.some 9), (.pu (.n (.ar .lss)) [(.tmp 6), (.tmp 8)]), .none, []⟩]) (.cond (.tmp 9) .skip (.exit 0))) (.seq (.block 1 (.seq (.seq (.ops [⟨(.some 12), (.mv (.tmp 0)), .none, []⟩, ⟨(.some 13), (.mv (.tmp 5)), .none, []⟩, ⟨(.some 14), (.idxS 1 (.tmp 12) (.tmp 13)), .none, []⟩, ⟨(.some 15), (.load 1 false (.tmp 14)), .none, []⟩, ⟨(.some 16), (.mv (.tmp 1)), .none, []⟩, ⟨(.some 17), (.pu (.n (.ar .neq)) [(.tmp 15), (.tmp 16)]), .none, []⟩]) (.cond (.tmp 17) (.seq (.ops [⟨(.some 4), (.mv (.const (.int .i64 (-1)))), .none, []⟩]) .ret) .skip)) (.ops [⟨(.some 18), (.mv (.tmp 1)), .none, []⟩, ⟨(.some 19), (.pu (.n (.ar .add)) [(.tmp 18), (.const (.int .i64 1))]), .none, []⟩, ⟨(.some 1), (.mv (.tmp 19)), .none, []⟩]))) (.ops [⟨(.some 10), (.mv (.tmp 5)), .none, []⟩, ⟨(.some 11), (.pu (.n (.ar .add)) [(.tmp 10), (.const (.int .i64 1))]), .none, []⟩, ⟨(.some 5), (.mv (.tmp 11)), .none, []⟩])))))) (.seq (.ops [⟨(.some 20), (.mv (.tmp 1)), .none, []⟩, ⟨(.some 4), (.mv (.tmp 20)), .none, []⟩]) .ret))), [(.tmp 4)]⟩
set_option maxHeartbeats 10000000 in
theorem d_laws_heldIntS {P : Program} {env : Env}  (x0 : List Int) (x1 : Int) {b : Int} (hp : p_laws_heldIntS x0 x1 = some b) : R P env (c_laws_heldIntS) ((encA (x0, x1)).map ofI) [] (Tells true b) := by
  refine R_of (by simp [c_laws_heldIntS, encA]) ?_
  unfold c_laws_heldIntS
  unfold p_laws_heldIntS at hp
  obtain ⟨ee0, hee0, hp⟩ := bind_eq hp
  simp (maxSteps := 2000000) (disch := first | omega | (simp only [List.length_set, List.length_append, List.length_cons, List.length_nil, rows_len, zs]; first | done | omega)) only [gs, reduceIte, reduceCtorEq, Nat.reduceAdd, Nat.reduceMul, Nat.reduceSub, Nat.reduceBEq, Nat.reduceEqDiff, Nat.reduceLeDiff, Nat.reduceLT, Nat.reduceGT, Int.reduceToNat, Int.reduceLT, Int.reduceLE, Int.reduceNeg, Int.reduceAdd, Int.reduceEq, Int.reduceNe, idxA_ptr, idxA_ip, retV_nil, at_app, at_app_set, enc_ob, enc_on, dec_ob, dec_on, ofI_ob, cells_ob, bookC_len, ev_ptr, ofI1_ob, dec_obx]
  refine W_loopP 0 (fun s t h => match s with | (s0, s1) => t 0 = .i (.sl 1 (x0.map enc)) ∧ t 1 = .i (.s (.int .i64 s0)) ∧ t 5 = .i (.s (.int .i64 s1))) (RK [.tmp 4] (Tells true)) ?_ hee0 ?_ ?_
  · rintro ⟨s0, s1⟩ ee tt0 hh0 ⟨ftt0_0, ftt0_1, ftt0_2⟩ hp
    rw [p_laws_heldIntS_l0] at hp
    by_cases hb2 : (decide (s1 < (x0.length : Int))) = true
    · rw [if_t hb2] at hp
      obtain ⟨v3, hv3, hp⟩ := bind_eq hp
      by_cases hb4 : (decide (v3 = s0)) = true
      · rw [if_t hb4] at hp
        have hp := Option.some.inj hp
        subst hp
        simp (maxSteps := 2000000) (disch := first | omega | (simp only [List.length_set, List.length_append, List.length_cons, List.length_nil, rows_len, zs]; first | done | omega)) only [ftt0_0, ftt0_1, ftt0_2, hb2, hv3, hb4, gs, reduceIte, reduceCtorEq, Nat.reduceAdd, Nat.reduceMul, Nat.reduceSub, Nat.reduceBEq, Nat.reduceEqDiff, Nat.reduceLeDiff, Nat.reduceLT, Nat.reduceGT, Int.reduceToNat, Int.reduceLT, Int.reduceLE, Int.reduceNeg, Int.reduceAdd, Int.reduceEq, Int.reduceNe, idxA_ptr, idxA_ip, retV_nil, at_app, at_app_set, enc_ob, enc_on, dec_ob, dec_on, ofI_ob, cells_ob, bookC_len, ev_ptr, ofI1_ob, dec_obx] <;> omega
      · replace hb4 := eq_false_of_ne_true hb4
        rw [if_f hb4] at hp
        have hp := Option.some.inj hp
        subst hp
        simp (maxSteps := 2000000) (disch := first | omega | (simp only [List.length_set, List.length_append, List.length_cons, List.length_nil, rows_len, zs]; first | done | omega)) only [ftt0_0, ftt0_1, ftt0_2, hb2, hv3, hb4, gs, reduceIte, reduceCtorEq, Nat.reduceAdd, Nat.reduceMul, Nat.reduceSub, Nat.reduceBEq, Nat.reduceEqDiff, Nat.reduceLeDiff, Nat.reduceLT, Nat.reduceGT, Int.reduceToNat, Int.reduceLT, Int.reduceLE, Int.reduceNeg, Int.reduceAdd, Int.reduceEq, Int.reduceNe, idxA_ptr, idxA_ip, retV_nil, at_app, at_app_set, enc_ob, enc_on, dec_ob, dec_on, ofI_ob, cells_ob, bookC_len, ev_ptr, ofI1_ob, dec_obx]
    · replace hb2 := eq_false_of_ne_true hb2
      rw [if_f hb2] at hp
      have hp := Option.some.inj hp
      subst hp
      simp (maxSteps := 2000000) (disch := first | omega | (simp only [List.length_set, List.length_append, List.length_cons, List.length_nil, rows_len, zs]; first | done | omega)) only [ftt0_0, ftt0_1, ftt0_2, hb2, gs, reduceIte, reduceCtorEq, Nat.reduceAdd, Nat.reduceMul, Nat.reduceSub, Nat.reduceBEq, Nat.reduceEqDiff, Nat.reduceLeDiff, Nat.reduceLT, Nat.reduceGT, Int.reduceToNat, Int.reduceLT, Int.reduceLE, Int.reduceNeg, Int.reduceAdd, Int.reduceEq, Int.reduceNe, idxA_ptr, idxA_ip, retV_nil, at_app, at_app_set, enc_ob, enc_on, dec_ob, dec_on, ofI_ob, cells_ob, bookC_len, ev_ptr, ofI1_ob, dec_obx] <;> omega
  · simp (maxSteps := 2000000) (disch := first | omega | (simp only [List.length_set, List.length_append, List.length_cons, List.length_nil, rows_len, zs]; first | done | omega)) only [gs, reduceIte, reduceCtorEq, Nat.reduceAdd, Nat.reduceMul, Nat.reduceSub, Nat.reduceBEq, Nat.reduceEqDiff, Nat.reduceLeDiff, Nat.reduceLT, Nat.reduceGT, Int.reduceToNat, Int.reduceLT, Int.reduceLE, Int.reduceNeg, Int.reduceAdd, Int.reduceEq, Int.reduceNe, idxA_ptr, idxA_ip, retV_nil, at_app, at_app_set, enc_ob, enc_on, dec_ob, dec_on, ofI_ob, cells_ob, bookC_len, ev_ptr, ofI1_ob, dec_obx] <;> omega
  · intro x tt1 hh1 hx
    rcases ee0 with ⟨o5, o6⟩ | r
    · obtain ⟨rfl, ftt1_0, ftt1_1, ftt1_2⟩ := hx
      dsimp only at hp
      have hp := Option.some.inj hp
      subst hp
      simp (maxSteps := 2000000) (disch := first | omega | (simp only [List.length_set, List.length_append, List.length_cons, List.length_nil, rows_len, zs]; first | done | omega)) only [ftt1_0, ftt1_1, ftt1_2, gs, reduceIte, reduceCtorEq, Nat.reduceAdd, Nat.reduceMul, Nat.reduceSub, Nat.reduceBEq, Nat.reduceEqDiff, Nat.reduceLeDiff, Nat.reduceLT, Nat.reduceGT, Int.reduceToNat, Int.reduceLT, Int.reduceLE, Int.reduceNeg, Int.reduceAdd, Int.reduceEq, Int.reduceNe, idxA_ptr, idxA_ip, retV_nil, at_app, at_app_set, enc_ob, enc_on, dec_ob, dec_on, ofI_ob, cells_ob, bookC_len, ev_ptr, ofI1_ob, dec_obx]
    · obtain ⟨rfl, hx⟩ := hx
      dsimp only at hp
      cases hp
      simp only [seqK_ret, blockK_ret, retK_RK (K := Tells true), hx, and_self, true_and]

noncomputable def p_laws_heldVector (x0 : TVec) (x1 : Int) : Option Int :=
  (p_laws_heldIntS x0.counts x1).bind fun v0 =>
  if (decide (v0 < 0)) = true then
    some (-1)
  else
    some v0
def c_laws_heldVector (f_laws_heldIntS : Nat) : AFn := ⟨12, (.seq (.ops [⟨(.some 2), (.box (.tmp 0)), .none, []⟩, ⟨(.some 4), (.mv (.const (.int .i64 0))), .none, []⟩]) (.seq (.ops [⟨(.some 5), (.fieldA 0 (.tmp 2)), .none, []⟩, ⟨(.some 6), (.load 1 false (.tmp 5)), .none, []⟩, ⟨(.some 7), (.mv (.tmp 1)), .none, []⟩, ⟨(.some 8), (.call (2 * f_laws_heldIntS) [(.tmp 6), (.tmp 7)]), .none, []⟩, ⟨(.some 1), (.mv (.tmp 8)), .none, []⟩]) (.seq (.seq (.ops [⟨(.some 9), (.mv (.tmp 1)), .none, []⟩, ⟨(.some 10), (.pu (.n (.ar .lss)) [(.tmp 9), (.const (.int .i64 0))]), .none, []⟩]) (.cond (.tmp 10) (.seq (.ops [⟨(.some 4), (.mv (.const (.int .i64 (-1)))), .none, []⟩]) .ret) .skip)) (.seq (.ops [⟨(.some 11), (.mv (.tmp 1)), .none, []⟩, ⟨(.some 4), (.mv (.tmp 11)), .none, []⟩]) .ret)))), [(.tmp 4)]⟩
set_option maxHeartbeats 10000000 in
theorem d_laws_heldVector {P : Program} {env : Env} {f_laws_heldIntS : Nat}  (ep_laws_heldIntS : env (2 * f_laws_heldIntS) = pureFn true (FA fun a : List Int × Int => p_laws_heldIntS a.1 a.2)) (x0 : TVec) (x1 : Int) {b : Int} (hp : p_laws_heldVector x0 x1 = some b) : R P env (c_laws_heldVector f_laws_heldIntS) ((encA (x0, x1)).map ofI) [] (Tells true b) := by
  refine R_of (by simp [c_laws_heldVector, encA]) ?_
  unfold c_laws_heldVector
  unfold p_laws_heldVector at hp
  obtain ⟨v0, hv0, hp⟩ := bind_eq hp
  by_cases hb1 : (decide (v0 < 0)) = true
  · rw [if_t hb1] at hp
    have hp := Option.some.inj hp
    subst hp
    simp (maxSteps := 2000000) (disch := first | omega | (simp only [List.length_set, List.length_append, List.length_cons, List.length_nil, rows_len, zs]; first | done | omega)) only [ep_laws_heldIntS, hv0, hb1, gs, reduceIte, reduceCtorEq, Nat.reduceAdd, Nat.reduceMul, Nat.reduceSub, Nat.reduceBEq, Nat.reduceEqDiff, Nat.reduceLeDiff, Nat.reduceLT, Nat.reduceGT, Int.reduceToNat, Int.reduceLT, Int.reduceLE, Int.reduceNeg, Int.reduceAdd, Int.reduceEq, Int.reduceNe, idxA_ptr, idxA_ip, retV_nil, at_app, at_app_set, enc_ob, enc_on, dec_ob, dec_on, ofI_ob, cells_ob, bookC_len, ev_ptr, ofI1_ob, dec_obx]
  · replace hb1 := eq_false_of_ne_true hb1
    rw [if_f hb1] at hp
    have hp := Option.some.inj hp
    subst hp
    simp (maxSteps := 2000000) (disch := first | omega | (simp only [List.length_set, List.length_append, List.length_cons, List.length_nil, rows_len, zs]; first | done | omega)) only [ep_laws_heldIntS, hv0, hb1, gs, reduceIte, reduceCtorEq, Nat.reduceAdd, Nat.reduceMul, Nat.reduceSub, Nat.reduceBEq, Nat.reduceEqDiff, Nat.reduceLeDiff, Nat.reduceLT, Nat.reduceGT, Int.reduceToNat, Int.reduceLT, Int.reduceLE, Int.reduceNeg, Int.reduceAdd, Int.reduceEq, Int.reduceNe, idxA_ptr, idxA_ip, retV_nil, at_app, at_app_set, enc_ob, enc_on, dec_ob, dec_on, ofI_ob, cells_ob, bookC_len, ev_ptr, ofI1_ob, dec_obx]

noncomputable def p_laws_FnExactLogVector (x0 : List TOp) : Option Bool :=
  (p_laws_szOpS x0 1048576).bind fun v0 =>
  if (decide (v0 < 0)) = true then
    some true
  else
    (p_laws_toOpS x0).bind fun v2 =>
    (p_spec_LogVector v2).bind fun v3 =>
    (p_impl_LogVector v2).bind fun v4 =>
    (p_laws_eqVector v4.a v3.a).bind fun v5 =>
    if (v5) = true then
      if (decide (v4.b = v3.b)) = true then
        (p_laws_eqOpS v2 v2).bind fun v8 =>
        if (v8) = true then
          (p_laws_markOpS v2 1).bind fun v10 =>
          if (decide (v10.a < 0)) = true then
            some false
          else
            (p_laws_markVector v4.a 1).bind fun v12 =>
            (p_laws_heldVector v12.b 1).bind fun v13 =>
            if (decide (v13 < 0)) = true then
              some false
            else
              if (decide (v13 = v12.a)) = true then
                some true
              else
                some false
        else
          some false
      else
        some false
    else
      some false
def c_laws_FnExactLogVector (f_laws_szOpS : Nat) (f_laws_toOpS : Nat) (f_spec_LogVector : Nat) (f_impl_LogVector : Nat) (f_laws_eqVector : Nat) (f_laws_eqOpS : Nat) (f_laws_markOpS : Nat) (f_laws_markVector : Nat) (f_laws_heldVector : Nat) : AFn := ⟨96, (.seq (.ops [⟨(.some 2), (.mv (.const (.bool false))), .none, []⟩]) (.seq (.ops [⟨(.some 3), (.mv (.const (.int .i64 1048576))), .none, []⟩]) (.seq (.ops [⟨(.some 14), (.mv (.tmp 0)), .none, []⟩, ⟨(.some 15), (.mv (.tmp 3)), .none, []⟩, ⟨(.some 16), (.call (2 * f_laws_szOpS) [(.tmp 14), (.tmp 15)]), .none, []⟩, ⟨(.some 3), (.mv (.tmp 16)), .none, []⟩]) (.seq (.seq (.ops [⟨(.some 17), (.mv (.tmp 3)), .none, []⟩, ⟨(.some 18), (.pu (.n (.ar .lss)) [(.tmp 17), (.const (.int .i64 0))]), .none, []⟩]) (.cond (.tmp 18) (.seq (.ops [⟨(.some 2), (.mv (.const (.bool true))), .none, []⟩]) .ret) .skip)) (.seq (.ops [⟨(.some 20), (.mv (.tmp 0)), .none, []⟩, ⟨(.some 21), (.call (2 * f_laws_toOpS) [(.tmp 20)]), .none, []⟩, ⟨(.some 22), (.call (2 * f_spec_LogVector) [(.tmp 21)]), .none, []⟩, ⟨(.some 19), (.mv (.tmp 22)), .none, []⟩, ⟨(.some 23), (.extract 0 (.tmp 19)), .none, []⟩, ⟨(.some 24), (.extract 1 (.tmp 19)), .none, []⟩, ⟨(.some 4), (.allocV [(1, false)] [(.slice .none 0 0)]), .none, []⟩, ⟨.none, (.storeV [(1, false)] 1 (.tmp 4) (.tmp 23)), .none, []⟩, ⟨(.some 5), (.mv (.tmp 24)), .none, []⟩]) (.seq (.ops [⟨(.some 25), (.mv (.tmp 0)), .none, []⟩, ⟨(.some 26), (.call (2 * f_laws_toOpS + 1) [(.tmp 25)]), .none, []⟩, ⟨(.some 6), (.mv (.tmp 26)), .none, []⟩]) (.seq (.ops [⟨(.some 28), (.mv (.tmp 6)), .none, []⟩, ⟨(.some 29), (.call (2 * f_impl_LogVector + 1) [(.tmp 28)]), .none, []⟩, ⟨(.some 27), (.mv (.tmp 29)), .none, []⟩, ⟨(.some 30), (.extract 0 (.tmp 27)), .none, []⟩, ⟨(.some 31), (.extract 1 (.tmp 27)), .none, []⟩, ⟨(.some 7), (.allocV [(1, false)] [(.slice .none 0 0)]), .none, []⟩, ⟨.none, (.storeV [(1, false)] 1 (.tmp 7) (.tmp 30)), .none, []⟩, ⟨(.some 8), (.mv (.tmp 31)), .none, []⟩]) (.seq (.seq (.ops [⟨(.some 32), (.load 1 true (.tmp 7)), .none, []⟩, ⟨(.some 33), (.load 1 true (.tmp 4)), .none, []⟩, ⟨(.some 34), (.call (2 * f_laws_eqVector) [(.tmp 32), (.tmp 33)]), .none, []⟩, ⟨(.some 35), (.pu (.n (.un .not)) [(.tmp 34)]), .none, []⟩, ⟨(.some 36), (.mv (.tmp 35)), .none, []⟩, ⟨(.some 37), (.mv (.tmp 8)), (.some (36, false)), []⟩, ⟨(.some 38), (.mv (.tmp 5)), (.some (36, false)), []⟩, ⟨(.some 39), (.pu (.n (.ar .neq)) [(.tmp 37), (.tmp 38)]), (.some (36, false)), []⟩, ⟨(.some 40), (.pick (.tmp 36) (.const (.bool true)) (.tmp 39)), .none, []⟩]) (.cond (.tmp 40) (.seq (.ops [⟨(.some 2), (.mv (.const (.bool false))), .none, []⟩]) .ret) .skip)) (.seq (.seq (.ops [⟨(.some 41), (.mv (.tmp 6)), .none, []⟩, ⟨(.some 42), (.mv (.tmp 0)), .none, []⟩, ⟨(.some 43), (.call (2 * f_laws_toOpS + 1) [(.tmp 42)]), .none, []⟩, ⟨(.some 44), (.call (2 * f_laws_eqOpS) [(.tmp 41), (.tmp 43)]), .none, []⟩, ⟨(.some 45), (.pu (.n (.un .not)) [(.tmp 44)]), .none, []⟩]) (.cond (.tmp 45) (.seq (.ops [⟨(.some 2), (.mv (.const (.bool false))), .none, []⟩]) .ret) .skip)) (.seq (.ops [⟨(.some 9), (.mv (.const (.int .i64 1))), .none, []⟩]) (.seq (.ops [⟨(.some 46), (.mv (.tmp 6)), .none, []⟩, ⟨(.some 47), (.mv (.tmp 9)), .none, []⟩, ⟨(.some 48), (.call (2 * f_laws_markOpS + 1) [(.tmp 46), (.tmp 47)]), .none, []⟩, ⟨(.some 9), (.mv (.tmp 48)), .none, []⟩]) (.seq (.seq (.ops [⟨(.some 49), (.mv (.tmp 9)), .none, []⟩, ⟨(.some 50), (.pu (.n (.ar .lss)) [(.tmp 49), (.const (.int .i64 0))]), .none, []⟩, ⟨(.some 51), (.mv (.tmp 50)), .none, []⟩, ⟨(.some 52), (.load 1 true (.tmp 7)), (.some (51, false)), []⟩, ⟨(.some 53), (.load 1 true (.tmp 4)), (.some (51, false)), []⟩, ⟨(.some 54), (.call (2 * f_laws_eqVector) [(.tmp 52), (.tmp 53)]), (.some (51, false)), []⟩, ⟨(.some 55), (.pu (.n (.un .not)) [(.tmp 54)]), (.some (51, false)), []⟩, ⟨(.some 56), (.pick (.tmp 51) (.const (.bool true)) (.tmp 55)), .none, []⟩, ⟨(.some 57), (.mv (.tmp 56)), .none, []⟩, ⟨(.some 58), (.mv (.tmp 8)), (.some (57, false)), []⟩, ⟨(.some 59), (.mv (.tmp 5)), (.some (57, false)), []⟩, ⟨(.some 60), (.pu (.n (.ar .neq)) [(.tmp 58), (.tmp 59)]), (.some (57, false)), []⟩, ⟨(.some 61), (.pick (.tmp 57) (.const (.bool true)) (.tmp 60)), .none, []⟩]) (.cond (.tmp 61) (.seq (.ops [⟨(.some 2), (.mv (.const (.bool false))), .none, []⟩]) .ret) .skip)) (.seq (.ops [⟨(.some 10), (.mv (.const (.int .i64 1))), .none, []⟩]) (.seq (.ops [⟨(.some 62), (.load 1 true (.tmp 7)), .none, []⟩, ⟨(.some 63), (.mv (.tmp 10)), .none, []⟩, ⟨(.some 64), (.call (2 * f_laws_markVector + 1) [(.tmp 62), (.tmp 63)]), .none, []⟩, ⟨(.some 10), (.mv (.tmp 64)), .none, []⟩]) (.seq (.ops [⟨(.some 11), (.mv (.const (.int .i64 1))), .none, []⟩]) (.seq (.ops [⟨(.some 65), (.load 1 true (.tmp 7)), .none, []⟩, ⟨(.some 66), (.mv (.tmp 11)), .none, []⟩, ⟨(.some 67), (.call (2 * f_laws_heldVector) [(.tmp 65), (.tmp 66)]), .none, []⟩, ⟨(.some 11), (.mv (.tmp 67)), .none, []⟩]) (.seq (.seq (.ops [⟨(.some 68), (.mv (.tmp 11)), .none, []⟩, ⟨(.some 69), (.pu (.n (.ar .lss)) [(.tmp 68), (.const (.int .i64 0))]), .none, []⟩]) (.cond (.tmp 69) (.seq (.ops [⟨(.some 2), (.mv (.const (.bool false))), .none, []⟩]) .ret) .skip)) (.seq (.seq (.ops [⟨(.some 70), (.mv (.tmp 11)), .none, []⟩, ⟨(.some 71), (.mv (.tmp 10)), .none, []⟩, ⟨(.some 72), (.pu (.n (.ar .neq)) [(.tmp 70), (.tmp 71)]), .none, []⟩]) (.cond (.tmp 72) (.seq (.ops [⟨(.some 2), (.mv (.const (.bool false))), .none, []⟩]) .ret) .skip)) (.seq (.ops [⟨(.some 74), (.mv (.tmp 0)), .none, []⟩, ⟨(.some 75), (.call (2 * f_laws_toOpS + 1) [(.tmp 74)]), .none, []⟩, ⟨(.some 76), (.call (2 * f_impl_LogVector + 1) [(.tmp 75)]), .none, []⟩, ⟨(.some 73), (.mv (.tmp 76)), .none, []⟩, ⟨(.some 77), (.extract 0 (.tmp 73)), .none, []⟩, ⟨(.some 78), (.extract 1 (.tmp 73)), .none, []⟩, ⟨(.some 12), (.allocV [(1, false)] [(.slice .none 0 0)]), .none, []⟩, ⟨.none, (.storeV [(1, false)] 1 (.tmp 12) (.tmp 77)), .none, []⟩, ⟨(.some 13), (.mv (.tmp 78)), .none, []⟩]) (.seq (.seq (.ops [⟨(.some 79), (.load 1 true (.tmp 12)), .none, []⟩, ⟨(.some 80), (.load 1 true (.tmp 4)), .none, []⟩, ⟨(.some 81), (.call (2 * f_laws_eqVector) [(.tmp 79), (.tmp 80)]), .none, []⟩, ⟨(.some 82), (.pu (.n (.un .not)) [(.tmp 81)]), .none, []⟩, ⟨(.some 83), (.mv (.tmp 82)), .none, []⟩, ⟨(.some 84), (.mv (.tmp 13)), (.some (83, false)), []⟩, ⟨(.some 85), (.mv (.tmp 5)), (.some (83, false)), []⟩, ⟨(.some 86), (.pu (.n (.ar .neq)) [(.tmp 84), (.tmp 85)]), (.some (83, false)), []⟩, ⟨(.some 87), (.pick (.tmp 83) (.const (.bool true)) (.tmp 86)), .none, []⟩]) (.cond (.tmp 87) (.seq (.ops [⟨(.some 2), (.mv (.const (.bool false))), .none, []⟩]) .ret) .skip)) (.seq (.ops [⟨(.some 11), (.mv (.const (.int .i64 1))), .none, []⟩]) (.seq (.ops [⟨(.some 88), (.load 1 true (.tmp 7)), .none, []⟩, ⟨(.some 89), (.mv (.tmp 11)), .none, []⟩, ⟨(.some 90), (.call (2 * f_laws_heldVector) [(.tmp 88), (.tmp 89)]), .none, []⟩, ⟨(.some 11), (.mv (.tmp 90)), .none, []⟩]) (.seq (.seq (.ops [⟨(.some 91), (.mv (.tmp 11)), .none, []⟩, ⟨(.some 92), (.pu (.n (.ar .lss)) [(.tmp 91), (.const (.int .i64 0))]), .none, []⟩]) (.cond (.tmp 92) (.seq (.ops [⟨(.some 2), (.mv (.const (.bool false))), .none, []⟩]) .ret) .skip)) (.seq (.seq (.ops [⟨(.some 93), (.mv (.tmp 11)), .none, []⟩, ⟨(.some 94), (.mv (.tmp 10)), .none, []⟩, ⟨(.some 95), (.pu (.n (.ar .neq)) [(.tmp 93), (.tmp 94)]), .none, []⟩]) (.cond (.tmp 95) (.seq (.ops [⟨(.some 2), (.mv (.const (.bool false))), .none, []⟩]) .ret) .skip)) (.seq (.ops [⟨(.some 2), (.mv (.const (.bool true))), .none, []⟩]) .ret))))))))))))))))))))))))), [(.tmp 2)]⟩
set_option maxHeartbeats 10000000 in
theorem d_laws_FnExactLogVector {P : Program} {env : Env} {f_laws_szOpS : Nat} {f_laws_toOpS : Nat} {f_spec_LogVector : Nat} {f_impl_LogVector : Nat} {f_laws_eqVector : Nat} {f_laws_eqOpS : Nat} {f_laws_markOpS : Nat} {f_laws_markVector : Nat} {f_laws_heldVector : Nat}  (ep_laws_szOpS : env (2 * f_laws_szOpS) = pureFn true (FA fun a : List TOp × Int => p_laws_szOpS a.1 a.2)) (ep_laws_toOpS : env (2 * f_laws_toOpS) = pureFn false (FA fun a : List TOp => p_laws_toOpS a)) (ep_spec_LogVector : env (2 * f_spec_LogVector) = pureFn false (FA fun a : List TOp => p_spec_LogVector a)) (ep_laws_eqVector : env (2 * f_laws_eqVector) = pureFn true (FA fun a : TVec × TVec => p_laws_eqVector a.1 a.2)) (ep_laws_eqOpS : env (2 * f_laws_eqOpS) = pureFn true (FA fun a : List TOp × List TOp => p_laws_eqOpS a.1 a.2)) (ep_laws_heldVector : env (2 * f_laws_heldVector) = pureFn true (FA fun a : TVec × Int => p_laws_heldVector a.1 a.2)) (e_laws_toOpS : k_laws_toOpS (env (2 * f_laws_toOpS + 1))) (e_impl_LogVector : k_impl_LogVector (env (2 * f_impl_LogVector + 1))) (e_laws_markOpS : k_laws_markOpS (env (2 * f_laws_markOpS + 1))) (e_laws_markVector : k_laws_markVector (env (2 * f_laws_markVector + 1))) (x0 : List TOp) (hp : p_laws_FnExactLogVector x0 = some true) : R P env (c_laws_FnExactLogVector f_laws_szOpS f_laws_toOpS f_spec_LogVector f_impl_LogVector f_laws_eqVector f_laws_eqOpS f_laws_markOpS f_laws_markVector f_laws_heldVector) ((encA (x0)).map ofI) [] (fun v _ => v = .i (iB true)) := by
  refine R_of (by simp [c_laws_FnExactLogVector, encA]) ?_
  unfold c_laws_FnExactLogVector
  unfold p_laws_FnExactLogVector at hp
  obtain ⟨v0, hv0, hp⟩ := bind_eq hp
  by_cases hb1 : (decide (v0 < 0)) = true
  · rw [if_t hb1] at hp
    cases hp
    simp (maxSteps := 2000000) (disch := first | omega | (simp only [List.length_set, List.length_append, List.length_cons, List.length_nil, rows_len, zs]; first | done | omega)) only [ep_laws_szOpS, ep_laws_toOpS, ep_spec_LogVector, ep_laws_eqVector, ep_laws_eqOpS, ep_laws_heldVector, hv0, hb1, gs, reduceIte, reduceCtorEq, Nat.reduceAdd, Nat.reduceMul, Nat.reduceSub, Nat.reduceBEq, Nat.reduceEqDiff, Nat.reduceLeDiff, Nat.reduceLT, Nat.reduceGT, Int.reduceToNat, Int.reduceLT, Int.reduceLE, Int.reduceNeg, Int.reduceAdd, Int.reduceEq, Int.reduceNe, idxA_ptr, idxA_ip, retV_nil, at_app, at_app_set, enc_ob, enc_on, dec_ob, dec_on, ofI_ob, cells_ob, bookC_len, ev_ptr, ofI1_ob, dec_obx]
  · replace hb1 := eq_false_of_ne_true hb1
    rw [if_f hb1] at hp
    obtain ⟨v2, hv2, hp⟩ := bind_eq hp
    obtain ⟨v3, hv3, hp⟩ := bind_eq hp
    simp (maxSteps := 2000000) (disch := first | omega | (simp only [List.length_set, List.length_append, List.length_cons, List.length_nil, rows_len, zs]; first | done | omega)) only [ep_laws_szOpS, ep_laws_toOpS, ep_spec_LogVector, ep_laws_eqVector, ep_laws_eqOpS, ep_laws_heldVector, hv0, hb1, hv2, hv3, gs, reduceIte, reduceCtorEq, Nat.reduceAdd, Nat.reduceMul, Nat.reduceSub, Nat.reduceBEq, Nat.reduceEqDiff, Nat.reduceLeDiff, Nat.reduceLT, Nat.reduceGT, Int.reduceToNat, Int.reduceLT, Int.reduceLE, Int.reduceNeg, Int.reduceAdd, Int.reduceEq, Int.reduceNe, idxA_ptr, idxA_ip, retV_nil, at_app, at_app_set, enc_ob, enc_on, dec_ob, dec_on, ofI_ob, cells_ob, bookC_len, ev_ptr, ofI1_ob, dec_obx]
    refine call_f (fun h => getCells h 0 0 = some [] ∧ 0 < h.length ∧ getCells h 1 1 = some [.i (.sl 1 (v3.a.counts.map enc))] ∧ 1 < h.length) (fun h v h2 => oo_laws_toOpS v2 h v h2) ?_ ?_ ?_
    · simp (maxSteps := 2000000) (disch := first | omega | (simp only [List.length_set, List.length_append, List.length_cons, List.length_nil, rows_len, zs]; first | done | omega)) only [ep_laws_szOpS, ep_laws_toOpS, ep_spec_LogVector, ep_laws_eqVector, ep_laws_eqOpS, ep_laws_heldVector, hv0, hb1, hv2, hv3, gs, reduceIte, reduceCtorEq, Nat.reduceAdd, Nat.reduceMul, Nat.reduceSub, Nat.reduceBEq, Nat.reduceEqDiff, Nat.reduceLeDiff, Nat.reduceLT, Nat.reduceGT, Int.reduceToNat, Int.reduceLT, Int.reduceLE, Int.reduceNeg, Int.reduceAdd, Int.reduceEq, Int.reduceNe, idxA_ptr, idxA_ip, retV_nil, at_app, at_app_set, enc_ob, enc_on, dec_ob, dec_on, ofI_ob, cells_ob, bookC_len, ev_ptr, ofI1_ob, dec_obx] <;> (repeat (first | omega | assumption | exact nest_ext (by assumption) | exact nest_wide (by assumption) (Nat.zero_le _) (by first | omega | (simp; omega)) (Nat.le_refl _) | exact nest_wide (nest_ext (by assumption)) (Nat.zero_le _) (by first | omega | (simp; omega)) (Nat.le_refl _) | exact nest_virt (by simp (maxSteps := 2000000) (disch := first | omega | (simp only [List.length_set, List.length_append, List.length_cons, List.length_nil, rows_len, zs]; first | done | omega)) only [ep_laws_szOpS, ep_laws_toOpS, ep_spec_LogVector, ep_laws_eqVector, ep_laws_eqOpS, ep_laws_heldVector, hv0, hb1, hv2, hv3, gs, reduceIte, reduceCtorEq, Nat.reduceAdd, Nat.reduceMul, Nat.reduceSub, Nat.reduceBEq, Nat.reduceEqDiff, Nat.reduceLeDiff, Nat.reduceLT, Nat.reduceGT, Int.reduceToNat, Int.reduceLT, Int.reduceLE, Int.reduceNeg, Int.reduceAdd, Int.reduceEq, Int.reduceNe, idxA_ptr, idxA_ip, retV_nil, at_app, at_app_set, enc_ob, enc_on, dec_ob, dec_on, ofI_ob, cells_ob, bookC_len, ev_ptr, ofI1_ob, dec_obx]) (by omega) (by first | omega | (simp; done) | (simp; omega)) (by first | omega | (simp; done) | (simp; omega)) | refine nest_ext ?_ | refine nest_set ?_ (by omega) | refine And.intro ?_ ?_))
    · rintro h ⟨c0_0, c0_1, c0_2, c0_3⟩
      exact e_laws_toOpS _ _ hv2 h _ (by simp (maxSteps := 2000000) (disch := first | omega | (simp only [List.length_set, List.length_append, List.length_cons, List.length_nil, rows_len, zs]; first | done | omega)) only [ep_laws_szOpS, ep_laws_toOpS, ep_spec_LogVector, ep_laws_eqVector, ep_laws_eqOpS, ep_laws_heldVector, hv0, hb1, hv2, hv3, c0_0, c0_1, c0_2, c0_3, gs, reduceIte, reduceCtorEq, Nat.reduceAdd, Nat.reduceMul, Nat.reduceSub, Nat.reduceBEq, Nat.reduceEqDiff, Nat.reduceLeDiff, Nat.reduceLT, Nat.reduceGT, Int.reduceToNat, Int.reduceLT, Int.reduceLE, Int.reduceNeg, Int.reduceAdd, Int.reduceEq, Int.reduceNe, idxA_ptr, idxA_ip, retV_nil, at_app, at_app_set, enc_ob, enc_on, dec_ob, dec_on, ofI_ob, cells_ob, bookC_len, ev_ptr, ofI1_ob, dec_obx])
    · rintro hc0 nb0_0 hh0 ⟨c0_0, c0_1, c0_2, c0_3⟩ hpost
      obtain ⟨kk0, _, rfl, wnb0_0⟩ := hpost
      have d0_0 : getCells hh0 0 0 = some [] := (keep_get kk0 c0_1 (by first | (simp; done) | (simp; omega))).trans c0_0
      have d0_0l := keep_lt kk0 c0_1
      have d0_1 : getCells hh0 1 1 = some [.i (.sl 1 (v3.a.counts.map enc))] := (keep_get kk0 c0_3 (by first | (simp; done) | (simp; omega))).trans c0_2
      have d0_1l := keep_lt kk0 c0_3
      have d0_2 := wnb0_0
      have d0_2l := nest_lt d0_2
      have d0_2s : snap 9 false hh0 nb0_0 = some (.sl 12 (v2.map enc)) := snap_nest (n := 5) d0_2
      have d0_2n : lenS nb0_0 = some v2.length := nest_lenS d0_2
      obtain ⟨v4, hv4, hp⟩ := bind_eq hp
      simp (maxSteps := 2000000) (disch := first | omega | (simp only [List.length_set, List.length_append, List.length_cons, List.length_nil, rows_len, zs]; first | done | omega)) only [ep_laws_szOpS, ep_laws_toOpS, ep_spec_LogVector, ep_laws_eqVector, ep_laws_eqOpS, ep_laws_heldVector, hv0, hb1, hv2, hv3, d0_0, d0_1, d0_2, d0_2s, d0_2n, gs, reduceIte, reduceCtorEq, Nat.reduceAdd, Nat.reduceMul, Nat.reduceSub, Nat.reduceBEq, Nat.reduceEqDiff, Nat.reduceLeDiff, Nat.reduceLT, Nat.reduceGT, Int.reduceToNat, Int.reduceLT, Int.reduceLE, Int.reduceNeg, Int.reduceAdd, Int.reduceEq, Int.reduceNe, idxA_ptr, idxA_ip, retV_nil, at_app, at_app_set, enc_ob, enc_on, dec_ob, dec_on, ofI_ob, cells_ob, bookC_len, ev_ptr, ofI1_ob, dec_obx]
      refine call_f (fun h => getCells h 0 0 = some [] ∧ 0 < h.length ∧ getCells h 1 1 = some [.i (.sl 1 (v3.a.counts.map enc))] ∧ 1 < h.length ∧ NestV h hc0.length hh0.length nb0_0 (v2 : List TOp) ∧ hh0.length ≤ h.length) (fun h v h2 => oo_impl_LogVector v4 h v h2) ?_ ?_ ?_
      · simp (maxSteps := 2000000) (disch := first | omega | (simp only [List.length_set, List.length_append, List.length_cons, List.length_nil, rows_len, zs]; first | done | omega)) only [ep_laws_szOpS, ep_laws_toOpS, ep_spec_LogVector, ep_laws_eqVector, ep_laws_eqOpS, ep_laws_heldVector, hv0, hb1, hv2, hv3, d0_0, d0_1, d0_2, d0_2s, d0_2n, hv4, gs, reduceIte, reduceCtorEq, Nat.reduceAdd, Nat.reduceMul, Nat.reduceSub, Nat.reduceBEq, Nat.reduceEqDiff, Nat.reduceLeDiff, Nat.reduceLT, Nat.reduceGT, Int.reduceToNat, Int.reduceLT, Int.reduceLE, Int.reduceNeg, Int.reduceAdd, Int.reduceEq, Int.reduceNe, idxA_ptr, idxA_ip, retV_nil, at_app, at_app_set, enc_ob, enc_on, dec_ob, dec_on, ofI_ob, cells_ob, bookC_len, ev_ptr, ofI1_ob, dec_obx] <;> (repeat (first | omega | assumption | exact nest_ext (by assumption) | exact nest_wide (by assumption) (Nat.zero_le _) (by first | omega | (simp; omega)) (Nat.le_refl _) | exact nest_wide (nest_ext (by assumption)) (Nat.zero_le _) (by first | omega | (simp; omega)) (Nat.le_refl _) | exact nest_virt (by simp (maxSteps := 2000000) (disch := first | omega | (simp only [List.length_set, List.length_append, List.length_cons, List.length_nil, rows_len, zs]; first | done | omega)) only [ep_laws_szOpS, ep_laws_toOpS, ep_spec_LogVector, ep_laws_eqVector, ep_laws_eqOpS, ep_laws_heldVector, hv0, hb1, hv2, hv3, d0_0, d0_1, d0_2, d0_2s, d0_2n, hv4, gs, reduceIte, reduceCtorEq, Nat.reduceAdd, Nat.reduceMul, Nat.reduceSub, Nat.reduceBEq, Nat.reduceEqDiff, Nat.reduceLeDiff, Nat.reduceLT, Nat.reduceGT, Int.reduceToNat, Int.reduceLT, Int.reduceLE, Int.reduceNeg, Int.reduceAdd, Int.reduceEq, Int.reduceNe, idxA_ptr, idxA_ip, retV_nil, at_app, at_app_set, enc_ob, enc_on, dec_ob, dec_on, ofI_ob, cells_ob, bookC_len, ev_ptr, ofI1_ob, dec_obx]) (by omega) (by first | omega | (simp; done) | (simp; omega)) (by first | omega | (simp; done) | (simp; omega)) | refine nest_ext ?_ | refine nest_set ?_ (by omega) | refine And.intro ?_ ?_))
      · rintro h ⟨c1_0, c1_1, c1_2, c1_3, c1_4, c1_5⟩
        have sc1_2 : snap 9 false h nb0_0 = some (.sl 12 (v2.map enc)) := snap_nest (n := 5) c1_4
        exact e_impl_LogVector _ _ hv4 h _ (by simp (maxSteps := 2000000) (disch := first | omega | (simp only [List.length_set, List.length_append, List.length_cons, List.length_nil, rows_len, zs]; first | done | omega)) only [ep_laws_szOpS, ep_laws_toOpS, ep_spec_LogVector, ep_laws_eqVector, ep_laws_eqOpS, ep_laws_heldVector, hv0, hb1, hv2, hv3, d0_0, d0_1, d0_2, d0_2s, d0_2n, hv4, c1_0, c1_1, c1_2, c1_3, c1_4, c1_5, sc1_2, gs, reduceIte, reduceCtorEq, Nat.reduceAdd, Nat.reduceMul, Nat.reduceSub, Nat.reduceBEq, Nat.reduceEqDiff, Nat.reduceLeDiff, Nat.reduceLT, Nat.reduceGT, Int.reduceToNat, Int.reduceLT, Int.reduceLE, Int.reduceNeg, Int.reduceAdd, Int.reduceEq, Int.reduceNe, idxA_ptr, idxA_ip, retV_nil, at_app, at_app_set, enc_ob, enc_on, dec_ob, dec_on, ofI_ob, cells_ob, bookC_len, ev_ptr, ofI1_ob, dec_obx])
      · rintro hc1 v hh1 ⟨c1_0, c1_1, c1_2, c1_3, c1_4, c1_5⟩ hpost
        obtain ⟨kk1, nb1_0, rfl, lnb1_0, gnb1_0, wnb1_0⟩ := hpost
        have d1_0 : getCells hh1 0 0 = some [] := (keep_get kk1 c1_1 (by first | (simp; done) | (simp; omega))).trans c1_0
        have d1_0l := keep_lt kk1 c1_1
        have d1_1 : getCells hh1 1 1 = some [.i (.sl 1 (v3.a.counts.map enc))] := (keep_get kk1 c1_3 (by first | (simp; done) | (simp; omega))).trans c1_2
        have d1_1l := keep_lt kk1 c1_3
        have d1_2 : NestV hh1 hc0.length hh0.length nb0_0 (v2 : List TOp) := nest_keep c1_4 kk1 (by intro b hb; first | (simp at hb; done) | (simp at hb; omega))
        have d1_2l := nest_lt d1_2
        have d1_2s : snap 9 false hh1 nb0_0 = some (.sl 12 (v2.map enc)) := snap_nest (n := 5) d1_2
        have d1_2n : lenS nb0_0 = some v2.length := nest_lenS d1_2
        have d1_3 := wnb1_0
        obtain ⟨v5, hv5, hp⟩ := bind_eq hp
        by_cases hb6 : (v5) = true
        · rw [if_t hb6] at hp
          by_cases hb7 : (decide (v4.b = v3.b)) = true
          · rw [if_t hb7] at hp
            simp (maxSteps := 2000000) (disch := first | omega | (simp only [List.length_set, List.length_append, List.length_cons, List.length_nil, rows_len, zs]; first | done | omega)) only [ep_laws_szOpS, ep_laws_toOpS, ep_spec_LogVector, ep_laws_eqVector, ep_laws_eqOpS, ep_laws_heldVector, hv0, hb1, hv2, hv3, d0_0, d0_1, d0_2, d0_2s, d0_2n, hv4, d1_0, d1_1, d1_2, d1_2s, d1_2n, d1_3, hv5, hb6, hb7, gs, reduceIte, reduceCtorEq, Nat.reduceAdd, Nat.reduceMul, Nat.reduceSub, Nat.reduceBEq, Nat.reduceEqDiff, Nat.reduceLeDiff, Nat.reduceLT, Nat.reduceGT, Int.reduceToNat, Int.reduceLT, Int.reduceLE, Int.reduceNeg, Int.reduceAdd, Int.reduceEq, Int.reduceNe, idxA_ptr, idxA_ip, retV_nil, at_app, at_app_set, enc_ob, enc_on, dec_ob, dec_on, ofI_ob, cells_ob, bookC_len, ev_ptr, ofI1_ob, dec_obx]
            refine call_f (fun h => getCells h 0 0 = some [] ∧ 0 < h.length ∧ getCells h 1 1 = some [.i (.sl 1 (v3.a.counts.map enc))] ∧ 1 < h.length ∧ NestV h hc0.length hh0.length nb0_0 (v2 : List TOp) ∧ hh0.length ≤ h.length ∧ getCells h nb1_0 v4.a.counts.length = some (rows (v4.a.counts : List Int)) ∧ nb1_0 < h.length ∧ getCells h hh1.length 0 = some [] ∧ hh1.length < h.length ∧ getCells h (hh1.length + 1) 1 = some [.hsl nb1_0 v4.a.counts.length 0 1 false v4.a.counts.length] ∧ hh1.length + 1 < h.length) (fun h v h2 => oo_laws_toOpS v2 h v h2) ?_ ?_ ?_
            · simp (maxSteps := 2000000) (disch := first | omega | (simp only [List.length_set, List.length_append, List.length_cons, List.length_nil, rows_len, zs]; first | done | omega)) only [ep_laws_szOpS, ep_laws_toOpS, ep_spec_LogVector, ep_laws_eqVector, ep_laws_eqOpS, ep_laws_heldVector, hv0, hb1, hv2, hv3, d0_0, d0_1, d0_2, d0_2s, d0_2n, hv4, d1_0, d1_1, d1_2, d1_2s, d1_2n, d1_3, hv5, hb6, hb7, gs, reduceIte, reduceCtorEq, Nat.reduceAdd, Nat.reduceMul, Nat.reduceSub, Nat.reduceBEq, Nat.reduceEqDiff, Nat.reduceLeDiff, Nat.reduceLT, Nat.reduceGT, Int.reduceToNat, Int.reduceLT, Int.reduceLE, Int.reduceNeg, Int.reduceAdd, Int.reduceEq, Int.reduceNe, idxA_ptr, idxA_ip, retV_nil, at_app, at_app_set, enc_ob, enc_on, dec_ob, dec_on, ofI_ob, cells_ob, bookC_len, ev_ptr, ofI1_ob, dec_obx] <;> (repeat (first | omega | assumption | exact nest_ext (by assumption) | exact nest_wide (by assumption) (Nat.zero_le _) (by first | omega | (simp; omega)) (Nat.le_refl _) | exact nest_wide (nest_ext (by assumption)) (Nat.zero_le _) (by first | omega | (simp; omega)) (Nat.le_refl _) | exact nest_virt (by simp (maxSteps := 2000000) (disch := first | omega | (simp only [List.length_set, List.length_append, List.length_cons, List.length_nil, rows_len, zs]; first | done | omega)) only [ep_laws_szOpS, ep_laws_toOpS, ep_spec_LogVector, ep_laws_eqVector, ep_laws_eqOpS, ep_laws_heldVector, hv0, hb1, hv2, hv3, d0_0, d0_1, d0_2, d0_2s, d0_2n, hv4, d1_0, d1_1, d1_2, d1_2s, d1_2n, d1_3, hv5, hb6, hb7, gs, reduceIte, reduceCtorEq, Nat.reduceAdd, Nat.reduceMul, Nat.reduceSub, Nat.reduceBEq, Nat.reduceEqDiff, Nat.reduceLeDiff, Nat.reduceLT, Nat.reduceGT, Int.reduceToNat, Int.reduceLT, Int.reduceLE, Int.reduceNeg, Int.reduceAdd, Int.reduceEq, Int.reduceNe, idxA_ptr, idxA_ip, retV_nil, at_app, at_app_set, enc_ob, enc_on, dec_ob, dec_on, ofI_ob, cells_ob, bookC_len, ev_ptr, ofI1_ob, dec_obx]) (by omega) (by first | omega | (simp; done) | (simp; omega)) (by first | omega | (simp; done) | (simp; omega)) | refine nest_ext ?_ | refine nest_set ?_ (by omega) | refine And.intro ?_ ?_))
            · rintro h ⟨c2_0, c2_1, c2_2, c2_3, c2_4, c2_5, c2_6, c2_7, c2_8, c2_9, c2_10, c2_11⟩
              have sc2_2 : snap 9 false h nb0_0 = some (.sl 12 (v2.map enc)) := snap_nest (n := 5) c2_4
              exact e_laws_toOpS _ _ hv2 h _ (by simp (maxSteps := 2000000) (disch := first | omega | (simp only [List.length_set, List.length_append, List.length_cons, List.length_nil, rows_len, zs]; first | done | omega)) only [ep_laws_szOpS, ep_laws_toOpS, ep_spec_LogVector, ep_laws_eqVector, ep_laws_eqOpS, ep_laws_heldVector, hv0, hb1, hv2, hv3, d0_0, d0_1, d0_2, d0_2s, d0_2n, hv4, d1_0, d1_1, d1_2, d1_2s, d1_2n, d1_3, hv5, hb6, hb7, c2_0, c2_1, c2_2, c2_3, c2_4, c2_5, c2_6, c2_7, c2_8, c2_9, c2_10, c2_11, sc2_2, gs, reduceIte, reduceCtorEq, Nat.reduceAdd, Nat.reduceMul, Nat.reduceSub, Nat.reduceBEq, Nat.reduceEqDiff, Nat.reduceLeDiff, Nat.reduceLT, Nat.reduceGT, Int.reduceToNat, Int.reduceLT, Int.reduceLE, Int.reduceNeg, Int.reduceAdd, Int.reduceEq, Int.reduceNe, idxA_ptr, idxA_ip, retV_nil, at_app, at_app_set, enc_ob, enc_on, dec_ob, dec_on, ofI_ob, cells_ob, bookC_len, ev_ptr, ofI1_ob, dec_obx])
            · rintro hc2 nb2_0 hh2 ⟨c2_0, c2_1, c2_2, c2_3, c2_4, c2_5, c2_6, c2_7, c2_8, c2_9, c2_10, c2_11⟩ hpost
              obtain ⟨kk2, _, rfl, wnb2_0⟩ := hpost
              have d2_0 : getCells hh2 0 0 = some [] := (keep_get kk2 c2_1 (by first | (simp; done) | (simp; omega))).trans c2_0
              have d2_0l := keep_lt kk2 c2_1
              have d2_1 : getCells hh2 1 1 = some [.i (.sl 1 (v3.a.counts.map enc))] := (keep_get kk2 c2_3 (by first | (simp; done) | (simp; omega))).trans c2_2
              have d2_1l := keep_lt kk2 c2_3
              have d2_2 : NestV hh2 hc0.length hh0.length nb0_0 (v2 : List TOp) := nest_keep c2_4 kk2 (by intro b hb; first | (simp at hb; done) | (simp at hb; omega))
              have d2_2l := nest_lt d2_2
              have d2_2s : snap 9 false hh2 nb0_0 = some (.sl 12 (v2.map enc)) := snap_nest (n := 5) d2_2
              have d2_2n : lenS nb0_0 = some v2.length := nest_lenS d2_2
              have d2_3 : getCells hh2 nb1_0 v4.a.counts.length = some (rows (v4.a.counts : List Int)) := (keep_get kk2 c2_7 (by first | (simp; done) | (simp; omega))).trans c2_6
              have d2_3l := keep_lt kk2 c2_7
              have d2_4 : getCells hh2 hh1.length 0 = some [] := (keep_get kk2 c2_9 (by first | (simp; done) | (simp; omega))).trans c2_8
              have d2_4l := keep_lt kk2 c2_9
              have d2_5 : getCells hh2 (hh1.length + 1) 1 = some [.hsl nb1_0 v4.a.counts.length 0 1 false v4.a.counts.length] := (keep_get kk2 c2_11 (by first | (simp; done) | (simp; omega))).trans c2_10
              have d2_5l := keep_lt kk2 c2_11
              have d2_6 := wnb2_0
              have d2_6l := nest_lt d2_6
              have d2_6s : snap 9 false hh2 nb2_0 = some (.sl 12 (v2.map enc)) := snap_nest (n := 5) d2_6
              have d2_6n : lenS nb2_0 = some v2.length := nest_lenS d2_6
              obtain ⟨v8, hv8, hp⟩ := bind_eq hp
              by_cases hb9 : (v8) = true
              · rw [if_t hb9] at hp
                obtain ⟨v10, hv10, hp⟩ := bind_eq hp
                simp (maxSteps := 2000000) (disch := first | omega | (simp only [List.length_set, List.length_append, List.length_cons, List.length_nil, rows_len, zs]; first | done | omega)) only [ep_laws_szOpS, ep_laws_toOpS, ep_spec_LogVector, ep_laws_eqVector, ep_laws_eqOpS, ep_laws_heldVector, hv0, hb1, hv2, hv3, d0_0, d0_1, d0_2, d0_2s, d0_2n, hv4, d1_0, d1_1, d1_2, d1_2s, d1_2n, d1_3, hv5, hb6, hb7, d2_0, d2_1, d2_2, d2_2s, d2_2n, d2_3, d2_4, d2_5, d2_6, d2_6s, d2_6n, hv8, hb9, gs, reduceIte, reduceCtorEq, Nat.reduceAdd, Nat.reduceMul, Nat.reduceSub, Nat.reduceBEq, Nat.reduceEqDiff, Nat.reduceLeDiff, Nat.reduceLT, Nat.reduceGT, Int.reduceToNat, Int.reduceLT, Int.reduceLE, Int.reduceNeg, Int.reduceAdd, Int.reduceEq, Int.reduceNe, idxA_ptr, idxA_ip, retV_nil, at_app, at_app_set, enc_ob, enc_on, dec_ob, dec_on, ofI_ob, cells_ob, bookC_len, ev_ptr, ofI1_ob, dec_obx]
                refine call_f (fun h => getCells h 0 0 = some [] ∧ 0 < h.length ∧ getCells h 1 1 = some [.i (.sl 1 (v3.a.counts.map enc))] ∧ 1 < h.length ∧ NestV h hc0.length hh0.length nb0_0 (v2 : List TOp) ∧ hh0.length ≤ h.length ∧ getCells h nb1_0 v4.a.counts.length = some (rows (v4.a.counts : List Int)) ∧ nb1_0 < h.length ∧ getCells h hh1.length 0 = some [] ∧ hh1.length < h.length ∧ getCells h (hh1.length + 1) 1 = some [.hsl nb1_0 v4.a.counts.length 0 1 false v4.a.counts.length] ∧ hh1.length + 1 < h.length ∧ NestV h hc2.length hh2.length nb2_0 (v2 : List TOp) ∧ hh2.length ≤ h.length) (fun h v h2 => i_laws_markOpS hc0.length hh0.length nb0_0 h v10 v h2) ?_ ?_ ?_
                · simp (maxSteps := 2000000) (disch := first | omega | (simp only [List.length_set, List.length_append, List.length_cons, List.length_nil, rows_len, zs]; first | done | omega)) only [ep_laws_szOpS, ep_laws_toOpS, ep_spec_LogVector, ep_laws_eqVector, ep_laws_eqOpS, ep_laws_heldVector, hv0, hb1, hv2, hv3, d0_0, d0_1, d0_2, d0_2s, d0_2n, hv4, d1_0, d1_1, d1_2, d1_2s, d1_2n, d1_3, hv5, hb6, hb7, d2_0, d2_1, d2_2, d2_2s, d2_2n, d2_3, d2_4, d2_5, d2_6, d2_6s, d2_6n, hv8, hb9, hv10, gs, reduceIte, reduceCtorEq, Nat.reduceAdd, Nat.reduceMul, Nat.reduceSub, Nat.reduceBEq, Nat.reduceEqDiff, Nat.reduceLeDiff, Nat.reduceLT, Nat.reduceGT, Int.reduceToNat, Int.reduceLT, Int.reduceLE, Int.reduceNeg, Int.reduceAdd, Int.reduceEq, Int.reduceNe, idxA_ptr, idxA_ip, retV_nil, at_app, at_app_set, enc_ob, enc_on, dec_ob, dec_on, ofI_ob, cells_ob, bookC_len, ev_ptr, ofI1_ob, dec_obx] <;> (repeat (first | omega | assumption | exact nest_ext (by assumption) | exact nest_wide (by assumption) (Nat.zero_le _) (by first | omega | (simp; omega)) (Nat.le_refl _) | exact nest_wide (nest_ext (by assumption)) (Nat.zero_le _) (by first | omega | (simp; omega)) (Nat.le_refl _) | exact nest_virt (by simp (maxSteps := 2000000) (disch := first | omega | (simp only [List.length_set, List.length_append, List.length_cons, List.length_nil, rows_len, zs]; first | done | omega)) only [ep_laws_szOpS, ep_laws_toOpS, ep_spec_LogVector, ep_laws_eqVector, ep_laws_eqOpS, ep_laws_heldVector, hv0, hb1, hv2, hv3, d0_0, d0_1, d0_2, d0_2s, d0_2n, hv4, d1_0, d1_1, d1_2, d1_2s, d1_2n, d1_3, hv5, hb6, hb7, d2_0, d2_1, d2_2, d2_2s, d2_2n, d2_3, d2_4, d2_5, d2_6, d2_6s, d2_6n, hv8, hb9, hv10, gs, reduceIte, reduceCtorEq, Nat.reduceAdd, Nat.reduceMul, Nat.reduceSub, Nat.reduceBEq, Nat.reduceEqDiff, Nat.reduceLeDiff, Nat.reduceLT, Nat.reduceGT, Int.reduceToNat, Int.reduceLT, Int.reduceLE, Int.reduceNeg, Int.reduceAdd, Int.reduceEq, Int.reduceNe, idxA_ptr, idxA_ip, retV_nil, at_app, at_app_set, enc_ob, enc_on, dec_ob, dec_on, ofI_ob, cells_ob, bookC_len, ev_ptr, ofI1_ob, dec_obx]) (by omega) (by first | omega | (simp; done) | (simp; omega)) (by first | omega | (simp; done) | (simp; omega)) | refine nest_ext ?_ | refine nest_set ?_ (by omega) | refine And.intro ?_ ?_))
                · rintro h ⟨c3_0, c3_1, c3_2, c3_3, c3_4, c3_5, c3_6, c3_7, c3_8, c3_9, c3_10, c3_11, c3_12, c3_13⟩
                  have sc3_2 : snap 9 false h nb0_0 = some (.sl 12 (v2.map enc)) := snap_nest (n := 5) c3_4
                  have sc3_6 : snap 9 false h nb2_0 = some (.sl 12 (v2.map enc)) := snap_nest (n := 5) c3_12
                  exact e_laws_markOpS _ _ _ hv10 _ _ _ h c3_4
                · rintro hc3 v hh3 ⟨c3_0, c3_1, c3_2, c3_3, c3_4, c3_5, c3_6, c3_7, c3_8, c3_9, c3_10, c3_11, c3_12, c3_13⟩ hpost
                  obtain ⟨kk3, rfl, w3_0⟩ := hpost
                  have d3_0 : getCells hh3 0 0 = some [] := (keepI_get kk3 c3_1 (by omega)).trans c3_0
                  have d3_0l := keepI_lt kk3 c3_1
                  have d3_1 : getCells hh3 1 1 = some [.i (.sl 1 (v3.a.counts.map enc))] := (keepI_get kk3 c3_3 (by omega)).trans c3_2
                  have d3_1l := keepI_lt kk3 c3_3
                  have d3_2 : NestV hh3 hc0.length hh0.length nb0_0 (v10.b : List TOp) := w3_0
                  have d3_2l := nest_lt d3_2
                  have d3_2s : snap 9 false hh3 nb0_0 = some (.sl 12 (v10.b.map enc)) := snap_nest (n := 5) d3_2
                  have d3_2n : lenS nb0_0 = some v10.b.length := nest_lenS d3_2
                  have d3_3 : getCells hh3 nb1_0 v4.a.counts.length = some (rows (v4.a.counts : List Int)) := (keepI_get kk3 c3_7 (by omega)).trans c3_6
                  have d3_3l := keepI_lt kk3 c3_7
                  have d3_4 : getCells hh3 hh1.length 0 = some [] := (keepI_get kk3 c3_9 (by omega)).trans c3_8
                  have d3_4l := keepI_lt kk3 c3_9
                  have d3_5 : getCells hh3 (hh1.length + 1) 1 = some [.hsl nb1_0 v4.a.counts.length 0 1 false v4.a.counts.length] := (keepI_get kk3 c3_11 (by omega)).trans c3_10
                  have d3_5l := keepI_lt kk3 c3_11
                  have d3_6 : NestV hh3 hc2.length hh2.length nb2_0 (v2 : List TOp) := nest_keepI c3_12 kk3 (by omega)
                  have d3_6l := nest_lt d3_6
                  have d3_6s : snap 9 false hh3 nb2_0 = some (.sl 12 (v2.map enc)) := snap_nest (n := 5) d3_6
                  have d3_6n : lenS nb2_0 = some v2.length := nest_lenS d3_6
                  by_cases hb11 : (decide (v10.a < 0)) = true
                  · rw [if_t hb11] at hp
                    cases hp
                  · replace hb11 := eq_false_of_ne_true hb11
                    rw [if_f hb11] at hp
                    obtain ⟨v12, hv12, hp⟩ := bind_eq hp
                    simp (maxSteps := 2000000) (disch := first | omega | (simp only [List.length_set, List.length_append, List.length_cons, List.length_nil, rows_len, zs]; first | done | omega)) only [ep_laws_szOpS, ep_laws_toOpS, ep_spec_LogVector, ep_laws_eqVector, ep_laws_eqOpS, ep_laws_heldVector, hv0, hb1, hv2, hv3, d0_0, d0_1, d0_2, d0_2s, d0_2n, hv4, d1_0, d1_1, d1_2, d1_2s, d1_2n, d1_3, hv5, hb6, hb7, d2_0, d2_1, d2_2, d2_2s, d2_2n, d2_3, d2_4, d2_5, d2_6, d2_6s, d2_6n, hv8, hb9, hv10, d3_0, d3_1, d3_2, d3_2s, d3_2n, d3_3, d3_4, d3_5, d3_6, d3_6s, d3_6n, hb11, gs, reduceIte, reduceCtorEq, Nat.reduceAdd, Nat.reduceMul, Nat.reduceSub, Nat.reduceBEq, Nat.reduceEqDiff, Nat.reduceLeDiff, Nat.reduceLT, Nat.reduceGT, Int.reduceToNat, Int.reduceLT, Int.reduceLE, Int.reduceNeg, Int.reduceAdd, Int.reduceEq, Int.reduceNe, idxA_ptr, idxA_ip, retV_nil, at_app, at_app_set, enc_ob, enc_on, dec_ob, dec_on, ofI_ob, cells_ob, bookC_len, ev_ptr, ofI1_ob, dec_obx]
                    refine call_f (fun h => getCells h 0 0 = some [] ∧ 0 < h.length ∧ getCells h 1 1 = some [.i (.sl 1 (v3.a.counts.map enc))] ∧ 1 < h.length ∧ NestV h hc0.length hh0.length nb0_0 (v10.b : List TOp) ∧ hh0.length ≤ h.length ∧ getCells h nb1_0 v4.a.counts.length = some (rows (v4.a.counts : List Int)) ∧ nb1_0 < h.length ∧ getCells h hh1.length 0 = some [] ∧ hh1.length < h.length ∧ getCells h (hh1.length + 1) 1 = some [.hsl nb1_0 v4.a.counts.length 0 1 false v4.a.counts.length] ∧ hh1.length + 1 < h.length ∧ NestV h hc2.length hh2.length nb2_0 (v2 : List TOp) ∧ hh2.length ≤ h.length) (fun h v h2 => i_laws_markVector nb1_0 v4.a.counts.length h v12 v h2) ?_ ?_ ?_
                    · simp (maxSteps := 2000000) (disch := first | omega | (simp only [List.length_set, List.length_append, List.length_cons, List.length_nil, rows_len, zs]; first | done | omega)) only [ep_laws_szOpS, ep_laws_toOpS, ep_spec_LogVector, ep_laws_eqVector, ep_laws_eqOpS, ep_laws_heldVector, hv0, hb1, hv2, hv3, d0_0, d0_1, d0_2, d0_2s, d0_2n, hv4, d1_0, d1_1, d1_2, d1_2s, d1_2n, d1_3, hv5, hb6, hb7, d2_0, d2_1, d2_2, d2_2s, d2_2n, d2_3, d2_4, d2_5, d2_6, d2_6s, d2_6n, hv8, hb9, hv10, d3_0, d3_1, d3_2, d3_2s, d3_2n, d3_3, d3_4, d3_5, d3_6, d3_6s, d3_6n, hb11, hv12, gs, reduceIte, reduceCtorEq, Nat.reduceAdd, Nat.reduceMul, Nat.reduceSub, Nat.reduceBEq, Nat.reduceEqDiff, Nat.reduceLeDiff, Nat.reduceLT, Nat.reduceGT, Int.reduceToNat, Int.reduceLT, Int.reduceLE, Int.reduceNeg, Int.reduceAdd, Int.reduceEq, Int.reduceNe, idxA_ptr, idxA_ip, retV_nil, at_app, at_app_set, enc_ob, enc_on, dec_ob, dec_on, ofI_ob, cells_ob, bookC_len, ev_ptr, ofI1_ob, dec_obx] <;> (repeat (first | omega | assumption | exact nest_ext (by assumption) | exact nest_wide (by assumption) (Nat.zero_le _) (by first | omega | (simp; omega)) (Nat.le_refl _) | exact nest_wide (nest_ext (by assumption)) (Nat.zero_le _) (by first | omega | (simp; omega)) (Nat.le_refl _) | exact nest_virt (by simp (maxSteps := 2000000) (disch := first | omega | (simp only [List.length_set, List.length_append, List.length_cons, List.length_nil, rows_len, zs]; first | done | omega)) only [ep_laws_szOpS, ep_laws_toOpS, ep_spec_LogVector, ep_laws_eqVector, ep_laws_eqOpS, ep_laws_heldVector, hv0, hb1, hv2, hv3, d0_0, d0_1, d0_2, d0_2s, d0_2n, hv4, d1_0, d1_1, d1_2, d1_2s, d1_2n, d1_3, hv5, hb6, hb7, d2_0, d2_1, d2_2, d2_2s, d2_2n, d2_3, d2_4, d2_5, d2_6, d2_6s, d2_6n, hv8, hb9, hv10, d3_0, d3_1, d3_2, d3_2s, d3_2n, d3_3, d3_4, d3_5, d3_6, d3_6s, d3_6n, hb11, hv12, gs, reduceIte, reduceCtorEq, Nat.reduceAdd, Nat.reduceMul, Nat.reduceSub, Nat.reduceBEq, Nat.reduceEqDiff, Nat.reduceLeDiff, Nat.reduceLT, Nat.reduceGT, Int.reduceToNat, Int.reduceLT, Int.reduceLE, Int.reduceNeg, Int.reduceAdd, Int.reduceEq, Int.reduceNe, idxA_ptr, idxA_ip, retV_nil, at_app, at_app_set, enc_ob, enc_on, dec_ob, dec_on, ofI_ob, cells_ob, bookC_len, ev_ptr, ofI1_ob, dec_obx]) (by omega) (by first | omega | (simp; done) | (simp; omega)) (by first | omega | (simp; done) | (simp; omega)) | refine nest_ext ?_ | refine nest_set ?_ (by omega) | refine And.intro ?_ ?_))
                    · rintro h ⟨c4_0, c4_1, c4_2, c4_3, c4_4, c4_5, c4_6, c4_7, c4_8, c4_9, c4_10, c4_11, c4_12, c4_13⟩
                      have sc4_2 : snap 9 false h nb0_0 = some (.sl 12 (v10.b.map enc)) := snap_nest (n := 5) c4_4
                      have sc4_6 : snap 9 false h nb2_0 = some (.sl 12 (v2.map enc)) := snap_nest (n := 5) c4_12
                      exact e_laws_markVector _ _ _ hv12 nb1_0 v4.a.counts.length h (by first | omega | rfl) c4_6
                    · rintro hc4 v hh4 ⟨c4_0, c4_1, c4_2, c4_3, c4_4, c4_5, c4_6, c4_7, c4_8, c4_9, c4_10, c4_11, c4_12, c4_13⟩ hpost
                      obtain ⟨kk4, rfl, w4_0⟩ := hpost
                      have d4_0 : getCells hh4 0 0 = some [] := (keep_get kk4 c4_1 (by first | (simp; done) | (simp; omega))).trans c4_0
                      have d4_0l := keep_lt kk4 c4_1
                      have d4_1 : getCells hh4 1 1 = some [.i (.sl 1 (v3.a.counts.map enc))] := (keep_get kk4 c4_3 (by first | (simp; done) | (simp; omega))).trans c4_2
                      have d4_1l := keep_lt kk4 c4_3
                      have d4_2 : NestV hh4 hc0.length hh0.length nb0_0 (v10.b : List TOp) := nest_keep c4_4 kk4 (by intro b hb; first | (simp at hb; done) | (simp at hb; omega))
                      have d4_2l := nest_lt d4_2
                      have d4_2s : snap 9 false hh4 nb0_0 = some (.sl 12 (v10.b.map enc)) := snap_nest (n := 5) d4_2
                      have d4_2n : lenS nb0_0 = some v10.b.length := nest_lenS d4_2
                      have d4_3 : getCells hh4 nb1_0 v4.a.counts.length = some (rows (v12.b.counts : List Int)) := w4_0
                      have mm4_0 := len_rows w4_0
                      simp only [zs] at mm4_0
                      have d4_3l := keep_lt kk4 c4_7
                      have d4_4 : getCells hh4 hh1.length 0 = some [] := (keep_get kk4 c4_9 (by first | (simp; done) | (simp; omega))).trans c4_8
                      have d4_4l := keep_lt kk4 c4_9
                      have d4_5 : getCells hh4 (hh1.length + 1) 1 = some [.hsl nb1_0 v4.a.counts.length 0 1 false v4.a.counts.length] := (keep_get kk4 c4_11 (by first | (simp; done) | (simp; omega))).trans c4_10
                      have d4_5l := keep_lt kk4 c4_11
                      have d4_6 : NestV hh4 hc2.length hh2.length nb2_0 (v2 : List TOp) := nest_keep c4_12 kk4 (by intro b hb; first | (simp at hb; done) | (simp at hb; omega))
                      have d4_6l := nest_lt d4_6
                      have d4_6s : snap 9 false hh4 nb2_0 = some (.sl 12 (v2.map enc)) := snap_nest (n := 5) d4_6
                      have d4_6n : lenS nb2_0 = some v2.length := nest_lenS d4_6
                      obtain ⟨v13, hv13, hp⟩ := bind_eq hp
                      by_cases hb14 : (decide (v13 < 0)) = true
                      · rw [if_t hb14] at hp
                        cases hp
                      · replace hb14 := eq_false_of_ne_true hb14
                        rw [if_f hb14] at hp
                        by_cases hb15 : (decide (v13 = v12.a)) = true
                        · rw [if_t hb15] at hp
                          simp (maxSteps := 2000000) (disch := first | omega | (simp only [List.length_set, List.length_append, List.length_cons, List.length_nil, rows_len, zs]; first | done | omega)) only [ep_laws_szOpS, ep_laws_toOpS, ep_spec_LogVector, ep_laws_eqVector, ep_laws_eqOpS, ep_laws_heldVector, hv0, hb1, hv2, hv3, d0_0, d0_1, d0_2, d0_2s, d0_2n, hv4, d1_0, d1_1, d1_2, d1_2s, d1_2n, d1_3, hv5, hb6, hb7, d2_0, d2_1, d2_2, d2_2s, d2_2n, d2_3, d2_4, d2_5, d2_6, d2_6s, d2_6n, hv8, hb9, hv10, d3_0, d3_1, d3_2, d3_2s, d3_2n, d3_3, d3_4, d3_5, d3_6, d3_6s, d3_6n, hb11, hv12, d4_0, d4_1, d4_2, d4_2s, d4_2n, d4_3, d4_4, d4_5, d4_6, d4_6s, d4_6n, hv13, hb14, hb15, gs, reduceIte, reduceCtorEq, Nat.reduceAdd, Nat.reduceMul, Nat.reduceSub, Nat.reduceBEq, Nat.reduceEqDiff, Nat.reduceLeDiff, Nat.reduceLT, Nat.reduceGT, Int.reduceToNat, Int.reduceLT, Int.reduceLE, Int.reduceNeg, Int.reduceAdd, Int.reduceEq, Int.reduceNe, idxA_ptr, idxA_ip, retV_nil, at_app, at_app_set, enc_ob, enc_on, dec_ob, dec_on, ofI_ob, cells_ob, bookC_len, ev_ptr, ofI1_ob, dec_obx]
                          refine call_f (fun h => getCells h 0 0 = some [] ∧ 0 < h.length ∧ getCells h 1 1 = some [.i (.sl 1 (v3.a.counts.map enc))] ∧ 1 < h.length ∧ NestV h hc0.length hh0.length nb0_0 (v10.b : List TOp) ∧ hh0.length ≤ h.length ∧ getCells h nb1_0 v4.a.counts.length = some (rows (v12.b.counts : List Int)) ∧ nb1_0 < h.length ∧ getCells h hh1.length 0 = some [] ∧ hh1.length < h.length ∧ getCells h (hh1.length + 1) 1 = some [.hsl nb1_0 v4.a.counts.length 0 1 false v4.a.counts.length] ∧ hh1.length + 1 < h.length ∧ NestV h hc2.length hh2.length nb2_0 (v2 : List TOp) ∧ hh2.length ≤ h.length) (fun h v h2 => oo_laws_toOpS v2 h v h2) ?_ ?_ ?_
                          · simp (maxSteps := 2000000) (disch := first | omega | (simp only [List.length_set, List.length_append, List.length_cons, List.length_nil, rows_len, zs]; first | done | omega)) only [ep_laws_szOpS, ep_laws_toOpS, ep_spec_LogVector, ep_laws_eqVector, ep_laws_eqOpS, ep_laws_heldVector, hv0, hb1, hv2, hv3, d0_0, d0_1, d0_2, d0_2s, d0_2n, hv4, d1_0, d1_1, d1_2, d1_2s, d1_2n, d1_3, hv5, hb6, hb7, d2_0, d2_1, d2_2, d2_2s, d2_2n, d2_3, d2_4, d2_5, d2_6, d2_6s, d2_6n, hv8, hb9, hv10, d3_0, d3_1, d3_2, d3_2s, d3_2n, d3_3, d3_4, d3_5, d3_6, d3_6s, d3_6n, hb11, hv12, d4_0, d4_1, d4_2, d4_2s, d4_2n, d4_3, d4_4, d4_5, d4_6, d4_6s, d4_6n, hv13, hb14, hb15, gs, reduceIte, reduceCtorEq, Nat.reduceAdd, Nat.reduceMul, Nat.reduceSub, Nat.reduceBEq, Nat.reduceEqDiff, Nat.reduceLeDiff, Nat.reduceLT, Nat.reduceGT, Int.reduceToNat, Int.reduceLT, Int.reduceLE, Int.reduceNeg, Int.reduceAdd, Int.reduceEq, Int.reduceNe, idxA_ptr, idxA_ip, retV_nil, at_app, at_app_set, enc_ob, enc_on, dec_ob, dec_on, ofI_ob, cells_ob, bookC_len, ev_ptr, ofI1_ob, dec_obx] <;> (repeat (first | omega | assumption | exact nest_ext (by assumption) | exact nest_wide (by assumption) (Nat.zero_le _) (by first | omega | (simp; omega)) (Nat.le_refl _) | exact nest_wide (nest_ext (by assumption)) (Nat.zero_le _) (by first | omega | (simp; omega)) (Nat.le_refl _) | exact nest_virt (by simp (maxSteps := 2000000) (disch := first | omega | (simp only [List.length_set, List.length_append, List.length_cons, List.length_nil, rows_len, zs]; first | done | omega)) only [ep_laws_szOpS, ep_laws_toOpS, ep_spec_LogVector, ep_laws_eqVector, ep_laws_eqOpS, ep_laws_heldVector, hv0, hb1, hv2, hv3, d0_0, d0_1, d0_2, d0_2s, d0_2n, hv4, d1_0, d1_1, d1_2, d1_2s, d1_2n, d1_3, hv5, hb6, hb7, d2_0, d2_1, d2_2, d2_2s, d2_2n, d2_3, d2_4, d2_5, d2_6, d2_6s, d2_6n, hv8, hb9, hv10, d3_0, d3_1, d3_2, d3_2s, d3_2n, d3_3, d3_4, d3_5, d3_6, d3_6s, d3_6n, hb11, hv12, d4_0, d4_1, d4_2, d4_2s, d4_2n, d4_3, d4_4, d4_5, d4_6, d4_6s, d4_6n, hv13, hb14, hb15, gs, reduceIte, reduceCtorEq, Nat.reduceAdd, Nat.reduceMul, Nat.reduceSub, Nat.reduceBEq, Nat.reduceEqDiff, Nat.reduceLeDiff, Nat.reduceLT, Nat.reduceGT, Int.reduceToNat, Int.reduceLT, Int.reduceLE, Int.reduceNeg, Int.reduceAdd, Int.reduceEq, Int.reduceNe, idxA_ptr, idxA_ip, retV_nil, at_app, at_app_set, enc_ob, enc_on, dec_ob, dec_on, ofI_ob, cells_ob, bookC_len, ev_ptr, ofI1_ob, dec_obx]) (by omega) (by first | omega | (simp; done) | (simp; omega)) (by first | omega | (simp; done) | (simp; omega)) | refine nest_ext ?_ | refine nest_set ?_ (by omega) | refine And.intro ?_ ?_))
                          · rintro h ⟨c5_0, c5_1, c5_2, c5_3, c5_4, c5_5, c5_6, c5_7, c5_8, c5_9, c5_10, c5_11, c5_12, c5_13⟩
                            have sc5_2 : snap 9 false h nb0_0 = some (.sl 12 (v10.b.map enc)) := snap_nest (n := 5) c5_4
                            have sc5_6 : snap 9 false h nb2_0 = some (.sl 12 (v2.map enc)) := snap_nest (n := 5) c5_12
                            exact e_laws_toOpS _ _ hv2 h _ (by simp (maxSteps := 2000000) (disch := first | omega | (simp only [List.length_set, List.length_append, List.length_cons, List.length_nil, rows_len, zs]; first | done | omega)) only [ep_laws_szOpS, ep_laws_toOpS, ep_spec_LogVector, ep_laws_eqVector, ep_laws_eqOpS, ep_laws_heldVector, hv0, hb1, hv2, hv3, d0_0, d0_1, d0_2, d0_2s, d0_2n, hv4, d1_0, d1_1, d1_2, d1_2s, d1_2n, d1_3, hv5, hb6, hb7, d2_0, d2_1, d2_2, d2_2s, d2_2n, d2_3, d2_4, d2_5, d2_6, d2_6s, d2_6n, hv8, hb9, hv10, d3_0, d3_1, d3_2, d3_2s, d3_2n, d3_3, d3_4, d3_5, d3_6, d3_6s, d3_6n, hb11, hv12, d4_0, d4_1, d4_2, d4_2s, d4_2n, d4_3, d4_4, d4_5, d4_6, d4_6s, d4_6n, hv13, hb14, hb15, c5_0, c5_1, c5_2, c5_3, c5_4, c5_5, c5_6, c5_7, c5_8, c5_9, c5_10, c5_11, c5_12, c5_13, sc5_2, sc5_6, gs, reduceIte, reduceCtorEq, Nat.reduceAdd, Nat.reduceMul, Nat.reduceSub, Nat.reduceBEq, Nat.reduceEqDiff, Nat.reduceLeDiff, Nat.reduceLT, Nat.reduceGT, Int.reduceToNat, Int.reduceLT, Int.reduceLE, Int.reduceNeg, Int.reduceAdd, Int.reduceEq, Int.reduceNe, idxA_ptr, idxA_ip, retV_nil, at_app, at_app_set, enc_ob, enc_on, dec_ob, dec_on, ofI_ob, cells_ob, bookC_len, ev_ptr, ofI1_ob, dec_obx])
                          · rintro hc5 nb5_0 hh5 ⟨c5_0, c5_1, c5_2, c5_3, c5_4, c5_5, c5_6, c5_7, c5_8, c5_9, c5_10, c5_11, c5_12, c5_13⟩ hpost
                            obtain ⟨kk5, _, rfl, wnb5_0⟩ := hpost
                            have d5_0 : getCells hh5 0 0 = some [] := (keep_get kk5 c5_1 (by first | (simp; done) | (simp; omega))).trans c5_0
                            have d5_0l := keep_lt kk5 c5_1
                            have d5_1 : getCells hh5 1 1 = some [.i (.sl 1 (v3.a.counts.map enc))] := (keep_get kk5 c5_3 (by first | (simp; done) | (simp; omega))).trans c5_2
                            have d5_1l := keep_lt kk5 c5_3
                            have d5_2 : NestV hh5 hc0.length hh0.length nb0_0 (v10.b : List TOp) := nest_keep c5_4 kk5 (by intro b hb; first | (simp at hb; done) | (simp at hb; omega))
                            have d5_2l := nest_lt d5_2
                            have d5_2s : snap 9 false hh5 nb0_0 = some (.sl 12 (v10.b.map enc)) := snap_nest (n := 5) d5_2
                            have d5_2n : lenS nb0_0 = some v10.b.length := nest_lenS d5_2
                            have d5_3 : getCells hh5 nb1_0 v4.a.counts.length = some (rows (v12.b.counts : List Int)) := (keep_get kk5 c5_7 (by first | (simp; done) | (simp; omega))).trans c5_6
                            have d5_3l := keep_lt kk5 c5_7
                            have d5_4 : getCells hh5 hh1.length 0 = some [] := (keep_get kk5 c5_9 (by first | (simp; done) | (simp; omega))).trans c5_8
                            have d5_4l := keep_lt kk5 c5_9
                            have d5_5 : getCells hh5 (hh1.length + 1) 1 = some [.hsl nb1_0 v4.a.counts.length 0 1 false v4.a.counts.length] := (keep_get kk5 c5_11 (by first | (simp; done) | (simp; omega))).trans c5_10
                            have d5_5l := keep_lt kk5 c5_11
                            have d5_6 : NestV hh5 hc2.length hh2.length nb2_0 (v2 : List TOp) := nest_keep c5_12 kk5 (by intro b hb; first | (simp at hb; done) | (simp at hb; omega))
                            have d5_6l := nest_lt d5_6
                            have d5_6s : snap 9 false hh5 nb2_0 = some (.sl 12 (v2.map enc)) := snap_nest (n := 5) d5_6
                            have d5_6n : lenS nb2_0 = some v2.length := nest_lenS d5_6
                            have d5_7 := wnb5_0
                            have d5_7l := nest_lt d5_7
                            have d5_7s : snap 9 false hh5 nb5_0 = some (.sl 12 (v2.map enc)) := snap_nest (n := 5) d5_7
                            have d5_7n : lenS nb5_0 = some v2.length := nest_lenS d5_7
                            simp (maxSteps := 2000000) (disch := first | omega | (simp only [List.length_set, List.length_append, List.length_cons, List.length_nil, rows_len, zs]; first | done | omega)) only [ep_laws_szOpS, ep_laws_toOpS, ep_spec_LogVector, ep_laws_eqVector, ep_laws_eqOpS, ep_laws_heldVector, hv0, hb1, hv2, hv3, d0_0, d0_1, d0_2, d0_2s, d0_2n, hv4, d1_0, d1_1, d1_2, d1_2s, d1_2n, d1_3, hv5, hb6, hb7, d2_0, d2_1, d2_2, d2_2s, d2_2n, d2_3, d2_4, d2_5, d2_6, d2_6s, d2_6n, hv8, hb9, hv10, d3_0, d3_1, d3_2, d3_2s, d3_2n, d3_3, d3_4, d3_5, d3_6, d3_6s, d3_6n, hb11, hv12, d4_0, d4_1, d4_2, d4_2s, d4_2n, d4_3, d4_4, d4_5, d4_6, d4_6s, d4_6n, hv13, hb14, hb15, d5_0, d5_1, d5_2, d5_2s, d5_2n, d5_3, d5_4, d5_5, d5_6, d5_6s, d5_6n, d5_7, d5_7s, d5_7n, gs, reduceIte, reduceCtorEq, Nat.reduceAdd, Nat.reduceMul, Nat.reduceSub, Nat.reduceBEq, Nat.reduceEqDiff, Nat.reduceLeDiff, Nat.reduceLT, Nat.reduceGT, Int.reduceToNat, Int.reduceLT, Int.reduceLE, Int.reduceNeg, Int.reduceAdd, Int.reduceEq, Int.reduceNe, idxA_ptr, idxA_ip, retV_nil, at_app, at_app_set, enc_ob, enc_on, dec_ob, dec_on, ofI_ob, cells_ob, bookC_len, ev_ptr, ofI1_ob, dec_obx]
                            refine call_f (fun h => getCells h 0 0 = some [] ∧ 0 < h.length ∧ getCells h 1 1 = some [.i (.sl 1 (v3.a.counts.map enc))] ∧ 1 < h.length ∧ NestV h hc0.length hh0.length nb0_0 (v10.b : List TOp) ∧ hh0.length ≤ h.length ∧ getCells h nb1_0 v4.a.counts.length = some (rows (v12.b.counts : List Int)) ∧ nb1_0 < h.length ∧ getCells h hh1.length 0 = some [] ∧ hh1.length < h.length ∧ getCells h (hh1.length + 1) 1 = some [.hsl nb1_0 v4.a.counts.length 0 1 false v4.a.counts.length] ∧ hh1.length + 1 < h.length ∧ NestV h hc2.length hh2.length nb2_0 (v2 : List TOp) ∧ hh2.length ≤ h.length ∧ NestV h hc5.length hh5.length nb5_0 (v2 : List TOp) ∧ hh5.length ≤ h.length) (fun h v h2 => oo_impl_LogVector v4 h v h2) ?_ ?_ ?_
                            · simp (maxSteps := 2000000) (disch := first | omega | (simp only [List.length_set, List.length_append, List.length_cons, List.length_nil, rows_len, zs]; first | done | omega)) only [ep_laws_szOpS, ep_laws_toOpS, ep_spec_LogVector, ep_laws_eqVector, ep_laws_eqOpS, ep_laws_heldVector, hv0, hb1, hv2, hv3, d0_0, d0_1, d0_2, d0_2s, d0_2n, hv4, d1_0, d1_1, d1_2, d1_2s, d1_2n, d1_3, hv5, hb6, hb7, d2_0, d2_1, d2_2, d2_2s, d2_2n, d2_3, d2_4, d2_5, d2_6, d2_6s, d2_6n, hv8, hb9, hv10, d3_0, d3_1, d3_2, d3_2s, d3_2n, d3_3, d3_4, d3_5, d3_6, d3_6s, d3_6n, hb11, hv12, d4_0, d4_1, d4_2, d4_2s, d4_2n, d4_3, d4_4, d4_5, d4_6, d4_6s, d4_6n, hv13, hb14, hb15, d5_0, d5_1, d5_2, d5_2s, d5_2n, d5_3, d5_4, d5_5, d5_6, d5_6s, d5_6n, d5_7, d5_7s, d5_7n, gs, reduceIte, reduceCtorEq, Nat.reduceAdd, Nat.reduceMul, Nat.reduceSub, Nat.reduceBEq, Nat.reduceEqDiff, Nat.reduceLeDiff, Nat.reduceLT, Nat.reduceGT, Int.reduceToNat, Int.reduceLT, Int.reduceLE, Int.reduceNeg, Int.reduceAdd, Int.reduceEq, Int.reduceNe, idxA_ptr, idxA_ip, retV_nil, at_app, at_app_set, enc_ob, enc_on, dec_ob, dec_on, ofI_ob, cells_ob, bookC_len, ev_ptr, ofI1_ob, dec_obx] <;> (repeat (first | omega | assumption | exact nest_ext (by assumption) | exact nest_wide (by assumption) (Nat.zero_le _) (by first | omega | (simp; omega)) (Nat.le_refl _) | exact nest_wide (nest_ext (by assumption)) (Nat.zero_le _) (by first | omega | (simp; omega)) (Nat.le_refl _) | exact nest_virt (by simp (maxSteps := 2000000) (disch := first | omega | (simp only [List.length_set, List.length_append, List.length_cons, List.length_nil, rows_len, zs]; first | done | omega)) only [ep_laws_szOpS, ep_laws_toOpS, ep_spec_LogVector, ep_laws_eqVector, ep_laws_eqOpS, ep_laws_heldVector, hv0, hb1, hv2, hv3, d0_0, d0_1, d0_2, d0_2s, d0_2n, hv4, d1_0, d1_1, d1_2, d1_2s, d1_2n, d1_3, hv5, hb6, hb7, d2_0, d2_1, d2_2, d2_2s, d2_2n, d2_3, d2_4, d2_5, d2_6, d2_6s, d2_6n, hv8, hb9, hv10, d3_0, d3_1, d3_2, d3_2s, d3_2n, d3_3, d3_4, d3_5, d3_6, d3_6s, d3_6n, hb11, hv12, d4_0, d4_1, d4_2, d4_2s, d4_2n, d4_3, d4_4, d4_5, d4_6, d4_6s, d4_6n, hv13, hb14, hb15, d5_0, d5_1, d5_2, d5_2s, d5_2n, d5_3, d5_4, d5_5, d5_6, d5_6s, d5_6n, d5_7, d5_7s, d5_7n, gs, reduceIte, reduceCtorEq, Nat.reduceAdd, Nat.reduceMul, Nat.reduceSub, Nat.reduceBEq, Nat.reduceEqDiff, Nat.reduceLeDiff, Nat.reduceLT, Nat.reduceGT, Int.reduceToNat, Int.reduceLT, Int.reduceLE, Int.reduceNeg, Int.reduceAdd, Int.reduceEq, Int.reduceNe, idxA_ptr, idxA_ip, retV_nil, at_app, at_app_set, enc_ob, enc_on, dec_ob, dec_on, ofI_ob, cells_ob, bookC_len, ev_ptr, ofI1_ob, dec_obx]) (by omega) (by first | omega | (simp; done) | (simp; omega)) (by first | omega | (simp; done) | (simp; omega)) | refine nest_ext ?_ | refine nest_set ?_ (by omega) | refine And.intro ?_ ?_))
                            · rintro h ⟨c6_0, c6_1, c6_2, c6_3, c6_4, c6_5, c6_6, c6_7, c6_8, c6_9, c6_10, c6_11, c6_12, c6_13, c6_14, c6_15⟩
                              have sc6_2 : snap 9 false h nb0_0 = some (.sl 12 (v10.b.map enc)) := snap_nest (n := 5) c6_4
                              have sc6_6 : snap 9 false h nb2_0 = some (.sl 12 (v2.map enc)) := snap_nest (n := 5) c6_12
                              have sc6_7 : snap 9 false h nb5_0 = some (.sl 12 (v2.map enc)) := snap_nest (n := 5) c6_14
                              exact e_impl_LogVector _ _ hv4 h _ (by simp (maxSteps := 2000000) (disch := first | omega | (simp only [List.length_set, List.length_append, List.length_cons, List.length_nil, rows_len, zs]; first | done | omega)) only [ep_laws_szOpS, ep_laws_toOpS, ep_spec_LogVector, ep_laws_eqVector, ep_laws_eqOpS, ep_laws_heldVector, hv0, hb1, hv2, hv3, d0_0, d0_1, d0_2, d0_2s, d0_2n, hv4, d1_0, d1_1, d1_2, d1_2s, d1_2n, d1_3, hv5, hb6, hb7, d2_0, d2_1, d2_2, d2_2s, d2_2n, d2_3, d2_4, d2_5, d2_6, d2_6s, d2_6n, hv8, hb9, hv10, d3_0, d3_1, d3_2, d3_2s, d3_2n, d3_3, d3_4, d3_5, d3_6, d3_6s, d3_6n, hb11, hv12, d4_0, d4_1, d4_2, d4_2s, d4_2n, d4_3, d4_4, d4_5, d4_6, d4_6s, d4_6n, hv13, hb14, hb15, d5_0, d5_1, d5_2, d5_2s, d5_2n, d5_3, d5_4, d5_5, d5_6, d5_6s, d5_6n, d5_7, d5_7s, d5_7n, c6_0, c6_1, c6_2, c6_3, c6_4, c6_5, c6_6, c6_7, c6_8, c6_9, c6_10, c6_11, c6_12, c6_13, c6_14, c6_15, sc6_2, sc6_6, sc6_7, gs, reduceIte, reduceCtorEq, Nat.reduceAdd, Nat.reduceMul, Nat.reduceSub, Nat.reduceBEq, Nat.reduceEqDiff, Nat.reduceLeDiff, Nat.reduceLT, Nat.reduceGT, Int.reduceToNat, Int.reduceLT, Int.reduceLE, Int.reduceNeg, Int.reduceAdd, Int.reduceEq, Int.reduceNe, idxA_ptr, idxA_ip, retV_nil, at_app, at_app_set, enc_ob, enc_on, dec_ob, dec_on, ofI_ob, cells_ob, bookC_len, ev_ptr, ofI1_ob, dec_obx])
                            · rintro hc6 v hh6 ⟨c6_0, c6_1, c6_2, c6_3, c6_4, c6_5, c6_6, c6_7, c6_8, c6_9, c6_10, c6_11, c6_12, c6_13, c6_14, c6_15⟩ hpost
                              obtain ⟨kk6, nb6_0, rfl, lnb6_0, gnb6_0, wnb6_0⟩ := hpost
                              have d6_0 : getCells hh6 0 0 = some [] := (keep_get kk6 c6_1 (by first | (simp; done) | (simp; omega))).trans c6_0
                              have d6_0l := keep_lt kk6 c6_1
                              have d6_1 : getCells hh6 1 1 = some [.i (.sl 1 (v3.a.counts.map enc))] := (keep_get kk6 c6_3 (by first | (simp; done) | (simp; omega))).trans c6_2
                              have d6_1l := keep_lt kk6 c6_3
                              have d6_2 : NestV hh6 hc0.length hh0.length nb0_0 (v10.b : List TOp) := nest_keep c6_4 kk6 (by intro b hb; first | (simp at hb; done) | (simp at hb; omega))
                              have d6_2l := nest_lt d6_2
                              have d6_2s : snap 9 false hh6 nb0_0 = some (.sl 12 (v10.b.map enc)) := snap_nest (n := 5) d6_2
                              have d6_2n : lenS nb0_0 = some v10.b.length := nest_lenS d6_2
                              have d6_3 : getCells hh6 nb1_0 v4.a.counts.length = some (rows (v12.b.counts : List Int)) := (keep_get kk6 c6_7 (by first | (simp; done) | (simp; omega))).trans c6_6
                              have d6_3l := keep_lt kk6 c6_7
                              have d6_4 : getCells hh6 hh1.length 0 = some [] := (keep_get kk6 c6_9 (by first | (simp; done) | (simp; omega))).trans c6_8
                              have d6_4l := keep_lt kk6 c6_9
                              have d6_5 : getCells hh6 (hh1.length + 1) 1 = some [.hsl nb1_0 v4.a.counts.length 0 1 false v4.a.counts.length] := (keep_get kk6 c6_11 (by first | (simp; done) | (simp; omega))).trans c6_10
                              have d6_5l := keep_lt kk6 c6_11
                              have d6_6 : NestV hh6 hc2.length hh2.length nb2_0 (v2 : List TOp) := nest_keep c6_12 kk6 (by intro b hb; first | (simp at hb; done) | (simp at hb; omega))
                              have d6_6l := nest_lt d6_6
                              have d6_6s : snap 9 false hh6 nb2_0 = some (.sl 12 (v2.map enc)) := snap_nest (n := 5) d6_6
                              have d6_6n : lenS nb2_0 = some v2.length := nest_lenS d6_6
                              have d6_7 : NestV hh6 hc5.length hh5.length nb5_0 (v2 : List TOp) := nest_keep c6_14 kk6 (by intro b hb; first | (simp at hb; done) | (simp at hb; omega))
                              have d6_7l := nest_lt d6_7
                              have d6_7s : snap 9 false hh6 nb5_0 = some (.sl 12 (v2.map enc)) := snap_nest (n := 5) d6_7
                              have d6_7n : lenS nb5_0 = some v2.length := nest_lenS d6_7
                              have d6_8 := wnb6_0
                              cases hp
                              simp (maxSteps := 2000000) (disch := first | omega | (simp only [List.length_set, List.length_append, List.length_cons, List.length_nil, rows_len, zs]; first | done | omega)) only [ep_laws_szOpS, ep_laws_toOpS, ep_spec_LogVector, ep_laws_eqVector, ep_laws_eqOpS, ep_laws_heldVector, hv0, hb1, hv2, hv3, d0_0, d0_1, d0_2, d0_2s, d0_2n, hv4, d1_0, d1_1, d1_2, d1_2s, d1_2n, d1_3, hv5, hb6, hb7, d2_0, d2_1, d2_2, d2_2s, d2_2n, d2_3, d2_4, d2_5, d2_6, d2_6s, d2_6n, hv8, hb9, hv10, d3_0, d3_1, d3_2, d3_2s, d3_2n, d3_3, d3_4, d3_5, d3_6, d3_6s, d3_6n, hb11, hv12, d4_0, d4_1, d4_2, d4_2s, d4_2n, d4_3, d4_4, d4_5, d4_6, d4_6s, d4_6n, hv13, hb14, hb15, d5_0, d5_1, d5_2, d5_2s, d5_2n, d5_3, d5_4, d5_5, d5_6, d5_6s, d5_6n, d5_7, d5_7s, d5_7n, d6_0, d6_1, d6_2, d6_2s, d6_2n, d6_3, d6_4, d6_5, d6_6, d6_6s, d6_6n, d6_7, d6_7s, d6_7n, d6_8, gs, reduceIte, reduceCtorEq, Nat.reduceAdd, Nat.reduceMul, Nat.reduceSub, Nat.reduceBEq, Nat.reduceEqDiff, Nat.reduceLeDiff, Nat.reduceLT, Nat.reduceGT, Int.reduceToNat, Int.reduceLT, Int.reduceLE, Int.reduceNeg, Int.reduceAdd, Int.reduceEq, Int.reduceNe, idxA_ptr, idxA_ip, retV_nil, at_app, at_app_set, enc_ob, enc_on, dec_ob, dec_on, ofI_ob, cells_ob, bookC_len, ev_ptr, ofI1_ob, dec_obx]
                        · replace hb15 := eq_false_of_ne_true hb15
                          rw [if_f hb15] at hp
                          cases hp
              · replace hb9 := eq_false_of_ne_true hb9
                rw [if_f hb9] at hp
                cases hp
          · replace hb7 := eq_false_of_ne_true hb7
            rw [if_f hb7] at hp
            cases hp
        · replace hb6 := eq_false_of_ne_true hb6
          rw [if_f hb6] at hp
          cases hp

end Go.AM
