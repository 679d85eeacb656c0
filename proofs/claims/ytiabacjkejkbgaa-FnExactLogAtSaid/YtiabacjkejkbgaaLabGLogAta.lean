/- Plain functions of LogAt and their walks. No condition. -/
import Derived.Test.YtiabacjkejkbgaaLabGLogOKb
set_option linter.unusedVariables false
set_option linter.unusedSimpArgs false
set_option maxRecDepth 20000
namespace Go.AM
open Pic (enc dec dec_enc dec_sub)
open PicA (encA decA decA_encA decA_sub)
set_option maxHeartbeats 10000000 in
theorem d_laws_toVector {P : Program} {env : Env} {f_laws_toIntS : Nat}  (e_laws_toIntS : k_laws_toIntS (env (2 * f_laws_toIntS + 1))) (x0 : TVec) {b : TVec} (hp : p_laws_toVector x0 = some b) : R P env (c_laws_toVector f_laws_toIntS) ((encA (x0)).map ofI) [] (Tells true b) := by
  refine R_of (by simp [c_laws_toVector, encA]) ?_
  unfold c_laws_toVector
  unfold p_laws_toVector at hp
  obtain ⟨v0, hv0, hp⟩ := bind_eq hp
  simp (maxSteps := 2000000) (disch := first | omega | (simp only [ls]; first | done | omega)) only [gx, Int.reduceToNat]
  refine call_f (fun h => getCells h 0 1 = some [.i (.sl 1 (x0.counts.map enc))] ∧ 0 < h.length ∧ getCells h 1 0 = some [] ∧ 1 < h.length ∧ getCells h 2 1 = some [.hsl 1 0 0 1 false 0] ∧ 2 < h.length ∧ getCells h 3 0 = some [] ∧ 3 < h.length ∧ getCells h 4 1 = some [.hsl 3 0 0 1 false 0] ∧ 4 < h.length) (fun h v h2 => oo_laws_toIntS v0 h v h2) ?_ ?_ ?_
  · simp (maxSteps := 2000000) (disch := first | omega | (simp only [ls]; first | done | omega)) only [hv0, gx, Int.reduceToNat] <;> omega
  · rintro h ⟨c0_0, c0_1, c0_2, c0_3, c0_4, c0_5, c0_6, c0_7, c0_8, c0_9⟩
    exact e_laws_toIntS _ _ hv0 h _ (by simp (maxSteps := 2000000) (disch := first | omega | (simp only [ls]; first | done | omega)) only [hv0, c0_0, c0_1, c0_2, c0_3, c0_4, c0_5, c0_6, c0_7, c0_8, c0_9, gx, Int.reduceToNat])
  · rintro hc0 v hh0 ⟨c0_0, c0_1, c0_2, c0_3, c0_4, c0_5, c0_6, c0_7, c0_8, c0_9⟩ hpost
    obtain ⟨kk0, nb0_0, rfl, lnb0_0, gnb0_0, wnb0_0⟩ := hpost
    have d0_0 : getCells hh0 0 1 = some [.i (.sl 1 (x0.counts.map enc))] := (keep_get kk0 c0_1 (by first | (simp; done) | (simp; omega))).trans c0_0
    have d0_0l := keep_lt kk0 c0_1
    have d0_1 : getCells hh0 1 0 = some [] := (keep_get kk0 c0_3 (by first | (simp; done) | (simp; omega))).trans c0_2
    have d0_1l := keep_lt kk0 c0_3
    have d0_2 : getCells hh0 2 1 = some [.hsl 1 0 0 1 false 0] := (keep_get kk0 c0_5 (by first | (simp; done) | (simp; omega))).trans c0_4
    have d0_2l := keep_lt kk0 c0_5
    have d0_3 : getCells hh0 3 0 = some [] := (keep_get kk0 c0_7 (by first | (simp; done) | (simp; omega))).trans c0_6
    have d0_3l := keep_lt kk0 c0_7
    have d0_4 : getCells hh0 4 1 = some [.hsl 3 0 0 1 false 0] := (keep_get kk0 c0_9 (by first | (simp; done) | (simp; omega))).trans c0_8
    have d0_4l := keep_lt kk0 c0_9
    have d0_5 := wnb0_0
    have hp := Option.some.inj hp
    subst hp
    simp (maxSteps := 2000000) (disch := first | omega | (simp only [ls]; first | done | omega)) only [hv0, d0_0, d0_1, d0_2, d0_3, d0_4, d0_5, gx, Int.reduceToNat]

noncomputable def p_spec_l02Covers_l0 (x0 : TVec) (x1 : TVec) : Int → Option (Lp (Int) Bool)
  | s0 =>
    if (decide (s0 < 16)) = true then
      (get? x1.counts s0).bind fun v2 =>
      (get? x0.counts s0).bind fun v3 =>
      if (decide (v3 < v2)) = true then
        some (.ret false)
      else
        some (.go (w64 (s0 + 1)))
    else
      some (.out s0)
noncomputable def p_spec_l02Covers (x0 : TVec) (x1 : TVec) : Option Bool :=
  (loopP (p_spec_l02Covers_l0 x0 x1) 0).bind fun ee0 => match ee0 with
  | .ret r => some r
  | .out o5 =>
    some true
def c_spec_l02Covers : AFn := ⟨21, (.seq (.ops [⟨(.some 2), (.box (.tmp 0)), .none, []⟩, ⟨(.some 3), (.box (.tmp 1)), .none, []⟩, ⟨(.some 4), (.mv (.const (.bool false))), .none, []⟩]) (.seq (.seq (.ops [⟨(.some 5), (.mv (.const (.int .i64 0))), .none, []⟩]) (.block 0 (.loop (.seq (.seq (.ops [⟨(.some 6), (.mv (.tmp 5)), .none, []⟩, ⟨(.some 7), (.pu (.n (.ar .lss)) [(.tmp 6), (.const (.int .i64 16))]), .none, []⟩]) (.cond (.tmp 7) .skip (.exit 0))) (.seq (.block 1 (.seq (.ops [⟨(.some 10), (.fieldA 0 (.tmp 3)), .none, []⟩, ⟨(.some 11), (.load 1 false (.tmp 10)), .none, []⟩, ⟨(.some 12), (.mv (.tmp 5)), .none, []⟩, ⟨(.some 13), (.idxS 1 (.tmp 11) (.tmp 12)), .none, []⟩, ⟨(.some 14), (.load 1 false (.tmp 13)), .none, []⟩, ⟨(.some 15), (.fieldA 0 (.tmp 2)), .none, []⟩, ⟨(.some 16), (.load 1 false (.tmp 15)), .none, []⟩, ⟨(.some 17), (.mv (.tmp 5)), .none, []⟩, ⟨(.some 18), (.idxS 1 (.tmp 16) (.tmp 17)), .none, []⟩, ⟨(.some 19), (.load 1 false (.tmp 18)), .none, []⟩, ⟨(.some 20), (.pu (.n (.ar .gtr)) [(.tmp 14), (.tmp 19)]), .none, []⟩]) (.cond (.tmp 20) (.seq (.ops [⟨(.some 4), (.mv (.const (.bool false))), .none, []⟩]) .ret) .skip))) (.ops [⟨(.some 8), (.mv (.tmp 5)), .none, []⟩, ⟨(.some 9), (.pu (.n (.ar .add)) [(.tmp 8), (.const (.int .i64 1))]), .none, []⟩, ⟨(.some 5), (.mv (.tmp 9)), .none, []⟩])))))) (.seq (.ops [⟨(.some 4), (.mv (.const (.bool true))), .none, []⟩]) .ret))), [(.tmp 4)]⟩
set_option maxHeartbeats 10000000 in
theorem d_spec_l02Covers {P : Program} {env : Env}  (x0 : TVec) (x1 : TVec) {b : Bool} (hp : p_spec_l02Covers x0 x1 = some b) : R P env (c_spec_l02Covers) ((encA (x0, x1)).map ofI) [] (Tells true b) := by
  refine R_of (by simp [c_spec_l02Covers, encA]) ?_
  unfold c_spec_l02Covers
  unfold p_spec_l02Covers at hp
  obtain ⟨ee0, hee0, hp⟩ := bind_eq hp
  simp (maxSteps := 2000000) (disch := first | omega | (simp only [ls]; first | done | omega)) only [gx, Int.reduceToNat]
  refine W_loopP 0 (fun s t h => match s with | s0 => t 2 = .ptr 0 1 0 ∧ t 3 = .ptr 1 1 0 ∧ t 5 = .i (.s (.int .i64 s0)) ∧ getCells h 0 1 = some [.i (.sl 1 (x0.counts.map enc))] ∧ 0 < h.length ∧ getCells h 1 1 = some [.i (.sl 1 (x1.counts.map enc))] ∧ 1 < h.length) (RK [.tmp 4] (Tells true)) ?_ hee0 ?_ ?_
  · rintro s0 ee tt0 hh0 ⟨ftt0_0, ftt0_1, ftt0_2, ftt0_3, ftt0_4, ftt0_5, ftt0_6⟩ hp
    rw [p_spec_l02Covers_l0] at hp
    by_cases hb1 : (decide (s0 < 16)) = true
    · rw [if_t hb1] at hp
      obtain ⟨v2, hv2, hp⟩ := bind_eq hp
      obtain ⟨v3, hv3, hp⟩ := bind_eq hp
      by_cases hb4 : (decide (v3 < v2)) = true
      · rw [if_t hb4] at hp
        have hp := Option.some.inj hp
        subst hp
        simp (maxSteps := 2000000) (disch := first | omega | (simp only [ls]; first | done | omega)) only [ftt0_0, ftt0_1, ftt0_2, ftt0_3, ftt0_4, ftt0_5, ftt0_6, hb1, hv2, hv3, hb4, gx, Int.reduceToNat]
      · replace hb4 := eq_false_of_ne_true hb4
        rw [if_f hb4] at hp
        have hp := Option.some.inj hp
        subst hp
        simp (maxSteps := 2000000) (disch := first | omega | (simp only [ls]; first | done | omega)) only [ftt0_0, ftt0_1, ftt0_2, ftt0_3, ftt0_4, ftt0_5, ftt0_6, hb1, hv2, hv3, hb4, gx, Int.reduceToNat] <;> omega
    · replace hb1 := eq_false_of_ne_true hb1
      rw [if_f hb1] at hp
      have hp := Option.some.inj hp
      subst hp
      simp (maxSteps := 2000000) (disch := first | omega | (simp only [ls]; first | done | omega)) only [ftt0_0, ftt0_1, ftt0_2, ftt0_3, ftt0_4, ftt0_5, ftt0_6, hb1, gx, Int.reduceToNat] <;> omega
  · simp (maxSteps := 2000000) (disch := first | omega | (simp only [ls]; first | done | omega)) only [gx, Int.reduceToNat] <;> omega
  · intro x tt1 hh1 hx
    rcases ee0 with o5 | r
    · obtain ⟨rfl, ftt1_0, ftt1_1, ftt1_2, ftt1_3, ftt1_4, ftt1_5, ftt1_6⟩ := hx
      dsimp only at hp
      have hp := Option.some.inj hp
      subst hp
      simp (maxSteps := 2000000) (disch := first | omega | (simp only [ls]; first | done | omega)) only [ftt1_0, ftt1_1, ftt1_2, ftt1_3, ftt1_4, ftt1_5, ftt1_6, gx, Int.reduceToNat]
    · obtain ⟨rfl, hx⟩ := hx
      dsimp only at hp
      cases hp
      simp only [seqK_ret, blockK_ret, retK_RK (K := Tells true), hx, and_self, true_and]

noncomputable def p_spec_l02Copy (x0 : TVec) : Option TVec :=
  (app? 8 ([] : List Int) x0.counts).bind fun v0 =>
  some (TVec.mk v0)
def c_spec_l02Copy : AFn := ⟨8, (.seq (.ops [⟨(.some 1), (.box (.tmp 0)), .none, []⟩, ⟨(.some 2), (.allocV [(1, false)] [(.slice .none 0 0)]), .none, []⟩]) (.seq (.ops [⟨(.some 3), (.buildSl 1 false 0 [(.int .i64 0)] []), .none, []⟩, ⟨(.some 4), (.fieldA 0 (.tmp 1)), .none, []⟩, ⟨(.some 5), (.load 1 false (.tmp 4)), .none, []⟩, ⟨(.some 6), (.append 1 false 8 (.tmp 3) (.tmp 5)), .none, []⟩, ⟨(.some 7), (.build [(.slice .none 0 0)] [(0, (1, (.tmp 6)))]), .none, []⟩, ⟨.none, (.storeV [(1, false)] 1 (.tmp 2) (.tmp 7)), .none, []⟩]) .ret)), [(.cell 2 1 true)]⟩
def o_spec_l02Copy (b : TVec) (v : V) (h : Heap) : Prop := ∃ n0 : Nat, v = .agg [.hsl n0 b.counts.length 0 1 false b.counts.length] ∧ getCells h n0 b.counts.length = some (rows b.counts)
def oo_spec_l02Copy (b : TVec) (h : Heap) (v : V) (h2 : Heap) : Prop := Keep [] h h2 ∧ ∃ n0 : Nat, v = .agg [.hsl n0 b.counts.length 0 1 false b.counts.length] ∧ n0 < h2.length ∧ h.length ≤ n0 ∧ getCells h2 n0 b.counts.length = some (rows b.counts)
def k_spec_l02Copy (F : Fun) : Prop := ∀ (x0 : TVec) (b : TVec), p_spec_l02Copy x0 = some b → ∀ (h : Heap) (args : List V), snapA 9 false h args = some (encA (x0)) → ∃ p, F none args h = some p ∧ oo_spec_l02Copy b h p.1 p.2
set_option maxHeartbeats 10000000 in
theorem w_spec_l02Copy {P : Program} {env : Env}  (x0 : TVec) {b : TVec} (hp : p_spec_l02Copy x0 = some b) : R P env (c_spec_l02Copy) ((encA (x0)).map ofI) [] (o_spec_l02Copy b) := by
  refine R_of (by simp [c_spec_l02Copy, encA]) ?_
  unfold c_spec_l02Copy
  unfold p_spec_l02Copy at hp
  obtain ⟨v0, hv0, hp⟩ := bind_eq hp
  simp (maxSteps := 2000000) (disch := first | omega | (simp only [ls]; first | done | omega)) only [gx, Int.reduceToNat]
  refine app_f (b := 3) (xs := ([] : List Int)) (ys := x0.counts) (fun h => getCells h 0 1 = some [.i (.sl 1 (x0.counts.map enc))] ∧ 0 < h.length ∧ getCells h 1 0 = some [] ∧ 1 < h.length ∧ getCells h 2 1 = some [.hsl 1 0 0 1 false 0] ∧ 2 < h.length ∧ getCells h 3 0 = some [] ∧ 3 < h.length) ?_ ?_ hv0 rfl (by first | rfl | omega | (simp; omega)) (by first | rfl | omega | (simp; omega)) (by first | rfl | omega | (simp; omega)) ?_
  · simp (maxSteps := 2000000) (disch := first | omega | (simp only [ls]; first | done | omega)) only [hv0, gx, Int.reduceToNat] <;> omega
  · rintro h ⟨c0_0, c0_1, c0_2, c0_3, c0_4, c0_5, c0_6, c0_7⟩
    exact gc_eq c0_6 (by omega)
  · rintro h hh0 ⟨c0_0, c0_1, c0_2, c0_3, c0_4, c0_5, c0_6, c0_7⟩ kk0 w0
    have d0_0 : getCells hh0 0 1 = some [.i (.sl 1 (x0.counts.map enc))] := (keep_get kk0 c0_1 (by first | (simp; done) | (simp; omega))).trans c0_0
    have d0_0l := keep_lt kk0 c0_1
    have d0_1 : getCells hh0 1 0 = some [] := (keep_get kk0 c0_3 (by first | (simp; done) | (simp; omega))).trans c0_2
    have d0_1l := keep_lt kk0 c0_3
    have d0_2 : getCells hh0 2 1 = some [.hsl 1 0 0 1 false 0] := (keep_get kk0 c0_5 (by first | (simp; done) | (simp; omega))).trans c0_4
    have d0_2l := keep_lt kk0 c0_5
    have d0_3 : getCells hh0 3 v0.length = some (rows (v0 : List Int)) := by simpa only [Nat.mul_one] using w0
    have d0_3l := keep_lt kk0 c0_7
    have hp := Option.some.inj hp
    subst hp
    simp (maxSteps := 2000000) (disch := first | omega | (simp only [ls]; first | done | omega)) only [hv0, d0_0, d0_1, d0_2, d0_3, gx, Int.reduceToNat]
    refine ⟨3, ?_⟩
    simp (maxSteps := 2000000) (disch := first | omega | (simp only [ls]; first | done | omega)) only [hv0, d0_0, d0_1, d0_2, d0_3, o_spec_l02Copy, gx, Int.reduceToNat] <;> omega
theorem ko_spec_l02Copy {P : Program} {env : Env}  : k_spec_l02Copy (ownFn P env (c_spec_l02Copy)) := by
  intro x0 b hp h args has
  obtain ⟨⟨v, H2⟩, hr, n0, rfl, wn0⟩ := w_spec_l02Copy x0 hp
  exact ⟨_, own_call has hr rfl, keep_moved, n0 + h.length, rfl, (moved_lt wn0).2, (moved_lt wn0).1, moved_rows wn0⟩

noncomputable def p_spec_l08CopyOp (x0 : TOp) : Option TOp :=
  (p_spec_l02Copy x0.deps).bind fun v0 =>
  some (TOp.mk x0.actor x0.seq x0.time v0 x0.kind x0.obj x0.n x0.undo x0.at_ x0.key x0.text)
def c_spec_l08CopyOp (f_spec_l02Copy : Nat) : AFn := ⟨8, (.seq (.ops [⟨(.some 1), (.box (.tmp 0)), .none, []⟩, ⟨(.some 2), (.allocV [(0, false), (0, false), (0, false), (1, false), (0, false), (0, false), (0, false), (0, false), (0, false), (0, false), (0, false), (0, false)] [(.int .i64 0), (.int .i64 0), (.int .i64 0), (.slice .none 0 0), (.int .i64 0), (.int .i64 0), (.int .i64 0), (.int .i64 0), (.int .i64 0), (.int .i64 0), (.string ⟨#[]⟩), (.string ⟨#[]⟩)]), .none, []⟩]) (.seq (.ops [⟨(.some 3), (.fieldA 3 (.tmp 1)), .none, []⟩, ⟨(.some 4), (.load 1 true (.tmp 3)), .none, []⟩, ⟨(.some 5), (.call (2 * f_spec_l02Copy + 1) [(.tmp 4)]), .none, []⟩, ⟨(.some 6), (.fieldA 3 (.tmp 1)), .none, []⟩, ⟨.none, (.storeV [(1, false)] 1 (.tmp 6) (.tmp 5)), .none, []⟩]) (.seq (.ops [⟨(.some 7), (.load 12 true (.tmp 1)), .none, []⟩, ⟨.none, (.storeV [(0, false), (0, false), (0, false), (1, false), (0, false), (0, false), (0, false), (0, false), (0, false), (0, false), (0, false), (0, false)] 12 (.tmp 2) (.tmp 7)), .none, []⟩]) .ret))), [(.cell 2 12 true)]⟩
set_option maxHeartbeats 10000000 in
theorem d_spec_l08CopyOp {P : Program} {env : Env} {f_spec_l02Copy : Nat}  (e_spec_l02Copy : k_spec_l02Copy (env (2 * f_spec_l02Copy + 1))) (x0 : TOp) {b : TOp} (hp : p_spec_l08CopyOp x0 = some b) : R P env (c_spec_l08CopyOp f_spec_l02Copy) ((encA (x0)).map ofI) [] (Tells true b) := by
  refine R_of (by simp [c_spec_l08CopyOp, encA]) ?_
  have hO0 := @opc_virtC
  have hO1 := @opc_nilsOf
  have hO2 := @opc_virtV
  have hO3 := @opc_nilsV
  have hO4 := @opc_one
  have hO5 := @opc_splice
  have hO6 := @opc_virtVw
  have hO7 := @opc_nilsVw
  have hO8 := @opc_onew
  unfold c_spec_l08CopyOp
  unfold p_spec_l08CopyOp at hp
  obtain ⟨v0, hv0, hp⟩ := bind_eq hp
  simp (maxSteps := 2000000) (disch := first | omega | (simp only [ls]; first | done | omega)) only [hO0, hO1, hO2, hO3, hO4, hO5, hO6, hO7, hO8, gx, Int.reduceToNat]
  refine call_f (fun h => getCells h 0 12 = some [.i (.s (.int .i64 x0.actor)), .i (.s (.int .i64 x0.seq)), .i (.s (.int .i64 x0.time)), .i (.sl 1 (x0.deps.counts.map enc)), .i (.s (.int .i64 x0.kind)), .i (.s (.int .i64 x0.obj)), .i (.s (.int .i64 x0.n)), .i (.s (.int .i64 x0.undo)), .i (.s (.int .i64 x0.at_.time)), .i (.s (.int .i64 x0.at_.actor)), .i (.s (.string x0.key)), .i (.s (.string x0.text))] ∧ 0 < h.length ∧ getCells h 1 0 = some [] ∧ 1 < h.length ∧ getCells h 2 12 = some [.i (.s (.int .i64 0)), .i (.s (.int .i64 0)), .i (.s (.int .i64 0)), .hsl 1 0 0 1 false 0, .i (.s (.int .i64 0)), .i (.s (.int .i64 0)), .i (.s (.int .i64 0)), .i (.s (.int .i64 0)), .i (.s (.int .i64 0)), .i (.s (.int .i64 0)), .i (.s (.string (ByteArray.mk #[]))), .i (.s (.string (ByteArray.mk #[])))] ∧ 2 < h.length) (fun h v h2 => oo_spec_l02Copy v0 h v h2) ?_ ?_ ?_
  · simp (maxSteps := 2000000) (disch := first | omega | (simp only [ls]; first | done | omega)) only [hO0, hO1, hO2, hO3, hO4, hO5, hO6, hO7, hO8, hv0, gx, Int.reduceToNat] <;> omega
  · rintro h ⟨c0_0, c0_1, c0_2, c0_3, c0_4, c0_5⟩
    exact e_spec_l02Copy _ _ hv0 h _ (by simp (maxSteps := 2000000) (disch := first | omega | (simp only [ls]; first | done | omega)) only [hO0, hO1, hO2, hO3, hO4, hO5, hO6, hO7, hO8, hv0, c0_0, c0_1, c0_2, c0_3, c0_4, c0_5, gx, Int.reduceToNat])
  · rintro hc0 v hh0 ⟨c0_0, c0_1, c0_2, c0_3, c0_4, c0_5⟩ hpost
    obtain ⟨kk0, nb0_0, rfl, lnb0_0, gnb0_0, wnb0_0⟩ := hpost
    have d0_0 : getCells hh0 0 12 = some [.i (.s (.int .i64 x0.actor)), .i (.s (.int .i64 x0.seq)), .i (.s (.int .i64 x0.time)), .i (.sl 1 (x0.deps.counts.map enc)), .i (.s (.int .i64 x0.kind)), .i (.s (.int .i64 x0.obj)), .i (.s (.int .i64 x0.n)), .i (.s (.int .i64 x0.undo)), .i (.s (.int .i64 x0.at_.time)), .i (.s (.int .i64 x0.at_.actor)), .i (.s (.string x0.key)), .i (.s (.string x0.text))] := (keep_get kk0 c0_1 (by first | (simp; done) | (simp; omega))).trans c0_0
    have d0_0l := keep_lt kk0 c0_1
    have d0_1 : getCells hh0 1 0 = some [] := (keep_get kk0 c0_3 (by first | (simp; done) | (simp; omega))).trans c0_2
    have d0_1l := keep_lt kk0 c0_3
    have d0_2 : getCells hh0 2 12 = some [.i (.s (.int .i64 0)), .i (.s (.int .i64 0)), .i (.s (.int .i64 0)), .hsl 1 0 0 1 false 0, .i (.s (.int .i64 0)), .i (.s (.int .i64 0)), .i (.s (.int .i64 0)), .i (.s (.int .i64 0)), .i (.s (.int .i64 0)), .i (.s (.int .i64 0)), .i (.s (.string (ByteArray.mk #[]))), .i (.s (.string (ByteArray.mk #[])))] := (keep_get kk0 c0_5 (by first | (simp; done) | (simp; omega))).trans c0_4
    have d0_2l := keep_lt kk0 c0_5
    have d0_3 := wnb0_0
    have hp := Option.some.inj hp
    subst hp
    simp (maxSteps := 2000000) (disch := first | omega | (simp only [ls]; first | done | omega)) only [hO0, hO1, hO2, hO3, hO4, hO5, hO6, hO7, hO8, hv0, d0_0, d0_1, d0_2, d0_3, gx, Int.reduceToNat]

noncomputable def p_spec_LogAt_l0 (x0 : List TOp) (x1 : TVec) : List TOp × Int → Option (Lp (List TOp × Int) (T2 (List TOp) Int))
  | (s7, s8) =>
    if (decide (s8 < (x0.length : Int))) = true then
      (get? x0 s8).bind fun v10 =>
      (get? x1.counts v10.actor).bind fun v11 =>
      if (decide (v11 < v10.seq)) = true then
        some (.go (s7, w64 (s8 + 1)))
      else
        (p_spec_l02Covers x1 v10.deps).bind fun v13 =>
        if (v13) = true then
          (p_spec_l08CopyOp v10).bind fun v15 =>
          (app? 128 s7 ([v15])).bind fun v16 =>
          some (.go (v16, w64 (s8 + 1)))
        else
          some (.ret ⟨[], 5⟩)
    else
      some (.out (s7, s8))
noncomputable def p_spec_LogAt (x0 : List TOp) (x1 : TVec) : Option (T2 (List TOp) Int) :=
  (p_spec_LogOK x0).bind fun v0 =>
  if (v0) = true then
    (p_spec_VecOK x1).bind fun v2 =>
    if (v2) = true then
      (p_spec_l08Counts x0).bind fun v4 =>
      (p_spec_l02Covers v4 x1).bind fun v5 =>
      if (v5) = true then
        (loopP (p_spec_LogAt_l0 x0 x1) (([] : List TOp), 0)).bind fun ee0 => match ee0 with
        | .ret r => some r
        | .out (o17, o18) =>
          some ⟨o17, 0⟩
      else
        some ⟨[], 5⟩
    else
      some ⟨[], 1⟩
  else
    some ⟨[], 1⟩
def c_spec_LogAt (f_spec_LogOK : Nat) (f_spec_VecOK : Nat) (f_spec_l08Counts : Nat) (f_spec_l02Covers : Nat) (f_spec_l08CopyOp : Nat) : AFn := ⟨63, (.seq (.ops [⟨(.some 3), (.box (.tmp 1)), .none, []⟩, ⟨(.some 4), (.vnil 12 true), .none, []⟩, ⟨(.some 5), (.mv (.const (.int .i64 0))), .none, []⟩]) (.seq (.seq (.ops [⟨(.some 8), (.mv (.tmp 0)), .none, []⟩, ⟨(.some 9), (.call (2 * f_spec_LogOK) [(.tmp 8)]), .none, []⟩, ⟨(.some 10), (.pu (.n (.un .not)) [(.tmp 9)]), .none, []⟩, ⟨(.some 11), (.mv (.tmp 10)), .none, []⟩, ⟨(.some 12), (.load 1 true (.tmp 3)), (.some (11, false)), []⟩, ⟨(.some 13), (.call (2 * f_spec_VecOK) [(.tmp 12)]), (.some (11, false)), []⟩, ⟨(.some 14), (.pu (.n (.un .not)) [(.tmp 13)]), (.some (11, false)), []⟩, ⟨(.some 15), (.pick (.tmp 11) (.const (.bool true)) (.tmp 14)), .none, []⟩]) (.cond (.tmp 15) (.seq (.ops [⟨(.some 16), (.buildSl 12 true 0 [(.int .i64 0), (.int .i64 0), (.int .i64 0), (.slice .none 0 0), (.int .i64 0), (.int .i64 0), (.int .i64 0), (.int .i64 0), (.int .i64 0), (.int .i64 0), (.string ⟨#[]⟩), (.string ⟨#[]⟩)] []), .none, []⟩, ⟨(.some 4), (.mv (.tmp 16)), .none, []⟩, ⟨(.some 5), (.mv (.const (.int .i64 1))), .none, []⟩]) .ret) .skip)) (.seq (.seq (.ops [⟨(.some 17), (.mv (.tmp 0)), .none, []⟩, ⟨(.some 18), (.call (2 * f_spec_l08Counts) [(.tmp 17)]), .none, []⟩, ⟨(.some 19), (.load 1 true (.tmp 3)), .none, []⟩, ⟨(.some 20), (.call (2 * f_spec_l02Covers) [(.tmp 18), (.tmp 19)]), .none, []⟩, ⟨(.some 21), (.pu (.n (.un .not)) [(.tmp 20)]), .none, []⟩]) (.cond (.tmp 21) (.seq (.ops [⟨(.some 22), (.buildSl 12 true 0 [(.int .i64 0), (.int .i64 0), (.int .i64 0), (.slice .none 0 0), (.int .i64 0), (.int .i64 0), (.int .i64 0), (.int .i64 0), (.int .i64 0), (.int .i64 0), (.string ⟨#[]⟩), (.string ⟨#[]⟩)] []), .none, []⟩, ⟨(.some 4), (.mv (.tmp 22)), .none, []⟩, ⟨(.some 5), (.mv (.const (.int .i64 5))), .none, []⟩]) .ret) .skip)) (.seq (.ops [⟨(.some 23), (.buildSl 12 true 0 [(.int .i64 0), (.int .i64 0), (.int .i64 0), (.slice .none 0 0), (.int .i64 0), (.int .i64 0), (.int .i64 0), (.int .i64 0), (.int .i64 0), (.int .i64 0), (.string ⟨#[]⟩), (.string ⟨#[]⟩)] []), .none, []⟩, ⟨(.some 6), (.mv (.tmp 23)), .none, []⟩]) (.seq (.seq (.ops [⟨(.some 7), (.mv (.const (.int .i64 0))), .none, []⟩]) (.block 0 (.loop (.seq (.seq (.ops [⟨(.some 24), (.mv (.tmp 7)), .none, []⟩, ⟨(.some 25), (.mv (.tmp 0)), .none, []⟩, ⟨(.some 26), (.len (.tmp 25)), .none, []⟩, ⟨(.some 27), (.pu (.n (.ar .lss)) [(.tmp 24), (.tmp 26)]), .none, []⟩]) (.cond (.tmp 27) .skip (.exit 0))) (.seq (.block 1 (.seq (.seq (.ops [⟨(.some 30), (.mv (.tmp 0)), .none, []⟩, ⟨(.some 31), (.mv (.tmp 7)), .none, []⟩, ⟨(.some 32), (.idxS 12 (.tmp 30) (.tmp 31)), .none, []⟩, ⟨(.some 33), (.fieldA 1 (.tmp 32)), .none, []⟩, ⟨(.some 34), (.load 1 false (.tmp 33)), .none, []⟩, ⟨(.some 35), (.fieldA 0 (.tmp 3)), .none, []⟩, ⟨(.some 36), (.load 1 false (.tmp 35)), .none, []⟩, ⟨(.some 37), (.mv (.tmp 0)), .none, []⟩, ⟨(.some 38), (.mv (.tmp 7)), .none, []⟩, ⟨(.some 39), (.idxS 12 (.tmp 37) (.tmp 38)), .none, []⟩, ⟨(.some 40), (.fieldA 0 (.tmp 39)), .none, []⟩, ⟨(.some 41), (.load 1 false (.tmp 40)), .none, []⟩, ⟨(.some 42), (.idxS 1 (.tmp 36) (.tmp 41)), .none, []⟩, ⟨(.some 43), (.load 1 false (.tmp 42)), .none, []⟩, ⟨(.some 44), (.pu (.n (.ar .gtr)) [(.tmp 34), (.tmp 43)]), .none, []⟩]) (.cond (.tmp 44) (.exit 1) .skip)) (.seq (.seq (.ops [⟨(.some 45), (.load 1 true (.tmp 3)), .none, []⟩, ⟨(.some 46), (.mv (.tmp 0)), .none, []⟩, ⟨(.some 47), (.mv (.tmp 7)), .none, []⟩, ⟨(.some 48), (.idxS 12 (.tmp 46) (.tmp 47)), .none, []⟩, ⟨(.some 49), (.fieldA 3 (.tmp 48)), .none, []⟩, ⟨(.some 50), (.load 1 true (.tmp 49)), .none, []⟩, ⟨(.some 51), (.call (2 * f_spec_l02Covers) [(.tmp 45), (.tmp 50)]), .none, []⟩, ⟨(.some 52), (.pu (.n (.un .not)) [(.tmp 51)]), .none, []⟩]) (.cond (.tmp 52) (.seq (.ops [⟨(.some 53), (.buildSl 12 true 0 [(.int .i64 0), (.int .i64 0), (.int .i64 0), (.slice .none 0 0), (.int .i64 0), (.int .i64 0), (.int .i64 0), (.int .i64 0), (.int .i64 0), (.int .i64 0), (.string ⟨#[]⟩), (.string ⟨#[]⟩)] []), .none, []⟩, ⟨(.some 4), (.mv (.tmp 53)), .none, []⟩, ⟨(.some 5), (.mv (.const (.int .i64 5))), .none, []⟩]) .ret) .skip)) (.ops [⟨(.some 54), (.mv (.tmp 6)), .none, []⟩, ⟨(.some 55), (.mv (.tmp 0)), .none, []⟩, ⟨(.some 56), (.mv (.tmp 7)), .none, []⟩, ⟨(.some 57), (.idxS 12 (.tmp 55) (.tmp 56)), .none, []⟩, ⟨(.some 58), (.load 12 true (.tmp 57)), .none, []⟩, ⟨(.some 59), (.call (2 * f_spec_l08CopyOp) [(.tmp 58)]), .none, []⟩, ⟨(.some 60), (.buildSl 12 true 1 [(.int .i64 0), (.int .i64 0), (.int .i64 0), (.slice .none 0 0), (.int .i64 0), (.int .i64 0), (.int .i64 0), (.int .i64 0), (.int .i64 0), (.int .i64 0), (.string ⟨#[]⟩), (.string ⟨#[]⟩)] [(0, (.tmp 59))]), .none, []⟩, ⟨(.some 61), (.append 12 true 128 (.tmp 54) (.tmp 60)), .none, []⟩, ⟨(.some 6), (.mv (.tmp 61)), .none, []⟩])))) (.ops [⟨(.some 28), (.mv (.tmp 7)), .none, []⟩, ⟨(.some 29), (.pu (.n (.ar .add)) [(.tmp 28), (.const (.int .i64 1))]), .none, []⟩, ⟨(.some 7), (.mv (.tmp 29)), .none, []⟩])))))) (.seq (.ops [⟨(.some 62), (.mv (.tmp 6)), .none, []⟩, ⟨(.some 4), (.mv (.tmp 62)), .none, []⟩, ⟨(.some 5), (.mv (.const (.int .i64 0))), .none, []⟩]) .ret)))))), [(.tmp 4), (.tmp 5)]⟩
set_option maxHeartbeats 10000000 in
theorem d_spec_LogAt {P : Program} {env : Env} {f_spec_LogOK : Nat} {f_spec_VecOK : Nat} {f_spec_l08Counts : Nat} {f_spec_l02Covers : Nat} {f_spec_l08CopyOp : Nat}  (ep_spec_LogOK : env (2 * f_spec_LogOK) = pureFn true (FA fun a : List TOp => p_spec_LogOK a)) (ep_spec_VecOK : env (2 * f_spec_VecOK) = pureFn true (FA fun a : TVec => p_spec_VecOK a)) (ep_spec_l08Counts : env (2 * f_spec_l08Counts) = pureFn true (FA fun a : List TOp => p_spec_l08Counts a)) (ep_spec_l02Covers : env (2 * f_spec_l02Covers) = pureFn true (FA fun a : TVec × TVec => p_spec_l02Covers a.1 a.2)) (ep_spec_l08CopyOp : env (2 * f_spec_l08CopyOp) = pureFn true (FA fun a : TOp => p_spec_l08CopyOp a)) (x0 : List TOp) (x1 : TVec) {b : T2 (List TOp) Int} (hp : p_spec_LogAt x0 x1 = some b) : R P env (c_spec_LogAt f_spec_LogOK f_spec_VecOK f_spec_l08Counts f_spec_l02Covers f_spec_l08CopyOp) ((encA (x0, x1)).map ofI) [] (Tells false b) := by
  refine R_of (by simp [c_spec_LogAt, encA]) ?_
  have hO0 := @opc_virtC
  have hO1 := @opc_nilsOf
  have hO2 := @opc_virtV
  have hO3 := @opc_nilsV
  have hO4 := @opc_one
  have hO5 := @opc_splice
  have hO6 := @opc_virtVw
  have hO7 := @opc_nilsVw
  have hO8 := @opc_onew
  unfold c_spec_LogAt
  unfold p_spec_LogAt at hp
  obtain ⟨v0, hv0, hp⟩ := bind_eq hp
  by_cases hb1 : (v0) = true
  · rw [if_t hb1] at hp
    obtain ⟨v2, hv2, hp⟩ := bind_eq hp
    by_cases hb3 : (v2) = true
    · rw [if_t hb3] at hp
      obtain ⟨v4, hv4, hp⟩ := bind_eq hp
      obtain ⟨v5, hv5, hp⟩ := bind_eq hp
      by_cases hb6 : (v5) = true
      · rw [if_t hb6] at hp
        obtain ⟨ee0, hee0, hp⟩ := bind_eq hp
        simp (maxSteps := 2000000) (disch := first | omega | (simp only [ls]; first | done | omega)) only [hO0, hO1, hO2, hO3, hO4, hO5, hO6, hO7, hO8, ep_spec_LogOK, ep_spec_VecOK, ep_spec_l08Counts, ep_spec_l02Covers, ep_spec_l08CopyOp, hv0, hb1, hv2, hb3, hv4, hv5, hb6, gx, Int.reduceToNat]
        refine W_loopP 0 (fun s t h => match s with | (s7, s8) => t 0 = .i (.sl 12 (x0.map enc)) ∧ t 3 = .ptr 0 1 0 ∧ t 6 = .hsl 2 (s7.length * 12) 0 12 true s7.length ∧ t 7 = .i (.s (.int .i64 s8)) ∧ getCells h 0 1 = some [.i (.sl 1 (x1.counts.map enc))] ∧ 0 < h.length ∧ getCells h 2 (s7.length * 12) = some (rows (s7 : List TOp)) ∧ 2 < h.length) (RK [.tmp 4, .tmp 5] (Tells false)) ?_ hee0 ?_ ?_
        · rintro ⟨s7, s8⟩ ee tt0 hh0 ⟨ftt0_0, ftt0_1, ftt0_2, ftt0_3, ftt0_4, ftt0_5, ftt0_6, ftt0_7⟩ hp
          rw [p_spec_LogAt_l0] at hp
          by_cases hb9 : (decide (s8 < (x0.length : Int))) = true
          · rw [if_t hb9] at hp
            obtain ⟨v10, hv10, hp⟩ := bind_eq hp
            obtain ⟨v11, hv11, hp⟩ := bind_eq hp
            by_cases hb12 : (decide (v11 < v10.seq)) = true
            · rw [if_t hb12] at hp
              have hp := Option.some.inj hp
              subst hp
              simp (maxSteps := 2000000) (disch := first | omega | (simp only [ls]; first | done | omega)) only [hO0, hO1, hO2, hO3, hO4, hO5, hO6, hO7, hO8, ep_spec_LogOK, ep_spec_VecOK, ep_spec_l08Counts, ep_spec_l02Covers, ep_spec_l08CopyOp, hv0, hb1, hv2, hb3, hv4, hv5, hb6, ftt0_0, ftt0_1, ftt0_2, ftt0_3, ftt0_4, ftt0_5, ftt0_6, ftt0_7, hb9, hv10, hv11, hb12, gx, Int.reduceToNat] <;> omega
            · replace hb12 := eq_false_of_ne_true hb12
              rw [if_f hb12] at hp
              obtain ⟨v13, hv13, hp⟩ := bind_eq hp
              by_cases hb14 : (v13) = true
              · rw [if_t hb14] at hp
                obtain ⟨v15, hv15, hp⟩ := bind_eq hp
                obtain ⟨v16, hv16, hp⟩ := bind_eq hp
                obtain ⟨kv16, qv16, lv16⟩ := app_some hv16
                have rv16 : rows s7 ++ [.i (.s (.int .i64 v15.actor)), .i (.s (.int .i64 v15.seq)), .i (.s (.int .i64 v15.time)), .i (.sl 1 (v15.deps.counts.map enc)), .i (.s (.int .i64 v15.kind)), .i (.s (.int .i64 v15.obj)), .i (.s (.int .i64 v15.n)), .i (.s (.int .i64 v15.undo)), .i (.s (.int .i64 v15.at_.time)), .i (.s (.int .i64 v15.at_.actor)), .i (.s (.string v15.key)), .i (.s (.string v15.text))] = rows v16 := by rw [qv16, rows_append]; rfl
                have mv16 : s7.length + 1 = v16.length := by simp at lv16; omega
                have nv16 : (s7.length + 1) * 128 ≤ 140737488355328 := by simp at kv16; omega
                have hp := Option.some.inj hp
                subst hp
                simp (maxSteps := 2000000) (disch := first | omega | (simp only [ls]; first | done | omega)) only [hO0, hO1, hO2, hO3, hO4, hO5, hO6, hO7, hO8, ep_spec_LogOK, ep_spec_VecOK, ep_spec_l08Counts, ep_spec_l02Covers, ep_spec_l08CopyOp, hv0, hb1, hv2, hb3, hv4, hv5, hb6, ftt0_0, ftt0_1, ftt0_2, ftt0_3, ftt0_4, ftt0_5, ftt0_6, ftt0_7, hb9, hv10, hv11, hb12, hv13, hb14, hv15, hv16, rv16, nv16, gx, Int.reduceToNat] <;> omega
              · replace hb14 := eq_false_of_ne_true hb14
                rw [if_f hb14] at hp
                have hp := Option.some.inj hp
                subst hp
                simp (maxSteps := 2000000) (disch := first | omega | (simp only [ls]; first | done | omega)) only [hO0, hO1, hO2, hO3, hO4, hO5, hO6, hO7, hO8, ep_spec_LogOK, ep_spec_VecOK, ep_spec_l08Counts, ep_spec_l02Covers, ep_spec_l08CopyOp, hv0, hb1, hv2, hb3, hv4, hv5, hb6, ftt0_0, ftt0_1, ftt0_2, ftt0_3, ftt0_4, ftt0_5, ftt0_6, ftt0_7, hb9, hv10, hv11, hb12, hv13, hb14, gx, Int.reduceToNat]
          · replace hb9 := eq_false_of_ne_true hb9
            rw [if_f hb9] at hp
            have hp := Option.some.inj hp
            subst hp
            simp (maxSteps := 2000000) (disch := first | omega | (simp only [ls]; first | done | omega)) only [hO0, hO1, hO2, hO3, hO4, hO5, hO6, hO7, hO8, ep_spec_LogOK, ep_spec_VecOK, ep_spec_l08Counts, ep_spec_l02Covers, ep_spec_l08CopyOp, hv0, hb1, hv2, hb3, hv4, hv5, hb6, ftt0_0, ftt0_1, ftt0_2, ftt0_3, ftt0_4, ftt0_5, ftt0_6, ftt0_7, hb9, gx, Int.reduceToNat] <;> omega
        · simp (maxSteps := 2000000) (disch := first | omega | (simp only [ls]; first | done | omega)) only [hO0, hO1, hO2, hO3, hO4, hO5, hO6, hO7, hO8, ep_spec_LogOK, ep_spec_VecOK, ep_spec_l08Counts, ep_spec_l02Covers, ep_spec_l08CopyOp, hv0, hb1, hv2, hb3, hv4, hv5, hb6, gx, Int.reduceToNat] <;> omega
        · intro x tt1 hh1 hx
          rcases ee0 with ⟨o17, o18⟩ | r
          · obtain ⟨rfl, ftt1_0, ftt1_1, ftt1_2, ftt1_3, ftt1_4, ftt1_5, ftt1_6, ftt1_7⟩ := hx
            dsimp only at hp
            have hp := Option.some.inj hp
            subst hp
            simp (maxSteps := 2000000) (disch := first | omega | (simp only [ls]; first | done | omega)) only [hO0, hO1, hO2, hO3, hO4, hO5, hO6, hO7, hO8, ep_spec_LogOK, ep_spec_VecOK, ep_spec_l08Counts, ep_spec_l02Covers, ep_spec_l08CopyOp, hv0, hb1, hv2, hb3, hv4, hv5, hb6, ftt1_0, ftt1_1, ftt1_2, ftt1_3, ftt1_4, ftt1_5, ftt1_6, ftt1_7, gx, Int.reduceToNat]
          · obtain ⟨rfl, hx⟩ := hx
            dsimp only at hp
            cases hp
            simp only [seqK_ret, blockK_ret, retK_RK (K := Tells false), hx, and_self, true_and]
      · replace hb6 := eq_false_of_ne_true hb6
        rw [if_f hb6] at hp
        have hp := Option.some.inj hp
        subst hp
        simp (maxSteps := 2000000) (disch := first | omega | (simp only [ls]; first | done | omega)) only [hO0, hO1, hO2, hO3, hO4, hO5, hO6, hO7, hO8, ep_spec_LogOK, ep_spec_VecOK, ep_spec_l08Counts, ep_spec_l02Covers, ep_spec_l08CopyOp, hv0, hb1, hv2, hb3, hv4, hv5, hb6, gx, Int.reduceToNat]
    · replace hb3 := eq_false_of_ne_true hb3
      rw [if_f hb3] at hp
      have hp := Option.some.inj hp
      subst hp
      simp (maxSteps := 2000000) (disch := first | omega | (simp only [ls]; first | done | omega)) only [hO0, hO1, hO2, hO3, hO4, hO5, hO6, hO7, hO8, ep_spec_LogOK, ep_spec_VecOK, ep_spec_l08Counts, ep_spec_l02Covers, ep_spec_l08CopyOp, hv0, hb1, hv2, hb3, gx, Int.reduceToNat]
  · replace hb1 := eq_false_of_ne_true hb1
    rw [if_f hb1] at hp
    have hp := Option.some.inj hp
    subst hp
    simp (maxSteps := 2000000) (disch := first | omega | (simp only [ls]; first | done | omega)) only [hO0, hO1, hO2, hO3, hO4, hO5, hO6, hO7, hO8, ep_spec_LogOK, ep_spec_VecOK, ep_spec_l08Counts, ep_spec_l02Covers, ep_spec_l08CopyOp, hv0, hb1, gx, Int.reduceToNat]

noncomputable def p_impl_vecLE_l0 (x0 : TVec) (x1 : TVec) : Int → Option (Lp (Int) Bool)
  | s0 =>
    if (decide (s0 < (x0.counts.length : Int))) = true then
      (get? x0.counts s0).bind fun v2 =>
      (get? x1.counts s0).bind fun v3 =>
      if (decide (v3 < v2)) = true then
        some (.ret false)
      else
        some (.go (w64 (s0 + 1)))
    else
      some (.out s0)
noncomputable def p_impl_vecLE (x0 : TVec) (x1 : TVec) : Option Bool :=
  (loopP (p_impl_vecLE_l0 x0 x1) 0).bind fun ee0 => match ee0 with
  | .ret r => some r
  | .out o5 =>
    some true
def c_impl_vecLE : AFn := ⟨23, (.seq (.ops [⟨(.some 2), (.box (.tmp 0)), .none, []⟩, ⟨(.some 3), (.box (.tmp 1)), .none, []⟩, ⟨(.some 4), (.mv (.const (.bool false))), .none, []⟩]) (.seq (.seq (.ops [⟨(.some 7), (.fieldA 0 (.tmp 2)), .none, []⟩, ⟨(.some 8), (.load 1 false (.tmp 7)), .none, []⟩, ⟨(.some 9), (.len (.tmp 8)), .none, []⟩, ⟨(.some 10), (.mv (.const (.int .i64 0))), .none, []⟩]) (.block 0 (.loop (.seq (.ops [⟨(.some 11), (.pu (.n (.ar .lss)) [(.tmp 10), (.tmp 9)]), .none, []⟩]) (.seq (.cond (.tmp 11) .skip (.exit 0)) (.seq (.block 1 (.seq (.ops [⟨(.some 12), (.mv (.tmp 10)), .none, []⟩, ⟨(.some 13), (.idxS 1 (.tmp 8) (.tmp 10)), .none, []⟩, ⟨(.some 14), (.load 1 false (.tmp 13)), .none, []⟩, ⟨(.some 5), (.mv (.tmp 12)), .none, []⟩, ⟨(.some 6), (.mv (.tmp 14)), .none, []⟩]) (.seq (.ops [⟨(.some 15), (.mv (.tmp 6)), .none, []⟩, ⟨(.some 16), (.fieldA 0 (.tmp 3)), .none, []⟩, ⟨(.some 17), (.load 1 false (.tmp 16)), .none, []⟩, ⟨(.some 18), (.mv (.tmp 5)), .none, []⟩, ⟨(.some 19), (.idxS 1 (.tmp 17) (.tmp 18)), .none, []⟩, ⟨(.some 20), (.load 1 false (.tmp 19)), .none, []⟩, ⟨(.some 21), (.pu (.n (.ar .gtr)) [(.tmp 15), (.tmp 20)]), .none, []⟩]) (.cond (.tmp 21) (.seq (.ops [⟨(.some 4), (.mv (.const (.bool false))), .none, []⟩]) .ret) .skip)))) (.ops [⟨(.some 22), (.pu (.n (.ar .add)) [(.tmp 10), (.const (.int .i64 1))]), .none, []⟩, ⟨(.some 10), (.mv (.tmp 22)), .none, []⟩]))))))) (.seq (.ops [⟨(.some 4), (.mv (.const (.bool true))), .none, []⟩]) .ret))), [(.tmp 4)]⟩
set_option maxHeartbeats 10000000 in
theorem d_impl_vecLE {P : Program} {env : Env}  (x0 : TVec) (x1 : TVec) {b : Bool} (hp : p_impl_vecLE x0 x1 = some b) : R P env (c_impl_vecLE) ((encA (x0, x1)).map ofI) [] (Tells true b) := by
  refine R_of (by simp [c_impl_vecLE, encA]) ?_
  unfold c_impl_vecLE
  unfold p_impl_vecLE at hp
  obtain ⟨ee0, hee0, hp⟩ := bind_eq hp
  simp (maxSteps := 2000000) (disch := first | omega | (simp only [ls]; first | done | omega)) only [gx, Int.reduceToNat]
  refine W_loopP 0 (fun s t h => match s with | s0 => t 3 = .ptr 1 1 0 ∧ t 8 = .i (.sl 1 (x0.counts.map enc)) ∧ t 9 = .i (.s (.int .i64 (x0.counts.length : Int))) ∧ t 10 = .i (.s (.int .i64 s0)) ∧ getCells h 1 1 = some [.i (.sl 1 (x1.counts.map enc))] ∧ 1 < h.length) (RK [.tmp 4] (Tells true)) ?_ hee0 ?_ ?_
  · rintro s0 ee tt0 hh0 ⟨ftt0_0, ftt0_1, ftt0_2, ftt0_3, ftt0_4, ftt0_5⟩ hp
    rw [p_impl_vecLE_l0] at hp
    by_cases hb1 : (decide (s0 < (x0.counts.length : Int))) = true
    · rw [if_t hb1] at hp
      obtain ⟨v2, hv2, hp⟩ := bind_eq hp
      obtain ⟨v3, hv3, hp⟩ := bind_eq hp
      by_cases hb4 : (decide (v3 < v2)) = true
      · rw [if_t hb4] at hp
        have hp := Option.some.inj hp
        subst hp
        simp (maxSteps := 2000000) (disch := first | omega | (simp only [ls]; first | done | omega)) only [ftt0_0, ftt0_1, ftt0_2, ftt0_3, ftt0_4, ftt0_5, hb1, hv2, hv3, hb4, gx, Int.reduceToNat]
      · replace hb4 := eq_false_of_ne_true hb4
        rw [if_f hb4] at hp
        have hp := Option.some.inj hp
        subst hp
        simp (maxSteps := 2000000) (disch := first | omega | (simp only [ls]; first | done | omega)) only [ftt0_0, ftt0_1, ftt0_2, ftt0_3, ftt0_4, ftt0_5, hb1, hv2, hv3, hb4, gx, Int.reduceToNat] <;> omega
    · replace hb1 := eq_false_of_ne_true hb1
      rw [if_f hb1] at hp
      have hp := Option.some.inj hp
      subst hp
      simp (maxSteps := 2000000) (disch := first | omega | (simp only [ls]; first | done | omega)) only [ftt0_0, ftt0_1, ftt0_2, ftt0_3, ftt0_4, ftt0_5, hb1, gx, Int.reduceToNat] <;> omega
  · simp (maxSteps := 2000000) (disch := first | omega | (simp only [ls]; first | done | omega)) only [gx, Int.reduceToNat] <;> omega
  · intro x tt1 hh1 hx
    rcases ee0 with o5 | r
    · obtain ⟨rfl, ftt1_0, ftt1_1, ftt1_2, ftt1_3, ftt1_4, ftt1_5⟩ := hx
      dsimp only at hp
      have hp := Option.some.inj hp
      subst hp
      simp (maxSteps := 2000000) (disch := first | omega | (simp only [ls]; first | done | omega)) only [ftt1_0, ftt1_1, ftt1_2, ftt1_3, ftt1_4, ftt1_5, gx, Int.reduceToNat]
    · obtain ⟨rfl, hx⟩ := hx
      dsimp only at hp
      cases hp
      simp only [seqK_ret, blockK_ret, retK_RK (K := Tells true), hx, and_self, true_and]

noncomputable def p_impl_book_at_l0 (x0 : Option TBook) (x1 : TVec) : Int → Option (Lp (Int) (T2 (Option TBook) Int))
  | s0 =>
    if (decide (s0 < (x1.counts.length : Int))) = true then
      (get? x1.counts s0).bind fun v2 =>
      (x0).bind fun v3 =>
      (get? v3.of_ s0).bind fun v4 =>
      if (decide ((v4.length : Int) < v2)) = true then
        some (.ret ⟨(none : Option TBook), 5⟩)
      else
        some (.go (w64 (s0 + 1)))
    else
      some (.out s0)
noncomputable def p_impl_book_at_l2 (x1 : TVec) (v15 : List TOp) : TBook × Int → Option (Lp (TBook × Int) (T2 (Option TBook) Int))
  | (s16, s17) =>
    if (decide (s17 < (v15.length : Int))) = true then
      (get? v15 s17).bind fun v19 =>
      (p_impl_vecLE v19.deps x1).bind fun v20 =>
      if (v20) = true then
        (p_impl_book_put s16 v19).bind fun v22 =>
        some (.go (v22, w64 (s17 + 1)))
      else
        some (.ret ⟨(none : Option TBook), 5⟩)
    else
      some (.out (s16, s17))
noncomputable def p_impl_book_at_l3 (x0 : Option TBook) (x1 : TVec) : TBook × Int → Option (Lp (TBook × Int) (T2 (Option TBook) Int))
  | (s8, s9) =>
    if (decide (s9 < (x1.counts.length : Int))) = true then
      (get? x1.counts s9).bind fun v11 =>
      (x0).bind fun v12 =>
      (get? v12.of_ s9).bind fun v13 =>
      (cut? v13 0 v11).bind fun v15 =>
      (loopP (p_impl_book_at_l2 x1 v15) (s8, 0)).bind fun ee2 => match ee2 with
      | .ret r => some (.ret r)
      | .out (o23, o24) =>
        some (.go (o23, w64 (s9 + 1)))
    else
      some (.out (s8, s9))
noncomputable def p_impl_book_at (x0 : Option TBook) (x1 : TVec) : Option (T2 (Option TBook) Int) :=
  (loopP (p_impl_book_at_l0 x0 x1) 0).bind fun ee0 => match ee0 with
  | .ret r => some r
  | .out o7 =>
    (loopP (p_impl_book_at_l3 x0 x1) (book0, 0)).bind fun ee3 => match ee3 with
    | .ret r => some r
    | .out (o25, o26) =>
      some ⟨(some o25), 0⟩
def c_impl_book_at (f_impl_vecLE : Nat) (f_impl_book_put : Nat) : AFn := ⟨65, (.seq (.ops [⟨(.some 3), (.box (.tmp 1)), .none, []⟩, ⟨(.some 4), (.mv (.const (.pointer .none))), .none, []⟩, ⟨(.some 5), (.mv (.const (.int .i64 0))), .none, []⟩]) (.seq (.ops [⟨(.some 13), (.build [(.slice .none 0 0), (.slice .none 0 0), (.slice .none 0 0), (.slice .none 0 0), (.slice .none 0 0), (.slice .none 0 0), (.slice .none 0 0), (.slice .none 0 0), (.slice .none 0 0), (.slice .none 0 0), (.slice .none 0 0), (.slice .none 0 0), (.slice .none 0 0), (.slice .none 0 0), (.slice .none 0 0), (.slice .none 0 0), (.int .i64 0), (.int .i64 0), (.int .i64 0), (.int .i64 0), (.int .i64 0), (.int .i64 0), (.int .i64 0), (.int .i64 0), (.int .i64 0), (.int .i64 0), (.int .i64 0), (.int .i64 0), (.int .i64 0), (.int .i64 0), (.int .i64 0), (.int .i64 0), (.int .i64 0), (.int .i64 0), (.int .i64 0), (.int .i64 0), (.int .i64 0), (.int .i64 0), (.int .i64 0), (.int .i64 0), (.int .i64 0), (.int .i64 0), (.int .i64 0), (.int .i64 0), (.int .i64 0), (.int .i64 0), (.int .i64 0), (.int .i64 0), (.int .i64 0), (.int .i64 0), (.int .i64 0), (.int .i64 0), (.int .i64 0), (.int .i64 0), (.int .i64 0), (.int .i64 0), (.int .i64 0), (.int .i64 0), (.int .i64 0), (.int .i64 0), (.int .i64 0), (.int .i64 0), (.int .i64 0), (.int .i64 0), (.int .i64 0), (.int .i64 0), (.int .i64 0), (.int .i64 0), (.int .i64 0), (.int .i64 0), (.int .i64 0), (.int .i64 0), (.int .i64 0), (.int .i64 0), (.int .i64 0), (.int .i64 0), (.int .i64 0), (.int .i64 0), (.int .i64 0), (.int .i64 0), (.int .i64 0), (.int .i64 0), (.int .i64 0), (.int .i64 0), (.int .i64 0), (.int .i64 0), (.int .i64 0), (.int .i64 0), (.int .i64 0), (.int .i64 0), (.int .i64 0), (.int .i64 0), (.int .i64 0), (.int .i64 0), (.int .i64 0), (.int .i64 0), (.int .i64 0), (.int .i64 0), (.int .i64 0), (.int .i64 0), (.int .i64 0), (.int .i64 0), (.int .i64 0), (.int .i64 0), (.int .i64 0), (.int .i64 0), (.int .i64 0), (.int .i64 0), (.int .i64 0), (.int .i64 0), (.int .i64 0), (.int .i64 0), (.int .i64 0), (.int .i64 0), (.int .i64 0), (.int .i64 0), (.int .i64 0), (.int .i64 0), (.int .i64 0), (.int .i64 0)] []), .none, []⟩, ⟨(.some 14), (.box (.tmp 13)), .none, []⟩, ⟨(.some 6), (.mv (.tmp 14)), .none, []⟩]) (.seq (.seq (.ops [⟨(.some 15), (.fieldA 0 (.tmp 3)), .none, []⟩, ⟨(.some 16), (.load 1 false (.tmp 15)), .none, []⟩, ⟨(.some 17), (.len (.tmp 16)), .none, []⟩, ⟨(.some 18), (.mv (.const (.int .i64 0))), .none, []⟩]) (.block 0 (.loop (.seq (.ops [⟨(.some 19), (.pu (.n (.ar .lss)) [(.tmp 18), (.tmp 17)]), .none, []⟩]) (.seq (.cond (.tmp 19) .skip (.exit 0)) (.seq (.block 1 (.seq (.ops [⟨(.some 20), (.mv (.tmp 18)), .none, []⟩, ⟨(.some 21), (.idxS 1 (.tmp 16) (.tmp 18)), .none, []⟩, ⟨(.some 22), (.load 1 false (.tmp 21)), .none, []⟩, ⟨(.some 7), (.mv (.tmp 20)), .none, []⟩, ⟨(.some 8), (.mv (.tmp 22)), .none, []⟩]) (.seq (.ops [⟨(.some 23), (.mv (.tmp 8)), .none, []⟩, ⟨(.some 24), (.mv (.tmp 0)), .none, []⟩, ⟨(.some 25), (.mv (.tmp 7)), .none, []⟩, ⟨(.some 26), (.nilChk (.tmp 24)), .none, []⟩, ⟨(.some 27), (.fieldA 0 (.tmp 26)), .none, []⟩, ⟨(.some 28), (.idxA 16 1 (.tmp 27) (.tmp 25)), .none, []⟩, ⟨(.some 29), (.load 1 false (.tmp 28)), .none, []⟩, ⟨(.some 30), (.len (.tmp 29)), .none, []⟩, ⟨(.some 31), (.pu (.n (.ar .gtr)) [(.tmp 23), (.tmp 30)]), .none, []⟩]) (.cond (.tmp 31) (.seq (.ops [⟨(.some 4), (.mv (.const (.pointer .none))), .none, []⟩, ⟨(.some 5), (.mv (.const (.int .i64 5))), .none, []⟩]) .ret) .skip)))) (.ops [⟨(.some 32), (.pu (.n (.ar .add)) [(.tmp 18), (.const (.int .i64 1))]), .none, []⟩, ⟨(.some 18), (.mv (.tmp 32)), .none, []⟩]))))))) (.seq (.seq (.ops [⟨(.some 33), (.fieldA 0 (.tmp 3)), .none, []⟩, ⟨(.some 34), (.load 1 false (.tmp 33)), .none, []⟩, ⟨(.some 35), (.len (.tmp 34)), .none, []⟩, ⟨(.some 36), (.mv (.const (.int .i64 0))), .none, []⟩]) (.block 2 (.loop (.seq (.ops [⟨(.some 37), (.pu (.n (.ar .lss)) [(.tmp 36), (.tmp 35)]), .none, []⟩]) (.seq (.cond (.tmp 37) .skip (.exit 2)) (.seq (.block 3 (.seq (.ops [⟨(.some 38), (.mv (.tmp 36)), .none, []⟩, ⟨(.some 39), (.idxS 1 (.tmp 34) (.tmp 36)), .none, []⟩, ⟨(.some 40), (.load 1 false (.tmp 39)), .none, []⟩, ⟨(.some 9), (.mv (.tmp 38)), .none, []⟩, ⟨(.some 10), (.mv (.tmp 40)), .none, []⟩]) (.seq (.ops [⟨(.some 41), (.mv (.tmp 0)), .none, []⟩, ⟨(.some 42), (.mv (.tmp 9)), .none, []⟩, ⟨(.some 43), (.nilChk (.tmp 41)), .none, []⟩, ⟨(.some 44), (.fieldA 0 (.tmp 43)), .none, []⟩, ⟨(.some 45), (.idxA 16 1 (.tmp 44) (.tmp 42)), .none, []⟩, ⟨(.some 46), (.load 1 false (.tmp 45)), .none, []⟩, ⟨(.some 47), (.mv (.tmp 10)), .none, []⟩, ⟨(.some 48), (.slice 12 (.tmp 46) .none (.some (.tmp 47))), .none, []⟩, ⟨(.some 49), (.len (.tmp 48)), .none, []⟩, ⟨(.some 50), (.mv (.const (.int .i64 0))), .none, []⟩]) (.block 4 (.loop (.seq (.ops [⟨(.some 51), (.pu (.n (.ar .lss)) [(.tmp 50), (.tmp 49)]), .none, []⟩]) (.seq (.cond (.tmp 51) .skip (.exit 4)) (.seq (.block 5 (.seq (.ops [⟨(.some 52), (.idxS 12 (.tmp 48) (.tmp 50)), .none, []⟩, ⟨(.some 53), (.load 12 true (.tmp 52)), .none, []⟩, ⟨(.some 12), (.allocV [(0, false), (0, false), (0, false), (1, false), (0, false), (0, false), (0, false), (0, false), (0, false), (0, false), (0, false), (0, false)] [(.int .i64 0), (.int .i64 0), (.int .i64 0), (.slice .none 0 0), (.int .i64 0), (.int .i64 0), (.int .i64 0), (.int .i64 0), (.int .i64 0), (.int .i64 0), (.string ⟨#[]⟩), (.string ⟨#[]⟩)]), .none, []⟩, ⟨.none, (.storeV [(0, false), (0, false), (0, false), (1, false), (0, false), (0, false), (0, false), (0, false), (0, false), (0, false), (0, false), (0, false)] 12 (.tmp 12) (.tmp 53)), .none, []⟩]) (.seq (.seq (.ops [⟨(.some 54), (.fieldA 3 (.tmp 12)), .none, []⟩, ⟨(.some 55), (.load 1 true (.tmp 54)), .none, []⟩, ⟨(.some 56), (.load 1 true (.tmp 3)), .none, []⟩, ⟨(.some 57), (.call (2 * f_impl_vecLE) [(.tmp 55), (.tmp 56)]), .none, []⟩, ⟨(.some 58), (.pu (.n (.un .not)) [(.tmp 57)]), .none, []⟩]) (.cond (.tmp 58) (.seq (.ops [⟨(.some 4), (.mv (.const (.pointer .none))), .none, []⟩, ⟨(.some 5), (.mv (.const (.int .i64 5))), .none, []⟩]) .ret) .skip)) (.ops [⟨(.some 59), (.mv (.tmp 6)), .none, []⟩, ⟨(.some 60), (.load 12 true (.tmp 12)), .none, []⟩, ⟨(.some 61), (.call (2 * f_impl_book_put + 1) [(.tmp 59), (.tmp 60)]), .none, []⟩])))) (.ops [⟨(.some 62), (.pu (.n (.ar .add)) [(.tmp 50), (.const (.int .i64 1))]), .none, []⟩, ⟨(.some 50), (.mv (.tmp 62)), .none, []⟩]))))))))) (.ops [⟨(.some 63), (.pu (.n (.ar .add)) [(.tmp 36), (.const (.int .i64 1))]), .none, []⟩, ⟨(.some 36), (.mv (.tmp 63)), .none, []⟩]))))))) (.seq (.ops [⟨(.some 64), (.mv (.tmp 6)), .none, []⟩, ⟨(.some 4), (.mv (.tmp 64)), .none, []⟩, ⟨(.some 5), (.mv (.const (.int .i64 0))), .none, []⟩]) .ret))))), [(.tmp 4), (.tmp 5)]⟩
set_option maxHeartbeats 10000000 in
theorem d_impl_book_at {P : Program} {env : Env} {f_impl_vecLE : Nat} {f_impl_book_put : Nat}  (ep_impl_vecLE : env (2 * f_impl_vecLE) = pureFn true (FA fun a : TVec × TVec => p_impl_vecLE a.1 a.2)) (e_impl_book_put : k_impl_book_put (env (2 * f_impl_book_put + 1))) (x0 : Option TBook) (x1 : TVec) {b : T2 (Option TBook) Int} (hp : p_impl_book_at x0 x1 = some b) : R P env (c_impl_book_at f_impl_vecLE f_impl_book_put) ((encA (x0, x1)).map ofI) [] (Tells false b) := by
  refine R_of (by simp [c_impl_book_at, encA]) ?_
  have hO0 := @opc_virtC
  have hO1 := @opc_nilsOf
  have hO2 := @opc_virtV
  have hO3 := @opc_nilsV
  have hO4 := @opc_one
  have hO5 := @opc_splice
  have hO6 := @opc_virtVw
  have hO7 := @opc_nilsVw
  have hO8 := @opc_onew
  unfold c_impl_book_at
  unfold p_impl_book_at at hp
  obtain ⟨ee0, hee0, hp⟩ := bind_eq hp
  simp (maxSteps := 2000000) (disch := first | omega | (simp only [ls]; first | done | omega)) only [hO0, hO1, hO2, hO3, hO4, hO5, hO6, hO7, hO8, ep_impl_vecLE, gx, Int.reduceToNat]
  refine W_loopP 0 (fun s t h => match s with | s0 => t 0 = .i (enc (x0 : Option TBook)) ∧ t 3 = .ptr 0 1 0 ∧ t 6 = .ptr 1 120 0 ∧ t 16 = .i (.sl 1 (x1.counts.map enc)) ∧ t 17 = .i (.s (.int .i64 (x1.counts.length : Int))) ∧ t 18 = .i (.s (.int .i64 s0)) ∧ getCells h 0 1 = some [.i (.sl 1 (x1.counts.map enc))] ∧ 0 < h.length ∧ BookAt h 1 book0 ∧ 1 < h.length ∧ Free h 0 1) (RK [.tmp 4, .tmp 5] (Tells false)) ?_ hee0 ?_ ?_
  · rintro s0 ee tt0 hh0 ⟨ftt0_0, ftt0_1, ftt0_2, ftt0_3, ftt0_4, ftt0_5, ftt0_6, ftt0_7, ftt0_8, ftt0_9, ftt0_10⟩ hp
    rw [p_impl_book_at_l0] at hp
    try simp (maxSteps := 2000000) (disch := first | omega | (simp only [ls]; first | done | omega)) only [hO0, hO1, hO2, hO3, hO4, hO5, hO6, hO7, hO8, ep_impl_vecLE, ftt0_0, ftt0_1, ftt0_2, ftt0_3, ftt0_4, ftt0_5, ftt0_6, ftt0_7, ftt0_8, ftt0_9, ftt0_10, gx, Int.reduceToNat]
    by_cases hb1 : (decide (s0 < (x1.counts.length : Int))) = true
    · rw [if_t hb1] at hp
      obtain ⟨v2, hv2, hp⟩ := bind_eq hp
      obtain ⟨v3, hv3, hp⟩ := bind_eq hp
      obtain ⟨v4, hv4, hp⟩ := bind_eq hp
      have gv4 := get_some hv4
      have bv4 : s0 < 16 := by have := gv4.2.1; have := (v3).h1; omega
      have hk5 := ip_of hv4
      have hk5l : 1 ≤ _ := ip_len0 (k := v3) (i := s0) (by have := gv4.2.1; have := (v3).h1; omega)
      try simp (maxSteps := 2000000) (disch := first | omega | (simp only [ls]; first | done | omega)) only [hO0, hO1, hO2, hO3, hO4, hO5, hO6, hO7, hO8, ep_impl_vecLE, ftt0_0, ftt0_1, ftt0_2, ftt0_3, ftt0_4, ftt0_5, ftt0_6, ftt0_7, ftt0_8, ftt0_9, ftt0_10, hb1, hv2, hv3, hv4, (gv4).1, bv4, hk5, hk5l, gx, Int.reduceToNat]
      by_cases hb6 : (decide ((v4.length : Int) < v2)) = true
      · rw [if_t hb6] at hp
        have hp := Option.some.inj hp
        subst hp
        simp (maxSteps := 2000000) (disch := first | omega | (simp only [ls]; first | done | omega)) only [hO0, hO1, hO2, hO3, hO4, hO5, hO6, hO7, hO8, ep_impl_vecLE, ftt0_0, ftt0_1, ftt0_2, ftt0_3, ftt0_4, ftt0_5, ftt0_6, ftt0_7, ftt0_8, ftt0_9, ftt0_10, hb1, hv2, hv3, hv4, (gv4).1, bv4, hk5, hk5l, hb6, gx, Int.reduceToNat]
      · replace hb6 := eq_false_of_ne_true hb6
        rw [if_f hb6] at hp
        have hp := Option.some.inj hp
        subst hp
        simp (maxSteps := 2000000) (disch := first | omega | (simp only [ls]; first | done | omega)) only [hO0, hO1, hO2, hO3, hO4, hO5, hO6, hO7, hO8, ep_impl_vecLE, ftt0_0, ftt0_1, ftt0_2, ftt0_3, ftt0_4, ftt0_5, ftt0_6, ftt0_7, ftt0_8, ftt0_9, ftt0_10, hb1, hv2, hv3, hv4, (gv4).1, bv4, hk5, hk5l, hb6, gx, Int.reduceToNat] <;> (repeat (first | refine And.intro ?_ ?_ | assumption | exact book_ext (by assumption) | exact book_new rfl | exact free_ext (by assumption) (by first | omega | assumption) | exact free_new (k := book0) rfl (by first | decide | omega) | exact free_fresh (by assumption) (by first | exact Nat.le_refl _ | omega) | refine book_ext ?_ | refine free_ext ?_ (by first | omega | (simp; omega)) | omega))
    · replace hb1 := eq_false_of_ne_true hb1
      rw [if_f hb1] at hp
      have hp := Option.some.inj hp
      subst hp
      simp (maxSteps := 2000000) (disch := first | omega | (simp only [ls]; first | done | omega)) only [hO0, hO1, hO2, hO3, hO4, hO5, hO6, hO7, hO8, ep_impl_vecLE, ftt0_0, ftt0_1, ftt0_2, ftt0_3, ftt0_4, ftt0_5, ftt0_6, ftt0_7, ftt0_8, ftt0_9, ftt0_10, hb1, gx, Int.reduceToNat] <;> (repeat (first | refine And.intro ?_ ?_ | assumption | exact book_ext (by assumption) | exact book_new rfl | exact free_ext (by assumption) (by first | omega | assumption) | exact free_new (k := book0) rfl (by first | decide | omega) | exact free_fresh (by assumption) (by first | exact Nat.le_refl _ | omega) | refine book_ext ?_ | refine free_ext ?_ (by first | omega | (simp; omega)) | omega))
  · simp (maxSteps := 2000000) (disch := first | omega | (simp only [ls]; first | done | omega)) only [hO0, hO1, hO2, hO3, hO4, hO5, hO6, hO7, hO8, ep_impl_vecLE, gx, Int.reduceToNat] <;> (repeat (first | refine And.intro ?_ ?_ | assumption | exact book_ext (by assumption) | exact book_new rfl | exact free_ext (by assumption) (by first | omega | assumption) | exact free_new (k := book0) rfl (by first | decide | omega) | exact free_fresh (by assumption) (by first | exact Nat.le_refl _ | omega) | refine book_ext ?_ | refine free_ext ?_ (by first | omega | (simp; omega)) | omega))
  · intro x tt1 hh1 hx
    rcases ee0 with o7 | r
    · obtain ⟨rfl, ftt1_0, ftt1_1, ftt1_2, ftt1_3, ftt1_4, ftt1_5, ftt1_6, ftt1_7, ftt1_8, ftt1_9, ftt1_10⟩ := hx
      dsimp only at hp
      obtain ⟨ee3, hee3, hp⟩ := bind_eq hp
      simp (maxSteps := 2000000) (disch := first | omega | (simp only [ls]; first | done | omega)) only [hO0, hO1, hO2, hO3, hO4, hO5, hO6, hO7, hO8, ep_impl_vecLE, ftt1_0, ftt1_1, ftt1_2, ftt1_3, ftt1_4, ftt1_5, ftt1_6, ftt1_7, ftt1_8, ftt1_9, ftt1_10, gx, Int.reduceToNat]
      refine W_loopP 2 (fun s t h => match s with | (s8, s9) => t 0 = .i (enc (x0 : Option TBook)) ∧ t 3 = .ptr 0 1 0 ∧ t 6 = .ptr 1 120 0 ∧ t 34 = .i (.sl 1 (x1.counts.map enc)) ∧ t 35 = .i (.s (.int .i64 (x1.counts.length : Int))) ∧ t 36 = .i (.s (.int .i64 s9)) ∧ getCells h 0 1 = some [.i (.sl 1 (x1.counts.map enc))] ∧ 0 < h.length ∧ BookAt h 1 s8 ∧ 1 < h.length ∧ Free h 0 1) (RK [.tmp 4, .tmp 5] (Tells false)) ?_ hee3 ?_ ?_
      · rintro ⟨s8, s9⟩ ee tt2 hh2 ⟨ftt2_0, ftt2_1, ftt2_2, ftt2_3, ftt2_4, ftt2_5, ftt2_6, ftt2_7, ftt2_8, ftt2_9, ftt2_10⟩ hp
        rw [p_impl_book_at_l3] at hp
        try simp (maxSteps := 2000000) (disch := first | omega | (simp only [ls]; first | done | omega)) only [hO0, hO1, hO2, hO3, hO4, hO5, hO6, hO7, hO8, ep_impl_vecLE, ftt1_0, ftt1_1, ftt1_2, ftt1_3, ftt1_4, ftt1_5, ftt1_6, ftt1_7, ftt1_8, ftt1_9, ftt1_10, ftt2_0, ftt2_1, ftt2_2, ftt2_3, ftt2_4, ftt2_5, ftt2_6, ftt2_7, ftt2_8, ftt2_9, ftt2_10, gx, Int.reduceToNat]
        by_cases hb10 : (decide (s9 < (x1.counts.length : Int))) = true
        · rw [if_t hb10] at hp
          obtain ⟨v11, hv11, hp⟩ := bind_eq hp
          obtain ⟨v12, hv12, hp⟩ := bind_eq hp
          obtain ⟨v13, hv13, hp⟩ := bind_eq hp
          have gv13 := get_some hv13
          have bv13 : s9 < 16 := by have := gv13.2.1; have := (v12).h1; omega
          have hk14 := ip_of hv13
          have hk14l : 1 ≤ _ := ip_len0 (k := v12) (i := s9) (by have := gv13.2.1; have := (v12).h1; omega)
          obtain ⟨v15, hv15, hp⟩ := bind_eq hp
          obtain ⟨ee2, hee2, hp⟩ := bind_eq hp
          simp (maxSteps := 2000000) (disch := first | omega | (simp only [ls]; first | done | omega)) only [hO0, hO1, hO2, hO3, hO4, hO5, hO6, hO7, hO8, ep_impl_vecLE, ftt1_0, ftt1_1, ftt1_2, ftt1_3, ftt1_4, ftt1_5, ftt1_6, ftt1_7, ftt1_8, ftt1_9, ftt1_10, ftt2_0, ftt2_1, ftt2_2, ftt2_3, ftt2_4, ftt2_5, ftt2_6, ftt2_7, ftt2_8, ftt2_9, ftt2_10, hb10, hv11, hv12, hv13, (gv13).1, bv13, hk14, hk14l, hv15, gx, Int.reduceToNat]
          refine W_loopP 4 (fun s t h => match s with | (s16, s17) => t 0 = .i (enc (x0 : Option TBook)) ∧ t 3 = .ptr 0 1 0 ∧ t 6 = .ptr 1 120 0 ∧ t 34 = .i (.sl 1 (x1.counts.map enc)) ∧ t 35 = .i (.s (.int .i64 (x1.counts.length : Int))) ∧ t 36 = .i (.s (.int .i64 s9)) ∧ t 48 = .i (.sl 12 (v15.map enc)) ∧ t 49 = .i (.s (.int .i64 (v15.length : Int))) ∧ t 50 = .i (.s (.int .i64 s17)) ∧ getCells h 0 1 = some [.i (.sl 1 (x1.counts.map enc))] ∧ 0 < h.length ∧ BookAt h 1 s16 ∧ 1 < h.length ∧ Free h 0 1) (RK [.tmp 4, .tmp 5] (Tells false)) ?_ hee2 ?_ ?_
          · rintro ⟨s16, s17⟩ ee tt3 hh3 ⟨ftt3_0, ftt3_1, ftt3_2, ftt3_3, ftt3_4, ftt3_5, ftt3_6, ftt3_7, ftt3_8, ftt3_9, ftt3_10, ftt3_11, ftt3_12, ftt3_13⟩ hp
            rw [p_impl_book_at_l2] at hp
            try simp (maxSteps := 2000000) (disch := first | omega | (simp only [ls]; first | done | omega)) only [hO0, hO1, hO2, hO3, hO4, hO5, hO6, hO7, hO8, ep_impl_vecLE, ftt1_0, ftt1_1, ftt1_2, ftt1_3, ftt1_4, ftt1_5, ftt1_6, ftt1_7, ftt1_8, ftt1_9, ftt1_10, ftt2_0, ftt2_1, ftt2_2, ftt2_3, ftt2_4, ftt2_5, ftt2_6, ftt2_7, ftt2_8, ftt2_9, ftt2_10, hb10, hv11, hv12, hv13, (gv13).1, bv13, hk14, hk14l, hv15, ftt3_0, ftt3_1, ftt3_2, ftt3_3, ftt3_4, ftt3_5, ftt3_6, ftt3_7, ftt3_8, ftt3_9, ftt3_10, ftt3_11, ftt3_12, ftt3_13, gx, Int.reduceToNat]
            by_cases hb18 : (decide (s17 < (v15.length : Int))) = true
            · rw [if_t hb18] at hp
              obtain ⟨v19, hv19, hp⟩ := bind_eq hp
              obtain ⟨v20, hv20, hp⟩ := bind_eq hp
              try simp (maxSteps := 2000000) (disch := first | omega | (simp only [ls]; first | done | omega)) only [hO0, hO1, hO2, hO3, hO4, hO5, hO6, hO7, hO8, ep_impl_vecLE, ftt1_0, ftt1_1, ftt1_2, ftt1_3, ftt1_4, ftt1_5, ftt1_6, ftt1_7, ftt1_8, ftt1_9, ftt1_10, ftt2_0, ftt2_1, ftt2_2, ftt2_3, ftt2_4, ftt2_5, ftt2_6, ftt2_7, ftt2_8, ftt2_9, ftt2_10, hb10, hv11, hv12, hv13, (gv13).1, bv13, hk14, hk14l, hv15, ftt3_0, ftt3_1, ftt3_2, ftt3_3, ftt3_4, ftt3_5, ftt3_6, ftt3_7, ftt3_8, ftt3_9, ftt3_10, ftt3_11, ftt3_12, ftt3_13, hb18, hv19, hv20, gx, Int.reduceToNat]
              by_cases hb21 : (v20) = true
              · rw [if_t hb21] at hp
                obtain ⟨v22, hv22, hp⟩ := bind_eq hp
                simp (maxSteps := 2000000) (disch := first | omega | (simp only [ls]; first | done | omega)) only [hO0, hO1, hO2, hO3, hO4, hO5, hO6, hO7, hO8, ep_impl_vecLE, ftt1_0, ftt1_1, ftt1_2, ftt1_3, ftt1_4, ftt1_5, ftt1_6, ftt1_7, ftt1_8, ftt1_9, ftt1_10, ftt2_0, ftt2_1, ftt2_2, ftt2_3, ftt2_4, ftt2_5, ftt2_6, ftt2_7, ftt2_8, ftt2_9, ftt2_10, hb10, hv11, hv12, hv13, (gv13).1, bv13, hk14, hk14l, hv15, ftt3_0, ftt3_1, ftt3_2, ftt3_3, ftt3_4, ftt3_5, ftt3_6, ftt3_7, ftt3_8, ftt3_9, ftt3_10, ftt3_11, ftt3_12, ftt3_13, hb18, hv19, hv20, hb21, gx, Int.reduceToNat]
                refine call_f (fun h => getCells h 0 1 = some [.i (.sl 1 (x1.counts.map enc))] ∧ 0 < h.length ∧ BookAt h 1 s16 ∧ 1 < h.length ∧ getCells h hh3.length 0 = some [] ∧ hh3.length < h.length ∧ getCells h (hh3.length + 1) 12 = some [.i (.s (.int .i64 v19.actor)), .i (.s (.int .i64 v19.seq)), .i (.s (.int .i64 v19.time)), .i (.sl 1 (v19.deps.counts.map enc)), .i (.s (.int .i64 v19.kind)), .i (.s (.int .i64 v19.obj)), .i (.s (.int .i64 v19.n)), .i (.s (.int .i64 v19.undo)), .i (.s (.int .i64 v19.at_.time)), .i (.s (.int .i64 v19.at_.actor)), .i (.s (.string v19.key)), .i (.s (.string v19.text))] ∧ hh3.length + 1 < h.length ∧ Free h 0 1 ∧ Free h hh3.length 1 ∧ Free h (hh3.length + 1) 1) (fun h v h2 => i_impl_book_put 1 h v22 v h2) ?_ ?_ ?_
                · simp (maxSteps := 2000000) (disch := first | omega | (simp only [ls]; first | done | omega)) only [hO0, hO1, hO2, hO3, hO4, hO5, hO6, hO7, hO8, ep_impl_vecLE, ftt1_0, ftt1_1, ftt1_2, ftt1_3, ftt1_4, ftt1_5, ftt1_6, ftt1_7, ftt1_8, ftt1_9, ftt1_10, ftt2_0, ftt2_1, ftt2_2, ftt2_3, ftt2_4, ftt2_5, ftt2_6, ftt2_7, ftt2_8, ftt2_9, ftt2_10, hb10, hv11, hv12, hv13, (gv13).1, bv13, hk14, hk14l, hv15, ftt3_0, ftt3_1, ftt3_2, ftt3_3, ftt3_4, ftt3_5, ftt3_6, ftt3_7, ftt3_8, ftt3_9, ftt3_10, ftt3_11, ftt3_12, ftt3_13, hb18, hv19, hv20, hb21, hv22, gx, Int.reduceToNat] <;> (repeat (first | refine And.intro ?_ ?_ | assumption | exact book_ext (by assumption) | exact book_new rfl | exact free_ext (by assumption) (by first | omega | assumption) | exact free_new (k := book0) rfl (by first | decide | omega) | exact free_fresh (by assumption) (by first | exact Nat.le_refl _ | omega) | refine book_ext ?_ | refine free_ext ?_ (by first | omega | (simp; omega)) | omega))
                · rintro h ⟨c4_0, c4_1, c4_2, c4_3, c4_4, c4_5, c4_6, c4_7, c4_8, c4_9, c4_10⟩
                  exact e_impl_book_put _ _ _ hv22 _ h c4_2
                · rintro hc4 v hh4 ⟨c4_0, c4_1, c4_2, c4_3, c4_4, c4_5, c4_6, c4_7, c4_8, c4_9, c4_10⟩ hpost
                  obtain ⟨kk4, rfl, w4_0, wf4⟩ := hpost
                  have d4_0 : getCells hh4 0 1 = some [.i (.sl 1 (x1.counts.map enc))] := (free_get (wf4 _ c4_1 c4_8).1).trans c4_0
                  have d4_0l := Nat.lt_of_lt_of_le c4_1 kk4
                  have d4_1 : BookAt hh4 1 v22 := w4_0
                  have d4_1l := book_lt d4_1
                  have d4_2 : getCells hh4 hh3.length 0 = some [] := (free_get (wf4 _ c4_5 c4_9).1).trans c4_4
                  have d4_2l := Nat.lt_of_lt_of_le c4_5 kk4
                  have d4_3 : getCells hh4 (hh3.length + 1) 12 = some [.i (.s (.int .i64 v19.actor)), .i (.s (.int .i64 v19.seq)), .i (.s (.int .i64 v19.time)), .i (.sl 1 (v19.deps.counts.map enc)), .i (.s (.int .i64 v19.kind)), .i (.s (.int .i64 v19.obj)), .i (.s (.int .i64 v19.n)), .i (.s (.int .i64 v19.undo)), .i (.s (.int .i64 v19.at_.time)), .i (.s (.int .i64 v19.at_.actor)), .i (.s (.string v19.key)), .i (.s (.string v19.text))] := (free_get (wf4 _ c4_7 c4_10).1).trans c4_6
                  have d4_3l := Nat.lt_of_lt_of_le c4_7 kk4
                  have ff4_0 : Free hh4 0 1 := (wf4 _ c4_1 c4_8).2
                  have ff4_1 : Free hh4 hh3.length 1 := (wf4 _ c4_5 c4_9).2
                  have ff4_2 : Free hh4 (hh3.length + 1) 1 := (wf4 _ c4_7 c4_10).2
                  have hp := Option.some.inj hp
                  subst hp
                  simp (maxSteps := 2000000) (disch := first | omega | (simp only [ls]; first | done | omega)) only [hO0, hO1, hO2, hO3, hO4, hO5, hO6, hO7, hO8, ep_impl_vecLE, ftt1_0, ftt1_1, ftt1_2, ftt1_3, ftt1_4, ftt1_5, ftt1_6, ftt1_7, ftt1_8, ftt1_9, ftt1_10, ftt2_0, ftt2_1, ftt2_2, ftt2_3, ftt2_4, ftt2_5, ftt2_6, ftt2_7, ftt2_8, ftt2_9, ftt2_10, hb10, hv11, hv12, hv13, (gv13).1, bv13, hk14, hk14l, hv15, ftt3_0, ftt3_1, ftt3_2, ftt3_3, ftt3_4, ftt3_5, ftt3_6, ftt3_7, ftt3_8, ftt3_9, ftt3_10, ftt3_11, ftt3_12, ftt3_13, hb18, hv19, hv20, hb21, hv22, d4_0, d4_1, d4_2, d4_3, ff4_0, ff4_1, ff4_2, gx, Int.reduceToNat] <;> (repeat (first | refine And.intro ?_ ?_ | assumption | exact book_ext (by assumption) | exact book_new rfl | exact free_ext (by assumption) (by first | omega | assumption) | exact free_new (k := book0) rfl (by first | decide | omega) | exact free_fresh (by assumption) (by first | exact Nat.le_refl _ | omega) | refine book_ext ?_ | refine free_ext ?_ (by first | omega | (simp; omega)) | omega))
              · replace hb21 := eq_false_of_ne_true hb21
                rw [if_f hb21] at hp
                have hp := Option.some.inj hp
                subst hp
                simp (maxSteps := 2000000) (disch := first | omega | (simp only [ls]; first | done | omega)) only [hO0, hO1, hO2, hO3, hO4, hO5, hO6, hO7, hO8, ep_impl_vecLE, ftt1_0, ftt1_1, ftt1_2, ftt1_3, ftt1_4, ftt1_5, ftt1_6, ftt1_7, ftt1_8, ftt1_9, ftt1_10, ftt2_0, ftt2_1, ftt2_2, ftt2_3, ftt2_4, ftt2_5, ftt2_6, ftt2_7, ftt2_8, ftt2_9, ftt2_10, hb10, hv11, hv12, hv13, (gv13).1, bv13, hk14, hk14l, hv15, ftt3_0, ftt3_1, ftt3_2, ftt3_3, ftt3_4, ftt3_5, ftt3_6, ftt3_7, ftt3_8, ftt3_9, ftt3_10, ftt3_11, ftt3_12, ftt3_13, hb18, hv19, hv20, hb21, gx, Int.reduceToNat]
            · replace hb18 := eq_false_of_ne_true hb18
              rw [if_f hb18] at hp
              have hp := Option.some.inj hp
              subst hp
              simp (maxSteps := 2000000) (disch := first | omega | (simp only [ls]; first | done | omega)) only [hO0, hO1, hO2, hO3, hO4, hO5, hO6, hO7, hO8, ep_impl_vecLE, ftt1_0, ftt1_1, ftt1_2, ftt1_3, ftt1_4, ftt1_5, ftt1_6, ftt1_7, ftt1_8, ftt1_9, ftt1_10, ftt2_0, ftt2_1, ftt2_2, ftt2_3, ftt2_4, ftt2_5, ftt2_6, ftt2_7, ftt2_8, ftt2_9, ftt2_10, hb10, hv11, hv12, hv13, (gv13).1, bv13, hk14, hk14l, hv15, ftt3_0, ftt3_1, ftt3_2, ftt3_3, ftt3_4, ftt3_5, ftt3_6, ftt3_7, ftt3_8, ftt3_9, ftt3_10, ftt3_11, ftt3_12, ftt3_13, hb18, gx, Int.reduceToNat] <;> (repeat (first | refine And.intro ?_ ?_ | assumption | exact book_ext (by assumption) | exact book_new rfl | exact free_ext (by assumption) (by first | omega | assumption) | exact free_new (k := book0) rfl (by first | decide | omega) | exact free_fresh (by assumption) (by first | exact Nat.le_refl _ | omega) | refine book_ext ?_ | refine free_ext ?_ (by first | omega | (simp; omega)) | omega))
          · simp (maxSteps := 2000000) (disch := first | omega | (simp only [ls]; first | done | omega)) only [hO0, hO1, hO2, hO3, hO4, hO5, hO6, hO7, hO8, ep_impl_vecLE, ftt1_0, ftt1_1, ftt1_2, ftt1_3, ftt1_4, ftt1_5, ftt1_6, ftt1_7, ftt1_8, ftt1_9, ftt1_10, ftt2_0, ftt2_1, ftt2_2, ftt2_3, ftt2_4, ftt2_5, ftt2_6, ftt2_7, ftt2_8, ftt2_9, ftt2_10, hb10, hv11, hv12, hv13, (gv13).1, bv13, hk14, hk14l, hv15, gx, Int.reduceToNat] <;> (repeat (first | refine And.intro ?_ ?_ | assumption | exact book_ext (by assumption) | exact book_new rfl | exact free_ext (by assumption) (by first | omega | assumption) | exact free_new (k := book0) rfl (by first | decide | omega) | exact free_fresh (by assumption) (by first | exact Nat.le_refl _ | omega) | refine book_ext ?_ | refine free_ext ?_ (by first | omega | (simp; omega)) | omega))
          · intro x tt5 hh5 hx
            rcases ee2 with ⟨o23, o24⟩ | r
            · obtain ⟨rfl, ftt5_0, ftt5_1, ftt5_2, ftt5_3, ftt5_4, ftt5_5, ftt5_6, ftt5_7, ftt5_8, ftt5_9, ftt5_10, ftt5_11, ftt5_12, ftt5_13⟩ := hx
              dsimp only at hp
              have hp := Option.some.inj hp
              subst hp
              simp (maxSteps := 2000000) (disch := first | omega | (simp only [ls]; first | done | omega)) only [hO0, hO1, hO2, hO3, hO4, hO5, hO6, hO7, hO8, ep_impl_vecLE, ftt1_0, ftt1_1, ftt1_2, ftt1_3, ftt1_4, ftt1_5, ftt1_6, ftt1_7, ftt1_8, ftt1_9, ftt1_10, ftt2_0, ftt2_1, ftt2_2, ftt2_3, ftt2_4, ftt2_5, ftt2_6, ftt2_7, ftt2_8, ftt2_9, ftt2_10, hb10, hv11, hv12, hv13, (gv13).1, bv13, hk14, hk14l, hv15, ftt5_0, ftt5_1, ftt5_2, ftt5_3, ftt5_4, ftt5_5, ftt5_6, ftt5_7, ftt5_8, ftt5_9, ftt5_10, ftt5_11, ftt5_12, ftt5_13, gx, Int.reduceToNat] <;> (repeat (first | refine And.intro ?_ ?_ | assumption | exact book_ext (by assumption) | exact book_new rfl | exact free_ext (by assumption) (by first | omega | assumption) | exact free_new (k := book0) rfl (by first | decide | omega) | exact free_fresh (by assumption) (by first | exact Nat.le_refl _ | omega) | refine book_ext ?_ | refine free_ext ?_ (by first | omega | (simp; omega)) | omega))
            · obtain ⟨rfl, hx⟩ := hx
              dsimp only at hp
              cases hp
              simp only [seqK_ret, blockK_ret, retK_RK (K := Tells false), hx, and_self, true_and]
        · replace hb10 := eq_false_of_ne_true hb10
          rw [if_f hb10] at hp
          have hp := Option.some.inj hp
          subst hp
          simp (maxSteps := 2000000) (disch := first | omega | (simp only [ls]; first | done | omega)) only [hO0, hO1, hO2, hO3, hO4, hO5, hO6, hO7, hO8, ep_impl_vecLE, ftt1_0, ftt1_1, ftt1_2, ftt1_3, ftt1_4, ftt1_5, ftt1_6, ftt1_7, ftt1_8, ftt1_9, ftt1_10, ftt2_0, ftt2_1, ftt2_2, ftt2_3, ftt2_4, ftt2_5, ftt2_6, ftt2_7, ftt2_8, ftt2_9, ftt2_10, hb10, gx, Int.reduceToNat] <;> (repeat (first | refine And.intro ?_ ?_ | assumption | exact book_ext (by assumption) | exact book_new rfl | exact free_ext (by assumption) (by first | omega | assumption) | exact free_new (k := book0) rfl (by first | decide | omega) | exact free_fresh (by assumption) (by first | exact Nat.le_refl _ | omega) | refine book_ext ?_ | refine free_ext ?_ (by first | omega | (simp; omega)) | omega))
      · simp (maxSteps := 2000000) (disch := first | omega | (simp only [ls]; first | done | omega)) only [hO0, hO1, hO2, hO3, hO4, hO5, hO6, hO7, hO8, ep_impl_vecLE, ftt1_0, ftt1_1, ftt1_2, ftt1_3, ftt1_4, ftt1_5, ftt1_6, ftt1_7, ftt1_8, ftt1_9, ftt1_10, gx, Int.reduceToNat] <;> (repeat (first | refine And.intro ?_ ?_ | assumption | exact book_ext (by assumption) | exact book_new rfl | exact free_ext (by assumption) (by first | omega | assumption) | exact free_new (k := book0) rfl (by first | decide | omega) | exact free_fresh (by assumption) (by first | exact Nat.le_refl _ | omega) | refine book_ext ?_ | refine free_ext ?_ (by first | omega | (simp; omega)) | omega))
      · intro x tt6 hh6 hx
        rcases ee3 with ⟨o25, o26⟩ | r
        · obtain ⟨rfl, ftt6_0, ftt6_1, ftt6_2, ftt6_3, ftt6_4, ftt6_5, ftt6_6, ftt6_7, ftt6_8, ftt6_9, ftt6_10⟩ := hx
          dsimp only at hp
          obtain ⟨y0, sy0, dy0⟩ := snap_book (n := 5) (show BookAt hh6 1 o25 by assumption)
          have hp := Option.some.inj hp
          subst hp
          simp (maxSteps := 2000000) (disch := first | omega | (simp only [ls]; first | done | omega)) only [hO0, hO1, hO2, hO3, hO4, hO5, hO6, hO7, hO8, ep_impl_vecLE, ftt1_0, ftt1_1, ftt1_2, ftt1_3, ftt1_4, ftt1_5, ftt1_6, ftt1_7, ftt1_8, ftt1_9, ftt1_10, ftt6_0, ftt6_1, ftt6_2, ftt6_3, ftt6_4, ftt6_5, ftt6_6, ftt6_7, ftt6_8, ftt6_9, ftt6_10, sy0, dy0, gx, Int.reduceToNat]
        · obtain ⟨rfl, hx⟩ := hx
          dsimp only at hp
          cases hp
          simp only [seqK_ret, blockK_ret, retK_RK (K := Tells false), hx, and_self, true_and]
    · obtain ⟨rfl, hx⟩ := hx
      dsimp only at hp
      cases hp
      simp only [seqK_ret, blockK_ret, retK_RK (K := Tells false), hx, and_self, true_and]

noncomputable def p_impl_bookAt (x0 : List TOp) (x1 : TVec) : Option (T2 (Option TBook) Int) :=
  (p_impl_readBook x0).bind fun v0 =>
  if (v0.b) = true then
    (p_impl_VecOK x1).bind fun v2 =>
    if (v2) = true then
      (p_impl_book_at v0.a x1).bind fun v4 =>
      some ⟨v4.a, v4.b⟩
    else
      some ⟨(none : Option TBook), 1⟩
  else
    some ⟨(none : Option TBook), 1⟩
def c_impl_bookAt (f_impl_readBook : Nat) (f_impl_VecOK : Nat) (f_impl_book_at : Nat) : AFn := ⟨25, (.seq (.ops [⟨(.some 3), (.box (.tmp 1)), .none, []⟩, ⟨(.some 4), (.mv (.const (.pointer .none))), .none, []⟩, ⟨(.some 5), (.mv (.const (.int .i64 0))), .none, []⟩]) (.seq (.ops [⟨(.some 9), (.mv (.tmp 0)), .none, []⟩, ⟨(.some 10), (.call (2 * f_impl_readBook) [(.tmp 9)]), .none, []⟩, ⟨(.some 8), (.mv (.tmp 10)), .none, []⟩, ⟨(.some 11), (.extract 0 (.tmp 8)), .none, []⟩, ⟨(.some 12), (.extract 1 (.tmp 8)), .none, []⟩, ⟨(.some 6), (.mv (.tmp 11)), .none, []⟩, ⟨(.some 7), (.mv (.tmp 12)), .none, []⟩]) (.seq (.seq (.ops [⟨(.some 13), (.mv (.tmp 7)), .none, []⟩, ⟨(.some 14), (.pu (.n (.un .not)) [(.tmp 13)]), .none, []⟩, ⟨(.some 15), (.mv (.tmp 14)), .none, []⟩, ⟨(.some 16), (.load 1 true (.tmp 3)), (.some (15, false)), []⟩, ⟨(.some 17), (.call (2 * f_impl_VecOK) [(.tmp 16)]), (.some (15, false)), []⟩, ⟨(.some 18), (.pu (.n (.un .not)) [(.tmp 17)]), (.some (15, false)), []⟩, ⟨(.some 19), (.pick (.tmp 15) (.const (.bool true)) (.tmp 18)), .none, []⟩]) (.cond (.tmp 19) (.seq (.ops [⟨(.some 4), (.mv (.const (.pointer .none))), .none, []⟩, ⟨(.some 5), (.mv (.const (.int .i64 1))), .none, []⟩]) .ret) .skip)) (.seq (.ops [⟨(.some 20), (.mv (.tmp 6)), .none, []⟩, ⟨(.some 21), (.load 1 true (.tmp 3)), .none, []⟩, ⟨(.some 22), (.call (2 * f_impl_book_at) [(.tmp 20), (.tmp 21)]), .none, []⟩, ⟨(.some 23), (.extract 0 (.tmp 22)), .none, []⟩, ⟨(.some 24), (.extract 1 (.tmp 22)), .none, []⟩, ⟨(.some 4), (.mv (.tmp 23)), .none, []⟩, ⟨(.some 5), (.mv (.tmp 24)), .none, []⟩]) .ret)))), [(.tmp 4), (.tmp 5)]⟩
set_option maxHeartbeats 10000000 in
theorem d_impl_bookAt {P : Program} {env : Env} {f_impl_readBook : Nat} {f_impl_VecOK : Nat} {f_impl_book_at : Nat}  (ep_impl_readBook : env (2 * f_impl_readBook) = pureFn false (FA fun a : List TOp => p_impl_readBook a)) (ep_impl_VecOK : env (2 * f_impl_VecOK) = pureFn true (FA fun a : TVec => p_impl_VecOK a)) (ep_impl_book_at : env (2 * f_impl_book_at) = pureFn false (FA fun a : Option TBook × TVec => p_impl_book_at a.1 a.2)) (x0 : List TOp) (x1 : TVec) {b : T2 (Option TBook) Int} (hp : p_impl_bookAt x0 x1 = some b) : R P env (c_impl_bookAt f_impl_readBook f_impl_VecOK f_impl_book_at) ((encA (x0, x1)).map ofI) [] (Tells false b) := by
  refine R_of (by simp [c_impl_bookAt, encA]) ?_
  unfold c_impl_bookAt
  unfold p_impl_bookAt at hp
  obtain ⟨v0, hv0, hp⟩ := bind_eq hp
  by_cases hb1 : (v0.b) = true
  · rw [if_t hb1] at hp
    obtain ⟨v2, hv2, hp⟩ := bind_eq hp
    by_cases hb3 : (v2) = true
    · rw [if_t hb3] at hp
      obtain ⟨v4, hv4, hp⟩ := bind_eq hp
      have hp := Option.some.inj hp
      subst hp
      simp (maxSteps := 2000000) (disch := first | omega | (simp only [ls]; first | done | omega)) only [ep_impl_readBook, ep_impl_VecOK, ep_impl_book_at, hv0, hb1, hv2, hb3, hv4, gx, Int.reduceToNat]
    · replace hb3 := eq_false_of_ne_true hb3
      rw [if_f hb3] at hp
      have hp := Option.some.inj hp
      subst hp
      simp (maxSteps := 2000000) (disch := first | omega | (simp only [ls]; first | done | omega)) only [ep_impl_readBook, ep_impl_VecOK, ep_impl_book_at, hv0, hb1, hv2, hb3, gx, Int.reduceToNat]
  · replace hb1 := eq_false_of_ne_true hb1
    rw [if_f hb1] at hp
    have hp := Option.some.inj hp
    subst hp
    simp (maxSteps := 2000000) (disch := first | omega | (simp only [ls]; first | done | omega)) only [ep_impl_readBook, ep_impl_VecOK, ep_impl_book_at, hv0, hb1, gx, Int.reduceToNat]

noncomputable def p_impl_vecCopy (x0 : TVec) : Option TVec :=
  (app? 8 ([] : List Int) x0.counts).bind fun v0 =>
  some (TVec.mk v0)
def c_impl_vecCopy : AFn := ⟨7, (.seq (.ops [⟨(.some 1), (.box (.tmp 0)), .none, []⟩, ⟨(.some 2), (.allocV [(1, false)] [(.slice .none 0 0)]), .none, []⟩]) (.seq (.ops [⟨(.some 3), (.fieldA 0 (.tmp 1)), .none, []⟩, ⟨(.some 4), (.load 1 false (.tmp 3)), .none, []⟩, ⟨(.some 5), (.appendV 1 false 8 (.tmp 4)), .none, []⟩, ⟨(.some 6), (.build [(.slice .none 0 0)] [(0, (1, (.tmp 5)))]), .none, []⟩, ⟨.none, (.storeV [(1, false)] 1 (.tmp 2) (.tmp 6)), .none, []⟩]) .ret)), [(.cell 2 1 true)]⟩
def o_impl_vecCopy (b : TVec) (v : V) (h : Heap) : Prop := ∃ n0 : Nat, v = .agg [.hsl n0 b.counts.length 0 1 false b.counts.length] ∧ getCells h n0 b.counts.length = some (rows b.counts)
def oo_impl_vecCopy (b : TVec) (h : Heap) (v : V) (h2 : Heap) : Prop := Keep [] h h2 ∧ ∃ n0 : Nat, v = .agg [.hsl n0 b.counts.length 0 1 false b.counts.length] ∧ n0 < h2.length ∧ h.length ≤ n0 ∧ getCells h2 n0 b.counts.length = some (rows b.counts)
def k_impl_vecCopy (F : Fun) : Prop := ∀ (x0 : TVec) (b : TVec), p_impl_vecCopy x0 = some b → ∀ (h : Heap) (args : List V), snapA 9 false h args = some (encA (x0)) → ∃ p, F none args h = some p ∧ oo_impl_vecCopy b h p.1 p.2
set_option maxHeartbeats 10000000 in
theorem w_impl_vecCopy {P : Program} {env : Env}  (x0 : TVec) {b : TVec} (hp : p_impl_vecCopy x0 = some b) : R P env (c_impl_vecCopy) ((encA (x0)).map ofI) [] (o_impl_vecCopy b) := by
  refine R_of (by simp [c_impl_vecCopy, encA]) ?_
  unfold c_impl_vecCopy
  unfold p_impl_vecCopy at hp
  obtain ⟨v0, hv0, hp⟩ := bind_eq hp
  simp (maxSteps := 2000000) (disch := first | omega | (simp only [ls]; first | done | omega)) only [gx, Int.reduceToNat]
  refine app_f (b := 3) (xs := ([] : List Int)) (ys := x0.counts) (fun h => getCells h 0 1 = some [.i (.sl 1 (x0.counts.map enc))] ∧ 0 < h.length ∧ getCells h 1 0 = some [] ∧ 1 < h.length ∧ getCells h 2 1 = some [.hsl 1 0 0 1 false 0] ∧ 2 < h.length ∧ getCells h 3 0 = some [] ∧ 3 < h.length) ?_ ?_ hv0 rfl (by first | rfl | omega | (simp; omega)) (by first | rfl | omega | (simp; omega)) (by first | rfl | omega | (simp; omega)) ?_
  · simp (maxSteps := 2000000) (disch := first | omega | (simp only [ls]; first | done | omega)) only [hv0, gx, Int.reduceToNat] <;> omega
  · rintro h ⟨c0_0, c0_1, c0_2, c0_3, c0_4, c0_5, c0_6, c0_7⟩
    exact gc_eq c0_6 (by omega)
  · rintro h hh0 ⟨c0_0, c0_1, c0_2, c0_3, c0_4, c0_5, c0_6, c0_7⟩ kk0 w0
    have d0_0 : getCells hh0 0 1 = some [.i (.sl 1 (x0.counts.map enc))] := (keep_get kk0 c0_1 (by first | (simp; done) | (simp; omega))).trans c0_0
    have d0_0l := keep_lt kk0 c0_1
    have d0_1 : getCells hh0 1 0 = some [] := (keep_get kk0 c0_3 (by first | (simp; done) | (simp; omega))).trans c0_2
    have d0_1l := keep_lt kk0 c0_3
    have d0_2 : getCells hh0 2 1 = some [.hsl 1 0 0 1 false 0] := (keep_get kk0 c0_5 (by first | (simp; done) | (simp; omega))).trans c0_4
    have d0_2l := keep_lt kk0 c0_5
    have d0_3 : getCells hh0 3 v0.length = some (rows (v0 : List Int)) := by simpa only [Nat.mul_one] using w0
    have d0_3l := keep_lt kk0 c0_7
    have hp := Option.some.inj hp
    subst hp
    simp (maxSteps := 2000000) (disch := first | omega | (simp only [ls]; first | done | omega)) only [hv0, d0_0, d0_1, d0_2, d0_3, gx, Int.reduceToNat]
    refine ⟨3, ?_⟩
    simp (maxSteps := 2000000) (disch := first | omega | (simp only [ls]; first | done | omega)) only [hv0, d0_0, d0_1, d0_2, d0_3, o_impl_vecCopy, gx, Int.reduceToNat] <;> omega
theorem ko_impl_vecCopy {P : Program} {env : Env}  : k_impl_vecCopy (ownFn P env (c_impl_vecCopy)) := by
  intro x0 b hp h args has
  obtain ⟨⟨v, H2⟩, hr, n0, rfl, wn0⟩ := w_impl_vecCopy x0 hp
  exact ⟨_, own_call has hr rfl, keep_moved, n0 + h.length, rfl, (moved_lt wn0).2, (moved_lt wn0).1, moved_rows wn0⟩

noncomputable def p_impl_opCopy (x0 : TOp) : Option TOp :=
  (p_impl_vecCopy x0.deps).bind fun v0 =>
  some (TOp.mk x0.actor x0.seq x0.time v0 x0.kind x0.obj x0.n x0.undo x0.at_ x0.key x0.text)
def c_impl_opCopy (f_impl_vecCopy : Nat) : AFn := ⟨8, (.seq (.ops [⟨(.some 1), (.box (.tmp 0)), .none, []⟩, ⟨(.some 2), (.allocV [(0, false), (0, false), (0, false), (1, false), (0, false), (0, false), (0, false), (0, false), (0, false), (0, false), (0, false), (0, false)] [(.int .i64 0), (.int .i64 0), (.int .i64 0), (.slice .none 0 0), (.int .i64 0), (.int .i64 0), (.int .i64 0), (.int .i64 0), (.int .i64 0), (.int .i64 0), (.string ⟨#[]⟩), (.string ⟨#[]⟩)]), .none, []⟩]) (.seq (.ops [⟨(.some 3), (.fieldA 3 (.tmp 1)), .none, []⟩, ⟨(.some 4), (.load 1 true (.tmp 3)), .none, []⟩, ⟨(.some 5), (.call (2 * f_impl_vecCopy + 1) [(.tmp 4)]), .none, []⟩, ⟨(.some 6), (.fieldA 3 (.tmp 1)), .none, []⟩, ⟨.none, (.storeV [(1, false)] 1 (.tmp 6) (.tmp 5)), .none, []⟩]) (.seq (.ops [⟨(.some 7), (.load 12 true (.tmp 1)), .none, []⟩, ⟨.none, (.storeV [(0, false), (0, false), (0, false), (1, false), (0, false), (0, false), (0, false), (0, false), (0, false), (0, false), (0, false), (0, false)] 12 (.tmp 2) (.tmp 7)), .none, []⟩]) .ret))), [(.cell 2 12 true)]⟩
def o_impl_opCopy (b : TOp) (v : V) (h : Heap) : Prop := ∃ n0 : Nat, v = .agg [.i (.s (.int .i64 b.actor)), .i (.s (.int .i64 b.seq)), .i (.s (.int .i64 b.time)), .hsl n0 b.deps.counts.length 0 1 false b.deps.counts.length, .i (.s (.int .i64 b.kind)), .i (.s (.int .i64 b.obj)), .i (.s (.int .i64 b.n)), .i (.s (.int .i64 b.undo)), .i (.s (.int .i64 b.at_.time)), .i (.s (.int .i64 b.at_.actor)), .i (.s (.string b.key)), .i (.s (.string b.text))] ∧ getCells h n0 b.deps.counts.length = some (rows b.deps.counts)
def oo_impl_opCopy (b : TOp) (h : Heap) (v : V) (h2 : Heap) : Prop := Keep [] h h2 ∧ ∃ n0 : Nat, v = .agg [.i (.s (.int .i64 b.actor)), .i (.s (.int .i64 b.seq)), .i (.s (.int .i64 b.time)), .hsl n0 b.deps.counts.length 0 1 false b.deps.counts.length, .i (.s (.int .i64 b.kind)), .i (.s (.int .i64 b.obj)), .i (.s (.int .i64 b.n)), .i (.s (.int .i64 b.undo)), .i (.s (.int .i64 b.at_.time)), .i (.s (.int .i64 b.at_.actor)), .i (.s (.string b.key)), .i (.s (.string b.text))] ∧ n0 < h2.length ∧ h.length ≤ n0 ∧ getCells h2 n0 b.deps.counts.length = some (rows b.deps.counts)
def k_impl_opCopy (F : Fun) : Prop := ∀ (x0 : TOp) (b : TOp), p_impl_opCopy x0 = some b → ∀ (h : Heap) (args : List V), snapA 9 false h args = some (encA (x0)) → ∃ p, F none args h = some p ∧ oo_impl_opCopy b h p.1 p.2
set_option maxHeartbeats 10000000 in
theorem w_impl_opCopy {P : Program} {env : Env} {f_impl_vecCopy : Nat}  (e_impl_vecCopy : k_impl_vecCopy (env (2 * f_impl_vecCopy + 1))) (x0 : TOp) {b : TOp} (hp : p_impl_opCopy x0 = some b) : R P env (c_impl_opCopy f_impl_vecCopy) ((encA (x0)).map ofI) [] (o_impl_opCopy b) := by
  refine R_of (by simp [c_impl_opCopy, encA]) ?_
  have hO0 := @opc_virtC
  have hO1 := @opc_nilsOf
  have hO2 := @opc_virtV
  have hO3 := @opc_nilsV
  have hO4 := @opc_one
  have hO5 := @opc_splice
  have hO6 := @opc_virtVw
  have hO7 := @opc_nilsVw
  have hO8 := @opc_onew
  unfold c_impl_opCopy
  unfold p_impl_opCopy at hp
  obtain ⟨v0, hv0, hp⟩ := bind_eq hp
  simp (maxSteps := 2000000) (disch := first | omega | (simp only [ls]; first | done | omega)) only [hO0, hO1, hO2, hO3, hO4, hO5, hO6, hO7, hO8, gx, Int.reduceToNat]
  refine call_f (fun h => getCells h 0 12 = some [.i (.s (.int .i64 x0.actor)), .i (.s (.int .i64 x0.seq)), .i (.s (.int .i64 x0.time)), .i (.sl 1 (x0.deps.counts.map enc)), .i (.s (.int .i64 x0.kind)), .i (.s (.int .i64 x0.obj)), .i (.s (.int .i64 x0.n)), .i (.s (.int .i64 x0.undo)), .i (.s (.int .i64 x0.at_.time)), .i (.s (.int .i64 x0.at_.actor)), .i (.s (.string x0.key)), .i (.s (.string x0.text))] ∧ 0 < h.length ∧ getCells h 1 0 = some [] ∧ 1 < h.length ∧ getCells h 2 12 = some [.i (.s (.int .i64 0)), .i (.s (.int .i64 0)), .i (.s (.int .i64 0)), .hsl 1 0 0 1 false 0, .i (.s (.int .i64 0)), .i (.s (.int .i64 0)), .i (.s (.int .i64 0)), .i (.s (.int .i64 0)), .i (.s (.int .i64 0)), .i (.s (.int .i64 0)), .i (.s (.string (ByteArray.mk #[]))), .i (.s (.string (ByteArray.mk #[])))] ∧ 2 < h.length) (fun h v h2 => oo_impl_vecCopy v0 h v h2) ?_ ?_ ?_
  · simp (maxSteps := 2000000) (disch := first | omega | (simp only [ls]; first | done | omega)) only [hO0, hO1, hO2, hO3, hO4, hO5, hO6, hO7, hO8, hv0, gx, Int.reduceToNat] <;> omega
  · rintro h ⟨c0_0, c0_1, c0_2, c0_3, c0_4, c0_5⟩
    exact e_impl_vecCopy _ _ hv0 h _ (by simp (maxSteps := 2000000) (disch := first | omega | (simp only [ls]; first | done | omega)) only [hO0, hO1, hO2, hO3, hO4, hO5, hO6, hO7, hO8, hv0, c0_0, c0_1, c0_2, c0_3, c0_4, c0_5, gx, Int.reduceToNat])
  · rintro hc0 v hh0 ⟨c0_0, c0_1, c0_2, c0_3, c0_4, c0_5⟩ hpost
    obtain ⟨kk0, nb0_0, rfl, lnb0_0, gnb0_0, wnb0_0⟩ := hpost
    have d0_0 : getCells hh0 0 12 = some [.i (.s (.int .i64 x0.actor)), .i (.s (.int .i64 x0.seq)), .i (.s (.int .i64 x0.time)), .i (.sl 1 (x0.deps.counts.map enc)), .i (.s (.int .i64 x0.kind)), .i (.s (.int .i64 x0.obj)), .i (.s (.int .i64 x0.n)), .i (.s (.int .i64 x0.undo)), .i (.s (.int .i64 x0.at_.time)), .i (.s (.int .i64 x0.at_.actor)), .i (.s (.string x0.key)), .i (.s (.string x0.text))] := (keep_get kk0 c0_1 (by first | (simp; done) | (simp; omega))).trans c0_0
    have d0_0l := keep_lt kk0 c0_1
    have d0_1 : getCells hh0 1 0 = some [] := (keep_get kk0 c0_3 (by first | (simp; done) | (simp; omega))).trans c0_2
    have d0_1l := keep_lt kk0 c0_3
    have d0_2 : getCells hh0 2 12 = some [.i (.s (.int .i64 0)), .i (.s (.int .i64 0)), .i (.s (.int .i64 0)), .hsl 1 0 0 1 false 0, .i (.s (.int .i64 0)), .i (.s (.int .i64 0)), .i (.s (.int .i64 0)), .i (.s (.int .i64 0)), .i (.s (.int .i64 0)), .i (.s (.int .i64 0)), .i (.s (.string (ByteArray.mk #[]))), .i (.s (.string (ByteArray.mk #[])))] := (keep_get kk0 c0_5 (by first | (simp; done) | (simp; omega))).trans c0_4
    have d0_2l := keep_lt kk0 c0_5
    have d0_3 := wnb0_0
    have hp := Option.some.inj hp
    subst hp
    simp (maxSteps := 2000000) (disch := first | omega | (simp only [ls]; first | done | omega)) only [hO0, hO1, hO2, hO3, hO4, hO5, hO6, hO7, hO8, hv0, d0_0, d0_1, d0_2, d0_3, gx, Int.reduceToNat]
    refine ⟨nb0_0, ?_⟩
    simp (maxSteps := 2000000) (disch := first | omega | (simp only [ls]; first | done | omega)) only [hO0, hO1, hO2, hO3, hO4, hO5, hO6, hO7, hO8, hv0, d0_0, d0_1, d0_2, d0_3, o_impl_opCopy, gx, Int.reduceToNat] <;> omega
theorem ko_impl_opCopy {P : Program} {env : Env} {f_impl_vecCopy : Nat}  (e_impl_vecCopy : k_impl_vecCopy (env (2 * f_impl_vecCopy + 1))) : k_impl_opCopy (ownFn P env (c_impl_opCopy f_impl_vecCopy)) := by
  intro x0 b hp h args has
  obtain ⟨⟨v, H2⟩, hr, n0, rfl, wn0⟩ := w_impl_opCopy e_impl_vecCopy x0 hp
  exact ⟨_, own_call has hr rfl, keep_moved, n0 + h.length, rfl, (moved_lt wn0).2, (moved_lt wn0).1, moved_rows wn0⟩

noncomputable def p_impl_book_log_l1 (v4 : List TOp) : List TOp × Int → Option (Lp (List TOp × Int) (List TOp))
  | (s6, s7) =>
    if (decide (s7 < (v4.length : Int))) = true then
      (get? v4 s7).bind fun v9 =>
      (p_impl_opCopy v9).bind fun v10 =>
      (app? 128 s6 [v10]).bind fun v11 =>
      some (.go (v11, w64 (s7 + 1)))
    else
      some (.out (s6, s7))
noncomputable def p_impl_book_log_l2 (x0 : Option TBook) : List TOp × Int → Option (Lp (List TOp × Int) (List TOp))
  | (s0, s1) =>
    if (decide (s1 < 16)) = true then
      (x0).bind fun v3 =>
      (get? v3.of_ s1).bind fun v4 =>
      (loopP (p_impl_book_log_l1 v4) (s0, 0)).bind fun ee1 => match ee1 with
      | .ret r => some (.ret r)
      | .out (o12, o13) =>
        some (.go (o12, w64 (s1 + 1)))
    else
      some (.out (s0, s1))
noncomputable def p_impl_book_log (x0 : Option TBook) : Option (List TOp) :=
  (loopP (p_impl_book_log_l2 x0) (([] : List TOp), 0)).bind fun ee2 => match ee2 with
  | .ret r => some r
  | .out (o14, o15) =>
    some o14
def c_impl_book_log (f_impl_opCopy : Nat) : AFn := ⟨29, (.seq (.ops [⟨(.some 2), (.vnil 12 true), .none, []⟩]) (.seq (.ops [⟨(.some 3), (.vnil 12 true), .none, []⟩]) (.seq (.seq (.ops [⟨(.some 7), (.mv (.const (.int .i64 0))), .none, []⟩]) (.block 0 (.loop (.seq (.ops [⟨(.some 8), (.pu (.n (.ar .lss)) [(.tmp 7), (.const (.int .i64 16))]), .none, []⟩]) (.seq (.cond (.tmp 8) .skip (.exit 0)) (.seq (.block 1 (.seq (.ops [⟨(.some 9), (.mv (.tmp 7)), .none, []⟩, ⟨(.some 4), (.mv (.tmp 9)), .none, []⟩]) (.seq (.ops [⟨(.some 10), (.mv (.tmp 0)), .none, []⟩, ⟨(.some 11), (.mv (.tmp 4)), .none, []⟩, ⟨(.some 12), (.nilChk (.tmp 10)), .none, []⟩, ⟨(.some 13), (.fieldA 0 (.tmp 12)), .none, []⟩, ⟨(.some 14), (.idxA 16 1 (.tmp 13) (.tmp 11)), .none, []⟩, ⟨(.some 15), (.load 1 false (.tmp 14)), .none, []⟩, ⟨(.some 16), (.len (.tmp 15)), .none, []⟩, ⟨(.some 17), (.mv (.const (.int .i64 0))), .none, []⟩]) (.block 2 (.loop (.seq (.ops [⟨(.some 18), (.pu (.n (.ar .lss)) [(.tmp 17), (.tmp 16)]), .none, []⟩]) (.seq (.cond (.tmp 18) .skip (.exit 2)) (.seq (.block 3 (.seq (.ops [⟨(.some 19), (.idxS 12 (.tmp 15) (.tmp 17)), .none, []⟩, ⟨(.some 20), (.load 12 true (.tmp 19)), .none, []⟩, ⟨(.some 6), (.allocV [(0, false), (0, false), (0, false), (1, false), (0, false), (0, false), (0, false), (0, false), (0, false), (0, false), (0, false), (0, false)] [(.int .i64 0), (.int .i64 0), (.int .i64 0), (.slice .none 0 0), (.int .i64 0), (.int .i64 0), (.int .i64 0), (.int .i64 0), (.int .i64 0), (.int .i64 0), (.string ⟨#[]⟩), (.string ⟨#[]⟩)]), .none, []⟩, ⟨.none, (.storeV [(0, false), (0, false), (0, false), (1, false), (0, false), (0, false), (0, false), (0, false), (0, false), (0, false), (0, false), (0, false)] 12 (.tmp 6) (.tmp 20)), .none, []⟩]) (.ops [⟨(.some 21), (.mv (.tmp 3)), .none, []⟩, ⟨(.some 22), (.load 12 true (.tmp 6)), .none, []⟩, ⟨(.some 23), (.call (2 * f_impl_opCopy + 1) [(.tmp 22)]), .none, []⟩, ⟨(.some 24), (.buildSl 12 true 1 [(.int .i64 0), (.int .i64 0), (.int .i64 0), (.slice .none 0 0), (.int .i64 0), (.int .i64 0), (.int .i64 0), (.int .i64 0), (.int .i64 0), (.int .i64 0), (.string ⟨#[]⟩), (.string ⟨#[]⟩)] [(0, (.tmp 23))]), .none, []⟩, ⟨(.some 25), (.append 12 true 128 (.tmp 21) (.tmp 24)), .none, []⟩, ⟨(.some 3), (.mv (.tmp 25)), .none, []⟩]))) (.ops [⟨(.some 26), (.pu (.n (.ar .add)) [(.tmp 17), (.const (.int .i64 1))]), .none, []⟩, ⟨(.some 17), (.mv (.tmp 26)), .none, []⟩]))))))))) (.ops [⟨(.some 27), (.pu (.n (.ar .add)) [(.tmp 7), (.const (.int .i64 1))]), .none, []⟩, ⟨(.some 7), (.mv (.tmp 27)), .none, []⟩]))))))) (.seq (.ops [⟨(.some 28), (.mv (.tmp 3)), .none, []⟩, ⟨(.some 2), (.mv (.tmp 28)), .none, []⟩]) .ret)))), [(.tmp 2)]⟩
def o_impl_book_log (b : List TOp) (v : V) (h : Heap) : Prop := ∃ n0 : V, v = n0 ∧ NestV h 0 h.length n0 b
def oo_impl_book_log (b : List TOp) (h : Heap) (v : V) (h2 : Heap) : Prop := Keep [] h h2 ∧ ∃ n0 : V, v = n0 ∧ NestV h2 h.length h2.length n0 b
def k_impl_book_log (F : Fun) : Prop := ∀ (x0 : Option TBook) (b : List TOp), p_impl_book_log x0 = some b → ∀ (h : Heap) (args : List V), snapA 9 false h args = some (encA (x0)) → ∃ p, F none args h = some p ∧ oo_impl_book_log b h p.1 p.2
set_option maxHeartbeats 10000000 in
theorem w_impl_book_log {P : Program} {env : Env} {f_impl_opCopy : Nat}  (e_impl_opCopy : k_impl_opCopy (env (2 * f_impl_opCopy + 1))) (x0 : Option TBook) {b : List TOp} (hp : p_impl_book_log x0 = some b) : R P env (c_impl_book_log f_impl_opCopy) ((encA (x0)).map ofI) [] (o_impl_book_log b) := by
  refine R_of (by simp [c_impl_book_log, encA]) ?_
  have hO0 := @opc_virtC
  have hO1 := @opc_nilsOf
  have hO2 := @opc_virtV
  have hO3 := @opc_nilsV
  have hO4 := @opc_one
  have hO5 := @opc_splice
  have hO6 := @opc_virtVw
  have hO7 := @opc_nilsVw
  have hO8 := @opc_onew
  unfold c_impl_book_log
  unfold p_impl_book_log at hp
  obtain ⟨ee2, hee2, hp⟩ := bind_eq hp
  simp (maxSteps := 2000000) (disch := first | omega | (simp only [ls]; first | done | omega)) only [hO0, hO1, hO2, hO3, hO4, hO5, hO6, hO7, hO8, gx, Int.reduceToNat]
  refine W_loopP 0 (fun s t h => match s with | (s0, s1) => ∃ bkv0_3 : V, ∃ bkh0_3 : Nat, t 0 = .i (enc (x0 : Option TBook)) ∧ t 3 = bkv0_3 ∧ t 7 = .i (.s (.int .i64 s1)) ∧ NestV h 1 bkh0_3 bkv0_3 (s0 : List TOp) ∧ bkh0_3 ≤ h.length) (RK [.tmp 2] (o_impl_book_log)) ?_ hee2 ?_ ?_
  · rintro ⟨s0, s1⟩ ee tt0 hh0 ⟨bkv0_3, bkh0_3, ftt0_0, ftt0_1, ftt0_2, ftt0_3, ftt0_4⟩ hp
    rw [p_impl_book_log_l2] at hp
    by_cases hb2 : (decide (s1 < 16)) = true
    · rw [if_t hb2] at hp
      obtain ⟨v3, hv3, hp⟩ := bind_eq hp
      obtain ⟨v4, hv4, hp⟩ := bind_eq hp
      have gv4 := get_some hv4
      have bv4 : s1 < 16 := by have := gv4.2.1; have := (v3).h1; omega
      have hk5 := ip_of hv4
      have hk5l : 1 ≤ _ := ip_len0 (k := v3) (i := s1) (by have := gv4.2.1; have := (v3).h1; omega)
      obtain ⟨ee1, hee1, hp⟩ := bind_eq hp
      simp (maxSteps := 2000000) (disch := first | omega | (simp only [ls]; first | done | omega)) only [hO0, hO1, hO2, hO3, hO4, hO5, hO6, hO7, hO8, ftt0_0, ftt0_1, ftt0_2, ftt0_3, ftt0_4, hb2, hv3, hv4, (gv4).1, bv4, hk5, hk5l, gx, Int.reduceToNat]
      refine W_loopP 2 (fun s t h => match s with | (s6, s7) => ∃ bkv1_3 : V, ∃ bkh1_3 : Nat, t 0 = .i (enc (x0 : Option TBook)) ∧ t 3 = bkv1_3 ∧ t 7 = .i (.s (.int .i64 s1)) ∧ t 15 = .i (.sl 12 (v4.map enc)) ∧ t 16 = .i (.s (.int .i64 (v4.length : Int))) ∧ t 17 = .i (.s (.int .i64 s7)) ∧ NestV h 1 bkh1_3 bkv1_3 (s6 : List TOp) ∧ bkh1_3 ≤ h.length) (RK [.tmp 2] (o_impl_book_log)) ?_ hee1 ?_ ?_
      · rintro ⟨s6, s7⟩ ee tt1 hh1 ⟨bkv1_3, bkh1_3, ftt1_0, ftt1_1, ftt1_2, ftt1_3, ftt1_4, ftt1_5, ftt1_6, ftt1_7⟩ hp
        rw [p_impl_book_log_l1] at hp
        by_cases hb8 : (decide (s7 < (v4.length : Int))) = true
        · rw [if_t hb8] at hp
          obtain ⟨v9, hv9, hp⟩ := bind_eq hp
          obtain ⟨v10, hv10, hp⟩ := bind_eq hp
          simp (maxSteps := 2000000) (disch := first | omega | (simp only [ls]; first | done | omega)) only [hO0, hO1, hO2, hO3, hO4, hO5, hO6, hO7, hO8, ftt0_0, ftt0_1, ftt0_2, ftt0_3, ftt0_4, hb2, hv3, hv4, (gv4).1, bv4, hk5, hk5l, ftt1_0, ftt1_1, ftt1_2, ftt1_3, ftt1_4, ftt1_5, ftt1_6, ftt1_7, hb8, hv9, gx, Int.reduceToNat]
          refine call_f (fun h => NestV h 1 bkh1_3 bkv1_3 (s6 : List TOp) ∧ bkh1_3 ≤ h.length ∧ getCells h hh1.length 0 = some [] ∧ hh1.length < h.length ∧ getCells h (hh1.length + 1) 12 = some [.i (.s (.int .i64 v9.actor)), .i (.s (.int .i64 v9.seq)), .i (.s (.int .i64 v9.time)), .i (.sl 1 (v9.deps.counts.map enc)), .i (.s (.int .i64 v9.kind)), .i (.s (.int .i64 v9.obj)), .i (.s (.int .i64 v9.n)), .i (.s (.int .i64 v9.undo)), .i (.s (.int .i64 v9.at_.time)), .i (.s (.int .i64 v9.at_.actor)), .i (.s (.string v9.key)), .i (.s (.string v9.text))] ∧ hh1.length + 1 < h.length) (fun h v h2 => oo_impl_opCopy v10 h v h2) ?_ ?_ ?_
          · simp (maxSteps := 2000000) (disch := first | omega | (simp only [ls]; first | done | omega)) only [hO0, hO1, hO2, hO3, hO4, hO5, hO6, hO7, hO8, ftt0_0, ftt0_1, ftt0_2, ftt0_3, ftt0_4, hb2, hv3, hv4, (gv4).1, bv4, hk5, hk5l, ftt1_0, ftt1_1, ftt1_2, ftt1_3, ftt1_4, ftt1_5, ftt1_6, ftt1_7, hb8, hv9, hv10, gx, Int.reduceToNat] <;> (repeat (first | refine And.intro ?_ ?_ | assumption | exact nest_ext (by assumption) | exact nest_wide (by assumption) (Nat.zero_le _) (by first | omega | (simp; omega)) (Nat.le_refl _) | exact nest_wide (nest_ext (by assumption)) (Nat.zero_le _) (by first | omega | (simp; omega)) (Nat.le_refl _) | exact nest_virt (by simp (maxSteps := 2000000) (disch := first | omega | (simp only [ls]; first | done | omega)) only [hO0, hO1, hO2, hO3, hO4, hO5, hO6, hO7, hO8, ftt0_0, ftt0_1, ftt0_2, ftt0_3, ftt0_4, hb2, hv3, hv4, (gv4).1, bv4, hk5, hk5l, ftt1_0, ftt1_1, ftt1_2, ftt1_3, ftt1_4, ftt1_5, ftt1_6, ftt1_7, hb8, hv9, hv10, gx, Int.reduceToNat]) (by omega) (by first | omega | (simp; done) | (simp; omega)) (by first | omega | (simp; done) | (simp; omega)) | refine nest_ext ?_ | refine nest_set ?_ (by omega) | omega))
          · rintro h ⟨c2_0, c2_1, c2_2, c2_3, c2_4, c2_5⟩
            have sc2_0 : snap 9 false h bkv1_3 = some (.sl 12 (s6.map enc)) := snap_nest (n := 5) c2_0
            exact e_impl_opCopy _ _ hv10 h _ (by simp (maxSteps := 2000000) (disch := first | omega | (simp only [ls]; first | done | omega)) only [hO0, hO1, hO2, hO3, hO4, hO5, hO6, hO7, hO8, ftt0_0, ftt0_1, ftt0_2, ftt0_3, ftt0_4, hb2, hv3, hv4, (gv4).1, bv4, hk5, hk5l, ftt1_0, ftt1_1, ftt1_2, ftt1_3, ftt1_4, ftt1_5, ftt1_6, ftt1_7, hb8, hv9, hv10, c2_0, c2_1, c2_2, c2_3, c2_4, c2_5, sc2_0, gx, Int.reduceToNat])
          · rintro hc2 v hh2 ⟨c2_0, c2_1, c2_2, c2_3, c2_4, c2_5⟩ hpost
            obtain ⟨kk2, nb2_0, rfl, lnb2_0, gnb2_0, wnb2_0⟩ := hpost
            have d2_0 : NestV hh2 1 bkh1_3 bkv1_3 (s6 : List TOp) := nest_keep c2_0 kk2 (by intro b hb; first | (simp at hb; done) | (simp at hb; omega))
            have d2_0l := nest_lt d2_0
            have d2_0s : snap 9 false hh2 bkv1_3 = some (.sl 12 (s6.map enc)) := snap_nest (n := 5) d2_0
            have d2_0n : lenS bkv1_3 = some s6.length := nest_lenS d2_0
            have d2_1 : getCells hh2 hh1.length 0 = some [] := (keep_get kk2 c2_3 (by first | (simp; done) | (simp; omega))).trans c2_2
            have d2_1l := keep_lt kk2 c2_3
            have d2_2 : getCells hh2 (hh1.length + 1) 12 = some [.i (.s (.int .i64 v9.actor)), .i (.s (.int .i64 v9.seq)), .i (.s (.int .i64 v9.time)), .i (.sl 1 (v9.deps.counts.map enc)), .i (.s (.int .i64 v9.kind)), .i (.s (.int .i64 v9.obj)), .i (.s (.int .i64 v9.n)), .i (.s (.int .i64 v9.undo)), .i (.s (.int .i64 v9.at_.time)), .i (.s (.int .i64 v9.at_.actor)), .i (.s (.string v9.key)), .i (.s (.string v9.text))] := (keep_get kk2 c2_5 (by first | (simp; done) | (simp; omega))).trans c2_4
            have d2_2l := keep_lt kk2 c2_5
            have d2_3 := wnb2_0
            obtain ⟨v11, hv11, hp⟩ := bind_eq hp
            simp (maxSteps := 2000000) (disch := first | omega | (simp only [ls]; first | done | omega)) only [hO0, hO1, hO2, hO3, hO4, hO5, hO6, hO7, hO8, ftt0_0, ftt0_1, ftt0_2, ftt0_3, ftt0_4, hb2, hv3, hv4, (gv4).1, bv4, hk5, hk5l, ftt1_0, ftt1_1, ftt1_2, ftt1_3, ftt1_4, ftt1_5, ftt1_6, ftt1_7, hb8, hv9, hv10, d2_0, d2_0s, d2_0n, d2_1, d2_2, d2_3, gx, Int.reduceToNat]
            refine app_nest_f (lo := 1) (hi := bkh1_3) (g := nb2_0) (x := (v10 : TOp)) (xs := s6) (fun h => NestV h 1 bkh1_3 bkv1_3 (s6 : List TOp) ∧ bkh1_3 ≤ h.length ∧ getCells h hh1.length 0 = some [] ∧ hh1.length < h.length ∧ getCells h (hh1.length + 1) 12 = some [.i (.s (.int .i64 v9.actor)), .i (.s (.int .i64 v9.seq)), .i (.s (.int .i64 v9.time)), .i (.sl 1 (v9.deps.counts.map enc)), .i (.s (.int .i64 v9.kind)), .i (.s (.int .i64 v9.obj)), .i (.s (.int .i64 v9.n)), .i (.s (.int .i64 v9.undo)), .i (.s (.int .i64 v9.at_.time)), .i (.s (.int .i64 v9.at_.actor)), .i (.s (.string v9.key)), .i (.s (.string v9.text))] ∧ hh1.length + 1 < h.length ∧ getCells h nb2_0 v10.deps.counts.length = some (rows (v10.deps.counts : List Int)) ∧ nb2_0 < h.length) ?_ ?_ hv11 ?_ (by omega) ?_
            · simp (maxSteps := 2000000) (disch := first | omega | (simp only [ls]; first | done | omega)) only [hO0, hO1, hO2, hO3, hO4, hO5, hO6, hO7, hO8, ftt0_0, ftt0_1, ftt0_2, ftt0_3, ftt0_4, hb2, hv3, hv4, (gv4).1, bv4, hk5, hk5l, ftt1_0, ftt1_1, ftt1_2, ftt1_3, ftt1_4, ftt1_5, ftt1_6, ftt1_7, hb8, hv9, hv10, d2_0, d2_0s, d2_0n, d2_1, d2_2, d2_3, hv11, gx, Int.reduceToNat] <;> (repeat (first | refine And.intro ?_ ?_ | assumption | exact nest_ext (by assumption) | exact nest_wide (by assumption) (Nat.zero_le _) (by first | omega | (simp; omega)) (Nat.le_refl _) | exact nest_wide (nest_ext (by assumption)) (Nat.zero_le _) (by first | omega | (simp; omega)) (Nat.le_refl _) | exact nest_virt (by simp (maxSteps := 2000000) (disch := first | omega | (simp only [ls]; first | done | omega)) only [hO0, hO1, hO2, hO3, hO4, hO5, hO6, hO7, hO8, ftt0_0, ftt0_1, ftt0_2, ftt0_3, ftt0_4, hb2, hv3, hv4, (gv4).1, bv4, hk5, hk5l, ftt1_0, ftt1_1, ftt1_2, ftt1_3, ftt1_4, ftt1_5, ftt1_6, ftt1_7, hb8, hv9, hv10, d2_0, d2_0s, d2_0n, d2_1, d2_2, d2_3, hv11, gx, Int.reduceToNat]) (by omega) (by first | omega | (simp; done) | (simp; omega)) (by first | omega | (simp; done) | (simp; omega)) | refine nest_ext ?_ | refine nest_set ?_ (by omega) | omega))
            · rintro h ⟨c3_0, c3_1, c3_2, c3_3, c3_4, c3_5, c3_6, c3_7⟩
              exact c3_0
            · rintro h ⟨c3_0, c3_1, c3_2, c3_3, c3_4, c3_5, c3_6, c3_7⟩
              first | exact c3_6 | exact gc_eq c3_6 (by first | rfl | omega | (simp; omega))
            · rintro h0 nv3 hh3 ⟨c3_0, c3_1, c3_2, c3_3, c3_4, c3_5, c3_6, c3_7⟩ kk3 w3
              have d3_0 : getCells hh3 hh1.length 0 = some [] := (keepI_get kk3 c3_3 (by omega)).trans c3_2
              have d3_0l := keepI_lt kk3 c3_3
              have d3_1 : getCells hh3 (hh1.length + 1) 12 = some [.i (.s (.int .i64 v9.actor)), .i (.s (.int .i64 v9.seq)), .i (.s (.int .i64 v9.time)), .i (.sl 1 (v9.deps.counts.map enc)), .i (.s (.int .i64 v9.kind)), .i (.s (.int .i64 v9.obj)), .i (.s (.int .i64 v9.n)), .i (.s (.int .i64 v9.undo)), .i (.s (.int .i64 v9.at_.time)), .i (.s (.int .i64 v9.at_.actor)), .i (.s (.string v9.key)), .i (.s (.string v9.text))] := (keepI_get kk3 c3_5 (by omega)).trans c3_4
              have d3_1l := keepI_lt kk3 c3_5
              have d3_2 : NestV hh3 1 (nb2_0 + 1) nv3 (v11 : List TOp) := w3
              have d3_2l := nest_lt d3_2
              have d3_2n : lenS nv3 = some v11.length := nest_lenS d3_2
              have hp := Option.some.inj hp
              subst hp
              simp (maxSteps := 2000000) (disch := first | omega | (simp only [ls]; first | done | omega)) only [hO0, hO1, hO2, hO3, hO4, hO5, hO6, hO7, hO8, ftt0_0, ftt0_1, ftt0_2, ftt0_3, ftt0_4, hb2, hv3, hv4, (gv4).1, bv4, hk5, hk5l, ftt1_0, ftt1_1, ftt1_2, ftt1_3, ftt1_4, ftt1_5, ftt1_6, ftt1_7, hb8, hv9, hv10, d2_0, d2_0s, d2_0n, d2_1, d2_2, d2_3, hv11, d3_0, d3_1, d3_2, d3_2n, gx, Int.reduceToNat]
              refine ⟨nv3, nb2_0 + 1, ?_⟩
              simp (maxSteps := 2000000) (disch := first | omega | (simp only [ls]; first | done | omega)) only [hO0, hO1, hO2, hO3, hO4, hO5, hO6, hO7, hO8, ftt0_0, ftt0_1, ftt0_2, ftt0_3, ftt0_4, hb2, hv3, hv4, (gv4).1, bv4, hk5, hk5l, ftt1_0, ftt1_1, ftt1_2, ftt1_3, ftt1_4, ftt1_5, ftt1_6, ftt1_7, hb8, hv9, hv10, d2_0, d2_0s, d2_0n, d2_1, d2_2, d2_3, hv11, d3_0, d3_1, d3_2, d3_2n, gx, Int.reduceToNat] <;> (repeat (first | refine And.intro ?_ ?_ | assumption | exact nest_ext (by assumption) | exact nest_wide (by assumption) (Nat.zero_le _) (by first | omega | (simp; omega)) (Nat.le_refl _) | exact nest_wide (nest_ext (by assumption)) (Nat.zero_le _) (by first | omega | (simp; omega)) (Nat.le_refl _) | exact nest_virt (by simp (maxSteps := 2000000) (disch := first | omega | (simp only [ls]; first | done | omega)) only [hO0, hO1, hO2, hO3, hO4, hO5, hO6, hO7, hO8, ftt0_0, ftt0_1, ftt0_2, ftt0_3, ftt0_4, hb2, hv3, hv4, (gv4).1, bv4, hk5, hk5l, ftt1_0, ftt1_1, ftt1_2, ftt1_3, ftt1_4, ftt1_5, ftt1_6, ftt1_7, hb8, hv9, hv10, d2_0, d2_0s, d2_0n, d2_1, d2_2, d2_3, hv11, d3_0, d3_1, d3_2, d3_2n, gx, Int.reduceToNat]) (by omega) (by first | omega | (simp; done) | (simp; omega)) (by first | omega | (simp; done) | (simp; omega)) | refine nest_ext ?_ | refine nest_set ?_ (by omega) | omega))
        · replace hb8 := eq_false_of_ne_true hb8
          rw [if_f hb8] at hp
          have hp := Option.some.inj hp
          subst hp
          simp (maxSteps := 2000000) (disch := first | omega | (simp only [ls]; first | done | omega)) only [hO0, hO1, hO2, hO3, hO4, hO5, hO6, hO7, hO8, ftt0_0, ftt0_1, ftt0_2, ftt0_3, ftt0_4, hb2, hv3, hv4, (gv4).1, bv4, hk5, hk5l, ftt1_0, ftt1_1, ftt1_2, ftt1_3, ftt1_4, ftt1_5, ftt1_6, ftt1_7, hb8, gx, Int.reduceToNat]
          refine ⟨bkv1_3, bkh1_3, ?_⟩
          simp (maxSteps := 2000000) (disch := first | omega | (simp only [ls]; first | done | omega)) only [hO0, hO1, hO2, hO3, hO4, hO5, hO6, hO7, hO8, ftt0_0, ftt0_1, ftt0_2, ftt0_3, ftt0_4, hb2, hv3, hv4, (gv4).1, bv4, hk5, hk5l, ftt1_0, ftt1_1, ftt1_2, ftt1_3, ftt1_4, ftt1_5, ftt1_6, ftt1_7, hb8, gx, Int.reduceToNat] <;> (repeat (first | refine And.intro ?_ ?_ | assumption | exact nest_ext (by assumption) | exact nest_wide (by assumption) (Nat.zero_le _) (by first | omega | (simp; omega)) (Nat.le_refl _) | exact nest_wide (nest_ext (by assumption)) (Nat.zero_le _) (by first | omega | (simp; omega)) (Nat.le_refl _) | exact nest_virt (by simp (maxSteps := 2000000) (disch := first | omega | (simp only [ls]; first | done | omega)) only [hO0, hO1, hO2, hO3, hO4, hO5, hO6, hO7, hO8, ftt0_0, ftt0_1, ftt0_2, ftt0_3, ftt0_4, hb2, hv3, hv4, (gv4).1, bv4, hk5, hk5l, ftt1_0, ftt1_1, ftt1_2, ftt1_3, ftt1_4, ftt1_5, ftt1_6, ftt1_7, hb8, gx, Int.reduceToNat]) (by omega) (by first | omega | (simp; done) | (simp; omega)) (by first | omega | (simp; done) | (simp; omega)) | refine nest_ext ?_ | refine nest_set ?_ (by omega) | omega))
      · refine ⟨bkv0_3, bkh0_3, ?_⟩
        simp (maxSteps := 2000000) (disch := first | omega | (simp only [ls]; first | done | omega)) only [hO0, hO1, hO2, hO3, hO4, hO5, hO6, hO7, hO8, ftt0_0, ftt0_1, ftt0_2, ftt0_3, ftt0_4, hb2, hv3, hv4, (gv4).1, bv4, hk5, hk5l, gx, Int.reduceToNat] <;> (repeat (first | refine And.intro ?_ ?_ | assumption | exact nest_ext (by assumption) | exact nest_wide (by assumption) (Nat.zero_le _) (by first | omega | (simp; omega)) (Nat.le_refl _) | exact nest_wide (nest_ext (by assumption)) (Nat.zero_le _) (by first | omega | (simp; omega)) (Nat.le_refl _) | exact nest_virt (by simp (maxSteps := 2000000) (disch := first | omega | (simp only [ls]; first | done | omega)) only [hO0, hO1, hO2, hO3, hO4, hO5, hO6, hO7, hO8, ftt0_0, ftt0_1, ftt0_2, ftt0_3, ftt0_4, hb2, hv3, hv4, (gv4).1, bv4, hk5, hk5l, gx, Int.reduceToNat]) (by omega) (by first | omega | (simp; done) | (simp; omega)) (by first | omega | (simp; done) | (simp; omega)) | refine nest_ext ?_ | refine nest_set ?_ (by omega) | omega))
      · intro x tt4 hh4 hx
        rcases ee1 with ⟨o12, o13⟩ | r
        · obtain ⟨rfl, bov1_3, boh1_3, ftt4_0, ftt4_1, ftt4_2, ftt4_3, ftt4_4, ftt4_5, ftt4_6, ftt4_7⟩ := hx
          dsimp only at hp
          have hp := Option.some.inj hp
          subst hp
          simp (maxSteps := 2000000) (disch := first | omega | (simp only [ls]; first | done | omega)) only [hO0, hO1, hO2, hO3, hO4, hO5, hO6, hO7, hO8, ftt0_0, ftt0_1, ftt0_2, ftt0_3, ftt0_4, hb2, hv3, hv4, (gv4).1, bv4, hk5, hk5l, ftt4_0, ftt4_1, ftt4_2, ftt4_3, ftt4_4, ftt4_5, ftt4_6, ftt4_7, gx, Int.reduceToNat]
          refine ⟨bov1_3, boh1_3, ?_⟩
          simp (maxSteps := 2000000) (disch := first | omega | (simp only [ls]; first | done | omega)) only [hO0, hO1, hO2, hO3, hO4, hO5, hO6, hO7, hO8, ftt0_0, ftt0_1, ftt0_2, ftt0_3, ftt0_4, hb2, hv3, hv4, (gv4).1, bv4, hk5, hk5l, ftt4_0, ftt4_1, ftt4_2, ftt4_3, ftt4_4, ftt4_5, ftt4_6, ftt4_7, gx, Int.reduceToNat] <;> (repeat (first | refine And.intro ?_ ?_ | assumption | exact nest_ext (by assumption) | exact nest_wide (by assumption) (Nat.zero_le _) (by first | omega | (simp; omega)) (Nat.le_refl _) | exact nest_wide (nest_ext (by assumption)) (Nat.zero_le _) (by first | omega | (simp; omega)) (Nat.le_refl _) | exact nest_virt (by simp (maxSteps := 2000000) (disch := first | omega | (simp only [ls]; first | done | omega)) only [hO0, hO1, hO2, hO3, hO4, hO5, hO6, hO7, hO8, ftt0_0, ftt0_1, ftt0_2, ftt0_3, ftt0_4, hb2, hv3, hv4, (gv4).1, bv4, hk5, hk5l, ftt4_0, ftt4_1, ftt4_2, ftt4_3, ftt4_4, ftt4_5, ftt4_6, ftt4_7, gx, Int.reduceToNat]) (by omega) (by first | omega | (simp; done) | (simp; omega)) (by first | omega | (simp; done) | (simp; omega)) | refine nest_ext ?_ | refine nest_set ?_ (by omega) | omega))
        · obtain ⟨rfl, hx⟩ := hx
          dsimp only at hp
          cases hp
          simp only [seqK_ret, blockK_ret, retK_RK (K := o_impl_book_log), hx, and_self, true_and]
    · replace hb2 := eq_false_of_ne_true hb2
      rw [if_f hb2] at hp
      have hp := Option.some.inj hp
      subst hp
      simp (maxSteps := 2000000) (disch := first | omega | (simp only [ls]; first | done | omega)) only [hO0, hO1, hO2, hO3, hO4, hO5, hO6, hO7, hO8, ftt0_0, ftt0_1, ftt0_2, ftt0_3, ftt0_4, hb2, gx, Int.reduceToNat]
      refine ⟨bkv0_3, bkh0_3, ?_⟩
      simp (maxSteps := 2000000) (disch := first | omega | (simp only [ls]; first | done | omega)) only [hO0, hO1, hO2, hO3, hO4, hO5, hO6, hO7, hO8, ftt0_0, ftt0_1, ftt0_2, ftt0_3, ftt0_4, hb2, gx, Int.reduceToNat] <;> (repeat (first | refine And.intro ?_ ?_ | assumption | exact nest_ext (by assumption) | exact nest_wide (by assumption) (Nat.zero_le _) (by first | omega | (simp; omega)) (Nat.le_refl _) | exact nest_wide (nest_ext (by assumption)) (Nat.zero_le _) (by first | omega | (simp; omega)) (Nat.le_refl _) | exact nest_virt (by simp (maxSteps := 2000000) (disch := first | omega | (simp only [ls]; first | done | omega)) only [hO0, hO1, hO2, hO3, hO4, hO5, hO6, hO7, hO8, ftt0_0, ftt0_1, ftt0_2, ftt0_3, ftt0_4, hb2, gx, Int.reduceToNat]) (by omega) (by first | omega | (simp; done) | (simp; omega)) (by first | omega | (simp; done) | (simp; omega)) | refine nest_ext ?_ | refine nest_set ?_ (by omega) | omega))
  · refine ⟨(.hsl 1 0 0 12 true 0), 2, ?_⟩
    simp (maxSteps := 2000000) (disch := first | omega | (simp only [ls]; first | done | omega)) only [hO0, hO1, hO2, hO3, hO4, hO5, hO6, hO7, hO8, gx, Int.reduceToNat] <;> (repeat (first | refine And.intro ?_ ?_ | assumption | exact nest_ext (by assumption) | exact nest_wide (by assumption) (Nat.zero_le _) (by first | omega | (simp; omega)) (Nat.le_refl _) | exact nest_wide (nest_ext (by assumption)) (Nat.zero_le _) (by first | omega | (simp; omega)) (Nat.le_refl _) | exact nest_virt (by simp (maxSteps := 2000000) (disch := first | omega | (simp only [ls]; first | done | omega)) only [hO0, hO1, hO2, hO3, hO4, hO5, hO6, hO7, hO8, gx, Int.reduceToNat]) (by omega) (by first | omega | (simp; done) | (simp; omega)) (by first | omega | (simp; done) | (simp; omega)) | refine nest_ext ?_ | refine nest_set ?_ (by omega) | omega))
  · intro x tt5 hh5 hx
    rcases ee2 with ⟨o14, o15⟩ | r
    · obtain ⟨rfl, bov0_3, boh0_3, ftt5_0, ftt5_1, ftt5_2, ftt5_3, ftt5_4⟩ := hx
      dsimp only at hp
      have hp := Option.some.inj hp
      subst hp
      simp (maxSteps := 2000000) (disch := first | omega | (simp only [ls]; first | done | omega)) only [hO0, hO1, hO2, hO3, hO4, hO5, hO6, hO7, hO8, ftt5_0, ftt5_1, ftt5_2, ftt5_3, ftt5_4, gx, Int.reduceToNat]
      refine ⟨bov0_3, ?_⟩
      simp (maxSteps := 2000000) (disch := first | omega | (simp only [ls]; first | done | omega)) only [hO0, hO1, hO2, hO3, hO4, hO5, hO6, hO7, hO8, ftt5_0, ftt5_1, ftt5_2, ftt5_3, ftt5_4, o_impl_book_log, gx, Int.reduceToNat] <;> (repeat (first | refine And.intro ?_ ?_ | assumption | exact nest_ext (by assumption) | exact nest_wide (by assumption) (Nat.zero_le _) (by first | omega | (simp; omega)) (Nat.le_refl _) | exact nest_wide (nest_ext (by assumption)) (Nat.zero_le _) (by first | omega | (simp; omega)) (Nat.le_refl _) | exact nest_virt (by simp (maxSteps := 2000000) (disch := first | omega | (simp only [ls]; first | done | omega)) only [hO0, hO1, hO2, hO3, hO4, hO5, hO6, hO7, hO8, ftt5_0, ftt5_1, ftt5_2, ftt5_3, ftt5_4, o_impl_book_log, gx, Int.reduceToNat]) (by omega) (by first | omega | (simp; done) | (simp; omega)) (by first | omega | (simp; done) | (simp; omega)) | refine nest_ext ?_ | refine nest_set ?_ (by omega) | omega))
    · obtain ⟨rfl, hx⟩ := hx
      dsimp only at hp
      cases hp
      simp only [seqK_ret, blockK_ret, retK_RK (K := o_impl_book_log), hx, and_self, true_and]
theorem ko_impl_book_log {P : Program} {env : Env} {f_impl_opCopy : Nat}  (e_impl_opCopy : k_impl_opCopy (env (2 * f_impl_opCopy + 1))) : k_impl_book_log (ownFn P env (c_impl_book_log f_impl_opCopy)) := by
  intro x0 b hp h args has
  obtain ⟨⟨v, H2⟩, hr, n0, rfl, wn0⟩ := w_impl_book_log e_impl_opCopy x0 hp
  exact ⟨_, own_call has hr (nest_hand wn0), keep_moved, _, rfl, nest_movedO wn0⟩

noncomputable def p_impl_LogAt (x0 : List TOp) (x1 : TVec) : Option (T2 (List TOp) Int) :=
  (p_impl_bookAt x0 x1).bind fun v0 =>
  if (decide (v0.b = 0)) = true then
    (p_impl_book_log v0.a).bind fun v2 =>
    some ⟨v2, 0⟩
  else
    some ⟨[], v0.b⟩
def c_impl_LogAt (f_impl_bookAt : Nat) (f_impl_book_log : Nat) : AFn := ⟨19, (.seq (.ops [⟨(.some 3), (.box (.tmp 1)), .none, []⟩, ⟨(.some 4), (.vnil 12 true), .none, []⟩, ⟨(.some 5), (.mv (.const (.int .i64 0))), .none, []⟩]) (.seq (.ops [⟨(.some 9), (.mv (.tmp 0)), .none, []⟩, ⟨(.some 10), (.load 1 true (.tmp 3)), .none, []⟩, ⟨(.some 11), (.call (2 * f_impl_bookAt) [(.tmp 9), (.tmp 10)]), .none, []⟩, ⟨(.some 8), (.mv (.tmp 11)), .none, []⟩, ⟨(.some 12), (.extract 0 (.tmp 8)), .none, []⟩, ⟨(.some 13), (.extract 1 (.tmp 8)), .none, []⟩, ⟨(.some 6), (.mv (.tmp 12)), .none, []⟩, ⟨(.some 7), (.mv (.tmp 13)), .none, []⟩]) (.seq (.seq (.ops [⟨(.some 14), (.mv (.tmp 7)), .none, []⟩, ⟨(.some 15), (.pu (.n (.ar .neq)) [(.tmp 14), (.const (.int .i64 0))]), .none, []⟩]) (.cond (.tmp 15) (.seq (.ops [⟨(.some 16), (.mv (.tmp 7)), .none, []⟩, ⟨(.some 4), (.vnil 12 true), .none, []⟩, ⟨(.some 5), (.mv (.tmp 16)), .none, []⟩]) .ret) .skip)) (.seq (.ops [⟨(.some 17), (.mv (.tmp 6)), .none, []⟩, ⟨(.some 18), (.call (2 * f_impl_book_log + 1) [(.tmp 17)]), .none, []⟩, ⟨(.some 4), (.mv (.tmp 18)), .none, []⟩, ⟨(.some 5), (.mv (.const (.int .i64 0))), .none, []⟩]) .ret)))), [(.tmp 4), (.tmp 5)]⟩
set_option maxHeartbeats 10000000 in
theorem d_impl_LogAt {P : Program} {env : Env} {f_impl_bookAt : Nat} {f_impl_book_log : Nat}  (ep_impl_bookAt : env (2 * f_impl_bookAt) = pureFn false (FA fun a : List TOp × TVec => p_impl_bookAt a.1 a.2)) (e_impl_book_log : k_impl_book_log (env (2 * f_impl_book_log + 1))) (x0 : List TOp) (x1 : TVec) {b : T2 (List TOp) Int} (hp : p_impl_LogAt x0 x1 = some b) : R P env (c_impl_LogAt f_impl_bookAt f_impl_book_log) ((encA (x0, x1)).map ofI) [] (Tells false b) := by
  refine R_of (by simp [c_impl_LogAt, encA]) ?_
  unfold c_impl_LogAt
  unfold p_impl_LogAt at hp
  obtain ⟨v0, hv0, hp⟩ := bind_eq hp
  by_cases hb1 : (decide (v0.b = 0)) = true
  · rw [if_t hb1] at hp
    obtain ⟨v2, hv2, hp⟩ := bind_eq hp
    simp (maxSteps := 2000000) (disch := first | omega | (simp only [ls]; first | done | omega)) only [ep_impl_bookAt, hv0, hb1, gx, Int.reduceToNat]
    refine call_f (fun h => getCells h 0 1 = some [.i (.sl 1 (x1.counts.map enc))] ∧ 0 < h.length ∧ getCells h 1 0 = some [] ∧ 1 < h.length) (fun h v h2 => oo_impl_book_log v2 h v h2) ?_ ?_ ?_
    · simp (maxSteps := 2000000) (disch := first | omega | (simp only [ls]; first | done | omega)) only [ep_impl_bookAt, hv0, hb1, hv2, gx, Int.reduceToNat] <;> (repeat (first | refine And.intro ?_ ?_ | assumption | exact nest_ext (by assumption) | exact nest_wide (by assumption) (Nat.zero_le _) (by first | omega | (simp; omega)) (Nat.le_refl _) | exact nest_wide (nest_ext (by assumption)) (Nat.zero_le _) (by first | omega | (simp; omega)) (Nat.le_refl _) | exact nest_virt (by simp (maxSteps := 2000000) (disch := first | omega | (simp only [ls]; first | done | omega)) only [ep_impl_bookAt, hv0, hb1, hv2, gx, Int.reduceToNat]) (by omega) (by first | omega | (simp; done) | (simp; omega)) (by first | omega | (simp; done) | (simp; omega)) | refine nest_ext ?_ | refine nest_set ?_ (by omega) | omega))
    · rintro h ⟨c0_0, c0_1, c0_2, c0_3⟩
      exact e_impl_book_log _ _ hv2 h _ (by simp (maxSteps := 2000000) (disch := first | omega | (simp only [ls]; first | done | omega)) only [ep_impl_bookAt, hv0, hb1, hv2, c0_0, c0_1, c0_2, c0_3, gx, Int.reduceToNat])
    · rintro hc0 nb0_0 hh0 ⟨c0_0, c0_1, c0_2, c0_3⟩ hpost
      obtain ⟨kk0, _, rfl, wnb0_0⟩ := hpost
      have d0_0 : getCells hh0 0 1 = some [.i (.sl 1 (x1.counts.map enc))] := (keep_get kk0 c0_1 (by first | (simp; done) | (simp; omega))).trans c0_0
      have d0_0l := keep_lt kk0 c0_1
      have d0_1 : getCells hh0 1 0 = some [] := (keep_get kk0 c0_3 (by first | (simp; done) | (simp; omega))).trans c0_2
      have d0_1l := keep_lt kk0 c0_3
      have d0_2 := wnb0_0
      have d0_2l := nest_lt d0_2
      have d0_2s : snap 9 false hh0 nb0_0 = some (.sl 12 (v2.map enc)) := snap_nest (n := 5) d0_2
      have d0_2n : lenS nb0_0 = some v2.length := nest_lenS d0_2
      have sn3 : snap 8 false hh0 nb0_0 = some (.sl 12 (v2.map enc)) := snap_nest (n := 4) (by assumption)
      have hp := Option.some.inj hp
      subst hp
      simp (maxSteps := 2000000) (disch := first | omega | (simp only [ls]; first | done | omega)) only [ep_impl_bookAt, hv0, hb1, hv2, d0_0, d0_1, d0_2, d0_2s, d0_2n, sn3, gx, Int.reduceToNat]
  · replace hb1 := eq_false_of_ne_true hb1
    rw [if_f hb1] at hp
    have hp := Option.some.inj hp
    subst hp
    simp (maxSteps := 2000000) (disch := first | omega | (simp only [ls]; first | done | omega)) only [ep_impl_bookAt, hv0, hb1, gx, Int.reduceToNat]

def o_impl_LogAt (b : T2 (List TOp) Int) (v : V) (h : Heap) : Prop := ∃ n0 : V, v = .tup [n0, .i (.s (.int .i64 b.b))] ∧ NestV h 0 h.length n0 b.a
def oo_impl_LogAt (b : T2 (List TOp) Int) (h : Heap) (v : V) (h2 : Heap) : Prop := Keep [] h h2 ∧ ∃ n0 : V, v = .tup [n0, .i (.s (.int .i64 b.b))] ∧ NestV h2 h.length h2.length n0 b.a
def k_impl_LogAt (F : Fun) : Prop := ∀ (x0 : List TOp) (x1 : TVec) (b : T2 (List TOp) Int), p_impl_LogAt x0 x1 = some b → ∀ (h : Heap) (args : List V), snapA 9 false h args = some (encA (x0, x1)) → ∃ p, F none args h = some p ∧ oo_impl_LogAt b h p.1 p.2
set_option maxHeartbeats 10000000 in
theorem w_impl_LogAt {P : Program} {env : Env} {f_impl_bookAt : Nat} {f_impl_book_log : Nat}  (ep_impl_bookAt : env (2 * f_impl_bookAt) = pureFn false (FA fun a : List TOp × TVec => p_impl_bookAt a.1 a.2)) (e_impl_book_log : k_impl_book_log (env (2 * f_impl_book_log + 1))) (x0 : List TOp) (x1 : TVec) {b : T2 (List TOp) Int} (hp : p_impl_LogAt x0 x1 = some b) : R P env (c_impl_LogAt f_impl_bookAt f_impl_book_log) ((encA (x0, x1)).map ofI) [] (o_impl_LogAt b) := by
  refine R_of (by simp [c_impl_LogAt, encA]) ?_
  unfold c_impl_LogAt
  unfold p_impl_LogAt at hp
  obtain ⟨v0, hv0, hp⟩ := bind_eq hp
  by_cases hb1 : (decide (v0.b = 0)) = true
  · rw [if_t hb1] at hp
    obtain ⟨v2, hv2, hp⟩ := bind_eq hp
    simp (maxSteps := 2000000) (disch := first | omega | (simp only [ls]; first | done | omega)) only [ep_impl_bookAt, hv0, hb1, gx, Int.reduceToNat]
    refine call_f (fun h => getCells h 0 1 = some [.i (.sl 1 (x1.counts.map enc))] ∧ 0 < h.length ∧ getCells h 1 0 = some [] ∧ 1 < h.length) (fun h v h2 => oo_impl_book_log v2 h v h2) ?_ ?_ ?_
    · simp (maxSteps := 2000000) (disch := first | omega | (simp only [ls]; first | done | omega)) only [ep_impl_bookAt, hv0, hb1, hv2, gx, Int.reduceToNat] <;> (repeat (first | refine And.intro ?_ ?_ | assumption | exact nest_ext (by assumption) | exact nest_wide (by assumption) (Nat.zero_le _) (by first | omega | (simp; omega)) (Nat.le_refl _) | exact nest_wide (nest_ext (by assumption)) (Nat.zero_le _) (by first | omega | (simp; omega)) (Nat.le_refl _) | exact nest_virt (by simp (maxSteps := 2000000) (disch := first | omega | (simp only [ls]; first | done | omega)) only [ep_impl_bookAt, hv0, hb1, hv2, gx, Int.reduceToNat]) (by omega) (by first | omega | (simp; done) | (simp; omega)) (by first | omega | (simp; done) | (simp; omega)) | refine nest_ext ?_ | refine nest_set ?_ (by omega) | omega))
    · rintro h ⟨c0_0, c0_1, c0_2, c0_3⟩
      exact e_impl_book_log _ _ hv2 h _ (by simp (maxSteps := 2000000) (disch := first | omega | (simp only [ls]; first | done | omega)) only [ep_impl_bookAt, hv0, hb1, hv2, c0_0, c0_1, c0_2, c0_3, gx, Int.reduceToNat])
    · rintro hc0 nb0_0 hh0 ⟨c0_0, c0_1, c0_2, c0_3⟩ hpost
      obtain ⟨kk0, _, rfl, wnb0_0⟩ := hpost
      have d0_0 : getCells hh0 0 1 = some [.i (.sl 1 (x1.counts.map enc))] := (keep_get kk0 c0_1 (by first | (simp; done) | (simp; omega))).trans c0_0
      have d0_0l := keep_lt kk0 c0_1
      have d0_1 : getCells hh0 1 0 = some [] := (keep_get kk0 c0_3 (by first | (simp; done) | (simp; omega))).trans c0_2
      have d0_1l := keep_lt kk0 c0_3
      have d0_2 := wnb0_0
      have d0_2l := nest_lt d0_2
      have d0_2s : snap 9 false hh0 nb0_0 = some (.sl 12 (v2.map enc)) := snap_nest (n := 5) d0_2
      have d0_2n : lenS nb0_0 = some v2.length := nest_lenS d0_2
      have hp := Option.some.inj hp
      subst hp
      simp (maxSteps := 2000000) (disch := first | omega | (simp only [ls]; first | done | omega)) only [ep_impl_bookAt, hv0, hb1, hv2, d0_0, d0_1, d0_2, d0_2s, d0_2n, gx, Int.reduceToNat]
      refine ⟨nb0_0, ?_⟩
      simp (maxSteps := 2000000) (disch := first | omega | (simp only [ls]; first | done | omega)) only [ep_impl_bookAt, hv0, hb1, hv2, d0_0, d0_1, d0_2, d0_2s, d0_2n, o_impl_LogAt, gx, Int.reduceToNat] <;> (repeat (first | refine And.intro ?_ ?_ | assumption | exact nest_ext (by assumption) | exact nest_wide (by assumption) (Nat.zero_le _) (by first | omega | (simp; omega)) (Nat.le_refl _) | exact nest_wide (nest_ext (by assumption)) (Nat.zero_le _) (by first | omega | (simp; omega)) (Nat.le_refl _) | exact nest_virt (by simp (maxSteps := 2000000) (disch := first | omega | (simp only [ls]; first | done | omega)) only [ep_impl_bookAt, hv0, hb1, hv2, d0_0, d0_1, d0_2, d0_2s, d0_2n, o_impl_LogAt, gx, Int.reduceToNat]) (by omega) (by first | omega | (simp; done) | (simp; omega)) (by first | omega | (simp; done) | (simp; omega)) | refine nest_ext ?_ | refine nest_set ?_ (by omega) | omega))
  · replace hb1 := eq_false_of_ne_true hb1
    rw [if_f hb1] at hp
    have hp := Option.some.inj hp
    subst hp
    simp (maxSteps := 2000000) (disch := first | omega | (simp only [ls]; first | done | omega)) only [ep_impl_bookAt, hv0, hb1, gx, Int.reduceToNat]
    refine ⟨(.hsl 2 0 0 12 true 0), ?_⟩
    simp (maxSteps := 2000000) (disch := first | omega | (simp only [ls]; first | done | omega)) only [ep_impl_bookAt, hv0, hb1, o_impl_LogAt, gx, Int.reduceToNat] <;> (repeat (first | refine And.intro ?_ ?_ | assumption | exact nest_ext (by assumption) | exact nest_wide (by assumption) (Nat.zero_le _) (by first | omega | (simp; omega)) (Nat.le_refl _) | exact nest_wide (nest_ext (by assumption)) (Nat.zero_le _) (by first | omega | (simp; omega)) (Nat.le_refl _) | exact nest_virt (by simp (maxSteps := 2000000) (disch := first | omega | (simp only [ls]; first | done | omega)) only [ep_impl_bookAt, hv0, hb1, o_impl_LogAt, gx, Int.reduceToNat]) (by omega) (by first | omega | (simp; done) | (simp; omega)) (by first | omega | (simp; done) | (simp; omega)) | refine nest_ext ?_ | refine nest_set ?_ (by omega) | omega))
theorem ko_impl_LogAt {P : Program} {env : Env} {f_impl_bookAt : Nat} {f_impl_book_log : Nat}  (ep_impl_bookAt : env (2 * f_impl_bookAt) = pureFn false (FA fun a : List TOp × TVec => p_impl_bookAt a.1 a.2)) (e_impl_book_log : k_impl_book_log (env (2 * f_impl_book_log + 1))) : k_impl_LogAt (ownFn P env (c_impl_LogAt f_impl_bookAt f_impl_book_log)) := by
  intro x0 x1 b hp h args has
  obtain ⟨⟨v, H2⟩, hr, n0, rfl, wn0⟩ := w_impl_LogAt ep_impl_bookAt e_impl_book_log x0 x1 hp
  exact ⟨_, own_call has hr (by obtain ⟨_, _, rfl, _⟩ := wn0; first | rfl | simp [V.handed, V.good]), keep_moved, n0.shift h.length, rfl, nest_movedO wn0⟩

noncomputable def p_laws_markIntS_l0 : List Int × Int × Int → Option (Lp (List Int × Int × Int) (T2 Int (List Int)))
  | (s0, s1, s2) =>
    if (decide (s2 < (s0.length : Int))) = true then
      (get? s0 s2).bind fun v5 =>
      some (.go ((s0.set s2.toNat s1), w64 (s1 + 1), w64 (s2 + 1)))
    else
      some (.out (s0, s1, s2))
noncomputable def p_laws_markIntS (x0 : List Int) (x1 : Int) : Option (T2 Int (List Int)) :=
  (loopP (p_laws_markIntS_l0) (x0, x1, 0)).bind fun ee0 => match ee0 with
  | .ret r => some r
  | .out (o7, o8, o9) =>
    some ⟨o8, o7⟩
def c_laws_markIntS : AFn := ⟨19, (.seq (.ops [⟨(.some 4), (.mv (.const (.int .i64 0))), .none, []⟩]) (.seq (.seq (.ops [⟨(.some 5), (.mv (.const (.int .i64 0))), .none, []⟩]) (.block 0 (.loop (.seq (.seq (.ops [⟨(.some 6), (.mv (.tmp 5)), .none, []⟩, ⟨(.some 7), (.mv (.tmp 0)), .none, []⟩, ⟨(.some 8), (.len (.tmp 7)), .none, []⟩, ⟨(.some 9), (.pu (.n (.ar .lss)) [(.tmp 6), (.tmp 8)]), .none, []⟩]) (.cond (.tmp 9) .skip (.exit 0))) (.seq (.block 1 (.seq (.ops [⟨(.some 12), (.mv (.tmp 0)), .none, []⟩, ⟨(.some 13), (.mv (.tmp 5)), .none, []⟩, ⟨(.some 14), (.mv (.tmp 1)), .none, []⟩, ⟨(.some 15), (.idxS 1 (.tmp 12) (.tmp 13)), .none, []⟩, ⟨.none, (.storeV [(0, false)] 1 (.tmp 15) (.tmp 14)), .none, []⟩]) (.ops [⟨(.some 16), (.mv (.tmp 1)), .none, []⟩, ⟨(.some 17), (.pu (.n (.ar .add)) [(.tmp 16), (.const (.int .i64 1))]), .none, []⟩, ⟨(.some 1), (.mv (.tmp 17)), .none, []⟩]))) (.ops [⟨(.some 10), (.mv (.tmp 5)), .none, []⟩, ⟨(.some 11), (.pu (.n (.ar .add)) [(.tmp 10), (.const (.int .i64 1))]), .none, []⟩, ⟨(.some 5), (.mv (.tmp 11)), .none, []⟩])))))) (.seq (.ops [⟨(.some 18), (.mv (.tmp 1)), .none, []⟩, ⟨(.some 4), (.mv (.tmp 18)), .none, []⟩]) .ret))), [(.tmp 4)]⟩
def i_laws_markIntS (pb0 pn0 : Nat) (h : Heap) (b : T2 Int (List Int)) (v : V) (h2 : Heap) : Prop := Keep [pb0] h h2 ∧ v = .i (.s (.int .i64 b.a)) ∧ getCells h2 pb0 pn0 = some (rows b.b)
def k_laws_markIntS (F : Fun) : Prop := ∀ (x0 : List Int) (x1 : Int) (b : T2 Int (List Int)), p_laws_markIntS x0 x1 = some b → ∀ (pb0 pn0 : Nat) (h : Heap), pn0 = (x0).length → getCells h pb0 pn0 = some (rows x0) → ∃ p, F none [.hsl pb0 pn0 0 1 false pn0, .i (.s (.int .i64 x1))] h = some p ∧ i_laws_markIntS pb0 pn0 h b p.1 p.2
set_option maxHeartbeats 10000000 in
theorem w_laws_markIntS {P : Program} {env : Env}  (x0 : List Int) (x1 : Int) {b : T2 Int (List Int)} (hp : p_laws_markIntS x0 x1 = some b) (pb0 pn0 : Nat) (hh : Heap) (pm0 : pn0 = (x0).length) (pf0 : getCells hh pb0 pn0 = some (rows x0)) : R P env (c_laws_markIntS) [.hsl pb0 pn0 0 1 false pn0, .i (.s (.int .i64 x1))] hh (i_laws_markIntS pb0 pn0 hh b) := by
  have pl0 := gc_lt pf0
  have pg0 : getCells hh pb0 x0.length = some (rows x0) := by rw [← pm0]; exact pf0
  refine R_of (by simp [c_laws_markIntS, encA]) ?_
  unfold c_laws_markIntS
  unfold p_laws_markIntS at hp
  obtain ⟨ee0, hee0, hp⟩ := bind_eq hp
  simp (maxSteps := 2000000) (disch := first | omega | (simp only [ls]; first | done | omega)) only [pf0, pg0, gx, Int.reduceToNat]
  refine W_loopP 0 (fun s t h => match s with | (s0, s1, s2) => t 0 = .hsl pb0 pn0 0 1 false pn0 ∧ t 1 = .i (.s (.int .i64 s1)) ∧ t 5 = .i (.s (.int .i64 s2)) ∧ getCells h pb0 pn0 = some (rows (s0 : List Int)) ∧ pb0 < h.length ∧ Keep [pb0] hh h) (RK [.tmp 4] (i_laws_markIntS pb0 pn0 hh)) ?_ hee0 ?_ ?_
  · rintro ⟨s0, s1, s2⟩ ee tt0 hh0 ⟨ftt0_0, ftt0_1, ftt0_2, ftt0_3, ftt0_4, ftt0_5⟩ hp
    have ztt0_3 := len_rows ftt0_3
    simp only [zs] at ztt0_3
    rw [p_laws_markIntS_l0] at hp
    have hz3 : ((pn0 : Nat) : Int) = (s0.length : Int) := by omega
    by_cases hb4 : (decide (s2 < (s0.length : Int))) = true
    · rw [if_t hb4] at hp
      obtain ⟨v5, hv5, hp⟩ := bind_eq hp
      have gv5 := get_some hv5
      have hs6 : List.take s2.toNat (rows s0) ++ .i (.s (.int .i64 s1)) :: List.drop (s2.toNat + 1) (rows s0) = rows (s0.set s2.toNat s1) := by simpa [splice, zs, cellsV, I.cells, enc_int] using rows_set_off (y := s1) (ys := [.i (.s (.int .i64 s1))]) (k := 0) gv5.2.2 (Nat.le_of_ble_eq_true rfl) (by rfl)
      have hp := Option.some.inj hp
      subst hp
      simp (maxSteps := 2000000) (disch := first | omega | (simp only [ls]; first | done | omega)) only [i_laws_markIntS, pf0, pg0, ftt0_0, ftt0_1, ftt0_2, ftt0_3, ftt0_4, ftt0_5, hz3, hb4, hv5, (gv5).1, (gv5).2.1, hs6, gx, Int.reduceToNat] <;> (repeat (first | omega | assumption | rfl | exact keep_refl | refine keep_app ?_ | (refine keep_set (by first | (left; simp; done) | (right; simp; omega)) ?_) | refine And.intro ?_ ?_))
    · replace hb4 := eq_false_of_ne_true hb4
      rw [if_f hb4] at hp
      have hp := Option.some.inj hp
      subst hp
      simp (maxSteps := 2000000) (disch := first | omega | (simp only [ls]; first | done | omega)) only [i_laws_markIntS, pf0, pg0, ftt0_0, ftt0_1, ftt0_2, ftt0_3, ftt0_4, ftt0_5, hz3, hb4, gx, Int.reduceToNat] <;> (repeat (first | omega | assumption | rfl | exact keep_refl | refine keep_app ?_ | (refine keep_set (by first | (left; simp; done) | (right; simp; omega)) ?_) | refine And.intro ?_ ?_))
  · simp (maxSteps := 2000000) (disch := first | omega | (simp only [ls]; first | done | omega)) only [i_laws_markIntS, pf0, pg0, gx, Int.reduceToNat] <;> (repeat (first | omega | assumption | rfl | exact keep_refl | refine keep_app ?_ | (refine keep_set (by first | (left; simp; done) | (right; simp; omega)) ?_) | refine And.intro ?_ ?_))
  · intro x tt1 hh1 hx
    rcases ee0 with ⟨o7, o8, o9⟩ | r
    · obtain ⟨rfl, ftt1_0, ftt1_1, ftt1_2, ftt1_3, ftt1_4, ftt1_5⟩ := hx
      have ztt1_3 := len_rows ftt1_3
      simp only [zs] at ztt1_3
      dsimp only at hp
      have hp := Option.some.inj hp
      subst hp
      simp (maxSteps := 2000000) (disch := first | omega | (simp only [ls]; first | done | omega)) only [i_laws_markIntS, pf0, pg0, ftt1_0, ftt1_1, ftt1_2, ftt1_3, ftt1_4, ftt1_5, gx, Int.reduceToNat] <;> (repeat (first | omega | assumption | rfl | exact keep_refl | refine keep_app ?_ | (refine keep_set (by first | (left; simp; done) | (right; simp; omega)) ?_) | refine And.intro ?_ ?_))
    · obtain ⟨rfl, hx⟩ := hx
      dsimp only at hp
      cases hp
      simp only [seqK_ret, blockK_ret, retK_RK (K := i_laws_markIntS pb0 pn0 hh), hx, and_self, true_and]
theorem ko_laws_markIntS {P : Program} {env : Env}  : k_laws_markIntS (runIn P env (c_laws_markIntS)) := by
  intro x0 x1 b hp pb0 pn0 h a0 a1
  exact w_laws_markIntS x0 x1 hp pb0 pn0 h a0 a1

noncomputable def p_laws_markText_l0 : Int × ByteArray → Option (Lp (Int × ByteArray) ByteArray)
  | (s1, s2) =>
    if (decide (0 < s1)) = true then
      (cat? (strOfNums [(IntKind.wrap .u8 (w64 (48 + (Int.tmod s1 10))))]) s2).bind fun v4 =>
      some (.go (w64 (Int.tdiv s1 10), v4))
    else
      some (.out (s1, s2))
noncomputable def p_laws_markText (x0 : Int) : Option ByteArray :=
  if (decide (x0 ≤ 0)) = true then
    some (ByteArray.mk #[109, 48])
  else
    (loopP (p_laws_markText_l0) (x0, (ByteArray.mk #[]))).bind fun ee0 => match ee0 with
    | .ret r => some r
    | .out (o5, o6) =>
      (cat? (ByteArray.mk #[109]) o6).bind fun v7 =>
      some v7
def c_laws_markText : AFn := ⟨20, (.seq (.ops [⟨(.some 2), (.mv (.const (.string ⟨#[]⟩))), .none, []⟩]) (.seq (.seq (.ops [⟨(.some 4), (.mv (.tmp 0)), .none, []⟩, ⟨(.some 5), (.pu (.n (.ar .leq)) [(.tmp 4), (.const (.int .i64 0))]), .none, []⟩]) (.cond (.tmp 5) (.seq (.ops [⟨(.some 2), (.mv (.const (.string ⟨#[109, 48]⟩))), .none, []⟩]) .ret) .skip)) (.seq (.ops [⟨(.some 3), (.mv (.const (.string ⟨#[]⟩))), .none, []⟩]) (.seq (.block 0 (.loop (.seq (.seq (.ops [⟨(.some 6), (.mv (.tmp 0)), .none, []⟩, ⟨(.some 7), (.pu (.n (.ar .gtr)) [(.tmp 6), (.const (.int .i64 0))]), .none, []⟩]) (.cond (.tmp 7) .skip (.exit 0))) (.block 1 (.seq (.ops [⟨(.some 8), (.mv (.tmp 0)), .none, []⟩, ⟨(.some 9), (.pu (.n (.ar .rem)) [(.tmp 8), (.const (.int .i64 10))]), .none, []⟩, ⟨(.some 10), (.pu (.n (.ar .add)) [(.const (.int .i64 48)), (.tmp 9)]), .none, []⟩, ⟨(.some 11), (.pu (.n (.conv .u8)) [(.tmp 10)]), .none, []⟩, ⟨(.some 12), (.buildSl 1 false 1 [(.int .u8 0)] [(0, (.tmp 11))]), .none, []⟩, ⟨(.some 13), (.b2s (.tmp 12)), .none, []⟩, ⟨(.some 14), (.mv (.tmp 3)), .none, []⟩, ⟨(.some 15), (.pu (.n (.ar .add)) [(.tmp 13), (.tmp 14)]), .none, []⟩, ⟨(.some 3), (.mv (.tmp 15)), .none, []⟩]) (.ops [⟨(.some 16), (.mv (.tmp 0)), .none, []⟩, ⟨(.some 17), (.pu (.n (.ar .quo)) [(.tmp 16), (.const (.int .i64 10))]), .none, []⟩, ⟨(.some 0), (.mv (.tmp 17)), .none, []⟩])))))) (.seq (.ops [⟨(.some 18), (.mv (.tmp 3)), .none, []⟩, ⟨(.some 19), (.pu (.n (.ar .add)) [(.const (.string ⟨#[109]⟩)), (.tmp 18)]), .none, []⟩, ⟨(.some 2), (.mv (.tmp 19)), .none, []⟩]) .ret))))), [(.tmp 2)]⟩
set_option maxHeartbeats 10000000 in
theorem d_laws_markText {P : Program} {env : Env}  (x0 : Int) {b : ByteArray} (hp : p_laws_markText x0 = some b) : R P env (c_laws_markText) ((encA (x0)).map ofI) [] (Tells true b) := by
  refine R_of (by simp [c_laws_markText, encA]) ?_
  unfold c_laws_markText
  unfold p_laws_markText at hp
  by_cases hb0 : (decide (x0 ≤ 0)) = true
  · rw [if_t hb0] at hp
    have hp := Option.some.inj hp
    subst hp
    simp (maxSteps := 2000000) (disch := first | omega | (simp only [ls]; first | done | omega)) only [hb0, gx, Int.reduceToNat]
  · replace hb0 := eq_false_of_ne_true hb0
    rw [if_f hb0] at hp
    obtain ⟨ee0, hee0, hp⟩ := bind_eq hp
    simp (maxSteps := 2000000) (disch := first | omega | (simp only [ls]; first | done | omega)) only [hb0, gx, Int.reduceToNat]
    refine W_loopP 0 (fun s t h => match s with | (s1, s2) => t 0 = .i (.s (.int .i64 s1)) ∧ t 3 = .i (.s (.string s2))) (RK [.tmp 2] (Tells true)) ?_ hee0 ?_ ?_
    · rintro ⟨s1, s2⟩ ee tt0 hh0 ⟨ftt0_0, ftt0_1⟩ hp
      rw [p_laws_markText_l0] at hp
      by_cases hb3 : (decide (0 < s1)) = true
      · rw [if_t hb3] at hp
        obtain ⟨v4, hv4, hp⟩ := bind_eq hp
        have hp := Option.some.inj hp
        subst hp
        simp (maxSteps := 2000000) (disch := first | omega | (simp only [ls]; first | done | omega)) only [hb0, ftt0_0, ftt0_1, hb3, hv4, gx, Int.reduceToNat] <;> omega
      · replace hb3 := eq_false_of_ne_true hb3
        rw [if_f hb3] at hp
        have hp := Option.some.inj hp
        subst hp
        simp (maxSteps := 2000000) (disch := first | omega | (simp only [ls]; first | done | omega)) only [hb0, ftt0_0, ftt0_1, hb3, gx, Int.reduceToNat] <;> omega
    · simp (maxSteps := 2000000) (disch := first | omega | (simp only [ls]; first | done | omega)) only [hb0, gx, Int.reduceToNat] <;> omega
    · intro x tt1 hh1 hx
      rcases ee0 with ⟨o5, o6⟩ | r
      · obtain ⟨rfl, ftt1_0, ftt1_1⟩ := hx
        dsimp only at hp
        obtain ⟨v7, hv7, hp⟩ := bind_eq hp
        have hp := Option.some.inj hp
        subst hp
        simp (maxSteps := 2000000) (disch := first | omega | (simp only [ls]; first | done | omega)) only [hb0, ftt1_0, ftt1_1, hv7, gx, Int.reduceToNat]
      · obtain ⟨rfl, hx⟩ := hx
        dsimp only at hp
        cases hp
        simp only [seqK_ret, blockK_ret, retK_RK (K := Tells true), hx, and_self, true_and]

section
open NestC (kid rowN)
noncomputable def p_laws_markOpS_r (x : TOp) (k : Int) : Option (T2 Int TOp) :=
  (p_laws_markIntS x.deps.counts (w64 (w64 (w64 (k + 1) + 1) + 1))).bind fun r =>
  (p_laws_markText (w64 (w64 (w64 (w64 (w64 (w64 (r.a + 1) + 1) + 1) + 1) + 1) + 1))).bind fun v1 =>
  (p_laws_markText (w64 (w64 (w64 (w64 (w64 (w64 (w64 (r.a + 1) + 1) + 1) + 1) + 1) + 1) + 1))).bind fun v2 =>
  some ⟨w64 (w64 (w64 (w64 (w64 (w64 (w64 (w64 (r.a + 1) + 1) + 1) + 1) + 1) + 1) + 1) + 1), ⟨k, w64 (k + 1), w64 (w64 (k + 1) + 1), ⟨r.b⟩, r.a, w64 (r.a + 1), w64 (w64 (r.a + 1) + 1), w64 (w64 (w64 (r.a + 1) + 1) + 1), ⟨w64 (w64 (w64 (w64 (r.a + 1) + 1) + 1) + 1), w64 (w64 (w64 (w64 (w64 (r.a + 1) + 1) + 1) + 1) + 1)⟩, v1, v2⟩⟩
noncomputable def p_laws_markOpS_l0 (x0 : List TOp) : List TOp × Int → Option (Lp (List TOp × Int) (T2 Int (List TOp)))
  | (s1, k) =>
    if s1.length < x0.length then
      (get? x0 (s1.length : Int)).bind fun v4 =>
      (p_laws_markOpS_r v4 k).bind fun v5 =>
      if (s1.length : Int) + 1 < 9223372036854775808 then some (.go (s1 ++ [v5.b], v5.a)) else none
    else
      some (.out (s1, k))
noncomputable def p_laws_markOpS (x0 : List TOp) (x1 : Int) : Option (T2 Int (List TOp)) :=
  (loopP (p_laws_markOpS_l0 x0) ([], x1)).bind fun ee0 => match ee0 with
    | .ret r => some r
    | .out (o8, k) => some ⟨k, o8⟩
def c_laws_markOpS (f_laws_markIntS : Nat) (f_laws_markText : Nat) : AFn := ⟨102, (.seq (.ops [⟨(.some 4), (.mv (.const (.int .i64 0))), .none, []⟩]) (.seq (.seq (.ops [⟨(.some 5), (.mv (.const (.int .i64 0))), .none, []⟩]) (.block 0 (.loop (.seq (.seq (.ops [⟨(.some 6), (.mv (.tmp 5)), .none, []⟩, ⟨(.some 7), (.mv (.tmp 0)), .none, []⟩, ⟨(.some 8), (.len (.tmp 7)), .none, []⟩, ⟨(.some 9), (.pu (.n (.ar .lss)) [(.tmp 6), (.tmp 8)]), .none, []⟩]) (.cond (.tmp 9) .skip (.exit 0))) (.seq (.block 1 (.seq (.ops [⟨(.some 12), (.mv (.tmp 0)), .none, []⟩, ⟨(.some 13), (.mv (.tmp 5)), .none, []⟩, ⟨(.some 14), (.mv (.tmp 1)), .none, []⟩, ⟨(.some 15), (.idxS 12 (.tmp 12) (.tmp 13)), .none, []⟩, ⟨(.some 16), (.fieldA 0 (.tmp 15)), .none, []⟩, ⟨.none, (.storeV [(0, false)] 1 (.tmp 16) (.tmp 14)), .none, []⟩]) (.seq (.ops [⟨(.some 17), (.mv (.tmp 1)), .none, []⟩, ⟨(.some 18), (.pu (.n (.ar .add)) [(.tmp 17), (.const (.int .i64 1))]), .none, []⟩, ⟨(.some 1), (.mv (.tmp 18)), .none, []⟩]) (.seq (.ops [⟨(.some 19), (.mv (.tmp 0)), .none, []⟩, ⟨(.some 20), (.mv (.tmp 5)), .none, []⟩, ⟨(.some 21), (.mv (.tmp 1)), .none, []⟩, ⟨(.some 22), (.idxS 12 (.tmp 19) (.tmp 20)), .none, []⟩, ⟨(.some 23), (.fieldA 1 (.tmp 22)), .none, []⟩, ⟨.none, (.storeV [(0, false)] 1 (.tmp 23) (.tmp 21)), .none, []⟩]) (.seq (.ops [⟨(.some 24), (.mv (.tmp 1)), .none, []⟩, ⟨(.some 25), (.pu (.n (.ar .add)) [(.tmp 24), (.const (.int .i64 1))]), .none, []⟩, ⟨(.some 1), (.mv (.tmp 25)), .none, []⟩]) (.seq (.ops [⟨(.some 26), (.mv (.tmp 0)), .none, []⟩, ⟨(.some 27), (.mv (.tmp 5)), .none, []⟩, ⟨(.some 28), (.mv (.tmp 1)), .none, []⟩, ⟨(.some 29), (.idxS 12 (.tmp 26) (.tmp 27)), .none, []⟩, ⟨(.some 30), (.fieldA 2 (.tmp 29)), .none, []⟩, ⟨.none, (.storeV [(0, false)] 1 (.tmp 30) (.tmp 28)), .none, []⟩]) (.seq (.ops [⟨(.some 31), (.mv (.tmp 1)), .none, []⟩, ⟨(.some 32), (.pu (.n (.ar .add)) [(.tmp 31), (.const (.int .i64 1))]), .none, []⟩, ⟨(.some 1), (.mv (.tmp 32)), .none, []⟩]) (.seq (.ops [⟨(.some 33), (.mv (.tmp 0)), .none, []⟩, ⟨(.some 34), (.mv (.tmp 5)), .none, []⟩, ⟨(.some 35), (.idxS 12 (.tmp 33) (.tmp 34)), .none, []⟩, ⟨(.some 36), (.fieldA 3 (.tmp 35)), .none, []⟩, ⟨(.some 37), (.fieldA 0 (.tmp 36)), .none, []⟩, ⟨(.some 38), (.load 1 false (.tmp 37)), .none, []⟩, ⟨(.some 39), (.mv (.tmp 1)), .none, []⟩, ⟨(.some 40), (.call (2 * f_laws_markIntS + 1) [(.tmp 38), (.tmp 39)]), .none, []⟩, ⟨(.some 1), (.mv (.tmp 40)), .none, []⟩]) (.seq (.ops [⟨(.some 41), (.mv (.tmp 0)), .none, []⟩, ⟨(.some 42), (.mv (.tmp 5)), .none, []⟩, ⟨(.some 43), (.mv (.tmp 1)), .none, []⟩, ⟨(.some 44), (.idxS 12 (.tmp 41) (.tmp 42)), .none, []⟩, ⟨(.some 45), (.fieldA 4 (.tmp 44)), .none, []⟩, ⟨.none, (.storeV [(0, false)] 1 (.tmp 45) (.tmp 43)), .none, []⟩]) (.seq (.ops [⟨(.some 46), (.mv (.tmp 1)), .none, []⟩, ⟨(.some 47), (.pu (.n (.ar .add)) [(.tmp 46), (.const (.int .i64 1))]), .none, []⟩, ⟨(.some 1), (.mv (.tmp 47)), .none, []⟩]) (.seq (.ops [⟨(.some 48), (.mv (.tmp 0)), .none, []⟩, ⟨(.some 49), (.mv (.tmp 5)), .none, []⟩, ⟨(.some 50), (.mv (.tmp 1)), .none, []⟩, ⟨(.some 51), (.idxS 12 (.tmp 48) (.tmp 49)), .none, []⟩, ⟨(.some 52), (.fieldA 5 (.tmp 51)), .none, []⟩, ⟨.none, (.storeV [(0, false)] 1 (.tmp 52) (.tmp 50)), .none, []⟩]) (.seq (.ops [⟨(.some 53), (.mv (.tmp 1)), .none, []⟩, ⟨(.some 54), (.pu (.n (.ar .add)) [(.tmp 53), (.const (.int .i64 1))]), .none, []⟩, ⟨(.some 1), (.mv (.tmp 54)), .none, []⟩]) (.seq (.ops [⟨(.some 55), (.mv (.tmp 0)), .none, []⟩, ⟨(.some 56), (.mv (.tmp 5)), .none, []⟩, ⟨(.some 57), (.mv (.tmp 1)), .none, []⟩, ⟨(.some 58), (.idxS 12 (.tmp 55) (.tmp 56)), .none, []⟩, ⟨(.some 59), (.fieldA 6 (.tmp 58)), .none, []⟩, ⟨.none, (.storeV [(0, false)] 1 (.tmp 59) (.tmp 57)), .none, []⟩]) (.seq (.ops [⟨(.some 60), (.mv (.tmp 1)), .none, []⟩, ⟨(.some 61), (.pu (.n (.ar .add)) [(.tmp 60), (.const (.int .i64 1))]), .none, []⟩, ⟨(.some 1), (.mv (.tmp 61)), .none, []⟩]) (.seq (.ops [⟨(.some 62), (.mv (.tmp 0)), .none, []⟩, ⟨(.some 63), (.mv (.tmp 5)), .none, []⟩, ⟨(.some 64), (.mv (.tmp 1)), .none, []⟩, ⟨(.some 65), (.idxS 12 (.tmp 62) (.tmp 63)), .none, []⟩, ⟨(.some 66), (.fieldA 7 (.tmp 65)), .none, []⟩, ⟨.none, (.storeV [(0, false)] 1 (.tmp 66) (.tmp 64)), .none, []⟩]) (.seq (.ops [⟨(.some 67), (.mv (.tmp 1)), .none, []⟩, ⟨(.some 68), (.pu (.n (.ar .add)) [(.tmp 67), (.const (.int .i64 1))]), .none, []⟩, ⟨(.some 1), (.mv (.tmp 68)), .none, []⟩]) (.seq (.ops [⟨(.some 69), (.mv (.tmp 0)), .none, []⟩, ⟨(.some 70), (.mv (.tmp 5)), .none, []⟩, ⟨(.some 71), (.mv (.tmp 1)), .none, []⟩, ⟨(.some 72), (.idxS 12 (.tmp 69) (.tmp 70)), .none, []⟩, ⟨(.some 73), (.fieldA 8 (.tmp 72)), .none, []⟩, ⟨(.some 74), (.fieldA 0 (.tmp 73)), .none, []⟩, ⟨.none, (.storeV [(0, false)] 1 (.tmp 74) (.tmp 71)), .none, []⟩]) (.seq (.ops [⟨(.some 75), (.mv (.tmp 1)), .none, []⟩, ⟨(.some 76), (.pu (.n (.ar .add)) [(.tmp 75), (.const (.int .i64 1))]), .none, []⟩, ⟨(.some 1), (.mv (.tmp 76)), .none, []⟩]) (.seq (.ops [⟨(.some 77), (.mv (.tmp 0)), .none, []⟩, ⟨(.some 78), (.mv (.tmp 5)), .none, []⟩, ⟨(.some 79), (.mv (.tmp 1)), .none, []⟩, ⟨(.some 80), (.idxS 12 (.tmp 77) (.tmp 78)), .none, []⟩, ⟨(.some 81), (.fieldA 8 (.tmp 80)), .none, []⟩, ⟨(.some 82), (.fieldA 1 (.tmp 81)), .none, []⟩, ⟨.none, (.storeV [(0, false)] 1 (.tmp 82) (.tmp 79)), .none, []⟩]) (.seq (.ops [⟨(.some 83), (.mv (.tmp 1)), .none, []⟩, ⟨(.some 84), (.pu (.n (.ar .add)) [(.tmp 83), (.const (.int .i64 1))]), .none, []⟩, ⟨(.some 1), (.mv (.tmp 84)), .none, []⟩]) (.seq (.ops [⟨(.some 85), (.mv (.tmp 0)), .none, []⟩, ⟨(.some 86), (.mv (.tmp 5)), .none, []⟩, ⟨(.some 87), (.mv (.tmp 1)), .none, []⟩, ⟨(.some 88), (.call (2 * f_laws_markText) [(.tmp 87)]), .none, []⟩, ⟨(.some 89), (.idxS 12 (.tmp 85) (.tmp 86)), .none, []⟩, ⟨(.some 90), (.fieldA 10 (.tmp 89)), .none, []⟩, ⟨.none, (.storeV [(0, false)] 1 (.tmp 90) (.tmp 88)), .none, []⟩]) (.seq (.ops [⟨(.some 91), (.mv (.tmp 1)), .none, []⟩, ⟨(.some 92), (.pu (.n (.ar .add)) [(.tmp 91), (.const (.int .i64 1))]), .none, []⟩, ⟨(.some 1), (.mv (.tmp 92)), .none, []⟩]) (.seq (.ops [⟨(.some 93), (.mv (.tmp 0)), .none, []⟩, ⟨(.some 94), (.mv (.tmp 5)), .none, []⟩, ⟨(.some 95), (.mv (.tmp 1)), .none, []⟩, ⟨(.some 96), (.call (2 * f_laws_markText) [(.tmp 95)]), .none, []⟩, ⟨(.some 97), (.idxS 12 (.tmp 93) (.tmp 94)), .none, []⟩, ⟨(.some 98), (.fieldA 11 (.tmp 97)), .none, []⟩, ⟨.none, (.storeV [(0, false)] 1 (.tmp 98) (.tmp 96)), .none, []⟩]) (.ops [⟨(.some 99), (.mv (.tmp 1)), .none, []⟩, ⟨(.some 100), (.pu (.n (.ar .add)) [(.tmp 99), (.const (.int .i64 1))]), .none, []⟩, ⟨(.some 1), (.mv (.tmp 100)), .none, []⟩])))))))))))))))))))))))) (.ops [⟨(.some 10), (.mv (.tmp 5)), .none, []⟩, ⟨(.some 11), (.pu (.n (.ar .add)) [(.tmp 10), (.const (.int .i64 1))]), .none, []⟩, ⟨(.some 5), (.mv (.tmp 11)), .none, []⟩])))))) (.seq (.ops [⟨(.some 101), (.mv (.tmp 1)), .none, []⟩, ⟨(.some 4), (.mv (.tmp 101)), .none, []⟩]) .ret))), [(.tmp 4)]⟩
def i_laws_markOpS (lo hi : Nat) (pv : V) (h : Heap) (b : T2 Int (List TOp)) (v : V) (h2 : Heap) : Prop := KeepI lo hi h h2 ∧ v = .i (.s (.int .i64 b.a)) ∧ NestV h2 lo hi pv b.b
def k_laws_markOpS (F : Fun) : Prop := ∀ (x0 : List TOp) (x1 : Int) (b : T2 Int (List TOp)), p_laws_markOpS x0 x1 = some b → ∀ (lo hi : Nat) (v : V) (h : Heap), NestV h lo hi v x0 → ∃ p, F none [v, .i (.s (.int .i64 x1))] h = some p ∧ i_laws_markOpS lo hi v h b p.1 p.2
def MkI (hh : Heap) (lo hi b : Nat) (gs : List Nat) (x0 : List TOp) (h : Heap) (s1 : List TOp) : Prop := KeepI lo hi hh h ∧ s1.length ≤ x0.length ∧ Nest h lo hi b gs (s1 ++ x0.drop s1.length)
set_option maxHeartbeats 10000000 in
theorem w_laws_markOpS {P : Program} {env : Env} {f_laws_markIntS f_laws_markText : Nat} (ep_laws_markText : env (2 * f_laws_markText) = pureFn true (FA fun a : Int => p_laws_markText a)) (e_laws_markIntS : k_laws_markIntS (env (2 * f_laws_markIntS + 1)))
    (x0 : List TOp) (x1 : Int) {b : T2 Int (List TOp)} (hp : p_laws_markOpS x0 x1 = some b) (lo hi : Nat) (pv : V) (hh : Heap) (pf0 : NestV hh lo hi pv x0) : R P env (c_laws_markOpS f_laws_markIntS f_laws_markText) [pv, .i (.s (.int .i64 x1))] hh (i_laws_markOpS lo hi pv hh b) := by
  refine R_of (by simp [c_laws_markOpS, encA]) ?_
  unfold c_laws_markOpS
  unfold p_laws_markOpS at hp
  obtain ⟨qb, qs, rfl, hN0⟩ := pf0
  obtain ⟨ee0, hee0, hp⟩ := bind_eq hp
  simp (maxSteps := 2000000) (disch := first | omega | (simp only [ls]; first | done | omega)) only [ep_laws_markText, gx, Int.reduceToNat]
  refine W_loopP 0 (fun (s1, k) t h => t 0 = .hsl qb (x0.length * 12) 0 12 true x0.length ∧ t 1 = .i (.s (.int .i64 k)) ∧ t 5 = .i (.s (.int .i64 (s1.length : Int))) ∧ MkI hh lo hi qb qs x0 h s1) (RK [.tmp 4] (i_laws_markOpS lo hi (.hsl qb (x0.length * Pic.z TOp) 0 (Pic.z TOp) true x0.length) hh)) ?_ hee0 ?_ ?_
  · rintro ⟨s1, k⟩ ee tt0 hh0 ⟨f0, f1, f2, f3⟩ hp
    rw [p_laws_markOpS_l0] at hp
    by_cases hb3 : s1.length < x0.length
    · rw [if_pos hb3] at hp
      obtain ⟨v4, hv4, hp⟩ := bind_eq hp
      obtain ⟨v5, hv5, hp⟩ := bind_eq hp
      split at hp
      case isFalse => cases hp
      rename_i hw0
      have hb4 : decide ((s1.length : Int) < (x0.length : Int)) = true := by simpa using hb3
      have hp := Option.some.inj hp
      subst hp
      unfold p_laws_markOpS_r at hv5
      obtain ⟨r, hr, hv5⟩ := bind_eq hv5
      obtain ⟨w1, hw1, hv5⟩ := bind_eq hv5
      obtain ⟨w2, hw2, hv5⟩ := bind_eq hv5
      have hv5 := Option.some.inj hv5
      subst hv5
      have g4 := get_some hv4
      rw [Int.toNat_natCast] at g4
      obtain ⟨hK, hle, hN⟩ := f3
      have hd : x0.drop s1.length = v4 :: x0.drop (s1.length + 1) := by
        rw [List.drop_eq_getElem_cons hb3]
        congr 1
        have := g4.2.2
        rw [List.getElem?_eq_getElem hb3] at this
        exact Option.some.inj this
      rw [hd] at hN
      obtain ⟨A, B, g, hA, hB, hrow, hkid, hg1, hg2, hgb, hb1, hb2, htop, hclose⟩ := nest_open hN
      have hn12 : (s1.length + ((x0.drop (s1.length + 1)).length + 1)) * Pic.z TOp = x0.length * 12 := by rw [z_TOp, List.length_drop]; congr 1; omega
      rw [hn12] at hrow hclose
      rw [z_TOp] at hA hB
      simp only [rowN, List.cons_append, List.nil_append, kid, iN, iS] at hrow hclose hkid
      have hlr := getCells_len hrow
      have hnn : (0:Int) ≤ (s1.length : Int) := by omega
      have hbl := gc_lt hrow
      have hAl : A.length + (B.length + 1 + 1 + 1 + 1 + 1 + 1 + 1 + 1 + 1 + 1 + 1 + 1) = x0.length * 12 := by rw [List.length_drop] at hB; omega
      simp (maxSteps := 2000000) (disch := first | omega | (simp only [ls]; first | done | omega)) only [ep_laws_markText, hv4, hb4, hb3, hAl, hbl, f0, f1, f2, hrow, hlr, hnn, Int.toNat_natCast, take_at hA, take_at0 hA, drop_at hA, drop_at0 hA, drop_at2 hA, take_at2 hA, drop_at3 hA, gx, Int.reduceToNat]
      refine call_f (fun h => getCells h qb (x0.length * 12) = some (A ++ V.i (I.s (Value.int IntKind.i64 k)) :: V.i (I.s (Value.int IntKind.i64 (w64 (k + 1)))) :: V.i (I.s (Value.int IntKind.i64 (w64 (w64 (k + 1) + 1)))) :: V.hsl g v4.deps.counts.length 0 1 false v4.deps.counts.length :: V.i (I.s (Value.int IntKind.i64 v4.kind)) :: V.i (I.s (Value.int IntKind.i64 v4.obj)) :: V.i (I.s (Value.int IntKind.i64 v4.n)) :: V.i (I.s (Value.int IntKind.i64 v4.undo)) :: V.i (I.s (Value.int IntKind.i64 v4.at_.time)) :: V.i (I.s (Value.int IntKind.i64 v4.at_.actor)) :: V.i (I.s (Value.string v4.key)) :: V.i (I.s (Value.string v4.text)) :: B) ∧ getCells h g v4.deps.counts.length = some (rows v4.deps.counts) ∧ Keep [qb, g] hh0 h) (fun h v h2 => i_laws_markIntS g v4.deps.counts.length h r v h2) ?_ ?_ ?_
      · exact ⟨by simp (maxSteps := 2000000) (disch := first | omega | (simp only [ls]; first | done | omega)) only [hrow, hlr, hAl, hbl, gx, Int.reduceToNat], by simp (maxSteps := 2000000) (disch := first | omega | (simp only [ls]; first | done | omega)) only [hkid, hgb, gx, Int.reduceToNat], keep_set (.inl (by simp)) (keep_set (.inl (by simp)) (keep_set (.inl (by simp)) keep_refl))⟩
      · rintro h ⟨c0, c1, c2⟩
        exact e_laws_markIntS _ _ _ hr g v4.deps.counts.length h rfl c1
      · rintro hc v hh1 ⟨c0, c1, c2⟩ hpost
        obtain ⟨kk, rfl, w⟩ := hpost
        have d0 := (keep_get kk (gc_lt c0) (by simp; omega)).trans c0
        have hbl1 := gc_lt d0
        have lr := len_rows w
        rw [show Pic.z Int = 1 from rfl, Nat.mul_one] at lr
        have hw : w64 ((s1.length : Int) + 1) = (s1.length : Int) + 1 := wrap_s (by omega) (by omega)
        have hlr1 := getCells_len d0
        simp (maxSteps := 2000000) (disch := first | omega | (simp only [ls]; first | done | omega)) only [ep_laws_markText, hw1, hw2, hv4, hb4, hb3, hAl, hbl1, f0, f1, f2, d0, hlr1, hnn, hw, Int.toNat_natCast, Int.natCast_add, take_at hA, take_at0 hA, drop_at hA, drop_at0 hA, drop_at2 hA, take_at2 hA, drop_at3 hA, gx, Int.reduceToNat]
        simp only [List.set_set]
        have hk2 := fun s => keep_set (s := s) (b := qb) (.inl (by simp)) (keep_trans c2 kk (by intro b hb; simp at hb; left; simp [hb]))
        refine ⟨⟨Nat.le_trans hK.len (hk2 _).len, fun c hc hn => ((hk2 _).at_ c (Nat.lt_of_lt_of_le hc hK.len) (by simp; omega)).trans (hK.at_ c hc hn)⟩, by simp; omega, ?_⟩
        rw [List.length_append, List.length_singleton, List.append_assoc, List.singleton_append]
        refine hclose _ _ (hk2 _).len (fun c h1 h2 h3 => (hk2 _).at_ c h1 (by simp [h2, h3])) ?_ ?_
        · rw [set_cells d0]
          · simp only [rowN, List.cons_append, List.nil_append, iN, iS, ← lr]
          · simp only [List.length_append, List.length_cons]
            omega
        · rw [getCells_congr (List.getElem?_set_ne (Ne.symm hgb))]
          simp only [kid, ← lr]
          exact w
    · rw [if_neg hb3] at hp
      have hb4 : decide ((s1.length : Int) < (x0.length : Int)) = false := by simpa using hb3
      have hp := Option.some.inj hp
      subst hp
      simp (maxSteps := 2000000) (disch := first | omega | (simp only [ls]; first | done | omega)) only [hb4, f0, f1, f2, f3, gx, Int.reduceToNat]
  · have : MkI hh lo hi qb qs x0 hh [] := ⟨keepI_refl, Nat.zero_le _, by simpa using hN0⟩
    simp (maxSteps := 2000000) (disch := first | omega | (simp only [ls]; first | done | omega)) only [this, gx, Int.reduceToNat]
  · intro x tt1 hh1 hx
    rcases ee0 with ⟨o8, k8⟩ | r
    · obtain ⟨rfl, f0, f1, f2, hK, hle, hN⟩ := hx
      dsimp only at hp
      have hp := Option.some.inj hp
      subst hp
      have hq : x0.length ≤ o8.length := loopP_outQ (Q := fun o : List TOp × Int => x0.length ≤ o.1.length) hee0 (fun s o h => by
        obtain ⟨s1, s2⟩ := s
        rw [p_laws_markOpS_l0] at h
        split at h
        · obtain ⟨_, _, h⟩ := bind_eq h
          obtain ⟨_, _, h⟩ := bind_eq h
          split at h <;> cases h
        · cases h
          dsimp only
          omega)
      have he : x0.length = o8.length := by omega
      rw [List.drop_eq_nil_of_le hq, List.append_nil] at hN
      have hd : i_laws_markOpS lo hi (.hsl qb (x0.length * 12) 0 12 true x0.length) hh ⟨k8, o8⟩ (.i (.s (.int .i64 k8))) hh1 := ⟨hK, rfl, qb, qs, by rw [he, z_TOp], hN⟩
      rw [z_TOp]
      simp (maxSteps := 2000000) (disch := first | omega | (simp only [ls]; first | done | omega)) only [f0, f1, f2, hd, gx, Int.reduceToNat]
    · obtain ⟨rfl, hx⟩ := hx
      dsimp only at hp
      cases hp
      simp only [seqK_ret, blockK_ret, retK_RK, hx, and_self, true_and]
theorem ko_laws_markOpS {P : Program} {env : Env} {f_laws_markIntS f_laws_markText : Nat} (ep_laws_markText : env (2 * f_laws_markText) = pureFn true (FA fun a : Int => p_laws_markText a)) (e_laws_markIntS : k_laws_markIntS (env (2 * f_laws_markIntS + 1))) : k_laws_markOpS (runIn P env (c_laws_markOpS f_laws_markIntS f_laws_markText)) := by
  intro x0 x1 b hp lo hi v h a0
  exact w_laws_markOpS ep_laws_markText e_laws_markIntS x0 x1 hp lo hi v h a0
end

end Go.AM
