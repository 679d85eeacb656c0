/- Plain functions of LogAt and their walks. No condition. -/
import Derived.Test.YtiabacjkejkbgaaLabGLogAta
set_option linter.unusedVariables false
set_option linter.unusedSimpArgs false
set_option maxRecDepth 20000
namespace Go.AM
open Pic (enc dec dec_enc dec_sub)
open PicA (encA decA decA_encA decA_sub)
noncomputable def p_laws_markVector (x0 : TVec) (x1 : Int) : Option (T2 Int TVec) :=
  (p_laws_markIntS x0.counts x1).bind fun v0 =>
  some ⟨v0.a, (TVec.mk v0.b)⟩
def c_laws_markVector (f_laws_markIntS : Nat) : AFn := ⟨10, (.seq (.ops [⟨(.some 2), (.box (.tmp 0)), .none, []⟩, ⟨(.some 4), (.mv (.const (.int .i64 0))), .none, []⟩]) (.seq (.ops [⟨(.some 5), (.fieldA 0 (.tmp 2)), .none, []⟩, ⟨(.some 6), (.load 1 false (.tmp 5)), .none, []⟩, ⟨(.some 7), (.mv (.tmp 1)), .none, []⟩, ⟨(.some 8), (.call (2 * f_laws_markIntS + 1) [(.tmp 6), (.tmp 7)]), .none, []⟩, ⟨(.some 1), (.mv (.tmp 8)), .none, []⟩]) (.seq (.ops [⟨(.some 9), (.mv (.tmp 1)), .none, []⟩, ⟨(.some 4), (.mv (.tmp 9)), .none, []⟩]) .ret))), [(.tmp 4)]⟩
def i_laws_markVector (pb0 pn0 : Nat) (h : Heap) (b : T2 Int TVec) (v : V) (h2 : Heap) : Prop := Keep [pb0] h h2 ∧ v = .i (.s (.int .i64 b.a)) ∧ getCells h2 pb0 pn0 = some (rows b.b.counts)
def k_laws_markVector (F : Fun) : Prop := ∀ (x0 : TVec) (x1 : Int) (b : T2 Int TVec), p_laws_markVector x0 x1 = some b → ∀ (pb0 pn0 : Nat) (h : Heap), pn0 = (x0.counts).length → getCells h pb0 pn0 = some (rows x0.counts) → ∃ p, F none [.agg [.hsl pb0 pn0 0 1 false pn0], .i (.s (.int .i64 x1))] h = some p ∧ i_laws_markVector pb0 pn0 h b p.1 p.2
set_option maxHeartbeats 10000000 in
theorem w_laws_markVector {P : Program} {env : Env} {f_laws_markIntS : Nat}  (e_laws_markIntS : k_laws_markIntS (env (2 * f_laws_markIntS + 1))) (x0 : TVec) (x1 : Int) {b : T2 Int TVec} (hp : p_laws_markVector x0 x1 = some b) (pb0 pn0 : Nat) (hh : Heap) (pm0 : pn0 = (x0.counts).length) (pf0 : getCells hh pb0 pn0 = some (rows x0.counts)) : R P env (c_laws_markVector f_laws_markIntS) [.agg [.hsl pb0 pn0 0 1 false pn0], .i (.s (.int .i64 x1))] hh (i_laws_markVector pb0 pn0 hh b) := by
  have pl0 := gc_lt pf0
  have pg0 : getCells hh pb0 x0.counts.length = some (rows x0.counts) := by rw [← pm0]; exact pf0
  refine R_of (by simp [c_laws_markVector, encA]) ?_
  unfold c_laws_markVector
  unfold p_laws_markVector at hp
  obtain ⟨v0, hv0, hp⟩ := bind_eq hp
  simp (maxSteps := 2000000) (disch := first | omega | (simp only [ls]; first | done | omega)) only [pf0, pg0, gx, Int.reduceToNat]
  refine call_f (fun h => getCells h pb0 pn0 = some (rows (x0.counts : List Int)) ∧ pb0 < h.length ∧ getCells h hh.length 1 = some [.hsl pb0 pn0 0 1 false pn0] ∧ hh.length < h.length ∧ Keep [pb0] hh h) (fun h v h2 => i_laws_markIntS pb0 pn0 h v0 v h2) ?_ ?_ ?_
  · simp (maxSteps := 2000000) (disch := first | omega | (simp only [ls]; first | done | omega)) only [i_laws_markVector, pf0, pg0, hv0, gx, Int.reduceToNat] <;> (repeat (first | omega | assumption | rfl | exact keep_refl | refine keep_app ?_ | (refine keep_set (by first | (left; simp; done) | (right; simp; omega)) ?_) | refine And.intro ?_ ?_))
  · rintro h ⟨c0_0, c0_1, c0_2, c0_3, c0_4⟩
    exact e_laws_markIntS _ _ _ hv0 pb0 pn0 h (by first | omega | rfl) c0_0
  · rintro hc0 v hh0 ⟨c0_0, c0_1, c0_2, c0_3, c0_4⟩ hpost
    obtain ⟨kk0, rfl, w0_0⟩ := hpost
    have d0_0 : getCells hh0 pb0 pn0 = some (rows (v0.b : List Int)) := w0_0
    have mm0_0 := len_rows w0_0
    simp only [zs] at mm0_0
    have d0_0l := keep_lt kk0 c0_1
    have d0_1 : getCells hh0 hh.length 1 = some [.hsl pb0 pn0 0 1 false pn0] := (keep_get kk0 c0_3 (by first | (simp; done) | (simp; omega))).trans c0_2
    have d0_1l := keep_lt kk0 c0_3
    have kp0 : Keep [pb0] hh hh0 := keep_trans c0_4 kk0 (by intro b hb; first | (simp at hb; done) | (simp at hb ⊢; omega))
    have hp := Option.some.inj hp
    subst hp
    simp (maxSteps := 2000000) (disch := first | omega | (simp only [ls]; first | done | omega)) only [i_laws_markVector, pf0, pg0, hv0, d0_0, d0_1, gx, Int.reduceToNat] <;> (repeat (first | omega | assumption | rfl | exact keep_refl | refine keep_app ?_ | (refine keep_set (by first | (left; simp; done) | (right; simp; omega)) ?_) | refine And.intro ?_ ?_))
theorem ko_laws_markVector {P : Program} {env : Env} {f_laws_markIntS : Nat}  (e_laws_markIntS : k_laws_markIntS (env (2 * f_laws_markIntS + 1))) : k_laws_markVector (runIn P env (c_laws_markVector f_laws_markIntS)) := by
  intro x0 x1 b hp pb0 pn0 h a0 a1
  exact w_laws_markVector e_laws_markIntS x0 x1 hp pb0 pn0 h a0 a1

noncomputable def p_laws_heldIntS_l0 (x0 : List Int) : Int × Int → Option (Lp (Int × Int) Int)
  | (s0, s1) =>
    if (decide (s1 < (x0.length : Int))) = true then
      (get? x0 s1).bind fun v3 =>
      if (decide (v3 = s0)) = true then
        some (.go (w64 (s0 + 1), w64 (s1 + 1)))
      else
        some (.ret (-1))
    else
      some (.out (s0, s1))
noncomputable def p_laws_heldIntS (x0 : List Int) (x1 : Int) : Option Int :=
  (loopP (p_laws_heldIntS_l0 x0) (x1, 0)).bind fun ee0 => match ee0 with
  | .ret r => some r
  | .out (o5, o6) =>
    some o5
def c_laws_heldIntS : AFn := ⟨21, (.seq (.ops [⟨(.some 4), (.mv (.const (.int .i64 0))), .none, []⟩]) (.seq (.seq (.ops [⟨(.some 5), (.mv (.const (.int .i64 0))), .none, []⟩]) (.block 0 (.loop (.seq (.seq (.ops [⟨(.some 6), (.mv (.tmp 5)), .none, []⟩, ⟨(.some 7), (.mv (.tmp 0)), .none, []⟩, ⟨(.some 8), (.len (.tmp 7)), .none, []⟩, ⟨(.some 9), (.pu (.n (.ar .lss)) [(.tmp 6), (.tmp 8)]), .none, []⟩]) (.cond (.tmp 9) .skip (.exit 0))) (.seq (.block 1 (.seq (.seq (.ops [⟨(.some 12), (.mv (.tmp 0)), .none, []⟩, ⟨(.some 13), (.mv (.tmp 5)), .none, []⟩, ⟨(.some 14), (.idxS 1 (.tmp 12) (.tmp 13)), .none, []⟩, ⟨(.some 15), (.load 1 false (.tmp 14)), .none, []⟩, ⟨(.some 16), (.mv (.tmp 1)), .none, []⟩, ⟨(.some 17), (.pu (.n (.ar .neq)) [(.tmp 15), (.tmp 16)]), .none, []⟩]) (.cond (.tmp 17) (.seq (.ops [⟨(.some 4), (.mv (.const (.int .i64 (-1)))), .none, []⟩]) .ret) .skip)) (.ops [⟨(.some 18), (.mv (.tmp 1)), .none, []⟩, ⟨(.some 19), (.pu (.n (.ar .add)) [(.tmp 18), (.const (.int .i64 1))]), .none, []⟩, ⟨(.some 1), (.mv (.tmp 19)), .none, []⟩]))) (.ops [⟨(.some 10), (.mv (.tmp 5)), .none, []⟩, ⟨(.some 11), (.pu (.n (.ar .add)) [(.tmp 10), (.const (.int .i64 1))]), .none, []⟩, ⟨(.some 5), (.mv (.tmp 11)), .none, []⟩])))))) (.seq (.ops [⟨(.some 20), (.mv (.tmp 1)), .none, []⟩, ⟨(.some 4), (.mv (.tmp 20)), .none, []⟩]) .ret))), [(.tmp 4)]⟩
set_option maxHeartbeats 10000000 in
theorem d_laws_heldIntS {P : Program} {env : Env}  (x0 : List Int) (x1 : Int) {b : Int} (hp : p_laws_heldIntS x0 x1 = some b) : R P env (c_laws_heldIntS) ((encA (x0, x1)).map ofI) [] (Tells true b) := by
  refine R_of (by simp [c_laws_heldIntS, encA]) ?_
  unfold c_laws_heldIntS
  unfold p_laws_heldIntS at hp
  obtain ⟨ee0, hee0, hp⟩ := bind_eq hp
  simp (maxSteps := 2000000) (disch := first | omega | (simp only [ls]; first | done | omega)) only [gx, Int.reduceToNat]
  refine W_loopP 0 (fun s t h => match s with | (s0, s1) => t 0 = .i (.sl 1 (x0.map enc)) ∧ t 1 = .i (.s (.int .i64 s0)) ∧ t 5 = .i (.s (.int .i64 s1))) (RK [.tmp 4] (Tells true)) ?_ hee0 ?_ ?_
  · rintro ⟨s0, s1⟩ ee tt0 hh0 ⟨ftt0_0, ftt0_1, ftt0_2⟩ hp
    rw [p_laws_heldIntS_l0] at hp
    by_cases hb2 : (decide (s1 < (x0.length : Int))) = true
    · rw [if_t hb2] at hp
      obtain ⟨v3, hv3, hp⟩ := bind_eq hp
      by_cases hb4 : (decide (v3 = s0)) = true
      · rw [if_t hb4] at hp
        have hp := Option.some.inj hp
        subst hp
        simp (maxSteps := 2000000) (disch := first | omega | (simp only [ls]; first | done | omega)) only [ftt0_0, ftt0_1, ftt0_2, hb2, hv3, hb4, gx, Int.reduceToNat] <;> omega
      · replace hb4 := eq_false_of_ne_true hb4
        rw [if_f hb4] at hp
        have hp := Option.some.inj hp
        subst hp
        simp (maxSteps := 2000000) (disch := first | omega | (simp only [ls]; first | done | omega)) only [ftt0_0, ftt0_1, ftt0_2, hb2, hv3, hb4, gx, Int.reduceToNat]
    · replace hb2 := eq_false_of_ne_true hb2
      rw [if_f hb2] at hp
      have hp := Option.some.inj hp
      subst hp
      simp (maxSteps := 2000000) (disch := first | omega | (simp only [ls]; first | done | omega)) only [ftt0_0, ftt0_1, ftt0_2, hb2, gx, Int.reduceToNat] <;> omega
  · simp (maxSteps := 2000000) (disch := first | omega | (simp only [ls]; first | done | omega)) only [gx, Int.reduceToNat] <;> omega
  · intro x tt1 hh1 hx
    rcases ee0 with ⟨o5, o6⟩ | r
    · obtain ⟨rfl, ftt1_0, ftt1_1, ftt1_2⟩ := hx
      dsimp only at hp
      have hp := Option.some.inj hp
      subst hp
      simp (maxSteps := 2000000) (disch := first | omega | (simp only [ls]; first | done | omega)) only [ftt1_0, ftt1_1, ftt1_2, gx, Int.reduceToNat]
    · obtain ⟨rfl, hx⟩ := hx
      dsimp only at hp
      cases hp
      simp only [seqK_ret, blockK_ret, retK_RK (K := Tells true), hx, and_self, true_and]

noncomputable def p_laws_heldOpS_l0 (x0 : List TOp) : Int × Int → Option (Lp (Int × Int) Int)
  | (s0, s1) =>
    if (decide (s1 < (x0.length : Int))) = true then
      (get? x0 s1).bind fun v3 =>
      if (decide (v3.actor = s0)) = true then
        if (decide (v3.seq = w64 (s0 + 1))) = true then
          if (decide (v3.time = w64 ((w64 (s0 + 1)) + 1))) = true then
            (p_laws_heldIntS v3.deps.counts (w64 ((w64 ((w64 (s0 + 1)) + 1)) + 1))).bind fun v7 =>
            if (decide (v7 < 0)) = true then
              some (.ret (-1))
            else
              if (decide (v3.kind = v7)) = true then
                if (decide (v3.obj = w64 (v7 + 1))) = true then
                  if (decide (v3.n = w64 ((w64 (v7 + 1)) + 1))) = true then
                    if (decide (v3.undo = w64 ((w64 ((w64 (v7 + 1)) + 1)) + 1))) = true then
                      if (decide (v3.at_.time = w64 ((w64 ((w64 ((w64 (v7 + 1)) + 1)) + 1)) + 1))) = true then
                        if (decide (v3.at_.actor = w64 ((w64 ((w64 ((w64 ((w64 (v7 + 1)) + 1)) + 1)) + 1)) + 1))) = true then
                          (p_laws_markText (w64 ((w64 ((w64 ((w64 ((w64 ((w64 (v7 + 1)) + 1)) + 1)) + 1)) + 1)) + 1))).bind fun v15 =>
                          if (decide (v3.key = v15)) = true then
                            (p_laws_markText (w64 ((w64 ((w64 ((w64 ((w64 ((w64 ((w64 (v7 + 1)) + 1)) + 1)) + 1)) + 1)) + 1)) + 1))).bind fun v17 =>
                            if (decide (v3.text = v17)) = true then
                              some (.go (w64 ((w64 ((w64 ((w64 ((w64 ((w64 ((w64 ((w64 (v7 + 1)) + 1)) + 1)) + 1)) + 1)) + 1)) + 1)) + 1), w64 (s1 + 1)))
                            else
                              some (.ret (-1))
                          else
                            some (.ret (-1))
                        else
                          some (.ret (-1))
                      else
                        some (.ret (-1))
                    else
                      some (.ret (-1))
                  else
                    some (.ret (-1))
                else
                  some (.ret (-1))
              else
                some (.ret (-1))
          else
            some (.ret (-1))
        else
          some (.ret (-1))
      else
        some (.ret (-1))
    else
      some (.out (s0, s1))
noncomputable def p_laws_heldOpS (x0 : List TOp) (x1 : Int) : Option Int :=
  (loopP (p_laws_heldOpS_l0 x0) (x1, 0)).bind fun ee0 => match ee0 with
  | .ret r => some r
  | .out (o19, o20) =>
    some o19
def c_laws_heldOpS (f_laws_heldIntS : Nat) (f_laws_markText : Nat) : AFn := ⟨126, (.seq (.ops [⟨(.some 4), (.mv (.const (.int .i64 0))), .none, []⟩]) (.seq (.seq (.ops [⟨(.some 5), (.mv (.const (.int .i64 0))), .none, []⟩]) (.block 0 (.loop (.seq (.seq (.ops [⟨(.some 6), (.mv (.tmp 5)), .none, []⟩, ⟨(.some 7), (.mv (.tmp 0)), .none, []⟩, ⟨(.some 8), (.len (.tmp 7)), .none, []⟩, ⟨(.some 9), (.pu (.n (.ar .lss)) [(.tmp 6), (.tmp 8)]), .none, []⟩]) (.cond (.tmp 9) .skip (.exit 0))) (.seq (.block 1 (.seq (.seq (.ops [⟨(.some 12), (.mv (.tmp 0)), .none, []⟩, ⟨(.some 13), (.mv (.tmp 5)), .none, []⟩, ⟨(.some 14), (.idxS 12 (.tmp 12) (.tmp 13)), .none, []⟩, ⟨(.some 15), (.fieldA 0 (.tmp 14)), .none, []⟩, ⟨(.some 16), (.load 1 false (.tmp 15)), .none, []⟩, ⟨(.some 17), (.mv (.tmp 1)), .none, []⟩, ⟨(.some 18), (.pu (.n (.ar .neq)) [(.tmp 16), (.tmp 17)]), .none, []⟩]) (.cond (.tmp 18) (.seq (.ops [⟨(.some 4), (.mv (.const (.int .i64 (-1)))), .none, []⟩]) .ret) .skip)) (.seq (.ops [⟨(.some 19), (.mv (.tmp 1)), .none, []⟩, ⟨(.some 20), (.pu (.n (.ar .add)) [(.tmp 19), (.const (.int .i64 1))]), .none, []⟩, ⟨(.some 1), (.mv (.tmp 20)), .none, []⟩]) (.seq (.seq (.ops [⟨(.some 21), (.mv (.tmp 0)), .none, []⟩, ⟨(.some 22), (.mv (.tmp 5)), .none, []⟩, ⟨(.some 23), (.idxS 12 (.tmp 21) (.tmp 22)), .none, []⟩, ⟨(.some 24), (.fieldA 1 (.tmp 23)), .none, []⟩, ⟨(.some 25), (.load 1 false (.tmp 24)), .none, []⟩, ⟨(.some 26), (.mv (.tmp 1)), .none, []⟩, ⟨(.some 27), (.pu (.n (.ar .neq)) [(.tmp 25), (.tmp 26)]), .none, []⟩]) (.cond (.tmp 27) (.seq (.ops [⟨(.some 4), (.mv (.const (.int .i64 (-1)))), .none, []⟩]) .ret) .skip)) (.seq (.ops [⟨(.some 28), (.mv (.tmp 1)), .none, []⟩, ⟨(.some 29), (.pu (.n (.ar .add)) [(.tmp 28), (.const (.int .i64 1))]), .none, []⟩, ⟨(.some 1), (.mv (.tmp 29)), .none, []⟩]) (.seq (.seq (.ops [⟨(.some 30), (.mv (.tmp 0)), .none, []⟩, ⟨(.some 31), (.mv (.tmp 5)), .none, []⟩, ⟨(.some 32), (.idxS 12 (.tmp 30) (.tmp 31)), .none, []⟩, ⟨(.some 33), (.fieldA 2 (.tmp 32)), .none, []⟩, ⟨(.some 34), (.load 1 false (.tmp 33)), .none, []⟩, ⟨(.some 35), (.mv (.tmp 1)), .none, []⟩, ⟨(.some 36), (.pu (.n (.ar .neq)) [(.tmp 34), (.tmp 35)]), .none, []⟩]) (.cond (.tmp 36) (.seq (.ops [⟨(.some 4), (.mv (.const (.int .i64 (-1)))), .none, []⟩]) .ret) .skip)) (.seq (.ops [⟨(.some 37), (.mv (.tmp 1)), .none, []⟩, ⟨(.some 38), (.pu (.n (.ar .add)) [(.tmp 37), (.const (.int .i64 1))]), .none, []⟩, ⟨(.some 1), (.mv (.tmp 38)), .none, []⟩]) (.seq (.ops [⟨(.some 39), (.mv (.tmp 0)), .none, []⟩, ⟨(.some 40), (.mv (.tmp 5)), .none, []⟩, ⟨(.some 41), (.idxS 12 (.tmp 39) (.tmp 40)), .none, []⟩, ⟨(.some 42), (.fieldA 3 (.tmp 41)), .none, []⟩, ⟨(.some 43), (.fieldA 0 (.tmp 42)), .none, []⟩, ⟨(.some 44), (.load 1 false (.tmp 43)), .none, []⟩, ⟨(.some 45), (.mv (.tmp 1)), .none, []⟩, ⟨(.some 46), (.call (2 * f_laws_heldIntS) [(.tmp 44), (.tmp 45)]), .none, []⟩, ⟨(.some 1), (.mv (.tmp 46)), .none, []⟩]) (.seq (.seq (.ops [⟨(.some 47), (.mv (.tmp 1)), .none, []⟩, ⟨(.some 48), (.pu (.n (.ar .lss)) [(.tmp 47), (.const (.int .i64 0))]), .none, []⟩]) (.cond (.tmp 48) (.seq (.ops [⟨(.some 4), (.mv (.const (.int .i64 (-1)))), .none, []⟩]) .ret) .skip)) (.seq (.seq (.ops [⟨(.some 49), (.mv (.tmp 0)), .none, []⟩, ⟨(.some 50), (.mv (.tmp 5)), .none, []⟩, ⟨(.some 51), (.idxS 12 (.tmp 49) (.tmp 50)), .none, []⟩, ⟨(.some 52), (.fieldA 4 (.tmp 51)), .none, []⟩, ⟨(.some 53), (.load 1 false (.tmp 52)), .none, []⟩, ⟨(.some 54), (.mv (.tmp 1)), .none, []⟩, ⟨(.some 55), (.pu (.n (.ar .neq)) [(.tmp 53), (.tmp 54)]), .none, []⟩]) (.cond (.tmp 55) (.seq (.ops [⟨(.some 4), (.mv (.const (.int .i64 (-1)))), .none, []⟩]) .ret) .skip)) (.seq (.ops [⟨(.some 56), (.mv (.tmp 1)), .none, []⟩, ⟨(.some 57), (.pu (.n (.ar .add)) [(.tmp 56), (.const (.int .i64 1))]), .none, []⟩, ⟨(.some 1), (.mv (.tmp 57)), .none, []⟩]) (.seq (.seq (.ops [⟨(.some 58), (.mv (.tmp 0)), .none, []⟩, ⟨(.some 59), (.mv (.tmp 5)), .none, []⟩, ⟨(.some 60), (.idxS 12 (.tmp 58) (.tmp 59)), .none, []⟩, ⟨(.some 61), (.fieldA 5 (.tmp 60)), .none, []⟩, ⟨(.some 62), (.load 1 false (.tmp 61)), .none, []⟩, ⟨(.some 63), (.mv (.tmp 1)), .none, []⟩, ⟨(.some 64), (.pu (.n (.ar .neq)) [(.tmp 62), (.tmp 63)]), .none, []⟩]) (.cond (.tmp 64) (.seq (.ops [⟨(.some 4), (.mv (.const (.int .i64 (-1)))), .none, []⟩]) .ret) .skip)) (.seq (.ops [⟨(.some 65), (.mv (.tmp 1)), .none, []⟩, ⟨(.some 66), (.pu (.n (.ar .add)) [(.tmp 65), (.const (.int .i64 1))]), .none, []⟩, ⟨(.some 1), (.mv (.tmp 66)), .none, []⟩]) (.seq (.seq (.ops [⟨(.some 67), (.mv (.tmp 0)), .none, []⟩, ⟨(.some 68), (.mv (.tmp 5)), .none, []⟩, ⟨(.some 69), (.idxS 12 (.tmp 67) (.tmp 68)), .none, []⟩, ⟨(.some 70), (.fieldA 6 (.tmp 69)), .none, []⟩, ⟨(.some 71), (.load 1 false (.tmp 70)), .none, []⟩, ⟨(.some 72), (.mv (.tmp 1)), .none, []⟩, ⟨(.some 73), (.pu (.n (.ar .neq)) [(.tmp 71), (.tmp 72)]), .none, []⟩]) (.cond (.tmp 73) (.seq (.ops [⟨(.some 4), (.mv (.const (.int .i64 (-1)))), .none, []⟩]) .ret) .skip)) (.seq (.ops [⟨(.some 74), (.mv (.tmp 1)), .none, []⟩, ⟨(.some 75), (.pu (.n (.ar .add)) [(.tmp 74), (.const (.int .i64 1))]), .none, []⟩, ⟨(.some 1), (.mv (.tmp 75)), .none, []⟩]) (.seq (.seq (.ops [⟨(.some 76), (.mv (.tmp 0)), .none, []⟩, ⟨(.some 77), (.mv (.tmp 5)), .none, []⟩, ⟨(.some 78), (.idxS 12 (.tmp 76) (.tmp 77)), .none, []⟩, ⟨(.some 79), (.fieldA 7 (.tmp 78)), .none, []⟩, ⟨(.some 80), (.load 1 false (.tmp 79)), .none, []⟩, ⟨(.some 81), (.mv (.tmp 1)), .none, []⟩, ⟨(.some 82), (.pu (.n (.ar .neq)) [(.tmp 80), (.tmp 81)]), .none, []⟩]) (.cond (.tmp 82) (.seq (.ops [⟨(.some 4), (.mv (.const (.int .i64 (-1)))), .none, []⟩]) .ret) .skip)) (.seq (.ops [⟨(.some 83), (.mv (.tmp 1)), .none, []⟩, ⟨(.some 84), (.pu (.n (.ar .add)) [(.tmp 83), (.const (.int .i64 1))]), .none, []⟩, ⟨(.some 1), (.mv (.tmp 84)), .none, []⟩]) (.seq (.seq (.ops [⟨(.some 85), (.mv (.tmp 0)), .none, []⟩, ⟨(.some 86), (.mv (.tmp 5)), .none, []⟩, ⟨(.some 87), (.idxS 12 (.tmp 85) (.tmp 86)), .none, []⟩, ⟨(.some 88), (.fieldA 8 (.tmp 87)), .none, []⟩, ⟨(.some 89), (.fieldA 0 (.tmp 88)), .none, []⟩, ⟨(.some 90), (.load 1 false (.tmp 89)), .none, []⟩, ⟨(.some 91), (.mv (.tmp 1)), .none, []⟩, ⟨(.some 92), (.pu (.n (.ar .neq)) [(.tmp 90), (.tmp 91)]), .none, []⟩]) (.cond (.tmp 92) (.seq (.ops [⟨(.some 4), (.mv (.const (.int .i64 (-1)))), .none, []⟩]) .ret) .skip)) (.seq (.ops [⟨(.some 93), (.mv (.tmp 1)), .none, []⟩, ⟨(.some 94), (.pu (.n (.ar .add)) [(.tmp 93), (.const (.int .i64 1))]), .none, []⟩, ⟨(.some 1), (.mv (.tmp 94)), .none, []⟩]) (.seq (.seq (.ops [⟨(.some 95), (.mv (.tmp 0)), .none, []⟩, ⟨(.some 96), (.mv (.tmp 5)), .none, []⟩, ⟨(.some 97), (.idxS 12 (.tmp 95) (.tmp 96)), .none, []⟩, ⟨(.some 98), (.fieldA 8 (.tmp 97)), .none, []⟩, ⟨(.some 99), (.fieldA 1 (.tmp 98)), .none, []⟩, ⟨(.some 100), (.load 1 false (.tmp 99)), .none, []⟩, ⟨(.some 101), (.mv (.tmp 1)), .none, []⟩, ⟨(.some 102), (.pu (.n (.ar .neq)) [(.tmp 100), (.tmp 101)]), .none, []⟩]) (.cond (.tmp 102) (.seq (.ops [⟨(.some 4), (.mv (.const (.int .i64 (-1)))), .none, []⟩]) .ret) .skip)) (.seq (.ops [⟨(.some 103), (.mv (.tmp 1)), .none, []⟩, ⟨(.some 104), (.pu (.n (.ar .add)) [(.tmp 103), (.const (.int .i64 1))]), .none, []⟩, ⟨(.some 1), (.mv (.tmp 104)), .none, []⟩]) (.seq (.seq (.ops [⟨(.some 105), (.mv (.tmp 0)), .none, []⟩, ⟨(.some 106), (.mv (.tmp 5)), .none, []⟩, ⟨(.some 107), (.idxS 12 (.tmp 105) (.tmp 106)), .none, []⟩, ⟨(.some 108), (.fieldA 10 (.tmp 107)), .none, []⟩, ⟨(.some 109), (.load 1 false (.tmp 108)), .none, []⟩, ⟨(.some 110), (.mv (.tmp 1)), .none, []⟩, ⟨(.some 111), (.call (2 * f_laws_markText) [(.tmp 110)]), .none, []⟩, ⟨(.some 112), (.pu (.n (.ar .neq)) [(.tmp 109), (.tmp 111)]), .none, []⟩]) (.cond (.tmp 112) (.seq (.ops [⟨(.some 4), (.mv (.const (.int .i64 (-1)))), .none, []⟩]) .ret) .skip)) (.seq (.ops [⟨(.some 113), (.mv (.tmp 1)), .none, []⟩, ⟨(.some 114), (.pu (.n (.ar .add)) [(.tmp 113), (.const (.int .i64 1))]), .none, []⟩, ⟨(.some 1), (.mv (.tmp 114)), .none, []⟩]) (.seq (.seq (.ops [⟨(.some 115), (.mv (.tmp 0)), .none, []⟩, ⟨(.some 116), (.mv (.tmp 5)), .none, []⟩, ⟨(.some 117), (.idxS 12 (.tmp 115) (.tmp 116)), .none, []⟩, ⟨(.some 118), (.fieldA 11 (.tmp 117)), .none, []⟩, ⟨(.some 119), (.load 1 false (.tmp 118)), .none, []⟩, ⟨(.some 120), (.mv (.tmp 1)), .none, []⟩, ⟨(.some 121), (.call (2 * f_laws_markText) [(.tmp 120)]), .none, []⟩, ⟨(.some 122), (.pu (.n (.ar .neq)) [(.tmp 119), (.tmp 121)]), .none, []⟩]) (.cond (.tmp 122) (.seq (.ops [⟨(.some 4), (.mv (.const (.int .i64 (-1)))), .none, []⟩]) .ret) .skip)) (.ops [⟨(.some 123), (.mv (.tmp 1)), .none, []⟩, ⟨(.some 124), (.pu (.n (.ar .add)) [(.tmp 123), (.const (.int .i64 1))]), .none, []⟩, ⟨(.some 1), (.mv (.tmp 124)), .none, []⟩]))))))))))))))))))))))))) (.ops [⟨(.some 10), (.mv (.tmp 5)), .none, []⟩, ⟨(.some 11), (.pu (.n (.ar .add)) [(.tmp 10), (.const (.int .i64 1))]), .none, []⟩, ⟨(.some 5), (.mv (.tmp 11)), .none, []⟩])))))) (.seq (.ops [⟨(.some 125), (.mv (.tmp 1)), .none, []⟩, ⟨(.some 4), (.mv (.tmp 125)), .none, []⟩]) .ret))), [(.tmp 4)]⟩
set_option maxHeartbeats 10000000 in
theorem d_laws_heldOpS {P : Program} {env : Env} {f_laws_heldIntS : Nat} {f_laws_markText : Nat}  (ep_laws_heldIntS : env (2 * f_laws_heldIntS) = pureFn true (FA fun a : List Int × Int => p_laws_heldIntS a.1 a.2)) (ep_laws_markText : env (2 * f_laws_markText) = pureFn true (FA fun a : Int => p_laws_markText a)) (x0 : List TOp) (x1 : Int) {b : Int} (hp : p_laws_heldOpS x0 x1 = some b) : R P env (c_laws_heldOpS f_laws_heldIntS f_laws_markText) ((encA (x0, x1)).map ofI) [] (Tells true b) := by
  refine R_of (by simp [c_laws_heldOpS, encA]) ?_
  unfold c_laws_heldOpS
  unfold p_laws_heldOpS at hp
  obtain ⟨ee0, hee0, hp⟩ := bind_eq hp
  simp (maxSteps := 2000000) (disch := first | omega | (simp only [ls]; first | done | omega)) only [ep_laws_heldIntS, ep_laws_markText, gx, Int.reduceToNat]
  refine W_loopP 0 (fun s t h => match s with | (s0, s1) => t 0 = .i (.sl 12 (x0.map enc)) ∧ t 1 = .i (.s (.int .i64 s0)) ∧ t 5 = .i (.s (.int .i64 s1))) (RK [.tmp 4] (Tells true)) ?_ hee0 ?_ ?_
  · rintro ⟨s0, s1⟩ ee tt0 hh0 ⟨ftt0_0, ftt0_1, ftt0_2⟩ hp
    rw [p_laws_heldOpS_l0] at hp
    by_cases hb2 : (decide (s1 < (x0.length : Int))) = true
    · rw [if_t hb2] at hp
      obtain ⟨v3, hv3, hp⟩ := bind_eq hp
      by_cases hb4 : (decide (v3.actor = s0)) = true
      · rw [if_t hb4] at hp
        by_cases hb5 : (decide (v3.seq = w64 (s0 + 1))) = true
        · rw [if_t hb5] at hp
          by_cases hb6 : (decide (v3.time = w64 ((w64 (s0 + 1)) + 1))) = true
          · rw [if_t hb6] at hp
            obtain ⟨v7, hv7, hp⟩ := bind_eq hp
            by_cases hb8 : (decide (v7 < 0)) = true
            · rw [if_t hb8] at hp
              have hp := Option.some.inj hp
              subst hp
              simp (maxSteps := 2000000) (disch := first | omega | (simp only [ls]; first | done | omega)) only [ep_laws_heldIntS, ep_laws_markText, ftt0_0, ftt0_1, ftt0_2, hb2, hv3, hb4, hb5, hb6, hv7, hb8, gx, Int.reduceToNat]
            · replace hb8 := eq_false_of_ne_true hb8
              rw [if_f hb8] at hp
              by_cases hb9 : (decide (v3.kind = v7)) = true
              · rw [if_t hb9] at hp
                by_cases hb10 : (decide (v3.obj = w64 (v7 + 1))) = true
                · rw [if_t hb10] at hp
                  by_cases hb11 : (decide (v3.n = w64 ((w64 (v7 + 1)) + 1))) = true
                  · rw [if_t hb11] at hp
                    by_cases hb12 : (decide (v3.undo = w64 ((w64 ((w64 (v7 + 1)) + 1)) + 1))) = true
                    · rw [if_t hb12] at hp
                      by_cases hb13 : (decide (v3.at_.time = w64 ((w64 ((w64 ((w64 (v7 + 1)) + 1)) + 1)) + 1))) = true
                      · rw [if_t hb13] at hp
                        by_cases hb14 : (decide (v3.at_.actor = w64 ((w64 ((w64 ((w64 ((w64 (v7 + 1)) + 1)) + 1)) + 1)) + 1))) = true
                        · rw [if_t hb14] at hp
                          obtain ⟨v15, hv15, hp⟩ := bind_eq hp
                          by_cases hb16 : (decide (v3.key = v15)) = true
                          · rw [if_t hb16] at hp
                            obtain ⟨v17, hv17, hp⟩ := bind_eq hp
                            by_cases hb18 : (decide (v3.text = v17)) = true
                            · rw [if_t hb18] at hp
                              have hp := Option.some.inj hp
                              subst hp
                              simp (maxSteps := 2000000) (disch := first | omega | (simp only [ls]; first | done | omega)) only [ep_laws_heldIntS, ep_laws_markText, ftt0_0, ftt0_1, ftt0_2, hb2, hv3, hb4, hb5, hb6, hv7, hb8, hb9, hb10, hb11, hb12, hb13, hb14, hv15, hb16, hv17, hb18, gx, Int.reduceToNat] <;> omega
                            · replace hb18 := eq_false_of_ne_true hb18
                              rw [if_f hb18] at hp
                              have hp := Option.some.inj hp
                              subst hp
                              simp (maxSteps := 2000000) (disch := first | omega | (simp only [ls]; first | done | omega)) only [ep_laws_heldIntS, ep_laws_markText, ftt0_0, ftt0_1, ftt0_2, hb2, hv3, hb4, hb5, hb6, hv7, hb8, hb9, hb10, hb11, hb12, hb13, hb14, hv15, hb16, hv17, hb18, gx, Int.reduceToNat]
                          · replace hb16 := eq_false_of_ne_true hb16
                            rw [if_f hb16] at hp
                            have hp := Option.some.inj hp
                            subst hp
                            simp (maxSteps := 2000000) (disch := first | omega | (simp only [ls]; first | done | omega)) only [ep_laws_heldIntS, ep_laws_markText, ftt0_0, ftt0_1, ftt0_2, hb2, hv3, hb4, hb5, hb6, hv7, hb8, hb9, hb10, hb11, hb12, hb13, hb14, hv15, hb16, gx, Int.reduceToNat]
                        · replace hb14 := eq_false_of_ne_true hb14
                          rw [if_f hb14] at hp
                          have hp := Option.some.inj hp
                          subst hp
                          simp (maxSteps := 2000000) (disch := first | omega | (simp only [ls]; first | done | omega)) only [ep_laws_heldIntS, ep_laws_markText, ftt0_0, ftt0_1, ftt0_2, hb2, hv3, hb4, hb5, hb6, hv7, hb8, hb9, hb10, hb11, hb12, hb13, hb14, gx, Int.reduceToNat]
                      · replace hb13 := eq_false_of_ne_true hb13
                        rw [if_f hb13] at hp
                        have hp := Option.some.inj hp
                        subst hp
                        simp (maxSteps := 2000000) (disch := first | omega | (simp only [ls]; first | done | omega)) only [ep_laws_heldIntS, ep_laws_markText, ftt0_0, ftt0_1, ftt0_2, hb2, hv3, hb4, hb5, hb6, hv7, hb8, hb9, hb10, hb11, hb12, hb13, gx, Int.reduceToNat]
                    · replace hb12 := eq_false_of_ne_true hb12
                      rw [if_f hb12] at hp
                      have hp := Option.some.inj hp
                      subst hp
                      simp (maxSteps := 2000000) (disch := first | omega | (simp only [ls]; first | done | omega)) only [ep_laws_heldIntS, ep_laws_markText, ftt0_0, ftt0_1, ftt0_2, hb2, hv3, hb4, hb5, hb6, hv7, hb8, hb9, hb10, hb11, hb12, gx, Int.reduceToNat]
                  · replace hb11 := eq_false_of_ne_true hb11
                    rw [if_f hb11] at hp
                    have hp := Option.some.inj hp
                    subst hp
                    simp (maxSteps := 2000000) (disch := first | omega | (simp only [ls]; first | done | omega)) only [ep_laws_heldIntS, ep_laws_markText, ftt0_0, ftt0_1, ftt0_2, hb2, hv3, hb4, hb5, hb6, hv7, hb8, hb9, hb10, hb11, gx, Int.reduceToNat]
                · replace hb10 := eq_false_of_ne_true hb10
                  rw [if_f hb10] at hp
                  have hp := Option.some.inj hp
                  subst hp
                  simp (maxSteps := 2000000) (disch := first | omega | (simp only [ls]; first | done | omega)) only [ep_laws_heldIntS, ep_laws_markText, ftt0_0, ftt0_1, ftt0_2, hb2, hv3, hb4, hb5, hb6, hv7, hb8, hb9, hb10, gx, Int.reduceToNat]
              · replace hb9 := eq_false_of_ne_true hb9
                rw [if_f hb9] at hp
                have hp := Option.some.inj hp
                subst hp
                simp (maxSteps := 2000000) (disch := first | omega | (simp only [ls]; first | done | omega)) only [ep_laws_heldIntS, ep_laws_markText, ftt0_0, ftt0_1, ftt0_2, hb2, hv3, hb4, hb5, hb6, hv7, hb8, hb9, gx, Int.reduceToNat]
          · replace hb6 := eq_false_of_ne_true hb6
            rw [if_f hb6] at hp
            have hp := Option.some.inj hp
            subst hp
            simp (maxSteps := 2000000) (disch := first | omega | (simp only [ls]; first | done | omega)) only [ep_laws_heldIntS, ep_laws_markText, ftt0_0, ftt0_1, ftt0_2, hb2, hv3, hb4, hb5, hb6, gx, Int.reduceToNat]
        · replace hb5 := eq_false_of_ne_true hb5
          rw [if_f hb5] at hp
          have hp := Option.some.inj hp
          subst hp
          simp (maxSteps := 2000000) (disch := first | omega | (simp only [ls]; first | done | omega)) only [ep_laws_heldIntS, ep_laws_markText, ftt0_0, ftt0_1, ftt0_2, hb2, hv3, hb4, hb5, gx, Int.reduceToNat]
      · replace hb4 := eq_false_of_ne_true hb4
        rw [if_f hb4] at hp
        have hp := Option.some.inj hp
        subst hp
        simp (maxSteps := 2000000) (disch := first | omega | (simp only [ls]; first | done | omega)) only [ep_laws_heldIntS, ep_laws_markText, ftt0_0, ftt0_1, ftt0_2, hb2, hv3, hb4, gx, Int.reduceToNat]
    · replace hb2 := eq_false_of_ne_true hb2
      rw [if_f hb2] at hp
      have hp := Option.some.inj hp
      subst hp
      simp (maxSteps := 2000000) (disch := first | omega | (simp only [ls]; first | done | omega)) only [ep_laws_heldIntS, ep_laws_markText, ftt0_0, ftt0_1, ftt0_2, hb2, gx, Int.reduceToNat] <;> omega
  · simp (maxSteps := 2000000) (disch := first | omega | (simp only [ls]; first | done | omega)) only [ep_laws_heldIntS, ep_laws_markText, gx, Int.reduceToNat] <;> omega
  · intro x tt1 hh1 hx
    rcases ee0 with ⟨o19, o20⟩ | r
    · obtain ⟨rfl, ftt1_0, ftt1_1, ftt1_2⟩ := hx
      dsimp only at hp
      have hp := Option.some.inj hp
      subst hp
      simp (maxSteps := 2000000) (disch := first | omega | (simp only [ls]; first | done | omega)) only [ep_laws_heldIntS, ep_laws_markText, ftt1_0, ftt1_1, ftt1_2, gx, Int.reduceToNat]
    · obtain ⟨rfl, hx⟩ := hx
      dsimp only at hp
      cases hp
      simp only [seqK_ret, blockK_ret, retK_RK (K := Tells true), hx, and_self, true_and]

noncomputable def p_laws_FnExactLogAt (x0 : List TOp) (x1 : TVec) : Option Bool :=
  (p_laws_szOpS x0 1048576).bind fun v0 =>
  if (decide (v0 < 0)) = true then
    some true
  else
    (p_laws_szVector x1 v0).bind fun v2 =>
    if (decide (v2 < 0)) = true then
      some true
    else
      (p_laws_toOpS x0).bind fun v4 =>
      (p_laws_toVector x1).bind fun v5 =>
      (p_spec_LogAt v4 v5).bind fun v6 =>
      (p_impl_LogAt v4 v5).bind fun v7 =>
      (p_laws_eqOpS v7.a v6.a).bind fun v8 =>
      if (v8) = true then
        if (decide (v7.b = v6.b)) = true then
          (p_laws_eqOpS v4 v4).bind fun v11 =>
          if (v11) = true then
            (p_laws_eqVector v5 v5).bind fun v13 =>
            if (v13) = true then
              (p_laws_markOpS v4 1).bind fun v15 =>
              (p_laws_markVector v5 v15.a).bind fun v16 =>
              if (decide (v16.a < 0)) = true then
                some false
              else
                (p_laws_markOpS v7.a 1).bind fun v18 =>
                (p_laws_heldOpS v18.b 1).bind fun v19 =>
                if (decide (v19 < 0)) = true then
                  some false
                else
                  if (decide (v19 = v18.a)) = true then
                    some true
                  else
                    some false
            else
              some false
          else
            some false
        else
          some false
      else
        some false
def c_laws_FnExactLogAt (f_laws_szOpS : Nat) (f_laws_szVector : Nat) (f_laws_toOpS : Nat) (f_laws_toVector : Nat) (f_spec_LogAt : Nat) (f_impl_LogAt : Nat) (f_laws_eqOpS : Nat) (f_laws_eqVector : Nat) (f_laws_markOpS : Nat) (f_laws_markVector : Nat) (f_laws_heldOpS : Nat) : AFn := ⟨119, (.seq (.ops [⟨(.some 3), (.box (.tmp 1)), .none, []⟩, ⟨(.some 4), (.mv (.const (.bool false))), .none, []⟩]) (.seq (.ops [⟨(.some 5), (.mv (.const (.int .i64 1048576))), .none, []⟩]) (.seq (.ops [⟨(.some 17), (.mv (.tmp 0)), .none, []⟩, ⟨(.some 18), (.mv (.tmp 5)), .none, []⟩, ⟨(.some 19), (.call (2 * f_laws_szOpS) [(.tmp 17), (.tmp 18)]), .none, []⟩, ⟨(.some 5), (.mv (.tmp 19)), .none, []⟩]) (.seq (.seq (.ops [⟨(.some 20), (.mv (.tmp 5)), .none, []⟩, ⟨(.some 21), (.pu (.n (.ar .lss)) [(.tmp 20), (.const (.int .i64 0))]), .none, []⟩]) (.cond (.tmp 21) (.seq (.ops [⟨(.some 4), (.mv (.const (.bool true))), .none, []⟩]) .ret) .skip)) (.seq (.ops [⟨(.some 22), (.load 1 true (.tmp 3)), .none, []⟩, ⟨(.some 23), (.mv (.tmp 5)), .none, []⟩, ⟨(.some 24), (.call (2 * f_laws_szVector) [(.tmp 22), (.tmp 23)]), .none, []⟩, ⟨(.some 5), (.mv (.tmp 24)), .none, []⟩]) (.seq (.seq (.ops [⟨(.some 25), (.mv (.tmp 5)), .none, []⟩, ⟨(.some 26), (.pu (.n (.ar .lss)) [(.tmp 25), (.const (.int .i64 0))]), .none, []⟩]) (.cond (.tmp 26) (.seq (.ops [⟨(.some 4), (.mv (.const (.bool true))), .none, []⟩]) .ret) .skip)) (.seq (.ops [⟨(.some 28), (.mv (.tmp 0)), .none, []⟩, ⟨(.some 29), (.call (2 * f_laws_toOpS) [(.tmp 28)]), .none, []⟩, ⟨(.some 30), (.load 1 true (.tmp 3)), .none, []⟩, ⟨(.some 31), (.call (2 * f_laws_toVector) [(.tmp 30)]), .none, []⟩, ⟨(.some 32), (.call (2 * f_spec_LogAt) [(.tmp 29), (.tmp 31)]), .none, []⟩, ⟨(.some 27), (.mv (.tmp 32)), .none, []⟩, ⟨(.some 33), (.extract 0 (.tmp 27)), .none, []⟩, ⟨(.some 34), (.extract 1 (.tmp 27)), .none, []⟩, ⟨(.some 6), (.mv (.tmp 33)), .none, []⟩, ⟨(.some 7), (.mv (.tmp 34)), .none, []⟩]) (.seq (.ops [⟨(.some 35), (.mv (.tmp 0)), .none, []⟩, ⟨(.some 36), (.call (2 * f_laws_toOpS + 1) [(.tmp 35)]), .none, []⟩, ⟨(.some 8), (.mv (.tmp 36)), .none, []⟩]) (.seq (.ops [⟨(.some 37), (.load 1 true (.tmp 3)), .none, []⟩, ⟨(.some 38), (.call (2 * f_laws_toVector + 1) [(.tmp 37)]), .none, []⟩, ⟨(.some 9), (.allocV [(1, false)] [(.slice .none 0 0)]), .none, []⟩, ⟨.none, (.storeV [(1, false)] 1 (.tmp 9) (.tmp 38)), .none, []⟩]) (.seq (.ops [⟨(.some 40), (.mv (.tmp 8)), .none, []⟩, ⟨(.some 41), (.load 1 true (.tmp 9)), .none, []⟩, ⟨(.some 42), (.call (2 * f_impl_LogAt + 1) [(.tmp 40), (.tmp 41)]), .none, []⟩, ⟨(.some 39), (.mv (.tmp 42)), .none, []⟩, ⟨(.some 43), (.extract 0 (.tmp 39)), .none, []⟩, ⟨(.some 44), (.extract 1 (.tmp 39)), .none, []⟩, ⟨(.some 10), (.mv (.tmp 43)), .none, []⟩, ⟨(.some 11), (.mv (.tmp 44)), .none, []⟩]) (.seq (.seq (.ops [⟨(.some 45), (.mv (.tmp 10)), .none, []⟩, ⟨(.some 46), (.mv (.tmp 6)), .none, []⟩, ⟨(.some 47), (.call (2 * f_laws_eqOpS) [(.tmp 45), (.tmp 46)]), .none, []⟩, ⟨(.some 48), (.pu (.n (.un .not)) [(.tmp 47)]), .none, []⟩, ⟨(.some 49), (.mv (.tmp 48)), .none, []⟩, ⟨(.some 50), (.mv (.tmp 11)), (.some (49, false)), []⟩, ⟨(.some 51), (.mv (.tmp 7)), (.some (49, false)), []⟩, ⟨(.some 52), (.pu (.n (.ar .neq)) [(.tmp 50), (.tmp 51)]), (.some (49, false)), []⟩, ⟨(.some 53), (.pick (.tmp 49) (.const (.bool true)) (.tmp 52)), .none, []⟩]) (.cond (.tmp 53) (.seq (.ops [⟨(.some 4), (.mv (.const (.bool false))), .none, []⟩]) .ret) .skip)) (.seq (.seq (.ops [⟨(.some 54), (.mv (.tmp 8)), .none, []⟩, ⟨(.some 55), (.mv (.tmp 0)), .none, []⟩, ⟨(.some 56), (.call (2 * f_laws_toOpS + 1) [(.tmp 55)]), .none, []⟩, ⟨(.some 57), (.call (2 * f_laws_eqOpS) [(.tmp 54), (.tmp 56)]), .none, []⟩, ⟨(.some 58), (.pu (.n (.un .not)) [(.tmp 57)]), .none, []⟩]) (.cond (.tmp 58) (.seq (.ops [⟨(.some 4), (.mv (.const (.bool false))), .none, []⟩]) .ret) .skip)) (.seq (.seq (.ops [⟨(.some 59), (.load 1 true (.tmp 9)), .none, []⟩, ⟨(.some 60), (.load 1 true (.tmp 3)), .none, []⟩, ⟨(.some 61), (.call (2 * f_laws_toVector) [(.tmp 60)]), .none, []⟩, ⟨(.some 62), (.call (2 * f_laws_eqVector) [(.tmp 59), (.tmp 61)]), .none, []⟩, ⟨(.some 63), (.pu (.n (.un .not)) [(.tmp 62)]), .none, []⟩]) (.cond (.tmp 63) (.seq (.ops [⟨(.some 4), (.mv (.const (.bool false))), .none, []⟩]) .ret) .skip)) (.seq (.ops [⟨(.some 12), (.mv (.const (.int .i64 1))), .none, []⟩]) (.seq (.ops [⟨(.some 64), (.mv (.tmp 8)), .none, []⟩, ⟨(.some 65), (.mv (.tmp 12)), .none, []⟩, ⟨(.some 66), (.call (2 * f_laws_markOpS + 1) [(.tmp 64), (.tmp 65)]), .none, []⟩, ⟨(.some 12), (.mv (.tmp 66)), .none, []⟩]) (.seq (.ops [⟨(.some 67), (.load 1 true (.tmp 9)), .none, []⟩, ⟨(.some 68), (.mv (.tmp 12)), .none, []⟩, ⟨(.some 69), (.call (2 * f_laws_markVector + 1) [(.tmp 67), (.tmp 68)]), .none, []⟩, ⟨(.some 12), (.mv (.tmp 69)), .none, []⟩]) (.seq (.seq (.ops [⟨(.some 70), (.mv (.tmp 12)), .none, []⟩, ⟨(.some 71), (.pu (.n (.ar .lss)) [(.tmp 70), (.const (.int .i64 0))]), .none, []⟩, ⟨(.some 72), (.mv (.tmp 71)), .none, []⟩, ⟨(.some 73), (.mv (.tmp 10)), (.some (72, false)), []⟩, ⟨(.some 74), (.mv (.tmp 6)), (.some (72, false)), []⟩, ⟨(.some 75), (.call (2 * f_laws_eqOpS) [(.tmp 73), (.tmp 74)]), (.some (72, false)), []⟩, ⟨(.some 76), (.pu (.n (.un .not)) [(.tmp 75)]), (.some (72, false)), []⟩, ⟨(.some 77), (.pick (.tmp 72) (.const (.bool true)) (.tmp 76)), .none, []⟩, ⟨(.some 78), (.mv (.tmp 77)), .none, []⟩, ⟨(.some 79), (.mv (.tmp 11)), (.some (78, false)), []⟩, ⟨(.some 80), (.mv (.tmp 7)), (.some (78, false)), []⟩, ⟨(.some 81), (.pu (.n (.ar .neq)) [(.tmp 79), (.tmp 80)]), (.some (78, false)), []⟩, ⟨(.some 82), (.pick (.tmp 78) (.const (.bool true)) (.tmp 81)), .none, []⟩]) (.cond (.tmp 82) (.seq (.ops [⟨(.some 4), (.mv (.const (.bool false))), .none, []⟩]) .ret) .skip)) (.seq (.ops [⟨(.some 13), (.mv (.const (.int .i64 1))), .none, []⟩]) (.seq (.ops [⟨(.some 83), (.mv (.tmp 10)), .none, []⟩, ⟨(.some 84), (.mv (.tmp 13)), .none, []⟩, ⟨(.some 85), (.call (2 * f_laws_markOpS + 1) [(.tmp 83), (.tmp 84)]), .none, []⟩, ⟨(.some 13), (.mv (.tmp 85)), .none, []⟩]) (.seq (.ops [⟨(.some 14), (.mv (.const (.int .i64 1))), .none, []⟩]) (.seq (.ops [⟨(.some 86), (.mv (.tmp 10)), .none, []⟩, ⟨(.some 87), (.mv (.tmp 14)), .none, []⟩, ⟨(.some 88), (.call (2 * f_laws_heldOpS) [(.tmp 86), (.tmp 87)]), .none, []⟩, ⟨(.some 14), (.mv (.tmp 88)), .none, []⟩]) (.seq (.seq (.ops [⟨(.some 89), (.mv (.tmp 14)), .none, []⟩, ⟨(.some 90), (.pu (.n (.ar .lss)) [(.tmp 89), (.const (.int .i64 0))]), .none, []⟩]) (.cond (.tmp 90) (.seq (.ops [⟨(.some 4), (.mv (.const (.bool false))), .none, []⟩]) .ret) .skip)) (.seq (.seq (.ops [⟨(.some 91), (.mv (.tmp 14)), .none, []⟩, ⟨(.some 92), (.mv (.tmp 13)), .none, []⟩, ⟨(.some 93), (.pu (.n (.ar .neq)) [(.tmp 91), (.tmp 92)]), .none, []⟩]) (.cond (.tmp 93) (.seq (.ops [⟨(.some 4), (.mv (.const (.bool false))), .none, []⟩]) .ret) .skip)) (.seq (.ops [⟨(.some 95), (.mv (.tmp 0)), .none, []⟩, ⟨(.some 96), (.call (2 * f_laws_toOpS) [(.tmp 95)]), .none, []⟩, ⟨(.some 97), (.load 1 true (.tmp 3)), .none, []⟩, ⟨(.some 98), (.call (2 * f_laws_toVector) [(.tmp 97)]), .none, []⟩, ⟨(.some 99), (.call (2 * f_impl_LogAt) [(.tmp 96), (.tmp 98)]), .none, []⟩, ⟨(.some 94), (.mv (.tmp 99)), .none, []⟩, ⟨(.some 100), (.extract 0 (.tmp 94)), .none, []⟩, ⟨(.some 101), (.extract 1 (.tmp 94)), .none, []⟩, ⟨(.some 15), (.mv (.tmp 100)), .none, []⟩, ⟨(.some 16), (.mv (.tmp 101)), .none, []⟩]) (.seq (.seq (.ops [⟨(.some 102), (.mv (.tmp 15)), .none, []⟩, ⟨(.some 103), (.mv (.tmp 6)), .none, []⟩, ⟨(.some 104), (.call (2 * f_laws_eqOpS) [(.tmp 102), (.tmp 103)]), .none, []⟩, ⟨(.some 105), (.pu (.n (.un .not)) [(.tmp 104)]), .none, []⟩, ⟨(.some 106), (.mv (.tmp 105)), .none, []⟩, ⟨(.some 107), (.mv (.tmp 16)), (.some (106, false)), []⟩, ⟨(.some 108), (.mv (.tmp 7)), (.some (106, false)), []⟩, ⟨(.some 109), (.pu (.n (.ar .neq)) [(.tmp 107), (.tmp 108)]), (.some (106, false)), []⟩, ⟨(.some 110), (.pick (.tmp 106) (.const (.bool true)) (.tmp 109)), .none, []⟩]) (.cond (.tmp 110) (.seq (.ops [⟨(.some 4), (.mv (.const (.bool false))), .none, []⟩]) .ret) .skip)) (.seq (.ops [⟨(.some 14), (.mv (.const (.int .i64 1))), .none, []⟩]) (.seq (.ops [⟨(.some 111), (.mv (.tmp 10)), .none, []⟩, ⟨(.some 112), (.mv (.tmp 14)), .none, []⟩, ⟨(.some 113), (.call (2 * f_laws_heldOpS) [(.tmp 111), (.tmp 112)]), .none, []⟩, ⟨(.some 14), (.mv (.tmp 113)), .none, []⟩]) (.seq (.seq (.ops [⟨(.some 114), (.mv (.tmp 14)), .none, []⟩, ⟨(.some 115), (.pu (.n (.ar .lss)) [(.tmp 114), (.const (.int .i64 0))]), .none, []⟩]) (.cond (.tmp 115) (.seq (.ops [⟨(.some 4), (.mv (.const (.bool false))), .none, []⟩]) .ret) .skip)) (.seq (.seq (.ops [⟨(.some 116), (.mv (.tmp 14)), .none, []⟩, ⟨(.some 117), (.mv (.tmp 13)), .none, []⟩, ⟨(.some 118), (.pu (.n (.ar .neq)) [(.tmp 116), (.tmp 117)]), .none, []⟩]) (.cond (.tmp 118) (.seq (.ops [⟨(.some 4), (.mv (.const (.bool false))), .none, []⟩]) .ret) .skip)) (.seq (.ops [⟨(.some 4), (.mv (.const (.bool true))), .none, []⟩]) .ret)))))))))))))))))))))))))))))), [(.tmp 4)]⟩
set_option maxHeartbeats 10000000 in
theorem d_laws_FnExactLogAt {P : Program} {env : Env} {f_laws_szOpS : Nat} {f_laws_szVector : Nat} {f_laws_toOpS : Nat} {f_laws_toVector : Nat} {f_spec_LogAt : Nat} {f_impl_LogAt : Nat} {f_laws_eqOpS : Nat} {f_laws_eqVector : Nat} {f_laws_markOpS : Nat} {f_laws_markVector : Nat} {f_laws_heldOpS : Nat}  (ep_laws_szOpS : env (2 * f_laws_szOpS) = pureFn true (FA fun a : List TOp × Int => p_laws_szOpS a.1 a.2)) (ep_laws_szVector : env (2 * f_laws_szVector) = pureFn true (FA fun a : TVec × Int => p_laws_szVector a.1 a.2)) (ep_laws_toOpS : env (2 * f_laws_toOpS) = pureFn false (FA fun a : List TOp => p_laws_toOpS a)) (ep_laws_toVector : env (2 * f_laws_toVector) = pureFn true (FA fun a : TVec => p_laws_toVector a)) (ep_spec_LogAt : env (2 * f_spec_LogAt) = pureFn false (FA fun a : List TOp × TVec => p_spec_LogAt a.1 a.2)) (ep_laws_eqOpS : env (2 * f_laws_eqOpS) = pureFn true (FA fun a : List TOp × List TOp => p_laws_eqOpS a.1 a.2)) (ep_laws_eqVector : env (2 * f_laws_eqVector) = pureFn true (FA fun a : TVec × TVec => p_laws_eqVector a.1 a.2)) (ep_laws_heldOpS : env (2 * f_laws_heldOpS) = pureFn true (FA fun a : List TOp × Int => p_laws_heldOpS a.1 a.2)) (ep_impl_LogAt : env (2 * f_impl_LogAt) = pureFn false (FA fun a : List TOp × TVec => p_impl_LogAt a.1 a.2)) (e_laws_toOpS : k_laws_toOpS (env (2 * f_laws_toOpS + 1))) (e_laws_toVector : k_laws_toVector (env (2 * f_laws_toVector + 1))) (e_impl_LogAt : k_impl_LogAt (env (2 * f_impl_LogAt + 1))) (e_laws_markOpS : k_laws_markOpS (env (2 * f_laws_markOpS + 1))) (e_laws_markVector : k_laws_markVector (env (2 * f_laws_markVector + 1))) (x0 : List TOp) (x1 : TVec) (hp : p_laws_FnExactLogAt x0 x1 = some true) : R P env (c_laws_FnExactLogAt f_laws_szOpS f_laws_szVector f_laws_toOpS f_laws_toVector f_spec_LogAt f_impl_LogAt f_laws_eqOpS f_laws_eqVector f_laws_markOpS f_laws_markVector f_laws_heldOpS) ((encA (x0, x1)).map ofI) [] (fun v _ => v = .i (iB true)) := by
  refine R_of (by simp [c_laws_FnExactLogAt, encA]) ?_
  unfold c_laws_FnExactLogAt
  unfold p_laws_FnExactLogAt at hp
  obtain ⟨v0, hv0, hp⟩ := bind_eq hp
  by_cases hb1 : (decide (v0 < 0)) = true
  · rw [if_t hb1] at hp
    cases hp
    simp (maxSteps := 2000000) (disch := first | omega | (simp only [ls]; first | done | omega)) only [ep_laws_szOpS, ep_laws_szVector, ep_laws_toOpS, ep_laws_toVector, ep_spec_LogAt, ep_laws_eqOpS, ep_laws_eqVector, ep_laws_heldOpS, ep_impl_LogAt, hv0, hb1, gx, Int.reduceToNat]
  · replace hb1 := eq_false_of_ne_true hb1
    rw [if_f hb1] at hp
    obtain ⟨v2, hv2, hp⟩ := bind_eq hp
    by_cases hb3 : (decide (v2 < 0)) = true
    · rw [if_t hb3] at hp
      cases hp
      simp (maxSteps := 2000000) (disch := first | omega | (simp only [ls]; first | done | omega)) only [ep_laws_szOpS, ep_laws_szVector, ep_laws_toOpS, ep_laws_toVector, ep_spec_LogAt, ep_laws_eqOpS, ep_laws_eqVector, ep_laws_heldOpS, ep_impl_LogAt, hv0, hb1, hv2, hb3, gx, Int.reduceToNat]
    · replace hb3 := eq_false_of_ne_true hb3
      rw [if_f hb3] at hp
      obtain ⟨v4, hv4, hp⟩ := bind_eq hp
      obtain ⟨v5, hv5, hp⟩ := bind_eq hp
      obtain ⟨v6, hv6, hp⟩ := bind_eq hp
      simp (maxSteps := 2000000) (disch := first | omega | (simp only [ls]; first | done | omega)) only [ep_laws_szOpS, ep_laws_szVector, ep_laws_toOpS, ep_laws_toVector, ep_spec_LogAt, ep_laws_eqOpS, ep_laws_eqVector, ep_laws_heldOpS, ep_impl_LogAt, hv0, hb1, hv2, hb3, hv4, hv5, hv6, gx, Int.reduceToNat]
      refine call_f (fun h => getCells h 0 1 = some [.i (.sl 1 (x1.counts.map enc))] ∧ 0 < h.length) (fun h v h2 => oo_laws_toOpS v4 h v h2) ?_ ?_ ?_
      · simp (maxSteps := 2000000) (disch := first | omega | (simp only [ls]; first | done | omega)) only [ep_laws_szOpS, ep_laws_szVector, ep_laws_toOpS, ep_laws_toVector, ep_spec_LogAt, ep_laws_eqOpS, ep_laws_eqVector, ep_laws_heldOpS, ep_impl_LogAt, hv0, hb1, hv2, hb3, hv4, hv5, hv6, gx, Int.reduceToNat] <;> (repeat (first | refine And.intro ?_ ?_ | assumption | exact nest_ext (by assumption) | exact nest_wide (by assumption) (Nat.zero_le _) (by first | omega | (simp; omega)) (Nat.le_refl _) | exact nest_wide (nest_ext (by assumption)) (Nat.zero_le _) (by first | omega | (simp; omega)) (Nat.le_refl _) | exact nest_virt (by simp (maxSteps := 2000000) (disch := first | omega | (simp only [ls]; first | done | omega)) only [ep_laws_szOpS, ep_laws_szVector, ep_laws_toOpS, ep_laws_toVector, ep_spec_LogAt, ep_laws_eqOpS, ep_laws_eqVector, ep_laws_heldOpS, ep_impl_LogAt, hv0, hb1, hv2, hb3, hv4, hv5, hv6, gx, Int.reduceToNat]) (by omega) (by first | omega | (simp; done) | (simp; omega)) (by first | omega | (simp; done) | (simp; omega)) | refine nest_ext ?_ | refine nest_set ?_ (by omega) | omega))
      · rintro h ⟨c0_0, c0_1⟩
        exact e_laws_toOpS _ _ hv4 h _ (by simp (maxSteps := 2000000) (disch := first | omega | (simp only [ls]; first | done | omega)) only [ep_laws_szOpS, ep_laws_szVector, ep_laws_toOpS, ep_laws_toVector, ep_spec_LogAt, ep_laws_eqOpS, ep_laws_eqVector, ep_laws_heldOpS, ep_impl_LogAt, hv0, hb1, hv2, hb3, hv4, hv5, hv6, c0_0, c0_1, gx, Int.reduceToNat])
      · rintro hc0 nb0_0 hh0 ⟨c0_0, c0_1⟩ hpost
        obtain ⟨kk0, _, rfl, wnb0_0⟩ := hpost
        have d0_0 : getCells hh0 0 1 = some [.i (.sl 1 (x1.counts.map enc))] := (keep_get kk0 c0_1 (by first | (simp; done) | (simp; omega))).trans c0_0
        have d0_0l := keep_lt kk0 c0_1
        have d0_1 := wnb0_0
        have d0_1l := nest_lt d0_1
        have d0_1s : snap 9 false hh0 nb0_0 = some (.sl 12 (v4.map enc)) := snap_nest (n := 5) d0_1
        have d0_1n : lenS nb0_0 = some v4.length := nest_lenS d0_1
        simp (maxSteps := 2000000) (disch := first | omega | (simp only [ls]; first | done | omega)) only [ep_laws_szOpS, ep_laws_szVector, ep_laws_toOpS, ep_laws_toVector, ep_spec_LogAt, ep_laws_eqOpS, ep_laws_eqVector, ep_laws_heldOpS, ep_impl_LogAt, hv0, hb1, hv2, hb3, hv4, hv5, hv6, d0_0, d0_1, d0_1s, d0_1n, gx, Int.reduceToNat]
        refine call_f (fun h => getCells h 0 1 = some [.i (.sl 1 (x1.counts.map enc))] ∧ 0 < h.length ∧ NestV h hc0.length hh0.length nb0_0 (v4 : List TOp) ∧ hh0.length ≤ h.length) (fun h v h2 => oo_laws_toVector v5 h v h2) ?_ ?_ ?_
        · simp (maxSteps := 2000000) (disch := first | omega | (simp only [ls]; first | done | omega)) only [ep_laws_szOpS, ep_laws_szVector, ep_laws_toOpS, ep_laws_toVector, ep_spec_LogAt, ep_laws_eqOpS, ep_laws_eqVector, ep_laws_heldOpS, ep_impl_LogAt, hv0, hb1, hv2, hb3, hv4, hv5, hv6, d0_0, d0_1, d0_1s, d0_1n, gx, Int.reduceToNat] <;> (repeat (first | refine And.intro ?_ ?_ | assumption | exact nest_ext (by assumption) | exact nest_wide (by assumption) (Nat.zero_le _) (by first | omega | (simp; omega)) (Nat.le_refl _) | exact nest_wide (nest_ext (by assumption)) (Nat.zero_le _) (by first | omega | (simp; omega)) (Nat.le_refl _) | exact nest_virt (by simp (maxSteps := 2000000) (disch := first | omega | (simp only [ls]; first | done | omega)) only [ep_laws_szOpS, ep_laws_szVector, ep_laws_toOpS, ep_laws_toVector, ep_spec_LogAt, ep_laws_eqOpS, ep_laws_eqVector, ep_laws_heldOpS, ep_impl_LogAt, hv0, hb1, hv2, hb3, hv4, hv5, hv6, d0_0, d0_1, d0_1s, d0_1n, gx, Int.reduceToNat]) (by omega) (by first | omega | (simp; done) | (simp; omega)) (by first | omega | (simp; done) | (simp; omega)) | refine nest_ext ?_ | refine nest_set ?_ (by omega) | omega))
        · rintro h ⟨c1_0, c1_1, c1_2, c1_3⟩
          have sc1_1 : snap 9 false h nb0_0 = some (.sl 12 (v4.map enc)) := snap_nest (n := 5) c1_2
          exact e_laws_toVector _ _ hv5 h _ (by simp (maxSteps := 2000000) (disch := first | omega | (simp only [ls]; first | done | omega)) only [ep_laws_szOpS, ep_laws_szVector, ep_laws_toOpS, ep_laws_toVector, ep_spec_LogAt, ep_laws_eqOpS, ep_laws_eqVector, ep_laws_heldOpS, ep_impl_LogAt, hv0, hb1, hv2, hb3, hv4, hv5, hv6, d0_0, d0_1, d0_1s, d0_1n, c1_0, c1_1, c1_2, c1_3, sc1_1, gx, Int.reduceToNat])
        · rintro hc1 v hh1 ⟨c1_0, c1_1, c1_2, c1_3⟩ hpost
          obtain ⟨kk1, nb1_0, rfl, lnb1_0, gnb1_0, wnb1_0⟩ := hpost
          have d1_0 : getCells hh1 0 1 = some [.i (.sl 1 (x1.counts.map enc))] := (keep_get kk1 c1_1 (by first | (simp; done) | (simp; omega))).trans c1_0
          have d1_0l := keep_lt kk1 c1_1
          have d1_1 : NestV hh1 hc0.length hh0.length nb0_0 (v4 : List TOp) := nest_keep c1_2 kk1 (by intro b hb; first | (simp at hb; done) | (simp at hb; omega))
          have d1_1l := nest_lt d1_1
          have d1_1s : snap 9 false hh1 nb0_0 = some (.sl 12 (v4.map enc)) := snap_nest (n := 5) d1_1
          have d1_1n : lenS nb0_0 = some v4.length := nest_lenS d1_1
          have d1_2 := wnb1_0
          obtain ⟨v7, hv7, hp⟩ := bind_eq hp
          simp (maxSteps := 2000000) (disch := first | omega | (simp only [ls]; first | done | omega)) only [ep_laws_szOpS, ep_laws_szVector, ep_laws_toOpS, ep_laws_toVector, ep_spec_LogAt, ep_laws_eqOpS, ep_laws_eqVector, ep_laws_heldOpS, ep_impl_LogAt, hv0, hb1, hv2, hb3, hv4, hv5, hv6, d0_0, d0_1, d0_1s, d0_1n, d1_0, d1_1, d1_1s, d1_1n, d1_2, gx, Int.reduceToNat]
          refine call_f (fun h => getCells h 0 1 = some [.i (.sl 1 (x1.counts.map enc))] ∧ 0 < h.length ∧ NestV h hc0.length hh0.length nb0_0 (v4 : List TOp) ∧ hh0.length ≤ h.length ∧ getCells h nb1_0 v5.counts.length = some (rows (v5.counts : List Int)) ∧ nb1_0 < h.length ∧ getCells h hh1.length 0 = some [] ∧ hh1.length < h.length ∧ getCells h (hh1.length + 1) 1 = some [.hsl nb1_0 v5.counts.length 0 1 false v5.counts.length] ∧ hh1.length + 1 < h.length) (fun h v h2 => oo_impl_LogAt v7 h v h2) ?_ ?_ ?_
          · simp (maxSteps := 2000000) (disch := first | omega | (simp only [ls]; first | done | omega)) only [ep_laws_szOpS, ep_laws_szVector, ep_laws_toOpS, ep_laws_toVector, ep_spec_LogAt, ep_laws_eqOpS, ep_laws_eqVector, ep_laws_heldOpS, ep_impl_LogAt, hv0, hb1, hv2, hb3, hv4, hv5, hv6, d0_0, d0_1, d0_1s, d0_1n, d1_0, d1_1, d1_1s, d1_1n, d1_2, hv7, gx, Int.reduceToNat] <;> (repeat (first | refine And.intro ?_ ?_ | assumption | exact nest_ext (by assumption) | exact nest_wide (by assumption) (Nat.zero_le _) (by first | omega | (simp; omega)) (Nat.le_refl _) | exact nest_wide (nest_ext (by assumption)) (Nat.zero_le _) (by first | omega | (simp; omega)) (Nat.le_refl _) | exact nest_virt (by simp (maxSteps := 2000000) (disch := first | omega | (simp only [ls]; first | done | omega)) only [ep_laws_szOpS, ep_laws_szVector, ep_laws_toOpS, ep_laws_toVector, ep_spec_LogAt, ep_laws_eqOpS, ep_laws_eqVector, ep_laws_heldOpS, ep_impl_LogAt, hv0, hb1, hv2, hb3, hv4, hv5, hv6, d0_0, d0_1, d0_1s, d0_1n, d1_0, d1_1, d1_1s, d1_1n, d1_2, hv7, gx, Int.reduceToNat]) (by omega) (by first | omega | (simp; done) | (simp; omega)) (by first | omega | (simp; done) | (simp; omega)) | refine nest_ext ?_ | refine nest_set ?_ (by omega) | omega))
          · rintro h ⟨c2_0, c2_1, c2_2, c2_3, c2_4, c2_5, c2_6, c2_7, c2_8, c2_9⟩
            have sc2_1 : snap 9 false h nb0_0 = some (.sl 12 (v4.map enc)) := snap_nest (n := 5) c2_2
            exact e_impl_LogAt _ _ _ hv7 h _ (by simp (maxSteps := 2000000) (disch := first | omega | (simp only [ls]; first | done | omega)) only [ep_laws_szOpS, ep_laws_szVector, ep_laws_toOpS, ep_laws_toVector, ep_spec_LogAt, ep_laws_eqOpS, ep_laws_eqVector, ep_laws_heldOpS, ep_impl_LogAt, hv0, hb1, hv2, hb3, hv4, hv5, hv6, d0_0, d0_1, d0_1s, d0_1n, d1_0, d1_1, d1_1s, d1_1n, d1_2, hv7, c2_0, c2_1, c2_2, c2_3, c2_4, c2_5, c2_6, c2_7, c2_8, c2_9, sc2_1, gx, Int.reduceToNat])
          · rintro hc2 v hh2 ⟨c2_0, c2_1, c2_2, c2_3, c2_4, c2_5, c2_6, c2_7, c2_8, c2_9⟩ hpost
            obtain ⟨kk2, nb2_0, rfl, wnb2_0⟩ := hpost
            have d2_0 : getCells hh2 0 1 = some [.i (.sl 1 (x1.counts.map enc))] := (keep_get kk2 c2_1 (by first | (simp; done) | (simp; omega))).trans c2_0
            have d2_0l := keep_lt kk2 c2_1
            have d2_1 : NestV hh2 hc0.length hh0.length nb0_0 (v4 : List TOp) := nest_keep c2_2 kk2 (by intro b hb; first | (simp at hb; done) | (simp at hb; omega))
            have d2_1l := nest_lt d2_1
            have d2_1s : snap 9 false hh2 nb0_0 = some (.sl 12 (v4.map enc)) := snap_nest (n := 5) d2_1
            have d2_1n : lenS nb0_0 = some v4.length := nest_lenS d2_1
            have d2_2 : getCells hh2 nb1_0 v5.counts.length = some (rows (v5.counts : List Int)) := (keep_get kk2 c2_5 (by first | (simp; done) | (simp; omega))).trans c2_4
            have d2_2l := keep_lt kk2 c2_5
            have d2_3 : getCells hh2 hh1.length 0 = some [] := (keep_get kk2 c2_7 (by first | (simp; done) | (simp; omega))).trans c2_6
            have d2_3l := keep_lt kk2 c2_7
            have d2_4 : getCells hh2 (hh1.length + 1) 1 = some [.hsl nb1_0 v5.counts.length 0 1 false v5.counts.length] := (keep_get kk2 c2_9 (by first | (simp; done) | (simp; omega))).trans c2_8
            have d2_4l := keep_lt kk2 c2_9
            have d2_5 := wnb2_0
            have d2_5l := nest_lt d2_5
            have d2_5s : snap 9 false hh2 nb2_0 = some (.sl 12 (v7.a.map enc)) := snap_nest (n := 5) d2_5
            have d2_5n : lenS nb2_0 = some v7.a.length := nest_lenS d2_5
            obtain ⟨v8, hv8, hp⟩ := bind_eq hp
            by_cases hb9 : (v8) = true
            · rw [if_t hb9] at hp
              by_cases hb10 : (decide (v7.b = v6.b)) = true
              · rw [if_t hb10] at hp
                simp (maxSteps := 2000000) (disch := first | omega | (simp only [ls]; first | done | omega)) only [ep_laws_szOpS, ep_laws_szVector, ep_laws_toOpS, ep_laws_toVector, ep_spec_LogAt, ep_laws_eqOpS, ep_laws_eqVector, ep_laws_heldOpS, ep_impl_LogAt, hv0, hb1, hv2, hb3, hv4, hv5, hv6, d0_0, d0_1, d0_1s, d0_1n, d1_0, d1_1, d1_1s, d1_1n, d1_2, hv7, d2_0, d2_1, d2_1s, d2_1n, d2_2, d2_3, d2_4, d2_5, d2_5s, d2_5n, hv8, hb9, hb10, gx, Int.reduceToNat]
                refine call_f (fun h => getCells h 0 1 = some [.i (.sl 1 (x1.counts.map enc))] ∧ 0 < h.length ∧ NestV h hc0.length hh0.length nb0_0 (v4 : List TOp) ∧ hh0.length ≤ h.length ∧ getCells h nb1_0 v5.counts.length = some (rows (v5.counts : List Int)) ∧ nb1_0 < h.length ∧ getCells h hh1.length 0 = some [] ∧ hh1.length < h.length ∧ getCells h (hh1.length + 1) 1 = some [.hsl nb1_0 v5.counts.length 0 1 false v5.counts.length] ∧ hh1.length + 1 < h.length ∧ NestV h hc2.length hh2.length nb2_0 (v7.a : List TOp) ∧ hh2.length ≤ h.length) (fun h v h2 => oo_laws_toOpS v4 h v h2) ?_ ?_ ?_
                · simp (maxSteps := 2000000) (disch := first | omega | (simp only [ls]; first | done | omega)) only [ep_laws_szOpS, ep_laws_szVector, ep_laws_toOpS, ep_laws_toVector, ep_spec_LogAt, ep_laws_eqOpS, ep_laws_eqVector, ep_laws_heldOpS, ep_impl_LogAt, hv0, hb1, hv2, hb3, hv4, hv5, hv6, d0_0, d0_1, d0_1s, d0_1n, d1_0, d1_1, d1_1s, d1_1n, d1_2, hv7, d2_0, d2_1, d2_1s, d2_1n, d2_2, d2_3, d2_4, d2_5, d2_5s, d2_5n, hv8, hb9, hb10, gx, Int.reduceToNat] <;> (repeat (first | refine And.intro ?_ ?_ | assumption | exact nest_ext (by assumption) | exact nest_wide (by assumption) (Nat.zero_le _) (by first | omega | (simp; omega)) (Nat.le_refl _) | exact nest_wide (nest_ext (by assumption)) (Nat.zero_le _) (by first | omega | (simp; omega)) (Nat.le_refl _) | exact nest_virt (by simp (maxSteps := 2000000) (disch := first | omega | (simp only [ls]; first | done | omega)) only [ep_laws_szOpS, ep_laws_szVector, ep_laws_toOpS, ep_laws_toVector, ep_spec_LogAt, ep_laws_eqOpS, ep_laws_eqVector, ep_laws_heldOpS, ep_impl_LogAt, hv0, hb1, hv2, hb3, hv4, hv5, hv6, d0_0, d0_1, d0_1s, d0_1n, d1_0, d1_1, d1_1s, d1_1n, d1_2, hv7, d2_0, d2_1, d2_1s, d2_1n, d2_2, d2_3, d2_4, d2_5, d2_5s, d2_5n, hv8, hb9, hb10, gx, Int.reduceToNat]) (by omega) (by first | omega | (simp; done) | (simp; omega)) (by first | omega | (simp; done) | (simp; omega)) | refine nest_ext ?_ | refine nest_set ?_ (by omega) | omega))
                · rintro h ⟨c3_0, c3_1, c3_2, c3_3, c3_4, c3_5, c3_6, c3_7, c3_8, c3_9, c3_10, c3_11⟩
                  have sc3_1 : snap 9 false h nb0_0 = some (.sl 12 (v4.map enc)) := snap_nest (n := 5) c3_2
                  have sc3_5 : snap 9 false h nb2_0 = some (.sl 12 (v7.a.map enc)) := snap_nest (n := 5) c3_10
                  exact e_laws_toOpS _ _ hv4 h _ (by simp (maxSteps := 2000000) (disch := first | omega | (simp only [ls]; first | done | omega)) only [ep_laws_szOpS, ep_laws_szVector, ep_laws_toOpS, ep_laws_toVector, ep_spec_LogAt, ep_laws_eqOpS, ep_laws_eqVector, ep_laws_heldOpS, ep_impl_LogAt, hv0, hb1, hv2, hb3, hv4, hv5, hv6, d0_0, d0_1, d0_1s, d0_1n, d1_0, d1_1, d1_1s, d1_1n, d1_2, hv7, d2_0, d2_1, d2_1s, d2_1n, d2_2, d2_3, d2_4, d2_5, d2_5s, d2_5n, hv8, hb9, hb10, c3_0, c3_1, c3_2, c3_3, c3_4, c3_5, c3_6, c3_7, c3_8, c3_9, c3_10, c3_11, sc3_1, sc3_5, gx, Int.reduceToNat])
                · rintro hc3 nb3_0 hh3 ⟨c3_0, c3_1, c3_2, c3_3, c3_4, c3_5, c3_6, c3_7, c3_8, c3_9, c3_10, c3_11⟩ hpost
                  obtain ⟨kk3, _, rfl, wnb3_0⟩ := hpost
                  have d3_0 : getCells hh3 0 1 = some [.i (.sl 1 (x1.counts.map enc))] := (keep_get kk3 c3_1 (by first | (simp; done) | (simp; omega))).trans c3_0
                  have d3_0l := keep_lt kk3 c3_1
                  have d3_1 : NestV hh3 hc0.length hh0.length nb0_0 (v4 : List TOp) := nest_keep c3_2 kk3 (by intro b hb; first | (simp at hb; done) | (simp at hb; omega))
                  have d3_1l := nest_lt d3_1
                  have d3_1s : snap 9 false hh3 nb0_0 = some (.sl 12 (v4.map enc)) := snap_nest (n := 5) d3_1
                  have d3_1n : lenS nb0_0 = some v4.length := nest_lenS d3_1
                  have d3_2 : getCells hh3 nb1_0 v5.counts.length = some (rows (v5.counts : List Int)) := (keep_get kk3 c3_5 (by first | (simp; done) | (simp; omega))).trans c3_4
                  have d3_2l := keep_lt kk3 c3_5
                  have d3_3 : getCells hh3 hh1.length 0 = some [] := (keep_get kk3 c3_7 (by first | (simp; done) | (simp; omega))).trans c3_6
                  have d3_3l := keep_lt kk3 c3_7
                  have d3_4 : getCells hh3 (hh1.length + 1) 1 = some [.hsl nb1_0 v5.counts.length 0 1 false v5.counts.length] := (keep_get kk3 c3_9 (by first | (simp; done) | (simp; omega))).trans c3_8
                  have d3_4l := keep_lt kk3 c3_9
                  have d3_5 : NestV hh3 hc2.length hh2.length nb2_0 (v7.a : List TOp) := nest_keep c3_10 kk3 (by intro b hb; first | (simp at hb; done) | (simp at hb; omega))
                  have d3_5l := nest_lt d3_5
                  have d3_5s : snap 9 false hh3 nb2_0 = some (.sl 12 (v7.a.map enc)) := snap_nest (n := 5) d3_5
                  have d3_5n : lenS nb2_0 = some v7.a.length := nest_lenS d3_5
                  have d3_6 := wnb3_0
                  have d3_6l := nest_lt d3_6
                  have d3_6s : snap 9 false hh3 nb3_0 = some (.sl 12 (v4.map enc)) := snap_nest (n := 5) d3_6
                  have d3_6n : lenS nb3_0 = some v4.length := nest_lenS d3_6
                  obtain ⟨v11, hv11, hp⟩ := bind_eq hp
                  by_cases hb12 : (v11) = true
                  · rw [if_t hb12] at hp
                    obtain ⟨v13, hv13, hp⟩ := bind_eq hp
                    by_cases hb14 : (v13) = true
                    · rw [if_t hb14] at hp
                      obtain ⟨v15, hv15, hp⟩ := bind_eq hp
                      simp (maxSteps := 2000000) (disch := first | omega | (simp only [ls]; first | done | omega)) only [ep_laws_szOpS, ep_laws_szVector, ep_laws_toOpS, ep_laws_toVector, ep_spec_LogAt, ep_laws_eqOpS, ep_laws_eqVector, ep_laws_heldOpS, ep_impl_LogAt, hv0, hb1, hv2, hb3, hv4, hv5, hv6, d0_0, d0_1, d0_1s, d0_1n, d1_0, d1_1, d1_1s, d1_1n, d1_2, hv7, d2_0, d2_1, d2_1s, d2_1n, d2_2, d2_3, d2_4, d2_5, d2_5s, d2_5n, hv8, hb9, hb10, d3_0, d3_1, d3_1s, d3_1n, d3_2, d3_3, d3_4, d3_5, d3_5s, d3_5n, d3_6, d3_6s, d3_6n, hv11, hb12, hv13, hb14, gx, Int.reduceToNat]
                      refine call_f (fun h => getCells h 0 1 = some [.i (.sl 1 (x1.counts.map enc))] ∧ 0 < h.length ∧ NestV h hc0.length hh0.length nb0_0 (v4 : List TOp) ∧ hh0.length ≤ h.length ∧ getCells h nb1_0 v5.counts.length = some (rows (v5.counts : List Int)) ∧ nb1_0 < h.length ∧ getCells h hh1.length 0 = some [] ∧ hh1.length < h.length ∧ getCells h (hh1.length + 1) 1 = some [.hsl nb1_0 v5.counts.length 0 1 false v5.counts.length] ∧ hh1.length + 1 < h.length ∧ NestV h hc2.length hh2.length nb2_0 (v7.a : List TOp) ∧ hh2.length ≤ h.length ∧ NestV h hc3.length hh3.length nb3_0 (v4 : List TOp) ∧ hh3.length ≤ h.length) (fun h v h2 => i_laws_markOpS hc0.length hh0.length nb0_0 h v15 v h2) ?_ ?_ ?_
                      · simp (maxSteps := 2000000) (disch := first | omega | (simp only [ls]; first | done | omega)) only [ep_laws_szOpS, ep_laws_szVector, ep_laws_toOpS, ep_laws_toVector, ep_spec_LogAt, ep_laws_eqOpS, ep_laws_eqVector, ep_laws_heldOpS, ep_impl_LogAt, hv0, hb1, hv2, hb3, hv4, hv5, hv6, d0_0, d0_1, d0_1s, d0_1n, d1_0, d1_1, d1_1s, d1_1n, d1_2, hv7, d2_0, d2_1, d2_1s, d2_1n, d2_2, d2_3, d2_4, d2_5, d2_5s, d2_5n, hv8, hb9, hb10, d3_0, d3_1, d3_1s, d3_1n, d3_2, d3_3, d3_4, d3_5, d3_5s, d3_5n, d3_6, d3_6s, d3_6n, hv11, hb12, hv13, hb14, hv15, gx, Int.reduceToNat] <;> (repeat (first | refine And.intro ?_ ?_ | assumption | exact nest_ext (by assumption) | exact nest_wide (by assumption) (Nat.zero_le _) (by first | omega | (simp; omega)) (Nat.le_refl _) | exact nest_wide (nest_ext (by assumption)) (Nat.zero_le _) (by first | omega | (simp; omega)) (Nat.le_refl _) | exact nest_virt (by simp (maxSteps := 2000000) (disch := first | omega | (simp only [ls]; first | done | omega)) only [ep_laws_szOpS, ep_laws_szVector, ep_laws_toOpS, ep_laws_toVector, ep_spec_LogAt, ep_laws_eqOpS, ep_laws_eqVector, ep_laws_heldOpS, ep_impl_LogAt, hv0, hb1, hv2, hb3, hv4, hv5, hv6, d0_0, d0_1, d0_1s, d0_1n, d1_0, d1_1, d1_1s, d1_1n, d1_2, hv7, d2_0, d2_1, d2_1s, d2_1n, d2_2, d2_3, d2_4, d2_5, d2_5s, d2_5n, hv8, hb9, hb10, d3_0, d3_1, d3_1s, d3_1n, d3_2, d3_3, d3_4, d3_5, d3_5s, d3_5n, d3_6, d3_6s, d3_6n, hv11, hb12, hv13, hb14, hv15, gx, Int.reduceToNat]) (by omega) (by first | omega | (simp; done) | (simp; omega)) (by first | omega | (simp; done) | (simp; omega)) | refine nest_ext ?_ | refine nest_set ?_ (by omega) | omega))
                      · rintro h ⟨c4_0, c4_1, c4_2, c4_3, c4_4, c4_5, c4_6, c4_7, c4_8, c4_9, c4_10, c4_11, c4_12, c4_13⟩
                        have sc4_1 : snap 9 false h nb0_0 = some (.sl 12 (v4.map enc)) := snap_nest (n := 5) c4_2
                        have sc4_5 : snap 9 false h nb2_0 = some (.sl 12 (v7.a.map enc)) := snap_nest (n := 5) c4_10
                        have sc4_6 : snap 9 false h nb3_0 = some (.sl 12 (v4.map enc)) := snap_nest (n := 5) c4_12
                        exact e_laws_markOpS _ _ _ hv15 _ _ _ h c4_2
                      · rintro hc4 v hh4 ⟨c4_0, c4_1, c4_2, c4_3, c4_4, c4_5, c4_6, c4_7, c4_8, c4_9, c4_10, c4_11, c4_12, c4_13⟩ hpost
                        obtain ⟨kk4, rfl, w4_0⟩ := hpost
                        have d4_0 : getCells hh4 0 1 = some [.i (.sl 1 (x1.counts.map enc))] := (keepI_get kk4 c4_1 (by omega)).trans c4_0
                        have d4_0l := keepI_lt kk4 c4_1
                        have d4_1 : NestV hh4 hc0.length hh0.length nb0_0 (v15.b : List TOp) := w4_0
                        have d4_1l := nest_lt d4_1
                        have d4_1s : snap 9 false hh4 nb0_0 = some (.sl 12 (v15.b.map enc)) := snap_nest (n := 5) d4_1
                        have d4_1n : lenS nb0_0 = some v15.b.length := nest_lenS d4_1
                        have d4_2 : getCells hh4 nb1_0 v5.counts.length = some (rows (v5.counts : List Int)) := (keepI_get kk4 c4_5 (by omega)).trans c4_4
                        have d4_2l := keepI_lt kk4 c4_5
                        have d4_3 : getCells hh4 hh1.length 0 = some [] := (keepI_get kk4 c4_7 (by omega)).trans c4_6
                        have d4_3l := keepI_lt kk4 c4_7
                        have d4_4 : getCells hh4 (hh1.length + 1) 1 = some [.hsl nb1_0 v5.counts.length 0 1 false v5.counts.length] := (keepI_get kk4 c4_9 (by omega)).trans c4_8
                        have d4_4l := keepI_lt kk4 c4_9
                        have d4_5 : NestV hh4 hc2.length hh2.length nb2_0 (v7.a : List TOp) := nest_keepI c4_10 kk4 (by omega)
                        have d4_5l := nest_lt d4_5
                        have d4_5s : snap 9 false hh4 nb2_0 = some (.sl 12 (v7.a.map enc)) := snap_nest (n := 5) d4_5
                        have d4_5n : lenS nb2_0 = some v7.a.length := nest_lenS d4_5
                        have d4_6 : NestV hh4 hc3.length hh3.length nb3_0 (v4 : List TOp) := nest_keepI c4_12 kk4 (by omega)
                        have d4_6l := nest_lt d4_6
                        have d4_6s : snap 9 false hh4 nb3_0 = some (.sl 12 (v4.map enc)) := snap_nest (n := 5) d4_6
                        have d4_6n : lenS nb3_0 = some v4.length := nest_lenS d4_6
                        obtain ⟨v16, hv16, hp⟩ := bind_eq hp
                        simp (maxSteps := 2000000) (disch := first | omega | (simp only [ls]; first | done | omega)) only [ep_laws_szOpS, ep_laws_szVector, ep_laws_toOpS, ep_laws_toVector, ep_spec_LogAt, ep_laws_eqOpS, ep_laws_eqVector, ep_laws_heldOpS, ep_impl_LogAt, hv0, hb1, hv2, hb3, hv4, hv5, hv6, d0_0, d0_1, d0_1s, d0_1n, d1_0, d1_1, d1_1s, d1_1n, d1_2, hv7, d2_0, d2_1, d2_1s, d2_1n, d2_2, d2_3, d2_4, d2_5, d2_5s, d2_5n, hv8, hb9, hb10, d3_0, d3_1, d3_1s, d3_1n, d3_2, d3_3, d3_4, d3_5, d3_5s, d3_5n, d3_6, d3_6s, d3_6n, hv11, hb12, hv13, hb14, hv15, d4_0, d4_1, d4_1s, d4_1n, d4_2, d4_3, d4_4, d4_5, d4_5s, d4_5n, d4_6, d4_6s, d4_6n, gx, Int.reduceToNat]
                        refine call_f (fun h => getCells h 0 1 = some [.i (.sl 1 (x1.counts.map enc))] ∧ 0 < h.length ∧ NestV h hc0.length hh0.length nb0_0 (v15.b : List TOp) ∧ hh0.length ≤ h.length ∧ getCells h nb1_0 v5.counts.length = some (rows (v5.counts : List Int)) ∧ nb1_0 < h.length ∧ getCells h hh1.length 0 = some [] ∧ hh1.length < h.length ∧ getCells h (hh1.length + 1) 1 = some [.hsl nb1_0 v5.counts.length 0 1 false v5.counts.length] ∧ hh1.length + 1 < h.length ∧ NestV h hc2.length hh2.length nb2_0 (v7.a : List TOp) ∧ hh2.length ≤ h.length ∧ NestV h hc3.length hh3.length nb3_0 (v4 : List TOp) ∧ hh3.length ≤ h.length) (fun h v h2 => i_laws_markVector nb1_0 v5.counts.length h v16 v h2) ?_ ?_ ?_
                        · simp (maxSteps := 2000000) (disch := first | omega | (simp only [ls]; first | done | omega)) only [ep_laws_szOpS, ep_laws_szVector, ep_laws_toOpS, ep_laws_toVector, ep_spec_LogAt, ep_laws_eqOpS, ep_laws_eqVector, ep_laws_heldOpS, ep_impl_LogAt, hv0, hb1, hv2, hb3, hv4, hv5, hv6, d0_0, d0_1, d0_1s, d0_1n, d1_0, d1_1, d1_1s, d1_1n, d1_2, hv7, d2_0, d2_1, d2_1s, d2_1n, d2_2, d2_3, d2_4, d2_5, d2_5s, d2_5n, hv8, hb9, hb10, d3_0, d3_1, d3_1s, d3_1n, d3_2, d3_3, d3_4, d3_5, d3_5s, d3_5n, d3_6, d3_6s, d3_6n, hv11, hb12, hv13, hb14, hv15, d4_0, d4_1, d4_1s, d4_1n, d4_2, d4_3, d4_4, d4_5, d4_5s, d4_5n, d4_6, d4_6s, d4_6n, hv16, gx, Int.reduceToNat] <;> (repeat (first | refine And.intro ?_ ?_ | assumption | exact nest_ext (by assumption) | exact nest_wide (by assumption) (Nat.zero_le _) (by first | omega | (simp; omega)) (Nat.le_refl _) | exact nest_wide (nest_ext (by assumption)) (Nat.zero_le _) (by first | omega | (simp; omega)) (Nat.le_refl _) | exact nest_virt (by simp (maxSteps := 2000000) (disch := first | omega | (simp only [ls]; first | done | omega)) only [ep_laws_szOpS, ep_laws_szVector, ep_laws_toOpS, ep_laws_toVector, ep_spec_LogAt, ep_laws_eqOpS, ep_laws_eqVector, ep_laws_heldOpS, ep_impl_LogAt, hv0, hb1, hv2, hb3, hv4, hv5, hv6, d0_0, d0_1, d0_1s, d0_1n, d1_0, d1_1, d1_1s, d1_1n, d1_2, hv7, d2_0, d2_1, d2_1s, d2_1n, d2_2, d2_3, d2_4, d2_5, d2_5s, d2_5n, hv8, hb9, hb10, d3_0, d3_1, d3_1s, d3_1n, d3_2, d3_3, d3_4, d3_5, d3_5s, d3_5n, d3_6, d3_6s, d3_6n, hv11, hb12, hv13, hb14, hv15, d4_0, d4_1, d4_1s, d4_1n, d4_2, d4_3, d4_4, d4_5, d4_5s, d4_5n, d4_6, d4_6s, d4_6n, hv16, gx, Int.reduceToNat]) (by omega) (by first | omega | (simp; done) | (simp; omega)) (by first | omega | (simp; done) | (simp; omega)) | refine nest_ext ?_ | refine nest_set ?_ (by omega) | omega))
                        · rintro h ⟨c5_0, c5_1, c5_2, c5_3, c5_4, c5_5, c5_6, c5_7, c5_8, c5_9, c5_10, c5_11, c5_12, c5_13⟩
                          have sc5_1 : snap 9 false h nb0_0 = some (.sl 12 (v15.b.map enc)) := snap_nest (n := 5) c5_2
                          have sc5_5 : snap 9 false h nb2_0 = some (.sl 12 (v7.a.map enc)) := snap_nest (n := 5) c5_10
                          have sc5_6 : snap 9 false h nb3_0 = some (.sl 12 (v4.map enc)) := snap_nest (n := 5) c5_12
                          exact e_laws_markVector _ _ _ hv16 nb1_0 v5.counts.length h (by first | omega | rfl) c5_4
                        · rintro hc5 v hh5 ⟨c5_0, c5_1, c5_2, c5_3, c5_4, c5_5, c5_6, c5_7, c5_8, c5_9, c5_10, c5_11, c5_12, c5_13⟩ hpost
                          obtain ⟨kk5, rfl, w5_0⟩ := hpost
                          have d5_0 : getCells hh5 0 1 = some [.i (.sl 1 (x1.counts.map enc))] := (keep_get kk5 c5_1 (by first | (simp; done) | (simp; omega))).trans c5_0
                          have d5_0l := keep_lt kk5 c5_1
                          have d5_1 : NestV hh5 hc0.length hh0.length nb0_0 (v15.b : List TOp) := nest_keep c5_2 kk5 (by intro b hb; first | (simp at hb; done) | (simp at hb; omega))
                          have d5_1l := nest_lt d5_1
                          have d5_1s : snap 9 false hh5 nb0_0 = some (.sl 12 (v15.b.map enc)) := snap_nest (n := 5) d5_1
                          have d5_1n : lenS nb0_0 = some v15.b.length := nest_lenS d5_1
                          have d5_2 : getCells hh5 nb1_0 v5.counts.length = some (rows (v16.b.counts : List Int)) := w5_0
                          have mm5_0 := len_rows w5_0
                          simp only [zs] at mm5_0
                          have d5_2l := keep_lt kk5 c5_5
                          have d5_3 : getCells hh5 hh1.length 0 = some [] := (keep_get kk5 c5_7 (by first | (simp; done) | (simp; omega))).trans c5_6
                          have d5_3l := keep_lt kk5 c5_7
                          have d5_4 : getCells hh5 (hh1.length + 1) 1 = some [.hsl nb1_0 v5.counts.length 0 1 false v5.counts.length] := (keep_get kk5 c5_9 (by first | (simp; done) | (simp; omega))).trans c5_8
                          have d5_4l := keep_lt kk5 c5_9
                          have d5_5 : NestV hh5 hc2.length hh2.length nb2_0 (v7.a : List TOp) := nest_keep c5_10 kk5 (by intro b hb; first | (simp at hb; done) | (simp at hb; omega))
                          have d5_5l := nest_lt d5_5
                          have d5_5s : snap 9 false hh5 nb2_0 = some (.sl 12 (v7.a.map enc)) := snap_nest (n := 5) d5_5
                          have d5_5n : lenS nb2_0 = some v7.a.length := nest_lenS d5_5
                          have d5_6 : NestV hh5 hc3.length hh3.length nb3_0 (v4 : List TOp) := nest_keep c5_12 kk5 (by intro b hb; first | (simp at hb; done) | (simp at hb; omega))
                          have d5_6l := nest_lt d5_6
                          have d5_6s : snap 9 false hh5 nb3_0 = some (.sl 12 (v4.map enc)) := snap_nest (n := 5) d5_6
                          have d5_6n : lenS nb3_0 = some v4.length := nest_lenS d5_6
                          by_cases hb17 : (decide (v16.a < 0)) = true
                          · rw [if_t hb17] at hp
                            cases hp
                          · replace hb17 := eq_false_of_ne_true hb17
                            rw [if_f hb17] at hp
                            obtain ⟨v18, hv18, hp⟩ := bind_eq hp
                            simp (maxSteps := 2000000) (disch := first | omega | (simp only [ls]; first | done | omega)) only [ep_laws_szOpS, ep_laws_szVector, ep_laws_toOpS, ep_laws_toVector, ep_spec_LogAt, ep_laws_eqOpS, ep_laws_eqVector, ep_laws_heldOpS, ep_impl_LogAt, hv0, hb1, hv2, hb3, hv4, hv5, hv6, d0_0, d0_1, d0_1s, d0_1n, d1_0, d1_1, d1_1s, d1_1n, d1_2, hv7, d2_0, d2_1, d2_1s, d2_1n, d2_2, d2_3, d2_4, d2_5, d2_5s, d2_5n, hv8, hb9, hb10, d3_0, d3_1, d3_1s, d3_1n, d3_2, d3_3, d3_4, d3_5, d3_5s, d3_5n, d3_6, d3_6s, d3_6n, hv11, hb12, hv13, hb14, hv15, d4_0, d4_1, d4_1s, d4_1n, d4_2, d4_3, d4_4, d4_5, d4_5s, d4_5n, d4_6, d4_6s, d4_6n, hv16, d5_0, d5_1, d5_1s, d5_1n, d5_2, d5_3, d5_4, d5_5, d5_5s, d5_5n, d5_6, d5_6s, d5_6n, hb17, gx, Int.reduceToNat]
                            refine call_f (fun h => getCells h 0 1 = some [.i (.sl 1 (x1.counts.map enc))] ∧ 0 < h.length ∧ NestV h hc0.length hh0.length nb0_0 (v15.b : List TOp) ∧ hh0.length ≤ h.length ∧ getCells h nb1_0 v5.counts.length = some (rows (v16.b.counts : List Int)) ∧ nb1_0 < h.length ∧ getCells h hh1.length 0 = some [] ∧ hh1.length < h.length ∧ getCells h (hh1.length + 1) 1 = some [.hsl nb1_0 v5.counts.length 0 1 false v5.counts.length] ∧ hh1.length + 1 < h.length ∧ NestV h hc2.length hh2.length nb2_0 (v7.a : List TOp) ∧ hh2.length ≤ h.length ∧ NestV h hc3.length hh3.length nb3_0 (v4 : List TOp) ∧ hh3.length ≤ h.length) (fun h v h2 => i_laws_markOpS hc2.length hh2.length nb2_0 h v18 v h2) ?_ ?_ ?_
                            · simp (maxSteps := 2000000) (disch := first | omega | (simp only [ls]; first | done | omega)) only [ep_laws_szOpS, ep_laws_szVector, ep_laws_toOpS, ep_laws_toVector, ep_spec_LogAt, ep_laws_eqOpS, ep_laws_eqVector, ep_laws_heldOpS, ep_impl_LogAt, hv0, hb1, hv2, hb3, hv4, hv5, hv6, d0_0, d0_1, d0_1s, d0_1n, d1_0, d1_1, d1_1s, d1_1n, d1_2, hv7, d2_0, d2_1, d2_1s, d2_1n, d2_2, d2_3, d2_4, d2_5, d2_5s, d2_5n, hv8, hb9, hb10, d3_0, d3_1, d3_1s, d3_1n, d3_2, d3_3, d3_4, d3_5, d3_5s, d3_5n, d3_6, d3_6s, d3_6n, hv11, hb12, hv13, hb14, hv15, d4_0, d4_1, d4_1s, d4_1n, d4_2, d4_3, d4_4, d4_5, d4_5s, d4_5n, d4_6, d4_6s, d4_6n, hv16, d5_0, d5_1, d5_1s, d5_1n, d5_2, d5_3, d5_4, d5_5, d5_5s, d5_5n, d5_6, d5_6s, d5_6n, hb17, hv18, gx, Int.reduceToNat] <;> (repeat (first | refine And.intro ?_ ?_ | assumption | exact nest_ext (by assumption) | exact nest_wide (by assumption) (Nat.zero_le _) (by first | omega | (simp; omega)) (Nat.le_refl _) | exact nest_wide (nest_ext (by assumption)) (Nat.zero_le _) (by first | omega | (simp; omega)) (Nat.le_refl _) | exact nest_virt (by simp (maxSteps := 2000000) (disch := first | omega | (simp only [ls]; first | done | omega)) only [ep_laws_szOpS, ep_laws_szVector, ep_laws_toOpS, ep_laws_toVector, ep_spec_LogAt, ep_laws_eqOpS, ep_laws_eqVector, ep_laws_heldOpS, ep_impl_LogAt, hv0, hb1, hv2, hb3, hv4, hv5, hv6, d0_0, d0_1, d0_1s, d0_1n, d1_0, d1_1, d1_1s, d1_1n, d1_2, hv7, d2_0, d2_1, d2_1s, d2_1n, d2_2, d2_3, d2_4, d2_5, d2_5s, d2_5n, hv8, hb9, hb10, d3_0, d3_1, d3_1s, d3_1n, d3_2, d3_3, d3_4, d3_5, d3_5s, d3_5n, d3_6, d3_6s, d3_6n, hv11, hb12, hv13, hb14, hv15, d4_0, d4_1, d4_1s, d4_1n, d4_2, d4_3, d4_4, d4_5, d4_5s, d4_5n, d4_6, d4_6s, d4_6n, hv16, d5_0, d5_1, d5_1s, d5_1n, d5_2, d5_3, d5_4, d5_5, d5_5s, d5_5n, d5_6, d5_6s, d5_6n, hb17, hv18, gx, Int.reduceToNat]) (by omega) (by first | omega | (simp; done) | (simp; omega)) (by first | omega | (simp; done) | (simp; omega)) | refine nest_ext ?_ | refine nest_set ?_ (by omega) | omega))
                            · rintro h ⟨c6_0, c6_1, c6_2, c6_3, c6_4, c6_5, c6_6, c6_7, c6_8, c6_9, c6_10, c6_11, c6_12, c6_13⟩
                              have sc6_1 : snap 9 false h nb0_0 = some (.sl 12 (v15.b.map enc)) := snap_nest (n := 5) c6_2
                              have sc6_5 : snap 9 false h nb2_0 = some (.sl 12 (v7.a.map enc)) := snap_nest (n := 5) c6_10
                              have sc6_6 : snap 9 false h nb3_0 = some (.sl 12 (v4.map enc)) := snap_nest (n := 5) c6_12
                              exact e_laws_markOpS _ _ _ hv18 _ _ _ h c6_10
                            · rintro hc6 v hh6 ⟨c6_0, c6_1, c6_2, c6_3, c6_4, c6_5, c6_6, c6_7, c6_8, c6_9, c6_10, c6_11, c6_12, c6_13⟩ hpost
                              obtain ⟨kk6, rfl, w6_0⟩ := hpost
                              have d6_0 : getCells hh6 0 1 = some [.i (.sl 1 (x1.counts.map enc))] := (keepI_get kk6 c6_1 (by omega)).trans c6_0
                              have d6_0l := keepI_lt kk6 c6_1
                              have d6_1 : NestV hh6 hc0.length hh0.length nb0_0 (v15.b : List TOp) := nest_keepI c6_2 kk6 (by omega)
                              have d6_1l := nest_lt d6_1
                              have d6_1s : snap 9 false hh6 nb0_0 = some (.sl 12 (v15.b.map enc)) := snap_nest (n := 5) d6_1
                              have d6_1n : lenS nb0_0 = some v15.b.length := nest_lenS d6_1
                              have d6_2 : getCells hh6 nb1_0 v5.counts.length = some (rows (v16.b.counts : List Int)) := (keepI_get kk6 c6_5 (by omega)).trans c6_4
                              have d6_2l := keepI_lt kk6 c6_5
                              have d6_3 : getCells hh6 hh1.length 0 = some [] := (keepI_get kk6 c6_7 (by omega)).trans c6_6
                              have d6_3l := keepI_lt kk6 c6_7
                              have d6_4 : getCells hh6 (hh1.length + 1) 1 = some [.hsl nb1_0 v5.counts.length 0 1 false v5.counts.length] := (keepI_get kk6 c6_9 (by omega)).trans c6_8
                              have d6_4l := keepI_lt kk6 c6_9
                              have d6_5 : NestV hh6 hc2.length hh2.length nb2_0 (v18.b : List TOp) := w6_0
                              have d6_5l := nest_lt d6_5
                              have d6_5s : snap 9 false hh6 nb2_0 = some (.sl 12 (v18.b.map enc)) := snap_nest (n := 5) d6_5
                              have d6_5n : lenS nb2_0 = some v18.b.length := nest_lenS d6_5
                              have d6_6 : NestV hh6 hc3.length hh3.length nb3_0 (v4 : List TOp) := nest_keepI c6_12 kk6 (by omega)
                              have d6_6l := nest_lt d6_6
                              have d6_6s : snap 9 false hh6 nb3_0 = some (.sl 12 (v4.map enc)) := snap_nest (n := 5) d6_6
                              have d6_6n : lenS nb3_0 = some v4.length := nest_lenS d6_6
                              obtain ⟨v19, hv19, hp⟩ := bind_eq hp
                              by_cases hb20 : (decide (v19 < 0)) = true
                              · rw [if_t hb20] at hp
                                cases hp
                              · replace hb20 := eq_false_of_ne_true hb20
                                rw [if_f hb20] at hp
                                by_cases hb21 : (decide (v19 = v18.a)) = true
                                · rw [if_t hb21] at hp
                                  cases hp
                                  simp (maxSteps := 2000000) (disch := first | omega | (simp only [ls]; first | done | omega)) only [ep_laws_szOpS, ep_laws_szVector, ep_laws_toOpS, ep_laws_toVector, ep_spec_LogAt, ep_laws_eqOpS, ep_laws_eqVector, ep_laws_heldOpS, ep_impl_LogAt, hv0, hb1, hv2, hb3, hv4, hv5, hv6, d0_0, d0_1, d0_1s, d0_1n, d1_0, d1_1, d1_1s, d1_1n, d1_2, hv7, d2_0, d2_1, d2_1s, d2_1n, d2_2, d2_3, d2_4, d2_5, d2_5s, d2_5n, hv8, hb9, hb10, d3_0, d3_1, d3_1s, d3_1n, d3_2, d3_3, d3_4, d3_5, d3_5s, d3_5n, d3_6, d3_6s, d3_6n, hv11, hb12, hv13, hb14, hv15, d4_0, d4_1, d4_1s, d4_1n, d4_2, d4_3, d4_4, d4_5, d4_5s, d4_5n, d4_6, d4_6s, d4_6n, hv16, d5_0, d5_1, d5_1s, d5_1n, d5_2, d5_3, d5_4, d5_5, d5_5s, d5_5n, d5_6, d5_6s, d5_6n, hb17, hv18, d6_0, d6_1, d6_1s, d6_1n, d6_2, d6_3, d6_4, d6_5, d6_5s, d6_5n, d6_6, d6_6s, d6_6n, hv19, hb20, hb21, gx, Int.reduceToNat]
                                · replace hb21 := eq_false_of_ne_true hb21
                                  rw [if_f hb21] at hp
                                  cases hp
                    · replace hb14 := eq_false_of_ne_true hb14
                      rw [if_f hb14] at hp
                      cases hp
                  · replace hb12 := eq_false_of_ne_true hb12
                    rw [if_f hb12] at hp
                    cases hp
              · replace hb10 := eq_false_of_ne_true hb10
                rw [if_f hb10] at hp
                cases hp
            · replace hb9 := eq_false_of_ne_true hb9
              rw [if_f hb9] at hp
              cases hp

end Go.AM
