/- Plain functions of BranchAhead and their walks. No condition. -/
import Derived.Test.YtiabacjkejkbgaaLabGBranchAheada
set_option linter.unusedVariables false
set_option linter.unusedSimpArgs false
set_option maxRecDepth 20000
namespace Go.AM
open Pic (enc dec dec_enc dec_sub)
open PicA (encA decA decA_encA decA_sub)
section
open NestC (kid rowN)
noncomputable def p_laws_markOpS_r (x : TOp) (k : Int) : Option (T2 Int TOp) :=
  (p_laws_markIntS x.deps.counts (w64 (w64 (w64 (k + 1) + 1) + 1))).bind fun r =>
  (p_laws_markText (w64 (w64 (w64 (w64 (w64 (w64 (r.a + 1) + 1) + 1) + 1) + 1) + 1))).bind fun v1 =>
  (p_laws_markText (w64 (w64 (w64 (w64 (w64 (w64 (w64 (r.a + 1) + 1) + 1) + 1) + 1) + 1) + 1))).bind fun v2 =>
  some ⟨w64 (w64 (w64 (w64 (w64 (w64 (w64 (w64 (r.a + 1) + 1) + 1) + 1) + 1) + 1) + 1) + 1), ⟨k, w64 (k + 1), w64 (w64 (k + 1) + 1), ⟨r.b⟩, r.a, w64 (r.a + 1), w64 (w64 (r.a + 1) + 1), w64 (w64 (w64 (r.a + 1) + 1) + 1), ⟨w64 (w64 (w64 (w64 (r.a + 1) + 1) + 1) + 1), w64 (w64 (w64 (w64 (w64 (r.a + 1) + 1) + 1) + 1) + 1)⟩, v1, v2⟩⟩
noncomputable def p_laws_markOpS_l0 (x0 : List TOp) : List TOp × Int → Option (Lp (List TOp × Int) (T2 Int (List TOp)))
  | (s1, k) =>
    if s1.length < x0.length then
      (get? x0 (s1.length : Int)).bind fun v4 =>
      (p_laws_markOpS_r v4 k).bind fun v5 =>
      if (s1.length : Int) + 1 < 9223372036854775808 then some (.go (s1 ++ [v5.b], v5.a)) else none
    else
      some (.out (s1, k))
noncomputable def p_laws_markOpS (x0 : List TOp) (x1 : Int) : Option (T2 Int (List TOp)) :=
  (loopP (p_laws_markOpS_l0 x0) ([], x1)).bind fun ee0 => match ee0 with
    | .ret r => some r
    | .out (o8, k) => some ⟨k, o8⟩
def c_laws_markOpS (f_laws_markIntS : Nat) (f_laws_markText : Nat) : AFn := ⟨102, (.seq (.ops [⟨(.some 4), (.mv (.const (.int .i64 0))), .none, []⟩]) (.seq (.seq (.ops [⟨(.some 5), (.mv (.const (.int .i64 0))), .none, []⟩]) (.block 0 (.loop (.seq (.seq (.ops [⟨(.some 6), (.mv (.tmp 5)), .none, []⟩, ⟨(.some 7), (.mv (.tmp 0)), .none, []⟩, ⟨(.some 8), (.len (.tmp 7)), .none, []⟩, ⟨(.some 9), (.pu (.n (.ar .lss)) [(.tmp 6), (.tmp 8)]), .none, []⟩]) (.cond (.tmp 9) .skip (.exit 0))) (.seq (.block 1 (.seq (.ops [⟨(.some 12), (.mv (.tmp 0)), .none, []⟩, ⟨(.some 13), (.mv (.tmp 5)), .none, []⟩, ⟨(.some 14), (.mv (.tmp 1)), .none, []⟩, ⟨(.some 15), (.idxS 12 (.tmp 12) (.tmp 13)), .none, []⟩, ⟨(.some 16), (.fieldA 0 (.tmp 15)), .none, []⟩, ⟨.none, (.storeV [(0, false)] 1 (.tmp 16) (.tmp 14)), .none, []⟩]) (.seq (.ops [⟨(.some 17), (.mv (.tmp 1)), .none, []⟩, ⟨(.some 18), (.pu (.n (.ar .add)) [(.tmp 17), (.const (.int .i64 1))]), .none, []⟩, ⟨(.some 1), (.mv (.tmp 18)), .none, []⟩]) (.seq (.ops [⟨(.some 19), (.mv (.tmp 0)), .none, []⟩, ⟨(.some 20), (.mv (.tmp 5)), .none, []⟩, ⟨(.some 21), (.mv (.tmp 1)), .none, []⟩, ⟨(.some 22), (.idxS 12 (.tmp 19) (.tmp 20)), .none, []⟩, ⟨(.some 23), (.fieldA 1 (.tmp 22)), .none, []⟩, ⟨.none, (.storeV [(0, false)] 1 (.tmp 23) (.tmp 21)), .none, []⟩]) (.seq (.ops [⟨(.some 24), (.mv (.tmp 1)), .none, []⟩, ⟨(.some 25), (.pu (.n (.ar .add)) [(.tmp 24), (.const (.int .i64 1))]), .none, []⟩, ⟨(.some 1), (.mv (.tmp 25)), .none, []⟩]) (.seq (.ops [⟨(.some 26), (.mv (.tmp 0)), .none, []⟩, ⟨(.some 27), (.mv (.tmp 5)), .none, []⟩, ⟨(.some 28), (.mv (.tmp 1)), .none, []⟩, ⟨(.some 29), (.idxS 12 (.tmp 26) (.tmp 27)), .none, []⟩, ⟨(.some 30), (.fieldA 2 (.tmp 29)), .none, []⟩, ⟨.none, (.storeV [(0, false)] 1 (.tmp 30) (.tmp 28)), .none, []⟩]) (.seq (.ops [⟨(.some 31), (.mv (.tmp 1)), .none, []⟩, ⟨(.some 32), (.pu (.n (.ar .add)) [(.tmp 31), (.const (.int .i64 1))]), .none, []⟩, ⟨(.some 1), (.mv (.tmp 32)), .none, []⟩]) (.seq (.ops [⟨(.some 33), (.mv (.tmp 0)), .none, []⟩, ⟨(.some 34), (.mv (.tmp 5)), .none, []⟩, ⟨(.some 35), (.idxS 12 (.tmp 33) (.tmp 34)), .none, []⟩, ⟨(.some 36), (.fieldA 3 (.tmp 35)), .none, []⟩, ⟨(.some 37), (.fieldA 0 (.tmp 36)), .none, []⟩, ⟨(.some 38), (.load 1 false (.tmp 37)), .none, []⟩, ⟨(.some 39), (.mv (.tmp 1)), .none, []⟩, ⟨(.some 40), (.call (2 * f_laws_markIntS + 1) [(.tmp 38), (.tmp 39)]), .none, []⟩, ⟨(.some 1), (.mv (.tmp 40)), .none, []⟩]) (.seq (.ops [⟨(.some 41), (.mv (.tmp 0)), .none, []⟩, ⟨(.some 42), (.mv (.tmp 5)), .none, []⟩, ⟨(.some 43), (.mv (.tmp 1)), .none, []⟩, ⟨(.some 44), (.idxS 12 (.tmp 41) (.tmp 42)), .none, []⟩, ⟨(.some 45), (.fieldA 4 (.tmp 44)), .none, []⟩, ⟨.none, (.storeV [(0, false)] 1 (.tmp 45) (.tmp 43)), .none, []⟩]) (.seq (.ops [⟨(.some 46), (.mv (.tmp 1)), .none, []⟩, ⟨(.some 47), (.pu (.n (.ar .add)) [(.tmp 46), (.const (.int .i64 1))]), .none, []⟩, ⟨(.some 1), (.mv (.tmp 47)), .none, []⟩]) (.seq (.ops [⟨(.some 48), (.mv (.tmp 0)), .none, []⟩, ⟨(.some 49), (.mv (.tmp 5)), .none, []⟩, ⟨(.some 50), (.mv (.tmp 1)), .none, []⟩, ⟨(.some 51), (.idxS 12 (.tmp 48) (.tmp 49)), .none, []⟩, ⟨(.some 52), (.fieldA 5 (.tmp 51)), .none, []⟩, ⟨.none, (.storeV [(0, false)] 1 (.tmp 52) (.tmp 50)), .none, []⟩]) (.seq (.ops [⟨(.some 53), (.mv (.tmp 1)), .none, []⟩, ⟨(.some 54), (.pu (.n (.ar .add)) [(.tmp 53), (.const (.int .i64 1))]), .none, []⟩, ⟨(.some 1), (.mv (.tmp 54)), .none, []⟩]) (.seq (.ops [⟨(.some 55), (.mv (.tmp 0)), .none, []⟩, ⟨(.some 56), (.mv (.tmp 5)), .none, []⟩, ⟨(.some 57), (.mv (.tmp 1)), .none, []⟩, ⟨(.some 58), (.idxS 12 (.tmp 55) (.tmp 56)), .none, []⟩, ⟨(.some 59), (.fieldA 6 (.tmp 58)), .none, []⟩, ⟨.none, (.storeV [(0, false)] 1 (.tmp 59) (.tmp 57)), .none, []⟩]) (.seq (.ops [⟨(.some 60), (.mv (.tmp 1)), .none, []⟩, ⟨(.some 61), (.pu (.n (.ar .add)) [(.tmp 60), (.const (.int .i64 1))]), .none, []⟩, ⟨(.some 1), (.mv (.tmp 61)), .none, []⟩]) (.seq (.ops [⟨(.some 62), (.mv (.tmp 0)), .none, []⟩, ⟨(.some 63), (.mv (.tmp 5)), .none, []⟩, ⟨(.some 64), (.mv (.tmp 1)), .none, []⟩, ⟨(.some 65), (.idxS 12 (.tmp 62) (.tmp 63)), .none, []⟩, ⟨(.some 66), (.fieldA 7 (.tmp 65)), .none, []⟩, ⟨.none, (.storeV [(0, false)] 1 (.tmp 66) (.tmp 64)), .none, []⟩]) (.seq (.ops [⟨(.some 67), (.mv (.tmp 1)), .none, []⟩, ⟨(.some 68), (.pu (.n (.ar .add)) [(.tmp 67), (.const (.int .i64 1))]), .none, []⟩, ⟨(.some 1), (.mv (.tmp 68)), .none, []⟩]) (.seq (.ops [⟨(.some 69), (.mv (.tmp 0)), .none, []⟩, ⟨(.some 70), (.mv (.tmp 5)), .none, []⟩, ⟨(.some 71), (.mv (.tmp 1)), .none, []⟩, ⟨(.some 72), (.idxS 12 (.tmp 69) (.tmp 70)), .none, []⟩, ⟨(.some 73), (.fieldA 8 (.tmp 72)), .none, []⟩, ⟨(.some 74), (.fieldA 0 (.tmp 73)), .none, []⟩, ⟨.none, (.storeV [(0, false)] 1 (.tmp 74) (.tmp 71)), .none, []⟩]) (.seq (.ops [⟨(.some 75), (.mv (.tmp 1)), .none, []⟩, ⟨(.some 76), (.pu (.n (.ar .add)) [(.tmp 75), (.const (.int .i64 1))]), .none, []⟩, ⟨(.some 1), (.mv (.tmp 76)), .none, []⟩]) (.seq (.ops [⟨(.some 77), (.mv (.tmp 0)), .none, []⟩, ⟨(.some 78), (.mv (.tmp 5)), .none, []⟩, ⟨(.some 79), (.mv (.tmp 1)), .none, []⟩, ⟨(.some 80), (.idxS 12 (.tmp 77) (.tmp 78)), .none, []⟩, ⟨(.some 81), (.fieldA 8 (.tmp 80)), .none, []⟩, ⟨(.some 82), (.fieldA 1 (.tmp 81)), .none, []⟩, ⟨.none, (.storeV [(0, false)] 1 (.tmp 82) (.tmp 79)), .none, []⟩]) (.seq (.ops [⟨(.some 83), (.mv (.tmp 1)), .none, []⟩, ⟨(.some 84), (.pu (.n (.ar .add)) [(.tmp 83), (.const (.int .i64 1))]), .none, []⟩, ⟨(.some 1), (.mv (.tmp 84)), .none, []⟩]) (.seq (.ops [⟨(.some 85), (.mv (.tmp 0)), .none, []⟩, ⟨(.some 86), (.mv (.tmp 5)), .none, []⟩, ⟨(.some 87), (.mv (.tmp 1)), .none, []⟩, ⟨(.some 88), (.call (2 * f_laws_markText) [(.tmp 87)]), .none, []⟩, ⟨(.some 89), (.idxS 12 (.tmp 85) (.tmp 86)), .none, []⟩, ⟨(.some 90), (.fieldA 10 (.tmp 89)), .none, []⟩, ⟨.none, (.storeV [(0, false)] 1 (.tmp 90) (.tmp 88)), .none, []⟩]) (.seq (.ops [⟨(.some 91), (.mv (.tmp 1)), .none, []⟩, ⟨(.some 92), (.pu (.n (.ar .add)) [(.tmp 91), (.const (.int .i64 1))]), .none, []⟩, ⟨(.some 1), (.mv (.tmp 92)), .none, []⟩]) (.seq (.ops [⟨(.some 93), (.mv (.tmp 0)), .none, []⟩, ⟨(.some 94), (.mv (.tmp 5)), .none, []⟩, ⟨(.some 95), (.mv (.tmp 1)), .none, []⟩, ⟨(.some 96), (.call (2 * f_laws_markText) [(.tmp 95)]), .none, []⟩, ⟨(.some 97), (.idxS 12 (.tmp 93) (.tmp 94)), .none, []⟩, ⟨(.some 98), (.fieldA 11 (.tmp 97)), .none, []⟩, ⟨.none, (.storeV [(0, false)] 1 (.tmp 98) (.tmp 96)), .none, []⟩]) (.ops [⟨(.some 99), (.mv (.tmp 1)), .none, []⟩, ⟨(.some 100), (.pu (.n (.ar .add)) [(.tmp 99), (.const (.int .i64 1))]), .none, []⟩, ⟨(.some 1), (.mv (.tmp 100)), .none, []⟩])))))))))))))))))))))))) (.ops [⟨(.some 10), (.mv (.tmp 5)), .none, []⟩, ⟨(.some 11), (.pu (.n (.ar .add)) [(.tmp 10), (.const (.int .i64 1))]), .none, []⟩, ⟨(.some 5), (.mv (.tmp 11)), .none, []⟩])))))) (.seq (.ops [⟨(.some 101), (.mv (.tmp 1)), .none, []⟩, ⟨(.some 4), (.mv (.tmp 101)), .none, []⟩]) .ret))), [(.tmp 4)]⟩
def i_laws_markOpS (lo hi : Nat) (pv : V) (h : Heap) (b : T2 Int (List TOp)) (v : V) (h2 : Heap) : Prop := KeepI lo hi h h2 ∧ v = .i (.s (.int .i64 b.a)) ∧ NestV h2 lo hi pv b.b
def k_laws_markOpS (F : Fun) : Prop := ∀ (x0 : List TOp) (x1 : Int) (b : T2 Int (List TOp)), p_laws_markOpS x0 x1 = some b → ∀ (lo hi : Nat) (v : V) (h : Heap), NestV h lo hi v x0 → ∃ p, F none [v, .i (.s (.int .i64 x1))] h = some p ∧ i_laws_markOpS lo hi v h b p.1 p.2
def MkI (hh : Heap) (lo hi b : Nat) (gs : List Nat) (x0 : List TOp) (h : Heap) (s1 : List TOp) : Prop := KeepI lo hi hh h ∧ s1.length ≤ x0.length ∧ Nest h lo hi b gs (s1 ++ x0.drop s1.length)
set_option maxHeartbeats 10000000 in
theorem w_laws_markOpS {P : Program} {env : Env} {f_laws_markIntS f_laws_markText : Nat} (ep_laws_markText : env (2 * f_laws_markText) = pureFn true (FA fun a : Int => p_laws_markText a)) (e_laws_markIntS : k_laws_markIntS (env (2 * f_laws_markIntS + 1)))
    (x0 : List TOp) (x1 : Int) {b : T2 Int (List TOp)} (hp : p_laws_markOpS x0 x1 = some b) (lo hi : Nat) (pv : V) (hh : Heap) (pf0 : NestV hh lo hi pv x0) : R P env (c_laws_markOpS f_laws_markIntS f_laws_markText) [pv, .i (.s (.int .i64 x1))] hh (i_laws_markOpS lo hi pv hh b) := by
  refine R_of (by simp [c_laws_markOpS, encA]) ?_
  unfold c_laws_markOpS
  unfold p_laws_markOpS at hp
  obtain ⟨qb, qs, rfl, hN0⟩ := pf0
  obtain ⟨ee0, hee0, hp⟩ := bind_eq hp
  simp (maxSteps := 2000000) (disch := first | omega | (simp only [ls]; first | done | omega)) only [ep_laws_markText, gx, Int.reduceToNat]
  refine W_loopP 0 (fun (s1, k) t h => t 0 = .hsl qb (x0.length * 12) 0 12 true x0.length ∧ t 1 = .i (.s (.int .i64 k)) ∧ t 5 = .i (.s (.int .i64 (s1.length : Int))) ∧ MkI hh lo hi qb qs x0 h s1) (RK [.tmp 4] (i_laws_markOpS lo hi (.hsl qb (x0.length * Pic.z TOp) 0 (Pic.z TOp) true x0.length) hh)) ?_ hee0 ?_ ?_
  · rintro ⟨s1, k⟩ ee tt0 hh0 ⟨f0, f1, f2, f3⟩ hp
    rw [p_laws_markOpS_l0] at hp
    by_cases hb3 : s1.length < x0.length
    · rw [if_pos hb3] at hp
      obtain ⟨v4, hv4, hp⟩ := bind_eq hp
      obtain ⟨v5, hv5, hp⟩ := bind_eq hp
      split at hp
      case isFalse => cases hp
      rename_i hw0
      have hb4 : decide ((s1.length : Int) < (x0.length : Int)) = true := by simpa using hb3
      have hp := Option.some.inj hp
      subst hp
      unfold p_laws_markOpS_r at hv5
      obtain ⟨r, hr, hv5⟩ := bind_eq hv5
      obtain ⟨w1, hw1, hv5⟩ := bind_eq hv5
      obtain ⟨w2, hw2, hv5⟩ := bind_eq hv5
      have hv5 := Option.some.inj hv5
      subst hv5
      have g4 := get_some hv4
      rw [Int.toNat_natCast] at g4
      obtain ⟨hK, hle, hN⟩ := f3
      have hd : x0.drop s1.length = v4 :: x0.drop (s1.length + 1) := by
        rw [List.drop_eq_getElem_cons hb3]
        congr 1
        have := g4.2.2
        rw [List.getElem?_eq_getElem hb3] at this
        exact Option.some.inj this
      rw [hd] at hN
      obtain ⟨A, B, g, hA, hB, hrow, hkid, hg1, hg2, hgb, hb1, hb2, htop, hclose⟩ := nest_open hN
      have hn12 : (s1.length + ((x0.drop (s1.length + 1)).length + 1)) * Pic.z TOp = x0.length * 12 := by rw [z_TOp, List.length_drop]; congr 1; omega
      rw [hn12] at hrow hclose
      rw [z_TOp] at hA hB
      simp only [rowN, List.cons_append, List.nil_append, kid, iN, iS] at hrow hclose hkid
      have hlr := getCells_len hrow
      have hnn : (0:Int) ≤ (s1.length : Int) := by omega
      have hbl := gc_lt hrow
      have hAl : A.length + (B.length + 1 + 1 + 1 + 1 + 1 + 1 + 1 + 1 + 1 + 1 + 1 + 1) = x0.length * 12 := by rw [List.length_drop] at hB; omega
      simp (maxSteps := 2000000) (disch := first | omega | (simp only [ls]; first | done | omega)) only [ep_laws_markText, hv4, hb4, hb3, hAl, hbl, f0, f1, f2, hrow, hlr, hnn, Int.toNat_natCast, take_at hA, take_at0 hA, drop_at hA, drop_at0 hA, drop_at2 hA, take_at2 hA, drop_at3 hA, gx, Int.reduceToNat]
      refine call_f (fun h => getCells h qb (x0.length * 12) = some (A ++ V.i (I.s (Value.int IntKind.i64 k)) :: V.i (I.s (Value.int IntKind.i64 (w64 (k + 1)))) :: V.i (I.s (Value.int IntKind.i64 (w64 (w64 (k + 1) + 1)))) :: V.hsl g v4.deps.counts.length 0 1 false v4.deps.counts.length :: V.i (I.s (Value.int IntKind.i64 v4.kind)) :: V.i (I.s (Value.int IntKind.i64 v4.obj)) :: V.i (I.s (Value.int IntKind.i64 v4.n)) :: V.i (I.s (Value.int IntKind.i64 v4.undo)) :: V.i (I.s (Value.int IntKind.i64 v4.at_.time)) :: V.i (I.s (Value.int IntKind.i64 v4.at_.actor)) :: V.i (I.s (Value.string v4.key)) :: V.i (I.s (Value.string v4.text)) :: B) ∧ getCells h g v4.deps.counts.length = some (rows v4.deps.counts) ∧ Keep [qb, g] hh0 h) (fun h v h2 => i_laws_markIntS g v4.deps.counts.length h r v h2) ?_ ?_ ?_
      · exact ⟨by simp (maxSteps := 2000000) (disch := first | omega | (simp only [ls]; first | done | omega)) only [hrow, hlr, hAl, hbl, gx, Int.reduceToNat], by simp (maxSteps := 2000000) (disch := first | omega | (simp only [ls]; first | done | omega)) only [hkid, hgb, gx, Int.reduceToNat], keep_set (.inl (by simp)) (keep_set (.inl (by simp)) (keep_set (.inl (by simp)) keep_refl))⟩
      · rintro h ⟨c0, c1, c2⟩
        exact e_laws_markIntS _ _ _ hr g v4.deps.counts.length h rfl c1
      · rintro hc v hh1 ⟨c0, c1, c2⟩ hpost
        obtain ⟨kk, rfl, w⟩ := hpost
        have d0 := (keep_get kk (gc_lt c0) (by simp; omega)).trans c0
        have hbl1 := gc_lt d0
        have lr := len_rows w
        rw [show Pic.z Int = 1 from rfl, Nat.mul_one] at lr
        have hw : w64 ((s1.length : Int) + 1) = (s1.length : Int) + 1 := wrap_s (by omega) (by omega)
        have hlr1 := getCells_len d0
        simp (maxSteps := 2000000) (disch := first | omega | (simp only [ls]; first | done | omega)) only [ep_laws_markText, hw1, hw2, hv4, hb4, hb3, hAl, hbl1, f0, f1, f2, d0, hlr1, hnn, hw, Int.toNat_natCast, Int.natCast_add, take_at hA, take_at0 hA, drop_at hA, drop_at0 hA, drop_at2 hA, take_at2 hA, drop_at3 hA, gx, Int.reduceToNat]
        simp only [List.set_set]
        have hk2 := fun s => keep_set (s := s) (b := qb) (.inl (by simp)) (keep_trans c2 kk (by intro b hb; simp at hb; left; simp [hb]))
        refine ⟨⟨Nat.le_trans hK.len (hk2 _).len, fun c hc hn => ((hk2 _).at_ c (Nat.lt_of_lt_of_le hc hK.len) (by simp; omega)).trans (hK.at_ c hc hn)⟩, by simp; omega, ?_⟩
        rw [List.length_append, List.length_singleton, List.append_assoc, List.singleton_append]
        refine hclose _ _ (hk2 _).len (fun c h1 h2 h3 => (hk2 _).at_ c h1 (by simp [h2, h3])) ?_ ?_
        · rw [set_cells d0]
          · simp only [rowN, List.cons_append, List.nil_append, iN, iS, ← lr]
          · simp only [List.length_append, List.length_cons]
            omega
        · rw [getCells_congr (List.getElem?_set_ne (Ne.symm hgb))]
          simp only [kid, ← lr]
          exact w
    · rw [if_neg hb3] at hp
      have hb4 : decide ((s1.length : Int) < (x0.length : Int)) = false := by simpa using hb3
      have hp := Option.some.inj hp
      subst hp
      simp (maxSteps := 2000000) (disch := first | omega | (simp only [ls]; first | done | omega)) only [hb4, f0, f1, f2, f3, gx, Int.reduceToNat]
  · have : MkI hh lo hi qb qs x0 hh [] := ⟨keepI_refl, Nat.zero_le _, by simpa using hN0⟩
    simp (maxSteps := 2000000) (disch := first | omega | (simp only [ls]; first | done | omega)) only [this, gx, Int.reduceToNat]
  · intro x tt1 hh1 hx
    rcases ee0 with ⟨o8, k8⟩ | r
    · obtain ⟨rfl, f0, f1, f2, hK, hle, hN⟩ := hx
      dsimp only at hp
      have hp := Option.some.inj hp
      subst hp
      have hq : x0.length ≤ o8.length := loopP_outQ (Q := fun o : List TOp × Int => x0.length ≤ o.1.length) hee0 (fun s o h => by
        obtain ⟨s1, s2⟩ := s
        rw [p_laws_markOpS_l0] at h
        split at h
        · obtain ⟨_, _, h⟩ := bind_eq h
          obtain ⟨_, _, h⟩ := bind_eq h
          split at h <;> cases h
        · cases h
          dsimp only
          omega)
      have he : x0.length = o8.length := by omega
      rw [List.drop_eq_nil_of_le hq, List.append_nil] at hN
      have hd : i_laws_markOpS lo hi (.hsl qb (x0.length * 12) 0 12 true x0.length) hh ⟨k8, o8⟩ (.i (.s (.int .i64 k8))) hh1 := ⟨hK, rfl, qb, qs, by rw [he, z_TOp], hN⟩
      rw [z_TOp]
      simp (maxSteps := 2000000) (disch := first | omega | (simp only [ls]; first | done | omega)) only [f0, f1, f2, hd, gx, Int.reduceToNat]
    · obtain ⟨rfl, hx⟩ := hx
      dsimp only at hp
      cases hp
      simp only [seqK_ret, blockK_ret, retK_RK, hx, and_self, true_and]
theorem ko_laws_markOpS {P : Program} {env : Env} {f_laws_markIntS f_laws_markText : Nat} (ep_laws_markText : env (2 * f_laws_markText) = pureFn true (FA fun a : Int => p_laws_markText a)) (e_laws_markIntS : k_laws_markIntS (env (2 * f_laws_markIntS + 1))) : k_laws_markOpS (runIn P env (c_laws_markOpS f_laws_markIntS f_laws_markText)) := by
  intro x0 x1 b hp lo hi v h a0
  exact w_laws_markOpS ep_laws_markText e_laws_markIntS x0 x1 hp lo hi v h a0
end

noncomputable def p_laws_heldIntS_l0 (x0 : List Int) : Int × Int → Option (Lp (Int × Int) Int)
  | (s0, s1) =>
    if (decide (s1 < (x0.length : Int))) = true then
      (get? x0 s1).bind fun v3 =>
      if (decide (v3 = s0)) = true then
        some (.go (w64 (s0 + 1), w64 (s1 + 1)))
      else
        some (.ret (-1))
    else
      some (.out (s0, s1))
noncomputable def p_laws_heldIntS (x0 : List Int) (x1 : Int) : Option Int :=
  (loopP (p_laws_heldIntS_l0 x0) (x1, 0)).bind fun ee0 => match ee0 with
  | .ret r => some r
  | .out (o5, o6) =>
    some o5
def c_laws_heldIntS : AFn := ⟨21, (.seq (.ops [⟨(.some 4), (.mv (.const (.int .i64 0))), .none, []⟩]) (.seq (.seq (.ops [⟨(.some 5), (.mv (.const (.int .i64 0))), .none, []⟩]) (.block 0 (.loop (.seq (.seq (.ops [⟨(.some 6), (.mv (.tmp 5)), .none, []⟩, ⟨(.some 7), (.mv (.tmp 0)), .none, []⟩, ⟨(.some 8), (.len (.tmp 7)), .none, []⟩, ⟨(.some 9), (.pu (.n (.ar .lss)) [(.tmp 6), (.tmp 8)]), .none, []⟩]) (.cond (.tmp 9) .skip (.exit 0))) (.seq (.block 1 (.seq (.seq (.ops [⟨(.some 12), (.mv (.tmp 0)), .none, []⟩, ⟨(.some 13), (.mv (.tmp 5)), .none, []⟩, ⟨(.some 14), (.idxS 1 (.tmp 12) (.tmp 13)), .none, []⟩, ⟨(.some 15), (.load 1 false (.tmp 14)), .none, []⟩, ⟨(.some 16), (.mv (.tmp 1)), .none, []⟩, ⟨(.some 17), (.pu (.n (.ar .neq)) [(.tmp 15), (.tmp 16)]), .none, []⟩]) (.cond (.tmp 17) (.seq (.ops [⟨(.some 4), (.mv (.const (.int .i64 (-1)))), .none, []⟩]) .ret) .skip)) (.ops [⟨(.some 18), (.mv (.tmp 1)), .none, []⟩, ⟨(.some 19), (.pu (.n (.ar .add)) [(.tmp 18), (.const (.int .i64 1))]), .none, []⟩, ⟨(.some 1), (.mv (.tmp 19)), .none, []⟩]))) (.ops [⟨(.some 10), (.mv (.tmp 5)), .none, []⟩, ⟨(.some 11), (.pu (.n (.ar .add)) [(.tmp 10), (.const (.int .i64 1))]), .none, []⟩, ⟨(.some 5), (.mv (.tmp 11)), .none, []⟩])))))) (.seq (.ops [⟨(.some 20), (.mv (.tmp 1)), .none, []⟩, ⟨(.some 4), (.mv (.tmp 20)), .none, []⟩]) .ret))), [(.tmp 4)]⟩
set_option maxHeartbeats 10000000 in
theorem d_laws_heldIntS {P : Program} {env : Env}  (x0 : List Int) (x1 : Int) {b : Int} (hp : p_laws_heldIntS x0 x1 = some b) : R P env (c_laws_heldIntS) ((encA (x0, x1)).map ofI) [] (Tells true b) := by
  refine R_of (by simp [c_laws_heldIntS, encA]) ?_
  unfold c_laws_heldIntS
  unfold p_laws_heldIntS at hp
  obtain ⟨ee0, hee0, hp⟩ := bind_eq hp
  simp (maxSteps := 2000000) (disch := first | omega | (simp only [ls]; first | done | omega)) only [gx, Int.reduceToNat]
  refine W_loopP 0 (fun s t h => match s with | (s0, s1) => t 0 = .i (.sl 1 (x0.map enc)) ∧ t 1 = .i (.s (.int .i64 s0)) ∧ t 5 = .i (.s (.int .i64 s1))) (RK [.tmp 4] (Tells true)) ?_ hee0 ?_ ?_
  · rintro ⟨s0, s1⟩ ee tt0 hh0 ⟨ftt0_0, ftt0_1, ftt0_2⟩ hp
    rw [p_laws_heldIntS_l0] at hp
    by_cases hb2 : (decide (s1 < (x0.length : Int))) = true
    · rw [if_t hb2] at hp
      obtain ⟨v3, hv3, hp⟩ := bind_eq hp
      by_cases hb4 : (decide (v3 = s0)) = true
      · rw [if_t hb4] at hp
        have hp := Option.some.inj hp
        subst hp
        simp (maxSteps := 2000000) (disch := first | omega | (simp only [ls]; first | done | omega)) only [ftt0_0, ftt0_1, ftt0_2, hb2, hv3, hb4, gx, Int.reduceToNat] <;> omega
      · replace hb4 := eq_false_of_ne_true hb4
        rw [if_f hb4] at hp
        have hp := Option.some.inj hp
        subst hp
        simp (maxSteps := 2000000) (disch := first | omega | (simp only [ls]; first | done | omega)) only [ftt0_0, ftt0_1, ftt0_2, hb2, hv3, hb4, gx, Int.reduceToNat]
    · replace hb2 := eq_false_of_ne_true hb2
      rw [if_f hb2] at hp
      have hp := Option.some.inj hp
      subst hp
      simp (maxSteps := 2000000) (disch := first | omega | (simp only [ls]; first | done | omega)) only [ftt0_0, ftt0_1, ftt0_2, hb2, gx, Int.reduceToNat] <;> omega
  · simp (maxSteps := 2000000) (disch := first | omega | (simp only [ls]; first | done | omega)) only [gx, Int.reduceToNat] <;> omega
  · intro x tt1 hh1 hx
    rcases ee0 with ⟨o5, o6⟩ | r
    · obtain ⟨rfl, ftt1_0, ftt1_1, ftt1_2⟩ := hx
      dsimp only at hp
      have hp := Option.some.inj hp
      subst hp
      simp (maxSteps := 2000000) (disch := first | omega | (simp only [ls]; first | done | omega)) only [ftt1_0, ftt1_1, ftt1_2, gx, Int.reduceToNat]
    · obtain ⟨rfl, hx⟩ := hx
      dsimp only at hp
      cases hp
      simp only [seqK_ret, blockK_ret, retK_RK (K := Tells true), hx, and_self, true_and]

noncomputable def p_laws_heldOpS_l0 (x0 : List TOp) : Int × Int → Option (Lp (Int × Int) Int)
  | (s0, s1) =>
    if (decide (s1 < (x0.length : Int))) = true then
      (get? x0 s1).bind fun v3 =>
      if (decide (v3.actor = s0)) = true then
        if (decide (v3.seq = w64 (s0 + 1))) = true then
          if (decide (v3.time = w64 ((w64 (s0 + 1)) + 1))) = true then
            (p_laws_heldIntS v3.deps.counts (w64 ((w64 ((w64 (s0 + 1)) + 1)) + 1))).bind fun v7 =>
            if (decide (v7 < 0)) = true then
              some (.ret (-1))
            else
              if (decide (v3.kind = v7)) = true then
                if (decide (v3.obj = w64 (v7 + 1))) = true then
                  if (decide (v3.n = w64 ((w64 (v7 + 1)) + 1))) = true then
                    if (decide (v3.undo = w64 ((w64 ((w64 (v7 + 1)) + 1)) + 1))) = true then
                      if (decide (v3.at_.time = w64 ((w64 ((w64 ((w64 (v7 + 1)) + 1)) + 1)) + 1))) = true then
                        if (decide (v3.at_.actor = w64 ((w64 ((w64 ((w64 ((w64 (v7 + 1)) + 1)) + 1)) + 1)) + 1))) = true then
                          (p_laws_markText (w64 ((w64 ((w64 ((w64 ((w64 ((w64 (v7 + 1)) + 1)) + 1)) + 1)) + 1)) + 1))).bind fun v15 =>
                          if (decide (v3.key = v15)) = true then
                            (p_laws_markText (w64 ((w64 ((w64 ((w64 ((w64 ((w64 ((w64 (v7 + 1)) + 1)) + 1)) + 1)) + 1)) + 1)) + 1))).bind fun v17 =>
                            if (decide (v3.text = v17)) = true then
                              some (.go (w64 ((w64 ((w64 ((w64 ((w64 ((w64 ((w64 ((w64 (v7 + 1)) + 1)) + 1)) + 1)) + 1)) + 1)) + 1)) + 1), w64 (s1 + 1)))
                            else
                              some (.ret (-1))
                          else
                            some (.ret (-1))
                        else
                          some (.ret (-1))
                      else
                        some (.ret (-1))
                    else
                      some (.ret (-1))
                  else
                    some (.ret (-1))
                else
                  some (.ret (-1))
              else
                some (.ret (-1))
          else
            some (.ret (-1))
        else
          some (.ret (-1))
      else
        some (.ret (-1))
    else
      some (.out (s0, s1))
noncomputable def p_laws_heldOpS (x0 : List TOp) (x1 : Int) : Option Int :=
  (loopP (p_laws_heldOpS_l0 x0) (x1, 0)).bind fun ee0 => match ee0 with
  | .ret r => some r
  | .out (o19, o20) =>
    some o19
def c_laws_heldOpS (f_laws_heldIntS : Nat) (f_laws_markText : Nat) : AFn := ⟨126, (.seq (.ops [⟨(.some 4), (.mv (.const (.int .i64 0))), .none, []⟩]) (.seq (.seq (.ops [⟨(.some 5), (.mv (.const (.int .i64 0))), .none, []⟩]) (.block 0 (.loop (.seq (.seq (.ops [⟨(.some 6), (.mv (.tmp 5)), .none, []⟩, ⟨(.some 7), (.mv (.tmp 0)), .none, []⟩, ⟨(.some 8), (.len (.tmp 7)), .none, []⟩, ⟨(.some 9), (.pu (.n (.ar .lss)) [(.tmp 6), (.tmp 8)]), .none, []⟩]) (.cond (.tmp 9) .skip (.exit 0))) (.seq (.block 1 (.seq (.seq (.ops [⟨(.some 12), (.mv (.tmp 0)), .none, []⟩, ⟨(.some 13), (.mv (.tmp 5)), .none, []⟩, ⟨(.some 14), (.idxS 12 (.tmp 12) (.tmp 13)), .none, []⟩, ⟨(.some 15), (.fieldA 0 (.tmp 14)), .none, []⟩, ⟨(.some 16), (.load 1 false (.tmp 15)), .none, []⟩, ⟨(.some 17), (.mv (.tmp 1)), .none, []⟩, ⟨(.some 18), (.pu (.n (.ar .neq)) [(.tmp 16), (.tmp 17)]), .none, []⟩]) (.cond (.tmp 18) (.seq (.ops [⟨(.some 4), (.mv (.const (.int .i64 (-1)))), .none, []⟩]) .ret) .skip)) (.seq (.ops [⟨(.some 19), (.mv (.tmp 1)), .none, []⟩, ⟨(.some 20), (.pu (.n (.ar .add)) [(.tmp 19), (.const (.int .i64 1))]), .none, []⟩, ⟨(.some 1), (.mv (.tmp 20)), .none, []⟩]) (.seq (.seq (.ops [⟨(.some 21), (.mv (.tmp 0)), .none, []⟩, ⟨(.some 22), (.mv (.tmp 5)), .none, []⟩, ⟨(.some 23), (.idxS 12 (.tmp 21) (.tmp 22)), .none, []⟩, ⟨(.some 24), (.fieldA 1 (.tmp 23)), .none, []⟩, ⟨(.some 25), (.load 1 false (.tmp 24)), .none, []⟩, ⟨(.some 26), (.mv (.tmp 1)), .none, []⟩, ⟨(.some 27), (.pu (.n (.ar .neq)) [(.tmp 25), (.tmp 26)]), .none, []⟩]) (.cond (.tmp 27) (.seq (.ops [⟨(.some 4), (.mv (.const (.int .i64 (-1)))), .none, []⟩]) .ret) .skip)) (.seq (.ops [⟨(.some 28), (.mv (.tmp 1)), .none, []⟩, ⟨(.some 29), (.pu (.n (.ar .add)) [(.tmp 28), (.const (.int .i64 1))]), .none, []⟩, ⟨(.some 1), (.mv (.tmp 29)), .none, []⟩]) (.seq (.seq (.ops [⟨(.some 30), (.mv (.tmp 0)), .none, []⟩, ⟨(.some 31), (.mv (.tmp 5)), .none, []⟩, ⟨(.some 32), (.idxS 12 (.tmp 30) (.tmp 31)), .none, []⟩, ⟨(.some 33), (.fieldA 2 (.tmp 32)), .none, []⟩, ⟨(.some 34), (.load 1 false (.tmp 33)), .none, []⟩, ⟨(.some 35), (.mv (.tmp 1)), .none, []⟩, ⟨(.some 36), (.pu (.n (.ar .neq)) [(.tmp 34), (.tmp 35)]), .none, []⟩]) (.cond (.tmp 36) (.seq (.ops [⟨(.some 4), (.mv (.const (.int .i64 (-1)))), .none, []⟩]) .ret) .skip)) (.seq (.ops [⟨(.some 37), (.mv (.tmp 1)), .none, []⟩, ⟨(.some 38), (.pu (.n (.ar .add)) [(.tmp 37), (.const (.int .i64 1))]), .none, []⟩, ⟨(.some 1), (.mv (.tmp 38)), .none, []⟩]) (.seq (.ops [⟨(.some 39), (.mv (.tmp 0)), .none, []⟩, ⟨(.some 40), (.mv (.tmp 5)), .none, []⟩, ⟨(.some 41), (.idxS 12 (.tmp 39) (.tmp 40)), .none, []⟩, ⟨(.some 42), (.fieldA 3 (.tmp 41)), .none, []⟩, ⟨(.some 43), (.fieldA 0 (.tmp 42)), .none, []⟩, ⟨(.some 44), (.load 1 false (.tmp 43)), .none, []⟩, ⟨(.some 45), (.mv (.tmp 1)), .none, []⟩, ⟨(.some 46), (.call (2 * f_laws_heldIntS) [(.tmp 44), (.tmp 45)]), .none, []⟩, ⟨(.some 1), (.mv (.tmp 46)), .none, []⟩]) (.seq (.seq (.ops [⟨(.some 47), (.mv (.tmp 1)), .none, []⟩, ⟨(.some 48), (.pu (.n (.ar .lss)) [(.tmp 47), (.const (.int .i64 0))]), .none, []⟩]) (.cond (.tmp 48) (.seq (.ops [⟨(.some 4), (.mv (.const (.int .i64 (-1)))), .none, []⟩]) .ret) .skip)) (.seq (.seq (.ops [⟨(.some 49), (.mv (.tmp 0)), .none, []⟩, ⟨(.some 50), (.mv (.tmp 5)), .none, []⟩, ⟨(.some 51), (.idxS 12 (.tmp 49) (.tmp 50)), .none, []⟩, ⟨(.some 52), (.fieldA 4 (.tmp 51)), .none, []⟩, ⟨(.some 53), (.load 1 false (.tmp 52)), .none, []⟩, ⟨(.some 54), (.mv (.tmp 1)), .none, []⟩, ⟨(.some 55), (.pu (.n (.ar .neq)) [(.tmp 53), (.tmp 54)]), .none, []⟩]) (.cond (.tmp 55) (.seq (.ops [⟨(.some 4), (.mv (.const (.int .i64 (-1)))), .none, []⟩]) .ret) .skip)) (.seq (.ops [⟨(.some 56), (.mv (.tmp 1)), .none, []⟩, ⟨(.some 57), (.pu (.n (.ar .add)) [(.tmp 56), (.const (.int .i64 1))]), .none, []⟩, ⟨(.some 1), (.mv (.tmp 57)), .none, []⟩]) (.seq (.seq (.ops [⟨(.some 58), (.mv (.tmp 0)), .none, []⟩, ⟨(.some 59), (.mv (.tmp 5)), .none, []⟩, ⟨(.some 60), (.idxS 12 (.tmp 58) (.tmp 59)), .none, []⟩, ⟨(.some 61), (.fieldA 5 (.tmp 60)), .none, []⟩, ⟨(.some 62), (.load 1 false (.tmp 61)), .none, []⟩, ⟨(.some 63), (.mv (.tmp 1)), .none, []⟩, ⟨(.some 64), (.pu (.n (.ar .neq)) [(.tmp 62), (.tmp 63)]), .none, []⟩]) (.cond (.tmp 64) (.seq (.ops [⟨(.some 4), (.mv (.const (.int .i64 (-1)))), .none, []⟩]) .ret) .skip)) (.seq (.ops [⟨(.some 65), (.mv (.tmp 1)), .none, []⟩, ⟨(.some 66), (.pu (.n (.ar .add)) [(.tmp 65), (.const (.int .i64 1))]), .none, []⟩, ⟨(.some 1), (.mv (.tmp 66)), .none, []⟩]) (.seq (.seq (.ops [⟨(.some 67), (.mv (.tmp 0)), .none, []⟩, ⟨(.some 68), (.mv (.tmp 5)), .none, []⟩, ⟨(.some 69), (.idxS 12 (.tmp 67) (.tmp 68)), .none, []⟩, ⟨(.some 70), (.fieldA 6 (.tmp 69)), .none, []⟩, ⟨(.some 71), (.load 1 false (.tmp 70)), .none, []⟩, ⟨(.some 72), (.mv (.tmp 1)), .none, []⟩, ⟨(.some 73), (.pu (.n (.ar .neq)) [(.tmp 71), (.tmp 72)]), .none, []⟩]) (.cond (.tmp 73) (.seq (.ops [⟨(.some 4), (.mv (.const (.int .i64 (-1)))), .none, []⟩]) .ret) .skip)) (.seq (.ops [⟨(.some 74), (.mv (.tmp 1)), .none, []⟩, ⟨(.some 75), (.pu (.n (.ar .add)) [(.tmp 74), (.const (.int .i64 1))]), .none, []⟩, ⟨(.some 1), (.mv (.tmp 75)), .none, []⟩]) (.seq (.seq (.ops [⟨(.some 76), (.mv (.tmp 0)), .none, []⟩, ⟨(.some 77), (.mv (.tmp 5)), .none, []⟩, ⟨(.some 78), (.idxS 12 (.tmp 76) (.tmp 77)), .none, []⟩, ⟨(.some 79), (.fieldA 7 (.tmp 78)), .none, []⟩, ⟨(.some 80), (.load 1 false (.tmp 79)), .none, []⟩, ⟨(.some 81), (.mv (.tmp 1)), .none, []⟩, ⟨(.some 82), (.pu (.n (.ar .neq)) [(.tmp 80), (.tmp 81)]), .none, []⟩]) (.cond (.tmp 82) (.seq (.ops [⟨(.some 4), (.mv (.const (.int .i64 (-1)))), .none, []⟩]) .ret) .skip)) (.seq (.ops [⟨(.some 83), (.mv (.tmp 1)), .none, []⟩, ⟨(.some 84), (.pu (.n (.ar .add)) [(.tmp 83), (.const (.int .i64 1))]), .none, []⟩, ⟨(.some 1), (.mv (.tmp 84)), .none, []⟩]) (.seq (.seq (.ops [⟨(.some 85), (.mv (.tmp 0)), .none, []⟩, ⟨(.some 86), (.mv (.tmp 5)), .none, []⟩, ⟨(.some 87), (.idxS 12 (.tmp 85) (.tmp 86)), .none, []⟩, ⟨(.some 88), (.fieldA 8 (.tmp 87)), .none, []⟩, ⟨(.some 89), (.fieldA 0 (.tmp 88)), .none, []⟩, ⟨(.some 90), (.load 1 false (.tmp 89)), .none, []⟩, ⟨(.some 91), (.mv (.tmp 1)), .none, []⟩, ⟨(.some 92), (.pu (.n (.ar .neq)) [(.tmp 90), (.tmp 91)]), .none, []⟩]) (.cond (.tmp 92) (.seq (.ops [⟨(.some 4), (.mv (.const (.int .i64 (-1)))), .none, []⟩]) .ret) .skip)) (.seq (.ops [⟨(.some 93), (.mv (.tmp 1)), .none, []⟩, ⟨(.some 94), (.pu (.n (.ar .add)) [(.tmp 93), (.const (.int .i64 1))]), .none, []⟩, ⟨(.some 1), (.mv (.tmp 94)), .none, []⟩]) (.seq (.seq (.ops [⟨(.some 95), (.mv (.tmp 0)), .none, []⟩, ⟨(.some 96), (.mv (.tmp 5)), .none, []⟩, ⟨(.some 97), (.idxS 12 (.tmp 95) (.tmp 96)), .none, []⟩, ⟨(.some 98), (.fieldA 8 (.tmp 97)), .none, []⟩, ⟨(.some 99), (.fieldA 1 (.tmp 98)), .none, []⟩, ⟨(.some 100), (.load 1 false (.tmp 99)), .none, []⟩, ⟨(.some 101), (.mv (.tmp 1)), .none, []⟩, ⟨(.some 102), (.pu (.n (.ar .neq)) [(.tmp 100), (.tmp 101)]), .none, []⟩]) (.cond (.tmp 102) (.seq (.ops [⟨(.some 4), (.mv (.const (.int .i64 (-1)))), .none, []⟩]) .ret) .skip)) (.seq (.ops [⟨(.some 103), (.mv (.tmp 1)), .none, []⟩, ⟨(.some 104), (.pu (.n (.ar .add)) [(.tmp 103), (.const (.int .i64 1))]), .none, []⟩, ⟨(.some 1), (.mv (.tmp 104)), .none, []⟩]) (.seq (.seq (.ops [⟨(.some 105), (.mv (.tmp 0)), .none, []⟩, ⟨(.some 106), (.mv (.tmp 5)), .none, []⟩, ⟨(.some 107), (.idxS 12 (.tmp 105) (.tmp 106)), .none, []⟩, ⟨(.some 108), (.fieldA 10 (.tmp 107)), .none, []⟩, ⟨(.some 109), (.load 1 false (.tmp 108)), .none, []⟩, ⟨(.some 110), (.mv (.tmp 1)), .none, []⟩, ⟨(.some 111), (.call (2 * f_laws_markText) [(.tmp 110)]), .none, []⟩, ⟨(.some 112), (.pu (.n (.ar .neq)) [(.tmp 109), (.tmp 111)]), .none, []⟩]) (.cond (.tmp 112) (.seq (.ops [⟨(.some 4), (.mv (.const (.int .i64 (-1)))), .none, []⟩]) .ret) .skip)) (.seq (.ops [⟨(.some 113), (.mv (.tmp 1)), .none, []⟩, ⟨(.some 114), (.pu (.n (.ar .add)) [(.tmp 113), (.const (.int .i64 1))]), .none, []⟩, ⟨(.some 1), (.mv (.tmp 114)), .none, []⟩]) (.seq (.seq (.ops [⟨(.some 115), (.mv (.tmp 0)), .none, []⟩, ⟨(.some 116), (.mv (.tmp 5)), .none, []⟩, ⟨(.some 117), (.idxS 12 (.tmp 115) (.tmp 116)), .none, []⟩, ⟨(.some 118), (.fieldA 11 (.tmp 117)), .none, []⟩, ⟨(.some 119), (.load 1 false (.tmp 118)), .none, []⟩, ⟨(.some 120), (.mv (.tmp 1)), .none, []⟩, ⟨(.some 121), (.call (2 * f_laws_markText) [(.tmp 120)]), .none, []⟩, ⟨(.some 122), (.pu (.n (.ar .neq)) [(.tmp 119), (.tmp 121)]), .none, []⟩]) (.cond (.tmp 122) (.seq (.ops [⟨(.some 4), (.mv (.const (.int .i64 (-1)))), .none, []⟩]) .ret) .skip)) (.ops [⟨(.some 123), (.mv (.tmp 1)), .none, []⟩, ⟨(.some 124), (.pu (.n (.ar .add)) [(.tmp 123), (.const (.int .i64 1))]), .none, []⟩, ⟨(.some 1), (.mv (.tmp 124)), .none, []⟩]))))))))))))))))))))))))) (.ops [⟨(.some 10), (.mv (.tmp 5)), .none, []⟩, ⟨(.some 11), (.pu (.n (.ar .add)) [(.tmp 10), (.const (.int .i64 1))]), .none, []⟩, ⟨(.some 5), (.mv (.tmp 11)), .none, []⟩])))))) (.seq (.ops [⟨(.some 125), (.mv (.tmp 1)), .none, []⟩, ⟨(.some 4), (.mv (.tmp 125)), .none, []⟩]) .ret))), [(.tmp 4)]⟩
set_option maxHeartbeats 10000000 in
theorem d_laws_heldOpS {P : Program} {env : Env} {f_laws_heldIntS : Nat} {f_laws_markText : Nat}  (ep_laws_heldIntS : env (2 * f_laws_heldIntS) = pureFn true (FA fun a : List Int × Int => p_laws_heldIntS a.1 a.2)) (ep_laws_markText : env (2 * f_laws_markText) = pureFn true (FA fun a : Int => p_laws_markText a)) (x0 : List TOp) (x1 : Int) {b : Int} (hp : p_laws_heldOpS x0 x1 = some b) : R P env (c_laws_heldOpS f_laws_heldIntS f_laws_markText) ((encA (x0, x1)).map ofI) [] (Tells true b) := by
  refine R_of (by simp [c_laws_heldOpS, encA]) ?_
  unfold c_laws_heldOpS
  unfold p_laws_heldOpS at hp
  obtain ⟨ee0, hee0, hp⟩ := bind_eq hp
  simp (maxSteps := 2000000) (disch := first | omega | (simp only [ls]; first | done | omega)) only [ep_laws_heldIntS, ep_laws_markText, gx, Int.reduceToNat]
  refine W_loopP 0 (fun s t h => match s with | (s0, s1) => t 0 = .i (.sl 12 (x0.map enc)) ∧ t 1 = .i (.s (.int .i64 s0)) ∧ t 5 = .i (.s (.int .i64 s1))) (RK [.tmp 4] (Tells true)) ?_ hee0 ?_ ?_
  · rintro ⟨s0, s1⟩ ee tt0 hh0 ⟨ftt0_0, ftt0_1, ftt0_2⟩ hp
    rw [p_laws_heldOpS_l0] at hp
    by_cases hb2 : (decide (s1 < (x0.length : Int))) = true
    · rw [if_t hb2] at hp
      obtain ⟨v3, hv3, hp⟩ := bind_eq hp
      by_cases hb4 : (decide (v3.actor = s0)) = true
      · rw [if_t hb4] at hp
        by_cases hb5 : (decide (v3.seq = w64 (s0 + 1))) = true
        · rw [if_t hb5] at hp
          by_cases hb6 : (decide (v3.time = w64 ((w64 (s0 + 1)) + 1))) = true
          · rw [if_t hb6] at hp
            obtain ⟨v7, hv7, hp⟩ := bind_eq hp
            by_cases hb8 : (decide (v7 < 0)) = true
            · rw [if_t hb8] at hp
              have hp := Option.some.inj hp
              subst hp
              simp (maxSteps := 2000000) (disch := first | omega | (simp only [ls]; first | done | omega)) only [ep_laws_heldIntS, ep_laws_markText, ftt0_0, ftt0_1, ftt0_2, hb2, hv3, hb4, hb5, hb6, hv7, hb8, gx, Int.reduceToNat]
            · replace hb8 := eq_false_of_ne_true hb8
              rw [if_f hb8] at hp
              by_cases hb9 : (decide (v3.kind = v7)) = true
              · rw [if_t hb9] at hp
                by_cases hb10 : (decide (v3.obj = w64 (v7 + 1))) = true
                · rw [if_t hb10] at hp
                  by_cases hb11 : (decide (v3.n = w64 ((w64 (v7 + 1)) + 1))) = true
                  · rw [if_t hb11] at hp
                    by_cases hb12 : (decide (v3.undo = w64 ((w64 ((w64 (v7 + 1)) + 1)) + 1))) = true
                    · rw [if_t hb12] at hp
                      by_cases hb13 : (decide (v3.at_.time = w64 ((w64 ((w64 ((w64 (v7 + 1)) + 1)) + 1)) + 1))) = true
                      · rw [if_t hb13] at hp
                        by_cases hb14 : (decide (v3.at_.actor = w64 ((w64 ((w64 ((w64 ((w64 (v7 + 1)) + 1)) + 1)) + 1)) + 1))) = true
                        · rw [if_t hb14] at hp
                          obtain ⟨v15, hv15, hp⟩ := bind_eq hp
                          by_cases hb16 : (decide (v3.key = v15)) = true
                          · rw [if_t hb16] at hp
                            obtain ⟨v17, hv17, hp⟩ := bind_eq hp
                            by_cases hb18 : (decide (v3.text = v17)) = true
                            · rw [if_t hb18] at hp
                              have hp := Option.some.inj hp
                              subst hp
                              simp (maxSteps := 2000000) (disch := first | omega | (simp only [ls]; first | done | omega)) only [ep_laws_heldIntS, ep_laws_markText, ftt0_0, ftt0_1, ftt0_2, hb2, hv3, hb4, hb5, hb6, hv7, hb8, hb9, hb10, hb11, hb12, hb13, hb14, hv15, hb16, hv17, hb18, gx, Int.reduceToNat] <;> omega
                            · replace hb18 := eq_false_of_ne_true hb18
                              rw [if_f hb18] at hp
                              have hp := Option.some.inj hp
                              subst hp
                              simp (maxSteps := 2000000) (disch := first | omega | (simp only [ls]; first | done | omega)) only [ep_laws_heldIntS, ep_laws_markText, ftt0_0, ftt0_1, ftt0_2, hb2, hv3, hb4, hb5, hb6, hv7, hb8, hb9, hb10, hb11, hb12, hb13, hb14, hv15, hb16, hv17, hb18, gx, Int.reduceToNat]
                          · replace hb16 := eq_false_of_ne_true hb16
                            rw [if_f hb16] at hp
                            have hp := Option.some.inj hp
                            subst hp
                            simp (maxSteps := 2000000) (disch := first | omega | (simp only [ls]; first | done | omega)) only [ep_laws_heldIntS, ep_laws_markText, ftt0_0, ftt0_1, ftt0_2, hb2, hv3, hb4, hb5, hb6, hv7, hb8, hb9, hb10, hb11, hb12, hb13, hb14, hv15, hb16, gx, Int.reduceToNat]
                        · replace hb14 := eq_false_of_ne_true hb14
                          rw [if_f hb14] at hp
                          have hp := Option.some.inj hp
                          subst hp
                          simp (maxSteps := 2000000) (disch := first | omega | (simp only [ls]; first | done | omega)) only [ep_laws_heldIntS, ep_laws_markText, ftt0_0, ftt0_1, ftt0_2, hb2, hv3, hb4, hb5, hb6, hv7, hb8, hb9, hb10, hb11, hb12, hb13, hb14, gx, Int.reduceToNat]
                      · replace hb13 := eq_false_of_ne_true hb13
                        rw [if_f hb13] at hp
                        have hp := Option.some.inj hp
                        subst hp
                        simp (maxSteps := 2000000) (disch := first | omega | (simp only [ls]; first | done | omega)) only [ep_laws_heldIntS, ep_laws_markText, ftt0_0, ftt0_1, ftt0_2, hb2, hv3, hb4, hb5, hb6, hv7, hb8, hb9, hb10, hb11, hb12, hb13, gx, Int.reduceToNat]
                    · replace hb12 := eq_false_of_ne_true hb12
                      rw [if_f hb12] at hp
                      have hp := Option.some.inj hp
                      subst hp
                      simp (maxSteps := 2000000) (disch := first | omega | (simp only [ls]; first | done | omega)) only [ep_laws_heldIntS, ep_laws_markText, ftt0_0, ftt0_1, ftt0_2, hb2, hv3, hb4, hb5, hb6, hv7, hb8, hb9, hb10, hb11, hb12, gx, Int.reduceToNat]
                  · replace hb11 := eq_false_of_ne_true hb11
                    rw [if_f hb11] at hp
                    have hp := Option.some.inj hp
                    subst hp
                    simp (maxSteps := 2000000) (disch := first | omega | (simp only [ls]; first | done | omega)) only [ep_laws_heldIntS, ep_laws_markText, ftt0_0, ftt0_1, ftt0_2, hb2, hv3, hb4, hb5, hb6, hv7, hb8, hb9, hb10, hb11, gx, Int.reduceToNat]
                · replace hb10 := eq_false_of_ne_true hb10
                  rw [if_f hb10] at hp
                  have hp := Option.some.inj hp
                  subst hp
                  simp (maxSteps := 2000000) (disch := first | omega | (simp only [ls]; first | done | omega)) only [ep_laws_heldIntS, ep_laws_markText, ftt0_0, ftt0_1, ftt0_2, hb2, hv3, hb4, hb5, hb6, hv7, hb8, hb9, hb10, gx, Int.reduceToNat]
              · replace hb9 := eq_false_of_ne_true hb9
                rw [if_f hb9] at hp
                have hp := Option.some.inj hp
                subst hp
                simp (maxSteps := 2000000) (disch := first | omega | (simp only [ls]; first | done | omega)) only [ep_laws_heldIntS, ep_laws_markText, ftt0_0, ftt0_1, ftt0_2, hb2, hv3, hb4, hb5, hb6, hv7, hb8, hb9, gx, Int.reduceToNat]
          · replace hb6 := eq_false_of_ne_true hb6
            rw [if_f hb6] at hp
            have hp := Option.some.inj hp
            subst hp
            simp (maxSteps := 2000000) (disch := first | omega | (simp only [ls]; first | done | omega)) only [ep_laws_heldIntS, ep_laws_markText, ftt0_0, ftt0_1, ftt0_2, hb2, hv3, hb4, hb5, hb6, gx, Int.reduceToNat]
        · replace hb5 := eq_false_of_ne_true hb5
          rw [if_f hb5] at hp
          have hp := Option.some.inj hp
          subst hp
          simp (maxSteps := 2000000) (disch := first | omega | (simp only [ls]; first | done | omega)) only [ep_laws_heldIntS, ep_laws_markText, ftt0_0, ftt0_1, ftt0_2, hb2, hv3, hb4, hb5, gx, Int.reduceToNat]
      · replace hb4 := eq_false_of_ne_true hb4
        rw [if_f hb4] at hp
        have hp := Option.some.inj hp
        subst hp
        simp (maxSteps := 2000000) (disch := first | omega | (simp only [ls]; first | done | omega)) only [ep_laws_heldIntS, ep_laws_markText, ftt0_0, ftt0_1, ftt0_2, hb2, hv3, hb4, gx, Int.reduceToNat]
    · replace hb2 := eq_false_of_ne_true hb2
      rw [if_f hb2] at hp
      have hp := Option.some.inj hp
      subst hp
      simp (maxSteps := 2000000) (disch := first | omega | (simp only [ls]; first | done | omega)) only [ep_laws_heldIntS, ep_laws_markText, ftt0_0, ftt0_1, ftt0_2, hb2, gx, Int.reduceToNat] <;> omega
  · simp (maxSteps := 2000000) (disch := first | omega | (simp only [ls]; first | done | omega)) only [ep_laws_heldIntS, ep_laws_markText, gx, Int.reduceToNat] <;> omega
  · intro x tt1 hh1 hx
    rcases ee0 with ⟨o19, o20⟩ | r
    · obtain ⟨rfl, ftt1_0, ftt1_1, ftt1_2⟩ := hx
      dsimp only at hp
      have hp := Option.some.inj hp
      subst hp
      simp (maxSteps := 2000000) (disch := first | omega | (simp only [ls]; first | done | omega)) only [ep_laws_heldIntS, ep_laws_markText, ftt1_0, ftt1_1, ftt1_2, gx, Int.reduceToNat]
    · obtain ⟨rfl, hx⟩ := hx
      dsimp only at hp
      cases hp
      simp only [seqK_ret, blockK_ret, retK_RK (K := Tells true), hx, and_self, true_and]

noncomputable def p_laws_FnExactBranchAhead (x0 : List TOp) (x1 : List TOp) : Option Bool :=
  (p_laws_szOpS x0 1048576).bind fun v0 =>
  if (decide (v0 < 0)) = true then
    some true
  else
    (p_laws_szOpS x1 v0).bind fun v2 =>
    if (decide (v2 < 0)) = true then
      some true
    else
      (p_laws_toOpS x0).bind fun v4 =>
      (p_laws_toOpS x1).bind fun v5 =>
      (p_spec_BranchAhead v4 v5).bind fun v6 =>
      (p_impl_BranchAhead v4 v5).bind fun v7 =>
      (p_laws_eqOpS v7.a v6.a).bind fun v8 =>
      if (v8) = true then
        if (decide (v7.b = v6.b)) = true then
          (p_laws_eqOpS v4 v4).bind fun v11 =>
          if (v11) = true then
            (p_laws_eqOpS v5 v5).bind fun v13 =>
            if (v13) = true then
              (p_laws_markOpS v4 1).bind fun v15 =>
              (p_laws_markOpS v5 v15.a).bind fun v16 =>
              if (decide (v16.a < 0)) = true then
                some false
              else
                (p_laws_markOpS v7.a 1).bind fun v18 =>
                (p_laws_heldOpS v18.b 1).bind fun v19 =>
                if (decide (v19 < 0)) = true then
                  some false
                else
                  if (decide (v19 = v18.a)) = true then
                    some true
                  else
                    some false
            else
              some false
          else
            some false
        else
          some false
      else
        some false
def c_laws_FnExactBranchAhead (f_laws_szOpS : Nat) (f_laws_toOpS : Nat) (f_spec_BranchAhead : Nat) (f_impl_BranchAhead : Nat) (f_laws_eqOpS : Nat) (f_laws_markOpS : Nat) (f_laws_heldOpS : Nat) : AFn := ⟨119, (.seq (.ops [⟨(.some 4), (.mv (.const (.bool false))), .none, []⟩]) (.seq (.ops [⟨(.some 5), (.mv (.const (.int .i64 1048576))), .none, []⟩]) (.seq (.ops [⟨(.some 17), (.mv (.tmp 0)), .none, []⟩, ⟨(.some 18), (.mv (.tmp 5)), .none, []⟩, ⟨(.some 19), (.call (2 * f_laws_szOpS) [(.tmp 17), (.tmp 18)]), .none, []⟩, ⟨(.some 5), (.mv (.tmp 19)), .none, []⟩]) (.seq (.seq (.ops [⟨(.some 20), (.mv (.tmp 5)), .none, []⟩, ⟨(.some 21), (.pu (.n (.ar .lss)) [(.tmp 20), (.const (.int .i64 0))]), .none, []⟩]) (.cond (.tmp 21) (.seq (.ops [⟨(.some 4), (.mv (.const (.bool true))), .none, []⟩]) .ret) .skip)) (.seq (.ops [⟨(.some 22), (.mv (.tmp 1)), .none, []⟩, ⟨(.some 23), (.mv (.tmp 5)), .none, []⟩, ⟨(.some 24), (.call (2 * f_laws_szOpS) [(.tmp 22), (.tmp 23)]), .none, []⟩, ⟨(.some 5), (.mv (.tmp 24)), .none, []⟩]) (.seq (.seq (.ops [⟨(.some 25), (.mv (.tmp 5)), .none, []⟩, ⟨(.some 26), (.pu (.n (.ar .lss)) [(.tmp 25), (.const (.int .i64 0))]), .none, []⟩]) (.cond (.tmp 26) (.seq (.ops [⟨(.some 4), (.mv (.const (.bool true))), .none, []⟩]) .ret) .skip)) (.seq (.ops [⟨(.some 28), (.mv (.tmp 0)), .none, []⟩, ⟨(.some 29), (.call (2 * f_laws_toOpS) [(.tmp 28)]), .none, []⟩, ⟨(.some 30), (.mv (.tmp 1)), .none, []⟩, ⟨(.some 31), (.call (2 * f_laws_toOpS) [(.tmp 30)]), .none, []⟩, ⟨(.some 32), (.call (2 * f_spec_BranchAhead) [(.tmp 29), (.tmp 31)]), .none, []⟩, ⟨(.some 27), (.mv (.tmp 32)), .none, []⟩, ⟨(.some 33), (.extract 0 (.tmp 27)), .none, []⟩, ⟨(.some 34), (.extract 1 (.tmp 27)), .none, []⟩, ⟨(.some 6), (.mv (.tmp 33)), .none, []⟩, ⟨(.some 7), (.mv (.tmp 34)), .none, []⟩]) (.seq (.ops [⟨(.some 35), (.mv (.tmp 0)), .none, []⟩, ⟨(.some 36), (.call (2 * f_laws_toOpS + 1) [(.tmp 35)]), .none, []⟩, ⟨(.some 8), (.mv (.tmp 36)), .none, []⟩]) (.seq (.ops [⟨(.some 37), (.mv (.tmp 1)), .none, []⟩, ⟨(.some 38), (.call (2 * f_laws_toOpS + 1) [(.tmp 37)]), .none, []⟩, ⟨(.some 9), (.mv (.tmp 38)), .none, []⟩]) (.seq (.ops [⟨(.some 40), (.mv (.tmp 8)), .none, []⟩, ⟨(.some 41), (.mv (.tmp 9)), .none, []⟩, ⟨(.some 42), (.call (2 * f_impl_BranchAhead + 1) [(.tmp 40), (.tmp 41)]), .none, []⟩, ⟨(.some 39), (.mv (.tmp 42)), .none, []⟩, ⟨(.some 43), (.extract 0 (.tmp 39)), .none, []⟩, ⟨(.some 44), (.extract 1 (.tmp 39)), .none, []⟩, ⟨(.some 10), (.mv (.tmp 43)), .none, []⟩, ⟨(.some 11), (.mv (.tmp 44)), .none, []⟩]) (.seq (.seq (.ops [⟨(.some 45), (.mv (.tmp 10)), .none, []⟩, ⟨(.some 46), (.mv (.tmp 6)), .none, []⟩, ⟨(.some 47), (.call (2 * f_laws_eqOpS) [(.tmp 45), (.tmp 46)]), .none, []⟩, ⟨(.some 48), (.pu (.n (.un .not)) [(.tmp 47)]), .none, []⟩, ⟨(.some 49), (.mv (.tmp 48)), .none, []⟩, ⟨(.some 50), (.mv (.tmp 11)), (.some (49, false)), []⟩, ⟨(.some 51), (.mv (.tmp 7)), (.some (49, false)), []⟩, ⟨(.some 52), (.pu (.n (.ar .neq)) [(.tmp 50), (.tmp 51)]), (.some (49, false)), []⟩, ⟨(.some 53), (.pick (.tmp 49) (.const (.bool true)) (.tmp 52)), .none, []⟩]) (.cond (.tmp 53) (.seq (.ops [⟨(.some 4), (.mv (.const (.bool false))), .none, []⟩]) .ret) .skip)) (.seq (.seq (.ops [⟨(.some 54), (.mv (.tmp 8)), .none, []⟩, ⟨(.some 55), (.mv (.tmp 0)), .none, []⟩, ⟨(.some 56), (.call (2 * f_laws_toOpS + 1) [(.tmp 55)]), .none, []⟩, ⟨(.some 57), (.call (2 * f_laws_eqOpS) [(.tmp 54), (.tmp 56)]), .none, []⟩, ⟨(.some 58), (.pu (.n (.un .not)) [(.tmp 57)]), .none, []⟩]) (.cond (.tmp 58) (.seq (.ops [⟨(.some 4), (.mv (.const (.bool false))), .none, []⟩]) .ret) .skip)) (.seq (.seq (.ops [⟨(.some 59), (.mv (.tmp 9)), .none, []⟩, ⟨(.some 60), (.mv (.tmp 1)), .none, []⟩, ⟨(.some 61), (.call (2 * f_laws_toOpS + 1) [(.tmp 60)]), .none, []⟩, ⟨(.some 62), (.call (2 * f_laws_eqOpS) [(.tmp 59), (.tmp 61)]), .none, []⟩, ⟨(.some 63), (.pu (.n (.un .not)) [(.tmp 62)]), .none, []⟩]) (.cond (.tmp 63) (.seq (.ops [⟨(.some 4), (.mv (.const (.bool false))), .none, []⟩]) .ret) .skip)) (.seq (.ops [⟨(.some 12), (.mv (.const (.int .i64 1))), .none, []⟩]) (.seq (.ops [⟨(.some 64), (.mv (.tmp 8)), .none, []⟩, ⟨(.some 65), (.mv (.tmp 12)), .none, []⟩, ⟨(.some 66), (.call (2 * f_laws_markOpS + 1) [(.tmp 64), (.tmp 65)]), .none, []⟩, ⟨(.some 12), (.mv (.tmp 66)), .none, []⟩]) (.seq (.ops [⟨(.some 67), (.mv (.tmp 9)), .none, []⟩, ⟨(.some 68), (.mv (.tmp 12)), .none, []⟩, ⟨(.some 69), (.call (2 * f_laws_markOpS + 1) [(.tmp 67), (.tmp 68)]), .none, []⟩, ⟨(.some 12), (.mv (.tmp 69)), .none, []⟩]) (.seq (.seq (.ops [⟨(.some 70), (.mv (.tmp 12)), .none, []⟩, ⟨(.some 71), (.pu (.n (.ar .lss)) [(.tmp 70), (.const (.int .i64 0))]), .none, []⟩, ⟨(.some 72), (.mv (.tmp 71)), .none, []⟩, ⟨(.some 73), (.mv (.tmp 10)), (.some (72, false)), []⟩, ⟨(.some 74), (.mv (.tmp 6)), (.some (72, false)), []⟩, ⟨(.some 75), (.call (2 * f_laws_eqOpS) [(.tmp 73), (.tmp 74)]), (.some (72, false)), []⟩, ⟨(.some 76), (.pu (.n (.un .not)) [(.tmp 75)]), (.some (72, false)), []⟩, ⟨(.some 77), (.pick (.tmp 72) (.const (.bool true)) (.tmp 76)), .none, []⟩, ⟨(.some 78), (.mv (.tmp 77)), .none, []⟩, ⟨(.some 79), (.mv (.tmp 11)), (.some (78, false)), []⟩, ⟨(.some 80), (.mv (.tmp 7)), (.some (78, false)), []⟩, ⟨(.some 81), (.pu (.n (.ar .neq)) [(.tmp 79), (.tmp 80)]), (.some (78, false)), []⟩, ⟨(.some 82), (.pick (.tmp 78) (.const (.bool true)) (.tmp 81)), .none, []⟩]) (.cond (.tmp 82) (.seq (.ops [⟨(.some 4), (.mv (.const (.bool false))), .none, []⟩]) .ret) .skip)) (.seq (.ops [⟨(.some 13), (.mv (.const (.int .i64 1))), .none, []⟩]) (.seq (.ops [⟨(.some 83), (.mv (.tmp 10)), .none, []⟩, ⟨(.some 84), (.mv (.tmp 13)), .none, []⟩, ⟨(.some 85), (.call (2 * f_laws_markOpS + 1) [(.tmp 83), (.tmp 84)]), .none, []⟩, ⟨(.some 13), (.mv (.tmp 85)), .none, []⟩]) (.seq (.ops [⟨(.some 14), (.mv (.const (.int .i64 1))), .none, []⟩]) (.seq (.ops [⟨(.some 86), (.mv (.tmp 10)), .none, []⟩, ⟨(.some 87), (.mv (.tmp 14)), .none, []⟩, ⟨(.some 88), (.call (2 * f_laws_heldOpS) [(.tmp 86), (.tmp 87)]), .none, []⟩, ⟨(.some 14), (.mv (.tmp 88)), .none, []⟩]) (.seq (.seq (.ops [⟨(.some 89), (.mv (.tmp 14)), .none, []⟩, ⟨(.some 90), (.pu (.n (.ar .lss)) [(.tmp 89), (.const (.int .i64 0))]), .none, []⟩]) (.cond (.tmp 90) (.seq (.ops [⟨(.some 4), (.mv (.const (.bool false))), .none, []⟩]) .ret) .skip)) (.seq (.seq (.ops [⟨(.some 91), (.mv (.tmp 14)), .none, []⟩, ⟨(.some 92), (.mv (.tmp 13)), .none, []⟩, ⟨(.some 93), (.pu (.n (.ar .neq)) [(.tmp 91), (.tmp 92)]), .none, []⟩]) (.cond (.tmp 93) (.seq (.ops [⟨(.some 4), (.mv (.const (.bool false))), .none, []⟩]) .ret) .skip)) (.seq (.ops [⟨(.some 95), (.mv (.tmp 0)), .none, []⟩, ⟨(.some 96), (.call (2 * f_laws_toOpS + 1) [(.tmp 95)]), .none, []⟩, ⟨(.some 97), (.mv (.tmp 1)), .none, []⟩, ⟨(.some 98), (.call (2 * f_laws_toOpS + 1) [(.tmp 97)]), .none, []⟩, ⟨(.some 99), (.call (2 * f_impl_BranchAhead + 1) [(.tmp 96), (.tmp 98)]), .none, []⟩, ⟨(.some 94), (.mv (.tmp 99)), .none, []⟩, ⟨(.some 100), (.extract 0 (.tmp 94)), .none, []⟩, ⟨(.some 101), (.extract 1 (.tmp 94)), .none, []⟩, ⟨(.some 15), (.mv (.tmp 100)), .none, []⟩, ⟨(.some 16), (.mv (.tmp 101)), .none, []⟩]) (.seq (.seq (.ops [⟨(.some 102), (.mv (.tmp 15)), .none, []⟩, ⟨(.some 103), (.mv (.tmp 6)), .none, []⟩, ⟨(.some 104), (.call (2 * f_laws_eqOpS) [(.tmp 102), (.tmp 103)]), .none, []⟩, ⟨(.some 105), (.pu (.n (.un .not)) [(.tmp 104)]), .none, []⟩, ⟨(.some 106), (.mv (.tmp 105)), .none, []⟩, ⟨(.some 107), (.mv (.tmp 16)), (.some (106, false)), []⟩, ⟨(.some 108), (.mv (.tmp 7)), (.some (106, false)), []⟩, ⟨(.some 109), (.pu (.n (.ar .neq)) [(.tmp 107), (.tmp 108)]), (.some (106, false)), []⟩, ⟨(.some 110), (.pick (.tmp 106) (.const (.bool true)) (.tmp 109)), .none, []⟩]) (.cond (.tmp 110) (.seq (.ops [⟨(.some 4), (.mv (.const (.bool false))), .none, []⟩]) .ret) .skip)) (.seq (.ops [⟨(.some 14), (.mv (.const (.int .i64 1))), .none, []⟩]) (.seq (.ops [⟨(.some 111), (.mv (.tmp 10)), .none, []⟩, ⟨(.some 112), (.mv (.tmp 14)), .none, []⟩, ⟨(.some 113), (.call (2 * f_laws_heldOpS) [(.tmp 111), (.tmp 112)]), .none, []⟩, ⟨(.some 14), (.mv (.tmp 113)), .none, []⟩]) (.seq (.seq (.ops [⟨(.some 114), (.mv (.tmp 14)), .none, []⟩, ⟨(.some 115), (.pu (.n (.ar .lss)) [(.tmp 114), (.const (.int .i64 0))]), .none, []⟩]) (.cond (.tmp 115) (.seq (.ops [⟨(.some 4), (.mv (.const (.bool false))), .none, []⟩]) .ret) .skip)) (.seq (.seq (.ops [⟨(.some 116), (.mv (.tmp 14)), .none, []⟩, ⟨(.some 117), (.mv (.tmp 13)), .none, []⟩, ⟨(.some 118), (.pu (.n (.ar .neq)) [(.tmp 116), (.tmp 117)]), .none, []⟩]) (.cond (.tmp 118) (.seq (.ops [⟨(.some 4), (.mv (.const (.bool false))), .none, []⟩]) .ret) .skip)) (.seq (.ops [⟨(.some 4), (.mv (.const (.bool true))), .none, []⟩]) .ret)))))))))))))))))))))))))))))), [(.tmp 4)]⟩
set_option maxHeartbeats 10000000 in
theorem d_laws_FnExactBranchAhead {P : Program} {env : Env} {f_laws_szOpS : Nat} {f_laws_toOpS : Nat} {f_spec_BranchAhead : Nat} {f_impl_BranchAhead : Nat} {f_laws_eqOpS : Nat} {f_laws_markOpS : Nat} {f_laws_heldOpS : Nat}  (ep_laws_szOpS : env (2 * f_laws_szOpS) = pureFn true (FA fun a : List TOp × Int => p_laws_szOpS a.1 a.2)) (ep_laws_toOpS : env (2 * f_laws_toOpS) = pureFn false (FA fun a : List TOp => p_laws_toOpS a)) (ep_spec_BranchAhead : env (2 * f_spec_BranchAhead) = pureFn false (FA fun a : List TOp × List TOp => p_spec_BranchAhead a.1 a.2)) (ep_laws_eqOpS : env (2 * f_laws_eqOpS) = pureFn true (FA fun a : List TOp × List TOp => p_laws_eqOpS a.1 a.2)) (ep_laws_heldOpS : env (2 * f_laws_heldOpS) = pureFn true (FA fun a : List TOp × Int => p_laws_heldOpS a.1 a.2)) (e_laws_toOpS : k_laws_toOpS (env (2 * f_laws_toOpS + 1))) (e_impl_BranchAhead : k_impl_BranchAhead (env (2 * f_impl_BranchAhead + 1))) (e_laws_markOpS : k_laws_markOpS (env (2 * f_laws_markOpS + 1))) (x0 : List TOp) (x1 : List TOp) (hp : p_laws_FnExactBranchAhead x0 x1 = some true) : R P env (c_laws_FnExactBranchAhead f_laws_szOpS f_laws_toOpS f_spec_BranchAhead f_impl_BranchAhead f_laws_eqOpS f_laws_markOpS f_laws_heldOpS) ((encA (x0, x1)).map ofI) [] (fun v _ => v = .i (iB true)) := by
  refine R_of (by simp [c_laws_FnExactBranchAhead, encA]) ?_
  unfold c_laws_FnExactBranchAhead
  unfold p_laws_FnExactBranchAhead at hp
  obtain ⟨v0, hv0, hp⟩ := bind_eq hp
  by_cases hb1 : (decide (v0 < 0)) = true
  · rw [if_t hb1] at hp
    cases hp
    simp (maxSteps := 2000000) (disch := first | omega | (simp only [ls]; first | done | omega)) only [ep_laws_szOpS, ep_laws_toOpS, ep_spec_BranchAhead, ep_laws_eqOpS, ep_laws_heldOpS, hv0, hb1, gx, Int.reduceToNat]
  · replace hb1 := eq_false_of_ne_true hb1
    rw [if_f hb1] at hp
    obtain ⟨v2, hv2, hp⟩ := bind_eq hp
    by_cases hb3 : (decide (v2 < 0)) = true
    · rw [if_t hb3] at hp
      cases hp
      simp (maxSteps := 2000000) (disch := first | omega | (simp only [ls]; first | done | omega)) only [ep_laws_szOpS, ep_laws_toOpS, ep_spec_BranchAhead, ep_laws_eqOpS, ep_laws_heldOpS, hv0, hb1, hv2, hb3, gx, Int.reduceToNat]
    · replace hb3 := eq_false_of_ne_true hb3
      rw [if_f hb3] at hp
      obtain ⟨v4, hv4, hp⟩ := bind_eq hp
      obtain ⟨v5, hv5, hp⟩ := bind_eq hp
      obtain ⟨v6, hv6, hp⟩ := bind_eq hp
      simp (maxSteps := 2000000) (disch := first | omega | (simp only [ls]; first | done | omega)) only [ep_laws_szOpS, ep_laws_toOpS, ep_spec_BranchAhead, ep_laws_eqOpS, ep_laws_heldOpS, hv0, hb1, hv2, hb3, hv4, hv5, hv6, gx, Int.reduceToNat]
      refine call_f (fun h => True) (fun h v h2 => oo_laws_toOpS v4 h v h2) ?_ ?_ ?_
      · simp (maxSteps := 2000000) (disch := first | omega | (simp only [ls]; first | done | omega)) only [ep_laws_szOpS, ep_laws_toOpS, ep_spec_BranchAhead, ep_laws_eqOpS, ep_laws_heldOpS, hv0, hb1, hv2, hb3, hv4, hv5, hv6, gx, Int.reduceToNat] <;> (repeat (first | refine And.intro ?_ ?_ | assumption | exact nest_ext (by assumption) | exact nest_wide (by assumption) (Nat.zero_le _) (by first | omega | (simp; omega)) (Nat.le_refl _) | exact nest_wide (nest_ext (by assumption)) (Nat.zero_le _) (by first | omega | (simp; omega)) (Nat.le_refl _) | exact nest_virt (by simp (maxSteps := 2000000) (disch := first | omega | (simp only [ls]; first | done | omega)) only [ep_laws_szOpS, ep_laws_toOpS, ep_spec_BranchAhead, ep_laws_eqOpS, ep_laws_heldOpS, hv0, hb1, hv2, hb3, hv4, hv5, hv6, gx, Int.reduceToNat]) (by omega) (by first | omega | (simp; done) | (simp; omega)) (by first | omega | (simp; done) | (simp; omega)) | refine nest_ext ?_ | refine nest_set ?_ (by omega) | omega))
      · rintro h _
        exact e_laws_toOpS _ _ hv4 h _ (by simp (maxSteps := 2000000) (disch := first | omega | (simp only [ls]; first | done | omega)) only [ep_laws_szOpS, ep_laws_toOpS, ep_spec_BranchAhead, ep_laws_eqOpS, ep_laws_heldOpS, hv0, hb1, hv2, hb3, hv4, hv5, hv6, gx, Int.reduceToNat])
      · rintro hc0 nb0_0 hh0 _ hpost
        obtain ⟨kk0, _, rfl, wnb0_0⟩ := hpost
        have d0_0 := wnb0_0
        have d0_0l := nest_lt d0_0
        have d0_0s : snap 9 false hh0 nb0_0 = some (.sl 12 (v4.map enc)) := snap_nest (n := 5) d0_0
        have d0_0n : lenS nb0_0 = some v4.length := nest_lenS d0_0
        simp (maxSteps := 2000000) (disch := first | omega | (simp only [ls]; first | done | omega)) only [ep_laws_szOpS, ep_laws_toOpS, ep_spec_BranchAhead, ep_laws_eqOpS, ep_laws_heldOpS, hv0, hb1, hv2, hb3, hv4, hv5, hv6, d0_0, d0_0s, d0_0n, gx, Int.reduceToNat]
        refine call_f (fun h => NestV h hc0.length hh0.length nb0_0 (v4 : List TOp) ∧ hh0.length ≤ h.length) (fun h v h2 => oo_laws_toOpS v5 h v h2) ?_ ?_ ?_
        · simp (maxSteps := 2000000) (disch := first | omega | (simp only [ls]; first | done | omega)) only [ep_laws_szOpS, ep_laws_toOpS, ep_spec_BranchAhead, ep_laws_eqOpS, ep_laws_heldOpS, hv0, hb1, hv2, hb3, hv4, hv5, hv6, d0_0, d0_0s, d0_0n, gx, Int.reduceToNat] <;> (repeat (first | refine And.intro ?_ ?_ | assumption | exact nest_ext (by assumption) | exact nest_wide (by assumption) (Nat.zero_le _) (by first | omega | (simp; omega)) (Nat.le_refl _) | exact nest_wide (nest_ext (by assumption)) (Nat.zero_le _) (by first | omega | (simp; omega)) (Nat.le_refl _) | exact nest_virt (by simp (maxSteps := 2000000) (disch := first | omega | (simp only [ls]; first | done | omega)) only [ep_laws_szOpS, ep_laws_toOpS, ep_spec_BranchAhead, ep_laws_eqOpS, ep_laws_heldOpS, hv0, hb1, hv2, hb3, hv4, hv5, hv6, d0_0, d0_0s, d0_0n, gx, Int.reduceToNat]) (by omega) (by first | omega | (simp; done) | (simp; omega)) (by first | omega | (simp; done) | (simp; omega)) | refine nest_ext ?_ | refine nest_set ?_ (by omega) | omega))
        · rintro h ⟨c1_0, c1_1⟩
          have sc1_0 : snap 9 false h nb0_0 = some (.sl 12 (v4.map enc)) := snap_nest (n := 5) c1_0
          exact e_laws_toOpS _ _ hv5 h _ (by simp (maxSteps := 2000000) (disch := first | omega | (simp only [ls]; first | done | omega)) only [ep_laws_szOpS, ep_laws_toOpS, ep_spec_BranchAhead, ep_laws_eqOpS, ep_laws_heldOpS, hv0, hb1, hv2, hb3, hv4, hv5, hv6, d0_0, d0_0s, d0_0n, c1_0, c1_1, sc1_0, gx, Int.reduceToNat])
        · rintro hc1 nb1_0 hh1 ⟨c1_0, c1_1⟩ hpost
          obtain ⟨kk1, _, rfl, wnb1_0⟩ := hpost
          have d1_0 : NestV hh1 hc0.length hh0.length nb0_0 (v4 : List TOp) := nest_keep c1_0 kk1 (by intro b hb; first | (simp at hb; done) | (simp at hb; omega))
          have d1_0l := nest_lt d1_0
          have d1_0s : snap 9 false hh1 nb0_0 = some (.sl 12 (v4.map enc)) := snap_nest (n := 5) d1_0
          have d1_0n : lenS nb0_0 = some v4.length := nest_lenS d1_0
          have d1_1 := wnb1_0
          have d1_1l := nest_lt d1_1
          have d1_1s : snap 9 false hh1 nb1_0 = some (.sl 12 (v5.map enc)) := snap_nest (n := 5) d1_1
          have d1_1n : lenS nb1_0 = some v5.length := nest_lenS d1_1
          obtain ⟨v7, hv7, hp⟩ := bind_eq hp
          simp (maxSteps := 2000000) (disch := first | omega | (simp only [ls]; first | done | omega)) only [ep_laws_szOpS, ep_laws_toOpS, ep_spec_BranchAhead, ep_laws_eqOpS, ep_laws_heldOpS, hv0, hb1, hv2, hb3, hv4, hv5, hv6, d0_0, d0_0s, d0_0n, d1_0, d1_0s, d1_0n, d1_1, d1_1s, d1_1n, gx, Int.reduceToNat]
          refine call_f (fun h => NestV h hc0.length hh0.length nb0_0 (v4 : List TOp) ∧ hh0.length ≤ h.length ∧ NestV h hc1.length hh1.length nb1_0 (v5 : List TOp) ∧ hh1.length ≤ h.length) (fun h v h2 => oo_impl_BranchAhead v7 h v h2) ?_ ?_ ?_
          · simp (maxSteps := 2000000) (disch := first | omega | (simp only [ls]; first | done | omega)) only [ep_laws_szOpS, ep_laws_toOpS, ep_spec_BranchAhead, ep_laws_eqOpS, ep_laws_heldOpS, hv0, hb1, hv2, hb3, hv4, hv5, hv6, d0_0, d0_0s, d0_0n, d1_0, d1_0s, d1_0n, d1_1, d1_1s, d1_1n, hv7, gx, Int.reduceToNat] <;> (repeat (first | refine And.intro ?_ ?_ | assumption | exact nest_ext (by assumption) | exact nest_wide (by assumption) (Nat.zero_le _) (by first | omega | (simp; omega)) (Nat.le_refl _) | exact nest_wide (nest_ext (by assumption)) (Nat.zero_le _) (by first | omega | (simp; omega)) (Nat.le_refl _) | exact nest_virt (by simp (maxSteps := 2000000) (disch := first | omega | (simp only [ls]; first | done | omega)) only [ep_laws_szOpS, ep_laws_toOpS, ep_spec_BranchAhead, ep_laws_eqOpS, ep_laws_heldOpS, hv0, hb1, hv2, hb3, hv4, hv5, hv6, d0_0, d0_0s, d0_0n, d1_0, d1_0s, d1_0n, d1_1, d1_1s, d1_1n, hv7, gx, Int.reduceToNat]) (by omega) (by first | omega | (simp; done) | (simp; omega)) (by first | omega | (simp; done) | (simp; omega)) | refine nest_ext ?_ | refine nest_set ?_ (by omega) | omega))
          · rintro h ⟨c2_0, c2_1, c2_2, c2_3⟩
            have sc2_0 : snap 9 false h nb0_0 = some (.sl 12 (v4.map enc)) := snap_nest (n := 5) c2_0
            have sc2_1 : snap 9 false h nb1_0 = some (.sl 12 (v5.map enc)) := snap_nest (n := 5) c2_2
            exact e_impl_BranchAhead _ _ _ hv7 h _ (by simp (maxSteps := 2000000) (disch := first | omega | (simp only [ls]; first | done | omega)) only [ep_laws_szOpS, ep_laws_toOpS, ep_spec_BranchAhead, ep_laws_eqOpS, ep_laws_heldOpS, hv0, hb1, hv2, hb3, hv4, hv5, hv6, d0_0, d0_0s, d0_0n, d1_0, d1_0s, d1_0n, d1_1, d1_1s, d1_1n, hv7, c2_0, c2_1, c2_2, c2_3, sc2_0, sc2_1, gx, Int.reduceToNat])
          · rintro hc2 v hh2 ⟨c2_0, c2_1, c2_2, c2_3⟩ hpost
            obtain ⟨kk2, nb2_0, rfl, wnb2_0⟩ := hpost
            have d2_0 : NestV hh2 hc0.length hh0.length nb0_0 (v4 : List TOp) := nest_keep c2_0 kk2 (by intro b hb; first | (simp at hb; done) | (simp at hb; omega))
            have d2_0l := nest_lt d2_0
            have d2_0s : snap 9 false hh2 nb0_0 = some (.sl 12 (v4.map enc)) := snap_nest (n := 5) d2_0
            have d2_0n : lenS nb0_0 = some v4.length := nest_lenS d2_0
            have d2_1 : NestV hh2 hc1.length hh1.length nb1_0 (v5 : List TOp) := nest_keep c2_2 kk2 (by intro b hb; first | (simp at hb; done) | (simp at hb; omega))
            have d2_1l := nest_lt d2_1
            have d2_1s : snap 9 false hh2 nb1_0 = some (.sl 12 (v5.map enc)) := snap_nest (n := 5) d2_1
            have d2_1n : lenS nb1_0 = some v5.length := nest_lenS d2_1
            have d2_2 := wnb2_0
            have d2_2l := nest_lt d2_2
            have d2_2s : snap 9 false hh2 nb2_0 = some (.sl 12 (v7.a.map enc)) := snap_nest (n := 5) d2_2
            have d2_2n : lenS nb2_0 = some v7.a.length := nest_lenS d2_2
            obtain ⟨v8, hv8, hp⟩ := bind_eq hp
            by_cases hb9 : (v8) = true
            · rw [if_t hb9] at hp
              by_cases hb10 : (decide (v7.b = v6.b)) = true
              · rw [if_t hb10] at hp
                simp (maxSteps := 2000000) (disch := first | omega | (simp only [ls]; first | done | omega)) only [ep_laws_szOpS, ep_laws_toOpS, ep_spec_BranchAhead, ep_laws_eqOpS, ep_laws_heldOpS, hv0, hb1, hv2, hb3, hv4, hv5, hv6, d0_0, d0_0s, d0_0n, d1_0, d1_0s, d1_0n, d1_1, d1_1s, d1_1n, hv7, d2_0, d2_0s, d2_0n, d2_1, d2_1s, d2_1n, d2_2, d2_2s, d2_2n, hv8, hb9, hb10, gx, Int.reduceToNat]
                refine call_f (fun h => NestV h hc0.length hh0.length nb0_0 (v4 : List TOp) ∧ hh0.length ≤ h.length ∧ NestV h hc1.length hh1.length nb1_0 (v5 : List TOp) ∧ hh1.length ≤ h.length ∧ NestV h hc2.length hh2.length nb2_0 (v7.a : List TOp) ∧ hh2.length ≤ h.length) (fun h v h2 => oo_laws_toOpS v4 h v h2) ?_ ?_ ?_
                · simp (maxSteps := 2000000) (disch := first | omega | (simp only [ls]; first | done | omega)) only [ep_laws_szOpS, ep_laws_toOpS, ep_spec_BranchAhead, ep_laws_eqOpS, ep_laws_heldOpS, hv0, hb1, hv2, hb3, hv4, hv5, hv6, d0_0, d0_0s, d0_0n, d1_0, d1_0s, d1_0n, d1_1, d1_1s, d1_1n, hv7, d2_0, d2_0s, d2_0n, d2_1, d2_1s, d2_1n, d2_2, d2_2s, d2_2n, hv8, hb9, hb10, gx, Int.reduceToNat] <;> (repeat (first | refine And.intro ?_ ?_ | assumption | exact nest_ext (by assumption) | exact nest_wide (by assumption) (Nat.zero_le _) (by first | omega | (simp; omega)) (Nat.le_refl _) | exact nest_wide (nest_ext (by assumption)) (Nat.zero_le _) (by first | omega | (simp; omega)) (Nat.le_refl _) | exact nest_virt (by simp (maxSteps := 2000000) (disch := first | omega | (simp only [ls]; first | done | omega)) only [ep_laws_szOpS, ep_laws_toOpS, ep_spec_BranchAhead, ep_laws_eqOpS, ep_laws_heldOpS, hv0, hb1, hv2, hb3, hv4, hv5, hv6, d0_0, d0_0s, d0_0n, d1_0, d1_0s, d1_0n, d1_1, d1_1s, d1_1n, hv7, d2_0, d2_0s, d2_0n, d2_1, d2_1s, d2_1n, d2_2, d2_2s, d2_2n, hv8, hb9, hb10, gx, Int.reduceToNat]) (by omega) (by first | omega | (simp; done) | (simp; omega)) (by first | omega | (simp; done) | (simp; omega)) | refine nest_ext ?_ | refine nest_set ?_ (by omega) | omega))
                · rintro h ⟨c3_0, c3_1, c3_2, c3_3, c3_4, c3_5⟩
                  have sc3_0 : snap 9 false h nb0_0 = some (.sl 12 (v4.map enc)) := snap_nest (n := 5) c3_0
                  have sc3_1 : snap 9 false h nb1_0 = some (.sl 12 (v5.map enc)) := snap_nest (n := 5) c3_2
                  have sc3_2 : snap 9 false h nb2_0 = some (.sl 12 (v7.a.map enc)) := snap_nest (n := 5) c3_4
                  exact e_laws_toOpS _ _ hv4 h _ (by simp (maxSteps := 2000000) (disch := first | omega | (simp only [ls]; first | done | omega)) only [ep_laws_szOpS, ep_laws_toOpS, ep_spec_BranchAhead, ep_laws_eqOpS, ep_laws_heldOpS, hv0, hb1, hv2, hb3, hv4, hv5, hv6, d0_0, d0_0s, d0_0n, d1_0, d1_0s, d1_0n, d1_1, d1_1s, d1_1n, hv7, d2_0, d2_0s, d2_0n, d2_1, d2_1s, d2_1n, d2_2, d2_2s, d2_2n, hv8, hb9, hb10, c3_0, c3_1, c3_2, c3_3, c3_4, c3_5, sc3_0, sc3_1, sc3_2, gx, Int.reduceToNat])
                · rintro hc3 nb3_0 hh3 ⟨c3_0, c3_1, c3_2, c3_3, c3_4, c3_5⟩ hpost
                  obtain ⟨kk3, _, rfl, wnb3_0⟩ := hpost
                  have d3_0 : NestV hh3 hc0.length hh0.length nb0_0 (v4 : List TOp) := nest_keep c3_0 kk3 (by intro b hb; first | (simp at hb; done) | (simp at hb; omega))
                  have d3_0l := nest_lt d3_0
                  have d3_0s : snap 9 false hh3 nb0_0 = some (.sl 12 (v4.map enc)) := snap_nest (n := 5) d3_0
                  have d3_0n : lenS nb0_0 = some v4.length := nest_lenS d3_0
                  have d3_1 : NestV hh3 hc1.length hh1.length nb1_0 (v5 : List TOp) := nest_keep c3_2 kk3 (by intro b hb; first | (simp at hb; done) | (simp at hb; omega))
                  have d3_1l := nest_lt d3_1
                  have d3_1s : snap 9 false hh3 nb1_0 = some (.sl 12 (v5.map enc)) := snap_nest (n := 5) d3_1
                  have d3_1n : lenS nb1_0 = some v5.length := nest_lenS d3_1
                  have d3_2 : NestV hh3 hc2.length hh2.length nb2_0 (v7.a : List TOp) := nest_keep c3_4 kk3 (by intro b hb; first | (simp at hb; done) | (simp at hb; omega))
                  have d3_2l := nest_lt d3_2
                  have d3_2s : snap 9 false hh3 nb2_0 = some (.sl 12 (v7.a.map enc)) := snap_nest (n := 5) d3_2
                  have d3_2n : lenS nb2_0 = some v7.a.length := nest_lenS d3_2
                  have d3_3 := wnb3_0
                  have d3_3l := nest_lt d3_3
                  have d3_3s : snap 9 false hh3 nb3_0 = some (.sl 12 (v4.map enc)) := snap_nest (n := 5) d3_3
                  have d3_3n : lenS nb3_0 = some v4.length := nest_lenS d3_3
                  obtain ⟨v11, hv11, hp⟩ := bind_eq hp
                  by_cases hb12 : (v11) = true
                  · rw [if_t hb12] at hp
                    simp (maxSteps := 2000000) (disch := first | omega | (simp only [ls]; first | done | omega)) only [ep_laws_szOpS, ep_laws_toOpS, ep_spec_BranchAhead, ep_laws_eqOpS, ep_laws_heldOpS, hv0, hb1, hv2, hb3, hv4, hv5, hv6, d0_0, d0_0s, d0_0n, d1_0, d1_0s, d1_0n, d1_1, d1_1s, d1_1n, hv7, d2_0, d2_0s, d2_0n, d2_1, d2_1s, d2_1n, d2_2, d2_2s, d2_2n, hv8, hb9, hb10, d3_0, d3_0s, d3_0n, d3_1, d3_1s, d3_1n, d3_2, d3_2s, d3_2n, d3_3, d3_3s, d3_3n, hv11, hb12, gx, Int.reduceToNat]
                    refine call_f (fun h => NestV h hc0.length hh0.length nb0_0 (v4 : List TOp) ∧ hh0.length ≤ h.length ∧ NestV h hc1.length hh1.length nb1_0 (v5 : List TOp) ∧ hh1.length ≤ h.length ∧ NestV h hc2.length hh2.length nb2_0 (v7.a : List TOp) ∧ hh2.length ≤ h.length ∧ NestV h hc3.length hh3.length nb3_0 (v4 : List TOp) ∧ hh3.length ≤ h.length) (fun h v h2 => oo_laws_toOpS v5 h v h2) ?_ ?_ ?_
                    · simp (maxSteps := 2000000) (disch := first | omega | (simp only [ls]; first | done | omega)) only [ep_laws_szOpS, ep_laws_toOpS, ep_spec_BranchAhead, ep_laws_eqOpS, ep_laws_heldOpS, hv0, hb1, hv2, hb3, hv4, hv5, hv6, d0_0, d0_0s, d0_0n, d1_0, d1_0s, d1_0n, d1_1, d1_1s, d1_1n, hv7, d2_0, d2_0s, d2_0n, d2_1, d2_1s, d2_1n, d2_2, d2_2s, d2_2n, hv8, hb9, hb10, d3_0, d3_0s, d3_0n, d3_1, d3_1s, d3_1n, d3_2, d3_2s, d3_2n, d3_3, d3_3s, d3_3n, hv11, hb12, gx, Int.reduceToNat] <;> (repeat (first | refine And.intro ?_ ?_ | assumption | exact nest_ext (by assumption) | exact nest_wide (by assumption) (Nat.zero_le _) (by first | omega | (simp; omega)) (Nat.le_refl _) | exact nest_wide (nest_ext (by assumption)) (Nat.zero_le _) (by first | omega | (simp; omega)) (Nat.le_refl _) | exact nest_virt (by simp (maxSteps := 2000000) (disch := first | omega | (simp only [ls]; first | done | omega)) only [ep_laws_szOpS, ep_laws_toOpS, ep_spec_BranchAhead, ep_laws_eqOpS, ep_laws_heldOpS, hv0, hb1, hv2, hb3, hv4, hv5, hv6, d0_0, d0_0s, d0_0n, d1_0, d1_0s, d1_0n, d1_1, d1_1s, d1_1n, hv7, d2_0, d2_0s, d2_0n, d2_1, d2_1s, d2_1n, d2_2, d2_2s, d2_2n, hv8, hb9, hb10, d3_0, d3_0s, d3_0n, d3_1, d3_1s, d3_1n, d3_2, d3_2s, d3_2n, d3_3, d3_3s, d3_3n, hv11, hb12, gx, Int.reduceToNat]) (by omega) (by first | omega | (simp; done) | (simp; omega)) (by first | omega | (simp; done) | (simp; omega)) | refine nest_ext ?_ | refine nest_set ?_ (by omega) | omega))
                    · rintro h ⟨c4_0, c4_1, c4_2, c4_3, c4_4, c4_5, c4_6, c4_7⟩
                      have sc4_0 : snap 9 false h nb0_0 = some (.sl 12 (v4.map enc)) := snap_nest (n := 5) c4_0
                      have sc4_1 : snap 9 false h nb1_0 = some (.sl 12 (v5.map enc)) := snap_nest (n := 5) c4_2
                      have sc4_2 : snap 9 false h nb2_0 = some (.sl 12 (v7.a.map enc)) := snap_nest (n := 5) c4_4
                      have sc4_3 : snap 9 false h nb3_0 = some (.sl 12 (v4.map enc)) := snap_nest (n := 5) c4_6
                      exact e_laws_toOpS _ _ hv5 h _ (by simp (maxSteps := 2000000) (disch := first | omega | (simp only [ls]; first | done | omega)) only [ep_laws_szOpS, ep_laws_toOpS, ep_spec_BranchAhead, ep_laws_eqOpS, ep_laws_heldOpS, hv0, hb1, hv2, hb3, hv4, hv5, hv6, d0_0, d0_0s, d0_0n, d1_0, d1_0s, d1_0n, d1_1, d1_1s, d1_1n, hv7, d2_0, d2_0s, d2_0n, d2_1, d2_1s, d2_1n, d2_2, d2_2s, d2_2n, hv8, hb9, hb10, d3_0, d3_0s, d3_0n, d3_1, d3_1s, d3_1n, d3_2, d3_2s, d3_2n, d3_3, d3_3s, d3_3n, hv11, hb12, c4_0, c4_1, c4_2, c4_3, c4_4, c4_5, c4_6, c4_7, sc4_0, sc4_1, sc4_2, sc4_3, gx, Int.reduceToNat])
                    · rintro hc4 nb4_0 hh4 ⟨c4_0, c4_1, c4_2, c4_3, c4_4, c4_5, c4_6, c4_7⟩ hpost
                      obtain ⟨kk4, _, rfl, wnb4_0⟩ := hpost
                      have d4_0 : NestV hh4 hc0.length hh0.length nb0_0 (v4 : List TOp) := nest_keep c4_0 kk4 (by intro b hb; first | (simp at hb; done) | (simp at hb; omega))
                      have d4_0l := nest_lt d4_0
                      have d4_0s : snap 9 false hh4 nb0_0 = some (.sl 12 (v4.map enc)) := snap_nest (n := 5) d4_0
                      have d4_0n : lenS nb0_0 = some v4.length := nest_lenS d4_0
                      have d4_1 : NestV hh4 hc1.length hh1.length nb1_0 (v5 : List TOp) := nest_keep c4_2 kk4 (by intro b hb; first | (simp at hb; done) | (simp at hb; omega))
                      have d4_1l := nest_lt d4_1
                      have d4_1s : snap 9 false hh4 nb1_0 = some (.sl 12 (v5.map enc)) := snap_nest (n := 5) d4_1
                      have d4_1n : lenS nb1_0 = some v5.length := nest_lenS d4_1
                      have d4_2 : NestV hh4 hc2.length hh2.length nb2_0 (v7.a : List TOp) := nest_keep c4_4 kk4 (by intro b hb; first | (simp at hb; done) | (simp at hb; omega))
                      have d4_2l := nest_lt d4_2
                      have d4_2s : snap 9 false hh4 nb2_0 = some (.sl 12 (v7.a.map enc)) := snap_nest (n := 5) d4_2
                      have d4_2n : lenS nb2_0 = some v7.a.length := nest_lenS d4_2
                      have d4_3 : NestV hh4 hc3.length hh3.length nb3_0 (v4 : List TOp) := nest_keep c4_6 kk4 (by intro b hb; first | (simp at hb; done) | (simp at hb; omega))
                      have d4_3l := nest_lt d4_3
                      have d4_3s : snap 9 false hh4 nb3_0 = some (.sl 12 (v4.map enc)) := snap_nest (n := 5) d4_3
                      have d4_3n : lenS nb3_0 = some v4.length := nest_lenS d4_3
                      have d4_4 := wnb4_0
                      have d4_4l := nest_lt d4_4
                      have d4_4s : snap 9 false hh4 nb4_0 = some (.sl 12 (v5.map enc)) := snap_nest (n := 5) d4_4
                      have d4_4n : lenS nb4_0 = some v5.length := nest_lenS d4_4
                      obtain ⟨v13, hv13, hp⟩ := bind_eq hp
                      by_cases hb14 : (v13) = true
                      · rw [if_t hb14] at hp
                        obtain ⟨v15, hv15, hp⟩ := bind_eq hp
                        simp (maxSteps := 2000000) (disch := first | omega | (simp only [ls]; first | done | omega)) only [ep_laws_szOpS, ep_laws_toOpS, ep_spec_BranchAhead, ep_laws_eqOpS, ep_laws_heldOpS, hv0, hb1, hv2, hb3, hv4, hv5, hv6, d0_0, d0_0s, d0_0n, d1_0, d1_0s, d1_0n, d1_1, d1_1s, d1_1n, hv7, d2_0, d2_0s, d2_0n, d2_1, d2_1s, d2_1n, d2_2, d2_2s, d2_2n, hv8, hb9, hb10, d3_0, d3_0s, d3_0n, d3_1, d3_1s, d3_1n, d3_2, d3_2s, d3_2n, d3_3, d3_3s, d3_3n, hv11, hb12, d4_0, d4_0s, d4_0n, d4_1, d4_1s, d4_1n, d4_2, d4_2s, d4_2n, d4_3, d4_3s, d4_3n, d4_4, d4_4s, d4_4n, hv13, hb14, gx, Int.reduceToNat]
                        refine call_f (fun h => NestV h hc0.length hh0.length nb0_0 (v4 : List TOp) ∧ hh0.length ≤ h.length ∧ NestV h hc1.length hh1.length nb1_0 (v5 : List TOp) ∧ hh1.length ≤ h.length ∧ NestV h hc2.length hh2.length nb2_0 (v7.a : List TOp) ∧ hh2.length ≤ h.length ∧ NestV h hc3.length hh3.length nb3_0 (v4 : List TOp) ∧ hh3.length ≤ h.length ∧ NestV h hc4.length hh4.length nb4_0 (v5 : List TOp) ∧ hh4.length ≤ h.length) (fun h v h2 => i_laws_markOpS hc0.length hh0.length nb0_0 h v15 v h2) ?_ ?_ ?_
                        · simp (maxSteps := 2000000) (disch := first | omega | (simp only [ls]; first | done | omega)) only [ep_laws_szOpS, ep_laws_toOpS, ep_spec_BranchAhead, ep_laws_eqOpS, ep_laws_heldOpS, hv0, hb1, hv2, hb3, hv4, hv5, hv6, d0_0, d0_0s, d0_0n, d1_0, d1_0s, d1_0n, d1_1, d1_1s, d1_1n, hv7, d2_0, d2_0s, d2_0n, d2_1, d2_1s, d2_1n, d2_2, d2_2s, d2_2n, hv8, hb9, hb10, d3_0, d3_0s, d3_0n, d3_1, d3_1s, d3_1n, d3_2, d3_2s, d3_2n, d3_3, d3_3s, d3_3n, hv11, hb12, d4_0, d4_0s, d4_0n, d4_1, d4_1s, d4_1n, d4_2, d4_2s, d4_2n, d4_3, d4_3s, d4_3n, d4_4, d4_4s, d4_4n, hv13, hb14, hv15, gx, Int.reduceToNat] <;> (repeat (first | refine And.intro ?_ ?_ | assumption | exact nest_ext (by assumption) | exact nest_wide (by assumption) (Nat.zero_le _) (by first | omega | (simp; omega)) (Nat.le_refl _) | exact nest_wide (nest_ext (by assumption)) (Nat.zero_le _) (by first | omega | (simp; omega)) (Nat.le_refl _) | exact nest_virt (by simp (maxSteps := 2000000) (disch := first | omega | (simp only [ls]; first | done | omega)) only [ep_laws_szOpS, ep_laws_toOpS, ep_spec_BranchAhead, ep_laws_eqOpS, ep_laws_heldOpS, hv0, hb1, hv2, hb3, hv4, hv5, hv6, d0_0, d0_0s, d0_0n, d1_0, d1_0s, d1_0n, d1_1, d1_1s, d1_1n, hv7, d2_0, d2_0s, d2_0n, d2_1, d2_1s, d2_1n, d2_2, d2_2s, d2_2n, hv8, hb9, hb10, d3_0, d3_0s, d3_0n, d3_1, d3_1s, d3_1n, d3_2, d3_2s, d3_2n, d3_3, d3_3s, d3_3n, hv11, hb12, d4_0, d4_0s, d4_0n, d4_1, d4_1s, d4_1n, d4_2, d4_2s, d4_2n, d4_3, d4_3s, d4_3n, d4_4, d4_4s, d4_4n, hv13, hb14, hv15, gx, Int.reduceToNat]) (by omega) (by first | omega | (simp; done) | (simp; omega)) (by first | omega | (simp; done) | (simp; omega)) | refine nest_ext ?_ | refine nest_set ?_ (by omega) | omega))
                        · rintro h ⟨c5_0, c5_1, c5_2, c5_3, c5_4, c5_5, c5_6, c5_7, c5_8, c5_9⟩
                          have sc5_0 : snap 9 false h nb0_0 = some (.sl 12 (v4.map enc)) := snap_nest (n := 5) c5_0
                          have sc5_1 : snap 9 false h nb1_0 = some (.sl 12 (v5.map enc)) := snap_nest (n := 5) c5_2
                          have sc5_2 : snap 9 false h nb2_0 = some (.sl 12 (v7.a.map enc)) := snap_nest (n := 5) c5_4
                          have sc5_3 : snap 9 false h nb3_0 = some (.sl 12 (v4.map enc)) := snap_nest (n := 5) c5_6
                          have sc5_4 : snap 9 false h nb4_0 = some (.sl 12 (v5.map enc)) := snap_nest (n := 5) c5_8
                          exact e_laws_markOpS _ _ _ hv15 _ _ _ h c5_0
                        · rintro hc5 v hh5 ⟨c5_0, c5_1, c5_2, c5_3, c5_4, c5_5, c5_6, c5_7, c5_8, c5_9⟩ hpost
                          obtain ⟨kk5, rfl, w5_0⟩ := hpost
                          have d5_0 : NestV hh5 hc0.length hh0.length nb0_0 (v15.b : List TOp) := w5_0
                          have d5_0l := nest_lt d5_0
                          have d5_0s : snap 9 false hh5 nb0_0 = some (.sl 12 (v15.b.map enc)) := snap_nest (n := 5) d5_0
                          have d5_0n : lenS nb0_0 = some v15.b.length := nest_lenS d5_0
                          have d5_1 : NestV hh5 hc1.length hh1.length nb1_0 (v5 : List TOp) := nest_keepI c5_2 kk5 (by omega)
                          have d5_1l := nest_lt d5_1
                          have d5_1s : snap 9 false hh5 nb1_0 = some (.sl 12 (v5.map enc)) := snap_nest (n := 5) d5_1
                          have d5_1n : lenS nb1_0 = some v5.length := nest_lenS d5_1
                          have d5_2 : NestV hh5 hc2.length hh2.length nb2_0 (v7.a : List TOp) := nest_keepI c5_4 kk5 (by omega)
                          have d5_2l := nest_lt d5_2
                          have d5_2s : snap 9 false hh5 nb2_0 = some (.sl 12 (v7.a.map enc)) := snap_nest (n := 5) d5_2
                          have d5_2n : lenS nb2_0 = some v7.a.length := nest_lenS d5_2
                          have d5_3 : NestV hh5 hc3.length hh3.length nb3_0 (v4 : List TOp) := nest_keepI c5_6 kk5 (by omega)
                          have d5_3l := nest_lt d5_3
                          have d5_3s : snap 9 false hh5 nb3_0 = some (.sl 12 (v4.map enc)) := snap_nest (n := 5) d5_3
                          have d5_3n : lenS nb3_0 = some v4.length := nest_lenS d5_3
                          have d5_4 : NestV hh5 hc4.length hh4.length nb4_0 (v5 : List TOp) := nest_keepI c5_8 kk5 (by omega)
                          have d5_4l := nest_lt d5_4
                          have d5_4s : snap 9 false hh5 nb4_0 = some (.sl 12 (v5.map enc)) := snap_nest (n := 5) d5_4
                          have d5_4n : lenS nb4_0 = some v5.length := nest_lenS d5_4
                          obtain ⟨v16, hv16, hp⟩ := bind_eq hp
                          simp (maxSteps := 2000000) (disch := first | omega | (simp only [ls]; first | done | omega)) only [ep_laws_szOpS, ep_laws_toOpS, ep_spec_BranchAhead, ep_laws_eqOpS, ep_laws_heldOpS, hv0, hb1, hv2, hb3, hv4, hv5, hv6, d0_0, d0_0s, d0_0n, d1_0, d1_0s, d1_0n, d1_1, d1_1s, d1_1n, hv7, d2_0, d2_0s, d2_0n, d2_1, d2_1s, d2_1n, d2_2, d2_2s, d2_2n, hv8, hb9, hb10, d3_0, d3_0s, d3_0n, d3_1, d3_1s, d3_1n, d3_2, d3_2s, d3_2n, d3_3, d3_3s, d3_3n, hv11, hb12, d4_0, d4_0s, d4_0n, d4_1, d4_1s, d4_1n, d4_2, d4_2s, d4_2n, d4_3, d4_3s, d4_3n, d4_4, d4_4s, d4_4n, hv13, hb14, hv15, d5_0, d5_0s, d5_0n, d5_1, d5_1s, d5_1n, d5_2, d5_2s, d5_2n, d5_3, d5_3s, d5_3n, d5_4, d5_4s, d5_4n, gx, Int.reduceToNat]
                          refine call_f (fun h => NestV h hc0.length hh0.length nb0_0 (v15.b : List TOp) ∧ hh0.length ≤ h.length ∧ NestV h hc1.length hh1.length nb1_0 (v5 : List TOp) ∧ hh1.length ≤ h.length ∧ NestV h hc2.length hh2.length nb2_0 (v7.a : List TOp) ∧ hh2.length ≤ h.length ∧ NestV h hc3.length hh3.length nb3_0 (v4 : List TOp) ∧ hh3.length ≤ h.length ∧ NestV h hc4.length hh4.length nb4_0 (v5 : List TOp) ∧ hh4.length ≤ h.length) (fun h v h2 => i_laws_markOpS hc1.length hh1.length nb1_0 h v16 v h2) ?_ ?_ ?_
                          · simp (maxSteps := 2000000) (disch := first | omega | (simp only [ls]; first | done | omega)) only [ep_laws_szOpS, ep_laws_toOpS, ep_spec_BranchAhead, ep_laws_eqOpS, ep_laws_heldOpS, hv0, hb1, hv2, hb3, hv4, hv5, hv6, d0_0, d0_0s, d0_0n, d1_0, d1_0s, d1_0n, d1_1, d1_1s, d1_1n, hv7, d2_0, d2_0s, d2_0n, d2_1, d2_1s, d2_1n, d2_2, d2_2s, d2_2n, hv8, hb9, hb10, d3_0, d3_0s, d3_0n, d3_1, d3_1s, d3_1n, d3_2, d3_2s, d3_2n, d3_3, d3_3s, d3_3n, hv11, hb12, d4_0, d4_0s, d4_0n, d4_1, d4_1s, d4_1n, d4_2, d4_2s, d4_2n, d4_3, d4_3s, d4_3n, d4_4, d4_4s, d4_4n, hv13, hb14, hv15, d5_0, d5_0s, d5_0n, d5_1, d5_1s, d5_1n, d5_2, d5_2s, d5_2n, d5_3, d5_3s, d5_3n, d5_4, d5_4s, d5_4n, hv16, gx, Int.reduceToNat] <;> (repeat (first | refine And.intro ?_ ?_ | assumption | exact nest_ext (by assumption) | exact nest_wide (by assumption) (Nat.zero_le _) (by first | omega | (simp; omega)) (Nat.le_refl _) | exact nest_wide (nest_ext (by assumption)) (Nat.zero_le _) (by first | omega | (simp; omega)) (Nat.le_refl _) | exact nest_virt (by simp (maxSteps := 2000000) (disch := first | omega | (simp only [ls]; first | done | omega)) only [ep_laws_szOpS, ep_laws_toOpS, ep_spec_BranchAhead, ep_laws_eqOpS, ep_laws_heldOpS, hv0, hb1, hv2, hb3, hv4, hv5, hv6, d0_0, d0_0s, d0_0n, d1_0, d1_0s, d1_0n, d1_1, d1_1s, d1_1n, hv7, d2_0, d2_0s, d2_0n, d2_1, d2_1s, d2_1n, d2_2, d2_2s, d2_2n, hv8, hb9, hb10, d3_0, d3_0s, d3_0n, d3_1, d3_1s, d3_1n, d3_2, d3_2s, d3_2n, d3_3, d3_3s, d3_3n, hv11, hb12, d4_0, d4_0s, d4_0n, d4_1, d4_1s, d4_1n, d4_2, d4_2s, d4_2n, d4_3, d4_3s, d4_3n, d4_4, d4_4s, d4_4n, hv13, hb14, hv15, d5_0, d5_0s, d5_0n, d5_1, d5_1s, d5_1n, d5_2, d5_2s, d5_2n, d5_3, d5_3s, d5_3n, d5_4, d5_4s, d5_4n, hv16, gx, Int.reduceToNat]) (by omega) (by first | omega | (simp; done) | (simp; omega)) (by first | omega | (simp; done) | (simp; omega)) | refine nest_ext ?_ | refine nest_set ?_ (by omega) | omega))
                          · rintro h ⟨c6_0, c6_1, c6_2, c6_3, c6_4, c6_5, c6_6, c6_7, c6_8, c6_9⟩
                            have sc6_0 : snap 9 false h nb0_0 = some (.sl 12 (v15.b.map enc)) := snap_nest (n := 5) c6_0
                            have sc6_1 : snap 9 false h nb1_0 = some (.sl 12 (v5.map enc)) := snap_nest (n := 5) c6_2
                            have sc6_2 : snap 9 false h nb2_0 = some (.sl 12 (v7.a.map enc)) := snap_nest (n := 5) c6_4
                            have sc6_3 : snap 9 false h nb3_0 = some (.sl 12 (v4.map enc)) := snap_nest (n := 5) c6_6
                            have sc6_4 : snap 9 false h nb4_0 = some (.sl 12 (v5.map enc)) := snap_nest (n := 5) c6_8
                            exact e_laws_markOpS _ _ _ hv16 _ _ _ h c6_2
                          · rintro hc6 v hh6 ⟨c6_0, c6_1, c6_2, c6_3, c6_4, c6_5, c6_6, c6_7, c6_8, c6_9⟩ hpost
                            obtain ⟨kk6, rfl, w6_0⟩ := hpost
                            have d6_0 : NestV hh6 hc0.length hh0.length nb0_0 (v15.b : List TOp) := nest_keepI c6_0 kk6 (by omega)
                            have d6_0l := nest_lt d6_0
                            have d6_0s : snap 9 false hh6 nb0_0 = some (.sl 12 (v15.b.map enc)) := snap_nest (n := 5) d6_0
                            have d6_0n : lenS nb0_0 = some v15.b.length := nest_lenS d6_0
                            have d6_1 : NestV hh6 hc1.length hh1.length nb1_0 (v16.b : List TOp) := w6_0
                            have d6_1l := nest_lt d6_1
                            have d6_1s : snap 9 false hh6 nb1_0 = some (.sl 12 (v16.b.map enc)) := snap_nest (n := 5) d6_1
                            have d6_1n : lenS nb1_0 = some v16.b.length := nest_lenS d6_1
                            have d6_2 : NestV hh6 hc2.length hh2.length nb2_0 (v7.a : List TOp) := nest_keepI c6_4 kk6 (by omega)
                            have d6_2l := nest_lt d6_2
                            have d6_2s : snap 9 false hh6 nb2_0 = some (.sl 12 (v7.a.map enc)) := snap_nest (n := 5) d6_2
                            have d6_2n : lenS nb2_0 = some v7.a.length := nest_lenS d6_2
                            have d6_3 : NestV hh6 hc3.length hh3.length nb3_0 (v4 : List TOp) := nest_keepI c6_6 kk6 (by omega)
                            have d6_3l := nest_lt d6_3
                            have d6_3s : snap 9 false hh6 nb3_0 = some (.sl 12 (v4.map enc)) := snap_nest (n := 5) d6_3
                            have d6_3n : lenS nb3_0 = some v4.length := nest_lenS d6_3
                            have d6_4 : NestV hh6 hc4.length hh4.length nb4_0 (v5 : List TOp) := nest_keepI c6_8 kk6 (by omega)
                            have d6_4l := nest_lt d6_4
                            have d6_4s : snap 9 false hh6 nb4_0 = some (.sl 12 (v5.map enc)) := snap_nest (n := 5) d6_4
                            have d6_4n : lenS nb4_0 = some v5.length := nest_lenS d6_4
                            by_cases hb17 : (decide (v16.a < 0)) = true
                            · rw [if_t hb17] at hp
                              cases hp
                            · replace hb17 := eq_false_of_ne_true hb17
                              rw [if_f hb17] at hp
                              obtain ⟨v18, hv18, hp⟩ := bind_eq hp
                              simp (maxSteps := 2000000) (disch := first | omega | (simp only [ls]; first | done | omega)) only [ep_laws_szOpS, ep_laws_toOpS, ep_spec_BranchAhead, ep_laws_eqOpS, ep_laws_heldOpS, hv0, hb1, hv2, hb3, hv4, hv5, hv6, d0_0, d0_0s, d0_0n, d1_0, d1_0s, d1_0n, d1_1, d1_1s, d1_1n, hv7, d2_0, d2_0s, d2_0n, d2_1, d2_1s, d2_1n, d2_2, d2_2s, d2_2n, hv8, hb9, hb10, d3_0, d3_0s, d3_0n, d3_1, d3_1s, d3_1n, d3_2, d3_2s, d3_2n, d3_3, d3_3s, d3_3n, hv11, hb12, d4_0, d4_0s, d4_0n, d4_1, d4_1s, d4_1n, d4_2, d4_2s, d4_2n, d4_3, d4_3s, d4_3n, d4_4, d4_4s, d4_4n, hv13, hb14, hv15, d5_0, d5_0s, d5_0n, d5_1, d5_1s, d5_1n, d5_2, d5_2s, d5_2n, d5_3, d5_3s, d5_3n, d5_4, d5_4s, d5_4n, hv16, d6_0, d6_0s, d6_0n, d6_1, d6_1s, d6_1n, d6_2, d6_2s, d6_2n, d6_3, d6_3s, d6_3n, d6_4, d6_4s, d6_4n, hb17, gx, Int.reduceToNat]
                              refine call_f (fun h => NestV h hc0.length hh0.length nb0_0 (v15.b : List TOp) ∧ hh0.length ≤ h.length ∧ NestV h hc1.length hh1.length nb1_0 (v16.b : List TOp) ∧ hh1.length ≤ h.length ∧ NestV h hc2.length hh2.length nb2_0 (v7.a : List TOp) ∧ hh2.length ≤ h.length ∧ NestV h hc3.length hh3.length nb3_0 (v4 : List TOp) ∧ hh3.length ≤ h.length ∧ NestV h hc4.length hh4.length nb4_0 (v5 : List TOp) ∧ hh4.length ≤ h.length) (fun h v h2 => i_laws_markOpS hc2.length hh2.length nb2_0 h v18 v h2) ?_ ?_ ?_
                              · simp (maxSteps := 2000000) (disch := first | omega | (simp only [ls]; first | done | omega)) only [ep_laws_szOpS, ep_laws_toOpS, ep_spec_BranchAhead, ep_laws_eqOpS, ep_laws_heldOpS, hv0, hb1, hv2, hb3, hv4, hv5, hv6, d0_0, d0_0s, d0_0n, d1_0, d1_0s, d1_0n, d1_1, d1_1s, d1_1n, hv7, d2_0, d2_0s, d2_0n, d2_1, d2_1s, d2_1n, d2_2, d2_2s, d2_2n, hv8, hb9, hb10, d3_0, d3_0s, d3_0n, d3_1, d3_1s, d3_1n, d3_2, d3_2s, d3_2n, d3_3, d3_3s, d3_3n, hv11, hb12, d4_0, d4_0s, d4_0n, d4_1, d4_1s, d4_1n, d4_2, d4_2s, d4_2n, d4_3, d4_3s, d4_3n, d4_4, d4_4s, d4_4n, hv13, hb14, hv15, d5_0, d5_0s, d5_0n, d5_1, d5_1s, d5_1n, d5_2, d5_2s, d5_2n, d5_3, d5_3s, d5_3n, d5_4, d5_4s, d5_4n, hv16, d6_0, d6_0s, d6_0n, d6_1, d6_1s, d6_1n, d6_2, d6_2s, d6_2n, d6_3, d6_3s, d6_3n, d6_4, d6_4s, d6_4n, hb17, hv18, gx, Int.reduceToNat] <;> (repeat (first | refine And.intro ?_ ?_ | assumption | exact nest_ext (by assumption) | exact nest_wide (by assumption) (Nat.zero_le _) (by first | omega | (simp; omega)) (Nat.le_refl _) | exact nest_wide (nest_ext (by assumption)) (Nat.zero_le _) (by first | omega | (simp; omega)) (Nat.le_refl _) | exact nest_virt (by simp (maxSteps := 2000000) (disch := first | omega | (simp only [ls]; first | done | omega)) only [ep_laws_szOpS, ep_laws_toOpS, ep_spec_BranchAhead, ep_laws_eqOpS, ep_laws_heldOpS, hv0, hb1, hv2, hb3, hv4, hv5, hv6, d0_0, d0_0s, d0_0n, d1_0, d1_0s, d1_0n, d1_1, d1_1s, d1_1n, hv7, d2_0, d2_0s, d2_0n, d2_1, d2_1s, d2_1n, d2_2, d2_2s, d2_2n, hv8, hb9, hb10, d3_0, d3_0s, d3_0n, d3_1, d3_1s, d3_1n, d3_2, d3_2s, d3_2n, d3_3, d3_3s, d3_3n, hv11, hb12, d4_0, d4_0s, d4_0n, d4_1, d4_1s, d4_1n, d4_2, d4_2s, d4_2n, d4_3, d4_3s, d4_3n, d4_4, d4_4s, d4_4n, hv13, hb14, hv15, d5_0, d5_0s, d5_0n, d5_1, d5_1s, d5_1n, d5_2, d5_2s, d5_2n, d5_3, d5_3s, d5_3n, d5_4, d5_4s, d5_4n, hv16, d6_0, d6_0s, d6_0n, d6_1, d6_1s, d6_1n, d6_2, d6_2s, d6_2n, d6_3, d6_3s, d6_3n, d6_4, d6_4s, d6_4n, hb17, hv18, gx, Int.reduceToNat]) (by omega) (by first | omega | (simp; done) | (simp; omega)) (by first | omega | (simp; done) | (simp; omega)) | refine nest_ext ?_ | refine nest_set ?_ (by omega) | omega))
                              · rintro h ⟨c7_0, c7_1, c7_2, c7_3, c7_4, c7_5, c7_6, c7_7, c7_8, c7_9⟩
                                have sc7_0 : snap 9 false h nb0_0 = some (.sl 12 (v15.b.map enc)) := snap_nest (n := 5) c7_0
                                have sc7_1 : snap 9 false h nb1_0 = some (.sl 12 (v16.b.map enc)) := snap_nest (n := 5) c7_2
                                have sc7_2 : snap 9 false h nb2_0 = some (.sl 12 (v7.a.map enc)) := snap_nest (n := 5) c7_4
                                have sc7_3 : snap 9 false h nb3_0 = some (.sl 12 (v4.map enc)) := snap_nest (n := 5) c7_6
                                have sc7_4 : snap 9 false h nb4_0 = some (.sl 12 (v5.map enc)) := snap_nest (n := 5) c7_8
                                exact e_laws_markOpS _ _ _ hv18 _ _ _ h c7_4
                              · rintro hc7 v hh7 ⟨c7_0, c7_1, c7_2, c7_3, c7_4, c7_5, c7_6, c7_7, c7_8, c7_9⟩ hpost
                                obtain ⟨kk7, rfl, w7_0⟩ := hpost
                                have d7_0 : NestV hh7 hc0.length hh0.length nb0_0 (v15.b : List TOp) := nest_keepI c7_0 kk7 (by omega)
                                have d7_0l := nest_lt d7_0
                                have d7_0s : snap 9 false hh7 nb0_0 = some (.sl 12 (v15.b.map enc)) := snap_nest (n := 5) d7_0
                                have d7_0n : lenS nb0_0 = some v15.b.length := nest_lenS d7_0
                                have d7_1 : NestV hh7 hc1.length hh1.length nb1_0 (v16.b : List TOp) := nest_keepI c7_2 kk7 (by omega)
                                have d7_1l := nest_lt d7_1
                                have d7_1s : snap 9 false hh7 nb1_0 = some (.sl 12 (v16.b.map enc)) := snap_nest (n := 5) d7_1
                                have d7_1n : lenS nb1_0 = some v16.b.length := nest_lenS d7_1
                                have d7_2 : NestV hh7 hc2.length hh2.length nb2_0 (v18.b : List TOp) := w7_0
                                have d7_2l := nest_lt d7_2
                                have d7_2s : snap 9 false hh7 nb2_0 = some (.sl 12 (v18.b.map enc)) := snap_nest (n := 5) d7_2
                                have d7_2n : lenS nb2_0 = some v18.b.length := nest_lenS d7_2
                                have d7_3 : NestV hh7 hc3.length hh3.length nb3_0 (v4 : List TOp) := nest_keepI c7_6 kk7 (by omega)
                                have d7_3l := nest_lt d7_3
                                have d7_3s : snap 9 false hh7 nb3_0 = some (.sl 12 (v4.map enc)) := snap_nest (n := 5) d7_3
                                have d7_3n : lenS nb3_0 = some v4.length := nest_lenS d7_3
                                have d7_4 : NestV hh7 hc4.length hh4.length nb4_0 (v5 : List TOp) := nest_keepI c7_8 kk7 (by omega)
                                have d7_4l := nest_lt d7_4
                                have d7_4s : snap 9 false hh7 nb4_0 = some (.sl 12 (v5.map enc)) := snap_nest (n := 5) d7_4
                                have d7_4n : lenS nb4_0 = some v5.length := nest_lenS d7_4
                                obtain ⟨v19, hv19, hp⟩ := bind_eq hp
                                by_cases hb20 : (decide (v19 < 0)) = true
                                · rw [if_t hb20] at hp
                                  cases hp
                                · replace hb20 := eq_false_of_ne_true hb20
                                  rw [if_f hb20] at hp
                                  by_cases hb21 : (decide (v19 = v18.a)) = true
                                  · rw [if_t hb21] at hp
                                    simp (maxSteps := 2000000) (disch := first | omega | (simp only [ls]; first | done | omega)) only [ep_laws_szOpS, ep_laws_toOpS, ep_spec_BranchAhead, ep_laws_eqOpS, ep_laws_heldOpS, hv0, hb1, hv2, hb3, hv4, hv5, hv6, d0_0, d0_0s, d0_0n, d1_0, d1_0s, d1_0n, d1_1, d1_1s, d1_1n, hv7, d2_0, d2_0s, d2_0n, d2_1, d2_1s, d2_1n, d2_2, d2_2s, d2_2n, hv8, hb9, hb10, d3_0, d3_0s, d3_0n, d3_1, d3_1s, d3_1n, d3_2, d3_2s, d3_2n, d3_3, d3_3s, d3_3n, hv11, hb12, d4_0, d4_0s, d4_0n, d4_1, d4_1s, d4_1n, d4_2, d4_2s, d4_2n, d4_3, d4_3s, d4_3n, d4_4, d4_4s, d4_4n, hv13, hb14, hv15, d5_0, d5_0s, d5_0n, d5_1, d5_1s, d5_1n, d5_2, d5_2s, d5_2n, d5_3, d5_3s, d5_3n, d5_4, d5_4s, d5_4n, hv16, d6_0, d6_0s, d6_0n, d6_1, d6_1s, d6_1n, d6_2, d6_2s, d6_2n, d6_3, d6_3s, d6_3n, d6_4, d6_4s, d6_4n, hb17, hv18, d7_0, d7_0s, d7_0n, d7_1, d7_1s, d7_1n, d7_2, d7_2s, d7_2n, d7_3, d7_3s, d7_3n, d7_4, d7_4s, d7_4n, hv19, hb20, hb21, gx, Int.reduceToNat]
                                    refine call_f (fun h => NestV h hc0.length hh0.length nb0_0 (v15.b : List TOp) ∧ hh0.length ≤ h.length ∧ NestV h hc1.length hh1.length nb1_0 (v16.b : List TOp) ∧ hh1.length ≤ h.length ∧ NestV h hc2.length hh2.length nb2_0 (v18.b : List TOp) ∧ hh2.length ≤ h.length ∧ NestV h hc3.length hh3.length nb3_0 (v4 : List TOp) ∧ hh3.length ≤ h.length ∧ NestV h hc4.length hh4.length nb4_0 (v5 : List TOp) ∧ hh4.length ≤ h.length) (fun h v h2 => oo_laws_toOpS v4 h v h2) ?_ ?_ ?_
                                    · simp (maxSteps := 2000000) (disch := first | omega | (simp only [ls]; first | done | omega)) only [ep_laws_szOpS, ep_laws_toOpS, ep_spec_BranchAhead, ep_laws_eqOpS, ep_laws_heldOpS, hv0, hb1, hv2, hb3, hv4, hv5, hv6, d0_0, d0_0s, d0_0n, d1_0, d1_0s, d1_0n, d1_1, d1_1s, d1_1n, hv7, d2_0, d2_0s, d2_0n, d2_1, d2_1s, d2_1n, d2_2, d2_2s, d2_2n, hv8, hb9, hb10, d3_0, d3_0s, d3_0n, d3_1, d3_1s, d3_1n, d3_2, d3_2s, d3_2n, d3_3, d3_3s, d3_3n, hv11, hb12, d4_0, d4_0s, d4_0n, d4_1, d4_1s, d4_1n, d4_2, d4_2s, d4_2n, d4_3, d4_3s, d4_3n, d4_4, d4_4s, d4_4n, hv13, hb14, hv15, d5_0, d5_0s, d5_0n, d5_1, d5_1s, d5_1n, d5_2, d5_2s, d5_2n, d5_3, d5_3s, d5_3n, d5_4, d5_4s, d5_4n, hv16, d6_0, d6_0s, d6_0n, d6_1, d6_1s, d6_1n, d6_2, d6_2s, d6_2n, d6_3, d6_3s, d6_3n, d6_4, d6_4s, d6_4n, hb17, hv18, d7_0, d7_0s, d7_0n, d7_1, d7_1s, d7_1n, d7_2, d7_2s, d7_2n, d7_3, d7_3s, d7_3n, d7_4, d7_4s, d7_4n, hv19, hb20, hb21, gx, Int.reduceToNat] <;> (repeat (first | refine And.intro ?_ ?_ | assumption | exact nest_ext (by assumption) | exact nest_wide (by assumption) (Nat.zero_le _) (by first | omega | (simp; omega)) (Nat.le_refl _) | exact nest_wide (nest_ext (by assumption)) (Nat.zero_le _) (by first | omega | (simp; omega)) (Nat.le_refl _) | exact nest_virt (by simp (maxSteps := 2000000) (disch := first | omega | (simp only [ls]; first | done | omega)) only [ep_laws_szOpS, ep_laws_toOpS, ep_spec_BranchAhead, ep_laws_eqOpS, ep_laws_heldOpS, hv0, hb1, hv2, hb3, hv4, hv5, hv6, d0_0, d0_0s, d0_0n, d1_0, d1_0s, d1_0n, d1_1, d1_1s, d1_1n, hv7, d2_0, d2_0s, d2_0n, d2_1, d2_1s, d2_1n, d2_2, d2_2s, d2_2n, hv8, hb9, hb10, d3_0, d3_0s, d3_0n, d3_1, d3_1s, d3_1n, d3_2, d3_2s, d3_2n, d3_3, d3_3s, d3_3n, hv11, hb12, d4_0, d4_0s, d4_0n, d4_1, d4_1s, d4_1n, d4_2, d4_2s, d4_2n, d4_3, d4_3s, d4_3n, d4_4, d4_4s, d4_4n, hv13, hb14, hv15, d5_0, d5_0s, d5_0n, d5_1, d5_1s, d5_1n, d5_2, d5_2s, d5_2n, d5_3, d5_3s, d5_3n, d5_4, d5_4s, d5_4n, hv16, d6_0, d6_0s, d6_0n, d6_1, d6_1s, d6_1n, d6_2, d6_2s, d6_2n, d6_3, d6_3s, d6_3n, d6_4, d6_4s, d6_4n, hb17, hv18, d7_0, d7_0s, d7_0n, d7_1, d7_1s, d7_1n, d7_2, d7_2s, d7_2n, d7_3, d7_3s, d7_3n, d7_4, d7_4s, d7_4n, hv19, hb20, hb21, gx, Int.reduceToNat]) (by omega) (by first | omega | (simp; done) | (simp; omega)) (by first | omega | (simp; done) | (simp; omega)) | refine nest_ext ?_ | refine nest_set ?_ (by omega) | omega))
                                    · rintro h ⟨c8_0, c8_1, c8_2, c8_3, c8_4, c8_5, c8_6, c8_7, c8_8, c8_9⟩
                                      have sc8_0 : snap 9 false h nb0_0 = some (.sl 12 (v15.b.map enc)) := snap_nest (n := 5) c8_0
                                      have sc8_1 : snap 9 false h nb1_0 = some (.sl 12 (v16.b.map enc)) := snap_nest (n := 5) c8_2
                                      have sc8_2 : snap 9 false h nb2_0 = some (.sl 12 (v18.b.map enc)) := snap_nest (n := 5) c8_4
                                      have sc8_3 : snap 9 false h nb3_0 = some (.sl 12 (v4.map enc)) := snap_nest (n := 5) c8_6
                                      have sc8_4 : snap 9 false h nb4_0 = some (.sl 12 (v5.map enc)) := snap_nest (n := 5) c8_8
                                      exact e_laws_toOpS _ _ hv4 h _ (by simp (maxSteps := 2000000) (disch := first | omega | (simp only [ls]; first | done | omega)) only [ep_laws_szOpS, ep_laws_toOpS, ep_spec_BranchAhead, ep_laws_eqOpS, ep_laws_heldOpS, hv0, hb1, hv2, hb3, hv4, hv5, hv6, d0_0, d0_0s, d0_0n, d1_0, d1_0s, d1_0n, d1_1, d1_1s, d1_1n, hv7, d2_0, d2_0s, d2_0n, d2_1, d2_1s, d2_1n, d2_2, d2_2s, d2_2n, hv8, hb9, hb10, d3_0, d3_0s, d3_0n, d3_1, d3_1s, d3_1n, d3_2, d3_2s, d3_2n, d3_3, d3_3s, d3_3n, hv11, hb12, d4_0, d4_0s, d4_0n, d4_1, d4_1s, d4_1n, d4_2, d4_2s, d4_2n, d4_3, d4_3s, d4_3n, d4_4, d4_4s, d4_4n, hv13, hb14, hv15, d5_0, d5_0s, d5_0n, d5_1, d5_1s, d5_1n, d5_2, d5_2s, d5_2n, d5_3, d5_3s, d5_3n, d5_4, d5_4s, d5_4n, hv16, d6_0, d6_0s, d6_0n, d6_1, d6_1s, d6_1n, d6_2, d6_2s, d6_2n, d6_3, d6_3s, d6_3n, d6_4, d6_4s, d6_4n, hb17, hv18, d7_0, d7_0s, d7_0n, d7_1, d7_1s, d7_1n, d7_2, d7_2s, d7_2n, d7_3, d7_3s, d7_3n, d7_4, d7_4s, d7_4n, hv19, hb20, hb21, c8_0, c8_1, c8_2, c8_3, c8_4, c8_5, c8_6, c8_7, c8_8, c8_9, sc8_0, sc8_1, sc8_2, sc8_3, sc8_4, gx, Int.reduceToNat])
                                    · rintro hc8 nb8_0 hh8 ⟨c8_0, c8_1, c8_2, c8_3, c8_4, c8_5, c8_6, c8_7, c8_8, c8_9⟩ hpost
                                      obtain ⟨kk8, _, rfl, wnb8_0⟩ := hpost
                                      have d8_0 : NestV hh8 hc0.length hh0.length nb0_0 (v15.b : List TOp) := nest_keep c8_0 kk8 (by intro b hb; first | (simp at hb; done) | (simp at hb; omega))
                                      have d8_0l := nest_lt d8_0
                                      have d8_0s : snap 9 false hh8 nb0_0 = some (.sl 12 (v15.b.map enc)) := snap_nest (n := 5) d8_0
                                      have d8_0n : lenS nb0_0 = some v15.b.length := nest_lenS d8_0
                                      have d8_1 : NestV hh8 hc1.length hh1.length nb1_0 (v16.b : List TOp) := nest_keep c8_2 kk8 (by intro b hb; first | (simp at hb; done) | (simp at hb; omega))
                                      have d8_1l := nest_lt d8_1
                                      have d8_1s : snap 9 false hh8 nb1_0 = some (.sl 12 (v16.b.map enc)) := snap_nest (n := 5) d8_1
                                      have d8_1n : lenS nb1_0 = some v16.b.length := nest_lenS d8_1
                                      have d8_2 : NestV hh8 hc2.length hh2.length nb2_0 (v18.b : List TOp) := nest_keep c8_4 kk8 (by intro b hb; first | (simp at hb; done) | (simp at hb; omega))
                                      have d8_2l := nest_lt d8_2
                                      have d8_2s : snap 9 false hh8 nb2_0 = some (.sl 12 (v18.b.map enc)) := snap_nest (n := 5) d8_2
                                      have d8_2n : lenS nb2_0 = some v18.b.length := nest_lenS d8_2
                                      have d8_3 : NestV hh8 hc3.length hh3.length nb3_0 (v4 : List TOp) := nest_keep c8_6 kk8 (by intro b hb; first | (simp at hb; done) | (simp at hb; omega))
                                      have d8_3l := nest_lt d8_3
                                      have d8_3s : snap 9 false hh8 nb3_0 = some (.sl 12 (v4.map enc)) := snap_nest (n := 5) d8_3
                                      have d8_3n : lenS nb3_0 = some v4.length := nest_lenS d8_3
                                      have d8_4 : NestV hh8 hc4.length hh4.length nb4_0 (v5 : List TOp) := nest_keep c8_8 kk8 (by intro b hb; first | (simp at hb; done) | (simp at hb; omega))
                                      have d8_4l := nest_lt d8_4
                                      have d8_4s : snap 9 false hh8 nb4_0 = some (.sl 12 (v5.map enc)) := snap_nest (n := 5) d8_4
                                      have d8_4n : lenS nb4_0 = some v5.length := nest_lenS d8_4
                                      have d8_5 := wnb8_0
                                      have d8_5l := nest_lt d8_5
                                      have d8_5s : snap 9 false hh8 nb8_0 = some (.sl 12 (v4.map enc)) := snap_nest (n := 5) d8_5
                                      have d8_5n : lenS nb8_0 = some v4.length := nest_lenS d8_5
                                      simp (maxSteps := 2000000) (disch := first | omega | (simp only [ls]; first | done | omega)) only [ep_laws_szOpS, ep_laws_toOpS, ep_spec_BranchAhead, ep_laws_eqOpS, ep_laws_heldOpS, hv0, hb1, hv2, hb3, hv4, hv5, hv6, d0_0, d0_0s, d0_0n, d1_0, d1_0s, d1_0n, d1_1, d1_1s, d1_1n, hv7, d2_0, d2_0s, d2_0n, d2_1, d2_1s, d2_1n, d2_2, d2_2s, d2_2n, hv8, hb9, hb10, d3_0, d3_0s, d3_0n, d3_1, d3_1s, d3_1n, d3_2, d3_2s, d3_2n, d3_3, d3_3s, d3_3n, hv11, hb12, d4_0, d4_0s, d4_0n, d4_1, d4_1s, d4_1n, d4_2, d4_2s, d4_2n, d4_3, d4_3s, d4_3n, d4_4, d4_4s, d4_4n, hv13, hb14, hv15, d5_0, d5_0s, d5_0n, d5_1, d5_1s, d5_1n, d5_2, d5_2s, d5_2n, d5_3, d5_3s, d5_3n, d5_4, d5_4s, d5_4n, hv16, d6_0, d6_0s, d6_0n, d6_1, d6_1s, d6_1n, d6_2, d6_2s, d6_2n, d6_3, d6_3s, d6_3n, d6_4, d6_4s, d6_4n, hb17, hv18, d7_0, d7_0s, d7_0n, d7_1, d7_1s, d7_1n, d7_2, d7_2s, d7_2n, d7_3, d7_3s, d7_3n, d7_4, d7_4s, d7_4n, hv19, hb20, hb21, d8_0, d8_0s, d8_0n, d8_1, d8_1s, d8_1n, d8_2, d8_2s, d8_2n, d8_3, d8_3s, d8_3n, d8_4, d8_4s, d8_4n, d8_5, d8_5s, d8_5n, gx, Int.reduceToNat]
                                      refine call_f (fun h => NestV h hc0.length hh0.length nb0_0 (v15.b : List TOp) ∧ hh0.length ≤ h.length ∧ NestV h hc1.length hh1.length nb1_0 (v16.b : List TOp) ∧ hh1.length ≤ h.length ∧ NestV h hc2.length hh2.length nb2_0 (v18.b : List TOp) ∧ hh2.length ≤ h.length ∧ NestV h hc3.length hh3.length nb3_0 (v4 : List TOp) ∧ hh3.length ≤ h.length ∧ NestV h hc4.length hh4.length nb4_0 (v5 : List TOp) ∧ hh4.length ≤ h.length ∧ NestV h hc8.length hh8.length nb8_0 (v4 : List TOp) ∧ hh8.length ≤ h.length) (fun h v h2 => oo_laws_toOpS v5 h v h2) ?_ ?_ ?_
                                      · simp (maxSteps := 2000000) (disch := first | omega | (simp only [ls]; first | done | omega)) only [ep_laws_szOpS, ep_laws_toOpS, ep_spec_BranchAhead, ep_laws_eqOpS, ep_laws_heldOpS, hv0, hb1, hv2, hb3, hv4, hv5, hv6, d0_0, d0_0s, d0_0n, d1_0, d1_0s, d1_0n, d1_1, d1_1s, d1_1n, hv7, d2_0, d2_0s, d2_0n, d2_1, d2_1s, d2_1n, d2_2, d2_2s, d2_2n, hv8, hb9, hb10, d3_0, d3_0s, d3_0n, d3_1, d3_1s, d3_1n, d3_2, d3_2s, d3_2n, d3_3, d3_3s, d3_3n, hv11, hb12, d4_0, d4_0s, d4_0n, d4_1, d4_1s, d4_1n, d4_2, d4_2s, d4_2n, d4_3, d4_3s, d4_3n, d4_4, d4_4s, d4_4n, hv13, hb14, hv15, d5_0, d5_0s, d5_0n, d5_1, d5_1s, d5_1n, d5_2, d5_2s, d5_2n, d5_3, d5_3s, d5_3n, d5_4, d5_4s, d5_4n, hv16, d6_0, d6_0s, d6_0n, d6_1, d6_1s, d6_1n, d6_2, d6_2s, d6_2n, d6_3, d6_3s, d6_3n, d6_4, d6_4s, d6_4n, hb17, hv18, d7_0, d7_0s, d7_0n, d7_1, d7_1s, d7_1n, d7_2, d7_2s, d7_2n, d7_3, d7_3s, d7_3n, d7_4, d7_4s, d7_4n, hv19, hb20, hb21, d8_0, d8_0s, d8_0n, d8_1, d8_1s, d8_1n, d8_2, d8_2s, d8_2n, d8_3, d8_3s, d8_3n, d8_4, d8_4s, d8_4n, d8_5, d8_5s, d8_5n, gx, Int.reduceToNat] <;> (repeat (first | refine And.intro ?_ ?_ | assumption | exact nest_ext (by assumption) | exact nest_wide (by assumption) (Nat.zero_le _) (by first | omega | (simp; omega)) (Nat.le_refl _) | exact nest_wide (nest_ext (by assumption)) (Nat.zero_le _) (by first | omega | (simp; omega)) (Nat.le_refl _) | exact nest_virt (by simp (maxSteps := 2000000) (disch := first | omega | (simp only [ls]; first | done | omega)) only [ep_laws_szOpS, ep_laws_toOpS, ep_spec_BranchAhead, ep_laws_eqOpS, ep_laws_heldOpS, hv0, hb1, hv2, hb3, hv4, hv5, hv6, d0_0, d0_0s, d0_0n, d1_0, d1_0s, d1_0n, d1_1, d1_1s, d1_1n, hv7, d2_0, d2_0s, d2_0n, d2_1, d2_1s, d2_1n, d2_2, d2_2s, d2_2n, hv8, hb9, hb10, d3_0, d3_0s, d3_0n, d3_1, d3_1s, d3_1n, d3_2, d3_2s, d3_2n, d3_3, d3_3s, d3_3n, hv11, hb12, d4_0, d4_0s, d4_0n, d4_1, d4_1s, d4_1n, d4_2, d4_2s, d4_2n, d4_3, d4_3s, d4_3n, d4_4, d4_4s, d4_4n, hv13, hb14, hv15, d5_0, d5_0s, d5_0n, d5_1, d5_1s, d5_1n, d5_2, d5_2s, d5_2n, d5_3, d5_3s, d5_3n, d5_4, d5_4s, d5_4n, hv16, d6_0, d6_0s, d6_0n, d6_1, d6_1s, d6_1n, d6_2, d6_2s, d6_2n, d6_3, d6_3s, d6_3n, d6_4, d6_4s, d6_4n, hb17, hv18, d7_0, d7_0s, d7_0n, d7_1, d7_1s, d7_1n, d7_2, d7_2s, d7_2n, d7_3, d7_3s, d7_3n, d7_4, d7_4s, d7_4n, hv19, hb20, hb21, d8_0, d8_0s, d8_0n, d8_1, d8_1s, d8_1n, d8_2, d8_2s, d8_2n, d8_3, d8_3s, d8_3n, d8_4, d8_4s, d8_4n, d8_5, d8_5s, d8_5n, gx, Int.reduceToNat]) (by omega) (by first | omega | (simp; done) | (simp; omega)) (by first | omega | (simp; done) | (simp; omega)) | refine nest_ext ?_ | refine nest_set ?_ (by omega) | omega))
                                      · rintro h ⟨c9_0, c9_1, c9_2, c9_3, c9_4, c9_5, c9_6, c9_7, c9_8, c9_9, c9_10, c9_11⟩
                                        have sc9_0 : snap 9 false h nb0_0 = some (.sl 12 (v15.b.map enc)) := snap_nest (n := 5) c9_0
                                        have sc9_1 : snap 9 false h nb1_0 = some (.sl 12 (v16.b.map enc)) := snap_nest (n := 5) c9_2
                                        have sc9_2 : snap 9 false h nb2_0 = some (.sl 12 (v18.b.map enc)) := snap_nest (n := 5) c9_4
                                        have sc9_3 : snap 9 false h nb3_0 = some (.sl 12 (v4.map enc)) := snap_nest (n := 5) c9_6
                                        have sc9_4 : snap 9 false h nb4_0 = some (.sl 12 (v5.map enc)) := snap_nest (n := 5) c9_8
                                        have sc9_5 : snap 9 false h nb8_0 = some (.sl 12 (v4.map enc)) := snap_nest (n := 5) c9_10
                                        exact e_laws_toOpS _ _ hv5 h _ (by simp (maxSteps := 2000000) (disch := first | omega | (simp only [ls]; first | done | omega)) only [ep_laws_szOpS, ep_laws_toOpS, ep_spec_BranchAhead, ep_laws_eqOpS, ep_laws_heldOpS, hv0, hb1, hv2, hb3, hv4, hv5, hv6, d0_0, d0_0s, d0_0n, d1_0, d1_0s, d1_0n, d1_1, d1_1s, d1_1n, hv7, d2_0, d2_0s, d2_0n, d2_1, d2_1s, d2_1n, d2_2, d2_2s, d2_2n, hv8, hb9, hb10, d3_0, d3_0s, d3_0n, d3_1, d3_1s, d3_1n, d3_2, d3_2s, d3_2n, d3_3, d3_3s, d3_3n, hv11, hb12, d4_0, d4_0s, d4_0n, d4_1, d4_1s, d4_1n, d4_2, d4_2s, d4_2n, d4_3, d4_3s, d4_3n, d4_4, d4_4s, d4_4n, hv13, hb14, hv15, d5_0, d5_0s, d5_0n, d5_1, d5_1s, d5_1n, d5_2, d5_2s, d5_2n, d5_3, d5_3s, d5_3n, d5_4, d5_4s, d5_4n, hv16, d6_0, d6_0s, d6_0n, d6_1, d6_1s, d6_1n, d6_2, d6_2s, d6_2n, d6_3, d6_3s, d6_3n, d6_4, d6_4s, d6_4n, hb17, hv18, d7_0, d7_0s, d7_0n, d7_1, d7_1s, d7_1n, d7_2, d7_2s, d7_2n, d7_3, d7_3s, d7_3n, d7_4, d7_4s, d7_4n, hv19, hb20, hb21, d8_0, d8_0s, d8_0n, d8_1, d8_1s, d8_1n, d8_2, d8_2s, d8_2n, d8_3, d8_3s, d8_3n, d8_4, d8_4s, d8_4n, d8_5, d8_5s, d8_5n, c9_0, c9_1, c9_2, c9_3, c9_4, c9_5, c9_6, c9_7, c9_8, c9_9, c9_10, c9_11, sc9_0, sc9_1, sc9_2, sc9_3, sc9_4, sc9_5, gx, Int.reduceToNat])
                                      · rintro hc9 nb9_0 hh9 ⟨c9_0, c9_1, c9_2, c9_3, c9_4, c9_5, c9_6, c9_7, c9_8, c9_9, c9_10, c9_11⟩ hpost
                                        obtain ⟨kk9, _, rfl, wnb9_0⟩ := hpost
                                        have d9_0 : NestV hh9 hc0.length hh0.length nb0_0 (v15.b : List TOp) := nest_keep c9_0 kk9 (by intro b hb; first | (simp at hb; done) | (simp at hb; omega))
                                        have d9_0l := nest_lt d9_0
                                        have d9_0s : snap 9 false hh9 nb0_0 = some (.sl 12 (v15.b.map enc)) := snap_nest (n := 5) d9_0
                                        have d9_0n : lenS nb0_0 = some v15.b.length := nest_lenS d9_0
                                        have d9_1 : NestV hh9 hc1.length hh1.length nb1_0 (v16.b : List TOp) := nest_keep c9_2 kk9 (by intro b hb; first | (simp at hb; done) | (simp at hb; omega))
                                        have d9_1l := nest_lt d9_1
                                        have d9_1s : snap 9 false hh9 nb1_0 = some (.sl 12 (v16.b.map enc)) := snap_nest (n := 5) d9_1
                                        have d9_1n : lenS nb1_0 = some v16.b.length := nest_lenS d9_1
                                        have d9_2 : NestV hh9 hc2.length hh2.length nb2_0 (v18.b : List TOp) := nest_keep c9_4 kk9 (by intro b hb; first | (simp at hb; done) | (simp at hb; omega))
                                        have d9_2l := nest_lt d9_2
                                        have d9_2s : snap 9 false hh9 nb2_0 = some (.sl 12 (v18.b.map enc)) := snap_nest (n := 5) d9_2
                                        have d9_2n : lenS nb2_0 = some v18.b.length := nest_lenS d9_2
                                        have d9_3 : NestV hh9 hc3.length hh3.length nb3_0 (v4 : List TOp) := nest_keep c9_6 kk9 (by intro b hb; first | (simp at hb; done) | (simp at hb; omega))
                                        have d9_3l := nest_lt d9_3
                                        have d9_3s : snap 9 false hh9 nb3_0 = some (.sl 12 (v4.map enc)) := snap_nest (n := 5) d9_3
                                        have d9_3n : lenS nb3_0 = some v4.length := nest_lenS d9_3
                                        have d9_4 : NestV hh9 hc4.length hh4.length nb4_0 (v5 : List TOp) := nest_keep c9_8 kk9 (by intro b hb; first | (simp at hb; done) | (simp at hb; omega))
                                        have d9_4l := nest_lt d9_4
                                        have d9_4s : snap 9 false hh9 nb4_0 = some (.sl 12 (v5.map enc)) := snap_nest (n := 5) d9_4
                                        have d9_4n : lenS nb4_0 = some v5.length := nest_lenS d9_4
                                        have d9_5 : NestV hh9 hc8.length hh8.length nb8_0 (v4 : List TOp) := nest_keep c9_10 kk9 (by intro b hb; first | (simp at hb; done) | (simp at hb; omega))
                                        have d9_5l := nest_lt d9_5
                                        have d9_5s : snap 9 false hh9 nb8_0 = some (.sl 12 (v4.map enc)) := snap_nest (n := 5) d9_5
                                        have d9_5n : lenS nb8_0 = some v4.length := nest_lenS d9_5
                                        have d9_6 := wnb9_0
                                        have d9_6l := nest_lt d9_6
                                        have d9_6s : snap 9 false hh9 nb9_0 = some (.sl 12 (v5.map enc)) := snap_nest (n := 5) d9_6
                                        have d9_6n : lenS nb9_0 = some v5.length := nest_lenS d9_6
                                        simp (maxSteps := 2000000) (disch := first | omega | (simp only [ls]; first | done | omega)) only [ep_laws_szOpS, ep_laws_toOpS, ep_spec_BranchAhead, ep_laws_eqOpS, ep_laws_heldOpS, hv0, hb1, hv2, hb3, hv4, hv5, hv6, d0_0, d0_0s, d0_0n, d1_0, d1_0s, d1_0n, d1_1, d1_1s, d1_1n, hv7, d2_0, d2_0s, d2_0n, d2_1, d2_1s, d2_1n, d2_2, d2_2s, d2_2n, hv8, hb9, hb10, d3_0, d3_0s, d3_0n, d3_1, d3_1s, d3_1n, d3_2, d3_2s, d3_2n, d3_3, d3_3s, d3_3n, hv11, hb12, d4_0, d4_0s, d4_0n, d4_1, d4_1s, d4_1n, d4_2, d4_2s, d4_2n, d4_3, d4_3s, d4_3n, d4_4, d4_4s, d4_4n, hv13, hb14, hv15, d5_0, d5_0s, d5_0n, d5_1, d5_1s, d5_1n, d5_2, d5_2s, d5_2n, d5_3, d5_3s, d5_3n, d5_4, d5_4s, d5_4n, hv16, d6_0, d6_0s, d6_0n, d6_1, d6_1s, d6_1n, d6_2, d6_2s, d6_2n, d6_3, d6_3s, d6_3n, d6_4, d6_4s, d6_4n, hb17, hv18, d7_0, d7_0s, d7_0n, d7_1, d7_1s, d7_1n, d7_2, d7_2s, d7_2n, d7_3, d7_3s, d7_3n, d7_4, d7_4s, d7_4n, hv19, hb20, hb21, d8_0, d8_0s, d8_0n, d8_1, d8_1s, d8_1n, d8_2, d8_2s, d8_2n, d8_3, d8_3s, d8_3n, d8_4, d8_4s, d8_4n, d8_5, d8_5s, d8_5n, d9_0, d9_0s, d9_0n, d9_1, d9_1s, d9_1n, d9_2, d9_2s, d9_2n, d9_3, d9_3s, d9_3n, d9_4, d9_4s, d9_4n, d9_5, d9_5s, d9_5n, d9_6, d9_6s, d9_6n, gx, Int.reduceToNat]
                                        refine call_f (fun h => NestV h hc0.length hh0.length nb0_0 (v15.b : List TOp) ∧ hh0.length ≤ h.length ∧ NestV h hc1.length hh1.length nb1_0 (v16.b : List TOp) ∧ hh1.length ≤ h.length ∧ NestV h hc2.length hh2.length nb2_0 (v18.b : List TOp) ∧ hh2.length ≤ h.length ∧ NestV h hc3.length hh3.length nb3_0 (v4 : List TOp) ∧ hh3.length ≤ h.length ∧ NestV h hc4.length hh4.length nb4_0 (v5 : List TOp) ∧ hh4.length ≤ h.length ∧ NestV h hc8.length hh8.length nb8_0 (v4 : List TOp) ∧ hh8.length ≤ h.length ∧ NestV h hc9.length hh9.length nb9_0 (v5 : List TOp) ∧ hh9.length ≤ h.length) (fun h v h2 => oo_impl_BranchAhead v7 h v h2) ?_ ?_ ?_
                                        · simp (maxSteps := 2000000) (disch := first | omega | (simp only [ls]; first | done | omega)) only [ep_laws_szOpS, ep_laws_toOpS, ep_spec_BranchAhead, ep_laws_eqOpS, ep_laws_heldOpS, hv0, hb1, hv2, hb3, hv4, hv5, hv6, d0_0, d0_0s, d0_0n, d1_0, d1_0s, d1_0n, d1_1, d1_1s, d1_1n, hv7, d2_0, d2_0s, d2_0n, d2_1, d2_1s, d2_1n, d2_2, d2_2s, d2_2n, hv8, hb9, hb10, d3_0, d3_0s, d3_0n, d3_1, d3_1s, d3_1n, d3_2, d3_2s, d3_2n, d3_3, d3_3s, d3_3n, hv11, hb12, d4_0, d4_0s, d4_0n, d4_1, d4_1s, d4_1n, d4_2, d4_2s, d4_2n, d4_3, d4_3s, d4_3n, d4_4, d4_4s, d4_4n, hv13, hb14, hv15, d5_0, d5_0s, d5_0n, d5_1, d5_1s, d5_1n, d5_2, d5_2s, d5_2n, d5_3, d5_3s, d5_3n, d5_4, d5_4s, d5_4n, hv16, d6_0, d6_0s, d6_0n, d6_1, d6_1s, d6_1n, d6_2, d6_2s, d6_2n, d6_3, d6_3s, d6_3n, d6_4, d6_4s, d6_4n, hb17, hv18, d7_0, d7_0s, d7_0n, d7_1, d7_1s, d7_1n, d7_2, d7_2s, d7_2n, d7_3, d7_3s, d7_3n, d7_4, d7_4s, d7_4n, hv19, hb20, hb21, d8_0, d8_0s, d8_0n, d8_1, d8_1s, d8_1n, d8_2, d8_2s, d8_2n, d8_3, d8_3s, d8_3n, d8_4, d8_4s, d8_4n, d8_5, d8_5s, d8_5n, d9_0, d9_0s, d9_0n, d9_1, d9_1s, d9_1n, d9_2, d9_2s, d9_2n, d9_3, d9_3s, d9_3n, d9_4, d9_4s, d9_4n, d9_5, d9_5s, d9_5n, d9_6, d9_6s, d9_6n, gx, Int.reduceToNat] <;> (repeat (first | refine And.intro ?_ ?_ | assumption | exact nest_ext (by assumption) | exact nest_wide (by assumption) (Nat.zero_le _) (by first | omega | (simp; omega)) (Nat.le_refl _) | exact nest_wide (nest_ext (by assumption)) (Nat.zero_le _) (by first | omega | (simp; omega)) (Nat.le_refl _) | exact nest_virt (by simp (maxSteps := 2000000) (disch := first | omega | (simp only [ls]; first | done | omega)) only [ep_laws_szOpS, ep_laws_toOpS, ep_spec_BranchAhead, ep_laws_eqOpS, ep_laws_heldOpS, hv0, hb1, hv2, hb3, hv4, hv5, hv6, d0_0, d0_0s, d0_0n, d1_0, d1_0s, d1_0n, d1_1, d1_1s, d1_1n, hv7, d2_0, d2_0s, d2_0n, d2_1, d2_1s, d2_1n, d2_2, d2_2s, d2_2n, hv8, hb9, hb10, d3_0, d3_0s, d3_0n, d3_1, d3_1s, d3_1n, d3_2, d3_2s, d3_2n, d3_3, d3_3s, d3_3n, hv11, hb12, d4_0, d4_0s, d4_0n, d4_1, d4_1s, d4_1n, d4_2, d4_2s, d4_2n, d4_3, d4_3s, d4_3n, d4_4, d4_4s, d4_4n, hv13, hb14, hv15, d5_0, d5_0s, d5_0n, d5_1, d5_1s, d5_1n, d5_2, d5_2s, d5_2n, d5_3, d5_3s, d5_3n, d5_4, d5_4s, d5_4n, hv16, d6_0, d6_0s, d6_0n, d6_1, d6_1s, d6_1n, d6_2, d6_2s, d6_2n, d6_3, d6_3s, d6_3n, d6_4, d6_4s, d6_4n, hb17, hv18, d7_0, d7_0s, d7_0n, d7_1, d7_1s, d7_1n, d7_2, d7_2s, d7_2n, d7_3, d7_3s, d7_3n, d7_4, d7_4s, d7_4n, hv19, hb20, hb21, d8_0, d8_0s, d8_0n, d8_1, d8_1s, d8_1n, d8_2, d8_2s, d8_2n, d8_3, d8_3s, d8_3n, d8_4, d8_4s, d8_4n, d8_5, d8_5s, d8_5n, d9_0, d9_0s, d9_0n, d9_1, d9_1s, d9_1n, d9_2, d9_2s, d9_2n, d9_3, d9_3s, d9_3n, d9_4, d9_4s, d9_4n, d9_5, d9_5s, d9_5n, d9_6, d9_6s, d9_6n, gx, Int.reduceToNat]) (by omega) (by first | omega | (simp; done) | (simp; omega)) (by first | omega | (simp; done) | (simp; omega)) | refine nest_ext ?_ | refine nest_set ?_ (by omega) | omega))
                                        · rintro h ⟨c10_0, c10_1, c10_2, c10_3, c10_4, c10_5, c10_6, c10_7, c10_8, c10_9, c10_10, c10_11, c10_12, c10_13⟩
                                          have sc10_0 : snap 9 false h nb0_0 = some (.sl 12 (v15.b.map enc)) := snap_nest (n := 5) c10_0
                                          have sc10_1 : snap 9 false h nb1_0 = some (.sl 12 (v16.b.map enc)) := snap_nest (n := 5) c10_2
                                          have sc10_2 : snap 9 false h nb2_0 = some (.sl 12 (v18.b.map enc)) := snap_nest (n := 5) c10_4
                                          have sc10_3 : snap 9 false h nb3_0 = some (.sl 12 (v4.map enc)) := snap_nest (n := 5) c10_6
                                          have sc10_4 : snap 9 false h nb4_0 = some (.sl 12 (v5.map enc)) := snap_nest (n := 5) c10_8
                                          have sc10_5 : snap 9 false h nb8_0 = some (.sl 12 (v4.map enc)) := snap_nest (n := 5) c10_10
                                          have sc10_6 : snap 9 false h nb9_0 = some (.sl 12 (v5.map enc)) := snap_nest (n := 5) c10_12
                                          exact e_impl_BranchAhead _ _ _ hv7 h _ (by simp (maxSteps := 2000000) (disch := first | omega | (simp only [ls]; first | done | omega)) only [ep_laws_szOpS, ep_laws_toOpS, ep_spec_BranchAhead, ep_laws_eqOpS, ep_laws_heldOpS, hv0, hb1, hv2, hb3, hv4, hv5, hv6, d0_0, d0_0s, d0_0n, d1_0, d1_0s, d1_0n, d1_1, d1_1s, d1_1n, hv7, d2_0, d2_0s, d2_0n, d2_1, d2_1s, d2_1n, d2_2, d2_2s, d2_2n, hv8, hb9, hb10, d3_0, d3_0s, d3_0n, d3_1, d3_1s, d3_1n, d3_2, d3_2s, d3_2n, d3_3, d3_3s, d3_3n, hv11, hb12, d4_0, d4_0s, d4_0n, d4_1, d4_1s, d4_1n, d4_2, d4_2s, d4_2n, d4_3, d4_3s, d4_3n, d4_4, d4_4s, d4_4n, hv13, hb14, hv15, d5_0, d5_0s, d5_0n, d5_1, d5_1s, d5_1n, d5_2, d5_2s, d5_2n, d5_3, d5_3s, d5_3n, d5_4, d5_4s, d5_4n, hv16, d6_0, d6_0s, d6_0n, d6_1, d6_1s, d6_1n, d6_2, d6_2s, d6_2n, d6_3, d6_3s, d6_3n, d6_4, d6_4s, d6_4n, hb17, hv18, d7_0, d7_0s, d7_0n, d7_1, d7_1s, d7_1n, d7_2, d7_2s, d7_2n, d7_3, d7_3s, d7_3n, d7_4, d7_4s, d7_4n, hv19, hb20, hb21, d8_0, d8_0s, d8_0n, d8_1, d8_1s, d8_1n, d8_2, d8_2s, d8_2n, d8_3, d8_3s, d8_3n, d8_4, d8_4s, d8_4n, d8_5, d8_5s, d8_5n, d9_0, d9_0s, d9_0n, d9_1, d9_1s, d9_1n, d9_2, d9_2s, d9_2n, d9_3, d9_3s, d9_3n, d9_4, d9_4s, d9_4n, d9_5, d9_5s, d9_5n, d9_6, d9_6s, d9_6n, c10_0, c10_1, c10_2, c10_3, c10_4, c10_5, c10_6, c10_7, c10_8, c10_9, c10_10, c10_11, c10_12, c10_13, sc10_0, sc10_1, sc10_2, sc10_3, sc10_4, sc10_5, sc10_6, gx, Int.reduceToNat])
                                        · rintro hc10 v hh10 ⟨c10_0, c10_1, c10_2, c10_3, c10_4, c10_5, c10_6, c10_7, c10_8, c10_9, c10_10, c10_11, c10_12, c10_13⟩ hpost
                                          obtain ⟨kk10, nb10_0, rfl, wnb10_0⟩ := hpost
                                          have d10_0 : NestV hh10 hc0.length hh0.length nb0_0 (v15.b : List TOp) := nest_keep c10_0 kk10 (by intro b hb; first | (simp at hb; done) | (simp at hb; omega))
                                          have d10_0l := nest_lt d10_0
                                          have d10_0s : snap 9 false hh10 nb0_0 = some (.sl 12 (v15.b.map enc)) := snap_nest (n := 5) d10_0
                                          have d10_0n : lenS nb0_0 = some v15.b.length := nest_lenS d10_0
                                          have d10_1 : NestV hh10 hc1.length hh1.length nb1_0 (v16.b : List TOp) := nest_keep c10_2 kk10 (by intro b hb; first | (simp at hb; done) | (simp at hb; omega))
                                          have d10_1l := nest_lt d10_1
                                          have d10_1s : snap 9 false hh10 nb1_0 = some (.sl 12 (v16.b.map enc)) := snap_nest (n := 5) d10_1
                                          have d10_1n : lenS nb1_0 = some v16.b.length := nest_lenS d10_1
                                          have d10_2 : NestV hh10 hc2.length hh2.length nb2_0 (v18.b : List TOp) := nest_keep c10_4 kk10 (by intro b hb; first | (simp at hb; done) | (simp at hb; omega))
                                          have d10_2l := nest_lt d10_2
                                          have d10_2s : snap 9 false hh10 nb2_0 = some (.sl 12 (v18.b.map enc)) := snap_nest (n := 5) d10_2
                                          have d10_2n : lenS nb2_0 = some v18.b.length := nest_lenS d10_2
                                          have d10_3 : NestV hh10 hc3.length hh3.length nb3_0 (v4 : List TOp) := nest_keep c10_6 kk10 (by intro b hb; first | (simp at hb; done) | (simp at hb; omega))
                                          have d10_3l := nest_lt d10_3
                                          have d10_3s : snap 9 false hh10 nb3_0 = some (.sl 12 (v4.map enc)) := snap_nest (n := 5) d10_3
                                          have d10_3n : lenS nb3_0 = some v4.length := nest_lenS d10_3
                                          have d10_4 : NestV hh10 hc4.length hh4.length nb4_0 (v5 : List TOp) := nest_keep c10_8 kk10 (by intro b hb; first | (simp at hb; done) | (simp at hb; omega))
                                          have d10_4l := nest_lt d10_4
                                          have d10_4s : snap 9 false hh10 nb4_0 = some (.sl 12 (v5.map enc)) := snap_nest (n := 5) d10_4
                                          have d10_4n : lenS nb4_0 = some v5.length := nest_lenS d10_4
                                          have d10_5 : NestV hh10 hc8.length hh8.length nb8_0 (v4 : List TOp) := nest_keep c10_10 kk10 (by intro b hb; first | (simp at hb; done) | (simp at hb; omega))
                                          have d10_5l := nest_lt d10_5
                                          have d10_5s : snap 9 false hh10 nb8_0 = some (.sl 12 (v4.map enc)) := snap_nest (n := 5) d10_5
                                          have d10_5n : lenS nb8_0 = some v4.length := nest_lenS d10_5
                                          have d10_6 : NestV hh10 hc9.length hh9.length nb9_0 (v5 : List TOp) := nest_keep c10_12 kk10 (by intro b hb; first | (simp at hb; done) | (simp at hb; omega))
                                          have d10_6l := nest_lt d10_6
                                          have d10_6s : snap 9 false hh10 nb9_0 = some (.sl 12 (v5.map enc)) := snap_nest (n := 5) d10_6
                                          have d10_6n : lenS nb9_0 = some v5.length := nest_lenS d10_6
                                          have d10_7 := wnb10_0
                                          have d10_7l := nest_lt d10_7
                                          have d10_7s : snap 9 false hh10 nb10_0 = some (.sl 12 (v7.a.map enc)) := snap_nest (n := 5) d10_7
                                          have d10_7n : lenS nb10_0 = some v7.a.length := nest_lenS d10_7
                                          cases hp
                                          simp (maxSteps := 2000000) (disch := first | omega | (simp only [ls]; first | done | omega)) only [ep_laws_szOpS, ep_laws_toOpS, ep_spec_BranchAhead, ep_laws_eqOpS, ep_laws_heldOpS, hv0, hb1, hv2, hb3, hv4, hv5, hv6, d0_0, d0_0s, d0_0n, d1_0, d1_0s, d1_0n, d1_1, d1_1s, d1_1n, hv7, d2_0, d2_0s, d2_0n, d2_1, d2_1s, d2_1n, d2_2, d2_2s, d2_2n, hv8, hb9, hb10, d3_0, d3_0s, d3_0n, d3_1, d3_1s, d3_1n, d3_2, d3_2s, d3_2n, d3_3, d3_3s, d3_3n, hv11, hb12, d4_0, d4_0s, d4_0n, d4_1, d4_1s, d4_1n, d4_2, d4_2s, d4_2n, d4_3, d4_3s, d4_3n, d4_4, d4_4s, d4_4n, hv13, hb14, hv15, d5_0, d5_0s, d5_0n, d5_1, d5_1s, d5_1n, d5_2, d5_2s, d5_2n, d5_3, d5_3s, d5_3n, d5_4, d5_4s, d5_4n, hv16, d6_0, d6_0s, d6_0n, d6_1, d6_1s, d6_1n, d6_2, d6_2s, d6_2n, d6_3, d6_3s, d6_3n, d6_4, d6_4s, d6_4n, hb17, hv18, d7_0, d7_0s, d7_0n, d7_1, d7_1s, d7_1n, d7_2, d7_2s, d7_2n, d7_3, d7_3s, d7_3n, d7_4, d7_4s, d7_4n, hv19, hb20, hb21, d8_0, d8_0s, d8_0n, d8_1, d8_1s, d8_1n, d8_2, d8_2s, d8_2n, d8_3, d8_3s, d8_3n, d8_4, d8_4s, d8_4n, d8_5, d8_5s, d8_5n, d9_0, d9_0s, d9_0n, d9_1, d9_1s, d9_1n, d9_2, d9_2s, d9_2n, d9_3, d9_3s, d9_3n, d9_4, d9_4s, d9_4n, d9_5, d9_5s, d9_5n, d9_6, d9_6s, d9_6n, d10_0, d10_0s, d10_0n, d10_1, d10_1s, d10_1n, d10_2, d10_2s, d10_2n, d10_3, d10_3s, d10_3n, d10_4, d10_4s, d10_4n, d10_5, d10_5s, d10_5n, d10_6, d10_6s, d10_6n, d10_7, d10_7s, d10_7n, gx, Int.reduceToNat]
                                  · replace hb21 := eq_false_of_ne_true hb21
                                    rw [if_f hb21] at hp
                                    cases hp
                      · replace hb14 := eq_false_of_ne_true hb14
                        rw [if_f hb14] at hp
                        cases hp
                  · replace hb12 := eq_false_of_ne_true hb12
                    rw [if_f hb12] at hp
                    cases hp
              · replace hb10 := eq_false_of_ne_true hb10
                rw [if_f hb10] at hp
                cases hp
            · replace hb9 := eq_false_of_ne_true hb9
              rw [if_f hb9] at hp
              cases hp

end Go.AM
