/- Plain functions of BranchMerge and their walks. No condition. -/
import Derived.Test.YtiabacjkejkbgaaLabGBranchMergea
set_option linter.unusedVariables false
set_option linter.unusedSimpArgs false
set_option maxRecDepth 20000
namespace Go.AM
open Pic (enc dec dec_enc dec_sub)
open PicA (encA decA decA_encA decA_sub)
noncomputable def p_laws_FnExactBranchMerge (x0 : List TOp) (x1 : List TOp) : Option Bool :=
  (p_laws_szOpS x0 1048576).bind fun v0 =>
  if (decide (v0 < 0)) = true then
    some true
  else
    (p_laws_szOpS x1 v0).bind fun v2 =>
    if (decide (v2 < 0)) = true then
      some true
    else
      (p_laws_toOpS x0).bind fun v4 =>
      (p_laws_toOpS x1).bind fun v5 =>
      (p_spec_BranchMerge v4 v5).bind fun v6 =>
      (p_impl_BranchMerge v4 v5).bind fun v7 =>
      (p_laws_eqOpS v7.a v6.a).bind fun v8 =>
      if (v8) = true then
        if (decide (v7.b = v6.b)) = true then
          (p_laws_eqOpS v4 v4).bind fun v11 =>
          if (v11) = true then
            (p_laws_eqOpS v5 v5).bind fun v13 =>
            if (v13) = true then
              (p_laws_markOpS v4 1).bind fun v15 =>
              (p_laws_markOpS v5 v15.a).bind fun v16 =>
              if (decide (v16.a < 0)) = true then
                some false
              else
                (p_laws_markOpS v7.a 1).bind fun v18 =>
                (p_laws_heldOpS v18.b 1).bind fun v19 =>
                if (decide (v19 < 0)) = true then
                  some false
                else
                  if (decide (v19 = v18.a)) = true then
                    some true
                  else
                    some false
            else
              some false
          else
            some false
        else
          some false
      else
        some false
def c_laws_FnExactBranchMerge (f_laws_szOpS : Nat) (f_laws_toOpS : Nat) (f_spec_BranchMerge : Nat) (f_impl_BranchMerge : Nat) (f_laws_eqOpS : Nat) (f_laws_markOpS : Nat) (f_laws_heldOpS : Nat) : AFn := ⟨119, (.seq (.ops [(qS 4 (.mv (.const (.bool false))))]) (.seq (.ops [(qS 5 (.mv (ic 1048576)))]) (.seq (.ops [(qS 17 (.mv (.tmp 0))), (qS 18 (.mv (.tmp 5))), (qS 19 (.call (2 * f_laws_szOpS) [(.tmp 17), (.tmp 18)])), (qS 5 (.mv (.tmp 19)))]) (.seq (.seq (.ops [(qS 20 (.mv (.tmp 5))), (qS 21 (.pu (.n (.ar .lss)) [(.tmp 20), (ic 0)]))]) (.cond (.tmp 21) (.seq (.ops [(qS 4 (.mv (.const (.bool true))))]) .ret) .skip)) (.seq (.ops [(qS 22 (.mv (.tmp 1))), (qS 23 (.mv (.tmp 5))), (qS 24 (.call (2 * f_laws_szOpS) [(.tmp 22), (.tmp 23)])), (qS 5 (.mv (.tmp 24)))]) (.seq (.seq (.ops [(qS 25 (.mv (.tmp 5))), (qS 26 (.pu (.n (.ar .lss)) [(.tmp 25), (ic 0)]))]) (.cond (.tmp 26) (.seq (.ops [(qS 4 (.mv (.const (.bool true))))]) .ret) .skip)) (.seq (.ops [(qS 28 (.mv (.tmp 0))), (qS 29 (.call (2 * f_laws_toOpS) [(.tmp 28)])), (qS 30 (.mv (.tmp 1))), (qS 31 (.call (2 * f_laws_toOpS) [(.tmp 30)])), (qS 32 (.call (2 * f_spec_BranchMerge) [(.tmp 29), (.tmp 31)])), (qS 27 (.mv (.tmp 32))), (qS 33 (.extract 0 (.tmp 27))), (qS 34 (.extract 1 (.tmp 27))), (qS 6 (.mv (.tmp 33))), (qS 7 (.mv (.tmp 34)))]) (.seq (.ops [(qS 35 (.mv (.tmp 0))), (qS 36 (.call (2 * f_laws_toOpS + 1) [(.tmp 35)])), (qS 8 (.mv (.tmp 36)))]) (.seq (.ops [(qS 37 (.mv (.tmp 1))), (qS 38 (.call (2 * f_laws_toOpS + 1) [(.tmp 37)])), (qS 9 (.mv (.tmp 38)))]) (.seq (.ops [(qS 40 (.mv (.tmp 8))), (qS 41 (.mv (.tmp 9))), (qS 42 (.call (2 * f_impl_BranchMerge + 1) [(.tmp 40), (.tmp 41)])), (qS 39 (.mv (.tmp 42))), (qS 43 (.extract 0 (.tmp 39))), (qS 44 (.extract 1 (.tmp 39))), (qS 10 (.mv (.tmp 43))), (qS 11 (.mv (.tmp 44)))]) (.seq (.seq (.ops [(qS 45 (.mv (.tmp 10))), (qS 46 (.mv (.tmp 6))), (qS 47 (.call (2 * f_laws_eqOpS) [(.tmp 45), (.tmp 46)])), (qS 48 (.pu (.n (.un .not)) [(.tmp 47)])), (qS 49 (.mv (.tmp 48))), ⟨(.some 50), (.mv (.tmp 11)), (.some (49, false)), []⟩, ⟨(.some 51), (.mv (.tmp 7)), (.some (49, false)), []⟩, ⟨(.some 52), (.pu (.n (.ar .neq)) [(.tmp 50), (.tmp 51)]), (.some (49, false)), []⟩, (qS 53 (.pick (.tmp 49) (.const (.bool true)) (.tmp 52)))]) (.cond (.tmp 53) (.seq (.ops [(qS 4 (.mv (.const (.bool false))))]) .ret) .skip)) (.seq (.seq (.ops [(qS 54 (.mv (.tmp 8))), (qS 55 (.mv (.tmp 0))), (qS 56 (.call (2 * f_laws_toOpS + 1) [(.tmp 55)])), (qS 57 (.call (2 * f_laws_eqOpS) [(.tmp 54), (.tmp 56)])), (qS 58 (.pu (.n (.un .not)) [(.tmp 57)]))]) (.cond (.tmp 58) (.seq (.ops [(qS 4 (.mv (.const (.bool false))))]) .ret) .skip)) (.seq (.seq (.ops [(qS 59 (.mv (.tmp 9))), (qS 60 (.mv (.tmp 1))), (qS 61 (.call (2 * f_laws_toOpS + 1) [(.tmp 60)])), (qS 62 (.call (2 * f_laws_eqOpS) [(.tmp 59), (.tmp 61)])), (qS 63 (.pu (.n (.un .not)) [(.tmp 62)]))]) (.cond (.tmp 63) (.seq (.ops [(qS 4 (.mv (.const (.bool false))))]) .ret) .skip)) (.seq (.ops [(qS 12 (.mv (ic 1)))]) (.seq (.ops [(qS 64 (.mv (.tmp 8))), (qS 65 (.mv (.tmp 12))), (qS 66 (.call (2 * f_laws_markOpS + 1) [(.tmp 64), (.tmp 65)])), (qS 12 (.mv (.tmp 66)))]) (.seq (.ops [(qS 67 (.mv (.tmp 9))), (qS 68 (.mv (.tmp 12))), (qS 69 (.call (2 * f_laws_markOpS + 1) [(.tmp 67), (.tmp 68)])), (qS 12 (.mv (.tmp 69)))]) (.seq (.seq (.ops [(qS 70 (.mv (.tmp 12))), (qS 71 (.pu (.n (.ar .lss)) [(.tmp 70), (ic 0)])), (qS 72 (.mv (.tmp 71))), ⟨(.some 73), (.mv (.tmp 10)), (.some (72, false)), []⟩, ⟨(.some 74), (.mv (.tmp 6)), (.some (72, false)), []⟩, ⟨(.some 75), (.call (2 * f_laws_eqOpS) [(.tmp 73), (.tmp 74)]), (.some (72, false)), []⟩, ⟨(.some 76), (.pu (.n (.un .not)) [(.tmp 75)]), (.some (72, false)), []⟩, (qS 77 (.pick (.tmp 72) (.const (.bool true)) (.tmp 76))), (qS 78 (.mv (.tmp 77))), ⟨(.some 79), (.mv (.tmp 11)), (.some (78, false)), []⟩, ⟨(.some 80), (.mv (.tmp 7)), (.some (78, false)), []⟩, ⟨(.some 81), (.pu (.n (.ar .neq)) [(.tmp 79), (.tmp 80)]), (.some (78, false)), []⟩, (qS 82 (.pick (.tmp 78) (.const (.bool true)) (.tmp 81)))]) (.cond (.tmp 82) (.seq (.ops [(qS 4 (.mv (.const (.bool false))))]) .ret) .skip)) (.seq (.ops [(qS 13 (.mv (ic 1)))]) (.seq (.ops [(qS 83 (.mv (.tmp 10))), (qS 84 (.mv (.tmp 13))), (qS 85 (.call (2 * f_laws_markOpS + 1) [(.tmp 83), (.tmp 84)])), (qS 13 (.mv (.tmp 85)))]) (.seq (.ops [(qS 14 (.mv (ic 1)))]) (.seq (.ops [(qS 86 (.mv (.tmp 10))), (qS 87 (.mv (.tmp 14))), (qS 88 (.call (2 * f_laws_heldOpS) [(.tmp 86), (.tmp 87)])), (qS 14 (.mv (.tmp 88)))]) (.seq (.seq (.ops [(qS 89 (.mv (.tmp 14))), (qS 90 (.pu (.n (.ar .lss)) [(.tmp 89), (ic 0)]))]) (.cond (.tmp 90) (.seq (.ops [(qS 4 (.mv (.const (.bool false))))]) .ret) .skip)) (.seq (.seq (.ops [(qS 91 (.mv (.tmp 14))), (qS 92 (.mv (.tmp 13))), (qS 93 (.pu (.n (.ar .neq)) [(.tmp 91), (.tmp 92)]))]) (.cond (.tmp 93) (.seq (.ops [(qS 4 (.mv (.const (.bool false))))]) .ret) .skip)) (.seq (.ops [(qS 95 (.mv (.tmp 0))), (qS 96 (.call (2 * f_laws_toOpS + 1) [(.tmp 95)])), (qS 97 (.mv (.tmp 1))), (qS 98 (.call (2 * f_laws_toOpS + 1) [(.tmp 97)])), (qS 99 (.call (2 * f_impl_BranchMerge + 1) [(.tmp 96), (.tmp 98)])), (qS 94 (.mv (.tmp 99))), (qS 100 (.extract 0 (.tmp 94))), (qS 101 (.extract 1 (.tmp 94))), (qS 15 (.mv (.tmp 100))), (qS 16 (.mv (.tmp 101)))]) (.seq (.seq (.ops [(qS 102 (.mv (.tmp 15))), (qS 103 (.mv (.tmp 6))), (qS 104 (.call (2 * f_laws_eqOpS) [(.tmp 102), (.tmp 103)])), (qS 105 (.pu (.n (.un .not)) [(.tmp 104)])), (qS 106 (.mv (.tmp 105))), ⟨(.some 107), (.mv (.tmp 16)), (.some (106, false)), []⟩, ⟨(.some 108), (.mv (.tmp 7)), (.some (106, false)), []⟩, ⟨(.some 109), (.pu (.n (.ar .neq)) [(.tmp 107), (.tmp 108)]), (.some (106, false)), []⟩, (qS 110 (.pick (.tmp 106) (.const (.bool true)) (.tmp 109)))]) (.cond (.tmp 110) (.seq (.ops [(qS 4 (.mv (.const (.bool false))))]) .ret) .skip)) (.seq (.ops [(qS 14 (.mv (ic 1)))]) (.seq (.ops [(qS 111 (.mv (.tmp 10))), (qS 112 (.mv (.tmp 14))), (qS 113 (.call (2 * f_laws_heldOpS) [(.tmp 111), (.tmp 112)])), (qS 14 (.mv (.tmp 113)))]) (.seq (.seq (.ops [(qS 114 (.mv (.tmp 14))), (qS 115 (.pu (.n (.ar .lss)) [(.tmp 114), (ic 0)]))]) (.cond (.tmp 115) (.seq (.ops [(qS 4 (.mv (.const (.bool false))))]) .ret) .skip)) (.seq (.seq (.ops [(qS 116 (.mv (.tmp 14))), (qS 117 (.mv (.tmp 13))), (qS 118 (.pu (.n (.ar .neq)) [(.tmp 116), (.tmp 117)]))]) (.cond (.tmp 118) (.seq (.ops [(qS 4 (.mv (.const (.bool false))))]) .ret) .skip)) (.seq (.ops [(qS 4 (.mv (.const (.bool true))))]) .ret)))))))))))))))))))))))))))))), [(.tmp 4)]⟩
set_option maxHeartbeats 10000000 in
theorem d_laws_FnExactBranchMerge {P : Program} {env : Env} {f_laws_szOpS : Nat} {f_laws_toOpS : Nat} {f_spec_BranchMerge : Nat} {f_impl_BranchMerge : Nat} {f_laws_eqOpS : Nat} {f_laws_markOpS : Nat} {f_laws_heldOpS : Nat}  (ep_laws_szOpS : env (2 * f_laws_szOpS) = pureFn true (FA fun a : List TOp × Int => p_laws_szOpS a.1 a.2)) (ep_laws_toOpS : env (2 * f_laws_toOpS) = pureFn false (FA fun a : List TOp => p_laws_toOpS a)) (ep_spec_BranchMerge : env (2 * f_spec_BranchMerge) = pureFn false (FA fun a : List TOp × List TOp => p_spec_BranchMerge a.1 a.2)) (ep_laws_eqOpS : env (2 * f_laws_eqOpS) = pureFn true (FA fun a : List TOp × List TOp => p_laws_eqOpS a.1 a.2)) (ep_laws_heldOpS : env (2 * f_laws_heldOpS) = pureFn true (FA fun a : List TOp × Int => p_laws_heldOpS a.1 a.2)) (e_laws_toOpS : k_laws_toOpS (env (2 * f_laws_toOpS + 1))) (e_impl_BranchMerge : k_impl_BranchMerge (env (2 * f_impl_BranchMerge + 1))) (e_laws_markOpS : k_laws_markOpS (env (2 * f_laws_markOpS + 1))) (x0 : List TOp) (x1 : List TOp) (hp : p_laws_FnExactBranchMerge x0 x1 = some true) : R P env (c_laws_FnExactBranchMerge f_laws_szOpS f_laws_toOpS f_spec_BranchMerge f_impl_BranchMerge f_laws_eqOpS f_laws_markOpS f_laws_heldOpS) ((encA (x0, x1)).map ofI) [] (fun v _ => v = .i (iB true)) := by
  refine R_of (by simp [c_laws_FnExactBranchMerge, encA]) ?_
  have E := And.intro ep_laws_szOpS (And.intro ep_laws_toOpS (And.intro ep_spec_BranchMerge (And.intro ep_laws_eqOpS ep_laws_heldOpS)))
  unfold c_laws_FnExactBranchMerge
  unfold p_laws_FnExactBranchMerge at hp
  obtain ⟨v0, hv0, hp⟩ := bind_eq hp
  by_cases hb1 : (decide (v0 < 0)) = true
  · rw [if_t hb1] at hp
    cases hp
    simp (maxSteps := 2000000) (disch := first|omega|(simp only[ls];first|done|omega)) only [E, hv0, hb1, gx, eta_T4, enc_T4, dec_T4, ret_four]
  · replace hb1 := eq_false_of_ne_true hb1
    rw [if_f hb1] at hp
    obtain ⟨v2, hv2, hp⟩ := bind_eq hp
    by_cases hb3 : (decide (v2 < 0)) = true
    · rw [if_t hb3] at hp
      cases hp
      simp (maxSteps := 2000000) (disch := first|omega|(simp only[ls];first|done|omega)) only [E, hv0, hb1, hv2, hb3, gx, eta_T4, enc_T4, dec_T4, ret_four]
    · replace hb3 := eq_false_of_ne_true hb3
      rw [if_f hb3] at hp
      obtain ⟨v4, hv4, hp⟩ := bind_eq hp
      obtain ⟨v5, hv5, hp⟩ := bind_eq hp
      obtain ⟨v6, hv6, hp⟩ := bind_eq hp
      simp (maxSteps := 2000000) (disch := first|omega|(simp only[ls];first|done|omega)) only [E, hv0, hb1, hv2, hb3, hv4, hv5, hv6, gx, eta_T4, enc_T4, dec_T4, ret_four]
      refine call_f (fun h => True) (fun h v h2 => oo_laws_toOpS v4 h v h2) ?_ ?_ ?_
      · simp (maxSteps := 2000000) (disch := first|omega|(simp only[ls];first|done|omega)) only [E, hv0, hb1, hv2, hb3, hv4, hv5, hv6, gx, eta_T4, enc_T4, dec_T4, ret_four] <;> (repeat (first | refine And.intro ?_ ?_ | assumption | exact nest_ext (by assumption) | exact nest_wide (by assumption) (Nat.zero_le _) (by first | omega | (simp; omega)) (Nat.le_refl _) | exact nest_wide (nest_ext (by assumption)) (Nat.zero_le _) (by first | omega | (simp; omega)) (Nat.le_refl _) | exact nest_virt (by simp (maxSteps := 2000000) (disch := first|omega|(simp only[ls];first|done|omega)) only [E, hv0, hb1, hv2, hb3, hv4, hv5, hv6, gx, eta_T4, enc_T4, dec_T4, ret_four]) (by omega) (by first | omega | (simp; done) | (simp; omega)) (by first | omega | (simp; done) | (simp; omega)) | refine nest_ext ?_ | refine nest_set ?_ (by omega) | omega))
      · rintro h _
        exact e_laws_toOpS _ _ hv4 h _ (by simp (maxSteps := 2000000) (disch := first|omega|(simp only[ls];first|done|omega)) only [E, hv0, hb1, hv2, hb3, hv4, hv5, hv6, gx, eta_T4, enc_T4, dec_T4, ret_four])
      · rintro hc0 nb0_0 hh0 _ hpost
        obtain ⟨kk0, _, rfl, wnb0_0⟩ := hpost
        have d0_0 := wnb0_0
        have d0_0l := nest_lt d0_0
        have d0_0s : snap 9 false hh0 nb0_0 = some (.sl 12 (v4.map enc)) := snap_nest (n := 5) d0_0
        have d0_0n : lenS nb0_0 = some v4.length := nest_lenS d0_0
        simp (maxSteps := 2000000) (disch := first|omega|(simp only[ls];first|done|omega)) only [E, hv0, hb1, hv2, hb3, hv4, hv5, hv6, d0_0, d0_0s, d0_0n, gx, eta_T4, enc_T4, dec_T4, ret_four]
        refine call_f (fun h => NestV h hc0.length hh0.length nb0_0 (v4 : List TOp) ∧ hh0.length ≤ h.length) (fun h v h2 => oo_laws_toOpS v5 h v h2) ?_ ?_ ?_
        · simp (maxSteps := 2000000) (disch := first|omega|(simp only[ls];first|done|omega)) only [E, hv0, hb1, hv2, hb3, hv4, hv5, hv6, d0_0, d0_0s, d0_0n, gx, eta_T4, enc_T4, dec_T4, ret_four] <;> (repeat (first | refine And.intro ?_ ?_ | assumption | exact nest_ext (by assumption) | exact nest_wide (by assumption) (Nat.zero_le _) (by first | omega | (simp; omega)) (Nat.le_refl _) | exact nest_wide (nest_ext (by assumption)) (Nat.zero_le _) (by first | omega | (simp; omega)) (Nat.le_refl _) | exact nest_virt (by simp (maxSteps := 2000000) (disch := first|omega|(simp only[ls];first|done|omega)) only [E, hv0, hb1, hv2, hb3, hv4, hv5, hv6, d0_0, d0_0s, d0_0n, gx, eta_T4, enc_T4, dec_T4, ret_four]) (by omega) (by first | omega | (simp; done) | (simp; omega)) (by first | omega | (simp; done) | (simp; omega)) | refine nest_ext ?_ | refine nest_set ?_ (by omega) | omega))
        · rintro h ⟨c1_0, c1_1⟩
          have sc1_0 : snap 9 false h nb0_0 = some (.sl 12 (v4.map enc)) := snap_nest (n := 5) c1_0
          exact e_laws_toOpS _ _ hv5 h _ (by simp (maxSteps := 2000000) (disch := first|omega|(simp only[ls];first|done|omega)) only [E, hv0, hb1, hv2, hb3, hv4, hv5, hv6, d0_0, d0_0s, d0_0n, c1_0, c1_1, sc1_0, gx, eta_T4, enc_T4, dec_T4, ret_four])
        · rintro hc1 nb1_0 hh1 ⟨c1_0, c1_1⟩ hpost
          obtain ⟨kk1, _, rfl, wnb1_0⟩ := hpost
          have d1_0 : NestV hh1 hc0.length hh0.length nb0_0 (v4 : List TOp) := nest_keep c1_0 kk1 (by intro b hb; first | (simp at hb; done) | (simp at hb; omega))
          have d1_0l := nest_lt d1_0
          have d1_0s : snap 9 false hh1 nb0_0 = some (.sl 12 (v4.map enc)) := snap_nest (n := 5) d1_0
          have d1_0n : lenS nb0_0 = some v4.length := nest_lenS d1_0
          have d1_1 := wnb1_0
          have d1_1l := nest_lt d1_1
          have d1_1s : snap 9 false hh1 nb1_0 = some (.sl 12 (v5.map enc)) := snap_nest (n := 5) d1_1
          have d1_1n : lenS nb1_0 = some v5.length := nest_lenS d1_1
          obtain ⟨v7, hv7, hp⟩ := bind_eq hp
          simp (maxSteps := 2000000) (disch := first|omega|(simp only[ls];first|done|omega)) only [E, hv0, hb1, hv2, hb3, hv4, hv5, hv6, d0_0, d0_0s, d0_0n, d1_0, d1_0s, d1_0n, d1_1, d1_1s, d1_1n, gx, eta_T4, enc_T4, dec_T4, ret_four]
          refine call_f (fun h => NestV h hc0.length hh0.length nb0_0 (v4 : List TOp) ∧ hh0.length ≤ h.length ∧ NestV h hc1.length hh1.length nb1_0 (v5 : List TOp) ∧ hh1.length ≤ h.length) (fun h v h2 => oo_impl_BranchMerge v7 h v h2) ?_ ?_ ?_
          · simp (maxSteps := 2000000) (disch := first|omega|(simp only[ls];first|done|omega)) only [E, hv0, hb1, hv2, hb3, hv4, hv5, hv6, d0_0, d0_0s, d0_0n, d1_0, d1_0s, d1_0n, d1_1, d1_1s, d1_1n, hv7, gx, eta_T4, enc_T4, dec_T4, ret_four] <;> (repeat (first | refine And.intro ?_ ?_ | assumption | exact nest_ext (by assumption) | exact nest_wide (by assumption) (Nat.zero_le _) (by first | omega | (simp; omega)) (Nat.le_refl _) | exact nest_wide (nest_ext (by assumption)) (Nat.zero_le _) (by first | omega | (simp; omega)) (Nat.le_refl _) | exact nest_virt (by simp (maxSteps := 2000000) (disch := first|omega|(simp only[ls];first|done|omega)) only [E, hv0, hb1, hv2, hb3, hv4, hv5, hv6, d0_0, d0_0s, d0_0n, d1_0, d1_0s, d1_0n, d1_1, d1_1s, d1_1n, hv7, gx, eta_T4, enc_T4, dec_T4, ret_four]) (by omega) (by first | omega | (simp; done) | (simp; omega)) (by first | omega | (simp; done) | (simp; omega)) | refine nest_ext ?_ | refine nest_set ?_ (by omega) | omega))
          · rintro h ⟨c2_0, c2_1, c2_2, c2_3⟩
            have sc2_0 : snap 9 false h nb0_0 = some (.sl 12 (v4.map enc)) := snap_nest (n := 5) c2_0
            have sc2_1 : snap 9 false h nb1_0 = some (.sl 12 (v5.map enc)) := snap_nest (n := 5) c2_2
            exact e_impl_BranchMerge _ _ _ hv7 h _ (by simp (maxSteps := 2000000) (disch := first|omega|(simp only[ls];first|done|omega)) only [E, hv0, hb1, hv2, hb3, hv4, hv5, hv6, d0_0, d0_0s, d0_0n, d1_0, d1_0s, d1_0n, d1_1, d1_1s, d1_1n, hv7, c2_0, c2_1, c2_2, c2_3, sc2_0, sc2_1, gx, eta_T4, enc_T4, dec_T4, ret_four])
          · rintro hc2 v hh2 ⟨c2_0, c2_1, c2_2, c2_3⟩ hpost
            obtain ⟨kk2, nb2_0, rfl, wnb2_0⟩ := hpost
            have d2_0 : NestV hh2 hc0.length hh0.length nb0_0 (v4 : List TOp) := nest_keep c2_0 kk2 (by intro b hb; first | (simp at hb; done) | (simp at hb; omega))
            have d2_0l := nest_lt d2_0
            have d2_0s : snap 9 false hh2 nb0_0 = some (.sl 12 (v4.map enc)) := snap_nest (n := 5) d2_0
            have d2_0n : lenS nb0_0 = some v4.length := nest_lenS d2_0
            have d2_1 : NestV hh2 hc1.length hh1.length nb1_0 (v5 : List TOp) := nest_keep c2_2 kk2 (by intro b hb; first | (simp at hb; done) | (simp at hb; omega))
            have d2_1l := nest_lt d2_1
            have d2_1s : snap 9 false hh2 nb1_0 = some (.sl 12 (v5.map enc)) := snap_nest (n := 5) d2_1
            have d2_1n : lenS nb1_0 = some v5.length := nest_lenS d2_1
            have d2_2 := wnb2_0
            have d2_2l := nest_lt d2_2
            have d2_2s : snap 9 false hh2 nb2_0 = some (.sl 12 (v7.a.map enc)) := snap_nest (n := 5) d2_2
            have d2_2n : lenS nb2_0 = some v7.a.length := nest_lenS d2_2
            obtain ⟨v8, hv8, hp⟩ := bind_eq hp
            by_cases hb9 : (v8) = true
            · rw [if_t hb9] at hp
              by_cases hb10 : (decide (v7.b = v6.b)) = true
              · rw [if_t hb10] at hp
                simp (maxSteps := 2000000) (disch := first|omega|(simp only[ls];first|done|omega)) only [E, hv0, hb1, hv2, hb3, hv4, hv5, hv6, d0_0, d0_0s, d0_0n, d1_0, d1_0s, d1_0n, d1_1, d1_1s, d1_1n, hv7, d2_0, d2_0s, d2_0n, d2_1, d2_1s, d2_1n, d2_2, d2_2s, d2_2n, hv8, hb9, hb10, gx, eta_T4, enc_T4, dec_T4, ret_four]
                refine call_f (fun h => NestV h hc0.length hh0.length nb0_0 (v4 : List TOp) ∧ hh0.length ≤ h.length ∧ NestV h hc1.length hh1.length nb1_0 (v5 : List TOp) ∧ hh1.length ≤ h.length ∧ NestV h hc2.length hh2.length nb2_0 (v7.a : List TOp) ∧ hh2.length ≤ h.length) (fun h v h2 => oo_laws_toOpS v4 h v h2) ?_ ?_ ?_
                · simp (maxSteps := 2000000) (disch := first|omega|(simp only[ls];first|done|omega)) only [E, hv0, hb1, hv2, hb3, hv4, hv5, hv6, d0_0, d0_0s, d0_0n, d1_0, d1_0s, d1_0n, d1_1, d1_1s, d1_1n, hv7, d2_0, d2_0s, d2_0n, d2_1, d2_1s, d2_1n, d2_2, d2_2s, d2_2n, hv8, hb9, hb10, gx, eta_T4, enc_T4, dec_T4, ret_four] <;> (repeat (first | refine And.intro ?_ ?_ | assumption | exact nest_ext (by assumption) | exact nest_wide (by assumption) (Nat.zero_le _) (by first | omega | (simp; omega)) (Nat.le_refl _) | exact nest_wide (nest_ext (by assumption)) (Nat.zero_le _) (by first | omega | (simp; omega)) (Nat.le_refl _) | exact nest_virt (by simp (maxSteps := 2000000) (disch := first|omega|(simp only[ls];first|done|omega)) only [E, hv0, hb1, hv2, hb3, hv4, hv5, hv6, d0_0, d0_0s, d0_0n, d1_0, d1_0s, d1_0n, d1_1, d1_1s, d1_1n, hv7, d2_0, d2_0s, d2_0n, d2_1, d2_1s, d2_1n, d2_2, d2_2s, d2_2n, hv8, hb9, hb10, gx, eta_T4, enc_T4, dec_T4, ret_four]) (by omega) (by first | omega | (simp; done) | (simp; omega)) (by first | omega | (simp; done) | (simp; omega)) | refine nest_ext ?_ | refine nest_set ?_ (by omega) | omega))
                · rintro h ⟨c3_0, c3_1, c3_2, c3_3, c3_4, c3_5⟩
                  have sc3_0 : snap 9 false h nb0_0 = some (.sl 12 (v4.map enc)) := snap_nest (n := 5) c3_0
                  have sc3_1 : snap 9 false h nb1_0 = some (.sl 12 (v5.map enc)) := snap_nest (n := 5) c3_2
                  have sc3_2 : snap 9 false h nb2_0 = some (.sl 12 (v7.a.map enc)) := snap_nest (n := 5) c3_4
                  exact e_laws_toOpS _ _ hv4 h _ (by simp (maxSteps := 2000000) (disch := first|omega|(simp only[ls];first|done|omega)) only [E, hv0, hb1, hv2, hb3, hv4, hv5, hv6, d0_0, d0_0s, d0_0n, d1_0, d1_0s, d1_0n, d1_1, d1_1s, d1_1n, hv7, d2_0, d2_0s, d2_0n, d2_1, d2_1s, d2_1n, d2_2, d2_2s, d2_2n, hv8, hb9, hb10, c3_0, c3_1, c3_2, c3_3, c3_4, c3_5, sc3_0, sc3_1, sc3_2, gx, eta_T4, enc_T4, dec_T4, ret_four])
                · rintro hc3 nb3_0 hh3 ⟨c3_0, c3_1, c3_2, c3_3, c3_4, c3_5⟩ hpost
                  obtain ⟨kk3, _, rfl, wnb3_0⟩ := hpost
                  have d3_0 : NestV hh3 hc0.length hh0.length nb0_0 (v4 : List TOp) := nest_keep c3_0 kk3 (by intro b hb; first | (simp at hb; done) | (simp at hb; omega))
                  have d3_0l := nest_lt d3_0
                  have d3_0s : snap 9 false hh3 nb0_0 = some (.sl 12 (v4.map enc)) := snap_nest (n := 5) d3_0
                  have d3_0n : lenS nb0_0 = some v4.length := nest_lenS d3_0
                  have d3_1 : NestV hh3 hc1.length hh1.length nb1_0 (v5 : List TOp) := nest_keep c3_2 kk3 (by intro b hb; first | (simp at hb; done) | (simp at hb; omega))
                  have d3_1l := nest_lt d3_1
                  have d3_1s : snap 9 false hh3 nb1_0 = some (.sl 12 (v5.map enc)) := snap_nest (n := 5) d3_1
                  have d3_1n : lenS nb1_0 = some v5.length := nest_lenS d3_1
                  have d3_2 : NestV hh3 hc2.length hh2.length nb2_0 (v7.a : List TOp) := nest_keep c3_4 kk3 (by intro b hb; first | (simp at hb; done) | (simp at hb; omega))
                  have d3_2l := nest_lt d3_2
                  have d3_2s : snap 9 false hh3 nb2_0 = some (.sl 12 (v7.a.map enc)) := snap_nest (n := 5) d3_2
                  have d3_2n : lenS nb2_0 = some v7.a.length := nest_lenS d3_2
                  have d3_3 := wnb3_0
                  have d3_3l := nest_lt d3_3
                  have d3_3s : snap 9 false hh3 nb3_0 = some (.sl 12 (v4.map enc)) := snap_nest (n := 5) d3_3
                  have d3_3n : lenS nb3_0 = some v4.length := nest_lenS d3_3
                  obtain ⟨v11, hv11, hp⟩ := bind_eq hp
                  by_cases hb12 : (v11) = true
                  · rw [if_t hb12] at hp
                    simp (maxSteps := 2000000) (disch := first|omega|(simp only[ls];first|done|omega)) only [E, hv0, hb1, hv2, hb3, hv4, hv5, hv6, d0_0, d0_0s, d0_0n, d1_0, d1_0s, d1_0n, d1_1, d1_1s, d1_1n, hv7, d2_0, d2_0s, d2_0n, d2_1, d2_1s, d2_1n, d2_2, d2_2s, d2_2n, hv8, hb9, hb10, d3_0, d3_0s, d3_0n, d3_1, d3_1s, d3_1n, d3_2, d3_2s, d3_2n, d3_3, d3_3s, d3_3n, hv11, hb12, gx, eta_T4, enc_T4, dec_T4, ret_four]
                    refine call_f (fun h => NestV h hc0.length hh0.length nb0_0 (v4 : List TOp) ∧ hh0.length ≤ h.length ∧ NestV h hc1.length hh1.length nb1_0 (v5 : List TOp) ∧ hh1.length ≤ h.length ∧ NestV h hc2.length hh2.length nb2_0 (v7.a : List TOp) ∧ hh2.length ≤ h.length ∧ NestV h hc3.length hh3.length nb3_0 (v4 : List TOp) ∧ hh3.length ≤ h.length) (fun h v h2 => oo_laws_toOpS v5 h v h2) ?_ ?_ ?_
                    · simp (maxSteps := 2000000) (disch := first|omega|(simp only[ls];first|done|omega)) only [E, hv0, hb1, hv2, hb3, hv4, hv5, hv6, d0_0, d0_0s, d0_0n, d1_0, d1_0s, d1_0n, d1_1, d1_1s, d1_1n, hv7, d2_0, d2_0s, d2_0n, d2_1, d2_1s, d2_1n, d2_2, d2_2s, d2_2n, hv8, hb9, hb10, d3_0, d3_0s, d3_0n, d3_1, d3_1s, d3_1n, d3_2, d3_2s, d3_2n, d3_3, d3_3s, d3_3n, hv11, hb12, gx, eta_T4, enc_T4, dec_T4, ret_four] <;> (repeat (first | refine And.intro ?_ ?_ | assumption | exact nest_ext (by assumption) | exact nest_wide (by assumption) (Nat.zero_le _) (by first | omega | (simp; omega)) (Nat.le_refl _) | exact nest_wide (nest_ext (by assumption)) (Nat.zero_le _) (by first | omega | (simp; omega)) (Nat.le_refl _) | exact nest_virt (by simp (maxSteps := 2000000) (disch := first|omega|(simp only[ls];first|done|omega)) only [E, hv0, hb1, hv2, hb3, hv4, hv5, hv6, d0_0, d0_0s, d0_0n, d1_0, d1_0s, d1_0n, d1_1, d1_1s, d1_1n, hv7, d2_0, d2_0s, d2_0n, d2_1, d2_1s, d2_1n, d2_2, d2_2s, d2_2n, hv8, hb9, hb10, d3_0, d3_0s, d3_0n, d3_1, d3_1s, d3_1n, d3_2, d3_2s, d3_2n, d3_3, d3_3s, d3_3n, hv11, hb12, gx, eta_T4, enc_T4, dec_T4, ret_four]) (by omega) (by first | omega | (simp; done) | (simp; omega)) (by first | omega | (simp; done) | (simp; omega)) | refine nest_ext ?_ | refine nest_set ?_ (by omega) | omega))
                    · rintro h ⟨c4_0, c4_1, c4_2, c4_3, c4_4, c4_5, c4_6, c4_7⟩
                      have sc4_0 : snap 9 false h nb0_0 = some (.sl 12 (v4.map enc)) := snap_nest (n := 5) c4_0
                      have sc4_1 : snap 9 false h nb1_0 = some (.sl 12 (v5.map enc)) := snap_nest (n := 5) c4_2
                      have sc4_2 : snap 9 false h nb2_0 = some (.sl 12 (v7.a.map enc)) := snap_nest (n := 5) c4_4
                      have sc4_3 : snap 9 false h nb3_0 = some (.sl 12 (v4.map enc)) := snap_nest (n := 5) c4_6
                      exact e_laws_toOpS _ _ hv5 h _ (by simp (maxSteps := 2000000) (disch := first|omega|(simp only[ls];first|done|omega)) only [E, hv0, hb1, hv2, hb3, hv4, hv5, hv6, d0_0, d0_0s, d0_0n, d1_0, d1_0s, d1_0n, d1_1, d1_1s, d1_1n, hv7, d2_0, d2_0s, d2_0n, d2_1, d2_1s, d2_1n, d2_2, d2_2s, d2_2n, hv8, hb9, hb10, d3_0, d3_0s, d3_0n, d3_1, d3_1s, d3_1n, d3_2, d3_2s, d3_2n, d3_3, d3_3s, d3_3n, hv11, hb12, c4_0, c4_1, c4_2, c4_3, c4_4, c4_5, c4_6, c4_7, sc4_0, sc4_1, sc4_2, sc4_3, gx, eta_T4, enc_T4, dec_T4, ret_four])
                    · rintro hc4 nb4_0 hh4 ⟨c4_0, c4_1, c4_2, c4_3, c4_4, c4_5, c4_6, c4_7⟩ hpost
                      obtain ⟨kk4, _, rfl, wnb4_0⟩ := hpost
                      have d4_0 : NestV hh4 hc0.length hh0.length nb0_0 (v4 : List TOp) := nest_keep c4_0 kk4 (by intro b hb; first | (simp at hb; done) | (simp at hb; omega))
                      have d4_0l := nest_lt d4_0
                      have d4_0s : snap 9 false hh4 nb0_0 = some (.sl 12 (v4.map enc)) := snap_nest (n := 5) d4_0
                      have d4_0n : lenS nb0_0 = some v4.length := nest_lenS d4_0
                      have d4_1 : NestV hh4 hc1.length hh1.length nb1_0 (v5 : List TOp) := nest_keep c4_2 kk4 (by intro b hb; first | (simp at hb; done) | (simp at hb; omega))
                      have d4_1l := nest_lt d4_1
                      have d4_1s : snap 9 false hh4 nb1_0 = some (.sl 12 (v5.map enc)) := snap_nest (n := 5) d4_1
                      have d4_1n : lenS nb1_0 = some v5.length := nest_lenS d4_1
                      have d4_2 : NestV hh4 hc2.length hh2.length nb2_0 (v7.a : List TOp) := nest_keep c4_4 kk4 (by intro b hb; first | (simp at hb; done) | (simp at hb; omega))
                      have d4_2l := nest_lt d4_2
                      have d4_2s : snap 9 false hh4 nb2_0 = some (.sl 12 (v7.a.map enc)) := snap_nest (n := 5) d4_2
                      have d4_2n : lenS nb2_0 = some v7.a.length := nest_lenS d4_2
                      have d4_3 : NestV hh4 hc3.length hh3.length nb3_0 (v4 : List TOp) := nest_keep c4_6 kk4 (by intro b hb; first | (simp at hb; done) | (simp at hb; omega))
                      have d4_3l := nest_lt d4_3
                      have d4_3s : snap 9 false hh4 nb3_0 = some (.sl 12 (v4.map enc)) := snap_nest (n := 5) d4_3
                      have d4_3n : lenS nb3_0 = some v4.length := nest_lenS d4_3
                      have d4_4 := wnb4_0
                      have d4_4l := nest_lt d4_4
                      have d4_4s : snap 9 false hh4 nb4_0 = some (.sl 12 (v5.map enc)) := snap_nest (n := 5) d4_4
                      have d4_4n : lenS nb4_0 = some v5.length := nest_lenS d4_4
                      obtain ⟨v13, hv13, hp⟩ := bind_eq hp
                      by_cases hb14 : (v13) = true
                      · rw [if_t hb14] at hp
                        obtain ⟨v15, hv15, hp⟩ := bind_eq hp
                        simp (maxSteps := 2000000) (disch := first|omega|(simp only[ls];first|done|omega)) only [E, hv0, hb1, hv2, hb3, hv4, hv5, hv6, d0_0, d0_0s, d0_0n, d1_0, d1_0s, d1_0n, d1_1, d1_1s, d1_1n, hv7, d2_0, d2_0s, d2_0n, d2_1, d2_1s, d2_1n, d2_2, d2_2s, d2_2n, hv8, hb9, hb10, d3_0, d3_0s, d3_0n, d3_1, d3_1s, d3_1n, d3_2, d3_2s, d3_2n, d3_3, d3_3s, d3_3n, hv11, hb12, d4_0, d4_0s, d4_0n, d4_1, d4_1s, d4_1n, d4_2, d4_2s, d4_2n, d4_3, d4_3s, d4_3n, d4_4, d4_4s, d4_4n, hv13, hb14, gx, eta_T4, enc_T4, dec_T4, ret_four]
                        refine call_f (fun h => NestV h hc0.length hh0.length nb0_0 (v4 : List TOp) ∧ hh0.length ≤ h.length ∧ NestV h hc1.length hh1.length nb1_0 (v5 : List TOp) ∧ hh1.length ≤ h.length ∧ NestV h hc2.length hh2.length nb2_0 (v7.a : List TOp) ∧ hh2.length ≤ h.length ∧ NestV h hc3.length hh3.length nb3_0 (v4 : List TOp) ∧ hh3.length ≤ h.length ∧ NestV h hc4.length hh4.length nb4_0 (v5 : List TOp) ∧ hh4.length ≤ h.length) (fun h v h2 => i_laws_markOpS hc0.length hh0.length nb0_0 h v15 v h2) ?_ ?_ ?_
                        · simp (maxSteps := 2000000) (disch := first|omega|(simp only[ls];first|done|omega)) only [E, hv0, hb1, hv2, hb3, hv4, hv5, hv6, d0_0, d0_0s, d0_0n, d1_0, d1_0s, d1_0n, d1_1, d1_1s, d1_1n, hv7, d2_0, d2_0s, d2_0n, d2_1, d2_1s, d2_1n, d2_2, d2_2s, d2_2n, hv8, hb9, hb10, d3_0, d3_0s, d3_0n, d3_1, d3_1s, d3_1n, d3_2, d3_2s, d3_2n, d3_3, d3_3s, d3_3n, hv11, hb12, d4_0, d4_0s, d4_0n, d4_1, d4_1s, d4_1n, d4_2, d4_2s, d4_2n, d4_3, d4_3s, d4_3n, d4_4, d4_4s, d4_4n, hv13, hb14, hv15, gx, eta_T4, enc_T4, dec_T4, ret_four] <;> (repeat (first | refine And.intro ?_ ?_ | assumption | exact nest_ext (by assumption) | exact nest_wide (by assumption) (Nat.zero_le _) (by first | omega | (simp; omega)) (Nat.le_refl _) | exact nest_wide (nest_ext (by assumption)) (Nat.zero_le _) (by first | omega | (simp; omega)) (Nat.le_refl _) | exact nest_virt (by simp (maxSteps := 2000000) (disch := first|omega|(simp only[ls];first|done|omega)) only [E, hv0, hb1, hv2, hb3, hv4, hv5, hv6, d0_0, d0_0s, d0_0n, d1_0, d1_0s, d1_0n, d1_1, d1_1s, d1_1n, hv7, d2_0, d2_0s, d2_0n, d2_1, d2_1s, d2_1n, d2_2, d2_2s, d2_2n, hv8, hb9, hb10, d3_0, d3_0s, d3_0n, d3_1, d3_1s, d3_1n, d3_2, d3_2s, d3_2n, d3_3, d3_3s, d3_3n, hv11, hb12, d4_0, d4_0s, d4_0n, d4_1, d4_1s, d4_1n, d4_2, d4_2s, d4_2n, d4_3, d4_3s, d4_3n, d4_4, d4_4s, d4_4n, hv13, hb14, hv15, gx, eta_T4, enc_T4, dec_T4, ret_four]) (by omega) (by first | omega | (simp; done) | (simp; omega)) (by first | omega | (simp; done) | (simp; omega)) | refine nest_ext ?_ | refine nest_set ?_ (by omega) | omega))
                        · rintro h ⟨c5_0, c5_1, c5_2, c5_3, c5_4, c5_5, c5_6, c5_7, c5_8, c5_9⟩
                          have sc5_0 : snap 9 false h nb0_0 = some (.sl 12 (v4.map enc)) := snap_nest (n := 5) c5_0
                          have sc5_1 : snap 9 false h nb1_0 = some (.sl 12 (v5.map enc)) := snap_nest (n := 5) c5_2
                          have sc5_2 : snap 9 false h nb2_0 = some (.sl 12 (v7.a.map enc)) := snap_nest (n := 5) c5_4
                          have sc5_3 : snap 9 false h nb3_0 = some (.sl 12 (v4.map enc)) := snap_nest (n := 5) c5_6
                          have sc5_4 : snap 9 false h nb4_0 = some (.sl 12 (v5.map enc)) := snap_nest (n := 5) c5_8
                          exact e_laws_markOpS _ _ _ hv15 _ _ _ h c5_0
                        · rintro hc5 v hh5 ⟨c5_0, c5_1, c5_2, c5_3, c5_4, c5_5, c5_6, c5_7, c5_8, c5_9⟩ hpost
                          obtain ⟨kk5, rfl, w5_0⟩ := hpost
                          have d5_0 : NestV hh5 hc0.length hh0.length nb0_0 (v15.b : List TOp) := w5_0
                          have d5_0l := nest_lt d5_0
                          have d5_0s : snap 9 false hh5 nb0_0 = some (.sl 12 (v15.b.map enc)) := snap_nest (n := 5) d5_0
                          have d5_0n : lenS nb0_0 = some v15.b.length := nest_lenS d5_0
                          have d5_1 : NestV hh5 hc1.length hh1.length nb1_0 (v5 : List TOp) := nest_keepI c5_2 kk5 (by omega)
                          have d5_1l := nest_lt d5_1
                          have d5_1s : snap 9 false hh5 nb1_0 = some (.sl 12 (v5.map enc)) := snap_nest (n := 5) d5_1
                          have d5_1n : lenS nb1_0 = some v5.length := nest_lenS d5_1
                          have d5_2 : NestV hh5 hc2.length hh2.length nb2_0 (v7.a : List TOp) := nest_keepI c5_4 kk5 (by omega)
                          have d5_2l := nest_lt d5_2
                          have d5_2s : snap 9 false hh5 nb2_0 = some (.sl 12 (v7.a.map enc)) := snap_nest (n := 5) d5_2
                          have d5_2n : lenS nb2_0 = some v7.a.length := nest_lenS d5_2
                          have d5_3 : NestV hh5 hc3.length hh3.length nb3_0 (v4 : List TOp) := nest_keepI c5_6 kk5 (by omega)
                          have d5_3l := nest_lt d5_3
                          have d5_3s : snap 9 false hh5 nb3_0 = some (.sl 12 (v4.map enc)) := snap_nest (n := 5) d5_3
                          have d5_3n : lenS nb3_0 = some v4.length := nest_lenS d5_3
                          have d5_4 : NestV hh5 hc4.length hh4.length nb4_0 (v5 : List TOp) := nest_keepI c5_8 kk5 (by omega)
                          have d5_4l := nest_lt d5_4
                          have d5_4s : snap 9 false hh5 nb4_0 = some (.sl 12 (v5.map enc)) := snap_nest (n := 5) d5_4
                          have d5_4n : lenS nb4_0 = some v5.length := nest_lenS d5_4
                          obtain ⟨v16, hv16, hp⟩ := bind_eq hp
                          simp (maxSteps := 2000000) (disch := first|omega|(simp only[ls];first|done|omega)) only [E, hv0, hb1, hv2, hb3, hv4, hv5, hv6, d0_0, d0_0s, d0_0n, d1_0, d1_0s, d1_0n, d1_1, d1_1s, d1_1n, hv7, d2_0, d2_0s, d2_0n, d2_1, d2_1s, d2_1n, d2_2, d2_2s, d2_2n, hv8, hb9, hb10, d3_0, d3_0s, d3_0n, d3_1, d3_1s, d3_1n, d3_2, d3_2s, d3_2n, d3_3, d3_3s, d3_3n, hv11, hb12, d4_0, d4_0s, d4_0n, d4_1, d4_1s, d4_1n, d4_2, d4_2s, d4_2n, d4_3, d4_3s, d4_3n, d4_4, d4_4s, d4_4n, hv13, hb14, hv15, d5_0, d5_0s, d5_0n, d5_1, d5_1s, d5_1n, d5_2, d5_2s, d5_2n, d5_3, d5_3s, d5_3n, d5_4, d5_4s, d5_4n, gx, eta_T4, enc_T4, dec_T4, ret_four]
                          refine call_f (fun h => NestV h hc0.length hh0.length nb0_0 (v15.b : List TOp) ∧ hh0.length ≤ h.length ∧ NestV h hc1.length hh1.length nb1_0 (v5 : List TOp) ∧ hh1.length ≤ h.length ∧ NestV h hc2.length hh2.length nb2_0 (v7.a : List TOp) ∧ hh2.length ≤ h.length ∧ NestV h hc3.length hh3.length nb3_0 (v4 : List TOp) ∧ hh3.length ≤ h.length ∧ NestV h hc4.length hh4.length nb4_0 (v5 : List TOp) ∧ hh4.length ≤ h.length) (fun h v h2 => i_laws_markOpS hc1.length hh1.length nb1_0 h v16 v h2) ?_ ?_ ?_
                          · simp (maxSteps := 2000000) (disch := first|omega|(simp only[ls];first|done|omega)) only [E, hv0, hb1, hv2, hb3, hv4, hv5, hv6, d0_0, d0_0s, d0_0n, d1_0, d1_0s, d1_0n, d1_1, d1_1s, d1_1n, hv7, d2_0, d2_0s, d2_0n, d2_1, d2_1s, d2_1n, d2_2, d2_2s, d2_2n, hv8, hb9, hb10, d3_0, d3_0s, d3_0n, d3_1, d3_1s, d3_1n, d3_2, d3_2s, d3_2n, d3_3, d3_3s, d3_3n, hv11, hb12, d4_0, d4_0s, d4_0n, d4_1, d4_1s, d4_1n, d4_2, d4_2s, d4_2n, d4_3, d4_3s, d4_3n, d4_4, d4_4s, d4_4n, hv13, hb14, hv15, d5_0, d5_0s, d5_0n, d5_1, d5_1s, d5_1n, d5_2, d5_2s, d5_2n, d5_3, d5_3s, d5_3n, d5_4, d5_4s, d5_4n, hv16, gx, eta_T4, enc_T4, dec_T4, ret_four] <;> (repeat (first | refine And.intro ?_ ?_ | assumption | exact nest_ext (by assumption) | exact nest_wide (by assumption) (Nat.zero_le _) (by first | omega | (simp; omega)) (Nat.le_refl _) | exact nest_wide (nest_ext (by assumption)) (Nat.zero_le _) (by first | omega | (simp; omega)) (Nat.le_refl _) | exact nest_virt (by simp (maxSteps := 2000000) (disch := first|omega|(simp only[ls];first|done|omega)) only [E, hv0, hb1, hv2, hb3, hv4, hv5, hv6, d0_0, d0_0s, d0_0n, d1_0, d1_0s, d1_0n, d1_1, d1_1s, d1_1n, hv7, d2_0, d2_0s, d2_0n, d2_1, d2_1s, d2_1n, d2_2, d2_2s, d2_2n, hv8, hb9, hb10, d3_0, d3_0s, d3_0n, d3_1, d3_1s, d3_1n, d3_2, d3_2s, d3_2n, d3_3, d3_3s, d3_3n, hv11, hb12, d4_0, d4_0s, d4_0n, d4_1, d4_1s, d4_1n, d4_2, d4_2s, d4_2n, d4_3, d4_3s, d4_3n, d4_4, d4_4s, d4_4n, hv13, hb14, hv15, d5_0, d5_0s, d5_0n, d5_1, d5_1s, d5_1n, d5_2, d5_2s, d5_2n, d5_3, d5_3s, d5_3n, d5_4, d5_4s, d5_4n, hv16, gx, eta_T4, enc_T4, dec_T4, ret_four]) (by omega) (by first | omega | (simp; done) | (simp; omega)) (by first | omega | (simp; done) | (simp; omega)) | refine nest_ext ?_ | refine nest_set ?_ (by omega) | omega))
                          · rintro h ⟨c6_0, c6_1, c6_2, c6_3, c6_4, c6_5, c6_6, c6_7, c6_8, c6_9⟩
                            have sc6_0 : snap 9 false h nb0_0 = some (.sl 12 (v15.b.map enc)) := snap_nest (n := 5) c6_0
                            have sc6_1 : snap 9 false h nb1_0 = some (.sl 12 (v5.map enc)) := snap_nest (n := 5) c6_2
                            have sc6_2 : snap 9 false h nb2_0 = some (.sl 12 (v7.a.map enc)) := snap_nest (n := 5) c6_4
                            have sc6_3 : snap 9 false h nb3_0 = some (.sl 12 (v4.map enc)) := snap_nest (n := 5) c6_6
                            have sc6_4 : snap 9 false h nb4_0 = some (.sl 12 (v5.map enc)) := snap_nest (n := 5) c6_8
                            exact e_laws_markOpS _ _ _ hv16 _ _ _ h c6_2
                          · rintro hc6 v hh6 ⟨c6_0, c6_1, c6_2, c6_3, c6_4, c6_5, c6_6, c6_7, c6_8, c6_9⟩ hpost
                            obtain ⟨kk6, rfl, w6_0⟩ := hpost
                            have d6_0 : NestV hh6 hc0.length hh0.length nb0_0 (v15.b : List TOp) := nest_keepI c6_0 kk6 (by omega)
                            have d6_0l := nest_lt d6_0
                            have d6_0s : snap 9 false hh6 nb0_0 = some (.sl 12 (v15.b.map enc)) := snap_nest (n := 5) d6_0
                            have d6_0n : lenS nb0_0 = some v15.b.length := nest_lenS d6_0
                            have d6_1 : NestV hh6 hc1.length hh1.length nb1_0 (v16.b : List TOp) := w6_0
                            have d6_1l := nest_lt d6_1
                            have d6_1s : snap 9 false hh6 nb1_0 = some (.sl 12 (v16.b.map enc)) := snap_nest (n := 5) d6_1
                            have d6_1n : lenS nb1_0 = some v16.b.length := nest_lenS d6_1
                            have d6_2 : NestV hh6 hc2.length hh2.length nb2_0 (v7.a : List TOp) := nest_keepI c6_4 kk6 (by omega)
                            have d6_2l := nest_lt d6_2
                            have d6_2s : snap 9 false hh6 nb2_0 = some (.sl 12 (v7.a.map enc)) := snap_nest (n := 5) d6_2
                            have d6_2n : lenS nb2_0 = some v7.a.length := nest_lenS d6_2
                            have d6_3 : NestV hh6 hc3.length hh3.length nb3_0 (v4 : List TOp) := nest_keepI c6_6 kk6 (by omega)
                            have d6_3l := nest_lt d6_3
                            have d6_3s : snap 9 false hh6 nb3_0 = some (.sl 12 (v4.map enc)) := snap_nest (n := 5) d6_3
                            have d6_3n : lenS nb3_0 = some v4.length := nest_lenS d6_3
                            have d6_4 : NestV hh6 hc4.length hh4.length nb4_0 (v5 : List TOp) := nest_keepI c6_8 kk6 (by omega)
                            have d6_4l := nest_lt d6_4
                            have d6_4s : snap 9 false hh6 nb4_0 = some (.sl 12 (v5.map enc)) := snap_nest (n := 5) d6_4
                            have d6_4n : lenS nb4_0 = some v5.length := nest_lenS d6_4
                            by_cases hb17 : (decide (v16.a < 0)) = true
                            · rw [if_t hb17] at hp
                              cases hp
                            · replace hb17 := eq_false_of_ne_true hb17
                              rw [if_f hb17] at hp
                              obtain ⟨v18, hv18, hp⟩ := bind_eq hp
                              simp (maxSteps := 2000000) (disch := first|omega|(simp only[ls];first|done|omega)) only [E, hv0, hb1, hv2, hb3, hv4, hv5, hv6, d0_0, d0_0s, d0_0n, d1_0, d1_0s, d1_0n, d1_1, d1_1s, d1_1n, hv7, d2_0, d2_0s, d2_0n, d2_1, d2_1s, d2_1n, d2_2, d2_2s, d2_2n, hv8, hb9, hb10, d3_0, d3_0s, d3_0n, d3_1, d3_1s, d3_1n, d3_2, d3_2s, d3_2n, d3_3, d3_3s, d3_3n, hv11, hb12, d4_0, d4_0s, d4_0n, d4_1, d4_1s, d4_1n, d4_2, d4_2s, d4_2n, d4_3, d4_3s, d4_3n, d4_4, d4_4s, d4_4n, hv13, hb14, hv15, d5_0, d5_0s, d5_0n, d5_1, d5_1s, d5_1n, d5_2, d5_2s, d5_2n, d5_3, d5_3s, d5_3n, d5_4, d5_4s, d5_4n, hv16, d6_0, d6_0s, d6_0n, d6_1, d6_1s, d6_1n, d6_2, d6_2s, d6_2n, d6_3, d6_3s, d6_3n, d6_4, d6_4s, d6_4n, hb17, gx, eta_T4, enc_T4, dec_T4, ret_four]
                              refine call_f (fun h => NestV h hc0.length hh0.length nb0_0 (v15.b : List TOp) ∧ hh0.length ≤ h.length ∧ NestV h hc1.length hh1.length nb1_0 (v16.b : List TOp) ∧ hh1.length ≤ h.length ∧ NestV h hc2.length hh2.length nb2_0 (v7.a : List TOp) ∧ hh2.length ≤ h.length ∧ NestV h hc3.length hh3.length nb3_0 (v4 : List TOp) ∧ hh3.length ≤ h.length ∧ NestV h hc4.length hh4.length nb4_0 (v5 : List TOp) ∧ hh4.length ≤ h.length) (fun h v h2 => i_laws_markOpS hc2.length hh2.length nb2_0 h v18 v h2) ?_ ?_ ?_
                              · simp (maxSteps := 2000000) (disch := first|omega|(simp only[ls];first|done|omega)) only [E, hv0, hb1, hv2, hb3, hv4, hv5, hv6, d0_0, d0_0s, d0_0n, d1_0, d1_0s, d1_0n, d1_1, d1_1s, d1_1n, hv7, d2_0, d2_0s, d2_0n, d2_1, d2_1s, d2_1n, d2_2, d2_2s, d2_2n, hv8, hb9, hb10, d3_0, d3_0s, d3_0n, d3_1, d3_1s, d3_1n, d3_2, d3_2s, d3_2n, d3_3, d3_3s, d3_3n, hv11, hb12, d4_0, d4_0s, d4_0n, d4_1, d4_1s, d4_1n, d4_2, d4_2s, d4_2n, d4_3, d4_3s, d4_3n, d4_4, d4_4s, d4_4n, hv13, hb14, hv15, d5_0, d5_0s, d5_0n, d5_1, d5_1s, d5_1n, d5_2, d5_2s, d5_2n, d5_3, d5_3s, d5_3n, d5_4, d5_4s, d5_4n, hv16, d6_0, d6_0s, d6_0n, d6_1, d6_1s, d6_1n, d6_2, d6_2s, d6_2n, d6_3, d6_3s, d6_3n, d6_4, d6_4s, d6_4n, hb17, hv18, gx, eta_T4, enc_T4, dec_T4, ret_four] <;> (repeat (first | refine And.intro ?_ ?_ | assumption | exact nest_ext (by assumption) | exact nest_wide (by assumption) (Nat.zero_le _) (by first | omega | (simp; omega)) (Nat.le_refl _) | exact nest_wide (nest_ext (by assumption)) (Nat.zero_le _) (by first | omega | (simp; omega)) (Nat.le_refl _) | exact nest_virt (by simp (maxSteps := 2000000) (disch := first|omega|(simp only[ls];first|done|omega)) only [E, hv0, hb1, hv2, hb3, hv4, hv5, hv6, d0_0, d0_0s, d0_0n, d1_0, d1_0s, d1_0n, d1_1, d1_1s, d1_1n, hv7, d2_0, d2_0s, d2_0n, d2_1, d2_1s, d2_1n, d2_2, d2_2s, d2_2n, hv8, hb9, hb10, d3_0, d3_0s, d3_0n, d3_1, d3_1s, d3_1n, d3_2, d3_2s, d3_2n, d3_3, d3_3s, d3_3n, hv11, hb12, d4_0, d4_0s, d4_0n, d4_1, d4_1s, d4_1n, d4_2, d4_2s, d4_2n, d4_3, d4_3s, d4_3n, d4_4, d4_4s, d4_4n, hv13, hb14, hv15, d5_0, d5_0s, d5_0n, d5_1, d5_1s, d5_1n, d5_2, d5_2s, d5_2n, d5_3, d5_3s, d5_3n, d5_4, d5_4s, d5_4n, hv16, d6_0, d6_0s, d6_0n, d6_1, d6_1s, d6_1n, d6_2, d6_2s, d6_2n, d6_3, d6_3s, d6_3n, d6_4, d6_4s, d6_4n, hb17, hv18, gx, eta_T4, enc_T4, dec_T4, ret_four]) (by omega) (by first | omega | (simp; done) | (simp; omega)) (by first | omega | (simp; done) | (simp; omega)) | refine nest_ext ?_ | refine nest_set ?_ (by omega) | omega))
                              · rintro h ⟨c7_0, c7_1, c7_2, c7_3, c7_4, c7_5, c7_6, c7_7, c7_8, c7_9⟩
                                have sc7_0 : snap 9 false h nb0_0 = some (.sl 12 (v15.b.map enc)) := snap_nest (n := 5) c7_0
                                have sc7_1 : snap 9 false h nb1_0 = some (.sl 12 (v16.b.map enc)) := snap_nest (n := 5) c7_2
                                have sc7_2 : snap 9 false h nb2_0 = some (.sl 12 (v7.a.map enc)) := snap_nest (n := 5) c7_4
                                have sc7_3 : snap 9 false h nb3_0 = some (.sl 12 (v4.map enc)) := snap_nest (n := 5) c7_6
                                have sc7_4 : snap 9 false h nb4_0 = some (.sl 12 (v5.map enc)) := snap_nest (n := 5) c7_8
                                exact e_laws_markOpS _ _ _ hv18 _ _ _ h c7_4
                              · rintro hc7 v hh7 ⟨c7_0, c7_1, c7_2, c7_3, c7_4, c7_5, c7_6, c7_7, c7_8, c7_9⟩ hpost
                                obtain ⟨kk7, rfl, w7_0⟩ := hpost
                                have d7_0 : NestV hh7 hc0.length hh0.length nb0_0 (v15.b : List TOp) := nest_keepI c7_0 kk7 (by omega)
                                have d7_0l := nest_lt d7_0
                                have d7_0s : snap 9 false hh7 nb0_0 = some (.sl 12 (v15.b.map enc)) := snap_nest (n := 5) d7_0
                                have d7_0n : lenS nb0_0 = some v15.b.length := nest_lenS d7_0
                                have d7_1 : NestV hh7 hc1.length hh1.length nb1_0 (v16.b : List TOp) := nest_keepI c7_2 kk7 (by omega)
                                have d7_1l := nest_lt d7_1
                                have d7_1s : snap 9 false hh7 nb1_0 = some (.sl 12 (v16.b.map enc)) := snap_nest (n := 5) d7_1
                                have d7_1n : lenS nb1_0 = some v16.b.length := nest_lenS d7_1
                                have d7_2 : NestV hh7 hc2.length hh2.length nb2_0 (v18.b : List TOp) := w7_0
                                have d7_2l := nest_lt d7_2
                                have d7_2s : snap 9 false hh7 nb2_0 = some (.sl 12 (v18.b.map enc)) := snap_nest (n := 5) d7_2
                                have d7_2n : lenS nb2_0 = some v18.b.length := nest_lenS d7_2
                                have d7_3 : NestV hh7 hc3.length hh3.length nb3_0 (v4 : List TOp) := nest_keepI c7_6 kk7 (by omega)
                                have d7_3l := nest_lt d7_3
                                have d7_3s : snap 9 false hh7 nb3_0 = some (.sl 12 (v4.map enc)) := snap_nest (n := 5) d7_3
                                have d7_3n : lenS nb3_0 = some v4.length := nest_lenS d7_3
                                have d7_4 : NestV hh7 hc4.length hh4.length nb4_0 (v5 : List TOp) := nest_keepI c7_8 kk7 (by omega)
                                have d7_4l := nest_lt d7_4
                                have d7_4s : snap 9 false hh7 nb4_0 = some (.sl 12 (v5.map enc)) := snap_nest (n := 5) d7_4
                                have d7_4n : lenS nb4_0 = some v5.length := nest_lenS d7_4
                                obtain ⟨v19, hv19, hp⟩ := bind_eq hp
                                by_cases hb20 : (decide (v19 < 0)) = true
                                · rw [if_t hb20] at hp
                                  cases hp
                                · replace hb20 := eq_false_of_ne_true hb20
                                  rw [if_f hb20] at hp
                                  by_cases hb21 : (decide (v19 = v18.a)) = true
                                  · rw [if_t hb21] at hp
                                    simp (maxSteps := 2000000) (disch := first|omega|(simp only[ls];first|done|omega)) only [E, hv0, hb1, hv2, hb3, hv4, hv5, hv6, d0_0, d0_0s, d0_0n, d1_0, d1_0s, d1_0n, d1_1, d1_1s, d1_1n, hv7, d2_0, d2_0s, d2_0n, d2_1, d2_1s, d2_1n, d2_2, d2_2s, d2_2n, hv8, hb9, hb10, d3_0, d3_0s, d3_0n, d3_1, d3_1s, d3_1n, d3_2, d3_2s, d3_2n, d3_3, d3_3s, d3_3n, hv11, hb12, d4_0, d4_0s, d4_0n, d4_1, d4_1s, d4_1n, d4_2, d4_2s, d4_2n, d4_3, d4_3s, d4_3n, d4_4, d4_4s, d4_4n, hv13, hb14, hv15, d5_0, d5_0s, d5_0n, d5_1, d5_1s, d5_1n, d5_2, d5_2s, d5_2n, d5_3, d5_3s, d5_3n, d5_4, d5_4s, d5_4n, hv16, d6_0, d6_0s, d6_0n, d6_1, d6_1s, d6_1n, d6_2, d6_2s, d6_2n, d6_3, d6_3s, d6_3n, d6_4, d6_4s, d6_4n, hb17, hv18, d7_0, d7_0s, d7_0n, d7_1, d7_1s, d7_1n, d7_2, d7_2s, d7_2n, d7_3, d7_3s, d7_3n, d7_4, d7_4s, d7_4n, hv19, hb20, hb21, gx, eta_T4, enc_T4, dec_T4, ret_four]
                                    refine call_f (fun h => NestV h hc0.length hh0.length nb0_0 (v15.b : List TOp) ∧ hh0.length ≤ h.length ∧ NestV h hc1.length hh1.length nb1_0 (v16.b : List TOp) ∧ hh1.length ≤ h.length ∧ NestV h hc2.length hh2.length nb2_0 (v18.b : List TOp) ∧ hh2.length ≤ h.length ∧ NestV h hc3.length hh3.length nb3_0 (v4 : List TOp) ∧ hh3.length ≤ h.length ∧ NestV h hc4.length hh4.length nb4_0 (v5 : List TOp) ∧ hh4.length ≤ h.length) (fun h v h2 => oo_laws_toOpS v4 h v h2) ?_ ?_ ?_
                                    · simp (maxSteps := 2000000) (disch := first|omega|(simp only[ls];first|done|omega)) only [E, hv0, hb1, hv2, hb3, hv4, hv5, hv6, d0_0, d0_0s, d0_0n, d1_0, d1_0s, d1_0n, d1_1, d1_1s, d1_1n, hv7, d2_0, d2_0s, d2_0n, d2_1, d2_1s, d2_1n, d2_2, d2_2s, d2_2n, hv8, hb9, hb10, d3_0, d3_0s, d3_0n, d3_1, d3_1s, d3_1n, d3_2, d3_2s, d3_2n, d3_3, d3_3s, d3_3n, hv11, hb12, d4_0, d4_0s, d4_0n, d4_1, d4_1s, d4_1n, d4_2, d4_2s, d4_2n, d4_3, d4_3s, d4_3n, d4_4, d4_4s, d4_4n, hv13, hb14, hv15, d5_0, d5_0s, d5_0n, d5_1, d5_1s, d5_1n, d5_2, d5_2s, d5_2n, d5_3, d5_3s, d5_3n, d5_4, d5_4s, d5_4n, hv16, d6_0, d6_0s, d6_0n, d6_1, d6_1s, d6_1n, d6_2, d6_2s, d6_2n, d6_3, d6_3s, d6_3n, d6_4, d6_4s, d6_4n, hb17, hv18, d7_0, d7_0s, d7_0n, d7_1, d7_1s, d7_1n, d7_2, d7_2s, d7_2n, d7_3, d7_3s, d7_3n, d7_4, d7_4s, d7_4n, hv19, hb20, hb21, gx, eta_T4, enc_T4, dec_T4, ret_four] <;> (repeat (first | refine And.intro ?_ ?_ | assumption | exact nest_ext (by assumption) | exact nest_wide (by assumption) (Nat.zero_le _) (by first | omega | (simp; omega)) (Nat.le_refl _) | exact nest_wide (nest_ext (by assumption)) (Nat.zero_le _) (by first | omega | (simp; omega)) (Nat.le_refl _) | exact nest_virt (by simp (maxSteps := 2000000) (disch := first|omega|(simp only[ls];first|done|omega)) only [E, hv0, hb1, hv2, hb3, hv4, hv5, hv6, d0_0, d0_0s, d0_0n, d1_0, d1_0s, d1_0n, d1_1, d1_1s, d1_1n, hv7, d2_0, d2_0s, d2_0n, d2_1, d2_1s, d2_1n, d2_2, d2_2s, d2_2n, hv8, hb9, hb10, d3_0, d3_0s, d3_0n, d3_1, d3_1s, d3_1n, d3_2, d3_2s, d3_2n, d3_3, d3_3s, d3_3n, hv11, hb12, d4_0, d4_0s, d4_0n, d4_1, d4_1s, d4_1n, d4_2, d4_2s, d4_2n, d4_3, d4_3s, d4_3n, d4_4, d4_4s, d4_4n, hv13, hb14, hv15, d5_0, d5_0s, d5_0n, d5_1, d5_1s, d5_1n, d5_2, d5_2s, d5_2n, d5_3, d5_3s, d5_3n, d5_4, d5_4s, d5_4n, hv16, d6_0, d6_0s, d6_0n, d6_1, d6_1s, d6_1n, d6_2, d6_2s, d6_2n, d6_3, d6_3s, d6_3n, d6_4, d6_4s, d6_4n, hb17, hv18, d7_0, d7_0s, d7_0n, d7_1, d7_1s, d7_1n, d7_2, d7_2s, d7_2n, d7_3, d7_3s, d7_3n, d7_4, d7_4s, d7_4n, hv19, hb20, hb21, gx, eta_T4, enc_T4, dec_T4, ret_four]) (by omega) (by first | omega | (simp; done) | (simp; omega)) (by first | omega | (simp; done) | (simp; omega)) | refine nest_ext ?_ | refine nest_set ?_ (by omega) | omega))
                                    · rintro h ⟨c8_0, c8_1, c8_2, c8_3, c8_4, c8_5, c8_6, c8_7, c8_8, c8_9⟩
                                      have sc8_0 : snap 9 false h nb0_0 = some (.sl 12 (v15.b.map enc)) := snap_nest (n := 5) c8_0
                                      have sc8_1 : snap 9 false h nb1_0 = some (.sl 12 (v16.b.map enc)) := snap_nest (n := 5) c8_2
                                      have sc8_2 : snap 9 false h nb2_0 = some (.sl 12 (v18.b.map enc)) := snap_nest (n := 5) c8_4
                                      have sc8_3 : snap 9 false h nb3_0 = some (.sl 12 (v4.map enc)) := snap_nest (n := 5) c8_6
                                      have sc8_4 : snap 9 false h nb4_0 = some (.sl 12 (v5.map enc)) := snap_nest (n := 5) c8_8
                                      exact e_laws_toOpS _ _ hv4 h _ (by simp (maxSteps := 2000000) (disch := first|omega|(simp only[ls];first|done|omega)) only [E, hv0, hb1, hv2, hb3, hv4, hv5, hv6, d0_0, d0_0s, d0_0n, d1_0, d1_0s, d1_0n, d1_1, d1_1s, d1_1n, hv7, d2_0, d2_0s, d2_0n, d2_1, d2_1s, d2_1n, d2_2, d2_2s, d2_2n, hv8, hb9, hb10, d3_0, d3_0s, d3_0n, d3_1, d3_1s, d3_1n, d3_2, d3_2s, d3_2n, d3_3, d3_3s, d3_3n, hv11, hb12, d4_0, d4_0s, d4_0n, d4_1, d4_1s, d4_1n, d4_2, d4_2s, d4_2n, d4_3, d4_3s, d4_3n, d4_4, d4_4s, d4_4n, hv13, hb14, hv15, d5_0, d5_0s, d5_0n, d5_1, d5_1s, d5_1n, d5_2, d5_2s, d5_2n, d5_3, d5_3s, d5_3n, d5_4, d5_4s, d5_4n, hv16, d6_0, d6_0s, d6_0n, d6_1, d6_1s, d6_1n, d6_2, d6_2s, d6_2n, d6_3, d6_3s, d6_3n, d6_4, d6_4s, d6_4n, hb17, hv18, d7_0, d7_0s, d7_0n, d7_1, d7_1s, d7_1n, d7_2, d7_2s, d7_2n, d7_3, d7_3s, d7_3n, d7_4, d7_4s, d7_4n, hv19, hb20, hb21, c8_0, c8_1, c8_2, c8_3, c8_4, c8_5, c8_6, c8_7, c8_8, c8_9, sc8_0, sc8_1, sc8_2, sc8_3, sc8_4, gx, eta_T4, enc_T4, dec_T4, ret_four])
                                    · rintro hc8 nb8_0 hh8 ⟨c8_0, c8_1, c8_2, c8_3, c8_4, c8_5, c8_6, c8_7, c8_8, c8_9⟩ hpost
                                      obtain ⟨kk8, _, rfl, wnb8_0⟩ := hpost
                                      have d8_0 : NestV hh8 hc0.length hh0.length nb0_0 (v15.b : List TOp) := nest_keep c8_0 kk8 (by intro b hb; first | (simp at hb; done) | (simp at hb; omega))
                                      have d8_0l := nest_lt d8_0
                                      have d8_0s : snap 9 false hh8 nb0_0 = some (.sl 12 (v15.b.map enc)) := snap_nest (n := 5) d8_0
                                      have d8_0n : lenS nb0_0 = some v15.b.length := nest_lenS d8_0
                                      have d8_1 : NestV hh8 hc1.length hh1.length nb1_0 (v16.b : List TOp) := nest_keep c8_2 kk8 (by intro b hb; first | (simp at hb; done) | (simp at hb; omega))
                                      have d8_1l := nest_lt d8_1
                                      have d8_1s : snap 9 false hh8 nb1_0 = some (.sl 12 (v16.b.map enc)) := snap_nest (n := 5) d8_1
                                      have d8_1n : lenS nb1_0 = some v16.b.length := nest_lenS d8_1
                                      have d8_2 : NestV hh8 hc2.length hh2.length nb2_0 (v18.b : List TOp) := nest_keep c8_4 kk8 (by intro b hb; first | (simp at hb; done) | (simp at hb; omega))
                                      have d8_2l := nest_lt d8_2
                                      have d8_2s : snap 9 false hh8 nb2_0 = some (.sl 12 (v18.b.map enc)) := snap_nest (n := 5) d8_2
                                      have d8_2n : lenS nb2_0 = some v18.b.length := nest_lenS d8_2
                                      have d8_3 : NestV hh8 hc3.length hh3.length nb3_0 (v4 : List TOp) := nest_keep c8_6 kk8 (by intro b hb; first | (simp at hb; done) | (simp at hb; omega))
                                      have d8_3l := nest_lt d8_3
                                      have d8_3s : snap 9 false hh8 nb3_0 = some (.sl 12 (v4.map enc)) := snap_nest (n := 5) d8_3
                                      have d8_3n : lenS nb3_0 = some v4.length := nest_lenS d8_3
                                      have d8_4 : NestV hh8 hc4.length hh4.length nb4_0 (v5 : List TOp) := nest_keep c8_8 kk8 (by intro b hb; first | (simp at hb; done) | (simp at hb; omega))
                                      have d8_4l := nest_lt d8_4
                                      have d8_4s : snap 9 false hh8 nb4_0 = some (.sl 12 (v5.map enc)) := snap_nest (n := 5) d8_4
                                      have d8_4n : lenS nb4_0 = some v5.length := nest_lenS d8_4
                                      have d8_5 := wnb8_0
                                      have d8_5l := nest_lt d8_5
                                      have d8_5s : snap 9 false hh8 nb8_0 = some (.sl 12 (v4.map enc)) := snap_nest (n := 5) d8_5
                                      have d8_5n : lenS nb8_0 = some v4.length := nest_lenS d8_5
                                      simp (maxSteps := 2000000) (disch := first|omega|(simp only[ls];first|done|omega)) only [E, hv0, hb1, hv2, hb3, hv4, hv5, hv6, d0_0, d0_0s, d0_0n, d1_0, d1_0s, d1_0n, d1_1, d1_1s, d1_1n, hv7, d2_0, d2_0s, d2_0n, d2_1, d2_1s, d2_1n, d2_2, d2_2s, d2_2n, hv8, hb9, hb10, d3_0, d3_0s, d3_0n, d3_1, d3_1s, d3_1n, d3_2, d3_2s, d3_2n, d3_3, d3_3s, d3_3n, hv11, hb12, d4_0, d4_0s, d4_0n, d4_1, d4_1s, d4_1n, d4_2, d4_2s, d4_2n, d4_3, d4_3s, d4_3n, d4_4, d4_4s, d4_4n, hv13, hb14, hv15, d5_0, d5_0s, d5_0n, d5_1, d5_1s, d5_1n, d5_2, d5_2s, d5_2n, d5_3, d5_3s, d5_3n, d5_4, d5_4s, d5_4n, hv16, d6_0, d6_0s, d6_0n, d6_1, d6_1s, d6_1n, d6_2, d6_2s, d6_2n, d6_3, d6_3s, d6_3n, d6_4, d6_4s, d6_4n, hb17, hv18, d7_0, d7_0s, d7_0n, d7_1, d7_1s, d7_1n, d7_2, d7_2s, d7_2n, d7_3, d7_3s, d7_3n, d7_4, d7_4s, d7_4n, hv19, hb20, hb21, d8_0, d8_0s, d8_0n, d8_1, d8_1s, d8_1n, d8_2, d8_2s, d8_2n, d8_3, d8_3s, d8_3n, d8_4, d8_4s, d8_4n, d8_5, d8_5s, d8_5n, gx, eta_T4, enc_T4, dec_T4, ret_four]
                                      refine call_f (fun h => NestV h hc0.length hh0.length nb0_0 (v15.b : List TOp) ∧ hh0.length ≤ h.length ∧ NestV h hc1.length hh1.length nb1_0 (v16.b : List TOp) ∧ hh1.length ≤ h.length ∧ NestV h hc2.length hh2.length nb2_0 (v18.b : List TOp) ∧ hh2.length ≤ h.length ∧ NestV h hc3.length hh3.length nb3_0 (v4 : List TOp) ∧ hh3.length ≤ h.length ∧ NestV h hc4.length hh4.length nb4_0 (v5 : List TOp) ∧ hh4.length ≤ h.length ∧ NestV h hc8.length hh8.length nb8_0 (v4 : List TOp) ∧ hh8.length ≤ h.length) (fun h v h2 => oo_laws_toOpS v5 h v h2) ?_ ?_ ?_
                                      · simp (maxSteps := 2000000) (disch := first|omega|(simp only[ls];first|done|omega)) only [E, hv0, hb1, hv2, hb3, hv4, hv5, hv6, d0_0, d0_0s, d0_0n, d1_0, d1_0s, d1_0n, d1_1, d1_1s, d1_1n, hv7, d2_0, d2_0s, d2_0n, d2_1, d2_1s, d2_1n, d2_2, d2_2s, d2_2n, hv8, hb9, hb10, d3_0, d3_0s, d3_0n, d3_1, d3_1s, d3_1n, d3_2, d3_2s, d3_2n, d3_3, d3_3s, d3_3n, hv11, hb12, d4_0, d4_0s, d4_0n, d4_1, d4_1s, d4_1n, d4_2, d4_2s, d4_2n, d4_3, d4_3s, d4_3n, d4_4, d4_4s, d4_4n, hv13, hb14, hv15, d5_0, d5_0s, d5_0n, d5_1, d5_1s, d5_1n, d5_2, d5_2s, d5_2n, d5_3, d5_3s, d5_3n, d5_4, d5_4s, d5_4n, hv16, d6_0, d6_0s, d6_0n, d6_1, d6_1s, d6_1n, d6_2, d6_2s, d6_2n, d6_3, d6_3s, d6_3n, d6_4, d6_4s, d6_4n, hb17, hv18, d7_0, d7_0s, d7_0n, d7_1, d7_1s, d7_1n, d7_2, d7_2s, d7_2n, d7_3, d7_3s, d7_3n, d7_4, d7_4s, d7_4n, hv19, hb20, hb21, d8_0, d8_0s, d8_0n, d8_1, d8_1s, d8_1n, d8_2, d8_2s, d8_2n, d8_3, d8_3s, d8_3n, d8_4, d8_4s, d8_4n, d8_5, d8_5s, d8_5n, gx, eta_T4, enc_T4, dec_T4, ret_four] <;> (repeat (first | refine And.intro ?_ ?_ | assumption | exact nest_ext (by assumption) | exact nest_wide (by assumption) (Nat.zero_le _) (by first | omega | (simp; omega)) (Nat.le_refl _) | exact nest_wide (nest_ext (by assumption)) (Nat.zero_le _) (by first | omega | (simp; omega)) (Nat.le_refl _) | exact nest_virt (by simp (maxSteps := 2000000) (disch := first|omega|(simp only[ls];first|done|omega)) only [E, hv0, hb1, hv2, hb3, hv4, hv5, hv6, d0_0, d0_0s, d0_0n, d1_0, d1_0s, d1_0n, d1_1, d1_1s, d1_1n, hv7, d2_0, d2_0s, d2_0n, d2_1, d2_1s, d2_1n, d2_2, d2_2s, d2_2n, hv8, hb9, hb10, d3_0, d3_0s, d3_0n, d3_1, d3_1s, d3_1n, d3_2, d3_2s, d3_2n, d3_3, d3_3s, d3_3n, hv11, hb12, d4_0, d4_0s, d4_0n, d4_1, d4_1s, d4_1n, d4_2, d4_2s, d4_2n, d4_3, d4_3s, d4_3n, d4_4, d4_4s, d4_4n, hv13, hb14, hv15, d5_0, d5_0s, d5_0n, d5_1, d5_1s, d5_1n, d5_2, d5_2s, d5_2n, d5_3, d5_3s, d5_3n, d5_4, d5_4s, d5_4n, hv16, d6_0, d6_0s, d6_0n, d6_1, d6_1s, d6_1n, d6_2, d6_2s, d6_2n, d6_3, d6_3s, d6_3n, d6_4, d6_4s, d6_4n, hb17, hv18, d7_0, d7_0s, d7_0n, d7_1, d7_1s, d7_1n, d7_2, d7_2s, d7_2n, d7_3, d7_3s, d7_3n, d7_4, d7_4s, d7_4n, hv19, hb20, hb21, d8_0, d8_0s, d8_0n, d8_1, d8_1s, d8_1n, d8_2, d8_2s, d8_2n, d8_3, d8_3s, d8_3n, d8_4, d8_4s, d8_4n, d8_5, d8_5s, d8_5n, gx, eta_T4, enc_T4, dec_T4, ret_four]) (by omega) (by first | omega | (simp; done) | (simp; omega)) (by first | omega | (simp; done) | (simp; omega)) | refine nest_ext ?_ | refine nest_set ?_ (by omega) | omega))
                                      · rintro h ⟨c9_0, c9_1, c9_2, c9_3, c9_4, c9_5, c9_6, c9_7, c9_8, c9_9, c9_10, c9_11⟩
                                        have sc9_0 : snap 9 false h nb0_0 = some (.sl 12 (v15.b.map enc)) := snap_nest (n := 5) c9_0
                                        have sc9_1 : snap 9 false h nb1_0 = some (.sl 12 (v16.b.map enc)) := snap_nest (n := 5) c9_2
                                        have sc9_2 : snap 9 false h nb2_0 = some (.sl 12 (v18.b.map enc)) := snap_nest (n := 5) c9_4
                                        have sc9_3 : snap 9 false h nb3_0 = some (.sl 12 (v4.map enc)) := snap_nest (n := 5) c9_6
                                        have sc9_4 : snap 9 false h nb4_0 = some (.sl 12 (v5.map enc)) := snap_nest (n := 5) c9_8
                                        have sc9_5 : snap 9 false h nb8_0 = some (.sl 12 (v4.map enc)) := snap_nest (n := 5) c9_10
                                        exact e_laws_toOpS _ _ hv5 h _ (by simp (maxSteps := 2000000) (disch := first|omega|(simp only[ls];first|done|omega)) only [E, hv0, hb1, hv2, hb3, hv4, hv5, hv6, d0_0, d0_0s, d0_0n, d1_0, d1_0s, d1_0n, d1_1, d1_1s, d1_1n, hv7, d2_0, d2_0s, d2_0n, d2_1, d2_1s, d2_1n, d2_2, d2_2s, d2_2n, hv8, hb9, hb10, d3_0, d3_0s, d3_0n, d3_1, d3_1s, d3_1n, d3_2, d3_2s, d3_2n, d3_3, d3_3s, d3_3n, hv11, hb12, d4_0, d4_0s, d4_0n, d4_1, d4_1s, d4_1n, d4_2, d4_2s, d4_2n, d4_3, d4_3s, d4_3n, d4_4, d4_4s, d4_4n, hv13, hb14, hv15, d5_0, d5_0s, d5_0n, d5_1, d5_1s, d5_1n, d5_2, d5_2s, d5_2n, d5_3, d5_3s, d5_3n, d5_4, d5_4s, d5_4n, hv16, d6_0, d6_0s, d6_0n, d6_1, d6_1s, d6_1n, d6_2, d6_2s, d6_2n, d6_3, d6_3s, d6_3n, d6_4, d6_4s, d6_4n, hb17, hv18, d7_0, d7_0s, d7_0n, d7_1, d7_1s, d7_1n, d7_2, d7_2s, d7_2n, d7_3, d7_3s, d7_3n, d7_4, d7_4s, d7_4n, hv19, hb20, hb21, d8_0, d8_0s, d8_0n, d8_1, d8_1s, d8_1n, d8_2, d8_2s, d8_2n, d8_3, d8_3s, d8_3n, d8_4, d8_4s, d8_4n, d8_5, d8_5s, d8_5n, c9_0, c9_1, c9_2, c9_3, c9_4, c9_5, c9_6, c9_7, c9_8, c9_9, c9_10, c9_11, sc9_0, sc9_1, sc9_2, sc9_3, sc9_4, sc9_5, gx, eta_T4, enc_T4, dec_T4, ret_four])
                                      · rintro hc9 nb9_0 hh9 ⟨c9_0, c9_1, c9_2, c9_3, c9_4, c9_5, c9_6, c9_7, c9_8, c9_9, c9_10, c9_11⟩ hpost
                                        obtain ⟨kk9, _, rfl, wnb9_0⟩ := hpost
                                        have d9_0 : NestV hh9 hc0.length hh0.length nb0_0 (v15.b : List TOp) := nest_keep c9_0 kk9 (by intro b hb; first | (simp at hb; done) | (simp at hb; omega))
                                        have d9_0l := nest_lt d9_0
                                        have d9_0s : snap 9 false hh9 nb0_0 = some (.sl 12 (v15.b.map enc)) := snap_nest (n := 5) d9_0
                                        have d9_0n : lenS nb0_0 = some v15.b.length := nest_lenS d9_0
                                        have d9_1 : NestV hh9 hc1.length hh1.length nb1_0 (v16.b : List TOp) := nest_keep c9_2 kk9 (by intro b hb; first | (simp at hb; done) | (simp at hb; omega))
                                        have d9_1l := nest_lt d9_1
                                        have d9_1s : snap 9 false hh9 nb1_0 = some (.sl 12 (v16.b.map enc)) := snap_nest (n := 5) d9_1
                                        have d9_1n : lenS nb1_0 = some v16.b.length := nest_lenS d9_1
                                        have d9_2 : NestV hh9 hc2.length hh2.length nb2_0 (v18.b : List TOp) := nest_keep c9_4 kk9 (by intro b hb; first | (simp at hb; done) | (simp at hb; omega))
                                        have d9_2l := nest_lt d9_2
                                        have d9_2s : snap 9 false hh9 nb2_0 = some (.sl 12 (v18.b.map enc)) := snap_nest (n := 5) d9_2
                                        have d9_2n : lenS nb2_0 = some v18.b.length := nest_lenS d9_2
                                        have d9_3 : NestV hh9 hc3.length hh3.length nb3_0 (v4 : List TOp) := nest_keep c9_6 kk9 (by intro b hb; first | (simp at hb; done) | (simp at hb; omega))
                                        have d9_3l := nest_lt d9_3
                                        have d9_3s : snap 9 false hh9 nb3_0 = some (.sl 12 (v4.map enc)) := snap_nest (n := 5) d9_3
                                        have d9_3n : lenS nb3_0 = some v4.length := nest_lenS d9_3
                                        have d9_4 : NestV hh9 hc4.length hh4.length nb4_0 (v5 : List TOp) := nest_keep c9_8 kk9 (by intro b hb; first | (simp at hb; done) | (simp at hb; omega))
                                        have d9_4l := nest_lt d9_4
                                        have d9_4s : snap 9 false hh9 nb4_0 = some (.sl 12 (v5.map enc)) := snap_nest (n := 5) d9_4
                                        have d9_4n : lenS nb4_0 = some v5.length := nest_lenS d9_4
                                        have d9_5 : NestV hh9 hc8.length hh8.length nb8_0 (v4 : List TOp) := nest_keep c9_10 kk9 (by intro b hb; first | (simp at hb; done) | (simp at hb; omega))
                                        have d9_5l := nest_lt d9_5
                                        have d9_5s : snap 9 false hh9 nb8_0 = some (.sl 12 (v4.map enc)) := snap_nest (n := 5) d9_5
                                        have d9_5n : lenS nb8_0 = some v4.length := nest_lenS d9_5
                                        have d9_6 := wnb9_0
                                        have d9_6l := nest_lt d9_6
                                        have d9_6s : snap 9 false hh9 nb9_0 = some (.sl 12 (v5.map enc)) := snap_nest (n := 5) d9_6
                                        have d9_6n : lenS nb9_0 = some v5.length := nest_lenS d9_6
                                        simp (maxSteps := 2000000) (disch := first|omega|(simp only[ls];first|done|omega)) only [E, hv0, hb1, hv2, hb3, hv4, hv5, hv6, d0_0, d0_0s, d0_0n, d1_0, d1_0s, d1_0n, d1_1, d1_1s, d1_1n, hv7, d2_0, d2_0s, d2_0n, d2_1, d2_1s, d2_1n, d2_2, d2_2s, d2_2n, hv8, hb9, hb10, d3_0, d3_0s, d3_0n, d3_1, d3_1s, d3_1n, d3_2, d3_2s, d3_2n, d3_3, d3_3s, d3_3n, hv11, hb12, d4_0, d4_0s, d4_0n, d4_1, d4_1s, d4_1n, d4_2, d4_2s, d4_2n, d4_3, d4_3s, d4_3n, d4_4, d4_4s, d4_4n, hv13, hb14, hv15, d5_0, d5_0s, d5_0n, d5_1, d5_1s, d5_1n, d5_2, d5_2s, d5_2n, d5_3, d5_3s, d5_3n, d5_4, d5_4s, d5_4n, hv16, d6_0, d6_0s, d6_0n, d6_1, d6_1s, d6_1n, d6_2, d6_2s, d6_2n, d6_3, d6_3s, d6_3n, d6_4, d6_4s, d6_4n, hb17, hv18, d7_0, d7_0s, d7_0n, d7_1, d7_1s, d7_1n, d7_2, d7_2s, d7_2n, d7_3, d7_3s, d7_3n, d7_4, d7_4s, d7_4n, hv19, hb20, hb21, d8_0, d8_0s, d8_0n, d8_1, d8_1s, d8_1n, d8_2, d8_2s, d8_2n, d8_3, d8_3s, d8_3n, d8_4, d8_4s, d8_4n, d8_5, d8_5s, d8_5n, d9_0, d9_0s, d9_0n, d9_1, d9_1s, d9_1n, d9_2, d9_2s, d9_2n, d9_3, d9_3s, d9_3n, d9_4, d9_4s, d9_4n, d9_5, d9_5s, d9_5n, d9_6, d9_6s, d9_6n, gx, eta_T4, enc_T4, dec_T4, ret_four]
                                        refine call_f (fun h => NestV h hc0.length hh0.length nb0_0 (v15.b : List TOp) ∧ hh0.length ≤ h.length ∧ NestV h hc1.length hh1.length nb1_0 (v16.b : List TOp) ∧ hh1.length ≤ h.length ∧ NestV h hc2.length hh2.length nb2_0 (v18.b : List TOp) ∧ hh2.length ≤ h.length ∧ NestV h hc3.length hh3.length nb3_0 (v4 : List TOp) ∧ hh3.length ≤ h.length ∧ NestV h hc4.length hh4.length nb4_0 (v5 : List TOp) ∧ hh4.length ≤ h.length ∧ NestV h hc8.length hh8.length nb8_0 (v4 : List TOp) ∧ hh8.length ≤ h.length ∧ NestV h hc9.length hh9.length nb9_0 (v5 : List TOp) ∧ hh9.length ≤ h.length) (fun h v h2 => oo_impl_BranchMerge v7 h v h2) ?_ ?_ ?_
                                        · simp (maxSteps := 2000000) (disch := first|omega|(simp only[ls];first|done|omega)) only [E, hv0, hb1, hv2, hb3, hv4, hv5, hv6, d0_0, d0_0s, d0_0n, d1_0, d1_0s, d1_0n, d1_1, d1_1s, d1_1n, hv7, d2_0, d2_0s, d2_0n, d2_1, d2_1s, d2_1n, d2_2, d2_2s, d2_2n, hv8, hb9, hb10, d3_0, d3_0s, d3_0n, d3_1, d3_1s, d3_1n, d3_2, d3_2s, d3_2n, d3_3, d3_3s, d3_3n, hv11, hb12, d4_0, d4_0s, d4_0n, d4_1, d4_1s, d4_1n, d4_2, d4_2s, d4_2n, d4_3, d4_3s, d4_3n, d4_4, d4_4s, d4_4n, hv13, hb14, hv15, d5_0, d5_0s, d5_0n, d5_1, d5_1s, d5_1n, d5_2, d5_2s, d5_2n, d5_3, d5_3s, d5_3n, d5_4, d5_4s, d5_4n, hv16, d6_0, d6_0s, d6_0n, d6_1, d6_1s, d6_1n, d6_2, d6_2s, d6_2n, d6_3, d6_3s, d6_3n, d6_4, d6_4s, d6_4n, hb17, hv18, d7_0, d7_0s, d7_0n, d7_1, d7_1s, d7_1n, d7_2, d7_2s, d7_2n, d7_3, d7_3s, d7_3n, d7_4, d7_4s, d7_4n, hv19, hb20, hb21, d8_0, d8_0s, d8_0n, d8_1, d8_1s, d8_1n, d8_2, d8_2s, d8_2n, d8_3, d8_3s, d8_3n, d8_4, d8_4s, d8_4n, d8_5, d8_5s, d8_5n, d9_0, d9_0s, d9_0n, d9_1, d9_1s, d9_1n, d9_2, d9_2s, d9_2n, d9_3, d9_3s, d9_3n, d9_4, d9_4s, d9_4n, d9_5, d9_5s, d9_5n, d9_6, d9_6s, d9_6n, gx, eta_T4, enc_T4, dec_T4, ret_four] <;> (repeat (first | refine And.intro ?_ ?_ | assumption | exact nest_ext (by assumption) | exact nest_wide (by assumption) (Nat.zero_le _) (by first | omega | (simp; omega)) (Nat.le_refl _) | exact nest_wide (nest_ext (by assumption)) (Nat.zero_le _) (by first | omega | (simp; omega)) (Nat.le_refl _) | exact nest_virt (by simp (maxSteps := 2000000) (disch := first|omega|(simp only[ls];first|done|omega)) only [E, hv0, hb1, hv2, hb3, hv4, hv5, hv6, d0_0, d0_0s, d0_0n, d1_0, d1_0s, d1_0n, d1_1, d1_1s, d1_1n, hv7, d2_0, d2_0s, d2_0n, d2_1, d2_1s, d2_1n, d2_2, d2_2s, d2_2n, hv8, hb9, hb10, d3_0, d3_0s, d3_0n, d3_1, d3_1s, d3_1n, d3_2, d3_2s, d3_2n, d3_3, d3_3s, d3_3n, hv11, hb12, d4_0, d4_0s, d4_0n, d4_1, d4_1s, d4_1n, d4_2, d4_2s, d4_2n, d4_3, d4_3s, d4_3n, d4_4, d4_4s, d4_4n, hv13, hb14, hv15, d5_0, d5_0s, d5_0n, d5_1, d5_1s, d5_1n, d5_2, d5_2s, d5_2n, d5_3, d5_3s, d5_3n, d5_4, d5_4s, d5_4n, hv16, d6_0, d6_0s, d6_0n, d6_1, d6_1s, d6_1n, d6_2, d6_2s, d6_2n, d6_3, d6_3s, d6_3n, d6_4, d6_4s, d6_4n, hb17, hv18, d7_0, d7_0s, d7_0n, d7_1, d7_1s, d7_1n, d7_2, d7_2s, d7_2n, d7_3, d7_3s, d7_3n, d7_4, d7_4s, d7_4n, hv19, hb20, hb21, d8_0, d8_0s, d8_0n, d8_1, d8_1s, d8_1n, d8_2, d8_2s, d8_2n, d8_3, d8_3s, d8_3n, d8_4, d8_4s, d8_4n, d8_5, d8_5s, d8_5n, d9_0, d9_0s, d9_0n, d9_1, d9_1s, d9_1n, d9_2, d9_2s, d9_2n, d9_3, d9_3s, d9_3n, d9_4, d9_4s, d9_4n, d9_5, d9_5s, d9_5n, d9_6, d9_6s, d9_6n, gx, eta_T4, enc_T4, dec_T4, ret_four]) (by omega) (by first | omega | (simp; done) | (simp; omega)) (by first | omega | (simp; done) | (simp; omega)) | refine nest_ext ?_ | refine nest_set ?_ (by omega) | omega))
                                        · rintro h ⟨c10_0, c10_1, c10_2, c10_3, c10_4, c10_5, c10_6, c10_7, c10_8, c10_9, c10_10, c10_11, c10_12, c10_13⟩
                                          have sc10_0 : snap 9 false h nb0_0 = some (.sl 12 (v15.b.map enc)) := snap_nest (n := 5) c10_0
                                          have sc10_1 : snap 9 false h nb1_0 = some (.sl 12 (v16.b.map enc)) := snap_nest (n := 5) c10_2
                                          have sc10_2 : snap 9 false h nb2_0 = some (.sl 12 (v18.b.map enc)) := snap_nest (n := 5) c10_4
                                          have sc10_3 : snap 9 false h nb3_0 = some (.sl 12 (v4.map enc)) := snap_nest (n := 5) c10_6
                                          have sc10_4 : snap 9 false h nb4_0 = some (.sl 12 (v5.map enc)) := snap_nest (n := 5) c10_8
                                          have sc10_5 : snap 9 false h nb8_0 = some (.sl 12 (v4.map enc)) := snap_nest (n := 5) c10_10
                                          have sc10_6 : snap 9 false h nb9_0 = some (.sl 12 (v5.map enc)) := snap_nest (n := 5) c10_12
                                          exact e_impl_BranchMerge _ _ _ hv7 h _ (by simp (maxSteps := 2000000) (disch := first|omega|(simp only[ls];first|done|omega)) only [E, hv0, hb1, hv2, hb3, hv4, hv5, hv6, d0_0, d0_0s, d0_0n, d1_0, d1_0s, d1_0n, d1_1, d1_1s, d1_1n, hv7, d2_0, d2_0s, d2_0n, d2_1, d2_1s, d2_1n, d2_2, d2_2s, d2_2n, hv8, hb9, hb10, d3_0, d3_0s, d3_0n, d3_1, d3_1s, d3_1n, d3_2, d3_2s, d3_2n, d3_3, d3_3s, d3_3n, hv11, hb12, d4_0, d4_0s, d4_0n, d4_1, d4_1s, d4_1n, d4_2, d4_2s, d4_2n, d4_3, d4_3s, d4_3n, d4_4, d4_4s, d4_4n, hv13, hb14, hv15, d5_0, d5_0s, d5_0n, d5_1, d5_1s, d5_1n, d5_2, d5_2s, d5_2n, d5_3, d5_3s, d5_3n, d5_4, d5_4s, d5_4n, hv16, d6_0, d6_0s, d6_0n, d6_1, d6_1s, d6_1n, d6_2, d6_2s, d6_2n, d6_3, d6_3s, d6_3n, d6_4, d6_4s, d6_4n, hb17, hv18, d7_0, d7_0s, d7_0n, d7_1, d7_1s, d7_1n, d7_2, d7_2s, d7_2n, d7_3, d7_3s, d7_3n, d7_4, d7_4s, d7_4n, hv19, hb20, hb21, d8_0, d8_0s, d8_0n, d8_1, d8_1s, d8_1n, d8_2, d8_2s, d8_2n, d8_3, d8_3s, d8_3n, d8_4, d8_4s, d8_4n, d8_5, d8_5s, d8_5n, d9_0, d9_0s, d9_0n, d9_1, d9_1s, d9_1n, d9_2, d9_2s, d9_2n, d9_3, d9_3s, d9_3n, d9_4, d9_4s, d9_4n, d9_5, d9_5s, d9_5n, d9_6, d9_6s, d9_6n, c10_0, c10_1, c10_2, c10_3, c10_4, c10_5, c10_6, c10_7, c10_8, c10_9, c10_10, c10_11, c10_12, c10_13, sc10_0, sc10_1, sc10_2, sc10_3, sc10_4, sc10_5, sc10_6, gx, eta_T4, enc_T4, dec_T4, ret_four])
                                        · rintro hc10 v hh10 ⟨c10_0, c10_1, c10_2, c10_3, c10_4, c10_5, c10_6, c10_7, c10_8, c10_9, c10_10, c10_11, c10_12, c10_13⟩ hpost
                                          obtain ⟨kk10, nb10_0, rfl, wnb10_0⟩ := hpost
                                          have d10_0 : NestV hh10 hc0.length hh0.length nb0_0 (v15.b : List TOp) := nest_keep c10_0 kk10 (by intro b hb; first | (simp at hb; done) | (simp at hb; omega))
                                          have d10_0l := nest_lt d10_0
                                          have d10_0s : snap 9 false hh10 nb0_0 = some (.sl 12 (v15.b.map enc)) := snap_nest (n := 5) d10_0
                                          have d10_0n : lenS nb0_0 = some v15.b.length := nest_lenS d10_0
                                          have d10_1 : NestV hh10 hc1.length hh1.length nb1_0 (v16.b : List TOp) := nest_keep c10_2 kk10 (by intro b hb; first | (simp at hb; done) | (simp at hb; omega))
                                          have d10_1l := nest_lt d10_1
                                          have d10_1s : snap 9 false hh10 nb1_0 = some (.sl 12 (v16.b.map enc)) := snap_nest (n := 5) d10_1
                                          have d10_1n : lenS nb1_0 = some v16.b.length := nest_lenS d10_1
                                          have d10_2 : NestV hh10 hc2.length hh2.length nb2_0 (v18.b : List TOp) := nest_keep c10_4 kk10 (by intro b hb; first | (simp at hb; done) | (simp at hb; omega))
                                          have d10_2l := nest_lt d10_2
                                          have d10_2s : snap 9 false hh10 nb2_0 = some (.sl 12 (v18.b.map enc)) := snap_nest (n := 5) d10_2
                                          have d10_2n : lenS nb2_0 = some v18.b.length := nest_lenS d10_2
                                          have d10_3 : NestV hh10 hc3.length hh3.length nb3_0 (v4 : List TOp) := nest_keep c10_6 kk10 (by intro b hb; first | (simp at hb; done) | (simp at hb; omega))
                                          have d10_3l := nest_lt d10_3
                                          have d10_3s : snap 9 false hh10 nb3_0 = some (.sl 12 (v4.map enc)) := snap_nest (n := 5) d10_3
                                          have d10_3n : lenS nb3_0 = some v4.length := nest_lenS d10_3
                                          have d10_4 : NestV hh10 hc4.length hh4.length nb4_0 (v5 : List TOp) := nest_keep c10_8 kk10 (by intro b hb; first | (simp at hb; done) | (simp at hb; omega))
                                          have d10_4l := nest_lt d10_4
                                          have d10_4s : snap 9 false hh10 nb4_0 = some (.sl 12 (v5.map enc)) := snap_nest (n := 5) d10_4
                                          have d10_4n : lenS nb4_0 = some v5.length := nest_lenS d10_4
                                          have d10_5 : NestV hh10 hc8.length hh8.length nb8_0 (v4 : List TOp) := nest_keep c10_10 kk10 (by intro b hb; first | (simp at hb; done) | (simp at hb; omega))
                                          have d10_5l := nest_lt d10_5
                                          have d10_5s : snap 9 false hh10 nb8_0 = some (.sl 12 (v4.map enc)) := snap_nest (n := 5) d10_5
                                          have d10_5n : lenS nb8_0 = some v4.length := nest_lenS d10_5
                                          have d10_6 : NestV hh10 hc9.length hh9.length nb9_0 (v5 : List TOp) := nest_keep c10_12 kk10 (by intro b hb; first | (simp at hb; done) | (simp at hb; omega))
                                          have d10_6l := nest_lt d10_6
                                          have d10_6s : snap 9 false hh10 nb9_0 = some (.sl 12 (v5.map enc)) := snap_nest (n := 5) d10_6
                                          have d10_6n : lenS nb9_0 = some v5.length := nest_lenS d10_6
                                          have d10_7 := wnb10_0
                                          have d10_7l := nest_lt d10_7
                                          have d10_7s : snap 9 false hh10 nb10_0 = some (.sl 12 (v7.a.map enc)) := snap_nest (n := 5) d10_7
                                          have d10_7n : lenS nb10_0 = some v7.a.length := nest_lenS d10_7
                                          cases hp
                                          simp (maxSteps := 2000000) (disch := first|omega|(simp only[ls];first|done|omega)) only [E, hv0, hb1, hv2, hb3, hv4, hv5, hv6, d0_0, d0_0s, d0_0n, d1_0, d1_0s, d1_0n, d1_1, d1_1s, d1_1n, hv7, d2_0, d2_0s, d2_0n, d2_1, d2_1s, d2_1n, d2_2, d2_2s, d2_2n, hv8, hb9, hb10, d3_0, d3_0s, d3_0n, d3_1, d3_1s, d3_1n, d3_2, d3_2s, d3_2n, d3_3, d3_3s, d3_3n, hv11, hb12, d4_0, d4_0s, d4_0n, d4_1, d4_1s, d4_1n, d4_2, d4_2s, d4_2n, d4_3, d4_3s, d4_3n, d4_4, d4_4s, d4_4n, hv13, hb14, hv15, d5_0, d5_0s, d5_0n, d5_1, d5_1s, d5_1n, d5_2, d5_2s, d5_2n, d5_3, d5_3s, d5_3n, d5_4, d5_4s, d5_4n, hv16, d6_0, d6_0s, d6_0n, d6_1, d6_1s, d6_1n, d6_2, d6_2s, d6_2n, d6_3, d6_3s, d6_3n, d6_4, d6_4s, d6_4n, hb17, hv18, d7_0, d7_0s, d7_0n, d7_1, d7_1s, d7_1n, d7_2, d7_2s, d7_2n, d7_3, d7_3s, d7_3n, d7_4, d7_4s, d7_4n, hv19, hb20, hb21, d8_0, d8_0s, d8_0n, d8_1, d8_1s, d8_1n, d8_2, d8_2s, d8_2n, d8_3, d8_3s, d8_3n, d8_4, d8_4s, d8_4n, d8_5, d8_5s, d8_5n, d9_0, d9_0s, d9_0n, d9_1, d9_1s, d9_1n, d9_2, d9_2s, d9_2n, d9_3, d9_3s, d9_3n, d9_4, d9_4s, d9_4n, d9_5, d9_5s, d9_5n, d9_6, d9_6s, d9_6n, d10_0, d10_0s, d10_0n, d10_1, d10_1s, d10_1n, d10_2, d10_2s, d10_2n, d10_3, d10_3s, d10_3n, d10_4, d10_4s, d10_4n, d10_5, d10_5s, d10_5n, d10_6, d10_6s, d10_6n, d10_7, d10_7s, d10_7n, gx, eta_T4, enc_T4, dec_T4, ret_four]
                                  · replace hb21 := eq_false_of_ne_true hb21
                                    rw [if_f hb21] at hp
                                    cases hp
                      · replace hb14 := eq_false_of_ne_true hb14
                        rw [if_f hb14] at hp
                        cases hp
                  · replace hb12 := eq_false_of_ne_true hb12
                    rw [if_f hb12] at hp
                    cases hp
              · replace hb10 := eq_false_of_ne_true hb10
                rw [if_f hb10] at hp
                cases hp
            · replace hb9 := eq_false_of_ne_true hb9
              rw [if_f hb9] at hp
              cases hp

end Go.AM
