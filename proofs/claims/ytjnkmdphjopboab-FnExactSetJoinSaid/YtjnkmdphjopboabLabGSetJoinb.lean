/- Plain functions of SetJoin and their walks. No condition. -/
import Derived.Test.YtjnkmdphjopboabLabGSetJoina
set_option linter.unusedVariables false
set_option linter.unusedSimpArgs false
namespace Go.AM
open Pic (enc dec dec_enc dec_sub)
open PicA (encA decA decA_encA decA_sub)
noncomputable def p_impl_joinStates_l0 (x0 : TVec) (x1 : List TEntry) (x2 : TVec) (x3 : List TEntry) : List TEntry × Int × Int → Option (Lp (List TEntry × Int × Int) (T3 TVec (List TEntry) Int))
  | (s0, s1, s2) =>
    if (decide (s1 < (x1.length : Int))) = true then
      if (decide (s2 = (x3.length : Int))) = true then
        (get? x1 s1).bind fun v5 =>
        (get? x2.counts v5.stamp.actor).bind fun v6 =>
        if (decide (v6 < v5.stamp.time)) = true then
          (app? 32 s0 ([v5])).bind fun v8 =>
          some (.go (v8, w64 (s1 + 1), s2))
        else
          some (.go (s0, w64 (s1 + 1), s2))
      else
        (get? x1 s1).bind fun v9 =>
        (get? x3 s2).bind fun v10 =>
        (p_impl_StampLess v9.stamp v10.stamp).bind fun v11 =>
        if (v11) = true then
          (get? x2.counts v9.stamp.actor).bind fun v13 =>
          if (decide (v13 < v9.stamp.time)) = true then
            (app? 32 s0 ([v9])).bind fun v15 =>
            some (.go (v15, w64 (s1 + 1), s2))
          else
            some (.go (s0, w64 (s1 + 1), s2))
        else
          if (decide (s1 = (x1.length : Int))) = true then
            (get? x0.counts v10.stamp.actor).bind fun v17 =>
            if (decide (v17 < v10.stamp.time)) = true then
              (app? 32 s0 ([v10])).bind fun v19 =>
              some (.go (v19, s1, w64 (s2 + 1)))
            else
              some (.go (s0, s1, w64 (s2 + 1)))
          else
            (p_impl_StampLess v10.stamp v9.stamp).bind fun v20 =>
            if (v20) = true then
              (get? x0.counts v10.stamp.actor).bind fun v22 =>
              if (decide (v22 < v10.stamp.time)) = true then
                (app? 32 s0 ([v10])).bind fun v24 =>
                some (.go (v24, s1, w64 (s2 + 1)))
              else
                some (.go (s0, s1, w64 (s2 + 1)))
            else
              if ((Op.bytesLess v10.text.toList v9.text.toList || decide (v10.text = v9.text))) = true then
                (app? 32 s0 ([v9])).bind fun v26 =>
                some (.go (v26, w64 (s1 + 1), w64 (s2 + 1)))
              else
                (app? 32 s0 ([v10])).bind fun v27 =>
                some (.go (v27, w64 (s1 + 1), w64 (s2 + 1)))
    else
      if (decide (s2 < (x3.length : Int))) = true then
        if (decide (s2 = (x3.length : Int))) = true then
          (get? x1 s1).bind fun v30 =>
          (get? x2.counts v30.stamp.actor).bind fun v31 =>
          if (decide (v31 < v30.stamp.time)) = true then
            (app? 32 s0 ([v30])).bind fun v33 =>
            some (.go (v33, w64 (s1 + 1), s2))
          else
            some (.go (s0, w64 (s1 + 1), s2))
        else
          if (decide (s1 = (x1.length : Int))) = true then
            (get? x3 s2).bind fun v35 =>
            (get? x0.counts v35.stamp.actor).bind fun v36 =>
            if (decide (v36 < v35.stamp.time)) = true then
              (app? 32 s0 ([v35])).bind fun v38 =>
              some (.go (v38, s1, w64 (s2 + 1)))
            else
              some (.go (s0, s1, w64 (s2 + 1)))
          else
            (get? x3 s2).bind fun v39 =>
            (get? x1 s1).bind fun v40 =>
            (p_impl_StampLess v39.stamp v40.stamp).bind fun v41 =>
            if (v41) = true then
              (get? x0.counts v39.stamp.actor).bind fun v43 =>
              if (decide (v43 < v39.stamp.time)) = true then
                (app? 32 s0 ([v39])).bind fun v45 =>
                some (.go (v45, s1, w64 (s2 + 1)))
              else
                some (.go (s0, s1, w64 (s2 + 1)))
            else
              if ((Op.bytesLess v39.text.toList v40.text.toList || decide (v39.text = v40.text))) = true then
                (app? 32 s0 ([v40])).bind fun v47 =>
                some (.go (v47, w64 (s1 + 1), w64 (s2 + 1)))
              else
                (app? 32 s0 ([v39])).bind fun v48 =>
                some (.go (v48, w64 (s1 + 1), w64 (s2 + 1)))
      else
        some (.out (s0, s1, s2))
noncomputable def p_impl_joinStates (x0 : TVec) (x1 : List TEntry) (x2 : TVec) (x3 : List TEntry) : Option (T3 TVec (List TEntry) Int) :=
  (loopP (p_impl_joinStates_l0 x0 x1 x2 x3) (([] : List TEntry), 0, 0)).bind fun ee0 => match ee0 with
  | .ret r => some r
  | .out (o49, o50, o51) =>
    if (decide (256 < (o49.length : Int))) = true then
      some ⟨(TVec.mk ([])), [], 11⟩
    else
      (p_impl_vecJoin x0 x2).bind fun v53 =>
      some ⟨v53, o49, 0⟩
def c_impl_joinStates (f_impl_StampLess : Nat) (f_impl_vecJoin : Nat) : AFn := ⟨151, (.seq (.ops [⟨(.some 4), (.box (.tmp 0)), .none, []⟩, ⟨(.some 6), (.box (.tmp 2)), .none, []⟩, ⟨(.some 8), (.allocV [(1, false)] [(.slice .none 0 0)]), .none, []⟩, ⟨(.some 9), (.vnil 3 true), .none, []⟩, ⟨(.some 10), (.mv (.const (.int .i64 0))), .none, []⟩]) (.seq (.ops [⟨(.some 11), (.vnil 3 true), .none, []⟩]) (.seq (.ops [⟨(.some 12), (.mv (.const (.int .i64 0))), .none, []⟩, ⟨(.some 13), (.mv (.const (.int .i64 0))), .none, []⟩]) (.seq (.block 0 (.loop (.seq (.seq (.ops [⟨(.some 15), (.mv (.tmp 12)), .none, []⟩, ⟨(.some 16), (.mv (.tmp 1)), .none, []⟩, ⟨(.some 17), (.len (.tmp 16)), .none, []⟩, ⟨(.some 18), (.pu (.n (.ar .lss)) [(.tmp 15), (.tmp 17)]), .none, []⟩, ⟨(.some 19), (.mv (.tmp 18)), .none, []⟩, ⟨(.some 20), (.mv (.tmp 13)), (.some (19, false)), []⟩, ⟨(.some 21), (.mv (.tmp 3)), (.some (19, false)), []⟩, ⟨(.some 22), (.len (.tmp 21)), (.some (19, false)), []⟩, ⟨(.some 23), (.pu (.n (.ar .lss)) [(.tmp 20), (.tmp 22)]), (.some (19, false)), []⟩, ⟨(.some 24), (.pick (.tmp 19) (.const (.bool true)) (.tmp 23)), .none, []⟩]) (.cond (.tmp 24) .skip (.exit 0))) (.block 1 (.block 2 (.seq (.ops [⟨(.some 50), (.mv (.tmp 13)), .none, []⟩, ⟨(.some 51), (.mv (.tmp 3)), .none, []⟩, ⟨(.some 52), (.len (.tmp 51)), .none, []⟩, ⟨(.some 53), (.pu (.n (.ar .eql)) [(.tmp 50), (.tmp 52)]), .none, []⟩, ⟨(.some 54), (.mv (.tmp 53)), .none, []⟩, ⟨(.some 55), (.mv (.tmp 12)), (.some (54, false)), []⟩, ⟨(.some 56), (.mv (.tmp 1)), (.some (54, false)), []⟩, ⟨(.some 57), (.len (.tmp 56)), (.some (54, false)), []⟩, ⟨(.some 58), (.pu (.n (.ar .lss)) [(.tmp 55), (.tmp 57)]), (.some (54, false)), []⟩, ⟨(.some 59), (.mv (.tmp 58)), (.some (54, false)), []⟩, ⟨(.some 60), (.mv (.tmp 1)), (.some (59, true)), []⟩, ⟨(.some 61), (.mv (.tmp 12)), (.some (59, true)), []⟩, ⟨(.some 62), (.idxS 3 (.tmp 60) (.tmp 61)), (.some (59, true)), []⟩, ⟨(.some 63), (.fieldA 0 (.tmp 62)), (.some (59, true)), []⟩, ⟨(.some 64), (.load 2 true (.tmp 63)), (.some (59, true)), []⟩, ⟨(.some 65), (.mv (.tmp 3)), (.some (59, true)), []⟩, ⟨(.some 66), (.mv (.tmp 13)), (.some (59, true)), []⟩, ⟨(.some 67), (.idxS 3 (.tmp 65) (.tmp 66)), (.some (59, true)), []⟩, ⟨(.some 68), (.fieldA 0 (.tmp 67)), (.some (59, true)), []⟩, ⟨(.some 69), (.load 2 true (.tmp 68)), (.some (59, true)), []⟩, ⟨(.some 70), (.call (2 * f_impl_StampLess) [(.tmp 64), (.tmp 69)]), (.some (59, true)), []⟩, ⟨(.some 71), (.pick (.tmp 59) (.tmp 70) (.const (.bool false))), (.some (54, false)), []⟩, ⟨(.some 72), (.pick (.tmp 54) (.const (.bool true)) (.tmp 71)), .none, []⟩, ⟨(.some 49), (.mv (.tmp 72)), .none, []⟩]) (.cond (.tmp 49) (.seq (.seq (.ops [⟨(.some 73), (.fieldA 0 (.tmp 6)), .none, []⟩, ⟨(.some 74), (.load 1 false (.tmp 73)), .none, []⟩, ⟨(.some 75), (.mv (.tmp 1)), .none, []⟩, ⟨(.some 76), (.mv (.tmp 12)), .none, []⟩, ⟨(.some 77), (.idxS 3 (.tmp 75) (.tmp 76)), .none, []⟩, ⟨(.some 78), (.fieldA 0 (.tmp 77)), .none, []⟩, ⟨(.some 79), (.fieldA 1 (.tmp 78)), .none, []⟩, ⟨(.some 80), (.load 1 false (.tmp 79)), .none, []⟩, ⟨(.some 81), (.idxS 1 (.tmp 74) (.tmp 80)), .none, []⟩, ⟨(.some 82), (.load 1 false (.tmp 81)), .none, []⟩, ⟨(.some 83), (.mv (.tmp 1)), .none, []⟩, ⟨(.some 84), (.mv (.tmp 12)), .none, []⟩, ⟨(.some 85), (.idxS 3 (.tmp 83) (.tmp 84)), .none, []⟩, ⟨(.some 86), (.fieldA 0 (.tmp 85)), .none, []⟩, ⟨(.some 87), (.fieldA 0 (.tmp 86)), .none, []⟩, ⟨(.some 88), (.load 1 false (.tmp 87)), .none, []⟩, ⟨(.some 89), (.pu (.n (.ar .lss)) [(.tmp 82), (.tmp 88)]), .none, []⟩]) (.cond (.tmp 89) (.ops [⟨(.some 90), (.mv (.tmp 11)), .none, []⟩, ⟨(.some 91), (.mv (.tmp 1)), .none, []⟩, ⟨(.some 92), (.mv (.tmp 12)), .none, []⟩, ⟨(.some 93), (.idxS 3 (.tmp 91) (.tmp 92)), .none, []⟩, ⟨(.some 94), (.load 3 true (.tmp 93)), .none, []⟩, ⟨(.some 95), (.buildSl 3 true 1 [(.int .i64 0), (.int .i64 0), (.string ⟨#[]⟩)] [(0, (.tmp 94))]), .none, []⟩, ⟨(.some 96), (.append 3 true 32 (.tmp 90) (.tmp 95)), .none, []⟩, ⟨(.some 11), (.mv (.tmp 96)), .none, []⟩]) .skip)) (.ops [⟨(.some 97), (.mv (.tmp 12)), .none, []⟩, ⟨(.some 98), (.pu (.n (.ar .add)) [(.tmp 97), (.const (.int .i64 1))]), .none, []⟩, ⟨(.some 12), (.mv (.tmp 98)), .none, []⟩])) (.seq (.ops [⟨(.some 100), (.mv (.tmp 12)), .none, []⟩, ⟨(.some 101), (.mv (.tmp 1)), .none, []⟩, ⟨(.some 102), (.len (.tmp 101)), .none, []⟩, ⟨(.some 103), (.pu (.n (.ar .eql)) [(.tmp 100), (.tmp 102)]), .none, []⟩, ⟨(.some 104), (.mv (.tmp 103)), .none, []⟩, ⟨(.some 105), (.mv (.tmp 3)), (.some (104, false)), []⟩, ⟨(.some 106), (.mv (.tmp 13)), (.some (104, false)), []⟩, ⟨(.some 107), (.idxS 3 (.tmp 105) (.tmp 106)), (.some (104, false)), []⟩, ⟨(.some 108), (.fieldA 0 (.tmp 107)), (.some (104, false)), []⟩, ⟨(.some 109), (.load 2 true (.tmp 108)), (.some (104, false)), []⟩, ⟨(.some 110), (.mv (.tmp 1)), (.some (104, false)), []⟩, ⟨(.some 111), (.mv (.tmp 12)), (.some (104, false)), []⟩, ⟨(.some 112), (.idxS 3 (.tmp 110) (.tmp 111)), (.some (104, false)), []⟩, ⟨(.some 113), (.fieldA 0 (.tmp 112)), (.some (104, false)), []⟩, ⟨(.some 114), (.load 2 true (.tmp 113)), (.some (104, false)), []⟩, ⟨(.some 115), (.call (2 * f_impl_StampLess) [(.tmp 109), (.tmp 114)]), (.some (104, false)), []⟩, ⟨(.some 116), (.pick (.tmp 104) (.const (.bool true)) (.tmp 115)), .none, []⟩, ⟨(.some 99), (.mv (.tmp 116)), .none, []⟩]) (.cond (.tmp 99) (.seq (.seq (.ops [⟨(.some 117), (.fieldA 0 (.tmp 4)), .none, []⟩, ⟨(.some 118), (.load 1 false (.tmp 117)), .none, []⟩, ⟨(.some 119), (.mv (.tmp 3)), .none, []⟩, ⟨(.some 120), (.mv (.tmp 13)), .none, []⟩, ⟨(.some 121), (.idxS 3 (.tmp 119) (.tmp 120)), .none, []⟩, ⟨(.some 122), (.fieldA 0 (.tmp 121)), .none, []⟩, ⟨(.some 123), (.fieldA 1 (.tmp 122)), .none, []⟩, ⟨(.some 124), (.load 1 false (.tmp 123)), .none, []⟩, ⟨(.some 125), (.idxS 1 (.tmp 118) (.tmp 124)), .none, []⟩, ⟨(.some 126), (.load 1 false (.tmp 125)), .none, []⟩, ⟨(.some 127), (.mv (.tmp 3)), .none, []⟩, ⟨(.some 128), (.mv (.tmp 13)), .none, []⟩, ⟨(.some 129), (.idxS 3 (.tmp 127) (.tmp 128)), .none, []⟩, ⟨(.some 130), (.fieldA 0 (.tmp 129)), .none, []⟩, ⟨(.some 131), (.fieldA 0 (.tmp 130)), .none, []⟩, ⟨(.some 132), (.load 1 false (.tmp 131)), .none, []⟩, ⟨(.some 133), (.pu (.n (.ar .lss)) [(.tmp 126), (.tmp 132)]), .none, []⟩]) (.cond (.tmp 133) (.ops [⟨(.some 134), (.mv (.tmp 11)), .none, []⟩, ⟨(.some 135), (.mv (.tmp 3)), .none, []⟩, ⟨(.some 136), (.mv (.tmp 13)), .none, []⟩, ⟨(.some 137), (.idxS 3 (.tmp 135) (.tmp 136)), .none, []⟩, ⟨(.some 138), (.load 3 true (.tmp 137)), .none, []⟩, ⟨(.some 139), (.buildSl 3 true 1 [(.int .i64 0), (.int .i64 0), (.string ⟨#[]⟩)] [(0, (.tmp 138))]), .none, []⟩, ⟨(.some 140), (.append 3 true 32 (.tmp 134) (.tmp 139)), .none, []⟩, ⟨(.some 11), (.mv (.tmp 140)), .none, []⟩]) .skip)) (.ops [⟨(.some 141), (.mv (.tmp 13)), .none, []⟩, ⟨(.some 142), (.pu (.n (.ar .add)) [(.tmp 141), (.const (.int .i64 1))]), .none, []⟩, ⟨(.some 13), (.mv (.tmp 142)), .none, []⟩])) (.seq (.ops [⟨(.some 25), (.mv (.tmp 1)), .none, []⟩, ⟨(.some 26), (.mv (.tmp 12)), .none, []⟩, ⟨(.some 27), (.idxS 3 (.tmp 25) (.tmp 26)), .none, []⟩, ⟨(.some 28), (.load 3 true (.tmp 27)), .none, []⟩, ⟨(.some 14), (.allocV [(0, false), (0, false), (0, false)] [(.int .i64 0), (.int .i64 0), (.string ⟨#[]⟩)]), .none, []⟩, ⟨.none, (.storeV [(0, false), (0, false), (0, false)] 3 (.tmp 14) (.tmp 28)), .none, []⟩]) (.seq (.seq (.ops [⟨(.some 29), (.mv (.tmp 3)), .none, []⟩, ⟨(.some 30), (.mv (.tmp 13)), .none, []⟩, ⟨(.some 31), (.idxS 3 (.tmp 29) (.tmp 30)), .none, []⟩, ⟨(.some 32), (.fieldA 2 (.tmp 31)), .none, []⟩, ⟨(.some 33), (.load 1 false (.tmp 32)), .none, []⟩, ⟨(.some 34), (.fieldA 2 (.tmp 14)), .none, []⟩, ⟨(.some 35), (.load 1 false (.tmp 34)), .none, []⟩, ⟨(.some 36), (.pu (.n (.ar .gtr)) [(.tmp 33), (.tmp 35)]), .none, []⟩]) (.cond (.tmp 36) (.ops [⟨(.some 37), (.mv (.tmp 3)), .none, []⟩, ⟨(.some 38), (.mv (.tmp 13)), .none, []⟩, ⟨(.some 39), (.idxS 3 (.tmp 37) (.tmp 38)), .none, []⟩, ⟨(.some 40), (.load 3 true (.tmp 39)), .none, []⟩, ⟨.none, (.storeV [(0, false), (0, false), (0, false)] 3 (.tmp 14) (.tmp 40)), .none, []⟩]) .skip)) (.seq (.ops [⟨(.some 41), (.mv (.tmp 11)), .none, []⟩, ⟨(.some 42), (.load 3 true (.tmp 14)), .none, []⟩, ⟨(.some 43), (.buildSl 3 true 1 [(.int .i64 0), (.int .i64 0), (.string ⟨#[]⟩)] [(0, (.tmp 42))]), .none, []⟩, ⟨(.some 44), (.append 3 true 32 (.tmp 41) (.tmp 43)), .none, []⟩, ⟨(.some 11), (.mv (.tmp 44)), .none, []⟩]) (.seq (.ops [⟨(.some 45), (.mv (.tmp 12)), .none, []⟩, ⟨(.some 46), (.pu (.n (.ar .add)) [(.tmp 45), (.const (.int .i64 1))]), .none, []⟩, ⟨(.some 12), (.mv (.tmp 46)), .none, []⟩]) (.ops [⟨(.some 47), (.mv (.tmp 13)), .none, []⟩, ⟨(.some 48), (.pu (.n (.ar .add)) [(.tmp 47), (.const (.int .i64 1))]), .none, []⟩, ⟨(.some 13), (.mv (.tmp 48)), .none, []⟩])))))))))))))) (.seq (.seq (.ops [⟨(.some 143), (.mv (.tmp 11)), .none, []⟩, ⟨(.some 144), (.len (.tmp 143)), .none, []⟩, ⟨(.some 145), (.pu (.n (.ar .gtr)) [(.tmp 144), (.const (.int .i64 256))]), .none, []⟩]) (.cond (.tmp 145) (.seq (.ops [⟨(.some 146), (.build [(.slice .none 0 0)] []), .none, []⟩, ⟨.none, (.storeV [(1, false)] 1 (.tmp 8) (.tmp 146)), .none, []⟩, ⟨(.some 9), (.vnil 3 true), .none, []⟩, ⟨(.some 10), (.mv (.const (.int .i64 11))), .none, []⟩]) .ret) .skip)) (.seq (.ops [⟨(.some 147), (.load 1 true (.tmp 4)), .none, []⟩, ⟨(.some 148), (.load 1 true (.tmp 6)), .none, []⟩, ⟨(.some 149), (.call (2 * f_impl_vecJoin + 1) [(.tmp 147), (.tmp 148)]), .none, []⟩, ⟨(.some 150), (.mv (.tmp 11)), .none, []⟩, ⟨.none, (.storeV [(1, false)] 1 (.tmp 8) (.tmp 149)), .none, []⟩, ⟨(.some 9), (.mv (.tmp 150)), .none, []⟩, ⟨(.some 10), (.mv (.const (.int .i64 0))), .none, []⟩]) .ret)))))), [(.cell 8 1 true), (.tmp 9), (.tmp 10)]⟩
def o_impl_joinStates (b : T3 TVec (List TEntry) Int) (v : V) (h : Heap) : Prop := ∃ n0 n1 : Nat, v = .tup [.agg [.hsl n0 b.a.counts.length 0 1 false b.a.counts.length], .hsl n1 (b.b.length * 3) 0 3 true b.b.length, .i (.s (.int .i64 b.c))] ∧ getCells h n0 b.a.counts.length = some (rows b.a.counts) ∧ getCells h n1 (b.b.length * 3) = some (rows b.b) ∧ n1 ≠ n0
def oo_impl_joinStates (b : T3 TVec (List TEntry) Int) (h : Heap) (v : V) (h2 : Heap) : Prop := Keep [] h h2 ∧ ∃ n0 n1 : Nat, v = .tup [.agg [.hsl n0 b.a.counts.length 0 1 false b.a.counts.length], .hsl n1 (b.b.length * 3) 0 3 true b.b.length, .i (.s (.int .i64 b.c))] ∧ n0 < h2.length ∧ h.length ≤ n0 ∧ getCells h2 n0 b.a.counts.length = some (rows b.a.counts) ∧ n1 < h2.length ∧ h.length ≤ n1 ∧ getCells h2 n1 (b.b.length * 3) = some (rows b.b) ∧ n1 ≠ n0
def k_impl_joinStates (F : Fun) : Prop := ∀ (x0 : TVec) (x1 : List TEntry) (x2 : TVec) (x3 : List TEntry) (b : T3 TVec (List TEntry) Int), p_impl_joinStates x0 x1 x2 x3 = some b → ∀ (h : Heap) (args : List V), snapA 9 false h args = some (encA (x0, x1, x2, x3)) → ∃ p, F none args h = some p ∧ oo_impl_joinStates b h p.1 p.2
set_option maxHeartbeats 10000000 in
theorem w_impl_joinStates {P : Program} {env : Env} {f_impl_StampLess : Nat} {f_impl_vecJoin : Nat}  (ep_impl_StampLess : env (2 * f_impl_StampLess) = pureFn true (FA fun a : TStamp × TStamp => p_impl_StampLess a.1 a.2)) (e_impl_vecJoin : k_impl_vecJoin (env (2 * f_impl_vecJoin + 1))) (x0 : TVec) (x1 : List TEntry) (x2 : TVec) (x3 : List TEntry) {b : T3 TVec (List TEntry) Int} (hp : p_impl_joinStates x0 x1 x2 x3 = some b) : R P env (c_impl_joinStates f_impl_StampLess f_impl_vecJoin) ((encA (x0, x1, x2, x3)).map ofI) [] (o_impl_joinStates b) := by
  refine R_of (by simp [c_impl_joinStates, encA]) ?_
  unfold c_impl_joinStates
  unfold p_impl_joinStates at hp
  obtain ⟨ee0, hee0, hp⟩ := bind_eq hp
  simp (disch := first | omega | (simp only [List.length_set, List.length_append, List.length_cons, List.length_nil, rows_len, zs]; first | done | omega)) only [ep_impl_StampLess, gs, reduceIte, reduceCtorEq, Nat.reduceAdd, Nat.reduceMul, Nat.reduceSub, Nat.reduceBEq, Nat.reduceEqDiff, Nat.reduceLeDiff, Nat.reduceLT, Nat.reduceGT, Int.reduceToNat, Int.reduceLT, Int.reduceLE, Int.reduceNeg, Int.reduceAdd, Int.reduceEq, Int.reduceNe]
  refine W_loopP 0 (fun s t h => match s with | (s0, s1, s2) => t 1 = .i (.sl 3 (x1.map enc)) ∧ t 3 = .i (.sl 3 (x3.map enc)) ∧ t 4 = .ptr 0 1 0 ∧ t 6 = .ptr 1 1 0 ∧ t 8 = .ptr 3 1 0 ∧ t 11 = .hsl 5 (s0.length * 3) 0 3 true s0.length ∧ t 12 = .i (.s (.int .i64 s1)) ∧ t 13 = .i (.s (.int .i64 s2)) ∧ getCells h 0 1 = some [.i (.sl 1 (x0.counts.map enc))] ∧ 0 < h.length ∧ getCells h 1 1 = some [.i (.sl 1 (x2.counts.map enc))] ∧ 1 < h.length ∧ getCells h 2 0 = some (rows ([] : List Int)) ∧ 2 < h.length ∧ getCells h 3 1 = some [.hsl 2 0 0 1 false 0] ∧ 3 < h.length ∧ getCells h 5 (s0.length * 3) = some (rows (s0 : List TEntry)) ∧ 5 < h.length) (RK [.cell 8 1 true, .tmp 9, .tmp 10] (o_impl_joinStates)) ?_ hee0 ?_ ?_
  · rintro ⟨s0, s1, s2⟩ ee tt0 hh0 ⟨ftt0_0, ftt0_1, ftt0_2, ftt0_3, ftt0_4, ftt0_5, ftt0_6, ftt0_7, ftt0_8, ftt0_9, ftt0_10, ftt0_11, ftt0_12, ftt0_13, ftt0_14, ftt0_15, ftt0_16, ftt0_17⟩ hp
    have ztt0_12 := len_rows ftt0_12
    simp only [zs] at ztt0_12
    rw [p_impl_joinStates_l0] at hp
    by_cases hb3 : (decide (s1 < (x1.length : Int))) = true
    · rw [if_t hb3] at hp
      by_cases hb4 : (decide (s2 = (x3.length : Int))) = true
      · rw [if_t hb4] at hp
        obtain ⟨v5, hv5, hp⟩ := bind_eq hp
        obtain ⟨v6, hv6, hp⟩ := bind_eq hp
        by_cases hb7 : (decide (v6 < v5.stamp.time)) = true
        · rw [if_t hb7] at hp
          obtain ⟨v8, hv8, hp⟩ := bind_eq hp
          obtain ⟨kv8, qv8, lv8⟩ := app_some hv8
          have rv8 : rows s0 ++ [.i (.s (.int .i64 v5.stamp.time)), .i (.s (.int .i64 v5.stamp.actor)), .i (.s (.string v5.text))] = rows v8 := by rw [qv8, rows_append]; rfl
          have mv8 : s0.length + 1 = v8.length := by simp at lv8; omega
          have nv8 : (s0.length + 1) * 32 ≤ 140737488355328 := by simp at kv8; omega
          have hp := Option.some.inj hp
          subst hp
          simp (disch := first | omega | (simp only [List.length_set, List.length_append, List.length_cons, List.length_nil, rows_len, zs]; first | done | omega)) only [ep_impl_StampLess, ftt0_0, ftt0_1, ftt0_2, ftt0_3, ftt0_4, ftt0_5, ftt0_6, ftt0_7, ftt0_8, ftt0_9, ftt0_10, ftt0_11, ftt0_12, ftt0_13, ftt0_14, ftt0_15, ftt0_16, ftt0_17, hb3, hb4, hv5, hv6, hb7, hv8, rv8, nv8, gs, reduceIte, reduceCtorEq, Nat.reduceAdd, Nat.reduceMul, Nat.reduceSub, Nat.reduceBEq, Nat.reduceEqDiff, Nat.reduceLeDiff, Nat.reduceLT, Nat.reduceGT, Int.reduceToNat, Int.reduceLT, Int.reduceLE, Int.reduceNeg, Int.reduceAdd, Int.reduceEq, Int.reduceNe] <;> omega
        · replace hb7 := eq_false_of_ne_true hb7
          rw [if_f hb7] at hp
          have hp := Option.some.inj hp
          subst hp
          simp (disch := first | omega | (simp only [List.length_set, List.length_append, List.length_cons, List.length_nil, rows_len, zs]; first | done | omega)) only [ep_impl_StampLess, ftt0_0, ftt0_1, ftt0_2, ftt0_3, ftt0_4, ftt0_5, ftt0_6, ftt0_7, ftt0_8, ftt0_9, ftt0_10, ftt0_11, ftt0_12, ftt0_13, ftt0_14, ftt0_15, ftt0_16, ftt0_17, hb3, hb4, hv5, hv6, hb7, gs, reduceIte, reduceCtorEq, Nat.reduceAdd, Nat.reduceMul, Nat.reduceSub, Nat.reduceBEq, Nat.reduceEqDiff, Nat.reduceLeDiff, Nat.reduceLT, Nat.reduceGT, Int.reduceToNat, Int.reduceLT, Int.reduceLE, Int.reduceNeg, Int.reduceAdd, Int.reduceEq, Int.reduceNe] <;> omega
      · replace hb4 := eq_false_of_ne_true hb4
        rw [if_f hb4] at hp
        obtain ⟨v9, hv9, hp⟩ := bind_eq hp
        obtain ⟨v10, hv10, hp⟩ := bind_eq hp
        obtain ⟨v11, hv11, hp⟩ := bind_eq hp
        by_cases hb12 : (v11) = true
        · rw [if_t hb12] at hp
          obtain ⟨v13, hv13, hp⟩ := bind_eq hp
          by_cases hb14 : (decide (v13 < v9.stamp.time)) = true
          · rw [if_t hb14] at hp
            obtain ⟨v15, hv15, hp⟩ := bind_eq hp
            obtain ⟨kv15, qv15, lv15⟩ := app_some hv15
            have rv15 : rows s0 ++ [.i (.s (.int .i64 v9.stamp.time)), .i (.s (.int .i64 v9.stamp.actor)), .i (.s (.string v9.text))] = rows v15 := by rw [qv15, rows_append]; rfl
            have mv15 : s0.length + 1 = v15.length := by simp at lv15; omega
            have nv15 : (s0.length + 1) * 32 ≤ 140737488355328 := by simp at kv15; omega
            have hp := Option.some.inj hp
            subst hp
            simp (disch := first | omega | (simp only [List.length_set, List.length_append, List.length_cons, List.length_nil, rows_len, zs]; first | done | omega)) only [ep_impl_StampLess, ftt0_0, ftt0_1, ftt0_2, ftt0_3, ftt0_4, ftt0_5, ftt0_6, ftt0_7, ftt0_8, ftt0_9, ftt0_10, ftt0_11, ftt0_12, ftt0_13, ftt0_14, ftt0_15, ftt0_16, ftt0_17, hb3, hb4, hv9, hv10, hv11, hb12, hv13, hb14, hv15, rv15, nv15, gs, reduceIte, reduceCtorEq, Nat.reduceAdd, Nat.reduceMul, Nat.reduceSub, Nat.reduceBEq, Nat.reduceEqDiff, Nat.reduceLeDiff, Nat.reduceLT, Nat.reduceGT, Int.reduceToNat, Int.reduceLT, Int.reduceLE, Int.reduceNeg, Int.reduceAdd, Int.reduceEq, Int.reduceNe] <;> omega
          · replace hb14 := eq_false_of_ne_true hb14
            rw [if_f hb14] at hp
            have hp := Option.some.inj hp
            subst hp
            simp (disch := first | omega | (simp only [List.length_set, List.length_append, List.length_cons, List.length_nil, rows_len, zs]; first | done | omega)) only [ep_impl_StampLess, ftt0_0, ftt0_1, ftt0_2, ftt0_3, ftt0_4, ftt0_5, ftt0_6, ftt0_7, ftt0_8, ftt0_9, ftt0_10, ftt0_11, ftt0_12, ftt0_13, ftt0_14, ftt0_15, ftt0_16, ftt0_17, hb3, hb4, hv9, hv10, hv11, hb12, hv13, hb14, gs, reduceIte, reduceCtorEq, Nat.reduceAdd, Nat.reduceMul, Nat.reduceSub, Nat.reduceBEq, Nat.reduceEqDiff, Nat.reduceLeDiff, Nat.reduceLT, Nat.reduceGT, Int.reduceToNat, Int.reduceLT, Int.reduceLE, Int.reduceNeg, Int.reduceAdd, Int.reduceEq, Int.reduceNe] <;> omega
        · replace hb12 := eq_false_of_ne_true hb12
          rw [if_f hb12] at hp
          by_cases hb16 : (decide (s1 = (x1.length : Int))) = true
          · rw [if_t hb16] at hp
            obtain ⟨v17, hv17, hp⟩ := bind_eq hp
            by_cases hb18 : (decide (v17 < v10.stamp.time)) = true
            · rw [if_t hb18] at hp
              obtain ⟨v19, hv19, hp⟩ := bind_eq hp
              obtain ⟨kv19, qv19, lv19⟩ := app_some hv19
              have rv19 : rows s0 ++ [.i (.s (.int .i64 v10.stamp.time)), .i (.s (.int .i64 v10.stamp.actor)), .i (.s (.string v10.text))] = rows v19 := by rw [qv19, rows_append]; rfl
              have mv19 : s0.length + 1 = v19.length := by simp at lv19; omega
              have nv19 : (s0.length + 1) * 32 ≤ 140737488355328 := by simp at kv19; omega
              have hp := Option.some.inj hp
              subst hp
              simp (disch := first | omega | (simp only [List.length_set, List.length_append, List.length_cons, List.length_nil, rows_len, zs]; first | done | omega)) only [ep_impl_StampLess, ftt0_0, ftt0_1, ftt0_2, ftt0_3, ftt0_4, ftt0_5, ftt0_6, ftt0_7, ftt0_8, ftt0_9, ftt0_10, ftt0_11, ftt0_12, ftt0_13, ftt0_14, ftt0_15, ftt0_16, ftt0_17, hb3, hb4, hv9, hv10, hv11, hb12, hb16, hv17, hb18, hv19, rv19, nv19, gs, reduceIte, reduceCtorEq, Nat.reduceAdd, Nat.reduceMul, Nat.reduceSub, Nat.reduceBEq, Nat.reduceEqDiff, Nat.reduceLeDiff, Nat.reduceLT, Nat.reduceGT, Int.reduceToNat, Int.reduceLT, Int.reduceLE, Int.reduceNeg, Int.reduceAdd, Int.reduceEq, Int.reduceNe] <;> omega
            · replace hb18 := eq_false_of_ne_true hb18
              rw [if_f hb18] at hp
              have hp := Option.some.inj hp
              subst hp
              simp (disch := first | omega | (simp only [List.length_set, List.length_append, List.length_cons, List.length_nil, rows_len, zs]; first | done | omega)) only [ep_impl_StampLess, ftt0_0, ftt0_1, ftt0_2, ftt0_3, ftt0_4, ftt0_5, ftt0_6, ftt0_7, ftt0_8, ftt0_9, ftt0_10, ftt0_11, ftt0_12, ftt0_13, ftt0_14, ftt0_15, ftt0_16, ftt0_17, hb3, hb4, hv9, hv10, hv11, hb12, hb16, hv17, hb18, gs, reduceIte, reduceCtorEq, Nat.reduceAdd, Nat.reduceMul, Nat.reduceSub, Nat.reduceBEq, Nat.reduceEqDiff, Nat.reduceLeDiff, Nat.reduceLT, Nat.reduceGT, Int.reduceToNat, Int.reduceLT, Int.reduceLE, Int.reduceNeg, Int.reduceAdd, Int.reduceEq, Int.reduceNe] <;> omega
          · replace hb16 := eq_false_of_ne_true hb16
            rw [if_f hb16] at hp
            obtain ⟨v20, hv20, hp⟩ := bind_eq hp
            by_cases hb21 : (v20) = true
            · rw [if_t hb21] at hp
              obtain ⟨v22, hv22, hp⟩ := bind_eq hp
              by_cases hb23 : (decide (v22 < v10.stamp.time)) = true
              · rw [if_t hb23] at hp
                obtain ⟨v24, hv24, hp⟩ := bind_eq hp
                obtain ⟨kv24, qv24, lv24⟩ := app_some hv24
                have rv24 : rows s0 ++ [.i (.s (.int .i64 v10.stamp.time)), .i (.s (.int .i64 v10.stamp.actor)), .i (.s (.string v10.text))] = rows v24 := by rw [qv24, rows_append]; rfl
                have mv24 : s0.length + 1 = v24.length := by simp at lv24; omega
                have nv24 : (s0.length + 1) * 32 ≤ 140737488355328 := by simp at kv24; omega
                have hp := Option.some.inj hp
                subst hp
                simp (disch := first | omega | (simp only [List.length_set, List.length_append, List.length_cons, List.length_nil, rows_len, zs]; first | done | omega)) only [ep_impl_StampLess, ftt0_0, ftt0_1, ftt0_2, ftt0_3, ftt0_4, ftt0_5, ftt0_6, ftt0_7, ftt0_8, ftt0_9, ftt0_10, ftt0_11, ftt0_12, ftt0_13, ftt0_14, ftt0_15, ftt0_16, ftt0_17, hb3, hb4, hv9, hv10, hv11, hb12, hb16, hv20, hb21, hv22, hb23, hv24, rv24, nv24, gs, reduceIte, reduceCtorEq, Nat.reduceAdd, Nat.reduceMul, Nat.reduceSub, Nat.reduceBEq, Nat.reduceEqDiff, Nat.reduceLeDiff, Nat.reduceLT, Nat.reduceGT, Int.reduceToNat, Int.reduceLT, Int.reduceLE, Int.reduceNeg, Int.reduceAdd, Int.reduceEq, Int.reduceNe] <;> omega
              · replace hb23 := eq_false_of_ne_true hb23
                rw [if_f hb23] at hp
                have hp := Option.some.inj hp
                subst hp
                simp (disch := first | omega | (simp only [List.length_set, List.length_append, List.length_cons, List.length_nil, rows_len, zs]; first | done | omega)) only [ep_impl_StampLess, ftt0_0, ftt0_1, ftt0_2, ftt0_3, ftt0_4, ftt0_5, ftt0_6, ftt0_7, ftt0_8, ftt0_9, ftt0_10, ftt0_11, ftt0_12, ftt0_13, ftt0_14, ftt0_15, ftt0_16, ftt0_17, hb3, hb4, hv9, hv10, hv11, hb12, hb16, hv20, hb21, hv22, hb23, gs, reduceIte, reduceCtorEq, Nat.reduceAdd, Nat.reduceMul, Nat.reduceSub, Nat.reduceBEq, Nat.reduceEqDiff, Nat.reduceLeDiff, Nat.reduceLT, Nat.reduceGT, Int.reduceToNat, Int.reduceLT, Int.reduceLE, Int.reduceNeg, Int.reduceAdd, Int.reduceEq, Int.reduceNe] <;> omega
            · replace hb21 := eq_false_of_ne_true hb21
              rw [if_f hb21] at hp
              by_cases hb25 : ((Op.bytesLess v10.text.toList v9.text.toList || decide (v10.text = v9.text))) = true
              · rw [if_t hb25] at hp
                obtain ⟨v26, hv26, hp⟩ := bind_eq hp
                obtain ⟨kv26, qv26, lv26⟩ := app_some hv26
                have rv26 : rows s0 ++ [.i (.s (.int .i64 v9.stamp.time)), .i (.s (.int .i64 v9.stamp.actor)), .i (.s (.string v9.text))] = rows v26 := by rw [qv26, rows_append]; rfl
                have mv26 : s0.length + 1 = v26.length := by simp at lv26; omega
                have nv26 : (s0.length + 1) * 32 ≤ 140737488355328 := by simp at kv26; omega
                have hp := Option.some.inj hp
                subst hp
                simp (disch := first | omega | (simp only [List.length_set, List.length_append, List.length_cons, List.length_nil, rows_len, zs]; first | done | omega)) only [ep_impl_StampLess, ftt0_0, ftt0_1, ftt0_2, ftt0_3, ftt0_4, ftt0_5, ftt0_6, ftt0_7, ftt0_8, ftt0_9, ftt0_10, ftt0_11, ftt0_12, ftt0_13, ftt0_14, ftt0_15, ftt0_16, ftt0_17, hb3, hb4, hv9, hv10, hv11, hb12, hb16, hv20, hb21, hb25, hv26, rv26, nv26, gs, reduceIte, reduceCtorEq, Nat.reduceAdd, Nat.reduceMul, Nat.reduceSub, Nat.reduceBEq, Nat.reduceEqDiff, Nat.reduceLeDiff, Nat.reduceLT, Nat.reduceGT, Int.reduceToNat, Int.reduceLT, Int.reduceLE, Int.reduceNeg, Int.reduceAdd, Int.reduceEq, Int.reduceNe] <;> omega
              · replace hb25 := eq_false_of_ne_true hb25
                rw [if_f hb25] at hp
                obtain ⟨v27, hv27, hp⟩ := bind_eq hp
                obtain ⟨kv27, qv27, lv27⟩ := app_some hv27
                have rv27 : rows s0 ++ [.i (.s (.int .i64 v10.stamp.time)), .i (.s (.int .i64 v10.stamp.actor)), .i (.s (.string v10.text))] = rows v27 := by rw [qv27, rows_append]; rfl
                have mv27 : s0.length + 1 = v27.length := by simp at lv27; omega
                have nv27 : (s0.length + 1) * 32 ≤ 140737488355328 := by simp at kv27; omega
                have hp := Option.some.inj hp
                subst hp
                simp (disch := first | omega | (simp only [List.length_set, List.length_append, List.length_cons, List.length_nil, rows_len, zs]; first | done | omega)) only [ep_impl_StampLess, ftt0_0, ftt0_1, ftt0_2, ftt0_3, ftt0_4, ftt0_5, ftt0_6, ftt0_7, ftt0_8, ftt0_9, ftt0_10, ftt0_11, ftt0_12, ftt0_13, ftt0_14, ftt0_15, ftt0_16, ftt0_17, hb3, hb4, hv9, hv10, hv11, hb12, hb16, hv20, hb21, hb25, hv27, rv27, nv27, gs, reduceIte, reduceCtorEq, Nat.reduceAdd, Nat.reduceMul, Nat.reduceSub, Nat.reduceBEq, Nat.reduceEqDiff, Nat.reduceLeDiff, Nat.reduceLT, Nat.reduceGT, Int.reduceToNat, Int.reduceLT, Int.reduceLE, Int.reduceNeg, Int.reduceAdd, Int.reduceEq, Int.reduceNe] <;> omega
    · replace hb3 := eq_false_of_ne_true hb3
      rw [if_f hb3] at hp
      by_cases hb28 : (decide (s2 < (x3.length : Int))) = true
      · rw [if_t hb28] at hp
        by_cases hb29 : (decide (s2 = (x3.length : Int))) = true
        · rw [if_t hb29] at hp
          obtain ⟨v30, hv30, hp⟩ := bind_eq hp
          obtain ⟨v31, hv31, hp⟩ := bind_eq hp
          by_cases hb32 : (decide (v31 < v30.stamp.time)) = true
          · rw [if_t hb32] at hp
            obtain ⟨v33, hv33, hp⟩ := bind_eq hp
            obtain ⟨kv33, qv33, lv33⟩ := app_some hv33
            have rv33 : rows s0 ++ [.i (.s (.int .i64 v30.stamp.time)), .i (.s (.int .i64 v30.stamp.actor)), .i (.s (.string v30.text))] = rows v33 := by rw [qv33, rows_append]; rfl
            have mv33 : s0.length + 1 = v33.length := by simp at lv33; omega
            have nv33 : (s0.length + 1) * 32 ≤ 140737488355328 := by simp at kv33; omega
            have hp := Option.some.inj hp
            subst hp
            simp (disch := first | omega | (simp only [List.length_set, List.length_append, List.length_cons, List.length_nil, rows_len, zs]; first | done | omega)) only [ep_impl_StampLess, ftt0_0, ftt0_1, ftt0_2, ftt0_3, ftt0_4, ftt0_5, ftt0_6, ftt0_7, ftt0_8, ftt0_9, ftt0_10, ftt0_11, ftt0_12, ftt0_13, ftt0_14, ftt0_15, ftt0_16, ftt0_17, hb3, hb28, hb29, hv30, hv31, hb32, hv33, rv33, nv33, gs, reduceIte, reduceCtorEq, Nat.reduceAdd, Nat.reduceMul, Nat.reduceSub, Nat.reduceBEq, Nat.reduceEqDiff, Nat.reduceLeDiff, Nat.reduceLT, Nat.reduceGT, Int.reduceToNat, Int.reduceLT, Int.reduceLE, Int.reduceNeg, Int.reduceAdd, Int.reduceEq, Int.reduceNe] <;> omega
          · replace hb32 := eq_false_of_ne_true hb32
            rw [if_f hb32] at hp
            have hp := Option.some.inj hp
            subst hp
            simp (disch := first | omega | (simp only [List.length_set, List.length_append, List.length_cons, List.length_nil, rows_len, zs]; first | done | omega)) only [ep_impl_StampLess, ftt0_0, ftt0_1, ftt0_2, ftt0_3, ftt0_4, ftt0_5, ftt0_6, ftt0_7, ftt0_8, ftt0_9, ftt0_10, ftt0_11, ftt0_12, ftt0_13, ftt0_14, ftt0_15, ftt0_16, ftt0_17, hb3, hb28, hb29, hv30, hv31, hb32, gs, reduceIte, reduceCtorEq, Nat.reduceAdd, Nat.reduceMul, Nat.reduceSub, Nat.reduceBEq, Nat.reduceEqDiff, Nat.reduceLeDiff, Nat.reduceLT, Nat.reduceGT, Int.reduceToNat, Int.reduceLT, Int.reduceLE, Int.reduceNeg, Int.reduceAdd, Int.reduceEq, Int.reduceNe] <;> omega
        · replace hb29 := eq_false_of_ne_true hb29
          rw [if_f hb29] at hp
          by_cases hb34 : (decide (s1 = (x1.length : Int))) = true
          · rw [if_t hb34] at hp
            obtain ⟨v35, hv35, hp⟩ := bind_eq hp
            obtain ⟨v36, hv36, hp⟩ := bind_eq hp
            by_cases hb37 : (decide (v36 < v35.stamp.time)) = true
            · rw [if_t hb37] at hp
              obtain ⟨v38, hv38, hp⟩ := bind_eq hp
              obtain ⟨kv38, qv38, lv38⟩ := app_some hv38
              have rv38 : rows s0 ++ [.i (.s (.int .i64 v35.stamp.time)), .i (.s (.int .i64 v35.stamp.actor)), .i (.s (.string v35.text))] = rows v38 := by rw [qv38, rows_append]; rfl
              have mv38 : s0.length + 1 = v38.length := by simp at lv38; omega
              have nv38 : (s0.length + 1) * 32 ≤ 140737488355328 := by simp at kv38; omega
              have hp := Option.some.inj hp
              subst hp
              simp (disch := first | omega | (simp only [List.length_set, List.length_append, List.length_cons, List.length_nil, rows_len, zs]; first | done | omega)) only [ep_impl_StampLess, ftt0_0, ftt0_1, ftt0_2, ftt0_3, ftt0_4, ftt0_5, ftt0_6, ftt0_7, ftt0_8, ftt0_9, ftt0_10, ftt0_11, ftt0_12, ftt0_13, ftt0_14, ftt0_15, ftt0_16, ftt0_17, hb3, hb28, hb29, hb34, hv35, hv36, hb37, hv38, rv38, nv38, gs, reduceIte, reduceCtorEq, Nat.reduceAdd, Nat.reduceMul, Nat.reduceSub, Nat.reduceBEq, Nat.reduceEqDiff, Nat.reduceLeDiff, Nat.reduceLT, Nat.reduceGT, Int.reduceToNat, Int.reduceLT, Int.reduceLE, Int.reduceNeg, Int.reduceAdd, Int.reduceEq, Int.reduceNe] <;> omega
            · replace hb37 := eq_false_of_ne_true hb37
              rw [if_f hb37] at hp
              have hp := Option.some.inj hp
              subst hp
              simp (disch := first | omega | (simp only [List.length_set, List.length_append, List.length_cons, List.length_nil, rows_len, zs]; first | done | omega)) only [ep_impl_StampLess, ftt0_0, ftt0_1, ftt0_2, ftt0_3, ftt0_4, ftt0_5, ftt0_6, ftt0_7, ftt0_8, ftt0_9, ftt0_10, ftt0_11, ftt0_12, ftt0_13, ftt0_14, ftt0_15, ftt0_16, ftt0_17, hb3, hb28, hb29, hb34, hv35, hv36, hb37, gs, reduceIte, reduceCtorEq, Nat.reduceAdd, Nat.reduceMul, Nat.reduceSub, Nat.reduceBEq, Nat.reduceEqDiff, Nat.reduceLeDiff, Nat.reduceLT, Nat.reduceGT, Int.reduceToNat, Int.reduceLT, Int.reduceLE, Int.reduceNeg, Int.reduceAdd, Int.reduceEq, Int.reduceNe] <;> omega
          · replace hb34 := eq_false_of_ne_true hb34
            rw [if_f hb34] at hp
            obtain ⟨v39, hv39, hp⟩ := bind_eq hp
            obtain ⟨v40, hv40, hp⟩ := bind_eq hp
            obtain ⟨v41, hv41, hp⟩ := bind_eq hp
            by_cases hb42 : (v41) = true
            · rw [if_t hb42] at hp
              obtain ⟨v43, hv43, hp⟩ := bind_eq hp
              by_cases hb44 : (decide (v43 < v39.stamp.time)) = true
              · rw [if_t hb44] at hp
                obtain ⟨v45, hv45, hp⟩ := bind_eq hp
                obtain ⟨kv45, qv45, lv45⟩ := app_some hv45
                have rv45 : rows s0 ++ [.i (.s (.int .i64 v39.stamp.time)), .i (.s (.int .i64 v39.stamp.actor)), .i (.s (.string v39.text))] = rows v45 := by rw [qv45, rows_append]; rfl
                have mv45 : s0.length + 1 = v45.length := by simp at lv45; omega
                have nv45 : (s0.length + 1) * 32 ≤ 140737488355328 := by simp at kv45; omega
                have hp := Option.some.inj hp
                subst hp
                simp (disch := first | omega | (simp only [List.length_set, List.length_append, List.length_cons, List.length_nil, rows_len, zs]; first | done | omega)) only [ep_impl_StampLess, ftt0_0, ftt0_1, ftt0_2, ftt0_3, ftt0_4, ftt0_5, ftt0_6, ftt0_7, ftt0_8, ftt0_9, ftt0_10, ftt0_11, ftt0_12, ftt0_13, ftt0_14, ftt0_15, ftt0_16, ftt0_17, hb3, hb28, hb29, hb34, hv39, hv40, hv41, hb42, hv43, hb44, hv45, rv45, nv45, gs, reduceIte, reduceCtorEq, Nat.reduceAdd, Nat.reduceMul, Nat.reduceSub, Nat.reduceBEq, Nat.reduceEqDiff, Nat.reduceLeDiff, Nat.reduceLT, Nat.reduceGT, Int.reduceToNat, Int.reduceLT, Int.reduceLE, Int.reduceNeg, Int.reduceAdd, Int.reduceEq, Int.reduceNe] <;> omega
              · replace hb44 := eq_false_of_ne_true hb44
                rw [if_f hb44] at hp
                have hp := Option.some.inj hp
                subst hp
                simp (disch := first | omega | (simp only [List.length_set, List.length_append, List.length_cons, List.length_nil, rows_len, zs]; first | done | omega)) only [ep_impl_StampLess, ftt0_0, ftt0_1, ftt0_2, ftt0_3, ftt0_4, ftt0_5, ftt0_6, ftt0_7, ftt0_8, ftt0_9, ftt0_10, ftt0_11, ftt0_12, ftt0_13, ftt0_14, ftt0_15, ftt0_16, ftt0_17, hb3, hb28, hb29, hb34, hv39, hv40, hv41, hb42, hv43, hb44, gs, reduceIte, reduceCtorEq, Nat.reduceAdd, Nat.reduceMul, Nat.reduceSub, Nat.reduceBEq, Nat.reduceEqDiff, Nat.reduceLeDiff, Nat.reduceLT, Nat.reduceGT, Int.reduceToNat, Int.reduceLT, Int.reduceLE, Int.reduceNeg, Int.reduceAdd, Int.reduceEq, Int.reduceNe] <;> omega
            · replace hb42 := eq_false_of_ne_true hb42
              rw [if_f hb42] at hp
              by_cases hb46 : ((Op.bytesLess v39.text.toList v40.text.toList || decide (v39.text = v40.text))) = true
              · rw [if_t hb46] at hp
                obtain ⟨v47, hv47, hp⟩ := bind_eq hp
                obtain ⟨kv47, qv47, lv47⟩ := app_some hv47
                have rv47 : rows s0 ++ [.i (.s (.int .i64 v40.stamp.time)), .i (.s (.int .i64 v40.stamp.actor)), .i (.s (.string v40.text))] = rows v47 := by rw [qv47, rows_append]; rfl
                have mv47 : s0.length + 1 = v47.length := by simp at lv47; omega
                have nv47 : (s0.length + 1) * 32 ≤ 140737488355328 := by simp at kv47; omega
                have hp := Option.some.inj hp
                subst hp
                simp (disch := first | omega | (simp only [List.length_set, List.length_append, List.length_cons, List.length_nil, rows_len, zs]; first | done | omega)) only [ep_impl_StampLess, ftt0_0, ftt0_1, ftt0_2, ftt0_3, ftt0_4, ftt0_5, ftt0_6, ftt0_7, ftt0_8, ftt0_9, ftt0_10, ftt0_11, ftt0_12, ftt0_13, ftt0_14, ftt0_15, ftt0_16, ftt0_17, hb3, hb28, hb29, hb34, hv39, hv40, hv41, hb42, hb46, hv47, rv47, nv47, gs, reduceIte, reduceCtorEq, Nat.reduceAdd, Nat.reduceMul, Nat.reduceSub, Nat.reduceBEq, Nat.reduceEqDiff, Nat.reduceLeDiff, Nat.reduceLT, Nat.reduceGT, Int.reduceToNat, Int.reduceLT, Int.reduceLE, Int.reduceNeg, Int.reduceAdd, Int.reduceEq, Int.reduceNe] <;> omega
              · replace hb46 := eq_false_of_ne_true hb46
                rw [if_f hb46] at hp
                obtain ⟨v48, hv48, hp⟩ := bind_eq hp
                obtain ⟨kv48, qv48, lv48⟩ := app_some hv48
                have rv48 : rows s0 ++ [.i (.s (.int .i64 v39.stamp.time)), .i (.s (.int .i64 v39.stamp.actor)), .i (.s (.string v39.text))] = rows v48 := by rw [qv48, rows_append]; rfl
                have mv48 : s0.length + 1 = v48.length := by simp at lv48; omega
                have nv48 : (s0.length + 1) * 32 ≤ 140737488355328 := by simp at kv48; omega
                have hp := Option.some.inj hp
                subst hp
                simp (disch := first | omega | (simp only [List.length_set, List.length_append, List.length_cons, List.length_nil, rows_len, zs]; first | done | omega)) only [ep_impl_StampLess, ftt0_0, ftt0_1, ftt0_2, ftt0_3, ftt0_4, ftt0_5, ftt0_6, ftt0_7, ftt0_8, ftt0_9, ftt0_10, ftt0_11, ftt0_12, ftt0_13, ftt0_14, ftt0_15, ftt0_16, ftt0_17, hb3, hb28, hb29, hb34, hv39, hv40, hv41, hb42, hb46, hv48, rv48, nv48, gs, reduceIte, reduceCtorEq, Nat.reduceAdd, Nat.reduceMul, Nat.reduceSub, Nat.reduceBEq, Nat.reduceEqDiff, Nat.reduceLeDiff, Nat.reduceLT, Nat.reduceGT, Int.reduceToNat, Int.reduceLT, Int.reduceLE, Int.reduceNeg, Int.reduceAdd, Int.reduceEq, Int.reduceNe] <;> omega
      · replace hb28 := eq_false_of_ne_true hb28
        rw [if_f hb28] at hp
        have hp := Option.some.inj hp
        subst hp
        simp (disch := first | omega | (simp only [List.length_set, List.length_append, List.length_cons, List.length_nil, rows_len, zs]; first | done | omega)) only [ep_impl_StampLess, ftt0_0, ftt0_1, ftt0_2, ftt0_3, ftt0_4, ftt0_5, ftt0_6, ftt0_7, ftt0_8, ftt0_9, ftt0_10, ftt0_11, ftt0_12, ftt0_13, ftt0_14, ftt0_15, ftt0_16, ftt0_17, hb3, hb28, gs, reduceIte, reduceCtorEq, Nat.reduceAdd, Nat.reduceMul, Nat.reduceSub, Nat.reduceBEq, Nat.reduceEqDiff, Nat.reduceLeDiff, Nat.reduceLT, Nat.reduceGT, Int.reduceToNat, Int.reduceLT, Int.reduceLE, Int.reduceNeg, Int.reduceAdd, Int.reduceEq, Int.reduceNe] <;> omega
  · simp (disch := first | omega | (simp only [List.length_set, List.length_append, List.length_cons, List.length_nil, rows_len, zs]; first | done | omega)) only [ep_impl_StampLess, gs, reduceIte, reduceCtorEq, Nat.reduceAdd, Nat.reduceMul, Nat.reduceSub, Nat.reduceBEq, Nat.reduceEqDiff, Nat.reduceLeDiff, Nat.reduceLT, Nat.reduceGT, Int.reduceToNat, Int.reduceLT, Int.reduceLE, Int.reduceNeg, Int.reduceAdd, Int.reduceEq, Int.reduceNe] <;> omega
  · intro x tt1 hh1 hx
    rcases ee0 with ⟨o49, o50, o51⟩ | r
    · obtain ⟨rfl, ftt1_0, ftt1_1, ftt1_2, ftt1_3, ftt1_4, ftt1_5, ftt1_6, ftt1_7, ftt1_8, ftt1_9, ftt1_10, ftt1_11, ftt1_12, ftt1_13, ftt1_14, ftt1_15, ftt1_16, ftt1_17⟩ := hx
      have ztt1_12 := len_rows ftt1_12
      simp only [zs] at ztt1_12
      dsimp only at hp
      by_cases hb52 : (decide (256 < (o49.length : Int))) = true
      · rw [if_t hb52] at hp
        have hp := Option.some.inj hp
        subst hp
        simp (disch := first | omega | (simp only [List.length_set, List.length_append, List.length_cons, List.length_nil, rows_len, zs]; first | done | omega)) only [ep_impl_StampLess, ftt1_0, ftt1_1, ftt1_2, ftt1_3, ftt1_4, ftt1_5, ftt1_6, ftt1_7, ftt1_8, ftt1_9, ftt1_10, ftt1_11, ftt1_12, ftt1_13, ftt1_14, ftt1_15, ftt1_16, ftt1_17, hb52, gs, reduceIte, reduceCtorEq, Nat.reduceAdd, Nat.reduceMul, Nat.reduceSub, Nat.reduceBEq, Nat.reduceEqDiff, Nat.reduceLeDiff, Nat.reduceLT, Nat.reduceGT, Int.reduceToNat, Int.reduceLT, Int.reduceLE, Int.reduceNeg, Int.reduceAdd, Int.reduceEq, Int.reduceNe]
        refine ⟨hh1.length, hh1.length + 1, ?_⟩
        simp (disch := first | omega | (simp only [List.length_set, List.length_append, List.length_cons, List.length_nil, rows_len, zs]; first | done | omega)) only [ep_impl_StampLess, ftt1_0, ftt1_1, ftt1_2, ftt1_3, ftt1_4, ftt1_5, ftt1_6, ftt1_7, ftt1_8, ftt1_9, ftt1_10, ftt1_11, ftt1_12, ftt1_13, ftt1_14, ftt1_15, ftt1_16, ftt1_17, hb52, o_impl_joinStates, gs, reduceIte, reduceCtorEq, Nat.reduceAdd, Nat.reduceMul, Nat.reduceSub, Nat.reduceBEq, Nat.reduceEqDiff, Nat.reduceLeDiff, Nat.reduceLT, Nat.reduceGT, Int.reduceToNat, Int.reduceLT, Int.reduceLE, Int.reduceNeg, Int.reduceAdd, Int.reduceEq, Int.reduceNe] <;> omega
      · replace hb52 := eq_false_of_ne_true hb52
        rw [if_f hb52] at hp
        obtain ⟨v53, hv53, hp⟩ := bind_eq hp
        simp (disch := first | omega | (simp only [List.length_set, List.length_append, List.length_cons, List.length_nil, rows_len, zs]; first | done | omega)) only [ep_impl_StampLess, ftt1_0, ftt1_1, ftt1_2, ftt1_3, ftt1_4, ftt1_5, ftt1_6, ftt1_7, ftt1_8, ftt1_9, ftt1_10, ftt1_11, ftt1_12, ftt1_13, ftt1_14, ftt1_15, ftt1_16, ftt1_17, hb52, gs, reduceIte, reduceCtorEq, Nat.reduceAdd, Nat.reduceMul, Nat.reduceSub, Nat.reduceBEq, Nat.reduceEqDiff, Nat.reduceLeDiff, Nat.reduceLT, Nat.reduceGT, Int.reduceToNat, Int.reduceLT, Int.reduceLE, Int.reduceNeg, Int.reduceAdd, Int.reduceEq, Int.reduceNe]
        refine call_f (fun h => getCells h 0 1 = some [.i (.sl 1 (x0.counts.map enc))] ∧ 0 < h.length ∧ getCells h 1 1 = some [.i (.sl 1 (x2.counts.map enc))] ∧ 1 < h.length ∧ getCells h 2 0 = some [] ∧ 2 < h.length ∧ getCells h 3 1 = some [.hsl 2 0 0 1 false 0] ∧ 3 < h.length ∧ getCells h 5 (o49.length * 3) = some (rows (o49 : List TEntry)) ∧ 5 < h.length) (fun h v h2 => oo_impl_vecJoin v53 h v h2) ?_ ?_ ?_
        · simp (disch := first | omega | (simp only [List.length_set, List.length_append, List.length_cons, List.length_nil, rows_len, zs]; first | done | omega)) only [ep_impl_StampLess, ftt1_0, ftt1_1, ftt1_2, ftt1_3, ftt1_4, ftt1_5, ftt1_6, ftt1_7, ftt1_8, ftt1_9, ftt1_10, ftt1_11, ftt1_12, ftt1_13, ftt1_14, ftt1_15, ftt1_16, ftt1_17, hb52, hv53, gs, reduceIte, reduceCtorEq, Nat.reduceAdd, Nat.reduceMul, Nat.reduceSub, Nat.reduceBEq, Nat.reduceEqDiff, Nat.reduceLeDiff, Nat.reduceLT, Nat.reduceGT, Int.reduceToNat, Int.reduceLT, Int.reduceLE, Int.reduceNeg, Int.reduceAdd, Int.reduceEq, Int.reduceNe] <;> omega
        · rintro h ⟨c2_0, c2_1, c2_2, c2_3, c2_4, c2_5, c2_6, c2_7, c2_8, c2_9⟩
          exact e_impl_vecJoin _ _ _ hv53 h _ (by simp (disch := first | omega | (simp only [List.length_set, List.length_append, List.length_cons, List.length_nil, rows_len, zs]; first | done | omega)) only [ep_impl_StampLess, ftt1_0, ftt1_1, ftt1_2, ftt1_3, ftt1_4, ftt1_5, ftt1_6, ftt1_7, ftt1_8, ftt1_9, ftt1_10, ftt1_11, ftt1_12, ftt1_13, ftt1_14, ftt1_15, ftt1_16, ftt1_17, hb52, hv53, c2_0, c2_1, c2_2, c2_3, c2_4, c2_5, c2_6, c2_7, c2_8, c2_9, gs, reduceIte, reduceCtorEq, Nat.reduceAdd, Nat.reduceMul, Nat.reduceSub, Nat.reduceBEq, Nat.reduceEqDiff, Nat.reduceLeDiff, Nat.reduceLT, Nat.reduceGT, Int.reduceToNat, Int.reduceLT, Int.reduceLE, Int.reduceNeg, Int.reduceAdd, Int.reduceEq, Int.reduceNe])
        · rintro h v hh2 ⟨c2_0, c2_1, c2_2, c2_3, c2_4, c2_5, c2_6, c2_7, c2_8, c2_9⟩ hpost
          obtain ⟨kk2, nb2_0, rfl, lnb2_0, gnb2_0, wnb2_0⟩ := hpost
          have d2_0 : getCells hh2 0 1 = some [.i (.sl 1 (x0.counts.map enc))] := (keep_get kk2 c2_1 (by first | (simp; done) | (simp; omega))).trans c2_0
          have d2_0l := keep_lt kk2 c2_1
          have d2_1 : getCells hh2 1 1 = some [.i (.sl 1 (x2.counts.map enc))] := (keep_get kk2 c2_3 (by first | (simp; done) | (simp; omega))).trans c2_2
          have d2_1l := keep_lt kk2 c2_3
          have d2_2 : getCells hh2 2 0 = some [] := (keep_get kk2 c2_5 (by first | (simp; done) | (simp; omega))).trans c2_4
          have d2_2l := keep_lt kk2 c2_5
          have d2_3 : getCells hh2 3 1 = some [.hsl 2 0 0 1 false 0] := (keep_get kk2 c2_7 (by first | (simp; done) | (simp; omega))).trans c2_6
          have d2_3l := keep_lt kk2 c2_7
          have d2_4 : getCells hh2 5 (o49.length * 3) = some (rows (o49 : List TEntry)) := (keep_get kk2 c2_9 (by first | (simp; done) | (simp; omega))).trans c2_8
          have d2_4l := keep_lt kk2 c2_9
          have d2_5 := wnb2_0
          have hp := Option.some.inj hp
          subst hp
          simp (disch := first | omega | (simp only [List.length_set, List.length_append, List.length_cons, List.length_nil, rows_len, zs]; first | done | omega)) only [ep_impl_StampLess, ftt1_0, ftt1_1, ftt1_2, ftt1_3, ftt1_4, ftt1_5, ftt1_6, ftt1_7, ftt1_8, ftt1_9, ftt1_10, ftt1_11, ftt1_12, ftt1_13, ftt1_14, ftt1_15, ftt1_16, ftt1_17, hb52, hv53, d2_0, d2_1, d2_2, d2_3, d2_4, d2_5, gs, reduceIte, reduceCtorEq, Nat.reduceAdd, Nat.reduceMul, Nat.reduceSub, Nat.reduceBEq, Nat.reduceEqDiff, Nat.reduceLeDiff, Nat.reduceLT, Nat.reduceGT, Int.reduceToNat, Int.reduceLT, Int.reduceLE, Int.reduceNeg, Int.reduceAdd, Int.reduceEq, Int.reduceNe]
          refine ⟨nb2_0, 5, ?_⟩
          simp (disch := first | omega | (simp only [List.length_set, List.length_append, List.length_cons, List.length_nil, rows_len, zs]; first | done | omega)) only [ep_impl_StampLess, ftt1_0, ftt1_1, ftt1_2, ftt1_3, ftt1_4, ftt1_5, ftt1_6, ftt1_7, ftt1_8, ftt1_9, ftt1_10, ftt1_11, ftt1_12, ftt1_13, ftt1_14, ftt1_15, ftt1_16, ftt1_17, hb52, hv53, d2_0, d2_1, d2_2, d2_3, d2_4, d2_5, o_impl_joinStates, gs, reduceIte, reduceCtorEq, Nat.reduceAdd, Nat.reduceMul, Nat.reduceSub, Nat.reduceBEq, Nat.reduceEqDiff, Nat.reduceLeDiff, Nat.reduceLT, Nat.reduceGT, Int.reduceToNat, Int.reduceLT, Int.reduceLE, Int.reduceNeg, Int.reduceAdd, Int.reduceEq, Int.reduceNe] <;> omega
    · obtain ⟨rfl, hx⟩ := hx
      dsimp only at hp
      cases hp
      simp only [seqK_ret, blockK_ret, retK_RK (K := o_impl_joinStates), hx, and_self, true_and]
theorem ko_impl_joinStates {P : Program} {env : Env} {f_impl_StampLess : Nat} {f_impl_vecJoin : Nat}  (ep_impl_StampLess : env (2 * f_impl_StampLess) = pureFn true (FA fun a : TStamp × TStamp => p_impl_StampLess a.1 a.2)) (e_impl_vecJoin : k_impl_vecJoin (env (2 * f_impl_vecJoin + 1))) : k_impl_joinStates (ownFn P env (c_impl_joinStates f_impl_StampLess f_impl_vecJoin)) := by
  intro x0 x1 x2 x3 b hp h args has
  obtain ⟨⟨v, H2⟩, hr, n0, n1, rfl, wn0, wn1, ne1_0⟩ := w_impl_joinStates ep_impl_StampLess e_impl_vecJoin x0 x1 x2 x3 hp
  exact ⟨_, own_call has hr rfl, keep_moved, n0 + h.length, n1 + h.length, rfl, (moved_lt wn0).2, (moved_lt wn0).1, moved_rows wn0, (moved_lt wn1).2, (moved_lt wn1).1, moved_rows wn1, by omega⟩

noncomputable def p_impl_SetJoin (x0 : TMulti) (x1 : TMulti) : Option (T2 TMulti Int) :=
  (p_impl_stateOK x0.seen x0.entries).bind fun v0 =>
  if (v0) = true then
    (p_impl_stateOK x1.seen x1.entries).bind fun v2 =>
    if (v2) = true then
      (p_impl_joinStates x0.seen x0.entries x1.seen x1.entries).bind fun v4 =>
      some ⟨(TMulti.mk v4.a v4.b), v4.c⟩
    else
      some ⟨(TMulti.mk (TVec.mk ([])) ([])), 1⟩
  else
    some ⟨(TMulti.mk (TVec.mk ([])) ([])), 1⟩
def c_impl_SetJoin (f_impl_stateOK : Nat) (f_impl_joinStates : Nat) : AFn := ⟨41, (.seq (.ops [⟨(.some 2), (.box (.tmp 0)), .none, []⟩, ⟨(.some 3), (.box (.tmp 1)), .none, []⟩, ⟨(.some 4), (.allocV [(1, false), (3, true)] [(.slice .none 0 0), (.slice .none 0 0)]), .none, []⟩, ⟨(.some 5), (.mv (.const (.int .i64 0))), .none, []⟩]) (.seq (.seq (.ops [⟨(.some 9), (.fieldA 0 (.tmp 2)), .none, []⟩, ⟨(.some 10), (.load 1 true (.tmp 9)), .none, []⟩, ⟨(.some 11), (.fieldA 1 (.tmp 2)), .none, []⟩, ⟨(.some 12), (.load 1 false (.tmp 11)), .none, []⟩, ⟨(.some 13), (.call (2 * f_impl_stateOK) [(.tmp 10), (.tmp 12)]), .none, []⟩, ⟨(.some 14), (.pu (.n (.un .not)) [(.tmp 13)]), .none, []⟩, ⟨(.some 15), (.mv (.tmp 14)), .none, []⟩, ⟨(.some 16), (.fieldA 0 (.tmp 3)), (.some (15, false)), []⟩, ⟨(.some 17), (.load 1 true (.tmp 16)), (.some (15, false)), []⟩, ⟨(.some 18), (.fieldA 1 (.tmp 3)), (.some (15, false)), []⟩, ⟨(.some 19), (.load 1 false (.tmp 18)), (.some (15, false)), []⟩, ⟨(.some 20), (.call (2 * f_impl_stateOK) [(.tmp 17), (.tmp 19)]), (.some (15, false)), []⟩, ⟨(.some 21), (.pu (.n (.un .not)) [(.tmp 20)]), (.some (15, false)), []⟩, ⟨(.some 22), (.pick (.tmp 15) (.const (.bool true)) (.tmp 21)), .none, []⟩]) (.cond (.tmp 22) (.seq (.ops [⟨(.some 23), (.build [(.slice .none 0 0), (.slice .none 0 0)] []), .none, []⟩, ⟨.none, (.storeV [(1, false), (3, true)] 2 (.tmp 4) (.tmp 23)), .none, []⟩, ⟨(.some 5), (.mv (.const (.int .i64 1))), .none, []⟩]) .ret) .skip)) (.seq (.ops [⟨(.some 25), (.fieldA 0 (.tmp 2)), .none, []⟩, ⟨(.some 26), (.load 1 true (.tmp 25)), .none, []⟩, ⟨(.some 27), (.fieldA 1 (.tmp 2)), .none, []⟩, ⟨(.some 28), (.load 1 false (.tmp 27)), .none, []⟩, ⟨(.some 29), (.fieldA 0 (.tmp 3)), .none, []⟩, ⟨(.some 30), (.load 1 true (.tmp 29)), .none, []⟩, ⟨(.some 31), (.fieldA 1 (.tmp 3)), .none, []⟩, ⟨(.some 32), (.load 1 false (.tmp 31)), .none, []⟩, ⟨(.some 33), (.call (2 * f_impl_joinStates + 1) [(.tmp 26), (.tmp 28), (.tmp 30), (.tmp 32)]), .none, []⟩, ⟨(.some 24), (.mv (.tmp 33)), .none, []⟩, ⟨(.some 34), (.extract 0 (.tmp 24)), .none, []⟩, ⟨(.some 35), (.extract 1 (.tmp 24)), .none, []⟩, ⟨(.some 36), (.extract 2 (.tmp 24)), .none, []⟩, ⟨(.some 6), (.allocV [(1, false)] [(.slice .none 0 0)]), .none, []⟩, ⟨.none, (.storeV [(1, false)] 1 (.tmp 6) (.tmp 34)), .none, []⟩, ⟨(.some 7), (.mv (.tmp 35)), .none, []⟩, ⟨(.some 8), (.mv (.tmp 36)), .none, []⟩]) (.seq (.ops [⟨(.some 37), (.load 1 true (.tmp 6)), .none, []⟩, ⟨(.some 38), (.mv (.tmp 7)), .none, []⟩, ⟨(.some 39), (.build [(.slice .none 0 0), (.slice .none 0 0)] [(0, (1, (.tmp 37))), (1, (1, (.tmp 38)))]), .none, []⟩, ⟨(.some 40), (.mv (.tmp 8)), .none, []⟩, ⟨.none, (.storeV [(1, false), (3, true)] 2 (.tmp 4) (.tmp 39)), .none, []⟩, ⟨(.some 5), (.mv (.tmp 40)), .none, []⟩]) .ret)))), [(.cell 4 2 true), (.tmp 5)]⟩
set_option maxHeartbeats 10000000 in
theorem d_impl_SetJoin {P : Program} {env : Env} {f_impl_stateOK : Nat} {f_impl_joinStates : Nat}  (ep_impl_stateOK : env (2 * f_impl_stateOK) = pureFn true (FA fun a : TVec × List TEntry => p_impl_stateOK a.1 a.2)) (e_impl_joinStates : k_impl_joinStates (env (2 * f_impl_joinStates + 1))) (x0 : TMulti) (x1 : TMulti) {b : T2 TMulti Int} (hp : p_impl_SetJoin x0 x1 = some b) : R P env (c_impl_SetJoin f_impl_stateOK f_impl_joinStates) ((encA (x0, x1)).map ofI) [] (Tells true b) := by
  refine R_of (by simp [c_impl_SetJoin, encA]) ?_
  unfold c_impl_SetJoin
  unfold p_impl_SetJoin at hp
  obtain ⟨v0, hv0, hp⟩ := bind_eq hp
  by_cases hb1 : (v0) = true
  · rw [if_t hb1] at hp
    obtain ⟨v2, hv2, hp⟩ := bind_eq hp
    by_cases hb3 : (v2) = true
    · rw [if_t hb3] at hp
      obtain ⟨v4, hv4, hp⟩ := bind_eq hp
      simp (disch := first | omega | (simp only [List.length_set, List.length_append, List.length_cons, List.length_nil, rows_len, zs]; first | done | omega)) only [ep_impl_stateOK, hv0, hb1, hv2, hb3, gs, reduceIte, reduceCtorEq, Nat.reduceAdd, Nat.reduceMul, Nat.reduceSub, Nat.reduceBEq, Nat.reduceEqDiff, Nat.reduceLeDiff, Nat.reduceLT, Nat.reduceGT, Int.reduceToNat, Int.reduceLT, Int.reduceLE, Int.reduceNeg, Int.reduceAdd, Int.reduceEq, Int.reduceNe]
      refine call_f (fun h => getCells h 0 2 = some [.i (.sl 1 (x0.seen.counts.map enc)), .i (.sl 3 (x0.entries.map enc))] ∧ 0 < h.length ∧ getCells h 1 2 = some [.i (.sl 1 (x1.seen.counts.map enc)), .i (.sl 3 (x1.entries.map enc))] ∧ 1 < h.length ∧ getCells h 2 0 = some [] ∧ 2 < h.length ∧ getCells h 3 0 = some [] ∧ 3 < h.length ∧ getCells h 4 2 = some [.hsl 2 0 0 1 false 0, .hsl 3 0 0 3 true 0] ∧ 4 < h.length) (fun h v h2 => oo_impl_joinStates v4 h v h2) ?_ ?_ ?_
      · simp (disch := first | omega | (simp only [List.length_set, List.length_append, List.length_cons, List.length_nil, rows_len, zs]; first | done | omega)) only [ep_impl_stateOK, hv0, hb1, hv2, hb3, hv4, gs, reduceIte, reduceCtorEq, Nat.reduceAdd, Nat.reduceMul, Nat.reduceSub, Nat.reduceBEq, Nat.reduceEqDiff, Nat.reduceLeDiff, Nat.reduceLT, Nat.reduceGT, Int.reduceToNat, Int.reduceLT, Int.reduceLE, Int.reduceNeg, Int.reduceAdd, Int.reduceEq, Int.reduceNe] <;> omega
      · rintro h ⟨c0_0, c0_1, c0_2, c0_3, c0_4, c0_5, c0_6, c0_7, c0_8, c0_9⟩
        exact e_impl_joinStates _ _ _ _ _ hv4 h _ (by simp (disch := first | omega | (simp only [List.length_set, List.length_append, List.length_cons, List.length_nil, rows_len, zs]; first | done | omega)) only [ep_impl_stateOK, hv0, hb1, hv2, hb3, hv4, c0_0, c0_1, c0_2, c0_3, c0_4, c0_5, c0_6, c0_7, c0_8, c0_9, gs, reduceIte, reduceCtorEq, Nat.reduceAdd, Nat.reduceMul, Nat.reduceSub, Nat.reduceBEq, Nat.reduceEqDiff, Nat.reduceLeDiff, Nat.reduceLT, Nat.reduceGT, Int.reduceToNat, Int.reduceLT, Int.reduceLE, Int.reduceNeg, Int.reduceAdd, Int.reduceEq, Int.reduceNe])
      · rintro h v hh0 ⟨c0_0, c0_1, c0_2, c0_3, c0_4, c0_5, c0_6, c0_7, c0_8, c0_9⟩ hpost
        obtain ⟨kk0, nb0_0, nb0_1, rfl, lnb0_0, gnb0_0, wnb0_0, lnb0_1, gnb0_1, wnb0_1, ne0_1_0⟩ := hpost
        have d0_0 : getCells hh0 0 2 = some [.i (.sl 1 (x0.seen.counts.map enc)), .i (.sl 3 (x0.entries.map enc))] := (keep_get kk0 c0_1 (by first | (simp; done) | (simp; omega))).trans c0_0
        have d0_0l := keep_lt kk0 c0_1
        have d0_1 : getCells hh0 1 2 = some [.i (.sl 1 (x1.seen.counts.map enc)), .i (.sl 3 (x1.entries.map enc))] := (keep_get kk0 c0_3 (by first | (simp; done) | (simp; omega))).trans c0_2
        have d0_1l := keep_lt kk0 c0_3
        have d0_2 : getCells hh0 2 0 = some [] := (keep_get kk0 c0_5 (by first | (simp; done) | (simp; omega))).trans c0_4
        have d0_2l := keep_lt kk0 c0_5
        have d0_3 : getCells hh0 3 0 = some [] := (keep_get kk0 c0_7 (by first | (simp; done) | (simp; omega))).trans c0_6
        have d0_3l := keep_lt kk0 c0_7
        have d0_4 : getCells hh0 4 2 = some [.hsl 2 0 0 1 false 0, .hsl 3 0 0 3 true 0] := (keep_get kk0 c0_9 (by first | (simp; done) | (simp; omega))).trans c0_8
        have d0_4l := keep_lt kk0 c0_9
        have d0_5 := wnb0_0
        have d0_6 := wnb0_1
        have hp := Option.some.inj hp
        subst hp
        simp (disch := first | omega | (simp only [List.length_set, List.length_append, List.length_cons, List.length_nil, rows_len, zs]; first | done | omega)) only [ep_impl_stateOK, hv0, hb1, hv2, hb3, hv4, d0_0, d0_1, d0_2, d0_3, d0_4, d0_5, d0_6, gs, reduceIte, reduceCtorEq, Nat.reduceAdd, Nat.reduceMul, Nat.reduceSub, Nat.reduceBEq, Nat.reduceEqDiff, Nat.reduceLeDiff, Nat.reduceLT, Nat.reduceGT, Int.reduceToNat, Int.reduceLT, Int.reduceLE, Int.reduceNeg, Int.reduceAdd, Int.reduceEq, Int.reduceNe]
    · replace hb3 := eq_false_of_ne_true hb3
      rw [if_f hb3] at hp
      have hp := Option.some.inj hp
      subst hp
      simp (disch := first | omega | (simp only [List.length_set, List.length_append, List.length_cons, List.length_nil, rows_len, zs]; first | done | omega)) only [ep_impl_stateOK, hv0, hb1, hv2, hb3, gs, reduceIte, reduceCtorEq, Nat.reduceAdd, Nat.reduceMul, Nat.reduceSub, Nat.reduceBEq, Nat.reduceEqDiff, Nat.reduceLeDiff, Nat.reduceLT, Nat.reduceGT, Int.reduceToNat, Int.reduceLT, Int.reduceLE, Int.reduceNeg, Int.reduceAdd, Int.reduceEq, Int.reduceNe]
  · replace hb1 := eq_false_of_ne_true hb1
    rw [if_f hb1] at hp
    have hp := Option.some.inj hp
    subst hp
    simp (disch := first | omega | (simp only [List.length_set, List.length_append, List.length_cons, List.length_nil, rows_len, zs]; first | done | omega)) only [ep_impl_stateOK, hv0, hb1, gs, reduceIte, reduceCtorEq, Nat.reduceAdd, Nat.reduceMul, Nat.reduceSub, Nat.reduceBEq, Nat.reduceEqDiff, Nat.reduceLeDiff, Nat.reduceLT, Nat.reduceGT, Int.reduceToNat, Int.reduceLT, Int.reduceLE, Int.reduceNeg, Int.reduceAdd, Int.reduceEq, Int.reduceNe]

def o_impl_SetJoin (b : T2 TMulti Int) (v : V) (h : Heap) : Prop := ∃ n0 n1 : Nat, v = .tup [.agg [.hsl n0 b.a.seen.counts.length 0 1 false b.a.seen.counts.length, .hsl n1 (b.a.entries.length * 3) 0 3 true b.a.entries.length], .i (.s (.int .i64 b.b))] ∧ getCells h n0 b.a.seen.counts.length = some (rows b.a.seen.counts) ∧ getCells h n1 (b.a.entries.length * 3) = some (rows b.a.entries) ∧ n1 ≠ n0
def oo_impl_SetJoin (b : T2 TMulti Int) (h : Heap) (v : V) (h2 : Heap) : Prop := Keep [] h h2 ∧ ∃ n0 n1 : Nat, v = .tup [.agg [.hsl n0 b.a.seen.counts.length 0 1 false b.a.seen.counts.length, .hsl n1 (b.a.entries.length * 3) 0 3 true b.a.entries.length], .i (.s (.int .i64 b.b))] ∧ n0 < h2.length ∧ h.length ≤ n0 ∧ getCells h2 n0 b.a.seen.counts.length = some (rows b.a.seen.counts) ∧ n1 < h2.length ∧ h.length ≤ n1 ∧ getCells h2 n1 (b.a.entries.length * 3) = some (rows b.a.entries) ∧ n1 ≠ n0
def k_impl_SetJoin (F : Fun) : Prop := ∀ (x0 : TMulti) (x1 : TMulti) (b : T2 TMulti Int), p_impl_SetJoin x0 x1 = some b → ∀ (h : Heap) (args : List V), snapA 9 false h args = some (encA (x0, x1)) → ∃ p, F none args h = some p ∧ oo_impl_SetJoin b h p.1 p.2
set_option maxHeartbeats 10000000 in
theorem w_impl_SetJoin {P : Program} {env : Env} {f_impl_stateOK : Nat} {f_impl_joinStates : Nat}  (ep_impl_stateOK : env (2 * f_impl_stateOK) = pureFn true (FA fun a : TVec × List TEntry => p_impl_stateOK a.1 a.2)) (e_impl_joinStates : k_impl_joinStates (env (2 * f_impl_joinStates + 1))) (x0 : TMulti) (x1 : TMulti) {b : T2 TMulti Int} (hp : p_impl_SetJoin x0 x1 = some b) : R P env (c_impl_SetJoin f_impl_stateOK f_impl_joinStates) ((encA (x0, x1)).map ofI) [] (o_impl_SetJoin b) := by
  refine R_of (by simp [c_impl_SetJoin, encA]) ?_
  unfold c_impl_SetJoin
  unfold p_impl_SetJoin at hp
  obtain ⟨v0, hv0, hp⟩ := bind_eq hp
  by_cases hb1 : (v0) = true
  · rw [if_t hb1] at hp
    obtain ⟨v2, hv2, hp⟩ := bind_eq hp
    by_cases hb3 : (v2) = true
    · rw [if_t hb3] at hp
      obtain ⟨v4, hv4, hp⟩ := bind_eq hp
      simp (disch := first | omega | (simp only [List.length_set, List.length_append, List.length_cons, List.length_nil, rows_len, zs]; first | done | omega)) only [ep_impl_stateOK, hv0, hb1, hv2, hb3, gs, reduceIte, reduceCtorEq, Nat.reduceAdd, Nat.reduceMul, Nat.reduceSub, Nat.reduceBEq, Nat.reduceEqDiff, Nat.reduceLeDiff, Nat.reduceLT, Nat.reduceGT, Int.reduceToNat, Int.reduceLT, Int.reduceLE, Int.reduceNeg, Int.reduceAdd, Int.reduceEq, Int.reduceNe]
      refine call_f (fun h => getCells h 0 2 = some [.i (.sl 1 (x0.seen.counts.map enc)), .i (.sl 3 (x0.entries.map enc))] ∧ 0 < h.length ∧ getCells h 1 2 = some [.i (.sl 1 (x1.seen.counts.map enc)), .i (.sl 3 (x1.entries.map enc))] ∧ 1 < h.length ∧ getCells h 2 0 = some [] ∧ 2 < h.length ∧ getCells h 3 0 = some [] ∧ 3 < h.length ∧ getCells h 4 2 = some [.hsl 2 0 0 1 false 0, .hsl 3 0 0 3 true 0] ∧ 4 < h.length) (fun h v h2 => oo_impl_joinStates v4 h v h2) ?_ ?_ ?_
      · simp (disch := first | omega | (simp only [List.length_set, List.length_append, List.length_cons, List.length_nil, rows_len, zs]; first | done | omega)) only [ep_impl_stateOK, hv0, hb1, hv2, hb3, hv4, gs, reduceIte, reduceCtorEq, Nat.reduceAdd, Nat.reduceMul, Nat.reduceSub, Nat.reduceBEq, Nat.reduceEqDiff, Nat.reduceLeDiff, Nat.reduceLT, Nat.reduceGT, Int.reduceToNat, Int.reduceLT, Int.reduceLE, Int.reduceNeg, Int.reduceAdd, Int.reduceEq, Int.reduceNe] <;> omega
      · rintro h ⟨c0_0, c0_1, c0_2, c0_3, c0_4, c0_5, c0_6, c0_7, c0_8, c0_9⟩
        exact e_impl_joinStates _ _ _ _ _ hv4 h _ (by simp (disch := first | omega | (simp only [List.length_set, List.length_append, List.length_cons, List.length_nil, rows_len, zs]; first | done | omega)) only [ep_impl_stateOK, hv0, hb1, hv2, hb3, hv4, c0_0, c0_1, c0_2, c0_3, c0_4, c0_5, c0_6, c0_7, c0_8, c0_9, gs, reduceIte, reduceCtorEq, Nat.reduceAdd, Nat.reduceMul, Nat.reduceSub, Nat.reduceBEq, Nat.reduceEqDiff, Nat.reduceLeDiff, Nat.reduceLT, Nat.reduceGT, Int.reduceToNat, Int.reduceLT, Int.reduceLE, Int.reduceNeg, Int.reduceAdd, Int.reduceEq, Int.reduceNe])
      · rintro h v hh0 ⟨c0_0, c0_1, c0_2, c0_3, c0_4, c0_5, c0_6, c0_7, c0_8, c0_9⟩ hpost
        obtain ⟨kk0, nb0_0, nb0_1, rfl, lnb0_0, gnb0_0, wnb0_0, lnb0_1, gnb0_1, wnb0_1, ne0_1_0⟩ := hpost
        have d0_0 : getCells hh0 0 2 = some [.i (.sl 1 (x0.seen.counts.map enc)), .i (.sl 3 (x0.entries.map enc))] := (keep_get kk0 c0_1 (by first | (simp; done) | (simp; omega))).trans c0_0
        have d0_0l := keep_lt kk0 c0_1
        have d0_1 : getCells hh0 1 2 = some [.i (.sl 1 (x1.seen.counts.map enc)), .i (.sl 3 (x1.entries.map enc))] := (keep_get kk0 c0_3 (by first | (simp; done) | (simp; omega))).trans c0_2
        have d0_1l := keep_lt kk0 c0_3
        have d0_2 : getCells hh0 2 0 = some [] := (keep_get kk0 c0_5 (by first | (simp; done) | (simp; omega))).trans c0_4
        have d0_2l := keep_lt kk0 c0_5
        have d0_3 : getCells hh0 3 0 = some [] := (keep_get kk0 c0_7 (by first | (simp; done) | (simp; omega))).trans c0_6
        have d0_3l := keep_lt kk0 c0_7
        have d0_4 : getCells hh0 4 2 = some [.hsl 2 0 0 1 false 0, .hsl 3 0 0 3 true 0] := (keep_get kk0 c0_9 (by first | (simp; done) | (simp; omega))).trans c0_8
        have d0_4l := keep_lt kk0 c0_9
        have d0_5 := wnb0_0
        have d0_6 := wnb0_1
        have hp := Option.some.inj hp
        subst hp
        simp (disch := first | omega | (simp only [List.length_set, List.length_append, List.length_cons, List.length_nil, rows_len, zs]; first | done | omega)) only [ep_impl_stateOK, hv0, hb1, hv2, hb3, hv4, d0_0, d0_1, d0_2, d0_3, d0_4, d0_5, d0_6, gs, reduceIte, reduceCtorEq, Nat.reduceAdd, Nat.reduceMul, Nat.reduceSub, Nat.reduceBEq, Nat.reduceEqDiff, Nat.reduceLeDiff, Nat.reduceLT, Nat.reduceGT, Int.reduceToNat, Int.reduceLT, Int.reduceLE, Int.reduceNeg, Int.reduceAdd, Int.reduceEq, Int.reduceNe]
        refine ⟨nb0_0, nb0_1, ?_⟩
        simp (disch := first | omega | (simp only [List.length_set, List.length_append, List.length_cons, List.length_nil, rows_len, zs]; first | done | omega)) only [ep_impl_stateOK, hv0, hb1, hv2, hb3, hv4, d0_0, d0_1, d0_2, d0_3, d0_4, d0_5, d0_6, o_impl_SetJoin, gs, reduceIte, reduceCtorEq, Nat.reduceAdd, Nat.reduceMul, Nat.reduceSub, Nat.reduceBEq, Nat.reduceEqDiff, Nat.reduceLeDiff, Nat.reduceLT, Nat.reduceGT, Int.reduceToNat, Int.reduceLT, Int.reduceLE, Int.reduceNeg, Int.reduceAdd, Int.reduceEq, Int.reduceNe] <;> omega
    · replace hb3 := eq_false_of_ne_true hb3
      rw [if_f hb3] at hp
      have hp := Option.some.inj hp
      subst hp
      simp (disch := first | omega | (simp only [List.length_set, List.length_append, List.length_cons, List.length_nil, rows_len, zs]; first | done | omega)) only [ep_impl_stateOK, hv0, hb1, hv2, hb3, gs, reduceIte, reduceCtorEq, Nat.reduceAdd, Nat.reduceMul, Nat.reduceSub, Nat.reduceBEq, Nat.reduceEqDiff, Nat.reduceLeDiff, Nat.reduceLT, Nat.reduceGT, Int.reduceToNat, Int.reduceLT, Int.reduceLE, Int.reduceNeg, Int.reduceAdd, Int.reduceEq, Int.reduceNe]
      refine ⟨5, 6, ?_⟩
      simp (disch := first | omega | (simp only [List.length_set, List.length_append, List.length_cons, List.length_nil, rows_len, zs]; first | done | omega)) only [ep_impl_stateOK, hv0, hb1, hv2, hb3, o_impl_SetJoin, gs, reduceIte, reduceCtorEq, Nat.reduceAdd, Nat.reduceMul, Nat.reduceSub, Nat.reduceBEq, Nat.reduceEqDiff, Nat.reduceLeDiff, Nat.reduceLT, Nat.reduceGT, Int.reduceToNat, Int.reduceLT, Int.reduceLE, Int.reduceNeg, Int.reduceAdd, Int.reduceEq, Int.reduceNe] <;> omega
  · replace hb1 := eq_false_of_ne_true hb1
    rw [if_f hb1] at hp
    have hp := Option.some.inj hp
    subst hp
    simp (disch := first | omega | (simp only [List.length_set, List.length_append, List.length_cons, List.length_nil, rows_len, zs]; first | done | omega)) only [ep_impl_stateOK, hv0, hb1, gs, reduceIte, reduceCtorEq, Nat.reduceAdd, Nat.reduceMul, Nat.reduceSub, Nat.reduceBEq, Nat.reduceEqDiff, Nat.reduceLeDiff, Nat.reduceLT, Nat.reduceGT, Int.reduceToNat, Int.reduceLT, Int.reduceLE, Int.reduceNeg, Int.reduceAdd, Int.reduceEq, Int.reduceNe]
    refine ⟨5, 6, ?_⟩
    simp (disch := first | omega | (simp only [List.length_set, List.length_append, List.length_cons, List.length_nil, rows_len, zs]; first | done | omega)) only [ep_impl_stateOK, hv0, hb1, o_impl_SetJoin, gs, reduceIte, reduceCtorEq, Nat.reduceAdd, Nat.reduceMul, Nat.reduceSub, Nat.reduceBEq, Nat.reduceEqDiff, Nat.reduceLeDiff, Nat.reduceLT, Nat.reduceGT, Int.reduceToNat, Int.reduceLT, Int.reduceLE, Int.reduceNeg, Int.reduceAdd, Int.reduceEq, Int.reduceNe] <;> omega
theorem ko_impl_SetJoin {P : Program} {env : Env} {f_impl_stateOK : Nat} {f_impl_joinStates : Nat}  (ep_impl_stateOK : env (2 * f_impl_stateOK) = pureFn true (FA fun a : TVec × List TEntry => p_impl_stateOK a.1 a.2)) (e_impl_joinStates : k_impl_joinStates (env (2 * f_impl_joinStates + 1))) : k_impl_SetJoin (ownFn P env (c_impl_SetJoin f_impl_stateOK f_impl_joinStates)) := by
  intro x0 x1 b hp h args has
  obtain ⟨⟨v, H2⟩, hr, n0, n1, rfl, wn0, wn1, ne1_0⟩ := w_impl_SetJoin ep_impl_stateOK e_impl_joinStates x0 x1 hp
  exact ⟨_, own_call has hr rfl, keep_moved, n0 + h.length, n1 + h.length, rfl, (moved_lt wn0).2, (moved_lt wn0).1, moved_rows wn0, (moved_lt wn1).2, (moved_lt wn1).1, moved_rows wn1, by omega⟩

noncomputable def p_laws_eqIntS_l0 (x0 : List Int) (x1 : List Int) : Int → Option (Lp (Int) Bool)
  | s1 =>
    if (decide (s1 < (x0.length : Int))) = true then
      (get? x0 s1).bind fun v3 =>
      (get? x1 s1).bind fun v4 =>
      if (decide (v3 = v4)) = true then
        some (.go (w64 (s1 + 1)))
      else
        some (.ret false)
    else
      some (.out s1)
noncomputable def p_laws_eqIntS (x0 : List Int) (x1 : List Int) : Option Bool :=
  if (decide ((x0.length : Int) = (x1.length : Int))) = true then
    (loopP (p_laws_eqIntS_l0 x0 x1) 0).bind fun ee0 => match ee0 with
    | .ret r => some r
    | .out o6 =>
      some true
  else
    some false
def c_laws_eqIntS : AFn := ⟨26, (.seq (.ops [⟨(.some 4), (.mv (.const (.bool false))), .none, []⟩]) (.seq (.seq (.ops [⟨(.some 6), (.mv (.tmp 0)), .none, []⟩, ⟨(.some 7), (.len (.tmp 6)), .none, []⟩, ⟨(.some 8), (.mv (.tmp 1)), .none, []⟩, ⟨(.some 9), (.len (.tmp 8)), .none, []⟩, ⟨(.some 10), (.pu (.n (.ar .neq)) [(.tmp 7), (.tmp 9)]), .none, []⟩]) (.cond (.tmp 10) (.seq (.ops [⟨(.some 4), (.mv (.const (.bool false))), .none, []⟩]) .ret) .skip)) (.seq (.seq (.ops [⟨(.some 5), (.mv (.const (.int .i64 0))), .none, []⟩]) (.block 0 (.loop (.seq (.seq (.ops [⟨(.some 11), (.mv (.tmp 5)), .none, []⟩, ⟨(.some 12), (.mv (.tmp 0)), .none, []⟩, ⟨(.some 13), (.len (.tmp 12)), .none, []⟩, ⟨(.some 14), (.pu (.n (.ar .lss)) [(.tmp 11), (.tmp 13)]), .none, []⟩]) (.cond (.tmp 14) .skip (.exit 0))) (.seq (.block 1 (.seq (.ops [⟨(.some 17), (.mv (.tmp 0)), .none, []⟩, ⟨(.some 18), (.mv (.tmp 5)), .none, []⟩, ⟨(.some 19), (.idxS 1 (.tmp 17) (.tmp 18)), .none, []⟩, ⟨(.some 20), (.load 1 false (.tmp 19)), .none, []⟩, ⟨(.some 21), (.mv (.tmp 1)), .none, []⟩, ⟨(.some 22), (.mv (.tmp 5)), .none, []⟩, ⟨(.some 23), (.idxS 1 (.tmp 21) (.tmp 22)), .none, []⟩, ⟨(.some 24), (.load 1 false (.tmp 23)), .none, []⟩, ⟨(.some 25), (.pu (.n (.ar .neq)) [(.tmp 20), (.tmp 24)]), .none, []⟩]) (.cond (.tmp 25) (.seq (.ops [⟨(.some 4), (.mv (.const (.bool false))), .none, []⟩]) .ret) .skip))) (.ops [⟨(.some 15), (.mv (.tmp 5)), .none, []⟩, ⟨(.some 16), (.pu (.n (.ar .add)) [(.tmp 15), (.const (.int .i64 1))]), .none, []⟩, ⟨(.some 5), (.mv (.tmp 16)), .none, []⟩])))))) (.seq (.ops [⟨(.some 4), (.mv (.const (.bool true))), .none, []⟩]) .ret)))), [(.tmp 4)]⟩
set_option maxHeartbeats 10000000 in
theorem d_laws_eqIntS {P : Program} {env : Env}  (x0 : List Int) (x1 : List Int) {b : Bool} (hp : p_laws_eqIntS x0 x1 = some b) : R P env (c_laws_eqIntS) ((encA (x0, x1)).map ofI) [] (Tells true b) := by
  refine R_of (by simp [c_laws_eqIntS, encA]) ?_
  unfold c_laws_eqIntS
  unfold p_laws_eqIntS at hp
  by_cases hb0 : (decide ((x0.length : Int) = (x1.length : Int))) = true
  · rw [if_t hb0] at hp
    obtain ⟨ee0, hee0, hp⟩ := bind_eq hp
    simp (disch := first | omega | (simp only [List.length_set, List.length_append, List.length_cons, List.length_nil, rows_len, zs]; first | done | omega)) only [hb0, gs, reduceIte, reduceCtorEq, Nat.reduceAdd, Nat.reduceMul, Nat.reduceSub, Nat.reduceBEq, Nat.reduceEqDiff, Nat.reduceLeDiff, Nat.reduceLT, Nat.reduceGT, Int.reduceToNat, Int.reduceLT, Int.reduceLE, Int.reduceNeg, Int.reduceAdd, Int.reduceEq, Int.reduceNe]
    refine W_loopP 0 (fun s t h => match s with | s1 => t 0 = .i (.sl 1 (x0.map enc)) ∧ t 1 = .i (.sl 1 (x1.map enc)) ∧ t 5 = .i (.s (.int .i64 s1))) (RK [.tmp 4] (Tells true)) ?_ hee0 ?_ ?_
    · rintro s1 ee tt0 hh0 ⟨ftt0_0, ftt0_1, ftt0_2⟩ hp
      rw [p_laws_eqIntS_l0] at hp
      by_cases hb2 : (decide (s1 < (x0.length : Int))) = true
      · rw [if_t hb2] at hp
        obtain ⟨v3, hv3, hp⟩ := bind_eq hp
        obtain ⟨v4, hv4, hp⟩ := bind_eq hp
        by_cases hb5 : (decide (v3 = v4)) = true
        · rw [if_t hb5] at hp
          have hp := Option.some.inj hp
          subst hp
          simp (disch := first | omega | (simp only [List.length_set, List.length_append, List.length_cons, List.length_nil, rows_len, zs]; first | done | omega)) only [hb0, ftt0_0, ftt0_1, ftt0_2, hb2, hv3, hv4, hb5, gs, reduceIte, reduceCtorEq, Nat.reduceAdd, Nat.reduceMul, Nat.reduceSub, Nat.reduceBEq, Nat.reduceEqDiff, Nat.reduceLeDiff, Nat.reduceLT, Nat.reduceGT, Int.reduceToNat, Int.reduceLT, Int.reduceLE, Int.reduceNeg, Int.reduceAdd, Int.reduceEq, Int.reduceNe] <;> omega
        · replace hb5 := eq_false_of_ne_true hb5
          rw [if_f hb5] at hp
          have hp := Option.some.inj hp
          subst hp
          simp (disch := first | omega | (simp only [List.length_set, List.length_append, List.length_cons, List.length_nil, rows_len, zs]; first | done | omega)) only [hb0, ftt0_0, ftt0_1, ftt0_2, hb2, hv3, hv4, hb5, gs, reduceIte, reduceCtorEq, Nat.reduceAdd, Nat.reduceMul, Nat.reduceSub, Nat.reduceBEq, Nat.reduceEqDiff, Nat.reduceLeDiff, Nat.reduceLT, Nat.reduceGT, Int.reduceToNat, Int.reduceLT, Int.reduceLE, Int.reduceNeg, Int.reduceAdd, Int.reduceEq, Int.reduceNe]
      · replace hb2 := eq_false_of_ne_true hb2
        rw [if_f hb2] at hp
        have hp := Option.some.inj hp
        subst hp
        simp (disch := first | omega | (simp only [List.length_set, List.length_append, List.length_cons, List.length_nil, rows_len, zs]; first | done | omega)) only [hb0, ftt0_0, ftt0_1, ftt0_2, hb2, gs, reduceIte, reduceCtorEq, Nat.reduceAdd, Nat.reduceMul, Nat.reduceSub, Nat.reduceBEq, Nat.reduceEqDiff, Nat.reduceLeDiff, Nat.reduceLT, Nat.reduceGT, Int.reduceToNat, Int.reduceLT, Int.reduceLE, Int.reduceNeg, Int.reduceAdd, Int.reduceEq, Int.reduceNe] <;> omega
    · simp (disch := first | omega | (simp only [List.length_set, List.length_append, List.length_cons, List.length_nil, rows_len, zs]; first | done | omega)) only [hb0, gs, reduceIte, reduceCtorEq, Nat.reduceAdd, Nat.reduceMul, Nat.reduceSub, Nat.reduceBEq, Nat.reduceEqDiff, Nat.reduceLeDiff, Nat.reduceLT, Nat.reduceGT, Int.reduceToNat, Int.reduceLT, Int.reduceLE, Int.reduceNeg, Int.reduceAdd, Int.reduceEq, Int.reduceNe] <;> omega
    · intro x tt1 hh1 hx
      rcases ee0 with o6 | r
      · obtain ⟨rfl, ftt1_0, ftt1_1, ftt1_2⟩ := hx
        dsimp only at hp
        have hp := Option.some.inj hp
        subst hp
        simp (disch := first | omega | (simp only [List.length_set, List.length_append, List.length_cons, List.length_nil, rows_len, zs]; first | done | omega)) only [hb0, ftt1_0, ftt1_1, ftt1_2, gs, reduceIte, reduceCtorEq, Nat.reduceAdd, Nat.reduceMul, Nat.reduceSub, Nat.reduceBEq, Nat.reduceEqDiff, Nat.reduceLeDiff, Nat.reduceLT, Nat.reduceGT, Int.reduceToNat, Int.reduceLT, Int.reduceLE, Int.reduceNeg, Int.reduceAdd, Int.reduceEq, Int.reduceNe]
      · obtain ⟨rfl, hx⟩ := hx
        dsimp only at hp
        cases hp
        simp only [seqK_ret, blockK_ret, retK_RK (K := Tells true), hx, and_self, true_and]
  · replace hb0 := eq_false_of_ne_true hb0
    rw [if_f hb0] at hp
    have hp := Option.some.inj hp
    subst hp
    simp (disch := first | omega | (simp only [List.length_set, List.length_append, List.length_cons, List.length_nil, rows_len, zs]; first | done | omega)) only [hb0, gs, reduceIte, reduceCtorEq, Nat.reduceAdd, Nat.reduceMul, Nat.reduceSub, Nat.reduceBEq, Nat.reduceEqDiff, Nat.reduceLeDiff, Nat.reduceLT, Nat.reduceGT, Int.reduceToNat, Int.reduceLT, Int.reduceLE, Int.reduceNeg, Int.reduceAdd, Int.reduceEq, Int.reduceNe]

noncomputable def p_laws_eqVector (x0 : TVec) (x1 : TVec) : Option Bool :=
  (p_laws_eqIntS x0.counts x1.counts).bind fun v0 =>
  if (v0) = true then
    some true
  else
    some false
def c_laws_eqVector (f_laws_eqIntS : Nat) : AFn := ⟨11, (.seq (.ops [⟨(.some 2), (.box (.tmp 0)), .none, []⟩, ⟨(.some 3), (.box (.tmp 1)), .none, []⟩, ⟨(.some 4), (.mv (.const (.bool false))), .none, []⟩]) (.seq (.seq (.ops [⟨(.some 5), (.fieldA 0 (.tmp 2)), .none, []⟩, ⟨(.some 6), (.load 1 false (.tmp 5)), .none, []⟩, ⟨(.some 7), (.fieldA 0 (.tmp 3)), .none, []⟩, ⟨(.some 8), (.load 1 false (.tmp 7)), .none, []⟩, ⟨(.some 9), (.call (2 * f_laws_eqIntS) [(.tmp 6), (.tmp 8)]), .none, []⟩, ⟨(.some 10), (.pu (.n (.un .not)) [(.tmp 9)]), .none, []⟩]) (.cond (.tmp 10) (.seq (.ops [⟨(.some 4), (.mv (.const (.bool false))), .none, []⟩]) .ret) .skip)) (.seq (.ops [⟨(.some 4), (.mv (.const (.bool true))), .none, []⟩]) .ret))), [(.tmp 4)]⟩
set_option maxHeartbeats 10000000 in
theorem d_laws_eqVector {P : Program} {env : Env} {f_laws_eqIntS : Nat}  (ep_laws_eqIntS : env (2 * f_laws_eqIntS) = pureFn true (FA fun a : List Int × List Int => p_laws_eqIntS a.1 a.2)) (x0 : TVec) (x1 : TVec) {b : Bool} (hp : p_laws_eqVector x0 x1 = some b) : R P env (c_laws_eqVector f_laws_eqIntS) ((encA (x0, x1)).map ofI) [] (Tells true b) := by
  refine R_of (by simp [c_laws_eqVector, encA]) ?_
  unfold c_laws_eqVector
  unfold p_laws_eqVector at hp
  obtain ⟨v0, hv0, hp⟩ := bind_eq hp
  by_cases hb1 : (v0) = true
  · rw [if_t hb1] at hp
    have hp := Option.some.inj hp
    subst hp
    simp (disch := first | omega | (simp only [List.length_set, List.length_append, List.length_cons, List.length_nil, rows_len, zs]; first | done | omega)) only [ep_laws_eqIntS, hv0, hb1, gs, reduceIte, reduceCtorEq, Nat.reduceAdd, Nat.reduceMul, Nat.reduceSub, Nat.reduceBEq, Nat.reduceEqDiff, Nat.reduceLeDiff, Nat.reduceLT, Nat.reduceGT, Int.reduceToNat, Int.reduceLT, Int.reduceLE, Int.reduceNeg, Int.reduceAdd, Int.reduceEq, Int.reduceNe]
  · replace hb1 := eq_false_of_ne_true hb1
    rw [if_f hb1] at hp
    have hp := Option.some.inj hp
    subst hp
    simp (disch := first | omega | (simp only [List.length_set, List.length_append, List.length_cons, List.length_nil, rows_len, zs]; first | done | omega)) only [ep_laws_eqIntS, hv0, hb1, gs, reduceIte, reduceCtorEq, Nat.reduceAdd, Nat.reduceMul, Nat.reduceSub, Nat.reduceBEq, Nat.reduceEqDiff, Nat.reduceLeDiff, Nat.reduceLT, Nat.reduceGT, Int.reduceToNat, Int.reduceLT, Int.reduceLE, Int.reduceNeg, Int.reduceAdd, Int.reduceEq, Int.reduceNe]

noncomputable def p_laws_eqStamp (x0 : TStamp) (x1 : TStamp) : Option Bool :=
  if (decide (x0.time = x1.time)) = true then
    if (decide (x0.actor = x1.actor)) = true then
      some true
    else
      some false
  else
    some false
def c_laws_eqStamp : AFn := ⟨15, (.seq (.ops [⟨(.some 2), (.box (.tmp 0)), .none, []⟩, ⟨(.some 3), (.box (.tmp 1)), .none, []⟩, ⟨(.some 4), (.mv (.const (.bool false))), .none, []⟩]) (.seq (.seq (.ops [⟨(.some 5), (.fieldA 0 (.tmp 2)), .none, []⟩, ⟨(.some 6), (.load 1 false (.tmp 5)), .none, []⟩, ⟨(.some 7), (.fieldA 0 (.tmp 3)), .none, []⟩, ⟨(.some 8), (.load 1 false (.tmp 7)), .none, []⟩, ⟨(.some 9), (.pu (.n (.ar .neq)) [(.tmp 6), (.tmp 8)]), .none, []⟩]) (.cond (.tmp 9) (.seq (.ops [⟨(.some 4), (.mv (.const (.bool false))), .none, []⟩]) .ret) .skip)) (.seq (.seq (.ops [⟨(.some 10), (.fieldA 1 (.tmp 2)), .none, []⟩, ⟨(.some 11), (.load 1 false (.tmp 10)), .none, []⟩, ⟨(.some 12), (.fieldA 1 (.tmp 3)), .none, []⟩, ⟨(.some 13), (.load 1 false (.tmp 12)), .none, []⟩, ⟨(.some 14), (.pu (.n (.ar .neq)) [(.tmp 11), (.tmp 13)]), .none, []⟩]) (.cond (.tmp 14) (.seq (.ops [⟨(.some 4), (.mv (.const (.bool false))), .none, []⟩]) .ret) .skip)) (.seq (.ops [⟨(.some 4), (.mv (.const (.bool true))), .none, []⟩]) .ret)))), [(.tmp 4)]⟩
set_option maxHeartbeats 10000000 in
theorem d_laws_eqStamp {P : Program} {env : Env}  (x0 : TStamp) (x1 : TStamp) {b : Bool} (hp : p_laws_eqStamp x0 x1 = some b) : R P env (c_laws_eqStamp) ((encA (x0, x1)).map ofI) [] (Tells true b) := by
  refine R_of (by simp [c_laws_eqStamp, encA]) ?_
  unfold c_laws_eqStamp
  unfold p_laws_eqStamp at hp
  by_cases hb0 : (decide (x0.time = x1.time)) = true
  · rw [if_t hb0] at hp
    by_cases hb1 : (decide (x0.actor = x1.actor)) = true
    · rw [if_t hb1] at hp
      have hp := Option.some.inj hp
      subst hp
      simp (disch := first | omega | (simp only [List.length_set, List.length_append, List.length_cons, List.length_nil, rows_len, zs]; first | done | omega)) only [hb0, hb1, gs, reduceIte, reduceCtorEq, Nat.reduceAdd, Nat.reduceMul, Nat.reduceSub, Nat.reduceBEq, Nat.reduceEqDiff, Nat.reduceLeDiff, Nat.reduceLT, Nat.reduceGT, Int.reduceToNat, Int.reduceLT, Int.reduceLE, Int.reduceNeg, Int.reduceAdd, Int.reduceEq, Int.reduceNe]
    · replace hb1 := eq_false_of_ne_true hb1
      rw [if_f hb1] at hp
      have hp := Option.some.inj hp
      subst hp
      simp (disch := first | omega | (simp only [List.length_set, List.length_append, List.length_cons, List.length_nil, rows_len, zs]; first | done | omega)) only [hb0, hb1, gs, reduceIte, reduceCtorEq, Nat.reduceAdd, Nat.reduceMul, Nat.reduceSub, Nat.reduceBEq, Nat.reduceEqDiff, Nat.reduceLeDiff, Nat.reduceLT, Nat.reduceGT, Int.reduceToNat, Int.reduceLT, Int.reduceLE, Int.reduceNeg, Int.reduceAdd, Int.reduceEq, Int.reduceNe]
  · replace hb0 := eq_false_of_ne_true hb0
    rw [if_f hb0] at hp
    have hp := Option.some.inj hp
    subst hp
    simp (disch := first | omega | (simp only [List.length_set, List.length_append, List.length_cons, List.length_nil, rows_len, zs]; first | done | omega)) only [hb0, gs, reduceIte, reduceCtorEq, Nat.reduceAdd, Nat.reduceMul, Nat.reduceSub, Nat.reduceBEq, Nat.reduceEqDiff, Nat.reduceLeDiff, Nat.reduceLT, Nat.reduceGT, Int.reduceToNat, Int.reduceLT, Int.reduceLE, Int.reduceNeg, Int.reduceAdd, Int.reduceEq, Int.reduceNe]

noncomputable def p_laws_eqEntry (x0 : TEntry) (x1 : TEntry) : Option Bool :=
  (p_laws_eqStamp x0.stamp x1.stamp).bind fun v0 =>
  if (v0) = true then
    if (decide (x0.text = x1.text)) = true then
      some true
    else
      some false
  else
    some false
def c_laws_eqEntry (f_laws_eqStamp : Nat) : AFn := ⟨16, (.seq (.ops [⟨(.some 2), (.box (.tmp 0)), .none, []⟩, ⟨(.some 3), (.box (.tmp 1)), .none, []⟩, ⟨(.some 4), (.mv (.const (.bool false))), .none, []⟩]) (.seq (.seq (.ops [⟨(.some 5), (.fieldA 0 (.tmp 2)), .none, []⟩, ⟨(.some 6), (.load 2 true (.tmp 5)), .none, []⟩, ⟨(.some 7), (.fieldA 0 (.tmp 3)), .none, []⟩, ⟨(.some 8), (.load 2 true (.tmp 7)), .none, []⟩, ⟨(.some 9), (.call (2 * f_laws_eqStamp) [(.tmp 6), (.tmp 8)]), .none, []⟩, ⟨(.some 10), (.pu (.n (.un .not)) [(.tmp 9)]), .none, []⟩]) (.cond (.tmp 10) (.seq (.ops [⟨(.some 4), (.mv (.const (.bool false))), .none, []⟩]) .ret) .skip)) (.seq (.seq (.ops [⟨(.some 11), (.fieldA 2 (.tmp 2)), .none, []⟩, ⟨(.some 12), (.load 1 false (.tmp 11)), .none, []⟩, ⟨(.some 13), (.fieldA 2 (.tmp 3)), .none, []⟩, ⟨(.some 14), (.load 1 false (.tmp 13)), .none, []⟩, ⟨(.some 15), (.pu (.n (.ar .neq)) [(.tmp 12), (.tmp 14)]), .none, []⟩]) (.cond (.tmp 15) (.seq (.ops [⟨(.some 4), (.mv (.const (.bool false))), .none, []⟩]) .ret) .skip)) (.seq (.ops [⟨(.some 4), (.mv (.const (.bool true))), .none, []⟩]) .ret)))), [(.tmp 4)]⟩
set_option maxHeartbeats 10000000 in
theorem d_laws_eqEntry {P : Program} {env : Env} {f_laws_eqStamp : Nat}  (ep_laws_eqStamp : env (2 * f_laws_eqStamp) = pureFn true (FA fun a : TStamp × TStamp => p_laws_eqStamp a.1 a.2)) (x0 : TEntry) (x1 : TEntry) {b : Bool} (hp : p_laws_eqEntry x0 x1 = some b) : R P env (c_laws_eqEntry f_laws_eqStamp) ((encA (x0, x1)).map ofI) [] (Tells true b) := by
  refine R_of (by simp [c_laws_eqEntry, encA]) ?_
  unfold c_laws_eqEntry
  unfold p_laws_eqEntry at hp
  obtain ⟨v0, hv0, hp⟩ := bind_eq hp
  by_cases hb1 : (v0) = true
  · rw [if_t hb1] at hp
    by_cases hb2 : (decide (x0.text = x1.text)) = true
    · rw [if_t hb2] at hp
      have hp := Option.some.inj hp
      subst hp
      simp (disch := first | omega | (simp only [List.length_set, List.length_append, List.length_cons, List.length_nil, rows_len, zs]; first | done | omega)) only [ep_laws_eqStamp, hv0, hb1, hb2, gs, reduceIte, reduceCtorEq, Nat.reduceAdd, Nat.reduceMul, Nat.reduceSub, Nat.reduceBEq, Nat.reduceEqDiff, Nat.reduceLeDiff, Nat.reduceLT, Nat.reduceGT, Int.reduceToNat, Int.reduceLT, Int.reduceLE, Int.reduceNeg, Int.reduceAdd, Int.reduceEq, Int.reduceNe]
    · replace hb2 := eq_false_of_ne_true hb2
      rw [if_f hb2] at hp
      have hp := Option.some.inj hp
      subst hp
      simp (disch := first | omega | (simp only [List.length_set, List.length_append, List.length_cons, List.length_nil, rows_len, zs]; first | done | omega)) only [ep_laws_eqStamp, hv0, hb1, hb2, gs, reduceIte, reduceCtorEq, Nat.reduceAdd, Nat.reduceMul, Nat.reduceSub, Nat.reduceBEq, Nat.reduceEqDiff, Nat.reduceLeDiff, Nat.reduceLT, Nat.reduceGT, Int.reduceToNat, Int.reduceLT, Int.reduceLE, Int.reduceNeg, Int.reduceAdd, Int.reduceEq, Int.reduceNe]
  · replace hb1 := eq_false_of_ne_true hb1
    rw [if_f hb1] at hp
    have hp := Option.some.inj hp
    subst hp
    simp (disch := first | omega | (simp only [List.length_set, List.length_append, List.length_cons, List.length_nil, rows_len, zs]; first | done | omega)) only [ep_laws_eqStamp, hv0, hb1, gs, reduceIte, reduceCtorEq, Nat.reduceAdd, Nat.reduceMul, Nat.reduceSub, Nat.reduceBEq, Nat.reduceEqDiff, Nat.reduceLeDiff, Nat.reduceLT, Nat.reduceGT, Int.reduceToNat, Int.reduceLT, Int.reduceLE, Int.reduceNeg, Int.reduceAdd, Int.reduceEq, Int.reduceNe]

noncomputable def p_laws_eqEntryS_l0 (x0 : List TEntry) (x1 : List TEntry) : Int → Option (Lp (Int) Bool)
  | s1 =>
    if (decide (s1 < (x0.length : Int))) = true then
      (get? x0 s1).bind fun v3 =>
      (get? x1 s1).bind fun v4 =>
      (p_laws_eqEntry v3 v4).bind fun v5 =>
      if (v5) = true then
        some (.go (w64 (s1 + 1)))
      else
        some (.ret false)
    else
      some (.out s1)
noncomputable def p_laws_eqEntryS (x0 : List TEntry) (x1 : List TEntry) : Option Bool :=
  if (decide ((x0.length : Int) = (x1.length : Int))) = true then
    (loopP (p_laws_eqEntryS_l0 x0 x1) 0).bind fun ee0 => match ee0 with
    | .ret r => some r
    | .out o7 =>
      some true
  else
    some false
def c_laws_eqEntryS (f_laws_eqEntry : Nat) : AFn := ⟨27, (.seq (.ops [⟨(.some 4), (.mv (.const (.bool false))), .none, []⟩]) (.seq (.seq (.ops [⟨(.some 6), (.mv (.tmp 0)), .none, []⟩, ⟨(.some 7), (.len (.tmp 6)), .none, []⟩, ⟨(.some 8), (.mv (.tmp 1)), .none, []⟩, ⟨(.some 9), (.len (.tmp 8)), .none, []⟩, ⟨(.some 10), (.pu (.n (.ar .neq)) [(.tmp 7), (.tmp 9)]), .none, []⟩]) (.cond (.tmp 10) (.seq (.ops [⟨(.some 4), (.mv (.const (.bool false))), .none, []⟩]) .ret) .skip)) (.seq (.seq (.ops [⟨(.some 5), (.mv (.const (.int .i64 0))), .none, []⟩]) (.block 0 (.loop (.seq (.seq (.ops [⟨(.some 11), (.mv (.tmp 5)), .none, []⟩, ⟨(.some 12), (.mv (.tmp 0)), .none, []⟩, ⟨(.some 13), (.len (.tmp 12)), .none, []⟩, ⟨(.some 14), (.pu (.n (.ar .lss)) [(.tmp 11), (.tmp 13)]), .none, []⟩]) (.cond (.tmp 14) .skip (.exit 0))) (.seq (.block 1 (.seq (.ops [⟨(.some 17), (.mv (.tmp 0)), .none, []⟩, ⟨(.some 18), (.mv (.tmp 5)), .none, []⟩, ⟨(.some 19), (.idxS 3 (.tmp 17) (.tmp 18)), .none, []⟩, ⟨(.some 20), (.load 3 true (.tmp 19)), .none, []⟩, ⟨(.some 21), (.mv (.tmp 1)), .none, []⟩, ⟨(.some 22), (.mv (.tmp 5)), .none, []⟩, ⟨(.some 23), (.idxS 3 (.tmp 21) (.tmp 22)), .none, []⟩, ⟨(.some 24), (.load 3 true (.tmp 23)), .none, []⟩, ⟨(.some 25), (.call (2 * f_laws_eqEntry) [(.tmp 20), (.tmp 24)]), .none, []⟩, ⟨(.some 26), (.pu (.n (.un .not)) [(.tmp 25)]), .none, []⟩]) (.cond (.tmp 26) (.seq (.ops [⟨(.some 4), (.mv (.const (.bool false))), .none, []⟩]) .ret) .skip))) (.ops [⟨(.some 15), (.mv (.tmp 5)), .none, []⟩, ⟨(.some 16), (.pu (.n (.ar .add)) [(.tmp 15), (.const (.int .i64 1))]), .none, []⟩, ⟨(.some 5), (.mv (.tmp 16)), .none, []⟩])))))) (.seq (.ops [⟨(.some 4), (.mv (.const (.bool true))), .none, []⟩]) .ret)))), [(.tmp 4)]⟩
set_option maxHeartbeats 10000000 in
theorem d_laws_eqEntryS {P : Program} {env : Env} {f_laws_eqEntry : Nat}  (ep_laws_eqEntry : env (2 * f_laws_eqEntry) = pureFn true (FA fun a : TEntry × TEntry => p_laws_eqEntry a.1 a.2)) (x0 : List TEntry) (x1 : List TEntry) {b : Bool} (hp : p_laws_eqEntryS x0 x1 = some b) : R P env (c_laws_eqEntryS f_laws_eqEntry) ((encA (x0, x1)).map ofI) [] (Tells true b) := by
  refine R_of (by simp [c_laws_eqEntryS, encA]) ?_
  unfold c_laws_eqEntryS
  unfold p_laws_eqEntryS at hp
  by_cases hb0 : (decide ((x0.length : Int) = (x1.length : Int))) = true
  · rw [if_t hb0] at hp
    obtain ⟨ee0, hee0, hp⟩ := bind_eq hp
    simp (disch := first | omega | (simp only [List.length_set, List.length_append, List.length_cons, List.length_nil, rows_len, zs]; first | done | omega)) only [ep_laws_eqEntry, hb0, gs, reduceIte, reduceCtorEq, Nat.reduceAdd, Nat.reduceMul, Nat.reduceSub, Nat.reduceBEq, Nat.reduceEqDiff, Nat.reduceLeDiff, Nat.reduceLT, Nat.reduceGT, Int.reduceToNat, Int.reduceLT, Int.reduceLE, Int.reduceNeg, Int.reduceAdd, Int.reduceEq, Int.reduceNe]
    refine W_loopP 0 (fun s t h => match s with | s1 => t 0 = .i (.sl 3 (x0.map enc)) ∧ t 1 = .i (.sl 3 (x1.map enc)) ∧ t 5 = .i (.s (.int .i64 s1))) (RK [.tmp 4] (Tells true)) ?_ hee0 ?_ ?_
    · rintro s1 ee tt0 hh0 ⟨ftt0_0, ftt0_1, ftt0_2⟩ hp
      rw [p_laws_eqEntryS_l0] at hp
      by_cases hb2 : (decide (s1 < (x0.length : Int))) = true
      · rw [if_t hb2] at hp
        obtain ⟨v3, hv3, hp⟩ := bind_eq hp
        obtain ⟨v4, hv4, hp⟩ := bind_eq hp
        obtain ⟨v5, hv5, hp⟩ := bind_eq hp
        by_cases hb6 : (v5) = true
        · rw [if_t hb6] at hp
          have hp := Option.some.inj hp
          subst hp
          simp (disch := first | omega | (simp only [List.length_set, List.length_append, List.length_cons, List.length_nil, rows_len, zs]; first | done | omega)) only [ep_laws_eqEntry, hb0, ftt0_0, ftt0_1, ftt0_2, hb2, hv3, hv4, hv5, hb6, gs, reduceIte, reduceCtorEq, Nat.reduceAdd, Nat.reduceMul, Nat.reduceSub, Nat.reduceBEq, Nat.reduceEqDiff, Nat.reduceLeDiff, Nat.reduceLT, Nat.reduceGT, Int.reduceToNat, Int.reduceLT, Int.reduceLE, Int.reduceNeg, Int.reduceAdd, Int.reduceEq, Int.reduceNe] <;> omega
        · replace hb6 := eq_false_of_ne_true hb6
          rw [if_f hb6] at hp
          have hp := Option.some.inj hp
          subst hp
          simp (disch := first | omega | (simp only [List.length_set, List.length_append, List.length_cons, List.length_nil, rows_len, zs]; first | done | omega)) only [ep_laws_eqEntry, hb0, ftt0_0, ftt0_1, ftt0_2, hb2, hv3, hv4, hv5, hb6, gs, reduceIte, reduceCtorEq, Nat.reduceAdd, Nat.reduceMul, Nat.reduceSub, Nat.reduceBEq, Nat.reduceEqDiff, Nat.reduceLeDiff, Nat.reduceLT, Nat.reduceGT, Int.reduceToNat, Int.reduceLT, Int.reduceLE, Int.reduceNeg, Int.reduceAdd, Int.reduceEq, Int.reduceNe]
      · replace hb2 := eq_false_of_ne_true hb2
        rw [if_f hb2] at hp
        have hp := Option.some.inj hp
        subst hp
        simp (disch := first | omega | (simp only [List.length_set, List.length_append, List.length_cons, List.length_nil, rows_len, zs]; first | done | omega)) only [ep_laws_eqEntry, hb0, ftt0_0, ftt0_1, ftt0_2, hb2, gs, reduceIte, reduceCtorEq, Nat.reduceAdd, Nat.reduceMul, Nat.reduceSub, Nat.reduceBEq, Nat.reduceEqDiff, Nat.reduceLeDiff, Nat.reduceLT, Nat.reduceGT, Int.reduceToNat, Int.reduceLT, Int.reduceLE, Int.reduceNeg, Int.reduceAdd, Int.reduceEq, Int.reduceNe] <;> omega
    · simp (disch := first | omega | (simp only [List.length_set, List.length_append, List.length_cons, List.length_nil, rows_len, zs]; first | done | omega)) only [ep_laws_eqEntry, hb0, gs, reduceIte, reduceCtorEq, Nat.reduceAdd, Nat.reduceMul, Nat.reduceSub, Nat.reduceBEq, Nat.reduceEqDiff, Nat.reduceLeDiff, Nat.reduceLT, Nat.reduceGT, Int.reduceToNat, Int.reduceLT, Int.reduceLE, Int.reduceNeg, Int.reduceAdd, Int.reduceEq, Int.reduceNe] <;> omega
    · intro x tt1 hh1 hx
      rcases ee0 with o7 | r
      · obtain ⟨rfl, ftt1_0, ftt1_1, ftt1_2⟩ := hx
        dsimp only at hp
        have hp := Option.some.inj hp
        subst hp
        simp (disch := first | omega | (simp only [List.length_set, List.length_append, List.length_cons, List.length_nil, rows_len, zs]; first | done | omega)) only [ep_laws_eqEntry, hb0, ftt1_0, ftt1_1, ftt1_2, gs, reduceIte, reduceCtorEq, Nat.reduceAdd, Nat.reduceMul, Nat.reduceSub, Nat.reduceBEq, Nat.reduceEqDiff, Nat.reduceLeDiff, Nat.reduceLT, Nat.reduceGT, Int.reduceToNat, Int.reduceLT, Int.reduceLE, Int.reduceNeg, Int.reduceAdd, Int.reduceEq, Int.reduceNe]
      · obtain ⟨rfl, hx⟩ := hx
        dsimp only at hp
        cases hp
        simp only [seqK_ret, blockK_ret, retK_RK (K := Tells true), hx, and_self, true_and]
  · replace hb0 := eq_false_of_ne_true hb0
    rw [if_f hb0] at hp
    have hp := Option.some.inj hp
    subst hp
    simp (disch := first | omega | (simp only [List.length_set, List.length_append, List.length_cons, List.length_nil, rows_len, zs]; first | done | omega)) only [ep_laws_eqEntry, hb0, gs, reduceIte, reduceCtorEq, Nat.reduceAdd, Nat.reduceMul, Nat.reduceSub, Nat.reduceBEq, Nat.reduceEqDiff, Nat.reduceLeDiff, Nat.reduceLT, Nat.reduceGT, Int.reduceToNat, Int.reduceLT, Int.reduceLE, Int.reduceNeg, Int.reduceAdd, Int.reduceEq, Int.reduceNe]

noncomputable def p_laws_eqSet (x0 : TMulti) (x1 : TMulti) : Option Bool :=
  (p_laws_eqVector x0.seen x1.seen).bind fun v0 =>
  if (v0) = true then
    (p_laws_eqEntryS x0.entries x1.entries).bind fun v2 =>
    if (v2) = true then
      some true
    else
      some false
  else
    some false
def c_laws_eqSet (f_laws_eqVector : Nat) (f_laws_eqEntryS : Nat) : AFn := ⟨17, (.seq (.ops [⟨(.some 2), (.box (.tmp 0)), .none, []⟩, ⟨(.some 3), (.box (.tmp 1)), .none, []⟩, ⟨(.some 4), (.mv (.const (.bool false))), .none, []⟩]) (.seq (.seq (.ops [⟨(.some 5), (.fieldA 0 (.tmp 2)), .none, []⟩, ⟨(.some 6), (.load 1 true (.tmp 5)), .none, []⟩, ⟨(.some 7), (.fieldA 0 (.tmp 3)), .none, []⟩, ⟨(.some 8), (.load 1 true (.tmp 7)), .none, []⟩, ⟨(.some 9), (.call (2 * f_laws_eqVector) [(.tmp 6), (.tmp 8)]), .none, []⟩, ⟨(.some 10), (.pu (.n (.un .not)) [(.tmp 9)]), .none, []⟩]) (.cond (.tmp 10) (.seq (.ops [⟨(.some 4), (.mv (.const (.bool false))), .none, []⟩]) .ret) .skip)) (.seq (.seq (.ops [⟨(.some 11), (.fieldA 1 (.tmp 2)), .none, []⟩, ⟨(.some 12), (.load 1 false (.tmp 11)), .none, []⟩, ⟨(.some 13), (.fieldA 1 (.tmp 3)), .none, []⟩, ⟨(.some 14), (.load 1 false (.tmp 13)), .none, []⟩, ⟨(.some 15), (.call (2 * f_laws_eqEntryS) [(.tmp 12), (.tmp 14)]), .none, []⟩, ⟨(.some 16), (.pu (.n (.un .not)) [(.tmp 15)]), .none, []⟩]) (.cond (.tmp 16) (.seq (.ops [⟨(.some 4), (.mv (.const (.bool false))), .none, []⟩]) .ret) .skip)) (.seq (.ops [⟨(.some 4), (.mv (.const (.bool true))), .none, []⟩]) .ret)))), [(.tmp 4)]⟩
set_option maxHeartbeats 10000000 in
theorem d_laws_eqSet {P : Program} {env : Env} {f_laws_eqVector : Nat} {f_laws_eqEntryS : Nat}  (ep_laws_eqVector : env (2 * f_laws_eqVector) = pureFn true (FA fun a : TVec × TVec => p_laws_eqVector a.1 a.2)) (ep_laws_eqEntryS : env (2 * f_laws_eqEntryS) = pureFn true (FA fun a : List TEntry × List TEntry => p_laws_eqEntryS a.1 a.2)) (x0 : TMulti) (x1 : TMulti) {b : Bool} (hp : p_laws_eqSet x0 x1 = some b) : R P env (c_laws_eqSet f_laws_eqVector f_laws_eqEntryS) ((encA (x0, x1)).map ofI) [] (Tells true b) := by
  refine R_of (by simp [c_laws_eqSet, encA]) ?_
  unfold c_laws_eqSet
  unfold p_laws_eqSet at hp
  obtain ⟨v0, hv0, hp⟩ := bind_eq hp
  by_cases hb1 : (v0) = true
  · rw [if_t hb1] at hp
    obtain ⟨v2, hv2, hp⟩ := bind_eq hp
    by_cases hb3 : (v2) = true
    · rw [if_t hb3] at hp
      have hp := Option.some.inj hp
      subst hp
      simp (disch := first | omega | (simp only [List.length_set, List.length_append, List.length_cons, List.length_nil, rows_len, zs]; first | done | omega)) only [ep_laws_eqVector, ep_laws_eqEntryS, hv0, hb1, hv2, hb3, gs, reduceIte, reduceCtorEq, Nat.reduceAdd, Nat.reduceMul, Nat.reduceSub, Nat.reduceBEq, Nat.reduceEqDiff, Nat.reduceLeDiff, Nat.reduceLT, Nat.reduceGT, Int.reduceToNat, Int.reduceLT, Int.reduceLE, Int.reduceNeg, Int.reduceAdd, Int.reduceEq, Int.reduceNe]
    · replace hb3 := eq_false_of_ne_true hb3
      rw [if_f hb3] at hp
      have hp := Option.some.inj hp
      subst hp
      simp (disch := first | omega | (simp only [List.length_set, List.length_append, List.length_cons, List.length_nil, rows_len, zs]; first | done | omega)) only [ep_laws_eqVector, ep_laws_eqEntryS, hv0, hb1, hv2, hb3, gs, reduceIte, reduceCtorEq, Nat.reduceAdd, Nat.reduceMul, Nat.reduceSub, Nat.reduceBEq, Nat.reduceEqDiff, Nat.reduceLeDiff, Nat.reduceLT, Nat.reduceGT, Int.reduceToNat, Int.reduceLT, Int.reduceLE, Int.reduceNeg, Int.reduceAdd, Int.reduceEq, Int.reduceNe]
  · replace hb1 := eq_false_of_ne_true hb1
    rw [if_f hb1] at hp
    have hp := Option.some.inj hp
    subst hp
    simp (disch := first | omega | (simp only [List.length_set, List.length_append, List.length_cons, List.length_nil, rows_len, zs]; first | done | omega)) only [ep_laws_eqVector, ep_laws_eqEntryS, hv0, hb1, gs, reduceIte, reduceCtorEq, Nat.reduceAdd, Nat.reduceMul, Nat.reduceSub, Nat.reduceBEq, Nat.reduceEqDiff, Nat.reduceLeDiff, Nat.reduceLT, Nat.reduceGT, Int.reduceToNat, Int.reduceLT, Int.reduceLE, Int.reduceNeg, Int.reduceAdd, Int.reduceEq, Int.reduceNe]

noncomputable def p_laws_markIntS_l0 : List Int × Int × Int → Option (Lp (List Int × Int × Int) (T2 Int (List Int)))
  | (s0, s1, s2) =>
    if (decide (s2 < (s0.length : Int))) = true then
      (get? s0 s2).bind fun v5 =>
      some (.go ((s0.set s2.toNat s1), w64 (s1 + 1), w64 (s2 + 1)))
    else
      some (.out (s0, s1, s2))
noncomputable def p_laws_markIntS (x0 : List Int) (x1 : Int) : Option (T2 Int (List Int)) :=
  (loopP (p_laws_markIntS_l0) (x0, x1, 0)).bind fun ee0 => match ee0 with
  | .ret r => some r
  | .out (o7, o8, o9) =>
    some ⟨o8, o7⟩
def c_laws_markIntS : AFn := ⟨19, (.seq (.ops [⟨(.some 4), (.mv (.const (.int .i64 0))), .none, []⟩]) (.seq (.seq (.ops [⟨(.some 5), (.mv (.const (.int .i64 0))), .none, []⟩]) (.block 0 (.loop (.seq (.seq (.ops [⟨(.some 6), (.mv (.tmp 5)), .none, []⟩, ⟨(.some 7), (.mv (.tmp 0)), .none, []⟩, ⟨(.some 8), (.len (.tmp 7)), .none, []⟩, ⟨(.some 9), (.pu (.n (.ar .lss)) [(.tmp 6), (.tmp 8)]), .none, []⟩]) (.cond (.tmp 9) .skip (.exit 0))) (.seq (.block 1 (.seq (.ops [⟨(.some 12), (.mv (.tmp 0)), .none, []⟩, ⟨(.some 13), (.mv (.tmp 5)), .none, []⟩, ⟨(.some 14), (.mv (.tmp 1)), .none, []⟩, ⟨(.some 15), (.idxS 1 (.tmp 12) (.tmp 13)), .none, []⟩, ⟨.none, (.storeV [(0, false)] 1 (.tmp 15) (.tmp 14)), .none, []⟩]) (.ops [⟨(.some 16), (.mv (.tmp 1)), .none, []⟩, ⟨(.some 17), (.pu (.n (.ar .add)) [(.tmp 16), (.const (.int .i64 1))]), .none, []⟩, ⟨(.some 1), (.mv (.tmp 17)), .none, []⟩]))) (.ops [⟨(.some 10), (.mv (.tmp 5)), .none, []⟩, ⟨(.some 11), (.pu (.n (.ar .add)) [(.tmp 10), (.const (.int .i64 1))]), .none, []⟩, ⟨(.some 5), (.mv (.tmp 11)), .none, []⟩])))))) (.seq (.ops [⟨(.some 18), (.mv (.tmp 1)), .none, []⟩, ⟨(.some 4), (.mv (.tmp 18)), .none, []⟩]) .ret))), [(.tmp 4)]⟩
def i_laws_markIntS (pb0 pn0 : Nat) (h : Heap) (b : T2 Int (List Int)) (v : V) (h2 : Heap) : Prop := Keep [pb0] h h2 ∧ v = .i (.s (.int .i64 b.a)) ∧ getCells h2 pb0 pn0 = some (rows b.b)
def k_laws_markIntS (F : Fun) : Prop := ∀ (x0 : List Int) (x1 : Int) (b : T2 Int (List Int)), p_laws_markIntS x0 x1 = some b → ∀ (pb0 pn0 : Nat) (h : Heap), pn0 = (x0).length → getCells h pb0 pn0 = some (rows x0) → ∃ p, F none [.hsl pb0 pn0 0 1 false pn0, .i (.s (.int .i64 x1))] h = some p ∧ i_laws_markIntS pb0 pn0 h b p.1 p.2
set_option maxHeartbeats 10000000 in
theorem w_laws_markIntS {P : Program} {env : Env}  (x0 : List Int) (x1 : Int) {b : T2 Int (List Int)} (hp : p_laws_markIntS x0 x1 = some b) (pb0 pn0 : Nat) (hh : Heap) (pm0 : pn0 = (x0).length) (pf0 : getCells hh pb0 pn0 = some (rows x0)) : R P env (c_laws_markIntS) [.hsl pb0 pn0 0 1 false pn0, .i (.s (.int .i64 x1))] hh (i_laws_markIntS pb0 pn0 hh b) := by
  have pl0 := gc_lt pf0
  refine R_of (by simp [c_laws_markIntS, encA]) ?_
  unfold c_laws_markIntS
  unfold p_laws_markIntS at hp
  obtain ⟨ee0, hee0, hp⟩ := bind_eq hp
  simp (disch := first | omega | (simp only [List.length_set, List.length_append, List.length_cons, List.length_nil, rows_len, zs]; first | done | omega)) only [pf0, gs, reduceIte, reduceCtorEq, Nat.reduceAdd, Nat.reduceMul, Nat.reduceSub, Nat.reduceBEq, Nat.reduceEqDiff, Nat.reduceLeDiff, Nat.reduceLT, Nat.reduceGT, Int.reduceToNat, Int.reduceLT, Int.reduceLE, Int.reduceNeg, Int.reduceAdd, Int.reduceEq, Int.reduceNe]
  refine W_loopP 0 (fun s t h => match s with | (s0, s1, s2) => t 0 = .hsl pb0 pn0 0 1 false pn0 ∧ t 1 = .i (.s (.int .i64 s1)) ∧ t 5 = .i (.s (.int .i64 s2)) ∧ getCells h pb0 pn0 = some (rows (s0 : List Int)) ∧ pb0 < h.length ∧ Keep [pb0] hh h) (RK [.tmp 4] (i_laws_markIntS pb0 pn0 hh)) ?_ hee0 ?_ ?_
  · rintro ⟨s0, s1, s2⟩ ee tt0 hh0 ⟨ftt0_0, ftt0_1, ftt0_2, ftt0_3, ftt0_4, ftt0_5⟩ hp
    have ztt0_3 := len_rows ftt0_3
    simp only [zs] at ztt0_3
    rw [p_laws_markIntS_l0] at hp
    have hz3 : ((pn0 : Nat) : Int) = (s0.length : Int) := by omega
    by_cases hb4 : (decide (s2 < (s0.length : Int))) = true
    · rw [if_t hb4] at hp
      obtain ⟨v5, hv5, hp⟩ := bind_eq hp
      have gv5 := get_some hv5
      have hs6 : List.take s2.toNat (rows s0) ++ .i (.s (.int .i64 s1)) :: List.drop (s2.toNat + 1) (rows s0) = rows (s0.set s2.toNat s1) := by simpa [splice, zs, cellsV, I.cells, enc_int] using rows_set_off (y := s1) (ys := [.i (.s (.int .i64 s1))]) (k := 0) gv5.2.2 (Nat.le_of_ble_eq_true rfl) (by rfl)
      have hp := Option.some.inj hp
      subst hp
      simp (disch := first | omega | (simp only [List.length_set, List.length_append, List.length_cons, List.length_nil, rows_len, zs]; first | done | omega)) only [i_laws_markIntS, pf0, ftt0_0, ftt0_1, ftt0_2, ftt0_3, ftt0_4, ftt0_5, hz3, hb4, hv5, (gv5).1, (gv5).2.1, hs6, gs, reduceIte, reduceCtorEq, Nat.reduceAdd, Nat.reduceMul, Nat.reduceSub, Nat.reduceBEq, Nat.reduceEqDiff, Nat.reduceLeDiff, Nat.reduceLT, Nat.reduceGT, Int.reduceToNat, Int.reduceLT, Int.reduceLE, Int.reduceNeg, Int.reduceAdd, Int.reduceEq, Int.reduceNe] <;> (repeat (first | omega | assumption | rfl | exact keep_refl | refine keep_app ?_ | (refine keep_set (by first | (left; simp; done) | (right; simp; omega)) ?_) | refine And.intro ?_ ?_))
    · replace hb4 := eq_false_of_ne_true hb4
      rw [if_f hb4] at hp
      have hp := Option.some.inj hp
      subst hp
      simp (disch := first | omega | (simp only [List.length_set, List.length_append, List.length_cons, List.length_nil, rows_len, zs]; first | done | omega)) only [i_laws_markIntS, pf0, ftt0_0, ftt0_1, ftt0_2, ftt0_3, ftt0_4, ftt0_5, hz3, hb4, gs, reduceIte, reduceCtorEq, Nat.reduceAdd, Nat.reduceMul, Nat.reduceSub, Nat.reduceBEq, Nat.reduceEqDiff, Nat.reduceLeDiff, Nat.reduceLT, Nat.reduceGT, Int.reduceToNat, Int.reduceLT, Int.reduceLE, Int.reduceNeg, Int.reduceAdd, Int.reduceEq, Int.reduceNe] <;> (repeat (first | omega | assumption | rfl | exact keep_refl | refine keep_app ?_ | (refine keep_set (by first | (left; simp; done) | (right; simp; omega)) ?_) | refine And.intro ?_ ?_))
  · simp (disch := first | omega | (simp only [List.length_set, List.length_append, List.length_cons, List.length_nil, rows_len, zs]; first | done | omega)) only [i_laws_markIntS, pf0, gs, reduceIte, reduceCtorEq, Nat.reduceAdd, Nat.reduceMul, Nat.reduceSub, Nat.reduceBEq, Nat.reduceEqDiff, Nat.reduceLeDiff, Nat.reduceLT, Nat.reduceGT, Int.reduceToNat, Int.reduceLT, Int.reduceLE, Int.reduceNeg, Int.reduceAdd, Int.reduceEq, Int.reduceNe] <;> (repeat (first | omega | assumption | rfl | exact keep_refl | refine keep_app ?_ | (refine keep_set (by first | (left; simp; done) | (right; simp; omega)) ?_) | refine And.intro ?_ ?_))
  · intro x tt1 hh1 hx
    rcases ee0 with ⟨o7, o8, o9⟩ | r
    · obtain ⟨rfl, ftt1_0, ftt1_1, ftt1_2, ftt1_3, ftt1_4, ftt1_5⟩ := hx
      have ztt1_3 := len_rows ftt1_3
      simp only [zs] at ztt1_3
      dsimp only at hp
      have hp := Option.some.inj hp
      subst hp
      simp (disch := first | omega | (simp only [List.length_set, List.length_append, List.length_cons, List.length_nil, rows_len, zs]; first | done | omega)) only [i_laws_markIntS, pf0, ftt1_0, ftt1_1, ftt1_2, ftt1_3, ftt1_4, ftt1_5, gs, reduceIte, reduceCtorEq, Nat.reduceAdd, Nat.reduceMul, Nat.reduceSub, Nat.reduceBEq, Nat.reduceEqDiff, Nat.reduceLeDiff, Nat.reduceLT, Nat.reduceGT, Int.reduceToNat, Int.reduceLT, Int.reduceLE, Int.reduceNeg, Int.reduceAdd, Int.reduceEq, Int.reduceNe] <;> (repeat (first | omega | assumption | rfl | exact keep_refl | refine keep_app ?_ | (refine keep_set (by first | (left; simp; done) | (right; simp; omega)) ?_) | refine And.intro ?_ ?_))
    · obtain ⟨rfl, hx⟩ := hx
      dsimp only at hp
      cases hp
      simp only [seqK_ret, blockK_ret, retK_RK (K := i_laws_markIntS pb0 pn0 hh), hx, and_self, true_and]
theorem ko_laws_markIntS {P : Program} {env : Env}  : k_laws_markIntS (runIn P env (c_laws_markIntS)) := by
  intro x0 x1 b hp pb0 pn0 h a0 a1
  exact w_laws_markIntS x0 x1 hp pb0 pn0 h a0 a1

noncomputable def p_laws_markVector (x0 : TVec) (x1 : Int) : Option (T2 Int TVec) :=
  (p_laws_markIntS x0.counts x1).bind fun v0 =>
  some ⟨v0.a, (TVec.mk v0.b)⟩
def c_laws_markVector (f_laws_markIntS : Nat) : AFn := ⟨10, (.seq (.ops [⟨(.some 2), (.box (.tmp 0)), .none, []⟩, ⟨(.some 4), (.mv (.const (.int .i64 0))), .none, []⟩]) (.seq (.ops [⟨(.some 5), (.fieldA 0 (.tmp 2)), .none, []⟩, ⟨(.some 6), (.load 1 false (.tmp 5)), .none, []⟩, ⟨(.some 7), (.mv (.tmp 1)), .none, []⟩, ⟨(.some 8), (.call (2 * f_laws_markIntS + 1) [(.tmp 6), (.tmp 7)]), .none, []⟩, ⟨(.some 1), (.mv (.tmp 8)), .none, []⟩]) (.seq (.ops [⟨(.some 9), (.mv (.tmp 1)), .none, []⟩, ⟨(.some 4), (.mv (.tmp 9)), .none, []⟩]) .ret))), [(.tmp 4)]⟩
def i_laws_markVector (pb0 pn0 : Nat) (h : Heap) (b : T2 Int TVec) (v : V) (h2 : Heap) : Prop := Keep [pb0] h h2 ∧ v = .i (.s (.int .i64 b.a)) ∧ getCells h2 pb0 pn0 = some (rows b.b.counts)
def k_laws_markVector (F : Fun) : Prop := ∀ (x0 : TVec) (x1 : Int) (b : T2 Int TVec), p_laws_markVector x0 x1 = some b → ∀ (pb0 pn0 : Nat) (h : Heap), pn0 = (x0.counts).length → getCells h pb0 pn0 = some (rows x0.counts) → ∃ p, F none [.agg [.hsl pb0 pn0 0 1 false pn0], .i (.s (.int .i64 x1))] h = some p ∧ i_laws_markVector pb0 pn0 h b p.1 p.2
set_option maxHeartbeats 10000000 in
theorem w_laws_markVector {P : Program} {env : Env} {f_laws_markIntS : Nat}  (e_laws_markIntS : k_laws_markIntS (env (2 * f_laws_markIntS + 1))) (x0 : TVec) (x1 : Int) {b : T2 Int TVec} (hp : p_laws_markVector x0 x1 = some b) (pb0 pn0 : Nat) (hh : Heap) (pm0 : pn0 = (x0.counts).length) (pf0 : getCells hh pb0 pn0 = some (rows x0.counts)) : R P env (c_laws_markVector f_laws_markIntS) [.agg [.hsl pb0 pn0 0 1 false pn0], .i (.s (.int .i64 x1))] hh (i_laws_markVector pb0 pn0 hh b) := by
  have pl0 := gc_lt pf0
  refine R_of (by simp [c_laws_markVector, encA]) ?_
  unfold c_laws_markVector
  unfold p_laws_markVector at hp
  obtain ⟨v0, hv0, hp⟩ := bind_eq hp
  simp (disch := first | omega | (simp only [List.length_set, List.length_append, List.length_cons, List.length_nil, rows_len, zs]; first | done | omega)) only [pf0, gs, reduceIte, reduceCtorEq, Nat.reduceAdd, Nat.reduceMul, Nat.reduceSub, Nat.reduceBEq, Nat.reduceEqDiff, Nat.reduceLeDiff, Nat.reduceLT, Nat.reduceGT, Int.reduceToNat, Int.reduceLT, Int.reduceLE, Int.reduceNeg, Int.reduceAdd, Int.reduceEq, Int.reduceNe]
  refine call_f (fun h => getCells h pb0 pn0 = some (rows (x0.counts : List Int)) ∧ pb0 < h.length ∧ getCells h hh.length 1 = some [.hsl pb0 pn0 0 1 false pn0] ∧ hh.length < h.length ∧ Keep [pb0] hh h) (fun h v h2 => i_laws_markIntS pb0 pn0 h v0 v h2) ?_ ?_ ?_
  · simp (disch := first | omega | (simp only [List.length_set, List.length_append, List.length_cons, List.length_nil, rows_len, zs]; first | done | omega)) only [i_laws_markVector, pf0, hv0, gs, reduceIte, reduceCtorEq, Nat.reduceAdd, Nat.reduceMul, Nat.reduceSub, Nat.reduceBEq, Nat.reduceEqDiff, Nat.reduceLeDiff, Nat.reduceLT, Nat.reduceGT, Int.reduceToNat, Int.reduceLT, Int.reduceLE, Int.reduceNeg, Int.reduceAdd, Int.reduceEq, Int.reduceNe] <;> (repeat (first | omega | assumption | rfl | exact keep_refl | refine keep_app ?_ | (refine keep_set (by first | (left; simp; done) | (right; simp; omega)) ?_) | refine And.intro ?_ ?_))
  · rintro h ⟨c0_0, c0_1, c0_2, c0_3, c0_4⟩
    exact e_laws_markIntS _ _ _ hv0 pb0 pn0 h (by omega) c0_0
  · rintro h v hh0 ⟨c0_0, c0_1, c0_2, c0_3, c0_4⟩ hpost
    obtain ⟨kk0, rfl, w0_0⟩ := hpost
    have d0_0 : getCells hh0 pb0 pn0 = some (rows (v0.b : List Int)) := w0_0
    have mm0_0 := len_rows w0_0
    simp only [zs] at mm0_0
    have d0_0l := keep_lt kk0 c0_1
    have d0_1 : getCells hh0 hh.length 1 = some [.hsl pb0 pn0 0 1 false pn0] := (keep_get kk0 c0_3 (by first | (simp; done) | (simp; omega))).trans c0_2
    have d0_1l := keep_lt kk0 c0_3
    have kp0 : Keep [pb0] hh hh0 := keep_trans c0_4 kk0 (by intro b hb; first | (simp at hb; done) | (simp at hb ⊢; omega))
    have hp := Option.some.inj hp
    subst hp
    simp (disch := first | omega | (simp only [List.length_set, List.length_append, List.length_cons, List.length_nil, rows_len, zs]; first | done | omega)) only [i_laws_markVector, pf0, hv0, d0_0, d0_1, gs, reduceIte, reduceCtorEq, Nat.reduceAdd, Nat.reduceMul, Nat.reduceSub, Nat.reduceBEq, Nat.reduceEqDiff, Nat.reduceLeDiff, Nat.reduceLT, Nat.reduceGT, Int.reduceToNat, Int.reduceLT, Int.reduceLE, Int.reduceNeg, Int.reduceAdd, Int.reduceEq, Int.reduceNe] <;> (repeat (first | omega | assumption | rfl | exact keep_refl | refine keep_app ?_ | (refine keep_set (by first | (left; simp; done) | (right; simp; omega)) ?_) | refine And.intro ?_ ?_))
theorem ko_laws_markVector {P : Program} {env : Env} {f_laws_markIntS : Nat}  (e_laws_markIntS : k_laws_markIntS (env (2 * f_laws_markIntS + 1))) : k_laws_markVector (runIn P env (c_laws_markVector f_laws_markIntS)) := by
  intro x0 x1 b hp pb0 pn0 h a0 a1
  exact w_laws_markVector e_laws_markIntS x0 x1 hp pb0 pn0 h a0 a1

noncomputable def p_laws_markText_l0 : Int × ByteArray → Option (Lp (Int × ByteArray) ByteArray)
  | (s1, s2) =>
    if (decide (0 < s1)) = true then
      (cat? (strOfNums [(IntKind.wrap .u8 (w64 (48 + (Int.tmod s1 10))))]) s2).bind fun v4 =>
      some (.go (w64 (Int.tdiv s1 10), v4))
    else
      some (.out (s1, s2))
noncomputable def p_laws_markText (x0 : Int) : Option ByteArray :=
  if (decide (x0 ≤ 0)) = true then
    some (ByteArray.mk #[109, 48])
  else
    (loopP (p_laws_markText_l0) (x0, (ByteArray.mk #[]))).bind fun ee0 => match ee0 with
    | .ret r => some r
    | .out (o5, o6) =>
      (cat? (ByteArray.mk #[109]) o6).bind fun v7 =>
      some v7
def c_laws_markText : AFn := ⟨20, (.seq (.ops [⟨(.some 2), (.mv (.const (.string ⟨#[]⟩))), .none, []⟩]) (.seq (.seq (.ops [⟨(.some 4), (.mv (.tmp 0)), .none, []⟩, ⟨(.some 5), (.pu (.n (.ar .leq)) [(.tmp 4), (.const (.int .i64 0))]), .none, []⟩]) (.cond (.tmp 5) (.seq (.ops [⟨(.some 2), (.mv (.const (.string ⟨#[109, 48]⟩))), .none, []⟩]) .ret) .skip)) (.seq (.ops [⟨(.some 3), (.mv (.const (.string ⟨#[]⟩))), .none, []⟩]) (.seq (.block 0 (.loop (.seq (.seq (.ops [⟨(.some 6), (.mv (.tmp 0)), .none, []⟩, ⟨(.some 7), (.pu (.n (.ar .gtr)) [(.tmp 6), (.const (.int .i64 0))]), .none, []⟩]) (.cond (.tmp 7) .skip (.exit 0))) (.block 1 (.seq (.ops [⟨(.some 8), (.mv (.tmp 0)), .none, []⟩, ⟨(.some 9), (.pu (.n (.ar .rem)) [(.tmp 8), (.const (.int .i64 10))]), .none, []⟩, ⟨(.some 10), (.pu (.n (.ar .add)) [(.const (.int .i64 48)), (.tmp 9)]), .none, []⟩, ⟨(.some 11), (.pu (.n (.conv .u8)) [(.tmp 10)]), .none, []⟩, ⟨(.some 12), (.buildSl 1 false 1 [(.int .u8 0)] [(0, (.tmp 11))]), .none, []⟩, ⟨(.some 13), (.b2s (.tmp 12)), .none, []⟩, ⟨(.some 14), (.mv (.tmp 3)), .none, []⟩, ⟨(.some 15), (.pu (.n (.ar .add)) [(.tmp 13), (.tmp 14)]), .none, []⟩, ⟨(.some 3), (.mv (.tmp 15)), .none, []⟩]) (.ops [⟨(.some 16), (.mv (.tmp 0)), .none, []⟩, ⟨(.some 17), (.pu (.n (.ar .quo)) [(.tmp 16), (.const (.int .i64 10))]), .none, []⟩, ⟨(.some 0), (.mv (.tmp 17)), .none, []⟩])))))) (.seq (.ops [⟨(.some 18), (.mv (.tmp 3)), .none, []⟩, ⟨(.some 19), (.pu (.n (.ar .add)) [(.const (.string ⟨#[109]⟩)), (.tmp 18)]), .none, []⟩, ⟨(.some 2), (.mv (.tmp 19)), .none, []⟩]) .ret))))), [(.tmp 2)]⟩
set_option maxHeartbeats 10000000 in
theorem d_laws_markText {P : Program} {env : Env}  (x0 : Int) {b : ByteArray} (hp : p_laws_markText x0 = some b) : R P env (c_laws_markText) ((encA (x0)).map ofI) [] (Tells true b) := by
  refine R_of (by simp [c_laws_markText, encA]) ?_
  unfold c_laws_markText
  unfold p_laws_markText at hp
  by_cases hb0 : (decide (x0 ≤ 0)) = true
  · rw [if_t hb0] at hp
    have hp := Option.some.inj hp
    subst hp
    simp (disch := first | omega | (simp only [List.length_set, List.length_append, List.length_cons, List.length_nil, rows_len, zs]; first | done | omega)) only [hb0, gs, reduceIte, reduceCtorEq, Nat.reduceAdd, Nat.reduceMul, Nat.reduceSub, Nat.reduceBEq, Nat.reduceEqDiff, Nat.reduceLeDiff, Nat.reduceLT, Nat.reduceGT, Int.reduceToNat, Int.reduceLT, Int.reduceLE, Int.reduceNeg, Int.reduceAdd, Int.reduceEq, Int.reduceNe]
  · replace hb0 := eq_false_of_ne_true hb0
    rw [if_f hb0] at hp
    obtain ⟨ee0, hee0, hp⟩ := bind_eq hp
    simp (disch := first | omega | (simp only [List.length_set, List.length_append, List.length_cons, List.length_nil, rows_len, zs]; first | done | omega)) only [hb0, gs, reduceIte, reduceCtorEq, Nat.reduceAdd, Nat.reduceMul, Nat.reduceSub, Nat.reduceBEq, Nat.reduceEqDiff, Nat.reduceLeDiff, Nat.reduceLT, Nat.reduceGT, Int.reduceToNat, Int.reduceLT, Int.reduceLE, Int.reduceNeg, Int.reduceAdd, Int.reduceEq, Int.reduceNe]
    refine W_loopP 0 (fun s t h => match s with | (s1, s2) => t 0 = .i (.s (.int .i64 s1)) ∧ t 3 = .i (.s (.string s2))) (RK [.tmp 2] (Tells true)) ?_ hee0 ?_ ?_
    · rintro ⟨s1, s2⟩ ee tt0 hh0 ⟨ftt0_0, ftt0_1⟩ hp
      rw [p_laws_markText_l0] at hp
      by_cases hb3 : (decide (0 < s1)) = true
      · rw [if_t hb3] at hp
        obtain ⟨v4, hv4, hp⟩ := bind_eq hp
        have hp := Option.some.inj hp
        subst hp
        simp (disch := first | omega | (simp only [List.length_set, List.length_append, List.length_cons, List.length_nil, rows_len, zs]; first | done | omega)) only [hb0, ftt0_0, ftt0_1, hb3, hv4, gs, reduceIte, reduceCtorEq, Nat.reduceAdd, Nat.reduceMul, Nat.reduceSub, Nat.reduceBEq, Nat.reduceEqDiff, Nat.reduceLeDiff, Nat.reduceLT, Nat.reduceGT, Int.reduceToNat, Int.reduceLT, Int.reduceLE, Int.reduceNeg, Int.reduceAdd, Int.reduceEq, Int.reduceNe] <;> omega
      · replace hb3 := eq_false_of_ne_true hb3
        rw [if_f hb3] at hp
        have hp := Option.some.inj hp
        subst hp
        simp (disch := first | omega | (simp only [List.length_set, List.length_append, List.length_cons, List.length_nil, rows_len, zs]; first | done | omega)) only [hb0, ftt0_0, ftt0_1, hb3, gs, reduceIte, reduceCtorEq, Nat.reduceAdd, Nat.reduceMul, Nat.reduceSub, Nat.reduceBEq, Nat.reduceEqDiff, Nat.reduceLeDiff, Nat.reduceLT, Nat.reduceGT, Int.reduceToNat, Int.reduceLT, Int.reduceLE, Int.reduceNeg, Int.reduceAdd, Int.reduceEq, Int.reduceNe] <;> omega
    · simp (disch := first | omega | (simp only [List.length_set, List.length_append, List.length_cons, List.length_nil, rows_len, zs]; first | done | omega)) only [hb0, gs, reduceIte, reduceCtorEq, Nat.reduceAdd, Nat.reduceMul, Nat.reduceSub, Nat.reduceBEq, Nat.reduceEqDiff, Nat.reduceLeDiff, Nat.reduceLT, Nat.reduceGT, Int.reduceToNat, Int.reduceLT, Int.reduceLE, Int.reduceNeg, Int.reduceAdd, Int.reduceEq, Int.reduceNe] <;> omega
    · intro x tt1 hh1 hx
      rcases ee0 with ⟨o5, o6⟩ | r
      · obtain ⟨rfl, ftt1_0, ftt1_1⟩ := hx
        dsimp only at hp
        obtain ⟨v7, hv7, hp⟩ := bind_eq hp
        have hp := Option.some.inj hp
        subst hp
        simp (disch := first | omega | (simp only [List.length_set, List.length_append, List.length_cons, List.length_nil, rows_len, zs]; first | done | omega)) only [hb0, ftt1_0, ftt1_1, hv7, gs, reduceIte, reduceCtorEq, Nat.reduceAdd, Nat.reduceMul, Nat.reduceSub, Nat.reduceBEq, Nat.reduceEqDiff, Nat.reduceLeDiff, Nat.reduceLT, Nat.reduceGT, Int.reduceToNat, Int.reduceLT, Int.reduceLE, Int.reduceNeg, Int.reduceAdd, Int.reduceEq, Int.reduceNe]
      · obtain ⟨rfl, hx⟩ := hx
        dsimp only at hp
        cases hp
        simp only [seqK_ret, blockK_ret, retK_RK (K := Tells true), hx, and_self, true_and]

noncomputable def p_laws_markEntryS_l0 : List TEntry × Int × Int → Option (Lp (List TEntry × Int × Int) (T2 Int (List TEntry)))
  | (s0, s1, s2) =>
    if (decide (s2 < (s0.length : Int))) = true then
      (get? s0 s2).bind fun v5 =>
      (get? (s0.set s2.toNat (TEntry.mk (TStamp.mk s1 v5.stamp.actor) v5.text)) s2).bind fun v7 =>
      (p_laws_markText (w64 ((w64 (s1 + 1)) + 1))).bind fun v9 =>
      (get? ((s0.set s2.toNat (TEntry.mk (TStamp.mk s1 v5.stamp.actor) v5.text)).set s2.toNat (TEntry.mk (TStamp.mk v7.stamp.time (w64 (s1 + 1))) v7.text)) s2).bind fun v10 =>
      some (.go ((((s0.set s2.toNat (TEntry.mk (TStamp.mk s1 v5.stamp.actor) v5.text)).set s2.toNat (TEntry.mk (TStamp.mk v7.stamp.time (w64 (s1 + 1))) v7.text)).set s2.toNat (TEntry.mk v10.stamp v9)), w64 ((w64 ((w64 (s1 + 1)) + 1)) + 1), w64 (s2 + 1)))
    else
      some (.out (s0, s1, s2))
noncomputable def p_laws_markEntryS (x0 : List TEntry) (x1 : Int) : Option (T2 Int (List TEntry)) :=
  (loopP (p_laws_markEntryS_l0) (x0, x1, 0)).bind fun ee0 => match ee0 with
  | .ret r => some r
  | .out (o12, o13, o14) =>
    some ⟨o13, o12⟩
def c_laws_markEntryS (f_laws_markText : Nat) : AFn := ⟨37, (.seq (.ops [⟨(.some 4), (.mv (.const (.int .i64 0))), .none, []⟩]) (.seq (.seq (.ops [⟨(.some 5), (.mv (.const (.int .i64 0))), .none, []⟩]) (.block 0 (.loop (.seq (.seq (.ops [⟨(.some 6), (.mv (.tmp 5)), .none, []⟩, ⟨(.some 7), (.mv (.tmp 0)), .none, []⟩, ⟨(.some 8), (.len (.tmp 7)), .none, []⟩, ⟨(.some 9), (.pu (.n (.ar .lss)) [(.tmp 6), (.tmp 8)]), .none, []⟩]) (.cond (.tmp 9) .skip (.exit 0))) (.seq (.block 1 (.seq (.ops [⟨(.some 12), (.mv (.tmp 0)), .none, []⟩, ⟨(.some 13), (.mv (.tmp 5)), .none, []⟩, ⟨(.some 14), (.mv (.tmp 1)), .none, []⟩, ⟨(.some 15), (.idxS 3 (.tmp 12) (.tmp 13)), .none, []⟩, ⟨(.some 16), (.fieldA 0 (.tmp 15)), .none, []⟩, ⟨(.some 17), (.fieldA 0 (.tmp 16)), .none, []⟩, ⟨.none, (.storeV [(0, false)] 1 (.tmp 17) (.tmp 14)), .none, []⟩]) (.seq (.ops [⟨(.some 18), (.mv (.tmp 1)), .none, []⟩, ⟨(.some 19), (.pu (.n (.ar .add)) [(.tmp 18), (.const (.int .i64 1))]), .none, []⟩, ⟨(.some 1), (.mv (.tmp 19)), .none, []⟩]) (.seq (.ops [⟨(.some 20), (.mv (.tmp 0)), .none, []⟩, ⟨(.some 21), (.mv (.tmp 5)), .none, []⟩, ⟨(.some 22), (.mv (.tmp 1)), .none, []⟩, ⟨(.some 23), (.idxS 3 (.tmp 20) (.tmp 21)), .none, []⟩, ⟨(.some 24), (.fieldA 0 (.tmp 23)), .none, []⟩, ⟨(.some 25), (.fieldA 1 (.tmp 24)), .none, []⟩, ⟨.none, (.storeV [(0, false)] 1 (.tmp 25) (.tmp 22)), .none, []⟩]) (.seq (.ops [⟨(.some 26), (.mv (.tmp 1)), .none, []⟩, ⟨(.some 27), (.pu (.n (.ar .add)) [(.tmp 26), (.const (.int .i64 1))]), .none, []⟩, ⟨(.some 1), (.mv (.tmp 27)), .none, []⟩]) (.seq (.ops [⟨(.some 28), (.mv (.tmp 0)), .none, []⟩, ⟨(.some 29), (.mv (.tmp 5)), .none, []⟩, ⟨(.some 30), (.mv (.tmp 1)), .none, []⟩, ⟨(.some 31), (.call (2 * f_laws_markText) [(.tmp 30)]), .none, []⟩, ⟨(.some 32), (.idxS 3 (.tmp 28) (.tmp 29)), .none, []⟩, ⟨(.some 33), (.fieldA 2 (.tmp 32)), .none, []⟩, ⟨.none, (.storeV [(0, false)] 1 (.tmp 33) (.tmp 31)), .none, []⟩]) (.ops [⟨(.some 34), (.mv (.tmp 1)), .none, []⟩, ⟨(.some 35), (.pu (.n (.ar .add)) [(.tmp 34), (.const (.int .i64 1))]), .none, []⟩, ⟨(.some 1), (.mv (.tmp 35)), .none, []⟩]))))))) (.ops [⟨(.some 10), (.mv (.tmp 5)), .none, []⟩, ⟨(.some 11), (.pu (.n (.ar .add)) [(.tmp 10), (.const (.int .i64 1))]), .none, []⟩, ⟨(.some 5), (.mv (.tmp 11)), .none, []⟩])))))) (.seq (.ops [⟨(.some 36), (.mv (.tmp 1)), .none, []⟩, ⟨(.some 4), (.mv (.tmp 36)), .none, []⟩]) .ret))), [(.tmp 4)]⟩
def i_laws_markEntryS (pb0 pn0 : Nat) (h : Heap) (b : T2 Int (List TEntry)) (v : V) (h2 : Heap) : Prop := Keep [pb0] h h2 ∧ v = .i (.s (.int .i64 b.a)) ∧ getCells h2 pb0 (pn0 * 3) = some (rows b.b)
def k_laws_markEntryS (F : Fun) : Prop := ∀ (x0 : List TEntry) (x1 : Int) (b : T2 Int (List TEntry)), p_laws_markEntryS x0 x1 = some b → ∀ (pb0 pn0 : Nat) (h : Heap), pn0 = (x0).length → getCells h pb0 (pn0 * 3) = some (rows x0) → ∃ p, F none [.hsl pb0 (pn0 * 3) 0 3 true pn0, .i (.s (.int .i64 x1))] h = some p ∧ i_laws_markEntryS pb0 pn0 h b p.1 p.2
set_option maxHeartbeats 10000000 in
theorem w_laws_markEntryS {P : Program} {env : Env} {f_laws_markText : Nat}  (ep_laws_markText : env (2 * f_laws_markText) = pureFn true (FA fun a : Int => p_laws_markText a)) (x0 : List TEntry) (x1 : Int) {b : T2 Int (List TEntry)} (hp : p_laws_markEntryS x0 x1 = some b) (pb0 pn0 : Nat) (hh : Heap) (pm0 : pn0 = (x0).length) (pf0 : getCells hh pb0 (pn0 * 3) = some (rows x0)) : R P env (c_laws_markEntryS f_laws_markText) [.hsl pb0 (pn0 * 3) 0 3 true pn0, .i (.s (.int .i64 x1))] hh (i_laws_markEntryS pb0 pn0 hh b) := by
  have pl0 := gc_lt pf0
  refine R_of (by simp [c_laws_markEntryS, encA]) ?_
  unfold c_laws_markEntryS
  unfold p_laws_markEntryS at hp
  obtain ⟨ee0, hee0, hp⟩ := bind_eq hp
  simp (disch := first | omega | (simp only [List.length_set, List.length_append, List.length_cons, List.length_nil, rows_len, zs]; first | done | omega)) only [ep_laws_markText, pf0, gs, reduceIte, reduceCtorEq, Nat.reduceAdd, Nat.reduceMul, Nat.reduceSub, Nat.reduceBEq, Nat.reduceEqDiff, Nat.reduceLeDiff, Nat.reduceLT, Nat.reduceGT, Int.reduceToNat, Int.reduceLT, Int.reduceLE, Int.reduceNeg, Int.reduceAdd, Int.reduceEq, Int.reduceNe]
  refine W_loopP 0 (fun s t h => match s with | (s0, s1, s2) => t 0 = .hsl pb0 (pn0 * 3) 0 3 true pn0 ∧ t 1 = .i (.s (.int .i64 s1)) ∧ t 5 = .i (.s (.int .i64 s2)) ∧ getCells h pb0 (pn0 * 3) = some (rows (s0 : List TEntry)) ∧ pb0 < h.length ∧ Keep [pb0] hh h) (RK [.tmp 4] (i_laws_markEntryS pb0 pn0 hh)) ?_ hee0 ?_ ?_
  · rintro ⟨s0, s1, s2⟩ ee tt0 hh0 ⟨ftt0_0, ftt0_1, ftt0_2, ftt0_3, ftt0_4, ftt0_5⟩ hp
    have ztt0_3 := len_rows ftt0_3
    simp only [zs] at ztt0_3
    rw [p_laws_markEntryS_l0] at hp
    have hz3 : ((pn0 : Nat) : Int) = (s0.length : Int) := by omega
    by_cases hb4 : (decide (s2 < (s0.length : Int))) = true
    · rw [if_t hb4] at hp
      obtain ⟨v5, hv5, hp⟩ := bind_eq hp
      have gv5 := get_some hv5
      have hs6 : List.take (s2.toNat * 3) (rows s0) ++ .i (.s (.int .i64 s1)) :: List.drop (s2.toNat * 3 + 1) (rows s0) = rows (s0.set s2.toNat (TEntry.mk (TStamp.mk s1 v5.stamp.actor) v5.text)) := by simpa [splice, zs, cellsV, I.cells, enc_TEntry] using rows_set_off (y := (TEntry.mk (TStamp.mk s1 v5.stamp.actor) v5.text)) (ys := [.i (.s (.int .i64 s1))]) (k := 0) gv5.2.2 (Nat.le_of_ble_eq_true rfl) (by rfl)
      obtain ⟨v7, hv7, hp⟩ := bind_eq hp
      have gv7 := get_some hv7
      have hs8 : List.take (s2.toNat * 3 + 1) (rows (s0.set s2.toNat (TEntry.mk (TStamp.mk s1 v5.stamp.actor) v5.text))) ++ .i (.s (.int .i64 (w64 (s1 + 1)))) :: List.drop (s2.toNat * 3 + 1 + 1) (rows (s0.set s2.toNat (TEntry.mk (TStamp.mk s1 v5.stamp.actor) v5.text))) = rows ((s0.set s2.toNat (TEntry.mk (TStamp.mk s1 v5.stamp.actor) v5.text)).set s2.toNat (TEntry.mk (TStamp.mk v7.stamp.time (w64 (s1 + 1))) v7.text)) := by simpa [splice, zs, cellsV, I.cells, enc_TEntry] using rows_set_off (y := (TEntry.mk (TStamp.mk v7.stamp.time (w64 (s1 + 1))) v7.text)) (ys := [.i (.s (.int .i64 (w64 (s1 + 1))))]) (k := 1) gv7.2.2 (Nat.le_of_ble_eq_true rfl) (by rfl)
      obtain ⟨v9, hv9, hp⟩ := bind_eq hp
      obtain ⟨v10, hv10, hp⟩ := bind_eq hp
      have gv10 := get_some hv10
      have hs11 : List.take (s2.toNat * 3 + 2) (rows ((s0.set s2.toNat (TEntry.mk (TStamp.mk s1 v5.stamp.actor) v5.text)).set s2.toNat (TEntry.mk (TStamp.mk v7.stamp.time (w64 (s1 + 1))) v7.text))) ++ .i (.s (.string v9)) :: List.drop (s2.toNat * 3 + 2 + 1) (rows ((s0.set s2.toNat (TEntry.mk (TStamp.mk s1 v5.stamp.actor) v5.text)).set s2.toNat (TEntry.mk (TStamp.mk v7.stamp.time (w64 (s1 + 1))) v7.text))) = rows (((s0.set s2.toNat (TEntry.mk (TStamp.mk s1 v5.stamp.actor) v5.text)).set s2.toNat (TEntry.mk (TStamp.mk v7.stamp.time (w64 (s1 + 1))) v7.text)).set s2.toNat (TEntry.mk v10.stamp v9)) := by simpa [splice, zs, cellsV, I.cells, enc_TEntry] using rows_set_off (y := (TEntry.mk v10.stamp v9)) (ys := [.i (.s (.string v9))]) (k := 2) gv10.2.2 (Nat.le_of_ble_eq_true rfl) (by rfl)
      have hp := Option.some.inj hp
      subst hp
      simp (disch := first | omega | (simp only [List.length_set, List.length_append, List.length_cons, List.length_nil, rows_len, zs]; first | done | omega)) only [i_laws_markEntryS, ep_laws_markText, pf0, ftt0_0, ftt0_1, ftt0_2, ftt0_3, ftt0_4, ftt0_5, hz3, hb4, hv5, (gv5).1, (gv5).2.1, hs6, hv7, (gv7).1, (gv7).2.1, hs8, hv9, hv10, (gv10).1, (gv10).2.1, hs11, gs, reduceIte, reduceCtorEq, Nat.reduceAdd, Nat.reduceMul, Nat.reduceSub, Nat.reduceBEq, Nat.reduceEqDiff, Nat.reduceLeDiff, Nat.reduceLT, Nat.reduceGT, Int.reduceToNat, Int.reduceLT, Int.reduceLE, Int.reduceNeg, Int.reduceAdd, Int.reduceEq, Int.reduceNe] <;> (repeat (first | omega | assumption | rfl | exact keep_refl | refine keep_app ?_ | (refine keep_set (by first | (left; simp; done) | (right; simp; omega)) ?_) | refine And.intro ?_ ?_))
    · replace hb4 := eq_false_of_ne_true hb4
      rw [if_f hb4] at hp
      have hp := Option.some.inj hp
      subst hp
      simp (disch := first | omega | (simp only [List.length_set, List.length_append, List.length_cons, List.length_nil, rows_len, zs]; first | done | omega)) only [i_laws_markEntryS, ep_laws_markText, pf0, ftt0_0, ftt0_1, ftt0_2, ftt0_3, ftt0_4, ftt0_5, hz3, hb4, gs, reduceIte, reduceCtorEq, Nat.reduceAdd, Nat.reduceMul, Nat.reduceSub, Nat.reduceBEq, Nat.reduceEqDiff, Nat.reduceLeDiff, Nat.reduceLT, Nat.reduceGT, Int.reduceToNat, Int.reduceLT, Int.reduceLE, Int.reduceNeg, Int.reduceAdd, Int.reduceEq, Int.reduceNe] <;> (repeat (first | omega | assumption | rfl | exact keep_refl | refine keep_app ?_ | (refine keep_set (by first | (left; simp; done) | (right; simp; omega)) ?_) | refine And.intro ?_ ?_))
  · simp (disch := first | omega | (simp only [List.length_set, List.length_append, List.length_cons, List.length_nil, rows_len, zs]; first | done | omega)) only [i_laws_markEntryS, ep_laws_markText, pf0, gs, reduceIte, reduceCtorEq, Nat.reduceAdd, Nat.reduceMul, Nat.reduceSub, Nat.reduceBEq, Nat.reduceEqDiff, Nat.reduceLeDiff, Nat.reduceLT, Nat.reduceGT, Int.reduceToNat, Int.reduceLT, Int.reduceLE, Int.reduceNeg, Int.reduceAdd, Int.reduceEq, Int.reduceNe] <;> (repeat (first | omega | assumption | rfl | exact keep_refl | refine keep_app ?_ | (refine keep_set (by first | (left; simp; done) | (right; simp; omega)) ?_) | refine And.intro ?_ ?_))
  · intro x tt1 hh1 hx
    rcases ee0 with ⟨o12, o13, o14⟩ | r
    · obtain ⟨rfl, ftt1_0, ftt1_1, ftt1_2, ftt1_3, ftt1_4, ftt1_5⟩ := hx
      have ztt1_3 := len_rows ftt1_3
      simp only [zs] at ztt1_3
      dsimp only at hp
      have hp := Option.some.inj hp
      subst hp
      simp (disch := first | omega | (simp only [List.length_set, List.length_append, List.length_cons, List.length_nil, rows_len, zs]; first | done | omega)) only [i_laws_markEntryS, ep_laws_markText, pf0, ftt1_0, ftt1_1, ftt1_2, ftt1_3, ftt1_4, ftt1_5, gs, reduceIte, reduceCtorEq, Nat.reduceAdd, Nat.reduceMul, Nat.reduceSub, Nat.reduceBEq, Nat.reduceEqDiff, Nat.reduceLeDiff, Nat.reduceLT, Nat.reduceGT, Int.reduceToNat, Int.reduceLT, Int.reduceLE, Int.reduceNeg, Int.reduceAdd, Int.reduceEq, Int.reduceNe] <;> (repeat (first | omega | assumption | rfl | exact keep_refl | refine keep_app ?_ | (refine keep_set (by first | (left; simp; done) | (right; simp; omega)) ?_) | refine And.intro ?_ ?_))
    · obtain ⟨rfl, hx⟩ := hx
      dsimp only at hp
      cases hp
      simp only [seqK_ret, blockK_ret, retK_RK (K := i_laws_markEntryS pb0 pn0 hh), hx, and_self, true_and]
theorem ko_laws_markEntryS {P : Program} {env : Env} {f_laws_markText : Nat}  (ep_laws_markText : env (2 * f_laws_markText) = pureFn true (FA fun a : Int => p_laws_markText a)) : k_laws_markEntryS (runIn P env (c_laws_markEntryS f_laws_markText)) := by
  intro x0 x1 b hp pb0 pn0 h a0 a1
  exact w_laws_markEntryS ep_laws_markText x0 x1 hp pb0 pn0 h a0 a1

noncomputable def p_laws_markSet (x0 : TMulti) (x1 : Int) : Option (T2 Int TMulti) :=
  (p_laws_markVector x0.seen x1).bind fun v0 =>
  (p_laws_markEntryS x0.entries v0.a).bind fun v1 =>
  some ⟨v1.a, (TMulti.mk v0.b v1.b)⟩
def c_laws_markSet (f_laws_markVector : Nat) (f_laws_markEntryS : Nat) : AFn := ⟨14, (.seq (.ops [⟨(.some 2), (.box (.tmp 0)), .none, []⟩, ⟨(.some 4), (.mv (.const (.int .i64 0))), .none, []⟩]) (.seq (.ops [⟨(.some 5), (.fieldA 0 (.tmp 2)), .none, []⟩, ⟨(.some 6), (.load 1 true (.tmp 5)), .none, []⟩, ⟨(.some 7), (.mv (.tmp 1)), .none, []⟩, ⟨(.some 8), (.call (2 * f_laws_markVector + 1) [(.tmp 6), (.tmp 7)]), .none, []⟩, ⟨(.some 1), (.mv (.tmp 8)), .none, []⟩]) (.seq (.ops [⟨(.some 9), (.fieldA 1 (.tmp 2)), .none, []⟩, ⟨(.some 10), (.load 1 false (.tmp 9)), .none, []⟩, ⟨(.some 11), (.mv (.tmp 1)), .none, []⟩, ⟨(.some 12), (.call (2 * f_laws_markEntryS + 1) [(.tmp 10), (.tmp 11)]), .none, []⟩, ⟨(.some 1), (.mv (.tmp 12)), .none, []⟩]) (.seq (.ops [⟨(.some 13), (.mv (.tmp 1)), .none, []⟩, ⟨(.some 4), (.mv (.tmp 13)), .none, []⟩]) .ret)))), [(.tmp 4)]⟩
def i_laws_markSet (pb0 pb1 pn0 pn1 : Nat) (h : Heap) (b : T2 Int TMulti) (v : V) (h2 : Heap) : Prop := Keep [pb0, pb1] h h2 ∧ v = .i (.s (.int .i64 b.a)) ∧ getCells h2 pb0 pn0 = some (rows b.b.seen.counts) ∧ getCells h2 pb1 (pn1 * 3) = some (rows b.b.entries)
def k_laws_markSet (F : Fun) : Prop := ∀ (x0 : TMulti) (x1 : Int) (b : T2 Int TMulti), p_laws_markSet x0 x1 = some b → ∀ (pb0 pb1 pn0 pn1 : Nat) (h : Heap), pn0 = (x0.seen.counts).length → pn1 = (x0.entries).length → getCells h pb0 pn0 = some (rows x0.seen.counts) → getCells h pb1 (pn1 * 3) = some (rows x0.entries) → pb1 ≠ pb0 → ∃ p, F none [.agg [.hsl pb0 pn0 0 1 false pn0, .hsl pb1 (pn1 * 3) 0 3 true pn1], .i (.s (.int .i64 x1))] h = some p ∧ i_laws_markSet pb0 pb1 pn0 pn1 h b p.1 p.2
set_option maxHeartbeats 10000000 in
theorem w_laws_markSet {P : Program} {env : Env} {f_laws_markVector : Nat} {f_laws_markEntryS : Nat}  (e_laws_markVector : k_laws_markVector (env (2 * f_laws_markVector + 1))) (e_laws_markEntryS : k_laws_markEntryS (env (2 * f_laws_markEntryS + 1))) (x0 : TMulti) (x1 : Int) {b : T2 Int TMulti} (hp : p_laws_markSet x0 x1 = some b) (pb0 pb1 pn0 pn1 : Nat) (hh : Heap) (pm0 : pn0 = (x0.seen.counts).length) (pm1 : pn1 = (x0.entries).length) (pf0 : getCells hh pb0 pn0 = some (rows x0.seen.counts)) (pf1 : getCells hh pb1 (pn1 * 3) = some (rows x0.entries)) (pe0 : pb1 ≠ pb0) : R P env (c_laws_markSet f_laws_markVector f_laws_markEntryS) [.agg [.hsl pb0 pn0 0 1 false pn0, .hsl pb1 (pn1 * 3) 0 3 true pn1], .i (.s (.int .i64 x1))] hh (i_laws_markSet pb0 pb1 pn0 pn1 hh b) := by
  have pl0 := gc_lt pf0
  have pl1 := gc_lt pf1
  refine R_of (by simp [c_laws_markSet, encA]) ?_
  unfold c_laws_markSet
  unfold p_laws_markSet at hp
  obtain ⟨v0, hv0, hp⟩ := bind_eq hp
  simp (disch := first | omega | (simp only [List.length_set, List.length_append, List.length_cons, List.length_nil, rows_len, zs]; first | done | omega)) only [pf0, pf1, gs, reduceIte, reduceCtorEq, Nat.reduceAdd, Nat.reduceMul, Nat.reduceSub, Nat.reduceBEq, Nat.reduceEqDiff, Nat.reduceLeDiff, Nat.reduceLT, Nat.reduceGT, Int.reduceToNat, Int.reduceLT, Int.reduceLE, Int.reduceNeg, Int.reduceAdd, Int.reduceEq, Int.reduceNe]
  refine call_f (fun h => getCells h pb0 pn0 = some (rows (x0.seen.counts : List Int)) ∧ pb0 < h.length ∧ getCells h pb1 (pn1 * 3) = some (rows (x0.entries : List TEntry)) ∧ pb1 < h.length ∧ getCells h hh.length 2 = some [.hsl pb0 pn0 0 1 false pn0, .hsl pb1 (pn1 * 3) 0 3 true pn1] ∧ hh.length < h.length ∧ Keep [pb0, pb1] hh h) (fun h v h2 => i_laws_markVector pb0 pn0 h v0 v h2) ?_ ?_ ?_
  · simp (disch := first | omega | (simp only [List.length_set, List.length_append, List.length_cons, List.length_nil, rows_len, zs]; first | done | omega)) only [i_laws_markSet, pf0, pf1, hv0, gs, reduceIte, reduceCtorEq, Nat.reduceAdd, Nat.reduceMul, Nat.reduceSub, Nat.reduceBEq, Nat.reduceEqDiff, Nat.reduceLeDiff, Nat.reduceLT, Nat.reduceGT, Int.reduceToNat, Int.reduceLT, Int.reduceLE, Int.reduceNeg, Int.reduceAdd, Int.reduceEq, Int.reduceNe] <;> (repeat (first | omega | assumption | rfl | exact keep_refl | refine keep_app ?_ | (refine keep_set (by first | (left; simp; done) | (right; simp; omega)) ?_) | refine And.intro ?_ ?_))
  · rintro h ⟨c0_0, c0_1, c0_2, c0_3, c0_4, c0_5, c0_6⟩
    exact e_laws_markVector _ _ _ hv0 pb0 pn0 h (by omega) c0_0
  · rintro h v hh0 ⟨c0_0, c0_1, c0_2, c0_3, c0_4, c0_5, c0_6⟩ hpost
    obtain ⟨kk0, rfl, w0_0⟩ := hpost
    have d0_0 : getCells hh0 pb0 pn0 = some (rows (v0.b.counts : List Int)) := w0_0
    have mm0_0 := len_rows w0_0
    simp only [zs] at mm0_0
    have d0_0l := keep_lt kk0 c0_1
    have d0_1 : getCells hh0 pb1 (pn1 * 3) = some (rows (x0.entries : List TEntry)) := (keep_get kk0 c0_3 (by first | (simp; done) | (simp; omega))).trans c0_2
    have d0_1l := keep_lt kk0 c0_3
    have d0_2 : getCells hh0 hh.length 2 = some [.hsl pb0 pn0 0 1 false pn0, .hsl pb1 (pn1 * 3) 0 3 true pn1] := (keep_get kk0 c0_5 (by first | (simp; done) | (simp; omega))).trans c0_4
    have d0_2l := keep_lt kk0 c0_5
    have kp0 : Keep [pb0, pb1] hh hh0 := keep_trans c0_6 kk0 (by intro b hb; first | (simp at hb; done) | (simp at hb ⊢; omega))
    obtain ⟨v1, hv1, hp⟩ := bind_eq hp
    simp (disch := first | omega | (simp only [List.length_set, List.length_append, List.length_cons, List.length_nil, rows_len, zs]; first | done | omega)) only [pf0, pf1, hv0, d0_0, d0_1, d0_2, gs, reduceIte, reduceCtorEq, Nat.reduceAdd, Nat.reduceMul, Nat.reduceSub, Nat.reduceBEq, Nat.reduceEqDiff, Nat.reduceLeDiff, Nat.reduceLT, Nat.reduceGT, Int.reduceToNat, Int.reduceLT, Int.reduceLE, Int.reduceNeg, Int.reduceAdd, Int.reduceEq, Int.reduceNe]
    refine call_f (fun h => getCells h pb0 pn0 = some (rows (v0.b.counts : List Int)) ∧ pb0 < h.length ∧ getCells h pb1 (pn1 * 3) = some (rows (x0.entries : List TEntry)) ∧ pb1 < h.length ∧ getCells h hh.length 2 = some [.hsl pb0 pn0 0 1 false pn0, .hsl pb1 (pn1 * 3) 0 3 true pn1] ∧ hh.length < h.length ∧ Keep [pb0, pb1] hh h) (fun h v h2 => i_laws_markEntryS pb1 pn1 h v1 v h2) ?_ ?_ ?_
    · simp (disch := first | omega | (simp only [List.length_set, List.length_append, List.length_cons, List.length_nil, rows_len, zs]; first | done | omega)) only [i_laws_markSet, pf0, pf1, hv0, d0_0, d0_1, d0_2, hv1, gs, reduceIte, reduceCtorEq, Nat.reduceAdd, Nat.reduceMul, Nat.reduceSub, Nat.reduceBEq, Nat.reduceEqDiff, Nat.reduceLeDiff, Nat.reduceLT, Nat.reduceGT, Int.reduceToNat, Int.reduceLT, Int.reduceLE, Int.reduceNeg, Int.reduceAdd, Int.reduceEq, Int.reduceNe] <;> (repeat (first | omega | assumption | rfl | exact keep_refl | refine keep_app ?_ | (refine keep_set (by first | (left; simp; done) | (right; simp; omega)) ?_) | refine And.intro ?_ ?_))
    · rintro h ⟨c1_0, c1_1, c1_2, c1_3, c1_4, c1_5, c1_6⟩
      exact e_laws_markEntryS _ _ _ hv1 pb1 pn1 h (by omega) c1_2
    · rintro h v hh1 ⟨c1_0, c1_1, c1_2, c1_3, c1_4, c1_5, c1_6⟩ hpost
      obtain ⟨kk1, rfl, w1_0⟩ := hpost
      have d1_0 : getCells hh1 pb0 pn0 = some (rows (v0.b.counts : List Int)) := (keep_get kk1 c1_1 (by first | (simp; done) | (simp; omega))).trans c1_0
      have d1_0l := keep_lt kk1 c1_1
      have d1_1 : getCells hh1 pb1 (pn1 * 3) = some (rows (v1.b : List TEntry)) := w1_0
      have mm1_0 := len_rows w1_0
      simp only [zs] at mm1_0
      have d1_1l := keep_lt kk1 c1_3
      have d1_2 : getCells hh1 hh.length 2 = some [.hsl pb0 pn0 0 1 false pn0, .hsl pb1 (pn1 * 3) 0 3 true pn1] := (keep_get kk1 c1_5 (by first | (simp; done) | (simp; omega))).trans c1_4
      have d1_2l := keep_lt kk1 c1_5
      have kp1 : Keep [pb0, pb1] hh hh1 := keep_trans c1_6 kk1 (by intro b hb; first | (simp at hb; done) | (simp at hb ⊢; omega))
      have hp := Option.some.inj hp
      subst hp
      simp (disch := first | omega | (simp only [List.length_set, List.length_append, List.length_cons, List.length_nil, rows_len, zs]; first | done | omega)) only [i_laws_markSet, pf0, pf1, hv0, d0_0, d0_1, d0_2, hv1, d1_0, d1_1, d1_2, gs, reduceIte, reduceCtorEq, Nat.reduceAdd, Nat.reduceMul, Nat.reduceSub, Nat.reduceBEq, Nat.reduceEqDiff, Nat.reduceLeDiff, Nat.reduceLT, Nat.reduceGT, Int.reduceToNat, Int.reduceLT, Int.reduceLE, Int.reduceNeg, Int.reduceAdd, Int.reduceEq, Int.reduceNe] <;> (repeat (first | omega | assumption | rfl | exact keep_refl | refine keep_app ?_ | (refine keep_set (by first | (left; simp; done) | (right; simp; omega)) ?_) | refine And.intro ?_ ?_))
theorem ko_laws_markSet {P : Program} {env : Env} {f_laws_markVector : Nat} {f_laws_markEntryS : Nat}  (e_laws_markVector : k_laws_markVector (env (2 * f_laws_markVector + 1))) (e_laws_markEntryS : k_laws_markEntryS (env (2 * f_laws_markEntryS + 1))) : k_laws_markSet (runIn P env (c_laws_markSet f_laws_markVector f_laws_markEntryS)) := by
  intro x0 x1 b hp pb0 pb1 pn0 pn1 h a0 a1 a2 a3 a4
  exact w_laws_markSet e_laws_markVector e_laws_markEntryS x0 x1 hp pb0 pb1 pn0 pn1 h a0 a1 a2 a3 a4

noncomputable def p_laws_heldIntS_l0 (x0 : List Int) : Int × Int → Option (Lp (Int × Int) Int)
  | (s0, s1) =>
    if (decide (s1 < (x0.length : Int))) = true then
      (get? x0 s1).bind fun v3 =>
      if (decide (v3 = s0)) = true then
        some (.go (w64 (s0 + 1), w64 (s1 + 1)))
      else
        some (.ret (-1))
    else
      some (.out (s0, s1))
noncomputable def p_laws_heldIntS (x0 : List Int) (x1 : Int) : Option Int :=
  (loopP (p_laws_heldIntS_l0 x0) (x1, 0)).bind fun ee0 => match ee0 with
  | .ret r => some r
  | .out (o5, o6) =>
    some o5
def c_laws_heldIntS : AFn := ⟨21, (.seq (.ops [⟨(.some 4), (.mv (.const (.int .i64 0))), .none, []⟩]) (.seq (.seq (.ops [⟨(.some 5), (.mv (.const (.int .i64 0))), .none, []⟩]) (.block 0 (.loop (.seq (.seq (.ops [⟨(.some 6), (.mv (.tmp 5)), .none, []⟩, ⟨(.some 7), (.mv (.tmp 0)), .none, []⟩, ⟨(.some 8), (.len (.tmp 7)), .none, []⟩, ⟨(.some 9), (.pu (.n (.ar .lss)) [(.tmp 6), (.tmp 8)]), .none, []⟩]) (.cond (.tmp 9) .skip (.exit 0))) (.seq (.block 1 (.seq (.seq (.ops [⟨(.some 12), (.mv (.tmp 0)), .none, []⟩, ⟨(.some 13), (.mv (.tmp 5)), .none, []⟩, ⟨(.some 14), (.idxS 1 (.tmp 12) (.tmp 13)), .none, []⟩, ⟨(.some 15), (.load 1 false (.tmp 14)), .none, []⟩, ⟨(.some 16), (.mv (.tmp 1)), .none, []⟩, ⟨(.some 17), (.pu (.n (.ar .neq)) [(.tmp 15), (.tmp 16)]), .none, []⟩]) (.cond (.tmp 17) (.seq (.ops [⟨(.some 4), (.mv (.const (.int .i64 (-1)))), .none, []⟩]) .ret) .skip)) (.ops [⟨(.some 18), (.mv (.tmp 1)), .none, []⟩, ⟨(.some 19), (.pu (.n (.ar .add)) [(.tmp 18), (.const (.int .i64 1))]), .none, []⟩, ⟨(.some 1), (.mv (.tmp 19)), .none, []⟩]))) (.ops [⟨(.some 10), (.mv (.tmp 5)), .none, []⟩, ⟨(.some 11), (.pu (.n (.ar .add)) [(.tmp 10), (.const (.int .i64 1))]), .none, []⟩, ⟨(.some 5), (.mv (.tmp 11)), .none, []⟩])))))) (.seq (.ops [⟨(.some 20), (.mv (.tmp 1)), .none, []⟩, ⟨(.some 4), (.mv (.tmp 20)), .none, []⟩]) .ret))), [(.tmp 4)]⟩
set_option maxHeartbeats 10000000 in
theorem d_laws_heldIntS {P : Program} {env : Env}  (x0 : List Int) (x1 : Int) {b : Int} (hp : p_laws_heldIntS x0 x1 = some b) : R P env (c_laws_heldIntS) ((encA (x0, x1)).map ofI) [] (Tells true b) := by
  refine R_of (by simp [c_laws_heldIntS, encA]) ?_
  unfold c_laws_heldIntS
  unfold p_laws_heldIntS at hp
  obtain ⟨ee0, hee0, hp⟩ := bind_eq hp
  simp (disch := first | omega | (simp only [List.length_set, List.length_append, List.length_cons, List.length_nil, rows_len, zs]; first | done | omega)) only [gs, reduceIte, reduceCtorEq, Nat.reduceAdd, Nat.reduceMul, Nat.reduceSub, Nat.reduceBEq, Nat.reduceEqDiff, Nat.reduceLeDiff, Nat.reduceLT, Nat.reduceGT, Int.reduceToNat, Int.reduceLT, Int.reduceLE, Int.reduceNeg, Int.reduceAdd, Int.reduceEq, Int.reduceNe]
  refine W_loopP 0 (fun s t h => match s with | (s0, s1) => t 0 = .i (.sl 1 (x0.map enc)) ∧ t 1 = .i (.s (.int .i64 s0)) ∧ t 5 = .i (.s (.int .i64 s1))) (RK [.tmp 4] (Tells true)) ?_ hee0 ?_ ?_
  · rintro ⟨s0, s1⟩ ee tt0 hh0 ⟨ftt0_0, ftt0_1, ftt0_2⟩ hp
    rw [p_laws_heldIntS_l0] at hp
    by_cases hb2 : (decide (s1 < (x0.length : Int))) = true
    · rw [if_t hb2] at hp
      obtain ⟨v3, hv3, hp⟩ := bind_eq hp
      by_cases hb4 : (decide (v3 = s0)) = true
      · rw [if_t hb4] at hp
        have hp := Option.some.inj hp
        subst hp
        simp (disch := first | omega | (simp only [List.length_set, List.length_append, List.length_cons, List.length_nil, rows_len, zs]; first | done | omega)) only [ftt0_0, ftt0_1, ftt0_2, hb2, hv3, hb4, gs, reduceIte, reduceCtorEq, Nat.reduceAdd, Nat.reduceMul, Nat.reduceSub, Nat.reduceBEq, Nat.reduceEqDiff, Nat.reduceLeDiff, Nat.reduceLT, Nat.reduceGT, Int.reduceToNat, Int.reduceLT, Int.reduceLE, Int.reduceNeg, Int.reduceAdd, Int.reduceEq, Int.reduceNe] <;> omega
      · replace hb4 := eq_false_of_ne_true hb4
        rw [if_f hb4] at hp
        have hp := Option.some.inj hp
        subst hp
        simp (disch := first | omega | (simp only [List.length_set, List.length_append, List.length_cons, List.length_nil, rows_len, zs]; first | done | omega)) only [ftt0_0, ftt0_1, ftt0_2, hb2, hv3, hb4, gs, reduceIte, reduceCtorEq, Nat.reduceAdd, Nat.reduceMul, Nat.reduceSub, Nat.reduceBEq, Nat.reduceEqDiff, Nat.reduceLeDiff, Nat.reduceLT, Nat.reduceGT, Int.reduceToNat, Int.reduceLT, Int.reduceLE, Int.reduceNeg, Int.reduceAdd, Int.reduceEq, Int.reduceNe]
    · replace hb2 := eq_false_of_ne_true hb2
      rw [if_f hb2] at hp
      have hp := Option.some.inj hp
      subst hp
      simp (disch := first | omega | (simp only [List.length_set, List.length_append, List.length_cons, List.length_nil, rows_len, zs]; first | done | omega)) only [ftt0_0, ftt0_1, ftt0_2, hb2, gs, reduceIte, reduceCtorEq, Nat.reduceAdd, Nat.reduceMul, Nat.reduceSub, Nat.reduceBEq, Nat.reduceEqDiff, Nat.reduceLeDiff, Nat.reduceLT, Nat.reduceGT, Int.reduceToNat, Int.reduceLT, Int.reduceLE, Int.reduceNeg, Int.reduceAdd, Int.reduceEq, Int.reduceNe] <;> omega
  · simp (disch := first | omega | (simp only [List.length_set, List.length_append, List.length_cons, List.length_nil, rows_len, zs]; first | done | omega)) only [gs, reduceIte, reduceCtorEq, Nat.reduceAdd, Nat.reduceMul, Nat.reduceSub, Nat.reduceBEq, Nat.reduceEqDiff, Nat.reduceLeDiff, Nat.reduceLT, Nat.reduceGT, Int.reduceToNat, Int.reduceLT, Int.reduceLE, Int.reduceNeg, Int.reduceAdd, Int.reduceEq, Int.reduceNe] <;> omega
  · intro x tt1 hh1 hx
    rcases ee0 with ⟨o5, o6⟩ | r
    · obtain ⟨rfl, ftt1_0, ftt1_1, ftt1_2⟩ := hx
      dsimp only at hp
      have hp := Option.some.inj hp
      subst hp
      simp (disch := first | omega | (simp only [List.length_set, List.length_append, List.length_cons, List.length_nil, rows_len, zs]; first | done | omega)) only [ftt1_0, ftt1_1, ftt1_2, gs, reduceIte, reduceCtorEq, Nat.reduceAdd, Nat.reduceMul, Nat.reduceSub, Nat.reduceBEq, Nat.reduceEqDiff, Nat.reduceLeDiff, Nat.reduceLT, Nat.reduceGT, Int.reduceToNat, Int.reduceLT, Int.reduceLE, Int.reduceNeg, Int.reduceAdd, Int.reduceEq, Int.reduceNe]
    · obtain ⟨rfl, hx⟩ := hx
      dsimp only at hp
      cases hp
      simp only [seqK_ret, blockK_ret, retK_RK (K := Tells true), hx, and_self, true_and]

noncomputable def p_laws_heldVector (x0 : TVec) (x1 : Int) : Option Int :=
  (p_laws_heldIntS x0.counts x1).bind fun v0 =>
  if (decide (v0 < 0)) = true then
    some (-1)
  else
    some v0
def c_laws_heldVector (f_laws_heldIntS : Nat) : AFn := ⟨12, (.seq (.ops [⟨(.some 2), (.box (.tmp 0)), .none, []⟩, ⟨(.some 4), (.mv (.const (.int .i64 0))), .none, []⟩]) (.seq (.ops [⟨(.some 5), (.fieldA 0 (.tmp 2)), .none, []⟩, ⟨(.some 6), (.load 1 false (.tmp 5)), .none, []⟩, ⟨(.some 7), (.mv (.tmp 1)), .none, []⟩, ⟨(.some 8), (.call (2 * f_laws_heldIntS) [(.tmp 6), (.tmp 7)]), .none, []⟩, ⟨(.some 1), (.mv (.tmp 8)), .none, []⟩]) (.seq (.seq (.ops [⟨(.some 9), (.mv (.tmp 1)), .none, []⟩, ⟨(.some 10), (.pu (.n (.ar .lss)) [(.tmp 9), (.const (.int .i64 0))]), .none, []⟩]) (.cond (.tmp 10) (.seq (.ops [⟨(.some 4), (.mv (.const (.int .i64 (-1)))), .none, []⟩]) .ret) .skip)) (.seq (.ops [⟨(.some 11), (.mv (.tmp 1)), .none, []⟩, ⟨(.some 4), (.mv (.tmp 11)), .none, []⟩]) .ret)))), [(.tmp 4)]⟩
set_option maxHeartbeats 10000000 in
theorem d_laws_heldVector {P : Program} {env : Env} {f_laws_heldIntS : Nat}  (ep_laws_heldIntS : env (2 * f_laws_heldIntS) = pureFn true (FA fun a : List Int × Int => p_laws_heldIntS a.1 a.2)) (x0 : TVec) (x1 : Int) {b : Int} (hp : p_laws_heldVector x0 x1 = some b) : R P env (c_laws_heldVector f_laws_heldIntS) ((encA (x0, x1)).map ofI) [] (Tells true b) := by
  refine R_of (by simp [c_laws_heldVector, encA]) ?_
  unfold c_laws_heldVector
  unfold p_laws_heldVector at hp
  obtain ⟨v0, hv0, hp⟩ := bind_eq hp
  by_cases hb1 : (decide (v0 < 0)) = true
  · rw [if_t hb1] at hp
    have hp := Option.some.inj hp
    subst hp
    simp (disch := first | omega | (simp only [List.length_set, List.length_append, List.length_cons, List.length_nil, rows_len, zs]; first | done | omega)) only [ep_laws_heldIntS, hv0, hb1, gs, reduceIte, reduceCtorEq, Nat.reduceAdd, Nat.reduceMul, Nat.reduceSub, Nat.reduceBEq, Nat.reduceEqDiff, Nat.reduceLeDiff, Nat.reduceLT, Nat.reduceGT, Int.reduceToNat, Int.reduceLT, Int.reduceLE, Int.reduceNeg, Int.reduceAdd, Int.reduceEq, Int.reduceNe]
  · replace hb1 := eq_false_of_ne_true hb1
    rw [if_f hb1] at hp
    have hp := Option.some.inj hp
    subst hp
    simp (disch := first | omega | (simp only [List.length_set, List.length_append, List.length_cons, List.length_nil, rows_len, zs]; first | done | omega)) only [ep_laws_heldIntS, hv0, hb1, gs, reduceIte, reduceCtorEq, Nat.reduceAdd, Nat.reduceMul, Nat.reduceSub, Nat.reduceBEq, Nat.reduceEqDiff, Nat.reduceLeDiff, Nat.reduceLT, Nat.reduceGT, Int.reduceToNat, Int.reduceLT, Int.reduceLE, Int.reduceNeg, Int.reduceAdd, Int.reduceEq, Int.reduceNe]

noncomputable def p_laws_heldEntryS_l0 (x0 : List TEntry) : Int × Int → Option (Lp (Int × Int) Int)
  | (s0, s1) =>
    if (decide (s1 < (x0.length : Int))) = true then
      (get? x0 s1).bind fun v3 =>
      if (decide (v3.stamp.time = s0)) = true then
        if (decide (v3.stamp.actor = w64 (s0 + 1))) = true then
          (p_laws_markText (w64 ((w64 (s0 + 1)) + 1))).bind fun v6 =>
          if (decide (v3.text = v6)) = true then
            some (.go (w64 ((w64 ((w64 (s0 + 1)) + 1)) + 1), w64 (s1 + 1)))
          else
            some (.ret (-1))
        else
          some (.ret (-1))
      else
        some (.ret (-1))
    else
      some (.out (s0, s1))
noncomputable def p_laws_heldEntryS (x0 : List TEntry) (x1 : Int) : Option Int :=
  (loopP (p_laws_heldEntryS_l0 x0) (x1, 0)).bind fun ee0 => match ee0 with
  | .ret r => some r
  | .out (o8, o9) =>
    some o8
def c_laws_heldEntryS (f_laws_markText : Nat) : AFn := ⟨43, (.seq (.ops [⟨(.some 4), (.mv (.const (.int .i64 0))), .none, []⟩]) (.seq (.seq (.ops [⟨(.some 5), (.mv (.const (.int .i64 0))), .none, []⟩]) (.block 0 (.loop (.seq (.seq (.ops [⟨(.some 6), (.mv (.tmp 5)), .none, []⟩, ⟨(.some 7), (.mv (.tmp 0)), .none, []⟩, ⟨(.some 8), (.len (.tmp 7)), .none, []⟩, ⟨(.some 9), (.pu (.n (.ar .lss)) [(.tmp 6), (.tmp 8)]), .none, []⟩]) (.cond (.tmp 9) .skip (.exit 0))) (.seq (.block 1 (.seq (.seq (.ops [⟨(.some 12), (.mv (.tmp 0)), .none, []⟩, ⟨(.some 13), (.mv (.tmp 5)), .none, []⟩, ⟨(.some 14), (.idxS 3 (.tmp 12) (.tmp 13)), .none, []⟩, ⟨(.some 15), (.fieldA 0 (.tmp 14)), .none, []⟩, ⟨(.some 16), (.fieldA 0 (.tmp 15)), .none, []⟩, ⟨(.some 17), (.load 1 false (.tmp 16)), .none, []⟩, ⟨(.some 18), (.mv (.tmp 1)), .none, []⟩, ⟨(.some 19), (.pu (.n (.ar .neq)) [(.tmp 17), (.tmp 18)]), .none, []⟩]) (.cond (.tmp 19) (.seq (.ops [⟨(.some 4), (.mv (.const (.int .i64 (-1)))), .none, []⟩]) .ret) .skip)) (.seq (.ops [⟨(.some 20), (.mv (.tmp 1)), .none, []⟩, ⟨(.some 21), (.pu (.n (.ar .add)) [(.tmp 20), (.const (.int .i64 1))]), .none, []⟩, ⟨(.some 1), (.mv (.tmp 21)), .none, []⟩]) (.seq (.seq (.ops [⟨(.some 22), (.mv (.tmp 0)), .none, []⟩, ⟨(.some 23), (.mv (.tmp 5)), .none, []⟩, ⟨(.some 24), (.idxS 3 (.tmp 22) (.tmp 23)), .none, []⟩, ⟨(.some 25), (.fieldA 0 (.tmp 24)), .none, []⟩, ⟨(.some 26), (.fieldA 1 (.tmp 25)), .none, []⟩, ⟨(.some 27), (.load 1 false (.tmp 26)), .none, []⟩, ⟨(.some 28), (.mv (.tmp 1)), .none, []⟩, ⟨(.some 29), (.pu (.n (.ar .neq)) [(.tmp 27), (.tmp 28)]), .none, []⟩]) (.cond (.tmp 29) (.seq (.ops [⟨(.some 4), (.mv (.const (.int .i64 (-1)))), .none, []⟩]) .ret) .skip)) (.seq (.ops [⟨(.some 30), (.mv (.tmp 1)), .none, []⟩, ⟨(.some 31), (.pu (.n (.ar .add)) [(.tmp 30), (.const (.int .i64 1))]), .none, []⟩, ⟨(.some 1), (.mv (.tmp 31)), .none, []⟩]) (.seq (.seq (.ops [⟨(.some 32), (.mv (.tmp 0)), .none, []⟩, ⟨(.some 33), (.mv (.tmp 5)), .none, []⟩, ⟨(.some 34), (.idxS 3 (.tmp 32) (.tmp 33)), .none, []⟩, ⟨(.some 35), (.fieldA 2 (.tmp 34)), .none, []⟩, ⟨(.some 36), (.load 1 false (.tmp 35)), .none, []⟩, ⟨(.some 37), (.mv (.tmp 1)), .none, []⟩, ⟨(.some 38), (.call (2 * f_laws_markText) [(.tmp 37)]), .none, []⟩, ⟨(.some 39), (.pu (.n (.ar .neq)) [(.tmp 36), (.tmp 38)]), .none, []⟩]) (.cond (.tmp 39) (.seq (.ops [⟨(.some 4), (.mv (.const (.int .i64 (-1)))), .none, []⟩]) .ret) .skip)) (.ops [⟨(.some 40), (.mv (.tmp 1)), .none, []⟩, ⟨(.some 41), (.pu (.n (.ar .add)) [(.tmp 40), (.const (.int .i64 1))]), .none, []⟩, ⟨(.some 1), (.mv (.tmp 41)), .none, []⟩]))))))) (.ops [⟨(.some 10), (.mv (.tmp 5)), .none, []⟩, ⟨(.some 11), (.pu (.n (.ar .add)) [(.tmp 10), (.const (.int .i64 1))]), .none, []⟩, ⟨(.some 5), (.mv (.tmp 11)), .none, []⟩])))))) (.seq (.ops [⟨(.some 42), (.mv (.tmp 1)), .none, []⟩, ⟨(.some 4), (.mv (.tmp 42)), .none, []⟩]) .ret))), [(.tmp 4)]⟩
set_option maxHeartbeats 10000000 in
theorem d_laws_heldEntryS {P : Program} {env : Env} {f_laws_markText : Nat}  (ep_laws_markText : env (2 * f_laws_markText) = pureFn true (FA fun a : Int => p_laws_markText a)) (x0 : List TEntry) (x1 : Int) {b : Int} (hp : p_laws_heldEntryS x0 x1 = some b) : R P env (c_laws_heldEntryS f_laws_markText) ((encA (x0, x1)).map ofI) [] (Tells true b) := by
  refine R_of (by simp [c_laws_heldEntryS, encA]) ?_
  unfold c_laws_heldEntryS
  unfold p_laws_heldEntryS at hp
  obtain ⟨ee0, hee0, hp⟩ := bind_eq hp
  simp (disch := first | omega | (simp only [List.length_set, List.length_append, List.length_cons, List.length_nil, rows_len, zs]; first | done | omega)) only [ep_laws_markText, gs, reduceIte, reduceCtorEq, Nat.reduceAdd, Nat.reduceMul, Nat.reduceSub, Nat.reduceBEq, Nat.reduceEqDiff, Nat.reduceLeDiff, Nat.reduceLT, Nat.reduceGT, Int.reduceToNat, Int.reduceLT, Int.reduceLE, Int.reduceNeg, Int.reduceAdd, Int.reduceEq, Int.reduceNe]
  refine W_loopP 0 (fun s t h => match s with | (s0, s1) => t 0 = .i (.sl 3 (x0.map enc)) ∧ t 1 = .i (.s (.int .i64 s0)) ∧ t 5 = .i (.s (.int .i64 s1))) (RK [.tmp 4] (Tells true)) ?_ hee0 ?_ ?_
  · rintro ⟨s0, s1⟩ ee tt0 hh0 ⟨ftt0_0, ftt0_1, ftt0_2⟩ hp
    rw [p_laws_heldEntryS_l0] at hp
    by_cases hb2 : (decide (s1 < (x0.length : Int))) = true
    · rw [if_t hb2] at hp
      obtain ⟨v3, hv3, hp⟩ := bind_eq hp
      by_cases hb4 : (decide (v3.stamp.time = s0)) = true
      · rw [if_t hb4] at hp
        by_cases hb5 : (decide (v3.stamp.actor = w64 (s0 + 1))) = true
        · rw [if_t hb5] at hp
          obtain ⟨v6, hv6, hp⟩ := bind_eq hp
          by_cases hb7 : (decide (v3.text = v6)) = true
          · rw [if_t hb7] at hp
            have hp := Option.some.inj hp
            subst hp
            simp (disch := first | omega | (simp only [List.length_set, List.length_append, List.length_cons, List.length_nil, rows_len, zs]; first | done | omega)) only [ep_laws_markText, ftt0_0, ftt0_1, ftt0_2, hb2, hv3, hb4, hb5, hv6, hb7, gs, reduceIte, reduceCtorEq, Nat.reduceAdd, Nat.reduceMul, Nat.reduceSub, Nat.reduceBEq, Nat.reduceEqDiff, Nat.reduceLeDiff, Nat.reduceLT, Nat.reduceGT, Int.reduceToNat, Int.reduceLT, Int.reduceLE, Int.reduceNeg, Int.reduceAdd, Int.reduceEq, Int.reduceNe] <;> omega
          · replace hb7 := eq_false_of_ne_true hb7
            rw [if_f hb7] at hp
            have hp := Option.some.inj hp
            subst hp
            simp (disch := first | omega | (simp only [List.length_set, List.length_append, List.length_cons, List.length_nil, rows_len, zs]; first | done | omega)) only [ep_laws_markText, ftt0_0, ftt0_1, ftt0_2, hb2, hv3, hb4, hb5, hv6, hb7, gs, reduceIte, reduceCtorEq, Nat.reduceAdd, Nat.reduceMul, Nat.reduceSub, Nat.reduceBEq, Nat.reduceEqDiff, Nat.reduceLeDiff, Nat.reduceLT, Nat.reduceGT, Int.reduceToNat, Int.reduceLT, Int.reduceLE, Int.reduceNeg, Int.reduceAdd, Int.reduceEq, Int.reduceNe]
        · replace hb5 := eq_false_of_ne_true hb5
          rw [if_f hb5] at hp
          have hp := Option.some.inj hp
          subst hp
          simp (disch := first | omega | (simp only [List.length_set, List.length_append, List.length_cons, List.length_nil, rows_len, zs]; first | done | omega)) only [ep_laws_markText, ftt0_0, ftt0_1, ftt0_2, hb2, hv3, hb4, hb5, gs, reduceIte, reduceCtorEq, Nat.reduceAdd, Nat.reduceMul, Nat.reduceSub, Nat.reduceBEq, Nat.reduceEqDiff, Nat.reduceLeDiff, Nat.reduceLT, Nat.reduceGT, Int.reduceToNat, Int.reduceLT, Int.reduceLE, Int.reduceNeg, Int.reduceAdd, Int.reduceEq, Int.reduceNe]
      · replace hb4 := eq_false_of_ne_true hb4
        rw [if_f hb4] at hp
        have hp := Option.some.inj hp
        subst hp
        simp (disch := first | omega | (simp only [List.length_set, List.length_append, List.length_cons, List.length_nil, rows_len, zs]; first | done | omega)) only [ep_laws_markText, ftt0_0, ftt0_1, ftt0_2, hb2, hv3, hb4, gs, reduceIte, reduceCtorEq, Nat.reduceAdd, Nat.reduceMul, Nat.reduceSub, Nat.reduceBEq, Nat.reduceEqDiff, Nat.reduceLeDiff, Nat.reduceLT, Nat.reduceGT, Int.reduceToNat, Int.reduceLT, Int.reduceLE, Int.reduceNeg, Int.reduceAdd, Int.reduceEq, Int.reduceNe]
    · replace hb2 := eq_false_of_ne_true hb2
      rw [if_f hb2] at hp
      have hp := Option.some.inj hp
      subst hp
      simp (disch := first | omega | (simp only [List.length_set, List.length_append, List.length_cons, List.length_nil, rows_len, zs]; first | done | omega)) only [ep_laws_markText, ftt0_0, ftt0_1, ftt0_2, hb2, gs, reduceIte, reduceCtorEq, Nat.reduceAdd, Nat.reduceMul, Nat.reduceSub, Nat.reduceBEq, Nat.reduceEqDiff, Nat.reduceLeDiff, Nat.reduceLT, Nat.reduceGT, Int.reduceToNat, Int.reduceLT, Int.reduceLE, Int.reduceNeg, Int.reduceAdd, Int.reduceEq, Int.reduceNe] <;> omega
  · simp (disch := first | omega | (simp only [List.length_set, List.length_append, List.length_cons, List.length_nil, rows_len, zs]; first | done | omega)) only [ep_laws_markText, gs, reduceIte, reduceCtorEq, Nat.reduceAdd, Nat.reduceMul, Nat.reduceSub, Nat.reduceBEq, Nat.reduceEqDiff, Nat.reduceLeDiff, Nat.reduceLT, Nat.reduceGT, Int.reduceToNat, Int.reduceLT, Int.reduceLE, Int.reduceNeg, Int.reduceAdd, Int.reduceEq, Int.reduceNe] <;> omega
  · intro x tt1 hh1 hx
    rcases ee0 with ⟨o8, o9⟩ | r
    · obtain ⟨rfl, ftt1_0, ftt1_1, ftt1_2⟩ := hx
      dsimp only at hp
      have hp := Option.some.inj hp
      subst hp
      simp (disch := first | omega | (simp only [List.length_set, List.length_append, List.length_cons, List.length_nil, rows_len, zs]; first | done | omega)) only [ep_laws_markText, ftt1_0, ftt1_1, ftt1_2, gs, reduceIte, reduceCtorEq, Nat.reduceAdd, Nat.reduceMul, Nat.reduceSub, Nat.reduceBEq, Nat.reduceEqDiff, Nat.reduceLeDiff, Nat.reduceLT, Nat.reduceGT, Int.reduceToNat, Int.reduceLT, Int.reduceLE, Int.reduceNeg, Int.reduceAdd, Int.reduceEq, Int.reduceNe]
    · obtain ⟨rfl, hx⟩ := hx
      dsimp only at hp
      cases hp
      simp only [seqK_ret, blockK_ret, retK_RK (K := Tells true), hx, and_self, true_and]

noncomputable def p_laws_heldSet (x0 : TMulti) (x1 : Int) : Option Int :=
  (p_laws_heldVector x0.seen x1).bind fun v0 =>
  if (decide (v0 < 0)) = true then
    some (-1)
  else
    (p_laws_heldEntryS x0.entries v0).bind fun v2 =>
    if (decide (v2 < 0)) = true then
      some (-1)
    else
      some v2
def c_laws_heldSet (f_laws_heldVector : Nat) (f_laws_heldEntryS : Nat) : AFn := ⟨18, (.seq (.ops [⟨(.some 2), (.box (.tmp 0)), .none, []⟩, ⟨(.some 4), (.mv (.const (.int .i64 0))), .none, []⟩]) (.seq (.ops [⟨(.some 5), (.fieldA 0 (.tmp 2)), .none, []⟩, ⟨(.some 6), (.load 1 true (.tmp 5)), .none, []⟩, ⟨(.some 7), (.mv (.tmp 1)), .none, []⟩, ⟨(.some 8), (.call (2 * f_laws_heldVector) [(.tmp 6), (.tmp 7)]), .none, []⟩, ⟨(.some 1), (.mv (.tmp 8)), .none, []⟩]) (.seq (.seq (.ops [⟨(.some 9), (.mv (.tmp 1)), .none, []⟩, ⟨(.some 10), (.pu (.n (.ar .lss)) [(.tmp 9), (.const (.int .i64 0))]), .none, []⟩]) (.cond (.tmp 10) (.seq (.ops [⟨(.some 4), (.mv (.const (.int .i64 (-1)))), .none, []⟩]) .ret) .skip)) (.seq (.ops [⟨(.some 11), (.fieldA 1 (.tmp 2)), .none, []⟩, ⟨(.some 12), (.load 1 false (.tmp 11)), .none, []⟩, ⟨(.some 13), (.mv (.tmp 1)), .none, []⟩, ⟨(.some 14), (.call (2 * f_laws_heldEntryS) [(.tmp 12), (.tmp 13)]), .none, []⟩, ⟨(.some 1), (.mv (.tmp 14)), .none, []⟩]) (.seq (.seq (.ops [⟨(.some 15), (.mv (.tmp 1)), .none, []⟩, ⟨(.some 16), (.pu (.n (.ar .lss)) [(.tmp 15), (.const (.int .i64 0))]), .none, []⟩]) (.cond (.tmp 16) (.seq (.ops [⟨(.some 4), (.mv (.const (.int .i64 (-1)))), .none, []⟩]) .ret) .skip)) (.seq (.ops [⟨(.some 17), (.mv (.tmp 1)), .none, []⟩, ⟨(.some 4), (.mv (.tmp 17)), .none, []⟩]) .ret)))))), [(.tmp 4)]⟩
set_option maxHeartbeats 10000000 in
theorem d_laws_heldSet {P : Program} {env : Env} {f_laws_heldVector : Nat} {f_laws_heldEntryS : Nat}  (ep_laws_heldVector : env (2 * f_laws_heldVector) = pureFn true (FA fun a : TVec × Int => p_laws_heldVector a.1 a.2)) (ep_laws_heldEntryS : env (2 * f_laws_heldEntryS) = pureFn true (FA fun a : List TEntry × Int => p_laws_heldEntryS a.1 a.2)) (x0 : TMulti) (x1 : Int) {b : Int} (hp : p_laws_heldSet x0 x1 = some b) : R P env (c_laws_heldSet f_laws_heldVector f_laws_heldEntryS) ((encA (x0, x1)).map ofI) [] (Tells true b) := by
  refine R_of (by simp [c_laws_heldSet, encA]) ?_
  unfold c_laws_heldSet
  unfold p_laws_heldSet at hp
  obtain ⟨v0, hv0, hp⟩ := bind_eq hp
  by_cases hb1 : (decide (v0 < 0)) = true
  · rw [if_t hb1] at hp
    have hp := Option.some.inj hp
    subst hp
    simp (disch := first | omega | (simp only [List.length_set, List.length_append, List.length_cons, List.length_nil, rows_len, zs]; first | done | omega)) only [ep_laws_heldVector, ep_laws_heldEntryS, hv0, hb1, gs, reduceIte, reduceCtorEq, Nat.reduceAdd, Nat.reduceMul, Nat.reduceSub, Nat.reduceBEq, Nat.reduceEqDiff, Nat.reduceLeDiff, Nat.reduceLT, Nat.reduceGT, Int.reduceToNat, Int.reduceLT, Int.reduceLE, Int.reduceNeg, Int.reduceAdd, Int.reduceEq, Int.reduceNe]
  · replace hb1 := eq_false_of_ne_true hb1
    rw [if_f hb1] at hp
    obtain ⟨v2, hv2, hp⟩ := bind_eq hp
    by_cases hb3 : (decide (v2 < 0)) = true
    · rw [if_t hb3] at hp
      have hp := Option.some.inj hp
      subst hp
      simp (disch := first | omega | (simp only [List.length_set, List.length_append, List.length_cons, List.length_nil, rows_len, zs]; first | done | omega)) only [ep_laws_heldVector, ep_laws_heldEntryS, hv0, hb1, hv2, hb3, gs, reduceIte, reduceCtorEq, Nat.reduceAdd, Nat.reduceMul, Nat.reduceSub, Nat.reduceBEq, Nat.reduceEqDiff, Nat.reduceLeDiff, Nat.reduceLT, Nat.reduceGT, Int.reduceToNat, Int.reduceLT, Int.reduceLE, Int.reduceNeg, Int.reduceAdd, Int.reduceEq, Int.reduceNe]
    · replace hb3 := eq_false_of_ne_true hb3
      rw [if_f hb3] at hp
      have hp := Option.some.inj hp
      subst hp
      simp (disch := first | omega | (simp only [List.length_set, List.length_append, List.length_cons, List.length_nil, rows_len, zs]; first | done | omega)) only [ep_laws_heldVector, ep_laws_heldEntryS, hv0, hb1, hv2, hb3, gs, reduceIte, reduceCtorEq, Nat.reduceAdd, Nat.reduceMul, Nat.reduceSub, Nat.reduceBEq, Nat.reduceEqDiff, Nat.reduceLeDiff, Nat.reduceLT, Nat.reduceGT, Int.reduceToNat, Int.reduceLT, Int.reduceLE, Int.reduceNeg, Int.reduceAdd, Int.reduceEq, Int.reduceNe]

noncomputable def p_laws_FnExactSetJoin (x0 : TMulti) (x1 : TMulti) : Option Bool :=
  (p_laws_szSet x0 1048576).bind fun v0 =>
  if (decide (v0 < 0)) = true then
    some true
  else
    (p_laws_szSet x1 v0).bind fun v2 =>
    if (decide (v2 < 0)) = true then
      some true
    else
      (p_laws_toSet x0).bind fun v4 =>
      (p_laws_toSet x1).bind fun v5 =>
      (p_spec_SetJoin v4 v5).bind fun v6 =>
      (p_impl_SetJoin v4 v5).bind fun v7 =>
      (p_laws_eqSet v7.a v6.a).bind fun v8 =>
      if (v8) = true then
        if (decide (v7.b = v6.b)) = true then
          (p_laws_eqSet v4 v4).bind fun v11 =>
          if (v11) = true then
            (p_laws_eqSet v5 v5).bind fun v13 =>
            if (v13) = true then
              (p_laws_markSet v4 1).bind fun v15 =>
              (p_laws_markSet v5 v15.a).bind fun v16 =>
              if (decide (v16.a < 0)) = true then
                some false
              else
                (p_laws_markSet v7.a 1).bind fun v18 =>
                (p_laws_heldSet v18.b 1).bind fun v19 =>
                if (decide (v19 < 0)) = true then
                  some false
                else
                  if (decide (v19 = v18.a)) = true then
                    some true
                  else
                    some false
            else
              some false
          else
            some false
        else
          some false
      else
        some false
def c_laws_FnExactSetJoin (f_laws_szSet : Nat) (f_laws_toSet : Nat) (f_spec_SetJoin : Nat) (f_impl_SetJoin : Nat) (f_laws_eqSet : Nat) (f_laws_markSet : Nat) (f_laws_heldSet : Nat) : AFn := ⟨119, (.seq (.ops [⟨(.some 2), (.box (.tmp 0)), .none, []⟩, ⟨(.some 3), (.box (.tmp 1)), .none, []⟩, ⟨(.some 4), (.mv (.const (.bool false))), .none, []⟩]) (.seq (.ops [⟨(.some 5), (.mv (.const (.int .i64 1048576))), .none, []⟩]) (.seq (.ops [⟨(.some 17), (.load 2 true (.tmp 2)), .none, []⟩, ⟨(.some 18), (.mv (.tmp 5)), .none, []⟩, ⟨(.some 19), (.call (2 * f_laws_szSet) [(.tmp 17), (.tmp 18)]), .none, []⟩, ⟨(.some 5), (.mv (.tmp 19)), .none, []⟩]) (.seq (.seq (.ops [⟨(.some 20), (.mv (.tmp 5)), .none, []⟩, ⟨(.some 21), (.pu (.n (.ar .lss)) [(.tmp 20), (.const (.int .i64 0))]), .none, []⟩]) (.cond (.tmp 21) (.seq (.ops [⟨(.some 4), (.mv (.const (.bool true))), .none, []⟩]) .ret) .skip)) (.seq (.ops [⟨(.some 22), (.load 2 true (.tmp 3)), .none, []⟩, ⟨(.some 23), (.mv (.tmp 5)), .none, []⟩, ⟨(.some 24), (.call (2 * f_laws_szSet) [(.tmp 22), (.tmp 23)]), .none, []⟩, ⟨(.some 5), (.mv (.tmp 24)), .none, []⟩]) (.seq (.seq (.ops [⟨(.some 25), (.mv (.tmp 5)), .none, []⟩, ⟨(.some 26), (.pu (.n (.ar .lss)) [(.tmp 25), (.const (.int .i64 0))]), .none, []⟩]) (.cond (.tmp 26) (.seq (.ops [⟨(.some 4), (.mv (.const (.bool true))), .none, []⟩]) .ret) .skip)) (.seq (.ops [⟨(.some 28), (.load 2 true (.tmp 2)), .none, []⟩, ⟨(.some 29), (.call (2 * f_laws_toSet) [(.tmp 28)]), .none, []⟩, ⟨(.some 30), (.load 2 true (.tmp 3)), .none, []⟩, ⟨(.some 31), (.call (2 * f_laws_toSet) [(.tmp 30)]), .none, []⟩, ⟨(.some 32), (.call (2 * f_spec_SetJoin) [(.tmp 29), (.tmp 31)]), .none, []⟩, ⟨(.some 27), (.mv (.tmp 32)), .none, []⟩, ⟨(.some 33), (.extract 0 (.tmp 27)), .none, []⟩, ⟨(.some 34), (.extract 1 (.tmp 27)), .none, []⟩, ⟨(.some 6), (.alloc [(.slice .none 0 0), (.slice .none 0 0)]), .none, []⟩, ⟨.none, (.store 2 (.tmp 6) (.tmp 33)), .none, []⟩, ⟨(.some 7), (.mv (.tmp 34)), .none, []⟩]) (.seq (.ops [⟨(.some 35), (.load 2 true (.tmp 2)), .none, []⟩, ⟨(.some 36), (.call (2 * f_laws_toSet + 1) [(.tmp 35)]), .none, []⟩, ⟨(.some 8), (.allocV [(1, false), (3, true)] [(.slice .none 0 0), (.slice .none 0 0)]), .none, []⟩, ⟨.none, (.storeV [(1, false), (3, true)] 2 (.tmp 8) (.tmp 36)), .none, []⟩]) (.seq (.ops [⟨(.some 37), (.load 2 true (.tmp 3)), .none, []⟩, ⟨(.some 38), (.call (2 * f_laws_toSet + 1) [(.tmp 37)]), .none, []⟩, ⟨(.some 9), (.allocV [(1, false), (3, true)] [(.slice .none 0 0), (.slice .none 0 0)]), .none, []⟩, ⟨.none, (.storeV [(1, false), (3, true)] 2 (.tmp 9) (.tmp 38)), .none, []⟩]) (.seq (.ops [⟨(.some 40), (.load 2 true (.tmp 8)), .none, []⟩, ⟨(.some 41), (.load 2 true (.tmp 9)), .none, []⟩, ⟨(.some 42), (.call (2 * f_impl_SetJoin + 1) [(.tmp 40), (.tmp 41)]), .none, []⟩, ⟨(.some 39), (.mv (.tmp 42)), .none, []⟩, ⟨(.some 43), (.extract 0 (.tmp 39)), .none, []⟩, ⟨(.some 44), (.extract 1 (.tmp 39)), .none, []⟩, ⟨(.some 10), (.allocV [(1, false), (3, true)] [(.slice .none 0 0), (.slice .none 0 0)]), .none, []⟩, ⟨.none, (.storeV [(1, false), (3, true)] 2 (.tmp 10) (.tmp 43)), .none, []⟩, ⟨(.some 11), (.mv (.tmp 44)), .none, []⟩]) (.seq (.seq (.ops [⟨(.some 45), (.load 2 true (.tmp 10)), .none, []⟩, ⟨(.some 46), (.load 2 true (.tmp 6)), .none, []⟩, ⟨(.some 47), (.call (2 * f_laws_eqSet) [(.tmp 45), (.tmp 46)]), .none, []⟩, ⟨(.some 48), (.pu (.n (.un .not)) [(.tmp 47)]), .none, []⟩, ⟨(.some 49), (.mv (.tmp 48)), .none, []⟩, ⟨(.some 50), (.mv (.tmp 11)), (.some (49, false)), []⟩, ⟨(.some 51), (.mv (.tmp 7)), (.some (49, false)), []⟩, ⟨(.some 52), (.pu (.n (.ar .neq)) [(.tmp 50), (.tmp 51)]), (.some (49, false)), []⟩, ⟨(.some 53), (.pick (.tmp 49) (.const (.bool true)) (.tmp 52)), .none, []⟩]) (.cond (.tmp 53) (.seq (.ops [⟨(.some 4), (.mv (.const (.bool false))), .none, []⟩]) .ret) .skip)) (.seq (.seq (.ops [⟨(.some 54), (.load 2 true (.tmp 8)), .none, []⟩, ⟨(.some 55), (.load 2 true (.tmp 2)), .none, []⟩, ⟨(.some 56), (.call (2 * f_laws_toSet) [(.tmp 55)]), .none, []⟩, ⟨(.some 57), (.call (2 * f_laws_eqSet) [(.tmp 54), (.tmp 56)]), .none, []⟩, ⟨(.some 58), (.pu (.n (.un .not)) [(.tmp 57)]), .none, []⟩]) (.cond (.tmp 58) (.seq (.ops [⟨(.some 4), (.mv (.const (.bool false))), .none, []⟩]) .ret) .skip)) (.seq (.seq (.ops [⟨(.some 59), (.load 2 true (.tmp 9)), .none, []⟩, ⟨(.some 60), (.load 2 true (.tmp 3)), .none, []⟩, ⟨(.some 61), (.call (2 * f_laws_toSet) [(.tmp 60)]), .none, []⟩, ⟨(.some 62), (.call (2 * f_laws_eqSet) [(.tmp 59), (.tmp 61)]), .none, []⟩, ⟨(.some 63), (.pu (.n (.un .not)) [(.tmp 62)]), .none, []⟩]) (.cond (.tmp 63) (.seq (.ops [⟨(.some 4), (.mv (.const (.bool false))), .none, []⟩]) .ret) .skip)) (.seq (.ops [⟨(.some 12), (.mv (.const (.int .i64 1))), .none, []⟩]) (.seq (.ops [⟨(.some 64), (.load 2 true (.tmp 8)), .none, []⟩, ⟨(.some 65), (.mv (.tmp 12)), .none, []⟩, ⟨(.some 66), (.call (2 * f_laws_markSet + 1) [(.tmp 64), (.tmp 65)]), .none, []⟩, ⟨(.some 12), (.mv (.tmp 66)), .none, []⟩]) (.seq (.ops [⟨(.some 67), (.load 2 true (.tmp 9)), .none, []⟩, ⟨(.some 68), (.mv (.tmp 12)), .none, []⟩, ⟨(.some 69), (.call (2 * f_laws_markSet + 1) [(.tmp 67), (.tmp 68)]), .none, []⟩, ⟨(.some 12), (.mv (.tmp 69)), .none, []⟩]) (.seq (.seq (.ops [⟨(.some 70), (.mv (.tmp 12)), .none, []⟩, ⟨(.some 71), (.pu (.n (.ar .lss)) [(.tmp 70), (.const (.int .i64 0))]), .none, []⟩, ⟨(.some 72), (.mv (.tmp 71)), .none, []⟩, ⟨(.some 73), (.load 2 true (.tmp 10)), (.some (72, false)), []⟩, ⟨(.some 74), (.load 2 true (.tmp 6)), (.some (72, false)), []⟩, ⟨(.some 75), (.call (2 * f_laws_eqSet) [(.tmp 73), (.tmp 74)]), (.some (72, false)), []⟩, ⟨(.some 76), (.pu (.n (.un .not)) [(.tmp 75)]), (.some (72, false)), []⟩, ⟨(.some 77), (.pick (.tmp 72) (.const (.bool true)) (.tmp 76)), .none, []⟩, ⟨(.some 78), (.mv (.tmp 77)), .none, []⟩, ⟨(.some 79), (.mv (.tmp 11)), (.some (78, false)), []⟩, ⟨(.some 80), (.mv (.tmp 7)), (.some (78, false)), []⟩, ⟨(.some 81), (.pu (.n (.ar .neq)) [(.tmp 79), (.tmp 80)]), (.some (78, false)), []⟩, ⟨(.some 82), (.pick (.tmp 78) (.const (.bool true)) (.tmp 81)), .none, []⟩]) (.cond (.tmp 82) (.seq (.ops [⟨(.some 4), (.mv (.const (.bool false))), .none, []⟩]) .ret) .skip)) (.seq (.ops [⟨(.some 13), (.mv (.const (.int .i64 1))), .none, []⟩]) (.seq (.ops [⟨(.some 83), (.load 2 true (.tmp 10)), .none, []⟩, ⟨(.some 84), (.mv (.tmp 13)), .none, []⟩, ⟨(.some 85), (.call (2 * f_laws_markSet + 1) [(.tmp 83), (.tmp 84)]), .none, []⟩, ⟨(.some 13), (.mv (.tmp 85)), .none, []⟩]) (.seq (.ops [⟨(.some 14), (.mv (.const (.int .i64 1))), .none, []⟩]) (.seq (.ops [⟨(.some 86), (.load 2 true (.tmp 10)), .none, []⟩, ⟨(.some 87), (.mv (.tmp 14)), .none, []⟩, ⟨(.some 88), (.call (2 * f_laws_heldSet) [(.tmp 86), (.tmp 87)]), .none, []⟩, ⟨(.some 14), (.mv (.tmp 88)), .none, []⟩]) (.seq (.seq (.ops [⟨(.some 89), (.mv (.tmp 14)), .none, []⟩, ⟨(.some 90), (.pu (.n (.ar .lss)) [(.tmp 89), (.const (.int .i64 0))]), .none, []⟩]) (.cond (.tmp 90) (.seq (.ops [⟨(.some 4), (.mv (.const (.bool false))), .none, []⟩]) .ret) .skip)) (.seq (.seq (.ops [⟨(.some 91), (.mv (.tmp 14)), .none, []⟩, ⟨(.some 92), (.mv (.tmp 13)), .none, []⟩, ⟨(.some 93), (.pu (.n (.ar .neq)) [(.tmp 91), (.tmp 92)]), .none, []⟩]) (.cond (.tmp 93) (.seq (.ops [⟨(.some 4), (.mv (.const (.bool false))), .none, []⟩]) .ret) .skip)) (.seq (.ops [⟨(.some 95), (.load 2 true (.tmp 2)), .none, []⟩, ⟨(.some 96), (.call (2 * f_laws_toSet) [(.tmp 95)]), .none, []⟩, ⟨(.some 97), (.load 2 true (.tmp 3)), .none, []⟩, ⟨(.some 98), (.call (2 * f_laws_toSet) [(.tmp 97)]), .none, []⟩, ⟨(.some 99), (.call (2 * f_impl_SetJoin) [(.tmp 96), (.tmp 98)]), .none, []⟩, ⟨(.some 94), (.mv (.tmp 99)), .none, []⟩, ⟨(.some 100), (.extract 0 (.tmp 94)), .none, []⟩, ⟨(.some 101), (.extract 1 (.tmp 94)), .none, []⟩, ⟨(.some 15), (.alloc [(.slice .none 0 0), (.slice .none 0 0)]), .none, []⟩, ⟨.none, (.store 2 (.tmp 15) (.tmp 100)), .none, []⟩, ⟨(.some 16), (.mv (.tmp 101)), .none, []⟩]) (.seq (.seq (.ops [⟨(.some 102), (.load 2 true (.tmp 15)), .none, []⟩, ⟨(.some 103), (.load 2 true (.tmp 6)), .none, []⟩, ⟨(.some 104), (.call (2 * f_laws_eqSet) [(.tmp 102), (.tmp 103)]), .none, []⟩, ⟨(.some 105), (.pu (.n (.un .not)) [(.tmp 104)]), .none, []⟩, ⟨(.some 106), (.mv (.tmp 105)), .none, []⟩, ⟨(.some 107), (.mv (.tmp 16)), (.some (106, false)), []⟩, ⟨(.some 108), (.mv (.tmp 7)), (.some (106, false)), []⟩, ⟨(.some 109), (.pu (.n (.ar .neq)) [(.tmp 107), (.tmp 108)]), (.some (106, false)), []⟩, ⟨(.some 110), (.pick (.tmp 106) (.const (.bool true)) (.tmp 109)), .none, []⟩]) (.cond (.tmp 110) (.seq (.ops [⟨(.some 4), (.mv (.const (.bool false))), .none, []⟩]) .ret) .skip)) (.seq (.ops [⟨(.some 14), (.mv (.const (.int .i64 1))), .none, []⟩]) (.seq (.ops [⟨(.some 111), (.load 2 true (.tmp 10)), .none, []⟩, ⟨(.some 112), (.mv (.tmp 14)), .none, []⟩, ⟨(.some 113), (.call (2 * f_laws_heldSet) [(.tmp 111), (.tmp 112)]), .none, []⟩, ⟨(.some 14), (.mv (.tmp 113)), .none, []⟩]) (.seq (.seq (.ops [⟨(.some 114), (.mv (.tmp 14)), .none, []⟩, ⟨(.some 115), (.pu (.n (.ar .lss)) [(.tmp 114), (.const (.int .i64 0))]), .none, []⟩]) (.cond (.tmp 115) (.seq (.ops [⟨(.some 4), (.mv (.const (.bool false))), .none, []⟩]) .ret) .skip)) (.seq (.seq (.ops [⟨(.some 116), (.mv (.tmp 14)), .none, []⟩, ⟨(.some 117), (.mv (.tmp 13)), .none, []⟩, ⟨(.some 118), (.pu (.n (.ar .neq)) [(.tmp 116), (.tmp 117)]), .none, []⟩]) (.cond (.tmp 118) (.seq (.ops [⟨(.some 4), (.mv (.const (.bool false))), .none, []⟩]) .ret) .skip)) (.seq (.ops [⟨(.some 4), (.mv (.const (.bool true))), .none, []⟩]) .ret)))))))))))))))))))))))))))))), [(.tmp 4)]⟩
set_option maxHeartbeats 10000000 in
theorem d_laws_FnExactSetJoin {P : Program} {env : Env} {f_laws_szSet : Nat} {f_laws_toSet : Nat} {f_spec_SetJoin : Nat} {f_impl_SetJoin : Nat} {f_laws_eqSet : Nat} {f_laws_markSet : Nat} {f_laws_heldSet : Nat}  (ep_laws_szSet : env (2 * f_laws_szSet) = pureFn true (FA fun a : TMulti × Int => p_laws_szSet a.1 a.2)) (ep_laws_toSet : env (2 * f_laws_toSet) = pureFn true (FA fun a : TMulti => p_laws_toSet a)) (ep_spec_SetJoin : env (2 * f_spec_SetJoin) = pureFn false (FA fun a : TMulti × TMulti => p_spec_SetJoin a.1 a.2)) (ep_laws_eqSet : env (2 * f_laws_eqSet) = pureFn true (FA fun a : TMulti × TMulti => p_laws_eqSet a.1 a.2)) (ep_laws_heldSet : env (2 * f_laws_heldSet) = pureFn true (FA fun a : TMulti × Int => p_laws_heldSet a.1 a.2)) (ep_impl_SetJoin : env (2 * f_impl_SetJoin) = pureFn true (FA fun a : TMulti × TMulti => p_impl_SetJoin a.1 a.2)) (e_laws_toSet : k_laws_toSet (env (2 * f_laws_toSet + 1))) (e_impl_SetJoin : k_impl_SetJoin (env (2 * f_impl_SetJoin + 1))) (e_laws_markSet : k_laws_markSet (env (2 * f_laws_markSet + 1))) (x0 : TMulti) (x1 : TMulti) (hp : p_laws_FnExactSetJoin x0 x1 = some true) : R P env (c_laws_FnExactSetJoin f_laws_szSet f_laws_toSet f_spec_SetJoin f_impl_SetJoin f_laws_eqSet f_laws_markSet f_laws_heldSet) ((encA (x0, x1)).map ofI) [] (fun v _ => v = .i (iB true)) := by
  refine R_of (by simp [c_laws_FnExactSetJoin, encA]) ?_
  unfold c_laws_FnExactSetJoin
  unfold p_laws_FnExactSetJoin at hp
  obtain ⟨v0, hv0, hp⟩ := bind_eq hp
  by_cases hb1 : (decide (v0 < 0)) = true
  · rw [if_t hb1] at hp
    cases hp
    simp (disch := first | omega | (simp only [List.length_set, List.length_append, List.length_cons, List.length_nil, rows_len, zs]; first | done | omega)) only [ep_laws_szSet, ep_laws_toSet, ep_spec_SetJoin, ep_laws_eqSet, ep_laws_heldSet, ep_impl_SetJoin, hv0, hb1, gs, reduceIte, reduceCtorEq, Nat.reduceAdd, Nat.reduceMul, Nat.reduceSub, Nat.reduceBEq, Nat.reduceEqDiff, Nat.reduceLeDiff, Nat.reduceLT, Nat.reduceGT, Int.reduceToNat, Int.reduceLT, Int.reduceLE, Int.reduceNeg, Int.reduceAdd, Int.reduceEq, Int.reduceNe]
  · replace hb1 := eq_false_of_ne_true hb1
    rw [if_f hb1] at hp
    obtain ⟨v2, hv2, hp⟩ := bind_eq hp
    by_cases hb3 : (decide (v2 < 0)) = true
    · rw [if_t hb3] at hp
      cases hp
      simp (disch := first | omega | (simp only [List.length_set, List.length_append, List.length_cons, List.length_nil, rows_len, zs]; first | done | omega)) only [ep_laws_szSet, ep_laws_toSet, ep_spec_SetJoin, ep_laws_eqSet, ep_laws_heldSet, ep_impl_SetJoin, hv0, hb1, hv2, hb3, gs, reduceIte, reduceCtorEq, Nat.reduceAdd, Nat.reduceMul, Nat.reduceSub, Nat.reduceBEq, Nat.reduceEqDiff, Nat.reduceLeDiff, Nat.reduceLT, Nat.reduceGT, Int.reduceToNat, Int.reduceLT, Int.reduceLE, Int.reduceNeg, Int.reduceAdd, Int.reduceEq, Int.reduceNe]
    · replace hb3 := eq_false_of_ne_true hb3
      rw [if_f hb3] at hp
      obtain ⟨v4, hv4, hp⟩ := bind_eq hp
      obtain ⟨v5, hv5, hp⟩ := bind_eq hp
      obtain ⟨v6, hv6, hp⟩ := bind_eq hp
      simp (disch := first | omega | (simp only [List.length_set, List.length_append, List.length_cons, List.length_nil, rows_len, zs]; first | done | omega)) only [ep_laws_szSet, ep_laws_toSet, ep_spec_SetJoin, ep_laws_eqSet, ep_laws_heldSet, ep_impl_SetJoin, hv0, hb1, hv2, hb3, hv4, hv5, hv6, gs, reduceIte, reduceCtorEq, Nat.reduceAdd, Nat.reduceMul, Nat.reduceSub, Nat.reduceBEq, Nat.reduceEqDiff, Nat.reduceLeDiff, Nat.reduceLT, Nat.reduceGT, Int.reduceToNat, Int.reduceLT, Int.reduceLE, Int.reduceNeg, Int.reduceAdd, Int.reduceEq, Int.reduceNe]
      refine call_f (fun h => getCells h 0 2 = some [.i (.sl 1 (x0.seen.counts.map enc)), .i (.sl 3 (x0.entries.map enc))] ∧ 0 < h.length ∧ getCells h 1 2 = some [.i (.sl 1 (x1.seen.counts.map enc)), .i (.sl 3 (x1.entries.map enc))] ∧ 1 < h.length ∧ getCells h 2 2 = some [.i (.sl 1 (v6.a.seen.counts.map enc)), .i (.sl 3 (v6.a.entries.map enc))] ∧ 2 < h.length) (fun h v h2 => oo_laws_toSet v4 h v h2) ?_ ?_ ?_
      · simp (disch := first | omega | (simp only [List.length_set, List.length_append, List.length_cons, List.length_nil, rows_len, zs]; first | done | omega)) only [ep_laws_szSet, ep_laws_toSet, ep_spec_SetJoin, ep_laws_eqSet, ep_laws_heldSet, ep_impl_SetJoin, hv0, hb1, hv2, hb3, hv4, hv5, hv6, gs, reduceIte, reduceCtorEq, Nat.reduceAdd, Nat.reduceMul, Nat.reduceSub, Nat.reduceBEq, Nat.reduceEqDiff, Nat.reduceLeDiff, Nat.reduceLT, Nat.reduceGT, Int.reduceToNat, Int.reduceLT, Int.reduceLE, Int.reduceNeg, Int.reduceAdd, Int.reduceEq, Int.reduceNe] <;> omega
      · rintro h ⟨c0_0, c0_1, c0_2, c0_3, c0_4, c0_5⟩
        exact e_laws_toSet _ _ hv4 h _ (by simp (disch := first | omega | (simp only [List.length_set, List.length_append, List.length_cons, List.length_nil, rows_len, zs]; first | done | omega)) only [ep_laws_szSet, ep_laws_toSet, ep_spec_SetJoin, ep_laws_eqSet, ep_laws_heldSet, ep_impl_SetJoin, hv0, hb1, hv2, hb3, hv4, hv5, hv6, c0_0, c0_1, c0_2, c0_3, c0_4, c0_5, gs, reduceIte, reduceCtorEq, Nat.reduceAdd, Nat.reduceMul, Nat.reduceSub, Nat.reduceBEq, Nat.reduceEqDiff, Nat.reduceLeDiff, Nat.reduceLT, Nat.reduceGT, Int.reduceToNat, Int.reduceLT, Int.reduceLE, Int.reduceNeg, Int.reduceAdd, Int.reduceEq, Int.reduceNe])
      · rintro h v hh0 ⟨c0_0, c0_1, c0_2, c0_3, c0_4, c0_5⟩ hpost
        obtain ⟨kk0, nb0_0, nb0_1, rfl, lnb0_0, gnb0_0, wnb0_0, lnb0_1, gnb0_1, wnb0_1, ne0_1_0⟩ := hpost
        have d0_0 : getCells hh0 0 2 = some [.i (.sl 1 (x0.seen.counts.map enc)), .i (.sl 3 (x0.entries.map enc))] := (keep_get kk0 c0_1 (by first | (simp; done) | (simp; omega))).trans c0_0
        have d0_0l := keep_lt kk0 c0_1
        have d0_1 : getCells hh0 1 2 = some [.i (.sl 1 (x1.seen.counts.map enc)), .i (.sl 3 (x1.entries.map enc))] := (keep_get kk0 c0_3 (by first | (simp; done) | (simp; omega))).trans c0_2
        have d0_1l := keep_lt kk0 c0_3
        have d0_2 : getCells hh0 2 2 = some [.i (.sl 1 (v6.a.seen.counts.map enc)), .i (.sl 3 (v6.a.entries.map enc))] := (keep_get kk0 c0_5 (by first | (simp; done) | (simp; omega))).trans c0_4
        have d0_2l := keep_lt kk0 c0_5
        have d0_3 := wnb0_0
        have d0_4 := wnb0_1
        simp (disch := first | omega | (simp only [List.length_set, List.length_append, List.length_cons, List.length_nil, rows_len, zs]; first | done | omega)) only [ep_laws_szSet, ep_laws_toSet, ep_spec_SetJoin, ep_laws_eqSet, ep_laws_heldSet, ep_impl_SetJoin, hv0, hb1, hv2, hb3, hv4, hv5, hv6, d0_0, d0_1, d0_2, d0_3, d0_4, gs, reduceIte, reduceCtorEq, Nat.reduceAdd, Nat.reduceMul, Nat.reduceSub, Nat.reduceBEq, Nat.reduceEqDiff, Nat.reduceLeDiff, Nat.reduceLT, Nat.reduceGT, Int.reduceToNat, Int.reduceLT, Int.reduceLE, Int.reduceNeg, Int.reduceAdd, Int.reduceEq, Int.reduceNe]
        refine call_f (fun h => getCells h 0 2 = some [.i (.sl 1 (x0.seen.counts.map enc)), .i (.sl 3 (x0.entries.map enc))] ∧ 0 < h.length ∧ getCells h 1 2 = some [.i (.sl 1 (x1.seen.counts.map enc)), .i (.sl 3 (x1.entries.map enc))] ∧ 1 < h.length ∧ getCells h 2 2 = some [.i (.sl 1 (v6.a.seen.counts.map enc)), .i (.sl 3 (v6.a.entries.map enc))] ∧ 2 < h.length ∧ getCells h nb0_0 v4.seen.counts.length = some (rows (v4.seen.counts : List Int)) ∧ nb0_0 < h.length ∧ getCells h nb0_1 (v4.entries.length * 3) = some (rows (v4.entries : List TEntry)) ∧ nb0_1 < h.length ∧ getCells h hh0.length 0 = some [] ∧ hh0.length < h.length ∧ getCells h (hh0.length + 1) 0 = some [] ∧ hh0.length + 1 < h.length ∧ getCells h (hh0.length + 2) 2 = some [.hsl nb0_0 v4.seen.counts.length 0 1 false v4.seen.counts.length, .hsl nb0_1 (v4.entries.length * 3) 0 3 true v4.entries.length] ∧ hh0.length + 2 < h.length) (fun h v h2 => oo_laws_toSet v5 h v h2) ?_ ?_ ?_
        · simp (disch := first | omega | (simp only [List.length_set, List.length_append, List.length_cons, List.length_nil, rows_len, zs]; first | done | omega)) only [ep_laws_szSet, ep_laws_toSet, ep_spec_SetJoin, ep_laws_eqSet, ep_laws_heldSet, ep_impl_SetJoin, hv0, hb1, hv2, hb3, hv4, hv5, hv6, d0_0, d0_1, d0_2, d0_3, d0_4, gs, reduceIte, reduceCtorEq, Nat.reduceAdd, Nat.reduceMul, Nat.reduceSub, Nat.reduceBEq, Nat.reduceEqDiff, Nat.reduceLeDiff, Nat.reduceLT, Nat.reduceGT, Int.reduceToNat, Int.reduceLT, Int.reduceLE, Int.reduceNeg, Int.reduceAdd, Int.reduceEq, Int.reduceNe] <;> omega
        · rintro h ⟨c1_0, c1_1, c1_2, c1_3, c1_4, c1_5, c1_6, c1_7, c1_8, c1_9, c1_10, c1_11, c1_12, c1_13, c1_14, c1_15⟩
          exact e_laws_toSet _ _ hv5 h _ (by simp (disch := first | omega | (simp only [List.length_set, List.length_append, List.length_cons, List.length_nil, rows_len, zs]; first | done | omega)) only [ep_laws_szSet, ep_laws_toSet, ep_spec_SetJoin, ep_laws_eqSet, ep_laws_heldSet, ep_impl_SetJoin, hv0, hb1, hv2, hb3, hv4, hv5, hv6, d0_0, d0_1, d0_2, d0_3, d0_4, c1_0, c1_1, c1_2, c1_3, c1_4, c1_5, c1_6, c1_7, c1_8, c1_9, c1_10, c1_11, c1_12, c1_13, c1_14, c1_15, gs, reduceIte, reduceCtorEq, Nat.reduceAdd, Nat.reduceMul, Nat.reduceSub, Nat.reduceBEq, Nat.reduceEqDiff, Nat.reduceLeDiff, Nat.reduceLT, Nat.reduceGT, Int.reduceToNat, Int.reduceLT, Int.reduceLE, Int.reduceNeg, Int.reduceAdd, Int.reduceEq, Int.reduceNe])
        · rintro h v hh1 ⟨c1_0, c1_1, c1_2, c1_3, c1_4, c1_5, c1_6, c1_7, c1_8, c1_9, c1_10, c1_11, c1_12, c1_13, c1_14, c1_15⟩ hpost
          obtain ⟨kk1, nb1_0, nb1_1, rfl, lnb1_0, gnb1_0, wnb1_0, lnb1_1, gnb1_1, wnb1_1, ne1_1_0⟩ := hpost
          have d1_0 : getCells hh1 0 2 = some [.i (.sl 1 (x0.seen.counts.map enc)), .i (.sl 3 (x0.entries.map enc))] := (keep_get kk1 c1_1 (by first | (simp; done) | (simp; omega))).trans c1_0
          have d1_0l := keep_lt kk1 c1_1
          have d1_1 : getCells hh1 1 2 = some [.i (.sl 1 (x1.seen.counts.map enc)), .i (.sl 3 (x1.entries.map enc))] := (keep_get kk1 c1_3 (by first | (simp; done) | (simp; omega))).trans c1_2
          have d1_1l := keep_lt kk1 c1_3
          have d1_2 : getCells hh1 2 2 = some [.i (.sl 1 (v6.a.seen.counts.map enc)), .i (.sl 3 (v6.a.entries.map enc))] := (keep_get kk1 c1_5 (by first | (simp; done) | (simp; omega))).trans c1_4
          have d1_2l := keep_lt kk1 c1_5
          have d1_3 : getCells hh1 nb0_0 v4.seen.counts.length = some (rows (v4.seen.counts : List Int)) := (keep_get kk1 c1_7 (by first | (simp; done) | (simp; omega))).trans c1_6
          have d1_3l := keep_lt kk1 c1_7
          have d1_4 : getCells hh1 nb0_1 (v4.entries.length * 3) = some (rows (v4.entries : List TEntry)) := (keep_get kk1 c1_9 (by first | (simp; done) | (simp; omega))).trans c1_8
          have d1_4l := keep_lt kk1 c1_9
          have d1_5 : getCells hh1 hh0.length 0 = some [] := (keep_get kk1 c1_11 (by first | (simp; done) | (simp; omega))).trans c1_10
          have d1_5l := keep_lt kk1 c1_11
          have d1_6 : getCells hh1 (hh0.length + 1) 0 = some [] := (keep_get kk1 c1_13 (by first | (simp; done) | (simp; omega))).trans c1_12
          have d1_6l := keep_lt kk1 c1_13
          have d1_7 : getCells hh1 (hh0.length + 2) 2 = some [.hsl nb0_0 v4.seen.counts.length 0 1 false v4.seen.counts.length, .hsl nb0_1 (v4.entries.length * 3) 0 3 true v4.entries.length] := (keep_get kk1 c1_15 (by first | (simp; done) | (simp; omega))).trans c1_14
          have d1_7l := keep_lt kk1 c1_15
          have d1_8 := wnb1_0
          have d1_9 := wnb1_1
          obtain ⟨v7, hv7, hp⟩ := bind_eq hp
          simp (disch := first | omega | (simp only [List.length_set, List.length_append, List.length_cons, List.length_nil, rows_len, zs]; first | done | omega)) only [ep_laws_szSet, ep_laws_toSet, ep_spec_SetJoin, ep_laws_eqSet, ep_laws_heldSet, ep_impl_SetJoin, hv0, hb1, hv2, hb3, hv4, hv5, hv6, d0_0, d0_1, d0_2, d0_3, d0_4, d1_0, d1_1, d1_2, d1_3, d1_4, d1_5, d1_6, d1_7, d1_8, d1_9, gs, reduceIte, reduceCtorEq, Nat.reduceAdd, Nat.reduceMul, Nat.reduceSub, Nat.reduceBEq, Nat.reduceEqDiff, Nat.reduceLeDiff, Nat.reduceLT, Nat.reduceGT, Int.reduceToNat, Int.reduceLT, Int.reduceLE, Int.reduceNeg, Int.reduceAdd, Int.reduceEq, Int.reduceNe]
          refine call_f (fun h => getCells h 0 2 = some [.i (.sl 1 (x0.seen.counts.map enc)), .i (.sl 3 (x0.entries.map enc))] ∧ 0 < h.length ∧ getCells h 1 2 = some [.i (.sl 1 (x1.seen.counts.map enc)), .i (.sl 3 (x1.entries.map enc))] ∧ 1 < h.length ∧ getCells h 2 2 = some [.i (.sl 1 (v6.a.seen.counts.map enc)), .i (.sl 3 (v6.a.entries.map enc))] ∧ 2 < h.length ∧ getCells h nb0_0 v4.seen.counts.length = some (rows (v4.seen.counts : List Int)) ∧ nb0_0 < h.length ∧ getCells h nb0_1 (v4.entries.length * 3) = some (rows (v4.entries : List TEntry)) ∧ nb0_1 < h.length ∧ getCells h hh0.length 0 = some [] ∧ hh0.length < h.length ∧ getCells h (hh0.length + 1) 0 = some [] ∧ hh0.length + 1 < h.length ∧ getCells h (hh0.length + 2) 2 = some [.hsl nb0_0 v4.seen.counts.length 0 1 false v4.seen.counts.length, .hsl nb0_1 (v4.entries.length * 3) 0 3 true v4.entries.length] ∧ hh0.length + 2 < h.length ∧ getCells h nb1_0 v5.seen.counts.length = some (rows (v5.seen.counts : List Int)) ∧ nb1_0 < h.length ∧ getCells h nb1_1 (v5.entries.length * 3) = some (rows (v5.entries : List TEntry)) ∧ nb1_1 < h.length ∧ getCells h hh1.length 0 = some [] ∧ hh1.length < h.length ∧ getCells h (hh1.length + 1) 0 = some [] ∧ hh1.length + 1 < h.length ∧ getCells h (hh1.length + 2) 2 = some [.hsl nb1_0 v5.seen.counts.length 0 1 false v5.seen.counts.length, .hsl nb1_1 (v5.entries.length * 3) 0 3 true v5.entries.length] ∧ hh1.length + 2 < h.length) (fun h v h2 => oo_impl_SetJoin v7 h v h2) ?_ ?_ ?_
          · simp (disch := first | omega | (simp only [List.length_set, List.length_append, List.length_cons, List.length_nil, rows_len, zs]; first | done | omega)) only [ep_laws_szSet, ep_laws_toSet, ep_spec_SetJoin, ep_laws_eqSet, ep_laws_heldSet, ep_impl_SetJoin, hv0, hb1, hv2, hb3, hv4, hv5, hv6, d0_0, d0_1, d0_2, d0_3, d0_4, d1_0, d1_1, d1_2, d1_3, d1_4, d1_5, d1_6, d1_7, d1_8, d1_9, hv7, gs, reduceIte, reduceCtorEq, Nat.reduceAdd, Nat.reduceMul, Nat.reduceSub, Nat.reduceBEq, Nat.reduceEqDiff, Nat.reduceLeDiff, Nat.reduceLT, Nat.reduceGT, Int.reduceToNat, Int.reduceLT, Int.reduceLE, Int.reduceNeg, Int.reduceAdd, Int.reduceEq, Int.reduceNe] <;> omega
          · rintro h ⟨c2_0, c2_1, c2_2, c2_3, c2_4, c2_5, c2_6, c2_7, c2_8, c2_9, c2_10, c2_11, c2_12, c2_13, c2_14, c2_15, c2_16, c2_17, c2_18, c2_19, c2_20, c2_21, c2_22, c2_23, c2_24, c2_25⟩
            exact e_impl_SetJoin _ _ _ hv7 h _ (by simp (disch := first | omega | (simp only [List.length_set, List.length_append, List.length_cons, List.length_nil, rows_len, zs]; first | done | omega)) only [ep_laws_szSet, ep_laws_toSet, ep_spec_SetJoin, ep_laws_eqSet, ep_laws_heldSet, ep_impl_SetJoin, hv0, hb1, hv2, hb3, hv4, hv5, hv6, d0_0, d0_1, d0_2, d0_3, d0_4, d1_0, d1_1, d1_2, d1_3, d1_4, d1_5, d1_6, d1_7, d1_8, d1_9, hv7, c2_0, c2_1, c2_2, c2_3, c2_4, c2_5, c2_6, c2_7, c2_8, c2_9, c2_10, c2_11, c2_12, c2_13, c2_14, c2_15, c2_16, c2_17, c2_18, c2_19, c2_20, c2_21, c2_22, c2_23, c2_24, c2_25, gs, reduceIte, reduceCtorEq, Nat.reduceAdd, Nat.reduceMul, Nat.reduceSub, Nat.reduceBEq, Nat.reduceEqDiff, Nat.reduceLeDiff, Nat.reduceLT, Nat.reduceGT, Int.reduceToNat, Int.reduceLT, Int.reduceLE, Int.reduceNeg, Int.reduceAdd, Int.reduceEq, Int.reduceNe])
          · rintro h v hh2 ⟨c2_0, c2_1, c2_2, c2_3, c2_4, c2_5, c2_6, c2_7, c2_8, c2_9, c2_10, c2_11, c2_12, c2_13, c2_14, c2_15, c2_16, c2_17, c2_18, c2_19, c2_20, c2_21, c2_22, c2_23, c2_24, c2_25⟩ hpost
            obtain ⟨kk2, nb2_0, nb2_1, rfl, lnb2_0, gnb2_0, wnb2_0, lnb2_1, gnb2_1, wnb2_1, ne2_1_0⟩ := hpost
            have d2_0 : getCells hh2 0 2 = some [.i (.sl 1 (x0.seen.counts.map enc)), .i (.sl 3 (x0.entries.map enc))] := (keep_get kk2 c2_1 (by first | (simp; done) | (simp; omega))).trans c2_0
            have d2_0l := keep_lt kk2 c2_1
            have d2_1 : getCells hh2 1 2 = some [.i (.sl 1 (x1.seen.counts.map enc)), .i (.sl 3 (x1.entries.map enc))] := (keep_get kk2 c2_3 (by first | (simp; done) | (simp; omega))).trans c2_2
            have d2_1l := keep_lt kk2 c2_3
            have d2_2 : getCells hh2 2 2 = some [.i (.sl 1 (v6.a.seen.counts.map enc)), .i (.sl 3 (v6.a.entries.map enc))] := (keep_get kk2 c2_5 (by first | (simp; done) | (simp; omega))).trans c2_4
            have d2_2l := keep_lt kk2 c2_5
            have d2_3 : getCells hh2 nb0_0 v4.seen.counts.length = some (rows (v4.seen.counts : List Int)) := (keep_get kk2 c2_7 (by first | (simp; done) | (simp; omega))).trans c2_6
            have d2_3l := keep_lt kk2 c2_7
            have d2_4 : getCells hh2 nb0_1 (v4.entries.length * 3) = some (rows (v4.entries : List TEntry)) := (keep_get kk2 c2_9 (by first | (simp; done) | (simp; omega))).trans c2_8
            have d2_4l := keep_lt kk2 c2_9
            have d2_5 : getCells hh2 hh0.length 0 = some [] := (keep_get kk2 c2_11 (by first | (simp; done) | (simp; omega))).trans c2_10
            have d2_5l := keep_lt kk2 c2_11
            have d2_6 : getCells hh2 (hh0.length + 1) 0 = some [] := (keep_get kk2 c2_13 (by first | (simp; done) | (simp; omega))).trans c2_12
            have d2_6l := keep_lt kk2 c2_13
            have d2_7 : getCells hh2 (hh0.length + 2) 2 = some [.hsl nb0_0 v4.seen.counts.length 0 1 false v4.seen.counts.length, .hsl nb0_1 (v4.entries.length * 3) 0 3 true v4.entries.length] := (keep_get kk2 c2_15 (by first | (simp; done) | (simp; omega))).trans c2_14
            have d2_7l := keep_lt kk2 c2_15
            have d2_8 : getCells hh2 nb1_0 v5.seen.counts.length = some (rows (v5.seen.counts : List Int)) := (keep_get kk2 c2_17 (by first | (simp; done) | (simp; omega))).trans c2_16
            have d2_8l := keep_lt kk2 c2_17
            have d2_9 : getCells hh2 nb1_1 (v5.entries.length * 3) = some (rows (v5.entries : List TEntry)) := (keep_get kk2 c2_19 (by first | (simp; done) | (simp; omega))).trans c2_18
            have d2_9l := keep_lt kk2 c2_19
            have d2_10 : getCells hh2 hh1.length 0 = some [] := (keep_get kk2 c2_21 (by first | (simp; done) | (simp; omega))).trans c2_20
            have d2_10l := keep_lt kk2 c2_21
            have d2_11 : getCells hh2 (hh1.length + 1) 0 = some [] := (keep_get kk2 c2_23 (by first | (simp; done) | (simp; omega))).trans c2_22
            have d2_11l := keep_lt kk2 c2_23
            have d2_12 : getCells hh2 (hh1.length + 2) 2 = some [.hsl nb1_0 v5.seen.counts.length 0 1 false v5.seen.counts.length, .hsl nb1_1 (v5.entries.length * 3) 0 3 true v5.entries.length] := (keep_get kk2 c2_25 (by first | (simp; done) | (simp; omega))).trans c2_24
            have d2_12l := keep_lt kk2 c2_25
            have d2_13 := wnb2_0
            have d2_14 := wnb2_1
            obtain ⟨v8, hv8, hp⟩ := bind_eq hp
            by_cases hb9 : (v8) = true
            · rw [if_t hb9] at hp
              by_cases hb10 : (decide (v7.b = v6.b)) = true
              · rw [if_t hb10] at hp
                obtain ⟨v11, hv11, hp⟩ := bind_eq hp
                by_cases hb12 : (v11) = true
                · rw [if_t hb12] at hp
                  obtain ⟨v13, hv13, hp⟩ := bind_eq hp
                  by_cases hb14 : (v13) = true
                  · rw [if_t hb14] at hp
                    obtain ⟨v15, hv15, hp⟩ := bind_eq hp
                    simp (disch := first | omega | (simp only [List.length_set, List.length_append, List.length_cons, List.length_nil, rows_len, zs]; first | done | omega)) only [ep_laws_szSet, ep_laws_toSet, ep_spec_SetJoin, ep_laws_eqSet, ep_laws_heldSet, ep_impl_SetJoin, hv0, hb1, hv2, hb3, hv4, hv5, hv6, d0_0, d0_1, d0_2, d0_3, d0_4, d1_0, d1_1, d1_2, d1_3, d1_4, d1_5, d1_6, d1_7, d1_8, d1_9, hv7, d2_0, d2_1, d2_2, d2_3, d2_4, d2_5, d2_6, d2_7, d2_8, d2_9, d2_10, d2_11, d2_12, d2_13, d2_14, hv8, hb9, hb10, hv11, hb12, hv13, hb14, gs, reduceIte, reduceCtorEq, Nat.reduceAdd, Nat.reduceMul, Nat.reduceSub, Nat.reduceBEq, Nat.reduceEqDiff, Nat.reduceLeDiff, Nat.reduceLT, Nat.reduceGT, Int.reduceToNat, Int.reduceLT, Int.reduceLE, Int.reduceNeg, Int.reduceAdd, Int.reduceEq, Int.reduceNe]
                    refine call_f (fun h => getCells h 0 2 = some [.i (.sl 1 (x0.seen.counts.map enc)), .i (.sl 3 (x0.entries.map enc))] ∧ 0 < h.length ∧ getCells h 1 2 = some [.i (.sl 1 (x1.seen.counts.map enc)), .i (.sl 3 (x1.entries.map enc))] ∧ 1 < h.length ∧ getCells h 2 2 = some [.i (.sl 1 (v6.a.seen.counts.map enc)), .i (.sl 3 (v6.a.entries.map enc))] ∧ 2 < h.length ∧ getCells h nb0_0 v4.seen.counts.length = some (rows (v4.seen.counts : List Int)) ∧ nb0_0 < h.length ∧ getCells h nb0_1 (v4.entries.length * 3) = some (rows (v4.entries : List TEntry)) ∧ nb0_1 < h.length ∧ getCells h hh0.length 0 = some [] ∧ hh0.length < h.length ∧ getCells h (hh0.length + 1) 0 = some [] ∧ hh0.length + 1 < h.length ∧ getCells h (hh0.length + 2) 2 = some [.hsl nb0_0 v4.seen.counts.length 0 1 false v4.seen.counts.length, .hsl nb0_1 (v4.entries.length * 3) 0 3 true v4.entries.length] ∧ hh0.length + 2 < h.length ∧ getCells h nb1_0 v5.seen.counts.length = some (rows (v5.seen.counts : List Int)) ∧ nb1_0 < h.length ∧ getCells h nb1_1 (v5.entries.length * 3) = some (rows (v5.entries : List TEntry)) ∧ nb1_1 < h.length ∧ getCells h hh1.length 0 = some [] ∧ hh1.length < h.length ∧ getCells h (hh1.length + 1) 0 = some [] ∧ hh1.length + 1 < h.length ∧ getCells h (hh1.length + 2) 2 = some [.hsl nb1_0 v5.seen.counts.length 0 1 false v5.seen.counts.length, .hsl nb1_1 (v5.entries.length * 3) 0 3 true v5.entries.length] ∧ hh1.length + 2 < h.length ∧ getCells h nb2_0 v7.a.seen.counts.length = some (rows (v7.a.seen.counts : List Int)) ∧ nb2_0 < h.length ∧ getCells h nb2_1 (v7.a.entries.length * 3) = some (rows (v7.a.entries : List TEntry)) ∧ nb2_1 < h.length ∧ getCells h hh2.length 0 = some [] ∧ hh2.length < h.length ∧ getCells h (hh2.length + 1) 0 = some [] ∧ hh2.length + 1 < h.length ∧ getCells h (hh2.length + 2) 2 = some [.hsl nb2_0 v7.a.seen.counts.length 0 1 false v7.a.seen.counts.length, .hsl nb2_1 (v7.a.entries.length * 3) 0 3 true v7.a.entries.length] ∧ hh2.length + 2 < h.length) (fun h v h2 => i_laws_markSet nb0_0 nb0_1 v4.seen.counts.length v4.entries.length h v15 v h2) ?_ ?_ ?_
                    · simp (disch := first | omega | (simp only [List.length_set, List.length_append, List.length_cons, List.length_nil, rows_len, zs]; first | done | omega)) only [ep_laws_szSet, ep_laws_toSet, ep_spec_SetJoin, ep_laws_eqSet, ep_laws_heldSet, ep_impl_SetJoin, hv0, hb1, hv2, hb3, hv4, hv5, hv6, d0_0, d0_1, d0_2, d0_3, d0_4, d1_0, d1_1, d1_2, d1_3, d1_4, d1_5, d1_6, d1_7, d1_8, d1_9, hv7, d2_0, d2_1, d2_2, d2_3, d2_4, d2_5, d2_6, d2_7, d2_8, d2_9, d2_10, d2_11, d2_12, d2_13, d2_14, hv8, hb9, hb10, hv11, hb12, hv13, hb14, hv15, gs, reduceIte, reduceCtorEq, Nat.reduceAdd, Nat.reduceMul, Nat.reduceSub, Nat.reduceBEq, Nat.reduceEqDiff, Nat.reduceLeDiff, Nat.reduceLT, Nat.reduceGT, Int.reduceToNat, Int.reduceLT, Int.reduceLE, Int.reduceNeg, Int.reduceAdd, Int.reduceEq, Int.reduceNe] <;> omega
                    · rintro h ⟨c3_0, c3_1, c3_2, c3_3, c3_4, c3_5, c3_6, c3_7, c3_8, c3_9, c3_10, c3_11, c3_12, c3_13, c3_14, c3_15, c3_16, c3_17, c3_18, c3_19, c3_20, c3_21, c3_22, c3_23, c3_24, c3_25, c3_26, c3_27, c3_28, c3_29, c3_30, c3_31, c3_32, c3_33, c3_34, c3_35⟩
                      exact e_laws_markSet _ _ _ hv15 nb0_0 nb0_1 v4.seen.counts.length v4.entries.length h (by omega) (by omega) c3_6 c3_8 (by omega)
                    · rintro h v hh3 ⟨c3_0, c3_1, c3_2, c3_3, c3_4, c3_5, c3_6, c3_7, c3_8, c3_9, c3_10, c3_11, c3_12, c3_13, c3_14, c3_15, c3_16, c3_17, c3_18, c3_19, c3_20, c3_21, c3_22, c3_23, c3_24, c3_25, c3_26, c3_27, c3_28, c3_29, c3_30, c3_31, c3_32, c3_33, c3_34, c3_35⟩ hpost
                      obtain ⟨kk3, rfl, w3_0, w3_1⟩ := hpost
                      have d3_0 : getCells hh3 0 2 = some [.i (.sl 1 (x0.seen.counts.map enc)), .i (.sl 3 (x0.entries.map enc))] := (keep_get kk3 c3_1 (by first | (simp; done) | (simp; omega))).trans c3_0
                      have d3_0l := keep_lt kk3 c3_1
                      have d3_1 : getCells hh3 1 2 = some [.i (.sl 1 (x1.seen.counts.map enc)), .i (.sl 3 (x1.entries.map enc))] := (keep_get kk3 c3_3 (by first | (simp; done) | (simp; omega))).trans c3_2
                      have d3_1l := keep_lt kk3 c3_3
                      have d3_2 : getCells hh3 2 2 = some [.i (.sl 1 (v6.a.seen.counts.map enc)), .i (.sl 3 (v6.a.entries.map enc))] := (keep_get kk3 c3_5 (by first | (simp; done) | (simp; omega))).trans c3_4
                      have d3_2l := keep_lt kk3 c3_5
                      have d3_3 : getCells hh3 nb0_0 v4.seen.counts.length = some (rows (v15.b.seen.counts : List Int)) := w3_0
                      have mm3_0 := len_rows w3_0
                      simp only [zs] at mm3_0
                      have d3_3l := keep_lt kk3 c3_7
                      have d3_4 : getCells hh3 nb0_1 (v4.entries.length * 3) = some (rows (v15.b.entries : List TEntry)) := w3_1
                      have mm3_1 := len_rows w3_1
                      simp only [zs] at mm3_1
                      have d3_4l := keep_lt kk3 c3_9
                      have d3_5 : getCells hh3 hh0.length 0 = some [] := (keep_get kk3 c3_11 (by first | (simp; done) | (simp; omega))).trans c3_10
                      have d3_5l := keep_lt kk3 c3_11
                      have d3_6 : getCells hh3 (hh0.length + 1) 0 = some [] := (keep_get kk3 c3_13 (by first | (simp; done) | (simp; omega))).trans c3_12
                      have d3_6l := keep_lt kk3 c3_13
                      have d3_7 : getCells hh3 (hh0.length + 2) 2 = some [.hsl nb0_0 v4.seen.counts.length 0 1 false v4.seen.counts.length, .hsl nb0_1 (v4.entries.length * 3) 0 3 true v4.entries.length] := (keep_get kk3 c3_15 (by first | (simp; done) | (simp; omega))).trans c3_14
                      have d3_7l := keep_lt kk3 c3_15
                      have d3_8 : getCells hh3 nb1_0 v5.seen.counts.length = some (rows (v5.seen.counts : List Int)) := (keep_get kk3 c3_17 (by first | (simp; done) | (simp; omega))).trans c3_16
                      have d3_8l := keep_lt kk3 c3_17
                      have d3_9 : getCells hh3 nb1_1 (v5.entries.length * 3) = some (rows (v5.entries : List TEntry)) := (keep_get kk3 c3_19 (by first | (simp; done) | (simp; omega))).trans c3_18
                      have d3_9l := keep_lt kk3 c3_19
                      have d3_10 : getCells hh3 hh1.length 0 = some [] := (keep_get kk3 c3_21 (by first | (simp; done) | (simp; omega))).trans c3_20
                      have d3_10l := keep_lt kk3 c3_21
                      have d3_11 : getCells hh3 (hh1.length + 1) 0 = some [] := (keep_get kk3 c3_23 (by first | (simp; done) | (simp; omega))).trans c3_22
                      have d3_11l := keep_lt kk3 c3_23
                      have d3_12 : getCells hh3 (hh1.length + 2) 2 = some [.hsl nb1_0 v5.seen.counts.length 0 1 false v5.seen.counts.length, .hsl nb1_1 (v5.entries.length * 3) 0 3 true v5.entries.length] := (keep_get kk3 c3_25 (by first | (simp; done) | (simp; omega))).trans c3_24
                      have d3_12l := keep_lt kk3 c3_25
                      have d3_13 : getCells hh3 nb2_0 v7.a.seen.counts.length = some (rows (v7.a.seen.counts : List Int)) := (keep_get kk3 c3_27 (by first | (simp; done) | (simp; omega))).trans c3_26
                      have d3_13l := keep_lt kk3 c3_27
                      have d3_14 : getCells hh3 nb2_1 (v7.a.entries.length * 3) = some (rows (v7.a.entries : List TEntry)) := (keep_get kk3 c3_29 (by first | (simp; done) | (simp; omega))).trans c3_28
                      have d3_14l := keep_lt kk3 c3_29
                      have d3_15 : getCells hh3 hh2.length 0 = some [] := (keep_get kk3 c3_31 (by first | (simp; done) | (simp; omega))).trans c3_30
                      have d3_15l := keep_lt kk3 c3_31
                      have d3_16 : getCells hh3 (hh2.length + 1) 0 = some [] := (keep_get kk3 c3_33 (by first | (simp; done) | (simp; omega))).trans c3_32
                      have d3_16l := keep_lt kk3 c3_33
                      have d3_17 : getCells hh3 (hh2.length + 2) 2 = some [.hsl nb2_0 v7.a.seen.counts.length 0 1 false v7.a.seen.counts.length, .hsl nb2_1 (v7.a.entries.length * 3) 0 3 true v7.a.entries.length] := (keep_get kk3 c3_35 (by first | (simp; done) | (simp; omega))).trans c3_34
                      have d3_17l := keep_lt kk3 c3_35
                      obtain ⟨v16, hv16, hp⟩ := bind_eq hp
                      simp (disch := first | omega | (simp only [List.length_set, List.length_append, List.length_cons, List.length_nil, rows_len, zs]; first | done | omega)) only [ep_laws_szSet, ep_laws_toSet, ep_spec_SetJoin, ep_laws_eqSet, ep_laws_heldSet, ep_impl_SetJoin, hv0, hb1, hv2, hb3, hv4, hv5, hv6, d0_0, d0_1, d0_2, d0_3, d0_4, d1_0, d1_1, d1_2, d1_3, d1_4, d1_5, d1_6, d1_7, d1_8, d1_9, hv7, d2_0, d2_1, d2_2, d2_3, d2_4, d2_5, d2_6, d2_7, d2_8, d2_9, d2_10, d2_11, d2_12, d2_13, d2_14, hv8, hb9, hb10, hv11, hb12, hv13, hb14, hv15, d3_0, d3_1, d3_2, d3_3, d3_4, d3_5, d3_6, d3_7, d3_8, d3_9, d3_10, d3_11, d3_12, d3_13, d3_14, d3_15, d3_16, d3_17, gs, reduceIte, reduceCtorEq, Nat.reduceAdd, Nat.reduceMul, Nat.reduceSub, Nat.reduceBEq, Nat.reduceEqDiff, Nat.reduceLeDiff, Nat.reduceLT, Nat.reduceGT, Int.reduceToNat, Int.reduceLT, Int.reduceLE, Int.reduceNeg, Int.reduceAdd, Int.reduceEq, Int.reduceNe]
                      refine call_f (fun h => getCells h 0 2 = some [.i (.sl 1 (x0.seen.counts.map enc)), .i (.sl 3 (x0.entries.map enc))] ∧ 0 < h.length ∧ getCells h 1 2 = some [.i (.sl 1 (x1.seen.counts.map enc)), .i (.sl 3 (x1.entries.map enc))] ∧ 1 < h.length ∧ getCells h 2 2 = some [.i (.sl 1 (v6.a.seen.counts.map enc)), .i (.sl 3 (v6.a.entries.map enc))] ∧ 2 < h.length ∧ getCells h nb0_0 v4.seen.counts.length = some (rows (v15.b.seen.counts : List Int)) ∧ nb0_0 < h.length ∧ getCells h nb0_1 (v4.entries.length * 3) = some (rows (v15.b.entries : List TEntry)) ∧ nb0_1 < h.length ∧ getCells h hh0.length 0 = some [] ∧ hh0.length < h.length ∧ getCells h (hh0.length + 1) 0 = some [] ∧ hh0.length + 1 < h.length ∧ getCells h (hh0.length + 2) 2 = some [.hsl nb0_0 v4.seen.counts.length 0 1 false v4.seen.counts.length, .hsl nb0_1 (v4.entries.length * 3) 0 3 true v4.entries.length] ∧ hh0.length + 2 < h.length ∧ getCells h nb1_0 v5.seen.counts.length = some (rows (v5.seen.counts : List Int)) ∧ nb1_0 < h.length ∧ getCells h nb1_1 (v5.entries.length * 3) = some (rows (v5.entries : List TEntry)) ∧ nb1_1 < h.length ∧ getCells h hh1.length 0 = some [] ∧ hh1.length < h.length ∧ getCells h (hh1.length + 1) 0 = some [] ∧ hh1.length + 1 < h.length ∧ getCells h (hh1.length + 2) 2 = some [.hsl nb1_0 v5.seen.counts.length 0 1 false v5.seen.counts.length, .hsl nb1_1 (v5.entries.length * 3) 0 3 true v5.entries.length] ∧ hh1.length + 2 < h.length ∧ getCells h nb2_0 v7.a.seen.counts.length = some (rows (v7.a.seen.counts : List Int)) ∧ nb2_0 < h.length ∧ getCells h nb2_1 (v7.a.entries.length * 3) = some (rows (v7.a.entries : List TEntry)) ∧ nb2_1 < h.length ∧ getCells h hh2.length 0 = some [] ∧ hh2.length < h.length ∧ getCells h (hh2.length + 1) 0 = some [] ∧ hh2.length + 1 < h.length ∧ getCells h (hh2.length + 2) 2 = some [.hsl nb2_0 v7.a.seen.counts.length 0 1 false v7.a.seen.counts.length, .hsl nb2_1 (v7.a.entries.length * 3) 0 3 true v7.a.entries.length] ∧ hh2.length + 2 < h.length) (fun h v h2 => i_laws_markSet nb1_0 nb1_1 v5.seen.counts.length v5.entries.length h v16 v h2) ?_ ?_ ?_
                      · simp (disch := first | omega | (simp only [List.length_set, List.length_append, List.length_cons, List.length_nil, rows_len, zs]; first | done | omega)) only [ep_laws_szSet, ep_laws_toSet, ep_spec_SetJoin, ep_laws_eqSet, ep_laws_heldSet, ep_impl_SetJoin, hv0, hb1, hv2, hb3, hv4, hv5, hv6, d0_0, d0_1, d0_2, d0_3, d0_4, d1_0, d1_1, d1_2, d1_3, d1_4, d1_5, d1_6, d1_7, d1_8, d1_9, hv7, d2_0, d2_1, d2_2, d2_3, d2_4, d2_5, d2_6, d2_7, d2_8, d2_9, d2_10, d2_11, d2_12, d2_13, d2_14, hv8, hb9, hb10, hv11, hb12, hv13, hb14, hv15, d3_0, d3_1, d3_2, d3_3, d3_4, d3_5, d3_6, d3_7, d3_8, d3_9, d3_10, d3_11, d3_12, d3_13, d3_14, d3_15, d3_16, d3_17, hv16, gs, reduceIte, reduceCtorEq, Nat.reduceAdd, Nat.reduceMul, Nat.reduceSub, Nat.reduceBEq, Nat.reduceEqDiff, Nat.reduceLeDiff, Nat.reduceLT, Nat.reduceGT, Int.reduceToNat, Int.reduceLT, Int.reduceLE, Int.reduceNeg, Int.reduceAdd, Int.reduceEq, Int.reduceNe] <;> omega
                      · rintro h ⟨c4_0, c4_1, c4_2, c4_3, c4_4, c4_5, c4_6, c4_7, c4_8, c4_9, c4_10, c4_11, c4_12, c4_13, c4_14, c4_15, c4_16, c4_17, c4_18, c4_19, c4_20, c4_21, c4_22, c4_23, c4_24, c4_25, c4_26, c4_27, c4_28, c4_29, c4_30, c4_31, c4_32, c4_33, c4_34, c4_35⟩
                        exact e_laws_markSet _ _ _ hv16 nb1_0 nb1_1 v5.seen.counts.length v5.entries.length h (by omega) (by omega) c4_16 c4_18 (by omega)
                      · rintro h v hh4 ⟨c4_0, c4_1, c4_2, c4_3, c4_4, c4_5, c4_6, c4_7, c4_8, c4_9, c4_10, c4_11, c4_12, c4_13, c4_14, c4_15, c4_16, c4_17, c4_18, c4_19, c4_20, c4_21, c4_22, c4_23, c4_24, c4_25, c4_26, c4_27, c4_28, c4_29, c4_30, c4_31, c4_32, c4_33, c4_34, c4_35⟩ hpost
                        obtain ⟨kk4, rfl, w4_0, w4_1⟩ := hpost
                        have d4_0 : getCells hh4 0 2 = some [.i (.sl 1 (x0.seen.counts.map enc)), .i (.sl 3 (x0.entries.map enc))] := (keep_get kk4 c4_1 (by first | (simp; done) | (simp; omega))).trans c4_0
                        have d4_0l := keep_lt kk4 c4_1
                        have d4_1 : getCells hh4 1 2 = some [.i (.sl 1 (x1.seen.counts.map enc)), .i (.sl 3 (x1.entries.map enc))] := (keep_get kk4 c4_3 (by first | (simp; done) | (simp; omega))).trans c4_2
                        have d4_1l := keep_lt kk4 c4_3
                        have d4_2 : getCells hh4 2 2 = some [.i (.sl 1 (v6.a.seen.counts.map enc)), .i (.sl 3 (v6.a.entries.map enc))] := (keep_get kk4 c4_5 (by first | (simp; done) | (simp; omega))).trans c4_4
                        have d4_2l := keep_lt kk4 c4_5
                        have d4_3 : getCells hh4 nb0_0 v4.seen.counts.length = some (rows (v15.b.seen.counts : List Int)) := (keep_get kk4 c4_7 (by first | (simp; done) | (simp; omega))).trans c4_6
                        have d4_3l := keep_lt kk4 c4_7
                        have d4_4 : getCells hh4 nb0_1 (v4.entries.length * 3) = some (rows (v15.b.entries : List TEntry)) := (keep_get kk4 c4_9 (by first | (simp; done) | (simp; omega))).trans c4_8
                        have d4_4l := keep_lt kk4 c4_9
                        have d4_5 : getCells hh4 hh0.length 0 = some [] := (keep_get kk4 c4_11 (by first | (simp; done) | (simp; omega))).trans c4_10
                        have d4_5l := keep_lt kk4 c4_11
                        have d4_6 : getCells hh4 (hh0.length + 1) 0 = some [] := (keep_get kk4 c4_13 (by first | (simp; done) | (simp; omega))).trans c4_12
                        have d4_6l := keep_lt kk4 c4_13
                        have d4_7 : getCells hh4 (hh0.length + 2) 2 = some [.hsl nb0_0 v4.seen.counts.length 0 1 false v4.seen.counts.length, .hsl nb0_1 (v4.entries.length * 3) 0 3 true v4.entries.length] := (keep_get kk4 c4_15 (by first | (simp; done) | (simp; omega))).trans c4_14
                        have d4_7l := keep_lt kk4 c4_15
                        have d4_8 : getCells hh4 nb1_0 v5.seen.counts.length = some (rows (v16.b.seen.counts : List Int)) := w4_0
                        have mm4_0 := len_rows w4_0
                        simp only [zs] at mm4_0
                        have d4_8l := keep_lt kk4 c4_17
                        have d4_9 : getCells hh4 nb1_1 (v5.entries.length * 3) = some (rows (v16.b.entries : List TEntry)) := w4_1
                        have mm4_1 := len_rows w4_1
                        simp only [zs] at mm4_1
                        have d4_9l := keep_lt kk4 c4_19
                        have d4_10 : getCells hh4 hh1.length 0 = some [] := (keep_get kk4 c4_21 (by first | (simp; done) | (simp; omega))).trans c4_20
                        have d4_10l := keep_lt kk4 c4_21
                        have d4_11 : getCells hh4 (hh1.length + 1) 0 = some [] := (keep_get kk4 c4_23 (by first | (simp; done) | (simp; omega))).trans c4_22
                        have d4_11l := keep_lt kk4 c4_23
                        have d4_12 : getCells hh4 (hh1.length + 2) 2 = some [.hsl nb1_0 v5.seen.counts.length 0 1 false v5.seen.counts.length, .hsl nb1_1 (v5.entries.length * 3) 0 3 true v5.entries.length] := (keep_get kk4 c4_25 (by first | (simp; done) | (simp; omega))).trans c4_24
                        have d4_12l := keep_lt kk4 c4_25
                        have d4_13 : getCells hh4 nb2_0 v7.a.seen.counts.length = some (rows (v7.a.seen.counts : List Int)) := (keep_get kk4 c4_27 (by first | (simp; done) | (simp; omega))).trans c4_26
                        have d4_13l := keep_lt kk4 c4_27
                        have d4_14 : getCells hh4 nb2_1 (v7.a.entries.length * 3) = some (rows (v7.a.entries : List TEntry)) := (keep_get kk4 c4_29 (by first | (simp; done) | (simp; omega))).trans c4_28
                        have d4_14l := keep_lt kk4 c4_29
                        have d4_15 : getCells hh4 hh2.length 0 = some [] := (keep_get kk4 c4_31 (by first | (simp; done) | (simp; omega))).trans c4_30
                        have d4_15l := keep_lt kk4 c4_31
                        have d4_16 : getCells hh4 (hh2.length + 1) 0 = some [] := (keep_get kk4 c4_33 (by first | (simp; done) | (simp; omega))).trans c4_32
                        have d4_16l := keep_lt kk4 c4_33
                        have d4_17 : getCells hh4 (hh2.length + 2) 2 = some [.hsl nb2_0 v7.a.seen.counts.length 0 1 false v7.a.seen.counts.length, .hsl nb2_1 (v7.a.entries.length * 3) 0 3 true v7.a.entries.length] := (keep_get kk4 c4_35 (by first | (simp; done) | (simp; omega))).trans c4_34
                        have d4_17l := keep_lt kk4 c4_35
                        by_cases hb17 : (decide (v16.a < 0)) = true
                        · rw [if_t hb17] at hp
                          cases hp
                        · replace hb17 := eq_false_of_ne_true hb17
                          rw [if_f hb17] at hp
                          obtain ⟨v18, hv18, hp⟩ := bind_eq hp
                          simp (disch := first | omega | (simp only [List.length_set, List.length_append, List.length_cons, List.length_nil, rows_len, zs]; first | done | omega)) only [ep_laws_szSet, ep_laws_toSet, ep_spec_SetJoin, ep_laws_eqSet, ep_laws_heldSet, ep_impl_SetJoin, hv0, hb1, hv2, hb3, hv4, hv5, hv6, d0_0, d0_1, d0_2, d0_3, d0_4, d1_0, d1_1, d1_2, d1_3, d1_4, d1_5, d1_6, d1_7, d1_8, d1_9, hv7, d2_0, d2_1, d2_2, d2_3, d2_4, d2_5, d2_6, d2_7, d2_8, d2_9, d2_10, d2_11, d2_12, d2_13, d2_14, hv8, hb9, hb10, hv11, hb12, hv13, hb14, hv15, d3_0, d3_1, d3_2, d3_3, d3_4, d3_5, d3_6, d3_7, d3_8, d3_9, d3_10, d3_11, d3_12, d3_13, d3_14, d3_15, d3_16, d3_17, hv16, d4_0, d4_1, d4_2, d4_3, d4_4, d4_5, d4_6, d4_7, d4_8, d4_9, d4_10, d4_11, d4_12, d4_13, d4_14, d4_15, d4_16, d4_17, hb17, gs, reduceIte, reduceCtorEq, Nat.reduceAdd, Nat.reduceMul, Nat.reduceSub, Nat.reduceBEq, Nat.reduceEqDiff, Nat.reduceLeDiff, Nat.reduceLT, Nat.reduceGT, Int.reduceToNat, Int.reduceLT, Int.reduceLE, Int.reduceNeg, Int.reduceAdd, Int.reduceEq, Int.reduceNe]
                          refine call_f (fun h => getCells h 0 2 = some [.i (.sl 1 (x0.seen.counts.map enc)), .i (.sl 3 (x0.entries.map enc))] ∧ 0 < h.length ∧ getCells h 1 2 = some [.i (.sl 1 (x1.seen.counts.map enc)), .i (.sl 3 (x1.entries.map enc))] ∧ 1 < h.length ∧ getCells h 2 2 = some [.i (.sl 1 (v6.a.seen.counts.map enc)), .i (.sl 3 (v6.a.entries.map enc))] ∧ 2 < h.length ∧ getCells h nb0_0 v4.seen.counts.length = some (rows (v15.b.seen.counts : List Int)) ∧ nb0_0 < h.length ∧ getCells h nb0_1 (v4.entries.length * 3) = some (rows (v15.b.entries : List TEntry)) ∧ nb0_1 < h.length ∧ getCells h hh0.length 0 = some [] ∧ hh0.length < h.length ∧ getCells h (hh0.length + 1) 0 = some [] ∧ hh0.length + 1 < h.length ∧ getCells h (hh0.length + 2) 2 = some [.hsl nb0_0 v4.seen.counts.length 0 1 false v4.seen.counts.length, .hsl nb0_1 (v4.entries.length * 3) 0 3 true v4.entries.length] ∧ hh0.length + 2 < h.length ∧ getCells h nb1_0 v5.seen.counts.length = some (rows (v16.b.seen.counts : List Int)) ∧ nb1_0 < h.length ∧ getCells h nb1_1 (v5.entries.length * 3) = some (rows (v16.b.entries : List TEntry)) ∧ nb1_1 < h.length ∧ getCells h hh1.length 0 = some [] ∧ hh1.length < h.length ∧ getCells h (hh1.length + 1) 0 = some [] ∧ hh1.length + 1 < h.length ∧ getCells h (hh1.length + 2) 2 = some [.hsl nb1_0 v5.seen.counts.length 0 1 false v5.seen.counts.length, .hsl nb1_1 (v5.entries.length * 3) 0 3 true v5.entries.length] ∧ hh1.length + 2 < h.length ∧ getCells h nb2_0 v7.a.seen.counts.length = some (rows (v7.a.seen.counts : List Int)) ∧ nb2_0 < h.length ∧ getCells h nb2_1 (v7.a.entries.length * 3) = some (rows (v7.a.entries : List TEntry)) ∧ nb2_1 < h.length ∧ getCells h hh2.length 0 = some [] ∧ hh2.length < h.length ∧ getCells h (hh2.length + 1) 0 = some [] ∧ hh2.length + 1 < h.length ∧ getCells h (hh2.length + 2) 2 = some [.hsl nb2_0 v7.a.seen.counts.length 0 1 false v7.a.seen.counts.length, .hsl nb2_1 (v7.a.entries.length * 3) 0 3 true v7.a.entries.length] ∧ hh2.length + 2 < h.length) (fun h v h2 => i_laws_markSet nb2_0 nb2_1 v7.a.seen.counts.length v7.a.entries.length h v18 v h2) ?_ ?_ ?_
                          · simp (disch := first | omega | (simp only [List.length_set, List.length_append, List.length_cons, List.length_nil, rows_len, zs]; first | done | omega)) only [ep_laws_szSet, ep_laws_toSet, ep_spec_SetJoin, ep_laws_eqSet, ep_laws_heldSet, ep_impl_SetJoin, hv0, hb1, hv2, hb3, hv4, hv5, hv6, d0_0, d0_1, d0_2, d0_3, d0_4, d1_0, d1_1, d1_2, d1_3, d1_4, d1_5, d1_6, d1_7, d1_8, d1_9, hv7, d2_0, d2_1, d2_2, d2_3, d2_4, d2_5, d2_6, d2_7, d2_8, d2_9, d2_10, d2_11, d2_12, d2_13, d2_14, hv8, hb9, hb10, hv11, hb12, hv13, hb14, hv15, d3_0, d3_1, d3_2, d3_3, d3_4, d3_5, d3_6, d3_7, d3_8, d3_9, d3_10, d3_11, d3_12, d3_13, d3_14, d3_15, d3_16, d3_17, hv16, d4_0, d4_1, d4_2, d4_3, d4_4, d4_5, d4_6, d4_7, d4_8, d4_9, d4_10, d4_11, d4_12, d4_13, d4_14, d4_15, d4_16, d4_17, hb17, hv18, gs, reduceIte, reduceCtorEq, Nat.reduceAdd, Nat.reduceMul, Nat.reduceSub, Nat.reduceBEq, Nat.reduceEqDiff, Nat.reduceLeDiff, Nat.reduceLT, Nat.reduceGT, Int.reduceToNat, Int.reduceLT, Int.reduceLE, Int.reduceNeg, Int.reduceAdd, Int.reduceEq, Int.reduceNe] <;> omega
                          · rintro h ⟨c5_0, c5_1, c5_2, c5_3, c5_4, c5_5, c5_6, c5_7, c5_8, c5_9, c5_10, c5_11, c5_12, c5_13, c5_14, c5_15, c5_16, c5_17, c5_18, c5_19, c5_20, c5_21, c5_22, c5_23, c5_24, c5_25, c5_26, c5_27, c5_28, c5_29, c5_30, c5_31, c5_32, c5_33, c5_34, c5_35⟩
                            exact e_laws_markSet _ _ _ hv18 nb2_0 nb2_1 v7.a.seen.counts.length v7.a.entries.length h (by omega) (by omega) c5_26 c5_28 (by omega)
                          · rintro h v hh5 ⟨c5_0, c5_1, c5_2, c5_3, c5_4, c5_5, c5_6, c5_7, c5_8, c5_9, c5_10, c5_11, c5_12, c5_13, c5_14, c5_15, c5_16, c5_17, c5_18, c5_19, c5_20, c5_21, c5_22, c5_23, c5_24, c5_25, c5_26, c5_27, c5_28, c5_29, c5_30, c5_31, c5_32, c5_33, c5_34, c5_35⟩ hpost
                            obtain ⟨kk5, rfl, w5_0, w5_1⟩ := hpost
                            have d5_0 : getCells hh5 0 2 = some [.i (.sl 1 (x0.seen.counts.map enc)), .i (.sl 3 (x0.entries.map enc))] := (keep_get kk5 c5_1 (by first | (simp; done) | (simp; omega))).trans c5_0
                            have d5_0l := keep_lt kk5 c5_1
                            have d5_1 : getCells hh5 1 2 = some [.i (.sl 1 (x1.seen.counts.map enc)), .i (.sl 3 (x1.entries.map enc))] := (keep_get kk5 c5_3 (by first | (simp; done) | (simp; omega))).trans c5_2
                            have d5_1l := keep_lt kk5 c5_3
                            have d5_2 : getCells hh5 2 2 = some [.i (.sl 1 (v6.a.seen.counts.map enc)), .i (.sl 3 (v6.a.entries.map enc))] := (keep_get kk5 c5_5 (by first | (simp; done) | (simp; omega))).trans c5_4
                            have d5_2l := keep_lt kk5 c5_5
                            have d5_3 : getCells hh5 nb0_0 v4.seen.counts.length = some (rows (v15.b.seen.counts : List Int)) := (keep_get kk5 c5_7 (by first | (simp; done) | (simp; omega))).trans c5_6
                            have d5_3l := keep_lt kk5 c5_7
                            have d5_4 : getCells hh5 nb0_1 (v4.entries.length * 3) = some (rows (v15.b.entries : List TEntry)) := (keep_get kk5 c5_9 (by first | (simp; done) | (simp; omega))).trans c5_8
                            have d5_4l := keep_lt kk5 c5_9
                            have d5_5 : getCells hh5 hh0.length 0 = some [] := (keep_get kk5 c5_11 (by first | (simp; done) | (simp; omega))).trans c5_10
                            have d5_5l := keep_lt kk5 c5_11
                            have d5_6 : getCells hh5 (hh0.length + 1) 0 = some [] := (keep_get kk5 c5_13 (by first | (simp; done) | (simp; omega))).trans c5_12
                            have d5_6l := keep_lt kk5 c5_13
                            have d5_7 : getCells hh5 (hh0.length + 2) 2 = some [.hsl nb0_0 v4.seen.counts.length 0 1 false v4.seen.counts.length, .hsl nb0_1 (v4.entries.length * 3) 0 3 true v4.entries.length] := (keep_get kk5 c5_15 (by first | (simp; done) | (simp; omega))).trans c5_14
                            have d5_7l := keep_lt kk5 c5_15
                            have d5_8 : getCells hh5 nb1_0 v5.seen.counts.length = some (rows (v16.b.seen.counts : List Int)) := (keep_get kk5 c5_17 (by first | (simp; done) | (simp; omega))).trans c5_16
                            have d5_8l := keep_lt kk5 c5_17
                            have d5_9 : getCells hh5 nb1_1 (v5.entries.length * 3) = some (rows (v16.b.entries : List TEntry)) := (keep_get kk5 c5_19 (by first | (simp; done) | (simp; omega))).trans c5_18
                            have d5_9l := keep_lt kk5 c5_19
                            have d5_10 : getCells hh5 hh1.length 0 = some [] := (keep_get kk5 c5_21 (by first | (simp; done) | (simp; omega))).trans c5_20
                            have d5_10l := keep_lt kk5 c5_21
                            have d5_11 : getCells hh5 (hh1.length + 1) 0 = some [] := (keep_get kk5 c5_23 (by first | (simp; done) | (simp; omega))).trans c5_22
                            have d5_11l := keep_lt kk5 c5_23
                            have d5_12 : getCells hh5 (hh1.length + 2) 2 = some [.hsl nb1_0 v5.seen.counts.length 0 1 false v5.seen.counts.length, .hsl nb1_1 (v5.entries.length * 3) 0 3 true v5.entries.length] := (keep_get kk5 c5_25 (by first | (simp; done) | (simp; omega))).trans c5_24
                            have d5_12l := keep_lt kk5 c5_25
                            have d5_13 : getCells hh5 nb2_0 v7.a.seen.counts.length = some (rows (v18.b.seen.counts : List Int)) := w5_0
                            have mm5_0 := len_rows w5_0
                            simp only [zs] at mm5_0
                            have d5_13l := keep_lt kk5 c5_27
                            have d5_14 : getCells hh5 nb2_1 (v7.a.entries.length * 3) = some (rows (v18.b.entries : List TEntry)) := w5_1
                            have mm5_1 := len_rows w5_1
                            simp only [zs] at mm5_1
                            have d5_14l := keep_lt kk5 c5_29
                            have d5_15 : getCells hh5 hh2.length 0 = some [] := (keep_get kk5 c5_31 (by first | (simp; done) | (simp; omega))).trans c5_30
                            have d5_15l := keep_lt kk5 c5_31
                            have d5_16 : getCells hh5 (hh2.length + 1) 0 = some [] := (keep_get kk5 c5_33 (by first | (simp; done) | (simp; omega))).trans c5_32
                            have d5_16l := keep_lt kk5 c5_33
                            have d5_17 : getCells hh5 (hh2.length + 2) 2 = some [.hsl nb2_0 v7.a.seen.counts.length 0 1 false v7.a.seen.counts.length, .hsl nb2_1 (v7.a.entries.length * 3) 0 3 true v7.a.entries.length] := (keep_get kk5 c5_35 (by first | (simp; done) | (simp; omega))).trans c5_34
                            have d5_17l := keep_lt kk5 c5_35
                            obtain ⟨v19, hv19, hp⟩ := bind_eq hp
                            by_cases hb20 : (decide (v19 < 0)) = true
                            · rw [if_t hb20] at hp
                              cases hp
                            · replace hb20 := eq_false_of_ne_true hb20
                              rw [if_f hb20] at hp
                              by_cases hb21 : (decide (v19 = v18.a)) = true
                              · rw [if_t hb21] at hp
                                cases hp
                                simp (disch := first | omega | (simp only [List.length_set, List.length_append, List.length_cons, List.length_nil, rows_len, zs]; first | done | omega)) only [ep_laws_szSet, ep_laws_toSet, ep_spec_SetJoin, ep_laws_eqSet, ep_laws_heldSet, ep_impl_SetJoin, hv0, hb1, hv2, hb3, hv4, hv5, hv6, d0_0, d0_1, d0_2, d0_3, d0_4, d1_0, d1_1, d1_2, d1_3, d1_4, d1_5, d1_6, d1_7, d1_8, d1_9, hv7, d2_0, d2_1, d2_2, d2_3, d2_4, d2_5, d2_6, d2_7, d2_8, d2_9, d2_10, d2_11, d2_12, d2_13, d2_14, hv8, hb9, hb10, hv11, hb12, hv13, hb14, hv15, d3_0, d3_1, d3_2, d3_3, d3_4, d3_5, d3_6, d3_7, d3_8, d3_9, d3_10, d3_11, d3_12, d3_13, d3_14, d3_15, d3_16, d3_17, hv16, d4_0, d4_1, d4_2, d4_3, d4_4, d4_5, d4_6, d4_7, d4_8, d4_9, d4_10, d4_11, d4_12, d4_13, d4_14, d4_15, d4_16, d4_17, hb17, hv18, d5_0, d5_1, d5_2, d5_3, d5_4, d5_5, d5_6, d5_7, d5_8, d5_9, d5_10, d5_11, d5_12, d5_13, d5_14, d5_15, d5_16, d5_17, hv19, hb20, hb21, gs, reduceIte, reduceCtorEq, Nat.reduceAdd, Nat.reduceMul, Nat.reduceSub, Nat.reduceBEq, Nat.reduceEqDiff, Nat.reduceLeDiff, Nat.reduceLT, Nat.reduceGT, Int.reduceToNat, Int.reduceLT, Int.reduceLE, Int.reduceNeg, Int.reduceAdd, Int.reduceEq, Int.reduceNe]
                              · replace hb21 := eq_false_of_ne_true hb21
                                rw [if_f hb21] at hp
                                cases hp
                  · replace hb14 := eq_false_of_ne_true hb14
                    rw [if_f hb14] at hp
                    cases hp
                · replace hb12 := eq_false_of_ne_true hb12
                  rw [if_f hb12] at hp
                  cases hp
              · replace hb10 := eq_false_of_ne_true hb10
                rw [if_f hb10] at hp
                cases hp
            · replace hb9 := eq_false_of_ne_true hb9
              rw [if_f hb9] at hp
              cases hp

end Go.AM
