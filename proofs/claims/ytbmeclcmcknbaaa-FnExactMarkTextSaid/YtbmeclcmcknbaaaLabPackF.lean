/- Several texts of the abstract machine in one. No condition. -/
import Derived.Test.YtbmeclcmcknbaaaLabPackE
set_option linter.unusedVariables false
set_option linter.unusedSimpArgs false
set_option maxRecDepth 20000
namespace Go.AM
open Pic (enc dec dec_enc dec_sub)
open PicA (encA decA decA_encA decA_sub)

instance : Inhabited TMark := ⟨⟨⟨0, 0⟩, ⟨0, 0⟩, ⟨0, 0⟩, 0, false⟩⟩
def markK (m : TMark) : Bool := stOK m.id && (stOK m.from_ && (stOK m.to && decide (1 ≤ m.kind ∧ m.kind ≤ 8)))
def inPl (p : List (TStamp × Int)) (k : TStamp) : Bool := (idxK (p.map Prod.fst) k).isSome
noncomputable def p_impl_readRich_1 (x0 x1 : Int) (x2 : PtrL TMark) : Option Bool := (get? x2.l x0).bind fun x => (get? x2.l x1).bind fun y => p_impl_StampLess x.id y.id
noncomputable def p_impl_readRich (x0 : List TLOp) (x1 : List TMark) : Option (T3 (Option TList) (List TMark) Int) :=
  if 2048 < x1.length then some ⟨none, [], 2⟩ else (p_impl_readList x0).bind fun r => if r.b ≠ 0 then some ⟨none, [], r.b⟩ else r.a.bind fun t =>
    if x1.all markK = false then some ⟨none, [], 1⟩ else match dedK TMark.id none (sortL (ltK TMark.id) x1) [] with
      | none => some ⟨none, [], 16⟩
      | some l => if (l.all fun m => inPl t.place m.from_ && inPl t.place m.to) = true then some ⟨some t, l, 0⟩ else some ⟨none, [], 5⟩
theorem enc_plM {p : PtrL TMark} : enc p = .ip [.sl 8 (p.l.map enc)] := rfl

def c_impl_readRich_1 (f_impl_StampLess : Nat) : AFn := ⟨17, (.seq (.ops [(qS 5 (.mv (.const (.bool false))))]) (.seq (.ops [(qS 6 (.load 1 false (.tmp 2))), (qS 7 (.mv (.tmp 0))), (qS 8 (.idxS 8 (.tmp 6) (.tmp 7))), (qS 9 (.fieldA 0 (.tmp 8))), (qS 10 (.load 2 true (.tmp 9))), (qS 11 (.load 1 false (.tmp 2))), (qS 12 (.mv (.tmp 1))), (qS 13 (.idxS 8 (.tmp 11) (.tmp 12))), (qS 14 (.fieldA 0 (.tmp 13))), (qS 15 (.load 2 true (.tmp 14))), (qS 16 (.call (2 * f_impl_StampLess) [(.tmp 10), (.tmp 15)])), (qS 5 (.mv (.tmp 16)))]) .ret)), [(.tmp 5)]⟩
def c_impl_readRich (f_impl_readList : Nat) (f_impl_StampOK : Nat) (f_sort_Slice : Nat) (f_impl_readRich_1 : Nat) : AFn := ⟨138, (.seq (.ops [(qS 4 (.mv (.const (.pointer .none)))), (qS 5 (.vnil 8 true)), (qS 6 (.mv (ic 0)))]) (.seq (.seq (.ops [(qS 21 (.mv (.tmp 1))), (qS 22 (.len (.tmp 21))), (qS 23 (.pu (.n (.ar .gtr)) [(.tmp 22), (ic 2048)]))]) (.cond (.tmp 23) (.seq (.ops [(qS 4 (.mv (.const (.pointer .none)))), (qS 5 (.vnil 8 true)), (qS 6 (.mv (ic 2)))]) .ret) .skip)) (.seq (.ops [(qS 25 (.mv (.tmp 0))), (qS 26 (.call (2 * f_impl_readList) [(.tmp 25)])), (qS 24 (.mv (.tmp 26))), (qS 27 (.extract 0 (.tmp 24))), (qS 28 (.extract 1 (.tmp 24))), (qS 7 (.mv (.tmp 27))), (qS 8 (.mv (.tmp 28)))]) (.seq (.seq (.ops [(qS 29 (.mv (.tmp 8))), (qS 30 (.pu (.n (.ar .neq)) [(.tmp 29), (ic 0)]))]) (.cond (.tmp 30) (.seq (.ops [(qS 31 (.mv (.tmp 8))), (qS 4 (.mv (.const (.pointer .none)))), (qS 5 (.vnil 8 true)), (qS 6 (.mv (.tmp 31)))]) .ret) .skip)) (.seq (.seq (.ops [(qS 32 (.mv (.tmp 1))), (qS 33 (.len (.tmp 32))), (qS 34 (.mv (ic 0)))]) (.block 0 (.loop (.seq (.ops [(qS 35 (.pu (.n (.ar .lss)) [(.tmp 34), (.tmp 33)]))]) (.seq (.cond (.tmp 35) .skip (.exit 0)) (.seq (.block 1 (.seq (.ops [(qS 36 (.idxS 8 (.tmp 32) (.tmp 34))), (qS 37 (.load 8 true (.tmp 36))), (qS 10 (.allocV [(0, false), (0, false), (0, false), (0, false), (0, false), (0, false), (0, false), (0, false)] [(.int .i64 0), (.int .i64 0), (.int .i64 0), (.int .i64 0), (.int .i64 0), (.int .i64 0), (.int .i64 0), (.bool false)])), ⟨.none, (.storeV [(0, false), (0, false), (0, false), (0, false), (0, false), (0, false), (0, false), (0, false)] 8 (.tmp 10) (.tmp 37)), .none, [], .none⟩]) (.seq (.ops [(qS 38 (.fieldA 0 (.tmp 10))), (qS 39 (.load 2 true (.tmp 38))), (qS 40 (.call (2 * f_impl_StampOK) [(.tmp 39)])), (qS 41 (.pu (.n (.un .not)) [(.tmp 40)])), (qS 42 (.mv (.tmp 41))), ⟨(.some 43), (.fieldA 2 (.tmp 10)), (.some (42, false)), [], .none⟩, ⟨(.some 44), (.load 2 true (.tmp 43)), (.some (42, false)), [], .none⟩, ⟨(.some 45), (.call (2 * f_impl_StampOK) [(.tmp 44)]), (.some (42, false)), [], .none⟩, ⟨(.some 46), (.pu (.n (.un .not)) [(.tmp 45)]), (.some (42, false)), [], .none⟩, (qS 47 (.pick (.tmp 42) (.const (.bool true)) (.tmp 46))), (qS 48 (.mv (.tmp 47))), ⟨(.some 49), (.fieldA 4 (.tmp 10)), (.some (48, false)), [], .none⟩, ⟨(.some 50), (.load 2 true (.tmp 49)), (.some (48, false)), [], .none⟩, ⟨(.some 51), (.call (2 * f_impl_StampOK) [(.tmp 50)]), (.some (48, false)), [], .none⟩, ⟨(.some 52), (.pu (.n (.un .not)) [(.tmp 51)]), (.some (48, false)), [], .none⟩, (qS 53 (.pick (.tmp 48) (.const (.bool true)) (.tmp 52))), (qS 54 (.mv (.tmp 53))), ⟨(.some 55), (.fieldA 6 (.tmp 10)), (.some (54, false)), [], .none⟩, ⟨(.some 56), (.load 1 false (.tmp 55)), (.some (54, false)), [], .none⟩, ⟨(.some 57), (.pu (.n (.ar .lss)) [(.tmp 56), (ic 1)]), (.some (54, false)), [], .none⟩, (qS 58 (.pick (.tmp 54) (.const (.bool true)) (.tmp 57))), (qS 59 (.mv (.tmp 58))), ⟨(.some 60), (.fieldA 6 (.tmp 10)), (.some (59, false)), [], .none⟩, ⟨(.some 61), (.load 1 false (.tmp 60)), (.some (59, false)), [], .none⟩, ⟨(.some 62), (.pu (.n (.ar .gtr)) [(.tmp 61), (ic 8)]), (.some (59, false)), [], .none⟩, (qS 63 (.pick (.tmp 59) (.const (.bool true)) (.tmp 62)))]) (.cond (.tmp 63) (.seq (.ops [(qS 4 (.mv (.const (.pointer .none)))), (qS 5 (.vnil 8 true)), (qS 6 (.mv (ic 1)))]) .ret) .skip)))) (.ops [(qS 64 (.pu (.n (.ar .add)) [(.tmp 34), (ic 1)])), (qS 34 (.mv (.tmp 64)))]))))))) (.seq (.ops [(qS 65 (.mv (.tmp 1))), (qS 66 (.appendV 8 true 64 (.tmp 65))), (qS 11 (.allocV [(8, true)] [(.slice .none 0 0)])), ⟨.none, (.storeV [(8, true)] 1 (.tmp 11) (.tmp 66)), .none, [], .none⟩]) (.seq (.ops [(qS 67 (.load 1 false (.tmp 11))), (qS 68 (.ifc 56 (.tmp 67))), (qS 69 (.clo f_impl_readRich_1 [(.tmp 11)])), (qS 70 (.call (2 * f_sort_Slice + 1) [(.tmp 68), (.tmp 69)]))]) (.seq (.ops [(qS 12 (.vnil 8 true))]) (.seq (.seq (.ops [(qS 71 (.load 1 false (.tmp 11))), (qS 72 (.len (.tmp 71))), (qS 73 (.mv (ic 0)))]) (.block 2 (.loop (.seq (.ops [(qS 74 (.pu (.n (.ar .lss)) [(.tmp 73), (.tmp 72)]))]) (.seq (.cond (.tmp 74) .skip (.exit 2)) (.seq (.block 3 (.seq (.ops [(qS 75 (.mv (.tmp 73))), (qS 76 (.idxS 8 (.tmp 71) (.tmp 73))), (qS 77 (.load 8 true (.tmp 76))), (qS 14 (.allocV [(0, false), (0, false), (0, false), (0, false), (0, false), (0, false), (0, false), (0, false)] [(.int .i64 0), (.int .i64 0), (.int .i64 0), (.int .i64 0), (.int .i64 0), (.int .i64 0), (.int .i64 0), (.bool false)])), (qS 13 (.mv (.tmp 75))), ⟨.none, (.storeV [(0, false), (0, false), (0, false), (0, false), (0, false), (0, false), (0, false), (0, false)] 8 (.tmp 14) (.tmp 77)), .none, [], .none⟩]) (.seq (.seq (.ops [(qS 78 (.mv (.tmp 13))), (qS 79 (.pu (.n (.ar .gtr)) [(.tmp 78), (ic 0)])), (qS 80 (.mv (.tmp 79))), ⟨(.some 81), (.load 1 false (.tmp 11)), (.some (80, true)), [], .none⟩, ⟨(.some 82), (.mv (.tmp 13)), (.some (80, true)), [], .none⟩, ⟨(.some 83), (.pu (.n (.ar .sub)) [(.tmp 82), (ic 1)]), (.some (80, true)), [], .none⟩, ⟨(.some 84), (.idxS 8 (.tmp 81) (.tmp 83)), (.some (80, true)), [], .none⟩, ⟨(.some 85), (.fieldA 0 (.tmp 84)), (.some (80, true)), [], .none⟩, ⟨(.some 86), (.load 2 true (.tmp 85)), (.some (80, true)), [], .none⟩, ⟨(.some 87), (.fieldA 0 (.tmp 14)), (.some (80, true)), [], .none⟩, ⟨(.some 88), (.load 2 true (.tmp 87)), (.some (80, true)), [], .none⟩, ⟨(.some 89), (.aeq false [(.int .i64), (.int .i64)] (.tmp 86) (.tmp 88)), (.some (80, true)), [], .none⟩, (qS 90 (.pick (.tmp 80) (.tmp 89) (.const (.bool false))))]) (.cond (.tmp 90) (.seq (.seq (.ops [(qS 91 (.load 1 false (.tmp 11))), (qS 92 (.mv (.tmp 13))), (qS 93 (.pu (.n (.ar .sub)) [(.tmp 92), (ic 1)])), (qS 94 (.idxS 8 (.tmp 91) (.tmp 93))), (qS 95 (.load 8 true (.tmp 94))), (qS 96 (.load 8 true (.tmp 14))), (qS 97 (.aeq true [(.int .i64), (.int .i64), (.int .i64), (.int .i64), (.int .i64), (.int .i64), (.int .i64), .bool] (.tmp 95) (.tmp 96)))]) (.cond (.tmp 97) (.seq (.ops [(qS 4 (.mv (.const (.pointer .none)))), (qS 5 (.vnil 8 true)), (qS 6 (.mv (ic 16)))]) .ret) .skip)) (.exit 3)) .skip)) (.ops [(qS 98 (.mv (.tmp 12))), (qS 99 (.load 8 true (.tmp 14))), (qS 100 (.buildSl 8 true 1 [(.int .i64 0), (.int .i64 0), (.int .i64 0), (.int .i64 0), (.int .i64 0), (.int .i64 0), (.int .i64 0), (.bool false)] [(0, (.tmp 99))])), (qS 101 (.append 8 true 64 (.tmp 98) (.tmp 100))), (qS 12 (.mv (.tmp 101)))])))) (.ops [(qS 102 (.pu (.n (.ar .add)) [(.tmp 73), (ic 1)])), (qS 73 (.mv (.tmp 102)))]))))))) (.seq (.seq (.ops [(qS 103 (.mv (.tmp 12))), (qS 104 (.len (.tmp 103))), (qS 105 (.mv (ic 0)))]) (.block 4 (.loop (.seq (.ops [(qS 106 (.pu (.n (.ar .lss)) [(.tmp 105), (.tmp 104)]))]) (.seq (.cond (.tmp 106) .skip (.exit 4)) (.seq (.block 5 (.seq (.ops [(qS 107 (.idxS 8 (.tmp 103) (.tmp 105))), (qS 108 (.load 8 true (.tmp 107))), (qS 16 (.allocV [(0, false), (0, false), (0, false), (0, false), (0, false), (0, false), (0, false), (0, false)] [(.int .i64 0), (.int .i64 0), (.int .i64 0), (.int .i64 0), (.int .i64 0), (.int .i64 0), (.int .i64 0), (.bool false)])), ⟨.none, (.storeV [(0, false), (0, false), (0, false), (0, false), (0, false), (0, false), (0, false), (0, false)] 8 (.tmp 16) (.tmp 108)), .none, [], .none⟩]) (.seq (.ops [(qS 110 (.mv (.tmp 7))), (qS 111 (.nilChk (.tmp 110))), (qS 112 (.fieldA 3 (.tmp 111))), (qS 113 (.load 1 false (.tmp 112))), (qS 114 (.fieldA 2 (.tmp 16))), (qS 115 (.load 2 true (.tmp 114))), (qS 116 (.lookup true [(.int .i64), (.int .i64)] false [(.int .i64 0)] true (.tmp 113) (.tmp 115))), (qS 109 (.mv (.tmp 116))), (qS 117 (.extract 0 (.tmp 109))), (qS 118 (.extract 1 (.tmp 109))), (qS 17 (.mv (.tmp 117))), (qS 18 (.mv (.tmp 118)))]) (.seq (.ops [(qS 120 (.mv (.tmp 7))), (qS 121 (.nilChk (.tmp 120))), (qS 122 (.fieldA 3 (.tmp 121))), (qS 123 (.load 1 false (.tmp 122))), (qS 124 (.fieldA 4 (.tmp 16))), (qS 125 (.load 2 true (.tmp 124))), (qS 126 (.lookup true [(.int .i64), (.int .i64)] false [(.int .i64 0)] true (.tmp 123) (.tmp 125))), (qS 119 (.mv (.tmp 126))), (qS 127 (.extract 0 (.tmp 119))), (qS 128 (.extract 1 (.tmp 119))), (qS 19 (.mv (.tmp 127))), (qS 20 (.mv (.tmp 128)))]) (.seq (.ops [(qS 129 (.mv (.tmp 18))), (qS 130 (.pu (.n (.un .not)) [(.tmp 129)])), (qS 131 (.mv (.tmp 130))), ⟨(.some 132), (.mv (.tmp 20)), (.some (131, false)), [], .none⟩, ⟨(.some 133), (.pu (.n (.un .not)) [(.tmp 132)]), (.some (131, false)), [], .none⟩, (qS 134 (.pick (.tmp 131) (.const (.bool true)) (.tmp 133)))]) (.cond (.tmp 134) (.seq (.ops [(qS 4 (.mv (.const (.pointer .none)))), (qS 5 (.vnil 8 true)), (qS 6 (.mv (ic 5)))]) .ret) .skip)))))) (.ops [(qS 135 (.pu (.n (.ar .add)) [(.tmp 105), (ic 1)])), (qS 105 (.mv (.tmp 135)))]))))))) (.seq (.ops [(qS 136 (.mv (.tmp 7))), (qS 137 (.mv (.tmp 12))), (qS 4 (.mv (.tmp 136))), (qS 5 (.mv (.tmp 137))), (qS 6 (.mv (ic 0)))]) .ret))))))))))), [(.tmp 4), (.tmp 5), (.tmp 6)]⟩

theorem d_impl_readRich_1 {P : Program} {env : Env} {f_impl_StampLess : Nat} (ep_impl_StampLess : env (2 * f_impl_StampLess) = pureFn true (FA fun a : TStamp × TStamp => p_impl_StampLess a.1 a.2)) (x0 x1 : Int) (x2 : PtrL TMark) {b : Bool} (hp : p_impl_readRich_1 x0 x1 x2 = some b) : R P env (c_impl_readRich_1 f_impl_StampLess) ((encA (x0, x1, x2)).map ofI) [] (Tells true b) := by
  refine R_of (by simp [c_impl_readRich_1, encA]) ?_
  unfold c_impl_readRich_1
  obtain ⟨x, h1, hp⟩ := Option.bind_eq_some_iff.1 hp
  obtain ⟨y, h2, hp⟩ := Option.bind_eq_some_iff.1 hp
  simp (maxSteps := 2000000) (disch := omega) only [gw, Nat.reduceAdd, Nat.reduceMul, enc_plM, h1, h2, enc_TMark, ep_impl_StampLess, hp]
theorem less_mark (l : List TMark) (i j : Int) (x y : TMark) (h1 : get? l i = some x) (h2 : get? l j = some y) : p_impl_readRich_1 i j ⟨l⟩ = some (ltK TMark.id x y) := by
  unfold p_impl_readRich_1
  rw [h1, Option.bind_some, h2, Option.bind_some, q_lessl]
def markS : Scal TMark where
  encS x := [.int .i64 x.id.time, .int .i64 x.id.actor, .int .i64 x.from_.time, .int .i64 x.from_.actor, .int .i64 x.to.time, .int .i64 x.to.actor, .int .i64 x.kind, .bool x.on]
  hE _ := rfl
  hz _ := rfl
  hp _ := rfl
  z0 := by decide

set_option maxHeartbeats 10000000 in
theorem scanM_ok {t : Nat → V} {P : Program} {env : Env} {Q : Post} {h : Heap} {f_impl_StampOK : Nat} (ep_impl_StampOK : env (2 * f_impl_StampOK) = pureFn true (FA fun a : TStamp => p_impl_StampOK a))
    {x1 : List TMark} {T : V} (hlen : x1.length ≤ 2048) (g1 : t 1 = .i (.sl 8 (x1.map enc))) (g7 : t 7 = T) (g32 : t 32 = .i (.sl 8 (x1.map enc))) (g33 : t 33 = .i (.s (.int .i64 (x1.length : Int)))) (g34 : t 34 = .i (.s (.int .i64 0)))
    (hQ : ∀ t' h', t' 1 = .i (.sl 8 (x1.map enc)) → t' 7 = T → x1.all markK = true → Q (.exit 0) t' h')
    (hR : ∀ t' h' B, t' 4 = .i (.s (.pointer none)) → t' 5 = .hsl B 0 0 8 true 0 → getCells h' B 0 = some [] → t' 6 = .i (.s (.int .i64 1)) → x1.all markK = false → Q .ret t' h') :
    @W P env ⟨(.loop (.seq (.ops [(qS 35 (.pu (.n (.ar .lss)) [(.tmp 34), (.tmp 33)]))]) (.seq (.cond (.tmp 35) .skip (.exit 0)) (.seq (.block 1 (.seq (.ops [(qS 36 (.idxS 8 (.tmp 32) (.tmp 34))), (qS 37 (.load 8 true (.tmp 36))), (qS 10 (.allocV [(0, false), (0, false), (0, false), (0, false), (0, false), (0, false), (0, false), (0, false)] [(.int .i64 0), (.int .i64 0), (.int .i64 0), (.int .i64 0), (.int .i64 0), (.int .i64 0), (.int .i64 0), (.bool false)])), ⟨.none, (.storeV [(0, false), (0, false), (0, false), (0, false), (0, false), (0, false), (0, false), (0, false)] 8 (.tmp 10) (.tmp 37)), .none, [], .none⟩]) (.seq (.ops [(qS 38 (.fieldA 0 (.tmp 10))), (qS 39 (.load 2 true (.tmp 38))), (qS 40 (.call (2 * f_impl_StampOK) [(.tmp 39)])), (qS 41 (.pu (.n (.un .not)) [(.tmp 40)])), (qS 42 (.mv (.tmp 41))), ⟨(.some 43), (.fieldA 2 (.tmp 10)), (.some (42, false)), [], .none⟩, ⟨(.some 44), (.load 2 true (.tmp 43)), (.some (42, false)), [], .none⟩, ⟨(.some 45), (.call (2 * f_impl_StampOK) [(.tmp 44)]), (.some (42, false)), [], .none⟩, ⟨(.some 46), (.pu (.n (.un .not)) [(.tmp 45)]), (.some (42, false)), [], .none⟩, (qS 47 (.pick (.tmp 42) (.const (.bool true)) (.tmp 46))), (qS 48 (.mv (.tmp 47))), ⟨(.some 49), (.fieldA 4 (.tmp 10)), (.some (48, false)), [], .none⟩, ⟨(.some 50), (.load 2 true (.tmp 49)), (.some (48, false)), [], .none⟩, ⟨(.some 51), (.call (2 * f_impl_StampOK) [(.tmp 50)]), (.some (48, false)), [], .none⟩, ⟨(.some 52), (.pu (.n (.un .not)) [(.tmp 51)]), (.some (48, false)), [], .none⟩, (qS 53 (.pick (.tmp 48) (.const (.bool true)) (.tmp 52))), (qS 54 (.mv (.tmp 53))), ⟨(.some 55), (.fieldA 6 (.tmp 10)), (.some (54, false)), [], .none⟩, ⟨(.some 56), (.load 1 false (.tmp 55)), (.some (54, false)), [], .none⟩, ⟨(.some 57), (.pu (.n (.ar .lss)) [(.tmp 56), (ic 1)]), (.some (54, false)), [], .none⟩, (qS 58 (.pick (.tmp 54) (.const (.bool true)) (.tmp 57))), (qS 59 (.mv (.tmp 58))), ⟨(.some 60), (.fieldA 6 (.tmp 10)), (.some (59, false)), [], .none⟩, ⟨(.some 61), (.load 1 false (.tmp 60)), (.some (59, false)), [], .none⟩, ⟨(.some 62), (.pu (.n (.ar .gtr)) [(.tmp 61), (ic 8)]), (.some (59, false)), [], .none⟩, (qS 63 (.pick (.tmp 59) (.const (.bool true)) (.tmp 62)))]) (.cond (.tmp 63) (.seq (.ops [(qS 4 (.mv (.const (.pointer .none)))), (qS 5 (.vnil 8 true)), (qS 6 (.mv (ic 1)))]) .ret) .skip)))) (.ops [(qS 64 (.pu (.n (.ar .add)) [(.tmp 34), (ic 1)])), (qS 34 (.mv (.tmp 64)))])))))⟩ t h ⟨Q⟩ := by
  refine W_loopK (fun n t h => ∃ i : Nat, n = x1.length - i ∧ i ≤ x1.length ∧ t 1 = .i (.sl 8 (x1.map enc)) ∧ t 7 = T ∧ t 32 = .i (.sl 8 (x1.map enc)) ∧ t 33 = .i (.s (.int .i64 (x1.length : Int))) ∧ t 34 = .i (.s (.int .i64 (i : Int))) ∧ (x1.take i).all markK = true) x1.length ⟨0, rfl, Nat.zero_le _, g1, g7, g32, g33, g34, by simp⟩ ?_
  clear g1 g7 g32 g33 g34
  rintro K n t h hn hx ⟨i, rfl, hi, g1, g7, g32, g33, g34, ha⟩
  by_cases hlt : i < x1.length
  · obtain ⟨o, ho⟩ : ∃ o, o = x1[i] := ⟨_, rfl⟩
    have hoi : x1[i]? = some o := by rw [ho]; exact List.getElem?_eq_getElem hlt
    have hget : get? x1 (i : Int) = some o := by rw [get_nat]; exact hoi
    have hspl : x1 = x1.take i ++ o :: x1.drop (i + 1) := by rw [ho, List.getElem_cons_drop, List.take_append_drop]
    have hbad : markK o = false → x1.all markK = false := fun hm => by rw [hspl, List.all_append, List.all_cons, hm]; simp
    have eid : stOK ⟨o.id.time, o.id.actor⟩ = stOK o.id := rfl
    have efr : stOK ⟨o.from_.time, o.from_.actor⟩ = stOK o.from_ := rfl
    have eto : stOK ⟨o.to.time, o.to.actor⟩ = stOK o.to := rfl
    cases h1 : stOK o.id with
    | false =>
      simp (maxSteps := 2000000) (disch := omega) only [gw, Nat.reduceAdd, Nat.reduceMul, g1, g7, g32, g33, g34, hlt, hget, enc_TMark, ep_impl_StampOK, q_stOKl, eid, h1]
      exact hx _ _ _ (by simp) (hR _ _ _ rfl rfl (by first | (rw [gc_right0]; rfl) | (rw [gc_right]; rfl)) rfl (hbad (by unfold markK; rw [h1]; rfl)))
    | true =>
    cases h2 : stOK o.from_ with
    | false =>
      simp (maxSteps := 2000000) (disch := omega) only [gw, Nat.reduceAdd, Nat.reduceMul, g1, g7, g32, g33, g34, hlt, hget, enc_TMark, ep_impl_StampOK, q_stOKl, eid, h1, efr, h2]
      exact hx _ _ _ (by simp) (hR _ _ _ rfl rfl (by first | (rw [gc_right0]; rfl) | (rw [gc_right]; rfl)) rfl (hbad (by unfold markK; rw [h2]; simp)))
    | true =>
    cases h3 : stOK o.to with
    | false =>
      simp (maxSteps := 2000000) (disch := omega) only [gw, Nat.reduceAdd, Nat.reduceMul, g1, g7, g32, g33, g34, hlt, hget, enc_TMark, ep_impl_StampOK, q_stOKl, eid, h1, efr, h2, eto, h3]
      exact hx _ _ _ (by simp) (hR _ _ _ rfl rfl (by first | (rw [gc_right0]; rfl) | (rw [gc_right]; rfl)) rfl (hbad (by unfold markK; rw [h3]; simp)))
    | true =>
    by_cases h4 : o.kind < 1
    · simp (maxSteps := 2000000) (disch := omega) only [gw, Nat.reduceAdd, Nat.reduceMul, g1, g7, g32, g33, g34, hlt, hget, enc_TMark, ep_impl_StampOK, q_stOKl, eid, h1, efr, h2, eto, h3, h4]
      exact hx _ _ _ (by simp) (hR _ _ _ rfl rfl (by first | (rw [gc_right0]; rfl) | (rw [gc_right]; rfl)) rfl (hbad (by unfold markK; rw [decide_eq_false (by omega)]; simp)))
    by_cases h5 : 8 < o.kind
    · simp (maxSteps := 2000000) (disch := omega) only [gw, Nat.reduceAdd, Nat.reduceMul, g1, g7, g32, g33, g34, hlt, hget, enc_TMark, ep_impl_StampOK, q_stOKl, eid, h1, efr, h2, eto, h3, h4, h5]
      exact hx _ _ _ (by simp) (hR _ _ _ rfl rfl (by first | (rw [gc_right0]; rfl) | (rw [gc_right]; rfl)) rfl (hbad (by unfold markK; rw [decide_eq_false (by omega)]; simp)))
    have hm : markK o = true := by unfold markK; rw [h1, h2, h3, decide_eq_true (by omega)]; rfl
    simp (maxSteps := 2000000) (disch := omega) only [gw, Nat.reduceAdd, Nat.reduceMul, g1, g7, g32, g33, g34, hlt, hget, enc_TMark, ep_impl_StampOK, q_stOKl, eid, h1, efr, h2, eto, h3, h4, h5]
    exact hn _ _ _ (by omega) ⟨i + 1, rfl, by omega, g1, g7, g32, g33, rfl, by rw [List.take_succ_eq_append_getElem hlt, List.all_append, ha, ← ho]; simp [hm]⟩
  · simp (maxSteps := 2000000) (disch := omega) only [gw, Nat.reduceAdd, Nat.reduceMul, g1, g7, g32, g33, g34, hlt]
    refine hx _ _ _ (by simp) (hQ _ _ g1 g7 ?_)
    rw [← ha, List.take_of_length_le (by omega)]

theorem idxM {h : Heap} {b g len i : Nat} {cs : List V} (hg : getCells h b g = some cs) (hi : i < len) : stepIdxS 8 h (i : Int) (.hsl b g 0 8 true len) = some (.ptr b g (i * 8)) := by
  simp only [stepIdxS, hg]
  rw [if_pos ⟨trivial, by omega, by omega⟩]
  simp
theorem ldRowM {h : Heap} {b i : Nat} {S : List TMark} {o : TMark} (hg : getCells h b (S.length * 8) = some (rows S)) (ho : S[i]? = some o) : stepLoad 8 true h (.ptr b (S.length * 8) (i * 8)) = some (.agg (cellsV o)) := by
  have hi : i < S.length := (List.getElem?_eq_some_iff.1 ho).1
  have := rows_get (xs := S) ho
  simp only [stepLoad, hg, Option.bind_some]
  rw [if_pos (by rw [rows_len, z_TMark]; omega)]
  rw [z_TMark] at this
  rw [this]
  rfl
theorem ldIdM {h : Heap} {b i : Nat} {S : List TMark} {o : TMark} (hg : getCells h b (S.length * 8) = some (rows S)) (ho : S[i]? = some o) : stepLoad 2 true h (.ptr b (S.length * 8) (i * 8)) = some (.agg [.i (iN o.id.time), .i (iN o.id.actor)]) := by
  have hi : i < S.length := (List.getElem?_eq_some_iff.1 ho).1
  have := rows_get_off (xs := S) (k := 0) (m := 2) ho (by decide)
  simp only [stepLoad, hg, Option.bind_some]
  rw [if_pos (by rw [rows_len, z_TMark]; omega)]
  rw [z_TMark, Nat.add_zero] at this
  rw [this]
  rfl
structure RM (h : Heap) (b c T : Nat) (S : List TMark) : Prop where
  row : getCells h b (S.length * 8) = some (rows S)
  var : getCells h c 1 = some [.hsl b (S.length * 8) 0 8 true S.length]
  bT : b < T
  cT : c < T
theorem RM.app {h : Heap} {b c T : Nat} {S : List TMark} (r : RM h b c T S) (l : Heap) : RM (h ++ l) b c T S := ⟨gc_app r.row, gc_app r.var, r.bT, r.cT⟩
theorem RM.keep {h h' : Heap} {b c T : Nat} {S : List TMark} (r : RM h b c T S) (k : ∀ x, x < T → h'[x]? = h[x]?) : RM h' b c T S :=
  ⟨(getCells_congr (k b r.bT)).trans r.row, (getCells_congr (k c r.cT)).trans r.var, r.bT, r.cT⟩

set_option maxHeartbeats 10000000 in
theorem dedupM {t : Nat → V} {P : Program} {env : Env} {Q : Post} {h : Heap} {b c B : Nat} {S : List TMark} {T : V} (hS : S.length ≤ 2048) (rd : RM h b c B S) (hO : getCells h B 0 = some [])
    (g7 : t 7 = T) (g11 : t 11 = .ptr c 1 0) (g12 : t 12 = .hsl B 0 0 8 true 0) (g71 : t 71 = .hsl b (S.length * 8) 0 8 true S.length) (g72 : t 72 = .i (.s (.int .i64 (S.length : Int)))) (g73 : t 73 = .i (.s (.int .i64 0)))
    (hQ : ∀ t' h' l, dedK TMark.id none S [] = some l → t' 7 = T → t' 12 = .hsl B (l.length * 8) 0 8 true l.length → getCells h' B (l.length * 8) = some (rows l) → Q (.exit 2) t' h')
    (hR : dedK TMark.id none S [] = none → ∀ t' h' B, t' 4 = .i (.s (.pointer none)) → t' 5 = .hsl B 0 0 8 true 0 → getCells h' B 0 = some [] → t' 6 = .i (.s (.int .i64 16)) → Q .ret t' h') :
    @W P env ⟨(.loop (.seq (.ops [(qS 74 (.pu (.n (.ar .lss)) [(.tmp 73), (.tmp 72)]))]) (.seq (.cond (.tmp 74) .skip (.exit 2)) (.seq (.block 3 (.seq (.ops [(qS 75 (.mv (.tmp 73))), (qS 76 (.idxS 8 (.tmp 71) (.tmp 73))), (qS 77 (.load 8 true (.tmp 76))), (qS 14 (.allocV [(0, false), (0, false), (0, false), (0, false), (0, false), (0, false), (0, false), (0, false)] [(.int .i64 0), (.int .i64 0), (.int .i64 0), (.int .i64 0), (.int .i64 0), (.int .i64 0), (.int .i64 0), (.bool false)])), (qS 13 (.mv (.tmp 75))), ⟨.none, (.storeV [(0, false), (0, false), (0, false), (0, false), (0, false), (0, false), (0, false), (0, false)] 8 (.tmp 14) (.tmp 77)), .none, [], .none⟩]) (.seq (.seq (.ops [(qS 78 (.mv (.tmp 13))), (qS 79 (.pu (.n (.ar .gtr)) [(.tmp 78), (ic 0)])), (qS 80 (.mv (.tmp 79))), ⟨(.some 81), (.load 1 false (.tmp 11)), (.some (80, true)), [], .none⟩, ⟨(.some 82), (.mv (.tmp 13)), (.some (80, true)), [], .none⟩, ⟨(.some 83), (.pu (.n (.ar .sub)) [(.tmp 82), (ic 1)]), (.some (80, true)), [], .none⟩, ⟨(.some 84), (.idxS 8 (.tmp 81) (.tmp 83)), (.some (80, true)), [], .none⟩, ⟨(.some 85), (.fieldA 0 (.tmp 84)), (.some (80, true)), [], .none⟩, ⟨(.some 86), (.load 2 true (.tmp 85)), (.some (80, true)), [], .none⟩, ⟨(.some 87), (.fieldA 0 (.tmp 14)), (.some (80, true)), [], .none⟩, ⟨(.some 88), (.load 2 true (.tmp 87)), (.some (80, true)), [], .none⟩, ⟨(.some 89), (.aeq false [(.int .i64), (.int .i64)] (.tmp 86) (.tmp 88)), (.some (80, true)), [], .none⟩, (qS 90 (.pick (.tmp 80) (.tmp 89) (.const (.bool false))))]) (.cond (.tmp 90) (.seq (.seq (.ops [(qS 91 (.load 1 false (.tmp 11))), (qS 92 (.mv (.tmp 13))), (qS 93 (.pu (.n (.ar .sub)) [(.tmp 92), (ic 1)])), (qS 94 (.idxS 8 (.tmp 91) (.tmp 93))), (qS 95 (.load 8 true (.tmp 94))), (qS 96 (.load 8 true (.tmp 14))), (qS 97 (.aeq true [(.int .i64), (.int .i64), (.int .i64), (.int .i64), (.int .i64), (.int .i64), (.int .i64), .bool] (.tmp 95) (.tmp 96)))]) (.cond (.tmp 97) (.seq (.ops [(qS 4 (.mv (.const (.pointer .none)))), (qS 5 (.vnil 8 true)), (qS 6 (.mv (ic 16)))]) .ret) .skip)) (.exit 3)) .skip)) (.ops [(qS 98 (.mv (.tmp 12))), (qS 99 (.load 8 true (.tmp 14))), (qS 100 (.buildSl 8 true 1 [(.int .i64 0), (.int .i64 0), (.int .i64 0), (.int .i64 0), (.int .i64 0), (.int .i64 0), (.int .i64 0), (.bool false)] [(0, (.tmp 99))])), (qS 101 (.append 8 true 64 (.tmp 98) (.tmp 100))), (qS 12 (.mv (.tmp 101)))])))) (.ops [(qS 102 (.pu (.n (.ar .add)) [(.tmp 73), (ic 1)])), (qS 73 (.mv (.tmp 102)))])))))⟩ t h ⟨Q⟩ := by
  obtain ⟨D, hD⟩ : ∃ D, D = dedK TMark.id none S [] := ⟨_, rfl⟩
  rw [← hD] at hQ hR
  refine W_loopK (fun n t h => ∃ (i : Nat) (acc : List TMark), n = S.length - i ∧ i ≤ S.length ∧ acc.length ≤ i ∧ t 7 = T ∧ t 11 = .ptr c 1 0 ∧ t 12 = .hsl B (acc.length * 8) 0 8 true acc.length ∧ t 71 = .hsl b (S.length * 8) 0 8 true S.length ∧ t 72 = .i (.s (.int .i64 (S.length : Int))) ∧ t 73 = .i (.s (.int .i64 (i : Int))) ∧
    RM h b c B S ∧ getCells h B (acc.length * 8) = some (rows acc) ∧ D = dedK TMark.id (if i = 0 then none else S[i - 1]?) (S.drop i) acc) S.length ⟨0, [], rfl, Nat.zero_le _, Nat.le_refl _, g7, g11, g12, g71, g72, g73, rd, hO, hD⟩ ?_
  clear g7 g11 g12 g71 g72 g73 rd hO hD
  rintro K n t h hn hx ⟨i, acc, rfl, hi, hai, g7, g11, g12, g71, g72, g73, rd, hO, hD⟩
  by_cases hlt : i < S.length
  · obtain ⟨o, ho⟩ : ∃ o, o = S[i] := ⟨_, rfl⟩
    have hoi : S[i]? = some o := by rw [ho]; exact List.getElem?_eq_getElem hlt
    have hdr : S.drop i = o :: S.drop (i + 1) := by rw [ho, List.getElem_cons_drop]
    rw [hdr] at hD
    have r1 := ldRowM rd.row hoi
    have x1 := idxM rd.row hlt
    obtain ⟨h', p1, p2, p3, p4⟩ := app_rowsL (z := 8) (h := h ++ [Slot.cells (cellsV o), Slot.cells (cellsV o)]) (B := B) (xs := acc) (ys := [o]) (y := 64) rfl (gc_app hO) (by simp; omega)
    rw [rows_one] at p1
    simp only [cellsV_TMark, List.length_append, List.length_cons, List.length_nil, Nat.zero_add] at p1
    have rd' : RM h' b c B S := (rd.app [Slot.cells (cellsV o), Slot.cells (cellsV o)]).keep fun x hx => p3 x (by omega)
    have hnx : (if i + 1 = 0 then none else S[i + 1 - 1]?) = some o := by rw [if_neg (Nat.succ_ne_zero i), Nat.add_sub_cancel, hoi]
    have gB : V.hsl B ((acc.length + 1) * 8) 0 8 true (acc.length + 1) = V.hsl B ((acc ++ [o]).length * 8) 0 8 true (acc ++ [o]).length := by rw [List.length_append]; rfl
    by_cases h0 : i = 0
    · rw [if_pos h0] at hD
      have h0' : ¬ (0 : Int) < (i : Int) := by omega
      simp only [dedK] at hD
      simp (maxSteps := 2000000) (disch := omega) only [gw, Nat.reduceAdd, Nat.reduceMul, g7, g11, g12, g71, g72, g73, hlt, x1, r1, cellsV_TMark, h0', p1]
      exact hn _ _ _ (by omega) ⟨i + 1, acc ++ [o], rfl, by omega, by simp; omega, g7, g11, gB, g71, g72, rfl, rd', p2, by rw [hnx]; exact hD⟩
    · rw [if_neg h0] at hD
      have h0' : (0 : Int) < (i : Int) := by omega
      obtain ⟨q, hq⟩ : ∃ q, q = S[i - 1]'(by omega) := ⟨_, rfl⟩
      have hqi : S[i - 1]? = some q := by rw [hq]; exact List.getElem?_eq_getElem _
      rw [hqi] at hD
      simp only [dedK] at hD
      have r2 : ∀ l, stepLoad 2 true (h ++ l) (.ptr b (S.length * 8) ((i - 1) * 8)) = _ := fun l => ldIdM (gc_app rd.row) hqi
      have r3 : ∀ l, stepLoad 8 true (h ++ l) (.ptr b (S.length * 8) ((i - 1) * 8)) = _ := fun l => ldRowM (gc_app rd.row) hqi
      have rv : ∀ l, stepLoad 1 false (h ++ l) (.ptr c 1 0) = some (.hsl b (S.length * 8) 0 8 true S.length) := fun l => by simp [stepLoad, gc_app rd.var, rowV]
      have x2 : ∀ l : Heap, stepIdxS 8 (h ++ l) ((i - 1 : Nat) : Int) (.hsl b (S.length * 8) 0 8 true S.length) = some (.ptr b (S.length * 8) ((i - 1) * 8)) := fun l => idxM (gc_app rd.row) (by omega)
      by_cases he : q.id = o.id
      · rw [if_pos he] at hD
        have he1 : decide (q.id.time = o.id.time) = true := by rw [he]; simp
        have he2 : decide (q.id.actor = o.id.actor) = true := by rw [he]; simp
        have hm3 := eq_TMark (x := q) (y := o)
        simp only [eqL, eqV, he1, he2, Bool.true_and, Bool.and_true] at hm3
        by_cases hm : q = o
        · rw [if_pos hm] at hD
          rw [decide_eq_true hm] at hm3
          simp (maxSteps := 2000000) (disch := omega) only [gw, Nat.reduceAdd, Nat.reduceMul, g7, g11, g12, g71, g72, g73, hlt, x1, r1, cellsV_TMark, h0', x2, rv, r2, r3, he1, he2, hm3]
          exact hn _ _ _ (by omega) ⟨i + 1, acc, rfl, by omega, by omega, g7, g11, g12, g71, g72, rfl, rd.app _, gc_app hO, by rw [hnx]; exact hD⟩
        · rw [if_neg hm] at hD
          rw [decide_eq_false hm] at hm3
          simp (maxSteps := 2000000) (disch := omega) only [gw, Nat.reduceAdd, Nat.reduceMul, g7, g11, g12, g71, g72, g73, hlt, x1, r1, cellsV_TMark, h0', x2, rv, r2, r3, he1, he2, hm3]
          exact hx _ _ _ (by simp) (hR hD _ _ _ rfl rfl (by first | (rw [gc_right0]; rfl) | (rw [gc_right]; rfl)) rfl)
      · rw [if_neg he] at hD
        have hne : (decide (q.id.time = o.id.time) && decide (q.id.actor = o.id.actor)) = false := by
          have e := eq_TStamp (x := q.id) (y := o.id)
          simp only [eqL, eqV, Bool.and_true] at e
          rw [e, decide_eq_false he]
        simp (maxSteps := 2000000) (disch := omega) only [gw, Nat.reduceAdd, Nat.reduceMul, g7, g11, g12, g71, g72, g73, hlt, x1, r1, cellsV_TMark, h0', x2, rv, r2, r3, hne, p1]
        exact hn _ _ _ (by omega) ⟨i + 1, acc ++ [o], rfl, by omega, by simp; omega, g7, g11, gB, g71, g72, rfl, rd', p2, by rw [hnx]; exact hD⟩
  · simp (maxSteps := 2000000) (disch := omega) only [gw, Nat.reduceAdd, Nat.reduceMul, g7, g11, g12, g71, g72, g73, hlt]
    refine hx _ _ _ (by simp) (hQ _ _ acc ?_ g7 g12 hO)
    rw [hD, List.drop_of_length_le (by omega)]
    cases (if i = 0 then none else S[i - 1]?) <;> rfl
end Go.AM

set_option linter.unusedVariables false
set_option linter.unusedSimpArgs false
set_option maxRecDepth 20000
namespace Go.AM
open Pic (enc dec dec_enc dec_sub)
open PicA (encA decA decA_encA decA_sub)

theorem look_pl (p : List (TStamp × Int)) (k : TStamp) : ∃ n : Int, lookV false [.int .i64 0] ((placeI p).map .i) (idxK (p.map Prod.fst) k) = some (.i (.s (.int .i64 n))) := by
  cases e : idxK (p.map Prod.fst) k with
  | none => exact ⟨0, rfl⟩
  | some j =>
    have hj := (List.getElem?_eq_some_iff.1 (idxK_lt e)).1
    rw [List.length_map] at hj
    exact ⟨_, look_place (List.getElem?_eq_getElem hj)⟩
set_option maxHeartbeats 10000000 in
theorem placesM {t : Nat → V} {P : Program} {env : Env} {Q : Post} {h : Heap} {B : Nat} {l : List TMark} {li : TList} (hl : l.length ≤ 2048) (hO : getCells h B (l.length * 8) = some (rows l))
    (g7 : t 7 = liV li) (g12 : t 12 = .hsl B (l.length * 8) 0 8 true l.length) (g103 : t 103 = .hsl B (l.length * 8) 0 8 true l.length) (g104 : t 104 = .i (.s (.int .i64 (l.length : Int)))) (g105 : t 105 = .i (.s (.int .i64 0)))
    (hQ : ∀ t' h', (l.all fun m => inPl li.place m.from_ && inPl li.place m.to) = true → t' 7 = liV li → t' 12 = .hsl B (l.length * 8) 0 8 true l.length → getCells h' B (l.length * 8) = some (rows l) → Q (.exit 4) t' h')
    (hR : (l.all fun m => inPl li.place m.from_ && inPl li.place m.to) = false → ∀ t' h' B, t' 4 = .i (.s (.pointer none)) → t' 5 = .hsl B 0 0 8 true 0 → getCells h' B 0 = some [] → t' 6 = .i (.s (.int .i64 5)) → Q .ret t' h') :
    @W P env ⟨(.loop (.seq (.ops [(qS 106 (.pu (.n (.ar .lss)) [(.tmp 105), (.tmp 104)]))]) (.seq (.cond (.tmp 106) .skip (.exit 4)) (.seq (.block 5 (.seq (.ops [(qS 107 (.idxS 8 (.tmp 103) (.tmp 105))), (qS 108 (.load 8 true (.tmp 107))), (qS 16 (.allocV [(0, false), (0, false), (0, false), (0, false), (0, false), (0, false), (0, false), (0, false)] [(.int .i64 0), (.int .i64 0), (.int .i64 0), (.int .i64 0), (.int .i64 0), (.int .i64 0), (.int .i64 0), (.bool false)])), ⟨.none, (.storeV [(0, false), (0, false), (0, false), (0, false), (0, false), (0, false), (0, false), (0, false)] 8 (.tmp 16) (.tmp 108)), .none, [], .none⟩]) (.seq (.ops [(qS 110 (.mv (.tmp 7))), (qS 111 (.nilChk (.tmp 110))), (qS 112 (.fieldA 3 (.tmp 111))), (qS 113 (.load 1 false (.tmp 112))), (qS 114 (.fieldA 2 (.tmp 16))), (qS 115 (.load 2 true (.tmp 114))), (qS 116 (.lookup true [(.int .i64), (.int .i64)] false [(.int .i64 0)] true (.tmp 113) (.tmp 115))), (qS 109 (.mv (.tmp 116))), (qS 117 (.extract 0 (.tmp 109))), (qS 118 (.extract 1 (.tmp 109))), (qS 17 (.mv (.tmp 117))), (qS 18 (.mv (.tmp 118)))]) (.seq (.ops [(qS 120 (.mv (.tmp 7))), (qS 121 (.nilChk (.tmp 120))), (qS 122 (.fieldA 3 (.tmp 121))), (qS 123 (.load 1 false (.tmp 122))), (qS 124 (.fieldA 4 (.tmp 16))), (qS 125 (.load 2 true (.tmp 124))), (qS 126 (.lookup true [(.int .i64), (.int .i64)] false [(.int .i64 0)] true (.tmp 123) (.tmp 125))), (qS 119 (.mv (.tmp 126))), (qS 127 (.extract 0 (.tmp 119))), (qS 128 (.extract 1 (.tmp 119))), (qS 19 (.mv (.tmp 127))), (qS 20 (.mv (.tmp 128)))]) (.seq (.ops [(qS 129 (.mv (.tmp 18))), (qS 130 (.pu (.n (.un .not)) [(.tmp 129)])), (qS 131 (.mv (.tmp 130))), ⟨(.some 132), (.mv (.tmp 20)), (.some (131, false)), [], .none⟩, ⟨(.some 133), (.pu (.n (.un .not)) [(.tmp 132)]), (.some (131, false)), [], .none⟩, (qS 134 (.pick (.tmp 131) (.const (.bool true)) (.tmp 133)))]) (.cond (.tmp 134) (.seq (.ops [(qS 4 (.mv (.const (.pointer .none)))), (qS 5 (.vnil 8 true)), (qS 6 (.mv (ic 5)))]) .ret) .skip)))))) (.ops [(qS 135 (.pu (.n (.ar .add)) [(.tmp 105), (ic 1)])), (qS 105 (.mv (.tmp 135)))])))))⟩ t h ⟨Q⟩ := by
  refine W_loopK (fun n t h => ∃ i : Nat, n = l.length - i ∧ i ≤ l.length ∧ t 7 = liV li ∧ t 12 = .hsl B (l.length * 8) 0 8 true l.length ∧ t 103 = .hsl B (l.length * 8) 0 8 true l.length ∧ t 104 = .i (.s (.int .i64 (l.length : Int))) ∧ t 105 = .i (.s (.int .i64 (i : Int))) ∧
    getCells h B (l.length * 8) = some (rows l) ∧ ((l.take i).all fun m => inPl li.place m.from_ && inPl li.place m.to) = true) l.length ⟨0, rfl, Nat.zero_le _, g7, g12, g103, g104, g105, hO, by simp⟩ ?_
  clear g7 g12 g103 g104 g105 hO
  rintro K n t h hn hx ⟨i, rfl, hi, g7, g12, g103, g104, g105, hO, ha⟩
  by_cases hlt : i < l.length
  · obtain ⟨o, ho⟩ : ∃ o, o = l[i] := ⟨_, rfl⟩
    have hoi : l[i]? = some o := by rw [ho]; exact List.getElem?_eq_getElem hlt
    have hspl : l = l.take i ++ o :: l.drop (i + 1) := by rw [ho, List.getElem_cons_drop, List.take_append_drop]
    have r1 := ldRowM hO hoi
    have x1 := idxM hO hlt
    obtain ⟨n1, e1⟩ := look_pl li.place ⟨o.from_.time, o.from_.actor⟩
    obtain ⟨n2, e2⟩ := look_pl li.place ⟨o.to.time, o.to.actor⟩
    have f1 : (idxK (li.place.map Prod.fst) ⟨o.from_.time, o.from_.actor⟩).isSome = inPl li.place o.from_ := rfl
    have f2 : (idxK (li.place.map Prod.fst) ⟨o.to.time, o.to.actor⟩).isSome = inPl li.place o.to := rfl
    have hbad : (inPl li.place o.from_ && inPl li.place o.to) = false → (l.all fun m => inPl li.place m.from_ && inPl li.place m.to) = false := fun hm => by rw [hspl, List.all_append, List.all_cons, hm]; simp
    cases h1 : inPl li.place o.from_ with
    | false =>
      simp (maxSteps := 2000000) (disch := omega) only [gw, Nat.reduceAdd, Nat.reduceMul, g7, g12, g103, g104, g105, hlt, x1, r1, cellsV_TMark, enc_li, mapR_im, keyV_v, keyV_s, sk_keys, hit_sk, fits_sk, e1, e2, f1, f2, h1]
      exact hx _ _ _ (by simp) (hR (hbad (by rw [h1]; rfl)) _ _ _ rfl rfl (by first | (rw [gc_right0]; rfl) | (rw [gc_right]; rfl)) rfl)
    | true =>
    cases h2 : inPl li.place o.to with
    | false =>
      simp (maxSteps := 2000000) (disch := omega) only [gw, Nat.reduceAdd, Nat.reduceMul, g7, g12, g103, g104, g105, hlt, x1, r1, cellsV_TMark, enc_li, mapR_im, keyV_v, keyV_s, sk_keys, hit_sk, fits_sk, e1, e2, f1, f2, h1, h2]
      exact hx _ _ _ (by simp) (hR (hbad (by rw [h2]; simp)) _ _ _ rfl rfl (by first | (rw [gc_right0]; rfl) | (rw [gc_right]; rfl)) rfl)
    | true =>
    simp (maxSteps := 2000000) (disch := omega) only [gw, Nat.reduceAdd, Nat.reduceMul, g7, g12, g103, g104, g105, hlt, x1, r1, cellsV_TMark, enc_li, mapR_im, keyV_v, keyV_s, sk_keys, hit_sk, fits_sk, e1, e2, f1, f2, h1, h2]
    exact hn _ _ _ (by omega) ⟨i + 1, rfl, by omega, g7, g12, g103, g104, rfl, gc_app hO, by rw [List.take_succ_eq_append_getElem hlt, List.all_append, ha, ← ho]; simp [h1, h2]⟩
  · simp (maxSteps := 2000000) (disch := omega) only [gw, Nat.reduceAdd, Nat.reduceMul, g7, g12, g103, g104, g105, hlt]
    refine hx _ _ _ (by simp) (hQ _ _ ?_ g7 g12 hO)
    rw [← ha, List.take_of_length_le (by omega)]
theorem appV_marks (h : Heap) (x0 : List TMark) (hl : x0.length ≤ 2048) : ∃ h1, stepAppend none 8 true 64 (h ++ [Slot.virt]) (rows x0) x0.length (V.hsl (List.length h) 0 0 8 true 0) = some (.hsl h.length (x0.length * 8) 0 8 true x0.length, h1) ∧ getCells h1 h.length (x0.length * 8) = some (rows x0) ∧ h1.length = h.length + 1 := by
  have hg : getCells (h ++ [Slot.virt]) h.length 0 = some [] := by rw [gc_right0]; rfl
  rw [app_hsl, if_pos ⟨.inl rfl, rfl⟩, hg, Option.bind_some]
  by_cases h0 : x0.length = 0
  · rw [if_pos h0]
    have : x0 = [] := List.eq_nil_of_length_eq_zero h0
    subst this
    exact ⟨_, rfl, hg, by simp⟩
  · rw [if_neg h0, if_pos (by omega), if_pos (by omega)]
    refine ⟨_, by rw [Nat.zero_add, Nat.zero_add], ?_, by simp⟩
    rw [List.nil_append]
    exact set_cells hg (by rw [rows_len]; rfl)
/-- A list of one's own, as a picture. -/
theorem snap_marks {n : Nat} {h : Heap} {B : Nat} {l : List TMark} (hO : getCells h B (l.length * 8) = some (rows l)) : (if l.length = 0 then some (I.sl 8 []) else (getCells h B (l.length * 8)).bind fun cs => (snapA (n + 1) false h (List.take (l.length * 8) cs)).bind (mkRows 8 true l.length)) = some (.sl 8 (l.map enc)) := by
  by_cases h0 : l.length = 0
  · rw [if_pos h0, List.length_eq_zero_iff.1 h0]; rfl
  · rw [if_neg h0, hO, Option.bind_some, take_rows (by rw [rows_len]; exact Nat.le_refl _), snapA_rowsF, Option.bind_some, mkRows_eq (α := TMark) (z := 8) (ag := true) rfl rfl rfl]

set_option maxHeartbeats 10000000 in
theorem d_impl_readRich {P : Program} {env : Env} {f_impl_readList f_impl_StampOK f_sort_Slice f_impl_readRich_1 : Nat} (ep_impl_readList : env (2 * f_impl_readList) = pureFn true (FA fun a : List TLOp => p_impl_readList a)) (ep_impl_StampOK : env (2 * f_impl_StampOK) = pureFn true (FA fun a : TStamp => p_impl_StampOK a))
    (ex_sort_Slice : kSlice (α := TMark) 56 f_impl_readRich_1 (ltK TMark.id) (env (2 * f_sort_Slice + 1))) (x0 : List TLOp) (x1 : List TMark) {b : T3 (Option TList) (List TMark) Int} (hp : p_impl_readRich x0 x1 = some b) : R P env (c_impl_readRich f_impl_readList f_impl_StampOK f_sort_Slice f_impl_readRich_1) ((encA (x0, x1)).map ofI) [] (Tells false b) := by
  refine R_of (by simp [c_impl_readRich, encA]) ?_
  unfold c_impl_readRich
  unfold p_impl_readRich at hp
  by_cases hl : 2048 < x1.length
  · rw [if_pos hl] at hp
    cases hp
    have hl' : (2048 : Int) < (x1.length : Int) := by omega
    simp (maxSteps := 2000000) (disch := omega) only [gw, Nat.reduceAdd, Nat.reduceMul, hl', enc_lin, dec_lin]
  · rw [if_neg hl] at hp
    have hl' : ¬ (2048 : Int) < (x1.length : Int) := by omega
    obtain ⟨⟨a, code⟩, hr, hp⟩ := Option.bind_eq_some_iff.1 hp
    simp only at hp
    by_cases hc : code = 0
    · subst hc
      rw [if_neg (by simp)] at hp
      cases a with
      | none => cases hp
      | some li =>
        have hp : (if x1.all markK = false then some (T3.mk none [] (1 : Int)) else match dedK TMark.id none (sortL (ltK TMark.id) x1) [] with
      | none => some ⟨none, [], 16⟩
      | some l => if (l.all fun m => inPl li.place m.from_ && inPl li.place m.to) = true then some ⟨some li, l, 0⟩ else some ⟨none, [], 5⟩) = some b := hp
        simp (maxSteps := 2000000) (disch := omega) only [gw, Nat.reduceAdd, Nat.reduceMul, hl', ep_impl_readList, dslL, hr, enc_T2, enc_li]
        refine scanM_ok ep_impl_StampOK (x1 := x1) (T := liV li) (by omega) rfl rfl rfl rfl rfl ?_ ?_
        · intro t h g1 g7 ha
          rw [if_neg (by rw [ha]; simp)] at hp
          obtain ⟨h1, e1, e2, e3⟩ := appV_marks h x1 (by omega)
          have hvar : getCells (h1 ++ [Slot.virt, Slot.cells [V.hsl h.length (x1.length * 8) 0 8 true x1.length]]) (h1.length + 1) 1 = some [V.hsl h.length (x1.length * 8) 0 8 true x1.length] := by rw [gc_right]; rfl
          obtain ⟨h2, s1, s2, s3⟩ := ex_sort_Slice x1 (h1 ++ [Slot.virt, Slot.cells [V.hsl h.length (x1.length * 8) 0 8 true x1.length]]) h.length (h1.length + 1) (by omega) (gc_app e2) (by omega) hvar
          simp only [z_TMark] at s1 s2
          have hv2 : getCells h2 (h1.length + 1) 1 = some [V.hsl h.length (x1.length * 8) 0 8 true x1.length] := by
            rw [← hvar]
            exact getCells_congr (s3.at_ _ (by simp) (by simp; omega))
          have hl2 := s3.len
          simp only [List.length_append, List.length_cons, List.length_nil] at hl2
          simp (maxSteps := 2000000) (disch := omega) only [gw, Nat.reduceAdd, Nat.reduceMul, g1, lenV_pic, src_pic, e1, s1, hv2]
          have hlen : (sortL (ltK TMark.id) x1).length = x1.length := Go.AM.sortL_len (ltK_swo TMark.id) x1
          have hS : (sortL (ltK TMark.id) x1).length ≤ 2048 := by omega
          rw [← hlen] at s2 hv2
          rw [← hlen]
          generalize sortL (ltK TMark.id) x1 = S at hS s2 hv2 hp
          refine dedupM (T := liV li) (B := h2.length) hS ⟨gc_app s2, gc_app hv2, by omega, by omega⟩ (by rw [gc_right0]; rfl) g7 rfl rfl rfl rfl rfl ?_ ?_
          · clear hv2 s3 s2 s1 hvar e1 e2 e3 g1 g7
            intro t h l hd g7 g12 hO
            rw [hd] at hp
            simp only at hp
            have hll : l.length ≤ 2048 := by
              have := dedK_len S none [] l hd
              simp only [List.length_nil] at this
              omega
            simp (maxSteps := 2000000) (disch := omega) only [gw, Nat.reduceAdd, Nat.reduceMul, g7, g12]
            refine placesM hll hO g7 g12 rfl rfl rfl ?_ ?_
            · intro t h ha g7 g12 hO
              rw [if_pos ha] at hp
              cases hp
              simp (maxSteps := 2000000) (disch := omega) only [gw, Nat.reduceAdd, Nat.reduceMul, g7, g12]
              rw [snap_marks hO]
              exact dec_enc (T3.mk (some li) l (0 : Int))
            · intro ha t h B g4 g5 hB g6
              rw [if_neg (by rw [ha]; simp)] at hp
              cases hp
              simp (maxSteps := 2000000) (disch := omega) only [gw, Nat.reduceAdd, Nat.reduceMul, g4, g5, g6, dec_lin]
          · intro hd t h B g4 g5 hB g6
            rw [hd] at hp
            cases hp
            simp (maxSteps := 2000000) (disch := omega) only [gw, Nat.reduceAdd, Nat.reduceMul, g4, g5, g6, dec_lin]
        · intro t h B g4 g5 hB g6 ha
          rw [if_pos ha] at hp
          cases hp
          simp (maxSteps := 2000000) (disch := omega) only [gw, Nat.reduceAdd, Nat.reduceMul, g4, g5, g6, dec_lin]
    · rw [if_pos hc] at hp
      cases hp
      have hc' : decide (code = 0) = false := by simp [hc]
      cases a with
      | none =>
        simp (maxSteps := 2000000) (disch := omega) only [gw, Nat.reduceAdd, Nat.reduceMul, hl', ep_impl_readList, dslL, hr, enc_T2, enc_lin, hc', dec_lin]
      | some t =>
        simp (maxSteps := 2000000) (disch := omega) only [gw, Nat.reduceAdd, Nat.reduceMul, hl', ep_impl_readList, dslL, hr, enc_T2, enc_li, hc', dec_lin]
end Go.AM

set_option linter.unusedVariables false
set_option linter.unusedSimpArgs false
set_option maxRecDepth 20000
namespace Go.AM
open Pic (enc dec dec_enc dec_sub)
open PicA (encA decA decA_encA decA_sub)

def c_impl_list_top : AFn := ⟨23, (.seq (.ops [(qS 2 (.allocV [(0, false), (0, false)] [(.int .i64 0), (.int .i64 0)]))]) (.seq (.seq (.ops [(qS 3 (.mv (.tmp 0))), (qS 4 (.nilChk (.tmp 3))), (qS 5 (.fieldA 0 (.tmp 4))), (qS 6 (.load 1 false (.tmp 5))), (qS 7 (.len (.tmp 6))), (qS 8 (.pu (.n (.ar .eql)) [(.tmp 7), (ic 0)]))]) (.cond (.tmp 8) (.seq (.ops [(qS 9 (.build [(.int .i64 0), (.int .i64 0)] [])), ⟨.none, (.storeV [(0, false), (0, false)] 2 (.tmp 2) (.tmp 9)), .none, [], .none⟩]) .ret) .skip)) (.seq (.ops [(qS 10 (.mv (.tmp 0))), (qS 11 (.nilChk (.tmp 10))), (qS 12 (.fieldA 0 (.tmp 11))), (qS 13 (.load 1 false (.tmp 12))), (qS 14 (.mv (.tmp 0))), (qS 15 (.nilChk (.tmp 14))), (qS 16 (.fieldA 0 (.tmp 15))), (qS 17 (.load 1 false (.tmp 16))), (qS 18 (.len (.tmp 17))), (qS 19 (.pu (.n (.ar .sub)) [(.tmp 18), (ic 1)])), (qS 20 (.idxS 6 (.tmp 13) (.tmp 19))), (qS 21 (.fieldA 2 (.tmp 20))), (qS 22 (.load 2 true (.tmp 21))), ⟨.none, (.store 2 (.tmp 2) (.tmp 22)), .none, [], .none⟩]) .ret))), [(.cell 2 2 true)]⟩
def c_impl_MarkText (f_impl_readRich : Nat) (f_impl_list_seen : Nat) (f_impl_isActor : Nat) (f_impl_list_top : Nat) (f_impl_StampLess : Nat) (f_impl_nextAbove : Nat) : AFn := ⟨118, (.seq (.ops [(qS 14 (.allocV [(0, false), (0, false), (0, false), (0, false), (0, false), (0, false), (0, false), (0, false)] [(.int .i64 0), (.int .i64 0), (.int .i64 0), (.int .i64 0), (.int .i64 0), (.int .i64 0), (.int .i64 0), (.bool false)])), (qS 15 (.mv (ic 0)))]) (.seq (.ops [(qS 24 (.mv (.tmp 0))), (qS 25 (.mv (.tmp 1))), (qS 26 (.call (2 * f_impl_readRich) [(.tmp 24), (.tmp 25)])), (qS 23 (.mv (.tmp 26))), (qS 27 (.extract 0 (.tmp 23))), (qS 28 (.extract 1 (.tmp 23))), (qS 29 (.extract 2 (.tmp 23))), (qS 16 (.mv (.tmp 27))), (qS 17 (.mv (.tmp 28))), (qS 18 (.mv (.tmp 29)))]) (.seq (.seq (.ops [(qS 30 (.mv (.tmp 18))), (qS 31 (.pu (.n (.ar .neq)) [(.tmp 30), (ic 0)]))]) (.cond (.tmp 31) (.seq (.ops [(qS 32 (.build [(.int .i64 0), (.int .i64 0), (.int .i64 0), (.int .i64 0), (.int .i64 0), (.int .i64 0), (.int .i64 0), (.bool false)] [])), (qS 33 (.mv (.tmp 18))), ⟨.none, (.storeV [(0, false), (0, false), (0, false), (0, false), (0, false), (0, false), (0, false), (0, false)] 8 (.tmp 14) (.tmp 32)), .none, [], .none⟩, (qS 15 (.mv (.tmp 33)))]) .ret) .skip)) (.seq (.ops [(qS 34 (.mv (.tmp 16))), (qS 35 (.call (2 * f_impl_list_seen) [(.tmp 34)])), (qS 19 (.mv (.tmp 35)))]) (.seq (.seq (.ops [(qS 36 (.mv (.tmp 2))), (qS 37 (.call (2 * f_impl_isActor) [(.tmp 36)])), (qS 38 (.pu (.n (.un .not)) [(.tmp 37)])), (qS 39 (.mv (.tmp 38))), ⟨(.some 40), (.mv (.tmp 5)), (.some (39, false)), [], .none⟩, ⟨(.some 41), (.pu (.n (.ar .lss)) [(.tmp 40), (ic 1)]), (.some (39, false)), [], .none⟩, (qS 42 (.pick (.tmp 39) (.const (.bool true)) (.tmp 41))), (qS 43 (.mv (.tmp 42))), ⟨(.some 44), (.mv (.tmp 5)), (.some (43, false)), [], .none⟩, ⟨(.some 45), (.pu (.n (.ar .gtr)) [(.tmp 44), (ic 8)]), (.some (43, false)), [], .none⟩, (qS 46 (.pick (.tmp 43) (.const (.bool true)) (.tmp 45))), (qS 47 (.mv (.tmp 46))), ⟨(.some 48), (.mv (.tmp 3)), (.some (47, false)), [], .none⟩, ⟨(.some 49), (.pu (.n (.ar .lss)) [(.tmp 48), (ic 0)]), (.some (47, false)), [], .none⟩, (qS 50 (.pick (.tmp 47) (.const (.bool true)) (.tmp 49))), (qS 51 (.mv (.tmp 50))), ⟨(.some 52), (.mv (.tmp 4)), (.some (51, false)), [], .none⟩, ⟨(.some 53), (.pu (.n (.ar .lss)) [(.tmp 52), (ic 1)]), (.some (51, false)), [], .none⟩, (qS 54 (.pick (.tmp 51) (.const (.bool true)) (.tmp 53)))]) (.cond (.tmp 54) (.seq (.ops [(qS 55 (.build [(.int .i64 0), (.int .i64 0), (.int .i64 0), (.int .i64 0), (.int .i64 0), (.int .i64 0), (.int .i64 0), (.bool false)] [])), ⟨.none, (.storeV [(0, false), (0, false), (0, false), (0, false), (0, false), (0, false), (0, false), (0, false)] 8 (.tmp 14) (.tmp 55)), .none, [], .none⟩, (qS 15 (.mv (ic 4)))]) .ret) .skip)) (.seq (.seq (.ops [(qS 56 (.mv (.tmp 3))), (qS 57 (.mv (.tmp 19))), (qS 58 (.len (.tmp 57))), (qS 59 (.pu (.n (.ar .gtr)) [(.tmp 56), (.tmp 58)])), (qS 60 (.mv (.tmp 59))), ⟨(.some 61), (.mv (.tmp 4)), (.some (60, false)), [], .none⟩, ⟨(.some 62), (.mv (.tmp 19)), (.some (60, false)), [], .none⟩, ⟨(.some 63), (.len (.tmp 62)), (.some (60, false)), [], .none⟩, ⟨(.some 64), (.mv (.tmp 3)), (.some (60, false)), [], .none⟩, ⟨(.some 65), (.pu (.n (.ar .sub)) [(.tmp 63), (.tmp 64)]), (.some (60, false)), [], .none⟩, ⟨(.some 66), (.pu (.n (.ar .gtr)) [(.tmp 61), (.tmp 65)]), (.some (60, false)), [], .none⟩, (qS 67 (.pick (.tmp 60) (.const (.bool true)) (.tmp 66)))]) (.cond (.tmp 67) (.seq (.ops [(qS 68 (.build [(.int .i64 0), (.int .i64 0), (.int .i64 0), (.int .i64 0), (.int .i64 0), (.int .i64 0), (.int .i64 0), (.bool false)] [])), ⟨.none, (.storeV [(0, false), (0, false), (0, false), (0, false), (0, false), (0, false), (0, false), (0, false)] 8 (.tmp 14) (.tmp 68)), .none, [], .none⟩, (qS 15 (.mv (ic 4)))]) .ret) .skip)) (.seq (.ops [(qS 69 (.mv (.tmp 16))), (qS 70 (.call (2 * f_impl_list_top) [(.tmp 69)])), (qS 20 (.allocV [(0, false), (0, false)] [(.int .i64 0), (.int .i64 0)])), ⟨.none, (.storeV [(0, false), (0, false)] 2 (.tmp 20) (.tmp 70)), .none, [], .none⟩]) (.seq (.seq (.ops [(qS 71 (.mv (.tmp 17))), (qS 72 (.len (.tmp 71))), (qS 21 (.mv (.tmp 72)))]) (.seq (.ops [(qS 73 (.mv (.tmp 21))), (qS 74 (.pu (.n (.ar .gtr)) [(.tmp 73), (ic 0)])), (qS 75 (.mv (.tmp 74))), ⟨(.some 76), (.load 2 true (.tmp 20)), (.some (75, true)), [], .none⟩, ⟨(.some 77), (.mv (.tmp 17)), (.some (75, true)), [], .none⟩, ⟨(.some 78), (.mv (.tmp 21)), (.some (75, true)), [], .none⟩, ⟨(.some 79), (.pu (.n (.ar .sub)) [(.tmp 78), (ic 1)]), (.some (75, true)), [], .none⟩, ⟨(.some 80), (.idxS 8 (.tmp 77) (.tmp 79)), (.some (75, true)), [], .none⟩, ⟨(.some 81), (.fieldA 0 (.tmp 80)), (.some (75, true)), [], .none⟩, ⟨(.some 82), (.load 2 true (.tmp 81)), (.some (75, true)), [], .none⟩, ⟨(.some 83), (.call (2 * f_impl_StampLess) [(.tmp 76), (.tmp 82)]), (.some (75, true)), [], .none⟩, (qS 84 (.pick (.tmp 75) (.tmp 83) (.const (.bool false))))]) (.cond (.tmp 84) (.ops [(qS 85 (.mv (.tmp 17))), (qS 86 (.mv (.tmp 21))), (qS 87 (.pu (.n (.ar .sub)) [(.tmp 86), (ic 1)])), (qS 88 (.idxS 8 (.tmp 85) (.tmp 87))), (qS 89 (.fieldA 0 (.tmp 88))), (qS 90 (.load 2 true (.tmp 89))), ⟨.none, (.storeV [(0, false), (0, false)] 2 (.tmp 20) (.tmp 90)), .none, [], .none⟩]) .skip))) (.seq (.ops [(qS 92 (.load 2 true (.tmp 20))), (qS 93 (.mv (.tmp 2))), (qS 94 (.call (2 * f_impl_nextAbove) [(.tmp 92), (.tmp 93)])), (qS 91 (.mv (.tmp 94))), (qS 95 (.extract 0 (.tmp 91))), (qS 96 (.extract 1 (.tmp 91))), (qS 22 (.allocV [(0, false), (0, false)] [(.int .i64 0), (.int .i64 0)])), ⟨.none, (.storeV [(0, false), (0, false)] 2 (.tmp 22) (.tmp 95)), .none, [], .none⟩, (qS 18 (.mv (.tmp 96)))]) (.seq (.seq (.ops [(qS 97 (.mv (.tmp 18))), (qS 98 (.pu (.n (.ar .neq)) [(.tmp 97), (ic 0)]))]) (.cond (.tmp 98) (.seq (.ops [(qS 99 (.build [(.int .i64 0), (.int .i64 0), (.int .i64 0), (.int .i64 0), (.int .i64 0), (.int .i64 0), (.int .i64 0), (.bool false)] [])), (qS 100 (.mv (.tmp 18))), ⟨.none, (.storeV [(0, false), (0, false), (0, false), (0, false), (0, false), (0, false), (0, false), (0, false)] 8 (.tmp 14) (.tmp 99)), .none, [], .none⟩, (qS 15 (.mv (.tmp 100)))]) .ret) .skip)) (.seq (.ops [(qS 101 (.load 2 true (.tmp 22))), (qS 102 (.mv (.tmp 19))), (qS 103 (.mv (.tmp 3))), (qS 104 (.idxS 6 (.tmp 102) (.tmp 103))), (qS 105 (.fieldA 2 (.tmp 104))), (qS 106 (.load 2 true (.tmp 105))), (qS 107 (.mv (.tmp 19))), (qS 108 (.mv (.tmp 3))), (qS 109 (.mv (.tmp 4))), (qS 110 (.pu (.n (.ar .add)) [(.tmp 108), (.tmp 109)])), (qS 111 (.pu (.n (.ar .sub)) [(.tmp 110), (ic 1)])), (qS 112 (.idxS 6 (.tmp 107) (.tmp 111))), (qS 113 (.fieldA 2 (.tmp 112))), (qS 114 (.load 2 true (.tmp 113))), (qS 115 (.mv (.tmp 5))), (qS 116 (.mv (.tmp 6))), (qS 117 (.build [(.int .i64 0), (.int .i64 0), (.int .i64 0), (.int .i64 0), (.int .i64 0), (.int .i64 0), (.int .i64 0), (.bool false)] [(0, (2, (.tmp 101))), (2, (2, (.tmp 106))), (4, (2, (.tmp 114))), (6, (1, (.tmp 115))), (7, (1, (.tmp 116)))])), ⟨.none, (.store 8 (.tmp 14) (.tmp 117)), .none, [], .none⟩, (qS 15 (.mv (ic 0)))]) .ret))))))))))), [(.cell 14 8 true), (.tmp 15)]⟩

theorem dslK {xs : List TMark} : (dec (.sl 8 (xs.map enc)) : Option (List TMark)) = some xs := dec_enc xs
theorem last_getL {α : Type} {l : List α} (h : l ≠ []) : ∃ x, l.getLast? = some x ∧ get? l ((l.length - 1 : Nat) : Int) = some x := by
  have h0 : 0 < l.length := by
    cases l with
    | nil => exact absurd rfl h
    | cons _ _ => simp
  refine ⟨l[l.length - 1], ?_, ?_⟩
  · rw [List.getLast?_eq_getElem?, List.getElem?_eq_getElem (by omega)]
  · rw [get_nat, List.getElem?_eq_getElem (by omega)]
noncomputable def p_impl_list_top (x0 : Option TList) : Option TStamp := x0.bind fun t => if t.ops.length ≤ 1000000 then some ((t.ops.getLast?.map TLOp.id).getD ⟨0, 0⟩) else none
theorem d_impl_list_top {P : Program} {env : Env} (x0 : Option TList) {b : TStamp} (hp : p_impl_list_top x0 = some b) : R P env (c_impl_list_top) ((encA (x0)).map ofI) [] (Tells true b) := by
  obtain ⟨t, rfl, hp⟩ := Option.bind_eq_some_iff.1 hp
  have hp : (if t.ops.length ≤ 1000000 then some ((t.ops.getLast?.map TLOp.id).getD ⟨0, 0⟩) else none) = some b := hp
  split at hp
  case isFalse => cases hp
  rename_i hol
  refine R_of (by simp [c_impl_list_top, encA]) ?_
  unfold c_impl_list_top
  by_cases h0 : t.ops = []
  · rw [h0] at hp
    cases hp
    have h0' : decide ((t.ops.length : Int) = 0) = true := by rw [h0]; rfl
    simp (maxSteps := 2000000) (disch := omega) only [gw, Nat.reduceAdd, Nat.reduceMul, enc_li, h0']
    rfl
  · obtain ⟨o, ho1, ho2⟩ := last_getL h0
    rw [ho1] at hp
    cases hp
    have hn : 0 < t.ops.length := List.length_pos_iff.2 h0
    have h0' : decide ((t.ops.length : Int) = 0) = false := by simp; omega
    simp (maxSteps := 2000000) (disch := omega) only [gw, Nat.reduceAdd, Nat.reduceMul, enc_li, h0', ho2, enc_TLOp]
    rfl
noncomputable def topOf (t0 : TStamp) (l : List TMark) : TStamp := match l.getLast? with
  | some m => if ltS t0 m.id = true then m.id else t0
  | none => t0
def markZ : TMark := ⟨⟨0, 0⟩, ⟨0, 0⟩, ⟨0, 0⟩, 0, false⟩
noncomputable def p_impl_MarkText (x0 : List TLOp) (x1 : List TMark) (actor place size kind : Int) (on : Bool) : Option (T2 TMark Int) :=
  (p_impl_readRich x0 x1).bind fun r => if r.c ≠ 0 then some ⟨markZ, r.c⟩ else (p_impl_list_seen r.a).bind fun s => if r.b.length ≤ 1000000 then (p_impl_list_top r.a).bind fun t0 =>
    if ¬ (0 ≤ actor ∧ actor < 16) ∨ kind < 1 ∨ 8 < kind ∨ place < 0 ∨ size < 1 then some ⟨markZ, 4⟩ else
    if (s.length : Int) < place ∨ (s.length : Int) - place < size then some ⟨markZ, 4⟩ else
    (p_impl_nextAbove (topOf t0 r.b) actor).bind fun q => if q.b ≠ 0 then some ⟨markZ, q.b⟩ else
    (get? s place).bind fun a => (get? s (place + size - 1)).bind fun z => some ⟨⟨q.a, a.id, z.id, kind, on⟩, 0⟩ else none
theorem q_isActor {n : Int} : p_impl_isActor n = some (decide (0 ≤ n ∧ n < 16)) := by
  unfold p_impl_isActor
  by_cases h : 0 ≤ n
  · rw [if_pos (decide_eq_true h)]
    congr 1
    exact decide_eq_decide.2 (by omega)
  · rw [if_neg (by simpa using h)]
    congr 1
    symm
    exact decide_eq_false (by omega)
set_option maxHeartbeats 10000000 in
theorem d_impl_MarkText {P : Program} {env : Env} {f_impl_readRich f_impl_list_seen f_impl_isActor f_impl_list_top f_impl_StampLess f_impl_nextAbove : Nat} (ep_impl_readRich : env (2 * f_impl_readRich) = pureFn false (FA fun a : List TLOp × List TMark => p_impl_readRich a.1 a.2))
    (ep_impl_list_seen : env (2 * f_impl_list_seen) = pureFn true (FA fun a : Option TList => p_impl_list_seen a)) (ep_impl_isActor : env (2 * f_impl_isActor) = pureFn true (FA fun a : Int => p_impl_isActor a)) (ep_impl_list_top : env (2 * f_impl_list_top) = pureFn true (FA fun a : Option TList => p_impl_list_top a))
    (ep_impl_StampLess : env (2 * f_impl_StampLess) = pureFn true (FA fun a : TStamp × TStamp => p_impl_StampLess a.1 a.2)) (ep_impl_nextAbove : env (2 * f_impl_nextAbove) = pureFn true (FA fun a : TStamp × Int => p_impl_nextAbove a.1 a.2))
    (x0 : List TLOp) (x1 : List TMark) (actor place size kind : Int) (on : Bool) {b : T2 TMark Int} (hp : p_impl_MarkText x0 x1 actor place size kind on = some b) : R P env (c_impl_MarkText f_impl_readRich f_impl_list_seen f_impl_isActor f_impl_list_top f_impl_StampLess f_impl_nextAbove) ((encA (x0, x1, actor, place, size, kind, on)).map ofI) [] (Tells true b) := by
  refine R_of (by simp [c_impl_MarkText, encA]) ?_
  unfold c_impl_MarkText
  obtain ⟨⟨a, l, code⟩, hr, hp⟩ := Option.bind_eq_some_iff.1 hp
  simp only at hp
  by_cases hc : code = 0
  · subst hc
    rw [if_neg (by simp)] at hp
    obtain ⟨s, hs, hp⟩ := Option.bind_eq_some_iff.1 hp
    split at hp
    case isFalse => cases hp
    rename_i hll
    obtain ⟨t0, ht, hp2⟩ := Option.bind_eq_some_iff.1 hp
    cases a with
    | none => cases hs
    | some t =>
      have hp := hp2
      clear hp2
      have hd : (dec (.ip [.sl 6 (t.ops.map enc), .sl 6 (t.order.map enc), .im (t.gone.map skI) (goneI t.gone), .im ((t.place.map Prod.fst).map skI) (placeI t.place)]) : Option (Option TList)) = some (some t) := dec_enc (some t)
      have hsl : s.length ≤ 1000000 := by
        unfold p_impl_list_seen at hs
        have hs : (if t.order.length ≤ 1000000 then some (seenL t) else none) = some s := hs
        split at hs
        case isFalse => cases hs
        cases hs
        have := List.length_filter_le (fun o => !isGone t.gone o.id) t.order
        unfold seenL
        omega
      by_cases hA : 0 ≤ actor ∧ actor < 16
      case neg =>
        rw [if_pos (.inl hA)] at hp
        cases hp
        have hA' := decide_eq_false hA
        simp (maxSteps := 2000000) (disch := omega) only [gw, Nat.reduceAdd, Nat.reduceMul, ep_impl_readRich, dslL, dslK, hr, enc_li, ep_impl_list_seen, hd, hs, ep_impl_isActor, q_isActor, hA', markZ]
      have hA' := decide_eq_true hA
      by_cases h1 : kind < 1
      · rw [if_pos (.inr (.inl h1))] at hp
        cases hp
        simp (maxSteps := 2000000) (disch := omega) only [gw, Nat.reduceAdd, Nat.reduceMul, ep_impl_readRich, dslL, dslK, hr, enc_li, ep_impl_list_seen, hd, hs, ep_impl_isActor, q_isActor, hA', h1, markZ]
      by_cases h2 : 8 < kind
      · rw [if_pos (.inr (.inr (.inl h2)))] at hp
        cases hp
        simp (maxSteps := 2000000) (disch := omega) only [gw, Nat.reduceAdd, Nat.reduceMul, ep_impl_readRich, dslL, dslK, hr, enc_li, ep_impl_list_seen, hd, hs, ep_impl_isActor, q_isActor, hA', h1, h2, markZ]
      by_cases h3 : place < 0
      · rw [if_pos (.inr (.inr (.inr (.inl h3))))] at hp
        cases hp
        simp (maxSteps := 2000000) (disch := omega) only [gw, Nat.reduceAdd, Nat.reduceMul, ep_impl_readRich, dslL, dslK, hr, enc_li, ep_impl_list_seen, hd, hs, ep_impl_isActor, q_isActor, hA', h1, h2, h3, markZ]
      by_cases h4 : size < 1
      · rw [if_pos (.inr (.inr (.inr (.inr h4))))] at hp
        cases hp
        simp (maxSteps := 2000000) (disch := omega) only [gw, Nat.reduceAdd, Nat.reduceMul, ep_impl_readRich, dslL, dslK, hr, enc_li, ep_impl_list_seen, hd, hs, ep_impl_isActor, q_isActor, hA', h1, h2, h3, h4, markZ]
      rw [if_neg (by rintro (h | h | h | h | h) <;> first | exact h hA | omega)] at hp
      by_cases h5 : (s.length : Int) < place
      · rw [if_pos (.inl h5)] at hp
        cases hp
        simp (maxSteps := 2000000) (disch := omega) only [gw, Nat.reduceAdd, Nat.reduceMul, ep_impl_readRich, dslL, dslK, hr, enc_li, ep_impl_list_seen, hd, hs, ep_impl_isActor, q_isActor, hA', h1, h2, h3, h4, h5, markZ]
      by_cases h6 : (s.length : Int) - place < size
      · rw [if_pos (.inr h6)] at hp
        cases hp
        simp (maxSteps := 2000000) (disch := omega) only [gw, Nat.reduceAdd, Nat.reduceMul, ep_impl_readRich, dslL, dslK, hr, enc_li, ep_impl_list_seen, hd, hs, ep_impl_isActor, q_isActor, hA', h1, h2, h3, h4, h5, h6, markZ]
      rw [if_neg (by omega)] at hp
      obtain ⟨⟨⟨q1, q2⟩, qc⟩, hq, hp⟩ := Option.bind_eq_some_iff.1 hp
      simp only at hp
      have key : ∀ tp : TStamp, topOf t0 l = tp → p_impl_nextAbove ⟨tp.time, tp.actor⟩ actor = some ⟨⟨q1, q2⟩, qc⟩ := fun tp e => by rw [← e]; exact hq
      have ht1 : p_impl_list_top (some t) = some ⟨t0.time, t0.actor⟩ := ht
      have hcc : qc = 0 ∧ (∃ a z, get? s place = some a ∧ get? s (place + size - 1) = some z ∧ b = ⟨⟨⟨q1, q2⟩, a.id, z.id, kind, on⟩, 0⟩) ∨ qc ≠ 0 ∧ b = ⟨markZ, qc⟩ := by
        by_cases h7 : qc = 0
        · rw [if_neg (by simp [h7])] at hp
          obtain ⟨a, ha, hp⟩ := Option.bind_eq_some_iff.1 hp
          obtain ⟨z, hz, hp⟩ := Option.bind_eq_some_iff.1 hp
          exact .inl ⟨h7, a, z, ha, hz, (Option.some.inj hp).symm⟩
        · rw [if_pos h7] at hp
          exact .inr ⟨h7, (Option.some.inj hp).symm⟩
      clear hp hq
      by_cases hl0 : l = []
      · have e := key t0 (by unfold topOf; rw [hl0]; rfl)
        have hln : ¬ (0 : Int) < (l.length : Int) := by rw [hl0]; simp
        rcases hcc with ⟨rfl, a, z, ha, hz, rfl⟩ | ⟨h7, rfl⟩
        · simp (maxSteps := 2000000) (disch := omega) only [gw, Nat.reduceAdd, Nat.reduceMul, ep_impl_readRich, dslL, dslK, hr, enc_li, ep_impl_list_seen, hd, hs, ep_impl_isActor, q_isActor, hA', h1, h2, h3, h4, h5, h6, ep_impl_list_top, ht1, hln, ep_impl_nextAbove, e, ha, hz, enc_TLOp]
        · have h7' : decide (qc = 0) = false := by simp [h7]
          simp (maxSteps := 2000000) (disch := omega) only [gw, Nat.reduceAdd, Nat.reduceMul, ep_impl_readRich, dslL, dslK, hr, enc_li, ep_impl_list_seen, hd, hs, ep_impl_isActor, q_isActor, hA', h1, h2, h3, h4, h5, h6, ep_impl_list_top, ht1, hln, ep_impl_nextAbove, e, h7', markZ]
      · obtain ⟨m, hm1, hm2⟩ := last_getL hl0
        have hln : (0 : Int) < (l.length : Int) := by have := List.length_pos_iff.2 hl0; omega
        cases hlt : ltS t0 m.id with
        | true =>
          have e := key m.id (by unfold topOf; rw [hm1]; simp only; rw [if_pos hlt])
          have hlt' : ltS ⟨t0.time, t0.actor⟩ ⟨m.id.time, m.id.actor⟩ = true := hlt
          rcases hcc with ⟨rfl, a, z, ha, hz, rfl⟩ | ⟨h7, rfl⟩
          · simp (maxSteps := 2000000) (disch := omega) only [gw, Nat.reduceAdd, Nat.reduceMul, ep_impl_readRich, dslL, dslK, hr, enc_li, ep_impl_list_seen, hd, hs, ep_impl_isActor, q_isActor, hA', h1, h2, h3, h4, h5, h6, ep_impl_list_top, ht1, hln, hm2, enc_TMark, ep_impl_StampLess, q_lessl, hlt', ep_impl_nextAbove, e, ha, hz, enc_TLOp]
          · have h7' : decide (qc = 0) = false := by simp [h7]
            simp (maxSteps := 2000000) (disch := omega) only [gw, Nat.reduceAdd, Nat.reduceMul, ep_impl_readRich, dslL, dslK, hr, enc_li, ep_impl_list_seen, hd, hs, ep_impl_isActor, q_isActor, hA', h1, h2, h3, h4, h5, h6, ep_impl_list_top, ht1, hln, hm2, enc_TMark, ep_impl_StampLess, q_lessl, hlt', ep_impl_nextAbove, e, h7', markZ]
        | false =>
          have e := key t0 (by unfold topOf; rw [hm1]; simp only; rw [if_neg (by rw [hlt]; simp)])
          have hlt' : ltS ⟨t0.time, t0.actor⟩ ⟨m.id.time, m.id.actor⟩ = false := hlt
          rcases hcc with ⟨rfl, a, z, ha, hz, rfl⟩ | ⟨h7, rfl⟩
          · simp (maxSteps := 2000000) (disch := omega) only [gw, Nat.reduceAdd, Nat.reduceMul, ep_impl_readRich, dslL, dslK, hr, enc_li, ep_impl_list_seen, hd, hs, ep_impl_isActor, q_isActor, hA', h1, h2, h3, h4, h5, h6, ep_impl_list_top, ht1, hln, hm2, enc_TMark, ep_impl_StampLess, q_lessl, hlt', ep_impl_nextAbove, e, ha, hz, enc_TLOp]
          · have h7' : decide (qc = 0) = false := by simp [h7]
            simp (maxSteps := 2000000) (disch := omega) only [gw, Nat.reduceAdd, Nat.reduceMul, ep_impl_readRich, dslL, dslK, hr, enc_li, ep_impl_list_seen, hd, hs, ep_impl_isActor, q_isActor, hA', h1, h2, h3, h4, h5, h6, ep_impl_list_top, ht1, hln, hm2, enc_TMark, ep_impl_StampLess, q_lessl, hlt', ep_impl_nextAbove, e, h7', markZ]
  · rw [if_pos hc] at hp
    cases hp
    have hc' : decide (code = 0) = false := by simp [hc]
    cases a with
    | none => simp (maxSteps := 2000000) (disch := omega) only [gw, Nat.reduceAdd, Nat.reduceMul, ep_impl_readRich, dslL, dslK, hr, enc_lin, hc', markZ]
    | some t => simp (maxSteps := 2000000) (disch := omega) only [gw, Nat.reduceAdd, Nat.reduceMul, ep_impl_readRich, dslL, dslK, hr, enc_li, hc', markZ]
end Go.AM

set_option linter.unusedVariables false
set_option linter.unusedSimpArgs false
set_option maxRecDepth 20000
namespace Go.AM
open Pic (enc dec dec_enc dec_sub)
open PicA (encA decA decA_encA decA_sub)
noncomputable def p_spec_l05MarkOK (x0 : TMark) : Option Bool :=
  (p_spec_StampOK x0.id).bind fun v0 =>
  if (v0) = true then
    (p_spec_StampOK x0.from_).bind fun v2 =>
    if (v2) = true then
      (p_spec_StampOK x0.to).bind fun v4 =>
      if (v4) = true then
        if (decide (1 ≤ x0.kind)) = true then
          some (decide (x0.kind ≤ 8))
        else
          some false
      else
        some false
    else
      some false
  else
    some false
def c_spec_l05MarkOK (f_spec_StampOK : Nat) : AFn := ⟨26, (.seq (.ops [(qS 1 (.box (.tmp 0))), (qS 2 (.mv (.const (.bool false))))]) (.seq (.ops [(qS 3 (.fieldA 0 (.tmp 1))), (qS 4 (.load 2 true (.tmp 3))), (qS 5 (.call (2 * f_spec_StampOK) [(.tmp 4)])), (qS 6 (.mv (.tmp 5))), ⟨(.some 7), (.fieldA 2 (.tmp 1)), (.some (6, true)), [], .none⟩, ⟨(.some 8), (.load 2 true (.tmp 7)), (.some (6, true)), [], .none⟩, ⟨(.some 9), (.call (2 * f_spec_StampOK) [(.tmp 8)]), (.some (6, true)), [], .none⟩, (qS 10 (.pick (.tmp 6) (.tmp 9) (.const (.bool false)))), (qS 11 (.mv (.tmp 10))), ⟨(.some 12), (.fieldA 4 (.tmp 1)), (.some (11, true)), [], .none⟩, ⟨(.some 13), (.load 2 true (.tmp 12)), (.some (11, true)), [], .none⟩, ⟨(.some 14), (.call (2 * f_spec_StampOK) [(.tmp 13)]), (.some (11, true)), [], .none⟩, (qS 15 (.pick (.tmp 11) (.tmp 14) (.const (.bool false)))), (qS 16 (.mv (.tmp 15))), ⟨(.some 17), (.fieldA 6 (.tmp 1)), (.some (16, true)), [], .none⟩, ⟨(.some 18), (.load 1 false (.tmp 17)), (.some (16, true)), [], .none⟩, ⟨(.some 19), (.pu (.n (.ar .geq)) [(.tmp 18), (ic 1)]), (.some (16, true)), [], .none⟩, (qS 20 (.pick (.tmp 16) (.tmp 19) (.const (.bool false)))), (qS 21 (.mv (.tmp 20))), ⟨(.some 22), (.fieldA 6 (.tmp 1)), (.some (21, true)), [], .none⟩, ⟨(.some 23), (.load 1 false (.tmp 22)), (.some (21, true)), [], .none⟩, ⟨(.some 24), (.pu (.n (.ar .leq)) [(.tmp 23), (ic 8)]), (.some (21, true)), [], .none⟩, (qS 25 (.pick (.tmp 21) (.tmp 24) (.const (.bool false)))), (qS 2 (.mv (.tmp 25)))]) .ret)), [(.tmp 2)]⟩
set_option maxHeartbeats 10000000 in
theorem d_spec_l05MarkOK {P : Program} {env : Env} {f_spec_StampOK : Nat}  (ep_spec_StampOK : env (2 * f_spec_StampOK) = pureFn true (FA fun a : TStamp => p_spec_StampOK a)) (x0 : TMark) {b : Bool} (hp : p_spec_l05MarkOK x0 = some b) : R P env (c_spec_l05MarkOK f_spec_StampOK) ((encA (x0)).map ofI) [] (Tells true b) := by
  refine R_of (by simp [c_spec_l05MarkOK, encA]) ?_
  have E := ep_spec_StampOK
  unfold c_spec_l05MarkOK
  unfold p_spec_l05MarkOK at hp
  obtain ⟨v0, hv0, hp⟩ := bind_eq hp
  by_cases hb1 : (v0) = true
  · rw [if_t hb1] at hp
    obtain ⟨v2, hv2, hp⟩ := bind_eq hp
    by_cases hb3 : (v2) = true
    · rw [if_t hb3] at hp
      obtain ⟨v4, hv4, hp⟩ := bind_eq hp
      by_cases hb5 : (v4) = true
      · rw [if_t hb5] at hp
        by_cases hb6 : (decide (1 ≤ x0.kind)) = true
        · rw [if_t hb6] at hp
          have hp := Option.some.inj hp
          subst hp
          simp (maxSteps := 2000000) (disch := first|omega|(simp only[ls];first|done|omega)) only [E, hv0, hb1, hv2, hb3, hv4, hb5, hb6, gm]
        · replace hb6 := eq_false_of_ne_true hb6
          rw [if_f hb6] at hp
          have hp := Option.some.inj hp
          subst hp
          simp (maxSteps := 2000000) (disch := first|omega|(simp only[ls];first|done|omega)) only [E, hv0, hb1, hv2, hb3, hv4, hb5, hb6, gm]
      · replace hb5 := eq_false_of_ne_true hb5
        rw [if_f hb5] at hp
        have hp := Option.some.inj hp
        subst hp
        simp (maxSteps := 2000000) (disch := first|omega|(simp only[ls];first|done|omega)) only [E, hv0, hb1, hv2, hb3, hv4, hb5, gm]
    · replace hb3 := eq_false_of_ne_true hb3
      rw [if_f hb3] at hp
      have hp := Option.some.inj hp
      subst hp
      simp (maxSteps := 2000000) (disch := first|omega|(simp only[ls];first|done|omega)) only [E, hv0, hb1, hv2, hb3, gm]
  · replace hb1 := eq_false_of_ne_true hb1
    rw [if_f hb1] at hp
    have hp := Option.some.inj hp
    subst hp
    simp (maxSteps := 2000000) (disch := first|omega|(simp only[ls];first|done|omega)) only [E, hv0, hb1, gm]

noncomputable def p_spec_l05Clean_l0 (x1 : List TMark) : Int → Option (Lp (Int) (T3 (List TLCell) (List TMark) Int))
  | s4 =>
    if (decide (s4 < (x1.length : Int))) = true then
      (get? x1 s4).bind fun v6 =>
      (p_spec_l05MarkOK v6).bind fun v7 =>
      if (v7) = true then
        some (.go (w64 (s4 + 1)))
      else
        some (.ret ⟨[], [], 1⟩)
    else
      some (.out s4)
noncomputable def p_spec_l05Clean_l2 (x1 : List TMark) (s10 : List TMark) (s11 : Int) : Bool × Int → Option (Lp (Bool × Int) (T3 (List TLCell) (List TMark) Int))
  | (s13, s14) =>
    if (decide (s14 < (s10.length : Int))) = true then
      (get? s10 s14).bind fun v16 =>
      (get? x1 s11).bind fun v18 =>
      if ((decide (v16.id.time = v18.id.time) && decide (v16.id.actor = v18.id.actor))) = true then
        if ((decide (v16.id.time = v18.id.time) && (decide (v16.id.actor = v18.id.actor) && (decide (v16.from_.time = v18.from_.time) && (decide (v16.from_.actor = v18.from_.actor) && (decide (v16.to.time = v18.to.time) && (decide (v16.to.actor = v18.to.actor) && (decide (v16.kind = v18.kind) && (v16.on == v18.on))))))))) = true then
          some (.go (true, w64 (s14 + 1)))
        else
          some (.ret ⟨[], [], 16⟩)
      else
        some (.go (s13, w64 (s14 + 1)))
    else
      some (.out (s13, s14))
noncomputable def p_spec_l05Clean_l3 (x1 : List TMark) : List TMark × Int → Option (Lp (List TMark × Int) (T3 (List TLCell) (List TMark) Int))
  | (s10, s11) =>
    if (decide (s11 < (x1.length : Int))) = true then
      (loopP (p_spec_l05Clean_l2 x1 s10 s11) (false, 0)).bind fun ee2 => match ee2 with
      | .ret r => some (.ret r)
      | .out (o22, o23) =>
        if (o22) = true then
          some (.go (s10, w64 (s11 + 1)))
        else
          (get? x1 s11).bind fun v25 =>
          (app? 64 s10 ([v25])).bind fun v26 =>
          some (.go (v26, w64 (s11 + 1)))
    else
      some (.out (s10, s11))
noncomputable def p_spec_l05Clean_l4 (v2 : T2 (List TLOp) Int) (o27 : List TMark) : Int → Option (Lp (Int) (T3 (List TLCell) (List TMark) Int))
  | s29 =>
    if (decide (s29 < (o27.length : Int))) = true then
      (get? o27 s29).bind fun v31 =>
      (p_spec_l04Has v2.a v31.from_).bind fun v33 =>
      if (v33) = true then
        (p_spec_l04Has v2.a v31.to).bind fun v36 =>
        if (v36) = true then
          some (.go (w64 (s29 + 1)))
        else
          some (.ret ⟨[], [], 5⟩)
      else
        some (.ret ⟨[], [], 5⟩)
    else
      some (.out s29)
noncomputable def p_spec_l05Clean (x0 : List TLOp) (x1 : List TMark) : Option (T3 (List TLCell) (List TMark) Int) :=
  if (decide (2048 < (x0.length : Int))) = true then
    some ⟨[], [], 2⟩
  else
    if (decide (2048 < (x1.length : Int))) = true then
      some ⟨[], [], 2⟩
    else
      (p_spec_l04Clean x0).bind fun v2 =>
      if (decide (v2.b = 0)) = true then
        (loopP (p_spec_l05Clean_l0 x1) 0).bind fun ee0 => match ee0 with
        | .ret r => some r
        | .out o9 =>
          (loopP (p_spec_l05Clean_l3 x1) (([] : List TMark), 0)).bind fun ee3 => match ee3 with
          | .ret r => some r
          | .out (o27, o28) =>
            (loopP (p_spec_l05Clean_l4 v2 o27) 0).bind fun ee4 => match ee4 with
            | .ret r => some r
            | .out o38 =>
              (p_spec_l04Cells v2.a).bind fun v39 =>
              some ⟨v39, o27, 0⟩
      else
        some ⟨[], [], v2.b⟩
def c_spec_l05Clean (f_spec_l04Clean : Nat) (f_spec_l05MarkOK : Nat) (f_spec_l04Has : Nat) (f_spec_l04Cells : Nat) : AFn := ⟨122, (.seq (.ops [(qS 4 (.vnil 4 true)), (qS 5 (.vnil 8 true)), (qS 6 (.mv (ic 0)))]) (.seq (.seq (.ops [(qS 15 (.mv (.tmp 0))), (qS 16 (.len (.tmp 15))), (qS 17 (.pu (.n (.ar .gtr)) [(.tmp 16), (ic 2048)])), (qS 18 (.mv (.tmp 17))), ⟨(.some 19), (.mv (.tmp 1)), (.some (18, false)), [], .none⟩, ⟨(.some 20), (.len (.tmp 19)), (.some (18, false)), [], .none⟩, ⟨(.some 21), (.pu (.n (.ar .gtr)) [(.tmp 20), (ic 2048)]), (.some (18, false)), [], .none⟩, (qS 22 (.pick (.tmp 18) (.const (.bool true)) (.tmp 21)))]) (.cond (.tmp 22) (.seq (.ops [(qS 23 (.buildSl 4 true 0 [(.int .i64 0), (.int .i64 0), (.int .i64 0), (.bool false)] [])), (qS 24 (.buildSl 8 true 0 [(.int .i64 0), (.int .i64 0), (.int .i64 0), (.int .i64 0), (.int .i64 0), (.int .i64 0), (.int .i64 0), (.bool false)] [])), (qS 4 (.mv (.tmp 23))), (qS 5 (.mv (.tmp 24))), (qS 6 (.mv (ic 2)))]) .ret) .skip)) (.seq (.ops [(qS 26 (.mv (.tmp 0))), (qS 27 (.call (2 * f_spec_l04Clean) [(.tmp 26)])), (qS 25 (.mv (.tmp 27))), (qS 28 (.extract 0 (.tmp 25))), (qS 29 (.extract 1 (.tmp 25))), (qS 7 (.mv (.tmp 28))), (qS 8 (.mv (.tmp 29)))]) (.seq (.seq (.ops [(qS 30 (.mv (.tmp 8))), (qS 31 (.pu (.n (.ar .neq)) [(.tmp 30), (ic 0)]))]) (.cond (.tmp 31) (.seq (.ops [(qS 32 (.buildSl 4 true 0 [(.int .i64 0), (.int .i64 0), (.int .i64 0), (.bool false)] [])), (qS 33 (.buildSl 8 true 0 [(.int .i64 0), (.int .i64 0), (.int .i64 0), (.int .i64 0), (.int .i64 0), (.int .i64 0), (.int .i64 0), (.bool false)] [])), (qS 34 (.mv (.tmp 8))), (qS 4 (.mv (.tmp 32))), (qS 5 (.mv (.tmp 33))), (qS 6 (.mv (.tmp 34)))]) .ret) .skip)) (.seq (.seq (.ops [(qS 9 (.mv (ic 0)))]) (.block 0 (.loop (.seq (.seq (.ops [(qS 35 (.mv (.tmp 9))), (qS 36 (.mv (.tmp 1))), (qS 37 (.len (.tmp 36))), (qS 38 (.pu (.n (.ar .lss)) [(.tmp 35), (.tmp 37)]))]) (.cond (.tmp 38) .skip (.exit 0))) (.seq (.block 1 (.seq (.ops [(qS 41 (.mv (.tmp 1))), (qS 42 (.mv (.tmp 9))), (qS 43 (.idxS 8 (.tmp 41) (.tmp 42))), (qS 44 (.load 8 true (.tmp 43))), (qS 45 (.call (2 * f_spec_l05MarkOK) [(.tmp 44)])), (qS 46 (.pu (.n (.un .not)) [(.tmp 45)]))]) (.cond (.tmp 46) (.seq (.ops [(qS 47 (.buildSl 4 true 0 [(.int .i64 0), (.int .i64 0), (.int .i64 0), (.bool false)] [])), (qS 48 (.buildSl 8 true 0 [(.int .i64 0), (.int .i64 0), (.int .i64 0), (.int .i64 0), (.int .i64 0), (.int .i64 0), (.int .i64 0), (.bool false)] [])), (qS 4 (.mv (.tmp 47))), (qS 5 (.mv (.tmp 48))), (qS 6 (.mv (ic 1)))]) .ret) .skip))) (.ops [(qS 39 (.mv (.tmp 9))), (qS 40 (.pu (.n (.ar .add)) [(.tmp 39), (ic 1)])), (qS 9 (.mv (.tmp 40)))])))))) (.seq (.ops [(qS 49 (.buildSl 8 true 0 [(.int .i64 0), (.int .i64 0), (.int .i64 0), (.int .i64 0), (.int .i64 0), (.int .i64 0), (.int .i64 0), (.bool false)] [])), (qS 10 (.mv (.tmp 49)))]) (.seq (.seq (.ops [(qS 11 (.mv (ic 0)))]) (.block 2 (.loop (.seq (.seq (.ops [(qS 50 (.mv (.tmp 11))), (qS 51 (.mv (.tmp 1))), (qS 52 (.len (.tmp 51))), (qS 53 (.pu (.n (.ar .lss)) [(.tmp 50), (.tmp 52)]))]) (.cond (.tmp 53) .skip (.exit 2))) (.seq (.block 3 (.seq (.ops [(qS 12 (.mv (.const (.bool false))))]) (.seq (.seq (.ops [(qS 13 (.mv (ic 0)))]) (.block 4 (.loop (.seq (.seq (.ops [(qS 56 (.mv (.tmp 13))), (qS 57 (.mv (.tmp 10))), (qS 58 (.len (.tmp 57))), (qS 59 (.pu (.n (.ar .lss)) [(.tmp 56), (.tmp 58)]))]) (.cond (.tmp 59) .skip (.exit 4))) (.seq (.block 5 (.seq (.ops [(qS 62 (.mv (.tmp 10))), (qS 63 (.mv (.tmp 13))), (qS 64 (.idxS 8 (.tmp 62) (.tmp 63))), (qS 65 (.fieldA 0 (.tmp 64))), (qS 66 (.load 2 true (.tmp 65))), (qS 67 (.mv (.tmp 1))), (qS 68 (.mv (.tmp 11))), (qS 69 (.idxS 8 (.tmp 67) (.tmp 68))), (qS 70 (.fieldA 0 (.tmp 69))), (qS 71 (.load 2 true (.tmp 70))), (qS 72 (.aeq false [(.int .i64), (.int .i64)] (.tmp 66) (.tmp 71)))]) (.cond (.tmp 72) (.seq (.seq (.ops [(qS 73 (.mv (.tmp 10))), (qS 74 (.mv (.tmp 13))), (qS 75 (.idxS 8 (.tmp 73) (.tmp 74))), (qS 76 (.load 8 true (.tmp 75))), (qS 77 (.mv (.tmp 1))), (qS 78 (.mv (.tmp 11))), (qS 79 (.idxS 8 (.tmp 77) (.tmp 78))), (qS 80 (.load 8 true (.tmp 79))), (qS 81 (.aeq true [(.int .i64), (.int .i64), (.int .i64), (.int .i64), (.int .i64), (.int .i64), (.int .i64), .bool] (.tmp 76) (.tmp 80)))]) (.cond (.tmp 81) (.seq (.ops [(qS 82 (.buildSl 4 true 0 [(.int .i64 0), (.int .i64 0), (.int .i64 0), (.bool false)] [])), (qS 83 (.buildSl 8 true 0 [(.int .i64 0), (.int .i64 0), (.int .i64 0), (.int .i64 0), (.int .i64 0), (.int .i64 0), (.int .i64 0), (.bool false)] [])), (qS 4 (.mv (.tmp 82))), (qS 5 (.mv (.tmp 83))), (qS 6 (.mv (ic 16)))]) .ret) .skip)) (.ops [(qS 12 (.mv (.const (.bool true))))])) .skip))) (.ops [(qS 60 (.mv (.tmp 13))), (qS 61 (.pu (.n (.ar .add)) [(.tmp 60), (ic 1)])), (qS 13 (.mv (.tmp 61)))])))))) (.seq (.ops [(qS 84 (.mv (.tmp 12))), (qS 85 (.pu (.n (.un .not)) [(.tmp 84)]))]) (.cond (.tmp 85) (.ops [(qS 86 (.mv (.tmp 10))), (qS 87 (.mv (.tmp 1))), (qS 88 (.mv (.tmp 11))), (qS 89 (.idxS 8 (.tmp 87) (.tmp 88))), (qS 90 (.load 8 true (.tmp 89))), (qS 91 (.buildSl 8 true 1 [(.int .i64 0), (.int .i64 0), (.int .i64 0), (.int .i64 0), (.int .i64 0), (.int .i64 0), (.int .i64 0), (.bool false)] [(0, (.tmp 90))])), (qS 92 (.append 8 true 64 (.tmp 86) (.tmp 91))), (qS 10 (.mv (.tmp 92)))]) .skip))))) (.ops [(qS 54 (.mv (.tmp 11))), (qS 55 (.pu (.n (.ar .add)) [(.tmp 54), (ic 1)])), (qS 11 (.mv (.tmp 55)))])))))) (.seq (.seq (.ops [(qS 14 (.mv (ic 0)))]) (.block 6 (.loop (.seq (.seq (.ops [(qS 93 (.mv (.tmp 14))), (qS 94 (.mv (.tmp 10))), (qS 95 (.len (.tmp 94))), (qS 96 (.pu (.n (.ar .lss)) [(.tmp 93), (.tmp 95)]))]) (.cond (.tmp 96) .skip (.exit 6))) (.seq (.block 7 (.seq (.ops [(qS 99 (.mv (.tmp 7))), (qS 100 (.mv (.tmp 10))), (qS 101 (.mv (.tmp 14))), (qS 102 (.idxS 8 (.tmp 100) (.tmp 101))), (qS 103 (.fieldA 2 (.tmp 102))), (qS 104 (.load 2 true (.tmp 103))), (qS 105 (.call (2 * f_spec_l04Has) [(.tmp 99), (.tmp 104)])), (qS 106 (.pu (.n (.un .not)) [(.tmp 105)])), (qS 107 (.mv (.tmp 106))), ⟨(.some 108), (.mv (.tmp 7)), (.some (107, false)), [], .none⟩, ⟨(.some 109), (.mv (.tmp 10)), (.some (107, false)), [], .none⟩, ⟨(.some 110), (.mv (.tmp 14)), (.some (107, false)), [], .none⟩, ⟨(.some 111), (.idxS 8 (.tmp 109) (.tmp 110)), (.some (107, false)), [], .none⟩, ⟨(.some 112), (.fieldA 4 (.tmp 111)), (.some (107, false)), [], .none⟩, ⟨(.some 113), (.load 2 true (.tmp 112)), (.some (107, false)), [], .none⟩, ⟨(.some 114), (.call (2 * f_spec_l04Has) [(.tmp 108), (.tmp 113)]), (.some (107, false)), [], .none⟩, ⟨(.some 115), (.pu (.n (.un .not)) [(.tmp 114)]), (.some (107, false)), [], .none⟩, (qS 116 (.pick (.tmp 107) (.const (.bool true)) (.tmp 115)))]) (.cond (.tmp 116) (.seq (.ops [(qS 117 (.buildSl 4 true 0 [(.int .i64 0), (.int .i64 0), (.int .i64 0), (.bool false)] [])), (qS 118 (.buildSl 8 true 0 [(.int .i64 0), (.int .i64 0), (.int .i64 0), (.int .i64 0), (.int .i64 0), (.int .i64 0), (.int .i64 0), (.bool false)] [])), (qS 4 (.mv (.tmp 117))), (qS 5 (.mv (.tmp 118))), (qS 6 (.mv (ic 5)))]) .ret) .skip))) (.ops [(qS 97 (.mv (.tmp 14))), (qS 98 (.pu (.n (.ar .add)) [(.tmp 97), (ic 1)])), (qS 14 (.mv (.tmp 98)))])))))) (.seq (.ops [(qS 119 (.mv (.tmp 7))), (qS 120 (.call (2 * f_spec_l04Cells) [(.tmp 119)])), (qS 121 (.mv (.tmp 10))), (qS 4 (.mv (.tmp 120))), (qS 5 (.mv (.tmp 121))), (qS 6 (.mv (ic 0)))]) .ret))))))))), [(.tmp 4), (.tmp 5), (.tmp 6)]⟩
set_option maxHeartbeats 10000000 in
theorem d_spec_l05Clean {P : Program} {env : Env} {f_spec_l04Clean : Nat} {f_spec_l05MarkOK : Nat} {f_spec_l04Has : Nat} {f_spec_l04Cells : Nat}  (ep_spec_l04Clean : env (2 * f_spec_l04Clean) = pureFn true (FA fun a : List TLOp => p_spec_l04Clean a)) (ep_spec_l05MarkOK : env (2 * f_spec_l05MarkOK) = pureFn true (FA fun a : TMark => p_spec_l05MarkOK a)) (ep_spec_l04Has : env (2 * f_spec_l04Has) = pureFn true (FA fun a : List TLOp × TStamp => p_spec_l04Has a.1 a.2)) (ep_spec_l04Cells : env (2 * f_spec_l04Cells) = pureFn true (FA fun a : List TLOp => p_spec_l04Cells a)) (x0 : List TLOp) (x1 : List TMark) {b : T3 (List TLCell) (List TMark) Int} (hp : p_spec_l05Clean x0 x1 = some b) : R P env (c_spec_l05Clean f_spec_l04Clean f_spec_l05MarkOK f_spec_l04Has f_spec_l04Cells) ((encA (x0, x1)).map ofI) [] (Tells false b) := by
  refine R_of (by simp [c_spec_l05Clean, encA]) ?_
  have E := And.intro ep_spec_l04Clean (And.intro ep_spec_l05MarkOK (And.intro ep_spec_l04Has ep_spec_l04Cells))
  unfold c_spec_l05Clean
  unfold p_spec_l05Clean at hp
  by_cases hb0 : (decide (2048 < (x0.length : Int))) = true
  · rw [if_t hb0] at hp
    have hp := Option.some.inj hp
    subst hp
    simp (maxSteps := 2000000) (disch := first|omega|(simp only[ls];first|done|omega)) only [E, hb0, gm]
  · replace hb0 := eq_false_of_ne_true hb0
    rw [if_f hb0] at hp
    by_cases hb1 : (decide (2048 < (x1.length : Int))) = true
    · rw [if_t hb1] at hp
      have hp := Option.some.inj hp
      subst hp
      simp (maxSteps := 2000000) (disch := first|omega|(simp only[ls];first|done|omega)) only [E, hb0, hb1, gm]
    · replace hb1 := eq_false_of_ne_true hb1
      rw [if_f hb1] at hp
      obtain ⟨v2, hv2, hp⟩ := bind_eq hp
      by_cases hb3 : (decide (v2.b = 0)) = true
      · rw [if_t hb3] at hp
        obtain ⟨ee0, hee0, hp⟩ := bind_eq hp
        simp (maxSteps := 2000000) (disch := first|omega|(simp only[ls];first|done|omega)) only [E, hb0, hb1, hv2, hb3, gm]
        refine W_loopP 0 (fun s t h => match s with | s4 => t 1 = .i (.sl 8 (x1.map enc)) ∧ t 7 = .i (.sl 6 (v2.a.map enc)) ∧ t 9 = .i (.s (.int .i64 s4))) (RK [.tmp 4, .tmp 5, .tmp 6] (Tells false)) ?_ hee0 ?_ ?_
        · rintro s4 ee tt0 hh0 ⟨ftt0_0, ftt0_1, ftt0_2⟩ hp
          rw [p_spec_l05Clean_l0] at hp
          by_cases hb5 : (decide (s4 < (x1.length : Int))) = true
          · rw [if_t hb5] at hp
            obtain ⟨v6, hv6, hp⟩ := bind_eq hp
            obtain ⟨v7, hv7, hp⟩ := bind_eq hp
            by_cases hb8 : (v7) = true
            · rw [if_t hb8] at hp
              have hp := Option.some.inj hp
              subst hp
              simp (maxSteps := 2000000) (disch := first|omega|(simp only[ls];first|done|omega)) only [E, hb0, hb1, hv2, hb3, ftt0_0, ftt0_1, ftt0_2, hb5, hv6, hv7, hb8, gm] <;> omega
            · replace hb8 := eq_false_of_ne_true hb8
              rw [if_f hb8] at hp
              have hp := Option.some.inj hp
              subst hp
              simp (maxSteps := 2000000) (disch := first|omega|(simp only[ls];first|done|omega)) only [E, hb0, hb1, hv2, hb3, ftt0_0, ftt0_1, ftt0_2, hb5, hv6, hv7, hb8, gm]
          · replace hb5 := eq_false_of_ne_true hb5
            rw [if_f hb5] at hp
            have hp := Option.some.inj hp
            subst hp
            simp (maxSteps := 2000000) (disch := first|omega|(simp only[ls];first|done|omega)) only [E, hb0, hb1, hv2, hb3, ftt0_0, ftt0_1, ftt0_2, hb5, gm] <;> omega
        · simp (maxSteps := 2000000) (disch := first|omega|(simp only[ls];first|done|omega)) only [E, hb0, hb1, hv2, hb3, gm] <;> omega
        · intro x tt1 hh1 hx
          rcases ee0 with o9 | r
          · obtain ⟨rfl, ftt1_0, ftt1_1, ftt1_2⟩ := hx
            dsimp only at hp
            obtain ⟨ee3, hee3, hp⟩ := bind_eq hp
            simp (maxSteps := 2000000) (disch := first|omega|(simp only[ls];first|done|omega)) only [E, hb0, hb1, hv2, hb3, ftt1_0, ftt1_1, ftt1_2, gm]
            refine W_loopP 2 (fun s t h => match s with | (s10, s11) => t 1 = .i (.sl 8 (x1.map enc)) ∧ t 7 = .i (.sl 6 (v2.a.map enc)) ∧ t 10 = .hsl hh1.length (s10.length * 8) 0 8 true s10.length ∧ t 11 = .i (.s (.int .i64 s11)) ∧ getCells h hh1.length (s10.length * 8) = some (rows (s10 : List TMark)) ∧ hh1.length < h.length) (RK [.tmp 4, .tmp 5, .tmp 6] (Tells false)) ?_ hee3 ?_ ?_
            · rintro ⟨s10, s11⟩ ee tt2 hh2 ⟨ftt2_0, ftt2_1, ftt2_2, ftt2_3, ftt2_4, ftt2_5⟩ hp
              rw [p_spec_l05Clean_l3] at hp
              by_cases hb12 : (decide (s11 < (x1.length : Int))) = true
              · rw [if_t hb12] at hp
                obtain ⟨ee2, hee2, hp⟩ := bind_eq hp
                simp (maxSteps := 2000000) (disch := first|omega|(simp only[ls];first|done|omega)) only [E, hb0, hb1, hv2, hb3, ftt1_0, ftt1_1, ftt1_2, ftt2_0, ftt2_1, ftt2_2, ftt2_3, ftt2_4, ftt2_5, hb12, gm]
                refine W_loopP 4 (fun s t h => match s with | (s13, s14) => t 1 = .i (.sl 8 (x1.map enc)) ∧ t 7 = .i (.sl 6 (v2.a.map enc)) ∧ t 10 = .hsl hh1.length (s10.length * 8) 0 8 true s10.length ∧ t 11 = .i (.s (.int .i64 s11)) ∧ t 12 = .i (.s (.bool s13)) ∧ t 13 = .i (.s (.int .i64 s14)) ∧ getCells h hh1.length (s10.length * 8) = some (rows (s10 : List TMark)) ∧ hh1.length < h.length) (RK [.tmp 4, .tmp 5, .tmp 6] (Tells false)) ?_ hee2 ?_ ?_
                · rintro ⟨s13, s14⟩ ee tt3 hh3 ⟨ftt3_0, ftt3_1, ftt3_2, ftt3_3, ftt3_4, ftt3_5, ftt3_6, ftt3_7⟩ hp
                  rw [p_spec_l05Clean_l2] at hp
                  by_cases hb15 : (decide (s14 < (s10.length : Int))) = true
                  · rw [if_t hb15] at hp
                    obtain ⟨v16, hv16, hp⟩ := bind_eq hp
                    have gv16 := get_some hv16
                    have hl17 : List.take 2 (List.drop (s14.toNat * 8) (rows s10)) = [.i (.s (.int .i64 v16.id.time)), .i (.s (.int .i64 v16.id.actor))] := by simpa [zs, cellsV, I.cells, enc_TMark] using rows_get_off (k := 0) (m := 2) gv16.2.2 (Nat.le_of_ble_eq_true rfl)
                    obtain ⟨v18, hv18, hp⟩ := bind_eq hp
                    by_cases hb19 : ((decide (v16.id.time = v18.id.time) && decide (v16.id.actor = v18.id.actor))) = true
                    · rw [if_t hb19] at hp
                      have hl20 : List.take 8 (List.drop (s14.toNat * 8) (rows s10)) = [.i (.s (.int .i64 v16.id.time)), .i (.s (.int .i64 v16.id.actor)), .i (.s (.int .i64 v16.from_.time)), .i (.s (.int .i64 v16.from_.actor)), .i (.s (.int .i64 v16.to.time)), .i (.s (.int .i64 v16.to.actor)), .i (.s (.int .i64 v16.kind)), .i (.s (.bool v16.on))] := by simpa [zs, cellsV, I.cells, enc_TMark] using rows_get_off (k := 0) (m := 8) gv16.2.2 (Nat.le_of_ble_eq_true rfl)
                      by_cases hb21 : ((decide (v16.id.time = v18.id.time) && (decide (v16.id.actor = v18.id.actor) && (decide (v16.from_.time = v18.from_.time) && (decide (v16.from_.actor = v18.from_.actor) && (decide (v16.to.time = v18.to.time) && (decide (v16.to.actor = v18.to.actor) && (decide (v16.kind = v18.kind) && (v16.on == v18.on))))))))) = true
                      · rw [if_t hb21] at hp
                        have hp := Option.some.inj hp
                        subst hp
                        simp (maxSteps := 2000000) (disch := first|omega|(simp only[ls];first|done|omega)) only [E, hb0, hb1, hv2, hb3, ftt1_0, ftt1_1, ftt1_2, ftt2_0, ftt2_1, ftt2_2, ftt2_3, ftt2_4, ftt2_5, hb12, ftt3_0, ftt3_1, ftt3_2, ftt3_3, ftt3_4, ftt3_5, ftt3_6, ftt3_7, hb15, hv16, (gv16).1, (gv16).2.1, hl17, hv18, hb19, hl20, hb21, gm] <;> omega
                      · replace hb21 := eq_false_of_ne_true hb21
                        rw [if_f hb21] at hp
                        have hp := Option.some.inj hp
                        subst hp
                        simp (maxSteps := 2000000) (disch := first|omega|(simp only[ls];first|done|omega)) only [E, hb0, hb1, hv2, hb3, ftt1_0, ftt1_1, ftt1_2, ftt2_0, ftt2_1, ftt2_2, ftt2_3, ftt2_4, ftt2_5, hb12, ftt3_0, ftt3_1, ftt3_2, ftt3_3, ftt3_4, ftt3_5, ftt3_6, ftt3_7, hb15, hv16, (gv16).1, (gv16).2.1, hl17, hv18, hb19, hl20, hb21, gm]
                    · replace hb19 := eq_false_of_ne_true hb19
                      rw [if_f hb19] at hp
                      have hp := Option.some.inj hp
                      subst hp
                      simp (maxSteps := 2000000) (disch := first|omega|(simp only[ls];first|done|omega)) only [E, hb0, hb1, hv2, hb3, ftt1_0, ftt1_1, ftt1_2, ftt2_0, ftt2_1, ftt2_2, ftt2_3, ftt2_4, ftt2_5, hb12, ftt3_0, ftt3_1, ftt3_2, ftt3_3, ftt3_4, ftt3_5, ftt3_6, ftt3_7, hb15, hv16, (gv16).1, (gv16).2.1, hl17, hv18, hb19, gm] <;> omega
                  · replace hb15 := eq_false_of_ne_true hb15
                    rw [if_f hb15] at hp
                    have hp := Option.some.inj hp
                    subst hp
                    simp (maxSteps := 2000000) (disch := first|omega|(simp only[ls];first|done|omega)) only [E, hb0, hb1, hv2, hb3, ftt1_0, ftt1_1, ftt1_2, ftt2_0, ftt2_1, ftt2_2, ftt2_3, ftt2_4, ftt2_5, hb12, ftt3_0, ftt3_1, ftt3_2, ftt3_3, ftt3_4, ftt3_5, ftt3_6, ftt3_7, hb15, gm] <;> omega
                · simp (maxSteps := 2000000) (disch := first|omega|(simp only[ls];first|done|omega)) only [E, hb0, hb1, hv2, hb3, ftt1_0, ftt1_1, ftt1_2, ftt2_0, ftt2_1, ftt2_2, ftt2_3, ftt2_4, ftt2_5, hb12, gm] <;> omega
                · intro x tt4 hh4 hx
                  rcases ee2 with ⟨o22, o23⟩ | r
                  · obtain ⟨rfl, ftt4_0, ftt4_1, ftt4_2, ftt4_3, ftt4_4, ftt4_5, ftt4_6, ftt4_7⟩ := hx
                    dsimp only at hp
                    by_cases hb24 : (o22) = true
                    · rw [if_t hb24] at hp
                      have hp := Option.some.inj hp
                      subst hp
                      simp (maxSteps := 2000000) (disch := first|omega|(simp only[ls];first|done|omega)) only [E, hb0, hb1, hv2, hb3, ftt1_0, ftt1_1, ftt1_2, ftt2_0, ftt2_1, ftt2_2, ftt2_3, ftt2_4, ftt2_5, hb12, ftt4_0, ftt4_1, ftt4_2, ftt4_3, ftt4_4, ftt4_5, ftt4_6, ftt4_7, hb24, gm] <;> omega
                    · replace hb24 := eq_false_of_ne_true hb24
                      rw [if_f hb24] at hp
                      obtain ⟨v25, hv25, hp⟩ := bind_eq hp
                      obtain ⟨v26, hv26, hp⟩ := bind_eq hp
                      obtain ⟨kv26, qv26, lv26⟩ := app_some hv26
                      have rv26 : rows s10 ++ [.i (.s (.int .i64 v25.id.time)), .i (.s (.int .i64 v25.id.actor)), .i (.s (.int .i64 v25.from_.time)), .i (.s (.int .i64 v25.from_.actor)), .i (.s (.int .i64 v25.to.time)), .i (.s (.int .i64 v25.to.actor)), .i (.s (.int .i64 v25.kind)), .i (.s (.bool v25.on))] = rows v26 := by rw [qv26, rows_append]; rfl
                      have mv26 : s10.length + 1 = v26.length := by simp at lv26; omega
                      have nv26 : (s10.length + 1) * 64 ≤ 140737488355328 := by simp at kv26; omega
                      have hp := Option.some.inj hp
                      subst hp
                      simp (maxSteps := 2000000) (disch := first|omega|(simp only[ls];first|done|omega)) only [E, hb0, hb1, hv2, hb3, ftt1_0, ftt1_1, ftt1_2, ftt2_0, ftt2_1, ftt2_2, ftt2_3, ftt2_4, ftt2_5, hb12, ftt4_0, ftt4_1, ftt4_2, ftt4_3, ftt4_4, ftt4_5, ftt4_6, ftt4_7, hb24, hv25, hv26, rv26, nv26, gm] <;> omega
                  · obtain ⟨rfl, hx⟩ := hx
                    dsimp only at hp
                    cases hp
                    simp only [seqK_ret, blockK_ret, retK_RK (K := Tells false), hx, and_self, true_and]
              · replace hb12 := eq_false_of_ne_true hb12
                rw [if_f hb12] at hp
                have hp := Option.some.inj hp
                subst hp
                simp (maxSteps := 2000000) (disch := first|omega|(simp only[ls];first|done|omega)) only [E, hb0, hb1, hv2, hb3, ftt1_0, ftt1_1, ftt1_2, ftt2_0, ftt2_1, ftt2_2, ftt2_3, ftt2_4, ftt2_5, hb12, gm] <;> omega
            · simp (maxSteps := 2000000) (disch := first|omega|(simp only[ls];first|done|omega)) only [E, hb0, hb1, hv2, hb3, ftt1_0, ftt1_1, ftt1_2, gm] <;> omega
            · intro x tt5 hh5 hx
              rcases ee3 with ⟨o27, o28⟩ | r
              · obtain ⟨rfl, ftt5_0, ftt5_1, ftt5_2, ftt5_3, ftt5_4, ftt5_5⟩ := hx
                dsimp only at hp
                obtain ⟨ee4, hee4, hp⟩ := bind_eq hp
                simp (maxSteps := 2000000) (disch := first|omega|(simp only[ls];first|done|omega)) only [E, hb0, hb1, hv2, hb3, ftt1_0, ftt1_1, ftt1_2, ftt5_0, ftt5_1, ftt5_2, ftt5_3, ftt5_4, ftt5_5, gm]
                refine W_loopP 6 (fun s t h => match s with | s29 => t 7 = .i (.sl 6 (v2.a.map enc)) ∧ t 10 = .hsl hh1.length (o27.length * 8) 0 8 true o27.length ∧ t 14 = .i (.s (.int .i64 s29)) ∧ getCells h hh1.length (o27.length * 8) = some (rows (o27 : List TMark)) ∧ hh1.length < h.length) (RK [.tmp 4, .tmp 5, .tmp 6] (Tells false)) ?_ hee4 ?_ ?_
                · rintro s29 ee tt6 hh6 ⟨ftt6_0, ftt6_1, ftt6_2, ftt6_3, ftt6_4⟩ hp
                  rw [p_spec_l05Clean_l4] at hp
                  by_cases hb30 : (decide (s29 < (o27.length : Int))) = true
                  · rw [if_t hb30] at hp
                    obtain ⟨v31, hv31, hp⟩ := bind_eq hp
                    have gv31 := get_some hv31
                    have hl32 : List.take 2 (List.drop (s29.toNat * 8 + 2) (rows o27)) = [.i (.s (.int .i64 v31.from_.time)), .i (.s (.int .i64 v31.from_.actor))] := by simpa [zs, cellsV, I.cells, enc_TMark] using rows_get_off (k := 2) (m := 2) gv31.2.2 (Nat.le_of_ble_eq_true rfl)
                    obtain ⟨v33, hv33, hp⟩ := bind_eq hp
                    by_cases hb34 : (v33) = true
                    · rw [if_t hb34] at hp
                      have hl35 : List.take 2 (List.drop (s29.toNat * 8 + 4) (rows o27)) = [.i (.s (.int .i64 v31.to.time)), .i (.s (.int .i64 v31.to.actor))] := by simpa [zs, cellsV, I.cells, enc_TMark] using rows_get_off (k := 4) (m := 2) gv31.2.2 (Nat.le_of_ble_eq_true rfl)
                      obtain ⟨v36, hv36, hp⟩ := bind_eq hp
                      by_cases hb37 : (v36) = true
                      · rw [if_t hb37] at hp
                        have hp := Option.some.inj hp
                        subst hp
                        simp (maxSteps := 2000000) (disch := first|omega|(simp only[ls];first|done|omega)) only [E, hb0, hb1, hv2, hb3, ftt1_0, ftt1_1, ftt1_2, ftt5_0, ftt5_1, ftt5_2, ftt5_3, ftt5_4, ftt5_5, ftt6_0, ftt6_1, ftt6_2, ftt6_3, ftt6_4, hb30, hv31, (gv31).1, (gv31).2.1, hl32, hv33, hb34, hl35, hv36, hb37, gm] <;> omega
                      · replace hb37 := eq_false_of_ne_true hb37
                        rw [if_f hb37] at hp
                        have hp := Option.some.inj hp
                        subst hp
                        simp (maxSteps := 2000000) (disch := first|omega|(simp only[ls];first|done|omega)) only [E, hb0, hb1, hv2, hb3, ftt1_0, ftt1_1, ftt1_2, ftt5_0, ftt5_1, ftt5_2, ftt5_3, ftt5_4, ftt5_5, ftt6_0, ftt6_1, ftt6_2, ftt6_3, ftt6_4, hb30, hv31, (gv31).1, (gv31).2.1, hl32, hv33, hb34, hl35, hv36, hb37, gm]
                    · replace hb34 := eq_false_of_ne_true hb34
                      rw [if_f hb34] at hp
                      have hp := Option.some.inj hp
                      subst hp
                      simp (maxSteps := 2000000) (disch := first|omega|(simp only[ls];first|done|omega)) only [E, hb0, hb1, hv2, hb3, ftt1_0, ftt1_1, ftt1_2, ftt5_0, ftt5_1, ftt5_2, ftt5_3, ftt5_4, ftt5_5, ftt6_0, ftt6_1, ftt6_2, ftt6_3, ftt6_4, hb30, hv31, (gv31).1, (gv31).2.1, hl32, hv33, hb34, gm]
                  · replace hb30 := eq_false_of_ne_true hb30
                    rw [if_f hb30] at hp
                    have hp := Option.some.inj hp
                    subst hp
                    simp (maxSteps := 2000000) (disch := first|omega|(simp only[ls];first|done|omega)) only [E, hb0, hb1, hv2, hb3, ftt1_0, ftt1_1, ftt1_2, ftt5_0, ftt5_1, ftt5_2, ftt5_3, ftt5_4, ftt5_5, ftt6_0, ftt6_1, ftt6_2, ftt6_3, ftt6_4, hb30, gm] <;> omega
                · simp (maxSteps := 2000000) (disch := first|omega|(simp only[ls];first|done|omega)) only [E, hb0, hb1, hv2, hb3, ftt1_0, ftt1_1, ftt1_2, ftt5_0, ftt5_1, ftt5_2, ftt5_3, ftt5_4, ftt5_5, gm] <;> omega
                · intro x tt7 hh7 hx
                  rcases ee4 with o38 | r
                  · obtain ⟨rfl, ftt7_0, ftt7_1, ftt7_2, ftt7_3, ftt7_4⟩ := hx
                    dsimp only at hp
                    obtain ⟨v39, hv39, hp⟩ := bind_eq hp
                    have hp := Option.some.inj hp
                    subst hp
                    simp (maxSteps := 2000000) (disch := first|omega|(simp only[ls];first|done|omega)) only [E, hb0, hb1, hv2, hb3, ftt1_0, ftt1_1, ftt1_2, ftt5_0, ftt5_1, ftt5_2, ftt5_3, ftt5_4, ftt5_5, ftt7_0, ftt7_1, ftt7_2, ftt7_3, ftt7_4, hv39, gm]
                  · obtain ⟨rfl, hx⟩ := hx
                    dsimp only at hp
                    cases hp
                    simp only [seqK_ret, blockK_ret, retK_RK (K := Tells false), hx, and_self, true_and]
              · obtain ⟨rfl, hx⟩ := hx
                dsimp only at hp
                cases hp
                simp only [seqK_ret, blockK_ret, retK_RK (K := Tells false), hx, and_self, true_and]
          · obtain ⟨rfl, hx⟩ := hx
            dsimp only at hp
            cases hp
            simp only [seqK_ret, blockK_ret, retK_RK (K := Tells false), hx, and_self, true_and]
      · replace hb3 := eq_false_of_ne_true hb3
        rw [if_f hb3] at hp
        have hp := Option.some.inj hp
        subst hp
        simp (maxSteps := 2000000) (disch := first|omega|(simp only[ls];first|done|omega)) only [E, hb0, hb1, hv2, hb3, gm]

end Go.AM
